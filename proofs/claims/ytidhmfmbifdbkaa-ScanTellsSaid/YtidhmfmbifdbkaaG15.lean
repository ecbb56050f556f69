/- ScanTells answers true. -/
import Derived.Test.YtidhmfmbifdbkaaE26
set_option linter.unusedVariables false
set_option linter.unusedSimpArgs false
set_option maxRecDepth 100000
set_option maxHeartbeats 1000000
namespace Go.Hog
open Go.RowKit Rp Go.Proofs
theorem scanTells {w : World} {f : View} (hv : On f w) (hm : ML f) {s u : Str} (hs0 : s.length ≤ LB) (hu0 : u.length ≤ LB) {A : Option Addr} {c : Nat} {names : List Str} (hn : Sl f A c names) {A2 : Option Addr} {c2 : Nat} {t : List Node} (ht : Sl f A2 c2 t) :
    Con Try.prog 4 [str s, str u, .slice A names.length c, .slice A2 t.length c2] w (Ret w f fun _ v => v = .bool true) := by
  refine enterC hv Try.call4 Try.func4 ?_
  refine sgE ?_
  refine sq (sg ?_)
  refine Go.Hog.gt (fun h1 => ?_) (fun h1 => ?_)
  · refine runE ?_
    refine cT (sg ?_)
    refine callV (.bool true) (vs := []) (fun w g hs _ hon => awake8 hon (hm.mono hs)) ?_
    refine runE ?_
    refine ew_ret ?_
    exact ret1 rfl
  refine Go.Hog.gt (fun h2 => ?_) (fun h2 => ?_)
  · refine runE ?_
    refine cT (sg ?_)
    refine callV (.bool true) (vs := []) (fun w g hs _ hon => awake8 hon (hm.mono hs)) ?_
    refine runE ?_
    refine ew_ret ?_
    exact ret1 rfl
  refine callB (p := GreatT names 12 100) (vs := [.slice A names.length c, i64 12, i64 100]) (fun w g hs _ hon => greatTexts hon (hn.mono hs)) (fun h3 => ?_) (fun h3 => ?_)
  · refine runE ?_
    refine cT (sg ?_)
    refine callV (.bool true) (vs := []) (fun w g hs _ hon => awake8 hon (hm.mono hs)) ?_
    refine runE ?_
    refine ew_ret ?_
    exact ret1 rfl
  refine callB (p := GreatN t 30) (vs := [.slice A2 t.length c2, i64 30]) (fun w g hs _ hon => greatNodes hon (ht.mono hs)) (fun h4 => ?_) (fun h4 => ?_)
  · refine runE ?_
    refine cT (sg ?_)
    refine callV (.bool true) (vs := []) (fun w g hs _ hon => awake8 hon (hm.mono hs)) ?_
    refine runE ?_
    refine ew_ret ?_
    exact ret1 rfl
  refine runE ?_
  refine cFs ?_
  have q1 : s.length < 4294967281 := by omega
  have h12 : names.length ≤ 12 := by
    by_cases e : (12 : Int) < names.length
    · exact absurd (.inl e) h3
    · omega
  have hnb : ∀ x ∈ names, x.length ≤ LB := fun x hx => by
    by_cases e : (100 : Int) < x.length
    · exact absurd (.inr ⟨x, hx, e⟩) h3
    · unfold LB; omega
  have hd : ∀ x ∈ t, x.data.length < 4294967281 := fun x hx => by
    by_cases e : 500 < x.data.length
    · exact absurd (.inr ⟨x, hx, .inr e⟩) h4
    · omega
  have hpl := places_len s u
  have hpb : ∀ n ∈ placesI s u, -9223372036854775808 ≤ n ∧ n ≤ 9223372036854775807 := fun n hn' => by
    obtain ⟨j, rfl, _, h5, _⟩ := mem_places.1 hn'
    omega
  have htb : ∀ p : Str → Bool, ∀ x ∈ foundL names p, x.length ≤ LB := fun p x hx => hnb x (foundL_sub hx)
  have htl : ∀ p : Str → Bool, (foundL names p).length ≤ 12 := fun p => Nat.le_trans (foundL_len _ _) h12
  have hpL : (placesI s u).length ≤ LB := by unfold LB; omega
  have htL : ∀ p : Str → Bool, (foundL names p).length ≤ LB := fun p => Nat.le_trans (htl p) (by decide)
  refine efg [(0, str s), (1, str u), (2, .slice A names.length c), (3, .slice A2 t.length c2)] [] fun ρ => ?_
  refine sg ?_
  refine callM0 (vs := [.slice A names.length c]) [] (fun w hon hgi => lendTexts hon hn (by omega)) (fun v g L' hs hR => ?_)
  obtain ⟨b9, c9, cs9, rfl, rfl, hL9⟩ := hR
  refine runE ?_
  refine efrz 0 fun g1 hs1 hq9 => ?_
  have hm1 := (hm.mono hs).mono hs1
  have hn1 := (hn.mono hs).mono hs1
  have ht1 := (ht.mono hs).mono hs1
  have hl1 := hL9.sl hq9 hnb (by unfold LB; omega)
  refine efg [(9, .slice (some ⟨b9, 0, none⟩) names.length c9), (0, str s), (1, str u), (2, .slice A names.length c), (3, .slice A2 t.length c2)] [] fun ρ => ?_
  refine sg ?_
  refine callMo (vs := [str s, str u]) (R := fun L' v => ∃ A' c', v = .slice A' (placesI s u).length c' ∧ L' = [iRow A' c' (placesI s u)]) (fun w g hs hsn hon => scanPlaces hon (hm1.mono hs) q1) (fun v L' hR => ?_)
  obtain ⟨A10, c10, rfl, rfl⟩ := hR
  refine callMo (vs := [str s, .slice (some ⟨b9, 0, none⟩) names.length c9]) (R := fun L' v => ∃ A' c', v = .slice A' (textL s names).length c' ∧ L' = [sRow A' c' (textL s names)]) (fun w g hs hsn hon => scanText hon (hm1.mono hs) q1 (hl1.mono hs) h12) (fun v L' hR => ?_)
  obtain ⟨A11, c11, rfl, rfl⟩ := hR
  refine callMo (vs := [.slice A2 t.length c2, .slice (some ⟨b9, 0, none⟩) names.length c9]) (R := fun L' v => ∃ A' c', v = .slice A' (treeL t names).length c' ∧ L' = [sRow A' c' (treeL t names)]) (fun w g hs hsn hon => scanTree hon (hm1.mono hs) (ht1.mono hs) hd (hl1.mono hs) h12) (fun v L' hR => ?_)
  obtain ⟨A12, c12, rfl, rfl⟩ := hR
  refine runE ?_
  refine efg [(10, .slice A10 (placesI s u).length c10), (11, .slice A11 (textL s names).length c11), (12, .slice A12 (treeL t names).length c12), (9, .slice (some ⟨b9, 0, none⟩) names.length c9), (0, str s), (1, str u), (2, .slice A names.length c), (3, .slice A2 t.length c2)] [sRow A12 c12 (treeL t names), sRow A11 c11 (textL s names), iRow A10 c10 (placesI s u)] fun ρ => ?_
  refine sg ?_
  refine callMo (vs := [str s, str u]) (R := fun L' v => ∃ A' c', v = .slice A' (placesI s u).length c' ∧ L' = [iRow A' c' (placesI s u)]) (fun w g hs hsn hon => ref8Places hon q1 hu0) (fun v L' hR => ?_)
  obtain ⟨A45, c45, rfl, rfl⟩ := hR
  refine callV (.bool true) (vs := [.slice A10 (placesI s u).length c10, .slice A45 (placesI s u).length c45]) (fun w g' hs' hsn hon => sameI hon (Sl.ofInts (hsn _ (.tail _ (.tail _ (.tail _ (.head _))))) hpb hpL) (Sl.ofInts (hsn _ (.head _)) hpb hpL)) ?_
  refine callMo (vs := [str s, .slice A names.length c]) (R := fun L' v => ∃ A' c', v = .slice A' (textL s names).length c' ∧ L' = [sRow A' c' (textL s names)]) (fun w g hs hsn hon => ref8Text hon q1 (hn1.mono hs) h12) (fun v L' hR => ?_)
  obtain ⟨A51, c51, rfl, rfl⟩ := hR
  refine callV (.bool true) (vs := [.slice A11 (textL s names).length c11, .slice A51 (textL s names).length c51]) (fun w g' hs' hsn hon => sameT hon (Sl.ofTexts (hsn _ (.tail _ (.tail _ (.tail _ (.head _))))) rfl (htb _) (htL _)) (Sl.ofTexts (hsn _ (.head _)) rfl (htb _) (htL _))) ?_
  refine callMo (vs := [.slice A2 t.length c2, .slice A names.length c]) (R := fun L' v => ∃ A' c', v = .slice A' (treeL t names).length c' ∧ L' = [sRow A' c' (treeL t names)]) (fun w g hs hsn hon => ref8Tree hon (ht1.mono hs) hd (hn1.mono hs) h12) (fun v L' hR => ?_)
  obtain ⟨A58, c58, rfl, rfl⟩ := hR
  refine callV (.bool true) (vs := [.slice A12 (treeL t names).length c12, .slice A58 (treeL t names).length c58]) (fun w g' hs' hsn hon => sameT hon (Sl.ofTexts (hsn _ (.tail _ (.tail _ (.tail _ (.head _))))) rfl (htb _) (htL _)) (Sl.ofTexts (hsn _ (.head _)) rfl (htb _) (htL _))) ?_
  refine callV (.bool (decide (hasL s u))) (vs := [str s, str u]) (fun w g hs hsn hon => scanHas hon (hm1.mono hs) q1) ?_
  refine callMo (vs := [str s, str u]) (R := fun L' v => ∃ A' c', v = .slice A' (placesI s u).length c' ∧ L' = [iRow A' c' (placesI s u)]) (fun w g hs hsn hon => ref8Places hon q1 hu0) (fun v L' hR => ?_)
  obtain ⟨A67, c67, rfl, rfl⟩ := hR
  have fin : ∀ b : Bool, b = decide (hasL s u) → (decide (hasL s u) == b) = true := fun b hb => by rw [hb]; simp
  refine Go.Hog.gt (fun h5 => ?_) (fun h5 => ?_)
  all_goals refine eqBo ?_
  all_goals first | rw [fin true (decide_eq_true (places_has.1 (show 0 < (placesI s u).length by omega))).symm] | rw [fin false (decide_eq_false fun e => h5 (by have := places_has.2 e; omega)).symm]
  all_goals refine runE ?_
  all_goals refine ewL (L' := [sRow A12 c12 (treeL t names), sRow A11 c11 (textL s names), iRow A10 c10 (placesI s u)]) (fun _ h => h.sublist (.cons _ (.cons _ (.cons _ (.cons _ (List.Sublist.refl _)))))) ?_
  all_goals refine efg [(13, .bool true), (10, .slice A10 (placesI s u).length c10), (11, .slice A11 (textL s names).length c11), (12, .slice A12 (treeL t names).length c12), (9, .slice (some ⟨b9, 0, none⟩) names.length c9), (2, .slice A names.length c)] [sRow A12 c12 (treeL t names), sRow A11 c11 (textL s names), iRow A10 c10 (placesI s u)] fun ρ => ?_
  all_goals refine eperm (L' := [iRow A10 c10 (placesI s u), sRow A11 c11 (textL s names), sRow A12 c12 (treeL t names)]) (List.reverse_perm [sRow A12 c12 (treeL t names), sRow A11 c11 (textL s names), iRow A10 c10 (placesI s u)]).symm ?_
  all_goals refine sg ?_
  all_goals refine callM [iRow A10 c10 (placesI s u)] [sRow A11 c11 (textL s names), sRow A12 c12 (treeL t names)] (vs := [.slice A10 (placesI s u).length c10]) (fun w hon hg => overIs hon (by omega) hg) (fun v g2 L' hs2 hR => ?_)
  all_goals obtain rfl : L' = [] := hR
  all_goals refine runE ?_
  all_goals refine sg ?_
  all_goals refine callM [sRow A11 c11 (textL s names)] [sRow A12 c12 (treeL t names)] (vs := [.slice A11 (textL s names).length c11]) (fun w hon hg => overTs hon (by have := htl (fun h => decide (hasL s h)); unfold textL; omega) hg) (fun v g3 L' hs3 hR => ?_)
  all_goals obtain rfl : L' = [] := hR
  all_goals refine runE ?_
  all_goals refine sg ?_
  all_goals refine callM [sRow A12 c12 (treeL t names)] [] (vs := [.slice A12 (treeL t names).length c12]) (fun w hon hg => overTs hon (by have := htl (treeHas t); unfold treeL; omega) hg) (fun v g4 L' hs4 hR => ?_)
  all_goals obtain rfl : L' = [] := hR
  all_goals refine runE ?_
  all_goals have hsAll : Sub g1 g4 := (hs2.trans hs3).trans hs4
  all_goals have hq4 : (HE.blk b9 (.cells ⟨cs9⟩ 9)).seen g4 := hsAll _ _ hq9
  all_goals refine sg ?_
  all_goals refine callV (.bool true) (vs := [.slice (some ⟨b9, 0, none⟩) names.length c9, .slice A names.length c]) (fun w g hs hsn hon => keptTexts hon hL9 (hs _ _ hq4) ((hn1.mono hsAll).mono hs) (by omega) hnb) ?_
  all_goals refine callV (.bool true) (vs := []) (fun w g hs _ hon => awake8 hon ((hm1.mono hsAll).mono hs)) ?_
  all_goals refine runE ?_
  all_goals refine ew_ret ?_
  all_goals exact ret1 rfl
end Go.Hog
