/- ClosureReach answers true. -/
import Derived.Test.YtjjlfbpmbleabaaDoorCD
set_option linter.unusedVariables false
set_option linter.unusedSimpArgs false
set_option maxRecDepth 100000
set_option maxHeartbeats 1000000
namespace Go.Hog
open Go.RowKit Rp Go.Proofs
theorem great_fit {a : List Item} (h : ¬ GreatI a) : a.length ≤ 10 ∧ FitT a := by
  have h10 : a.length ≤ 10 := by
    by_cases e : 10 < a.length
    · exact absurd (.inl e) h
    · omega
  refine ⟨h10, by omega, fun x hx => ?_⟩
  refine ⟨?_, ?_⟩
  · by_cases e : (12 : Int) < x.refs.length
    · exact absurd (.inr ⟨x, hx, .inr (.inl (.inl e))⟩) h
    · omega
  · by_cases e : (30 : Int) < x.tree.length
    · exact absurd (.inr ⟨x, hx, .inr (.inr (.inl e))⟩) h
    · omega
theorem great_texts {l : List Str} {k : Int} (h : ¬ GreatT l k 100) : (l.length : Int) ≤ k := by
  by_cases e : k < l.length
  · exact absurd (.inl e) h
  · omega
theorem reach_bd {f : View} {A : Option Addr} {c : Nat} {a : List Item} (ha : Sl f A c a) {S : List Str} : ∀ u ∈ reachL a S, u.length ≤ LB := fun u hu => by
  obtain ⟨y, hy, rfl⟩ := List.mem_map.1 (reachL_mem.1 hu).names
  obtain ⟨j, hj, rfl⟩ := List.getElem_of_mem hy
  obtain ⟨_, _, _, _, _, _, _, _, hn, _, _⟩ := ha.item hj
  exact hn
theorem refs_bd {f : View} {A : Option Addr} {c : Nat} {a : List Item} (ha : Sl f A c a) {x : Item} (hx : x ∈ a) : ∀ u ∈ x.refs, u.length ≤ LB := fun u hu => by
  obtain ⟨j, hj, rfl⟩ := List.getElem_of_mem hx
  obtain ⟨_, _, _, _, _, _, _, _, hn, hr, _⟩ := ha.item hj
  obtain ⟨k, hk, rfl⟩ := List.getElem_of_mem hu
  obtain ⟨_, _, _, _, h⟩ := hr.text hk
  exact h
theorem closureReachT {w : World} {f : View} (hv : On f w) (hm : ML f) {A : Option Addr} {c : Nat} {a : List Item} (ha : Sl f A c a) {A1 : Option Addr} {c1 : Nat} {S : List Str} (hS : Sl f A1 c1 S) {A2 : Option Addr} {c2 : Nat} {T : List Str} (hT : Sl f A2 c2 T) :
    Con Tryd.prog 3 [.slice A a.length c, .slice A1 S.length c1, .slice A2 T.length c2] w (Ret w f fun _ v => v = .bool true) := by
  refine enterC hv Tryd.call3 Tryd.func3 ?_
  refine sgE ?_
  refine sq (sg ?_)
  refine callB (p := GreatI a) (vs := [.slice A a.length c]) (fun w g hs _ hon => greatItems hon (ha.mono hs)) (fun h1 => ?_) (fun h1 => ?_)
  · refine runE ?_
    refine cT (sg ?_)
    refine callV (.bool true) (vs := []) (fun w g hs _ hon => awake9 hon (hm.mono hs)) ?_
    refine runE ?_
    refine ew_ret ?_
    exact ret1 rfl
  refine callB (p := GreatT S 12 100) (vs := [.slice A1 S.length c1, i64 12, i64 100]) (fun w g hs _ hon => greatTexts hon (hS.mono hs)) (fun h2 => ?_) (fun h2 => ?_)
  · refine runE ?_
    refine cT (sg ?_)
    refine callV (.bool true) (vs := []) (fun w g hs _ hon => awake9 hon (hm.mono hs)) ?_
    refine runE ?_
    refine ew_ret ?_
    exact ret1 rfl
  refine callB (p := GreatT T 12 100) (vs := [.slice A2 T.length c2, i64 12, i64 100]) (fun w g hs _ hon => greatTexts hon (hT.mono hs)) (fun h3 => ?_) (fun h3 => ?_)
  · refine runE ?_
    refine cT (sg ?_)
    refine callV (.bool true) (vs := []) (fun w g hs _ hon => awake9 hon (hm.mono hs)) ?_
    refine runE ?_
    refine ew_ret ?_
    exact ret1 rfl
  obtain ⟨h10, hfit⟩ := great_fit h1
  have hS12 := great_texts h2
  have hT12 := great_texts h3
  refine runE ?_
  refine cFs ?_
  refine efg [(0, .slice A a.length c), (1, .slice A1 S.length c1), (2, .slice A2 T.length c2)] [] (fun ρ => ?_)
  refine sg ?_
  refine callM0 (vs := [.slice A a.length c, .slice A1 S.length c1]) [] (fun w hon hgi => closureReach hon ha hfit (by omega) hS (by omega)) (fun v g1 L' hs1 hR => ?_)
  obtain ⟨A7, c7, rfl, rfl⟩ := hR
  have hbF := reach_bd ha (S := S)
  have hlF := reachL_len a S
  have hag := reach_again a S
  have hmF : ∀ s, s ∈ reachL a S ↔ Rch a S s := fun s => reachL_mem
  have hsF := reachL_sorted a S
  refine runE ?_
  refine efrz 0 fun g2 hs2 hq7 => ?_
  have hF : Sl g2 A7 c7 (reachL a S) := Sl.ofTexts hq7 rfl hbF (by unfold LB; omega)
  have ha2 := ha.mono (hs1.trans hs2)
  have hS2 := hS.mono (hs1.trans hs2)
  have hT2 := hT.mono (hs1.trans hs2)
  have hm2 := hm.mono (hs1.trans hs2)
  refine efg [(7, .slice A7 (reachL a S).length c7), (0, .slice A a.length c), (1, .slice A1 S.length c1), (2, .slice A2 T.length c2)] [] (fun ρ => ?_)
  refine sg ?_
  obtain ⟨xs, hxs, hxc⟩ := hS2.cells
  obtain ⟨ys, hys, hyc⟩ := hT2.cells
  refine nilrow 9 1 ?_
  refine appV 0 (nn := 0) (c := 0) (mm := S.length) hxs.len hxc hxs.ones (fun A9 c9 => ?_) (hlim := by show (0 + S.length) * 16 ≤ _; omega)
  refine appV 0 (nn := 0 + S.length) (mm := T.length) hys.len hyc hys.ones (fun A10 c10 => ?_) (hlim := by show (0 + S.length + T.length) * 16 ≤ _; omega)
  have hST : (S ++ T).length = 0 + S.length + T.length := by rw [List.length_append]; omega
  refine callMo (vs := [.slice A a.length c, .slice A10 (S ++ T).length c10]) (R := fun L' v => reachR a (S ++ T) L' v) (fun w g hs hsn hon => closureReach hon (ha2.mono hs) hfit (by omega) (((hxs.append hys).mono hs).sl (hsn _ (.head _)) (by rw [hST]) (by unfold LB; omega)) (by omega)) (fun v L' hR => ?_) (ha := by show [Value.slice A a.length c, .slice A10 (0 + S.length + T.length) c10] = _; rw [hST])
  obtain ⟨A8, c8, rfl, rfl⟩ := hR
  have hb8 := reach_bd ha (S := S ++ T)
  have hl8 := reachL_len a (S ++ T)
  have hm8 : ∀ s, s ∈ reachL a S → s ∈ reachL a (S ++ T) := fun s hs => reachL_mem.2 ((reachL_mem.1 hs).sub fun u hu => List.mem_append_left _ hu)
  refine rwL (L' := [sRow A8 c8 (reachL a (S ++ T))]) (fun _ h => h.sublist (.cons_cons _ (List.nil_sublist _))) ?_
  refine rfrz 0 fun g3 hs3 hq8 => ?_
  have h8 : Sl g3 A8 c8 (reachL a (S ++ T)) := Sl.ofTexts hq8 rfl hb8 (by unfold LB; omega)
  refine runE ?_
  have ha3 := ha2.mono hs3
  have hS3 := hS2.mono hs3
  have hF3 := hF.mono hs3
  have hm3 := hm2.mono hs3
  generalize reachL a (S ++ T) = F8 at h8 hb8 hl8 hm8
  generalize hFe : reachL a S = F at hF hF3 hbF hlF hag hmF hsF hm8
  refine efg [(8, .slice A8 F8.length c8), (7, .slice A7 F.length c7), (0, .slice A a.length c), (1, .slice A1 S.length c1)] [] (fun ρ => ?_)
  refine sq (sg ?_)
  refine callMo (vs := [.slice A a.length c, .slice A7 F.length c7]) (R := fun L' v => reachR a F L' v) (fun w g hs hsn hon => closureReach hon (ha3.mono hs) hfit (by omega) (hF3.mono hs) (by omega)) (fun v L' hR => ?_)
  unfold reachR at hR
  rw [hag] at hR
  obtain ⟨A11, c11, rfl, rfl⟩ := hR
  refine callV (.bool (decide (F = F))) (vs := [.slice A11 F.length c11, .slice A7 F.length c7]) (fun w g h1 h2 h3 => sameTexts h3 (Sl.ofTexts (h2 _ (.head _)) rfl hbF (by unfold LB; omega)) (hF3.mono h1)) ?_
  rw [decide_eq_true rfl]
  refine runE ?_
  refine cFs ?_
  refine ewL (L' := []) (fun _ h => h.sublist (List.nil_sublist _)) ?_
  refine efg [(8, .slice A8 F8.length c8), (7, .slice A7 F.length c7), (0, .slice A a.length c), (1, .slice A1 S.length c1)] [] (fun ρ => ?_)
  have hget : ∀ s ∈ F, ∃ x, getI a s = some x := fun s hs => Option.isSome_iff_exists.1 ((hmF s).1 hs).there
  refine sqJ (σ := View) (fun _ => [(7, .slice A7 F.length c7), (0, .slice A a.length c), (1, .slice A1 S.length c1)]) (fun g' => g') (fun _ => []) (fun g' => Sub g3 g') ?_ ?_
  · refine sgE (bk ?_)
    refine lp (σ := Nat × View) (fun s => [(9, i64 s.1), (8, .slice A8 F8.length c8), (7, .slice A7 F.length c7), (0, .slice A a.length c), (1, .slice A1 S.length c1)]) (fun s => s.2) (fun _ => []) (fun s => s.1 ≤ F.length ∧ Sub g3 s.2) (fun s => F.length - s.1) (0, g3) ⟨Nat.zero_le _, Sub.refl _⟩ ?_
    rintro ⟨i, g4⟩ ρ ⟨hi, hs4⟩
    replace hi : i ≤ F.length := hi
    replace hs4 : Sub g3 g4 := hs4
    show EW _ _ _ _ _ (ups ρ [(9, i64 i), (8, .slice A8 F8.length c8), (7, .slice A7 F.length c7), (0, .slice A a.length c), (1, .slice A1 S.length c1)]) g4 []
    refine sq (sg ?_)
    refine ltE (fun h => ?_) (fun h => ?_)
    case refine_2 =>
      refine cFx ?_
      exact jn g4 hs4
    have h1 : i < F.length := by omega
    have hF4 := hF3.mono hs4
    have hmem : F[i] ∈ F := List.getElem_mem h1
    have hprev : 0 < i → ∃ h2 : i - 1 < F.length, F[i - 1] < F[i] := fun h0 => ⟨by omega, List.pairwise_iff_getElem.1 hsF (i - 1) i (by omega) h1 (by omega)⟩
    obtain ⟨bF, oF, rfl, hcF, _⟩ := hF4.text h1
    have hcP : ∀ h2 : i - 1 < F.length, g4.cell? ⟨bF, oF + (i - 1) * 1, none⟩ = some (str F[i - 1]) := fun h2 => by
      obtain ⟨b', o', e, h3, _⟩ := hF4.text h2
      injection e with e; injection e with e1 e2
      subst e1 e2
      exact h3
    obtain ⟨x, hx⟩ := hget _ hmem
    have hxa := getI_mem hx
    have hxr := (hfit.2 x hxa).1
    have hrb := refs_bd ha hxa
    have hin8 := hm8 _ hmem
    have hstep : ∀ r ∈ x.refs, (getI a r).isSome = true → r ∈ F := fun r hr h => (hmF r).2 (.step ((hmF _).1 hmem) hx hr h)
    have hprev2 : 0 < i → ∃ (h2 : i - 1 < F.length) (u : Str), F[i - 1] = u ∧ u < F[i] := fun h0 => by obtain ⟨h2, h3⟩ := hprev h0; exact ⟨h2, _, rfl, h3⟩
    generalize F[i] = nm at hmem hprev hprev2 hcF hx hin8
    refine cTs (sq (bk ?_))
    refine sg ?_
    refine ix i h1 ?_
    refine ldv hcF ?_
    refine callM0 (vs := [.slice A a.length c, str nm]) [] (fun w hon hgi => closureGet hon (ha3.mono hs4) hfit) (fun v g5 L' hs5 hR => ?_)
    unfold getR at hR
    rw [hx] at hR
    obtain ⟨B1, d1, B2, d2, rfl, rfl⟩ := hR
    refine alloc fun b10 => ?_
    refine st 0 ?_
    refine rfrzA [] _ (List.Perm.refl _) fun g6 hs6 hsn => ?_
    have k1 : g6.cell? ⟨b10, 1, none⟩ = some (.slice B1 x.refs.length d1) := blk_seen (hsn _ (.head _))
    have hrf : Sl g6 B1 d1 x.refs := Sl.ofTexts (hsn _ (.tail _ (.tail _ (.head _)))) rfl hrb (by unfold LB; omega)
    have hs46 := hs5.trans hs6
    refine runE ?_
    refine efg [(11, .bool true), (10, .pointer (some ⟨b10, 0, none⟩)), (9, i64 i), (8, .slice A8 F8.length c8), (7, .slice (some ⟨bF, oF, none⟩) F.length c7), (0, .slice A a.length c), (1, .slice A1 S.length c1)] [] (fun ρ => ?_)
    refine sqJ (σ := Unit) (fun _ => [(10, .pointer (some ⟨b10, 0, none⟩)), (9, i64 i), (8, .slice A8 F8.length c8), (7, .slice (some ⟨bF, oF, none⟩) F.length c7), (0, .slice A a.length c), (1, .slice A1 S.length c1)]) (fun _ => g6) (fun _ => []) (fun _ => True) ?_ ?_
    · have hc6 := Sub.cell hs46 hcF
      have h86 := h8.mono (hs4.trans hs46)
      refine sQ ?_
      refine gt (fun h0 => ?_) (fun h0 => ?_)
      · obtain ⟨h2, u, hu, hlt⟩ := hprev2 (by omega)
        have hcu := Sub.cell hs46 (hcP h2)
        rw [hu] at hcu
        refine sub ((i - 1 : Nat) : Int) ?_
        refine ix (i - 1) h2 ?_
        refine ldv hcu ?_
        refine ix i h1 ?_
        refine ldv hc6 ?_
        refine geS (fun h3 => absurd hlt h3) (fun _ => ?_)
        refine ix i h1 ?_
        refine ldv hc6 ?_
        refine callV (.bool (decide (nm ∈ F8))) (vs := [.slice A8 F8.length c8, str nm]) (fun w g h1 h2 h3 => lawHas h3 (h86.mono h1)) ?_
        rw [decide_eq_true hin8]
        refine runE ?_
        refine cFs ?_
        exact jn () trivial
      · refine ix i h1 ?_
        refine ldv hc6 ?_
        refine callV (.bool (decide (nm ∈ F8))) (vs := [.slice A8 F8.length c8, str nm]) (fun w g h1 h2 h3 => lawHas h3 (h86.mono h1)) ?_
        rw [decide_eq_true hin8]
        refine runE ?_
        refine cFs ?_
        exact jn () trivial
    rintro ⟨⟩ ρ _
    refine sgE (bk ?_)
    refine lp (σ := Nat × View) (fun s => [(12, i64 s.1), (10, .pointer (some ⟨b10, 0, none⟩)), (9, i64 i), (8, .slice A8 F8.length c8), (7, .slice (some ⟨bF, oF, none⟩) F.length c7), (0, .slice A a.length c), (1, .slice A1 S.length c1)]) (fun s => s.2) (fun _ => []) (fun s => s.1 ≤ x.refs.length ∧ Sub g6 s.2) (fun s => x.refs.length - s.1) (0, g6) ⟨Nat.zero_le _, Sub.refl _⟩ ?_
    rintro ⟨j, g7⟩ ρ ⟨hj, hs7⟩
    replace hj : j ≤ x.refs.length := hj
    replace hs7 : Sub g6 g7 := hs7
    show EW _ _ _ _ _ (ups ρ [(12, i64 j), (10, .pointer (some ⟨b10, 0, none⟩)), (9, i64 i), (8, .slice A8 F8.length c8), (7, .slice (some ⟨bF, oF, none⟩) F.length c7), (0, .slice A a.length c), (1, .slice A1 S.length c1)]) g7 []
    refine sq (sg ?_)
    refine ldv (Sub.cell hs7 k1) ?_
    refine ltE (fun h => ?_) (fun h => ?_)
    case refine_2 =>
      refine cFx ?_
      refine rg ?_
      refine addE ((i + 1 : Nat) : Int) ?_
      exact nxs (i + 1, g7) ⟨h1, (hs4.trans hs46).trans hs7⟩ (by show F.length - (i + 1) < F.length - i; omega)
    have h1j : j < x.refs.length := by omega
    obtain ⟨bR, oR, rfl, hcR, _⟩ := (hrf.mono hs7).text h1j
    have hrm : x.refs[j] ∈ x.refs := List.getElem_mem h1j
    generalize x.refs[j] = r at hcR hrm
    have ha7 := ha3.mono ((hs4.trans hs46).trans hs7)
    have hF7 := hF3.mono ((hs4.trans hs46).trans hs7)
    refine cTs (sq (bk ?_))
    refine sg ?_
    refine ldv (Sub.cell hs7 k1) ?_
    refine ix j h1j ?_
    refine ldv hcR ?_
    refine callM0 (vs := [.slice A a.length c, str r]) [] (fun w hon hgi => closureGet hon ha7 hfit) (fun v g8 L' hs8 hR => ?_)
    unfold getR at hR
    cases hgr : getI a r with
    | none =>
      rw [hgr] at hR
      obtain ⟨rfl, rfl⟩ := hR
      refine alloc fun b13 => ?_
      refine st 0 ?_
      refine dropH ?_
      refine runE ?_
      refine sgE ?_
      refine cFs ?_
      refine rg ?_
      refine addE ((j + 1 : Nat) : Int) ?_
      exact nxs (j + 1, g8) ⟨h1j, hs7.trans hs8⟩ (by show x.refs.length - (j + 1) < x.refs.length - j; omega)
    | some y =>
      rw [hgr] at hR
      obtain ⟨C1, e1, C2, e2, rfl, rfl⟩ := hR
      have hrF : r ∈ F := hstep r hrm (by rw [hgr]; rfl)
      refine alloc fun b13 => ?_
      refine st 0 ?_
      refine rwL (L' := []) (fun _ h => h.sublist (List.nil_sublist _)) ?_
      refine runE ?_
      refine efg [(14, .bool true), (12, i64 j), (10, .pointer (some ⟨b10, 0, none⟩)), (9, i64 i), (8, .slice A8 F8.length c8), (7, .slice (some ⟨bF, oF, none⟩) F.length c7), (0, .slice A a.length c), (1, .slice A1 S.length c1)] [] (fun ρ => ?_)
      refine sg ?_
      refine ldv (Sub.cell (hs7.trans hs8) k1) ?_
      refine ix j h1j ?_
      refine ldv (Sub.cell hs8 hcR) ?_
      refine callV (.bool (decide (r ∈ F))) (vs := [.slice (some ⟨bF, oF, none⟩) F.length c7, str r]) (fun w g h1 h2 h3 => lawHas h3 ((hF7.mono hs8).mono h1)) ?_
      rw [decide_eq_true hrF]
      refine runE ?_
      refine cFs ?_
      refine rg ?_
      refine addE ((j + 1 : Nat) : Int) ?_
      exact nxs (j + 1, g8) ⟨h1j, hs7.trans hs8⟩ (by show x.refs.length - (j + 1) < x.refs.length - j; omega)
  rintro g4 ρ hs4
  replace hs4 : Sub g3 g4 := hs4
  have hF4 := hF3.mono hs4
  have hS4 := hS3.mono hs4
  refine sqJ (σ := View) (fun _ => []) (fun g' => g') (fun _ => []) (fun g' => Sub g4 g') ?_ ?_
  case refine_2 =>
    rintro g5 ρ hs5
    refine sg ?_
    refine callV (.bool true) (vs := []) (fun w g hs _ hon => awake9 hon ((hm3.mono (hs4.trans hs5)).mono hs)) ?_
    refine runE ?_
    refine ew_ret ?_
    exact ret1 rfl
  refine sgE (bk ?_)
  refine lp (σ := Nat × View) (fun s => [(15, i64 s.1), (7, .slice A7 F.length c7), (0, .slice A a.length c), (1, .slice A1 S.length c1)]) (fun s => s.2) (fun _ => []) (fun s => s.1 ≤ S.length ∧ Sub g4 s.2) (fun s => S.length - s.1) (0, g4) ⟨Nat.zero_le _, Sub.refl _⟩ ?_
  rintro ⟨i, g5⟩ ρ ⟨hi, hs5⟩
  replace hi : i ≤ S.length := hi
  replace hs5 : Sub g4 g5 := hs5
  show EW _ _ _ _ _ (ups ρ [(15, i64 i), (7, .slice A7 F.length c7), (0, .slice A a.length c), (1, .slice A1 S.length c1)]) g5 []
  refine sq (sg ?_)
  refine ltE (fun h => ?_) (fun h => ?_)
  case refine_2 =>
    refine cFx ?_
    exact jn g5 hs5
  have h1 : i < S.length := by omega
  obtain ⟨bS, oS, rfl, hcS, _⟩ := (hS4.mono hs5).text h1
  have hiff : (getI a S[i]).isSome = true ↔ S[i] ∈ F := ⟨fun h => (hmF _).2 (.base (List.getElem_mem h1) h), fun h => ((hmF _).1 h).there⟩
  generalize S[i] = r at hcS hiff
  refine cTs (sq (bk ?_))
  refine sg ?_
  refine ix i h1 ?_
  refine ldv hcS ?_
  refine callM0 (vs := [.slice A a.length c, str r]) [] (fun w hon hgi => closureGet hon (ha3.mono (hs4.trans hs5)) hfit) (fun v g6 L' hs6 hR => ?_)
  unfold getR at hR
  cases hgr : getI a r with
  | none =>
    rw [hgr] at hR
    obtain ⟨rfl, rfl⟩ := hR
    have hrF : r ∉ F := fun h => by have := hiff.2 h; rw [hgr] at this; cases this
    refine alloc fun b16 => ?_
    refine st 0 ?_
    refine dropH ?_
    refine runE ?_
    refine efg [(17, .bool false), (15, i64 i), (7, .slice A7 F.length c7), (0, .slice A a.length c), (1, .slice (some ⟨bS, oS, none⟩) S.length c1)] [] (fun ρ => ?_)
    refine sg ?_
    refine ix i h1 ?_
    refine ldv (Sub.cell hs6 hcS) ?_
    refine callV (.bool (decide (r ∈ F))) (vs := [.slice A7 F.length c7, str r]) (fun w g h1 h2 h3 => lawHas h3 ((hF4.mono (hs5.trans hs6)).mono h1)) ?_
    rw [decide_eq_false hrF]
    refine neBo false rfl ?_
    refine runE ?_
    refine cFs ?_
    refine rg ?_
    refine addE ((i + 1 : Nat) : Int) ?_
    exact nxs (i + 1, g6) ⟨h1, hs5.trans hs6⟩ (by show S.length - (i + 1) < S.length - i; omega)
  | some y =>
    rw [hgr] at hR
    obtain ⟨C1, e1, C2, e2, rfl, rfl⟩ := hR
    have hrF : r ∈ F := hiff.1 (by rw [hgr]; rfl)
    refine alloc fun b16 => ?_
    refine st 0 ?_
    refine rwL (L' := []) (fun _ h => h.sublist (List.nil_sublist _)) ?_
    refine runE ?_
    refine efg [(17, .bool true), (15, i64 i), (7, .slice A7 F.length c7), (0, .slice A a.length c), (1, .slice (some ⟨bS, oS, none⟩) S.length c1)] [] (fun ρ => ?_)
    refine sg ?_
    refine ix i h1 ?_
    refine ldv (Sub.cell hs6 hcS) ?_
    refine callV (.bool (decide (r ∈ F))) (vs := [.slice A7 F.length c7, str r]) (fun w g h1 h2 h3 => lawHas h3 ((hF4.mono (hs5.trans hs6)).mono h1)) ?_
    rw [decide_eq_true hrF]
    refine neBo false rfl ?_
    refine runE ?_
    refine cFs ?_
    refine rg ?_
    refine addE ((i + 1 : Nat) : Int) ?_
    exact nxs (i + 1, g6) ⟨h1, hs5.trans hs6⟩ (by show S.length - (i + 1) < S.length - i; omega)
end Go.Hog
