/- Contract: the document's rank. (Printed by gen_f24.py.) -/
import Derived.Test.YtnjaclggjmfkfaaF23
set_option linter.unusedVariables false
set_option linter.unusedSimpArgs false
set_option maxRecDepth 100000
set_option maxHeartbeats 1000000
namespace Go.Hog
open Go.RowKit Rp Go.Proofs
theorem ref21Rank {w : World} {f : View} (hv : On f w) {A : Option Addr} {c : Nat} {a : List Item} (ha : Sl f A c a) (hfit : FitT a) (h12 : a.length ≤ 12) :
    Con Try.prog 24 [.slice A a.length c] w (RetM w f [] fun _ L' v => ∃ A' c', v = .slice A' (rankL a).length c' ∧ L' = [sRow A' c' (rankL a)]) := by
  refine enterM (L := []) hv (Given.nil _ _) Try.call24 Try.func24 ?_
  refine sgE ?_
  refine sg ?_
  refine callM0 (vs := [.slice A a.length c]) [] (fun w hon hgi => ref21Scores hon ha hfit h12) (fun v g L' hs hR => ?_)
  obtain ⟨A3, c3, rfl, rfl⟩ := hR
  refine runE ?_
  have ha0 := ha.mono hs
  have hscl : (scoresL a).length ≤ a.length := by
    unfold scoresL
    split
    · rw [List.length_map]; exact Nat.le_refl _
    · exact Nat.zero_le _
  refine sgE ?_
  refine enilrow 9 1 ?_
  refine sgE ?_
  refine enilrow 3 1 ?_
  refine eperm (.swap _ _ _) ?_
  refine efg [(5, .slice none 0 0), (4, .slice none 0 0), (3, .slice A3 (scoresL a).length c3), (0, .slice A a.length c)] [sRow none 0 [], iRow none 0 [], iRow A3 c3 (scoresL a)] fun ρ => ?_
  refine sqJ (σ := List Str × Option Addr × Nat) (fun s => [(4, .slice s.2.1 s.1.length s.2.2)]) (fun _ => g) (fun s => [sRow s.2.1 s.2.2 s.1]) (fun s => s.1 = rankL a) ?_ ?_
  case refine_2 =>
    rintro ⟨l, A4, c4⟩ ρ hl
    replace hl : l = rankL a := hl
    subst hl
    refine sgE ?_
    refine ew_ret ?_
    exact ret1M ⟨A4, c4, rfl, rfl⟩
  refine sgE ?_
  refine bk ?_
  refine lp (σ := Nat × List Pl × (Option Addr × Nat) × (Option Addr × Nat)) (fun s => [(6, i64 s.1), (5, .slice s.2.2.2.1 s.2.1.length s.2.2.2.2), (4, .slice s.2.2.1.1 s.2.1.length s.2.2.1.2), (3, .slice A3 (scoresL a).length c3), (0, .slice A a.length c)]) (fun _ => g) (fun s => [.row s.2.2.1.1 s.2.1.length s.2.2.1.2 9 1 ((s.2.1.map Prod.snd).map str), .row s.2.2.2.1 s.2.1.length s.2.2.2.2 3 1 ((s.2.1.map Prod.fst).map numV), iRow A3 c3 (scoresL a)])
    (fun s => s.1 ≤ (scoresL a).length ∧ SBy plLt s.2.1 ∧ s.2.1.Perm ((a.take s.1).map (plOf a))) (fun s => (scoresL a).length - s.1) (0, [], (none, 0), (none, 0)) ⟨Nat.zero_le _, List.Pairwise.nil, by simp⟩ ?_
  rintro ⟨i, P, ⟨A4, c4⟩, ⟨A5, c5⟩⟩ ρ ⟨hi, hsb, hpm⟩
  replace hi : i ≤ (scoresL a).length := hi
  replace hsb : SBy plLt P := hsb
  replace hpm : P.Perm ((a.take i).map (plOf a)) := hpm
  have hPl : P.length = i := by
    rw [hpm.length_eq, List.length_map, List.length_take]; omega
  show EW _ _ _ _ _ (ups ρ [(6, i64 i), (5, .slice A5 P.length c5), (4, .slice A4 P.length c4), (3, .slice A3 (scoresL a).length c3), (0, .slice A a.length c)]) g [.row A4 P.length c4 9 1 ((P.map Prod.snd).map str), .row A5 P.length c5 3 1 ((P.map Prod.fst).map numV), iRow A3 c3 (scoresL a)]
  refine sq (sg ?_)
  refine ltE (fun h => ?_) (fun h => ?_)
  case refine_2 =>
    have e : i = (scoresL a).length := by omega
    refine ewL (L' := [.row A4 P.length c4 9 1 ((P.map Prod.snd).map str)]) (fun _ h => h.sublist (.cons_cons _ (by simp))) ?_
    refine cFx ?_
    have er : P.map Prod.snd = rankL a := by
      unfold rankL
      by_cases hnd : (names a).Nodup
      · rw [if_pos hnd]
        have e2 : (scoresL a).length = a.length := by unfold scoresL; rw [if_pos hnd, List.length_map]
        rw [e, e2, List.take_length] at hpm
        rw [rankP_of hpm hsb]
      · rw [if_neg hnd]
        have e2 : (scoresL a).length = 0 := by unfold scoresL; rw [if_neg hnd]; rfl
        rw [List.eq_nil_of_length_eq_zero (by omega : P.length = 0)]
        rfl
    refine jn (P.map Prod.snd, A4, c4) er (hh := ?_) (ha := ⟨?_, trivial⟩)
    · unfold sRow; rw [List.length_map]
    · show Value.slice A4 P.length c4 = .slice A4 (P.map Prod.snd).length c4
      rw [List.length_map]
  have him : i < (scoresL a).length := by omega
  have hnd : (names a).Nodup := by
    refine Decidable.byContradiction fun hn => ?_
    have e2 : (scoresL a).length = 0 := by unfold scoresL; rw [if_neg hn]; rfl
    omega
  have hsl : scoresL a = a.map (fun x => (sc a x.name : Int)) := by unfold scoresL; rw [if_pos hnd]
  have h1 : i < a.length := by omega
  have hm1 : i < (scoresL a).length := him
  have hcx : ((scoresL a).map numV)[0 + i * 1]? = some (numV (sc a a[i].name : Int)) := by
    rw [hsl]; simp [h1]
  refine erowF 2 fun hrow => ?_
  obtain ⟨b3, rfl⟩ := hrow.2.2.2.1 (by omega)
  refine erowF 0 fun hrow4 => ?_
  have hoc4 := hrow4.2.1
  refine erowF 1 fun hrow5 => ?_
  have hoc5 := hrow5.2.1
  obtain ⟨b1, o1, A1, c1, A2, c2, rfl, hc, hn, hr, ht⟩ := ha0.item h1
  generalize hx : plOf a a[i] = x at *
  have hx1 : (sc a a[i].name : Int) = x.1 := by rw [← hx]; rfl
  have hx2 : a[i].name = x.2 := by rw [← hx]; rfl
  rw [hx1] at hcx
  generalize hnm : a[i].name = nm at hc hn hx1 hx2
  refine cTs (bkJ (σ := List Pl × (Option Addr × Nat) × (Option Addr × Nat)) (fun s => [(6, i64 i), (5, .slice s.2.2.1 s.1.length s.2.2.2), (4, .slice s.2.1.1 s.1.length s.2.1.2), (3, .slice (some ⟨b3, 0, none⟩) (scoresL a).length c3), (0, .slice (some ⟨b1, o1, none⟩) a.length c)]) (fun _ => g) (fun s => [.row s.2.2.1 s.1.length s.2.2.2 3 1 ((s.1.map Prod.fst).map numV), .row s.2.1.1 s.1.length s.2.1.2 9 1 ((s.1.map Prod.snd).map str), iRow (some ⟨b3, 0, none⟩) c3 (scoresL a)]) (fun s => SBy plLt s.1 ∧ s.1.Perm ((a.take (i + 1)).map (plOf a))) ?_ ?_)
  case refine_2 =>
    rintro ⟨P2, ⟨A42, c42⟩, ⟨A52, c52⟩⟩ ρ ⟨hsb2, hpm2⟩
    refine eperm (.swap _ _ _) ?_
    refine rg ?_
    refine addE ((i + 1 : Nat) : Int) ?_
    exact nxs (i + 1, P2, (A42, c42), (A52, c52)) ⟨him, hsb2, hpm2⟩ (by show (scoresL a).length - (i + 1) < (scoresL a).length - i; omega)
  refine sgE ?_
  refine sqJ (σ := Nat) (fun k => [(7, i64 k), (6, i64 i), (5, .slice A5 P.length c5), (4, .slice A4 P.length c4), (3, .slice (some ⟨b3, 0, none⟩) (scoresL a).length c3), (0, .slice (some ⟨b1, o1, none⟩) a.length c)]) (fun _ => g) (fun _ => [.row A4 P.length c4 9 1 ((P.map Prod.snd).map str), .row A5 P.length c5 3 1 ((P.map Prod.fst).map numV), iRow (some ⟨b3, 0, none⟩) c3 (scoresL a)]) (fun k => k ≤ P.length ∧ (∀ y ∈ P.drop k, plLt x y) ∧ (k = 0 ∨ ∃ h : k - 1 < P.length, ¬ plLt x P[k - 1])) ?_ ?_
  · refine bk ?_
    refine lp (σ := Nat) (fun k => [(7, i64 k), (6, i64 i), (5, .slice A5 P.length c5), (4, .slice A4 P.length c4), (3, .slice (some ⟨b3, 0, none⟩) (scoresL a).length c3), (0, .slice (some ⟨b1, o1, none⟩) a.length c)]) (fun _ => g) (fun _ => [.row A4 P.length c4 9 1 ((P.map Prod.snd).map str), .row A5 P.length c5 3 1 ((P.map Prod.fst).map numV), iRow (some ⟨b3, 0, none⟩) c3 (scoresL a)]) (fun k => k ≤ P.length ∧ ∀ y ∈ P.drop k, plLt x y) (fun k => k) P.length ⟨Nat.le_refl _, by simp⟩ ?_
    rintro k ρ ⟨hk, hgt⟩
    replace hk : k ≤ P.length := hk
    refine sq (sQ ?_)
    refine Go.Hog.gt (fun hk0 => ?_) (fun hk0 => ?_)
    case refine_2 =>
      refine runE ?_
      refine cFx ?_
      exact jn k ⟨hk, hgt, .inl (by omega)⟩
    have hk1 : k - 1 < P.length := by omega
    have hco4 : ((P.map Prod.snd).map str)[0 + (k - 1) * 1]? = some (str P[k - 1].2) := by simp [hk1]
    have hco5 : ((P.map Prod.fst).map numV)[0 + (k - 1) * 1]? = some (numV P[k - 1].1) := by simp [hk1]
    refine rowF 0 fun hrow => ?_
    obtain ⟨b4, rfl⟩ := hrow.2.2.2.1 (by omega)
    refine rowF 1 fun hrow => ?_
    obtain ⟨b5, rfl⟩ := hrow.2.2.2.1 (by omega)
    have hca : ∀ w g', Sub g g' → (∀ e ∈ [HE.row (some ⟨b4, 0, none⟩) P.length c4 9 1 ((P.map Prod.snd).map str), HE.row (some ⟨b5, 0, none⟩) P.length c5 3 1 ((P.map Prod.fst).map numV), iRow (some ⟨b3, 0, none⟩) c3 (scoresL a)], e.seen g') → On g' w → Con Try.prog 40 [i64 x.1, str nm, i64 P[k - 1].1, str P[k - 1].2] w (Ret w g' fun _ v => v = .bool (decide (plLt x P[k - 1]))) := fun w g' hs he hon => by
      rw [hx2]
      exact refAbove hon
    refine ix i hm1 ?_
    refine ldr 2 hcx ?_
    refine ix i h1 ?_
    refine ldv hc.1 ?_
    refine sub ((k - 1 : Nat) : Int) ?_
    refine ix (k - 1) hk1 ?_
    refine ldr 1 hco5 ?_
    refine sub ((k - 1 : Nat) : Int) ?_
    refine ix (k - 1) hk1 ?_
    refine ldr 0 hco4 ?_
    refine callBE hca (fun hlt => ?_) (fun hlt => ?_)
    · refine cTs (bk (rg ?_))
      refine subE ((k - 1 : Nat) : Int) ?_
      refine nxs (k - 1) ⟨by omega, fun y hy => ?_⟩ (by show k - 1 < k; omega)
      have hdk : P.drop (k - 1) = P[k - 1] :: P.drop k := by
        rw [List.drop_eq_getElem_cons hk1, show k - 1 + 1 = k by omega]
      rw [hdk] at hy
      rcases List.mem_cons.1 hy with rfl | hy
      · exact hlt
      · exact hgt y hy
    · refine cFx ?_
      exact jn k ⟨hk, hgt, .inr ⟨hk1, hlt⟩⟩
  rintro k ρ ⟨hk, hgt, hle⟩
  replace hk : k ≤ P.length := hk
  refine sA [0, 1, 2, 4, 5, 6, 7, 8, 11, 12, 13] [.row A4 P.length c4 9 1 ((P.map Prod.snd).map str), .row A5 P.length c5 3 1 ((P.map Prod.fst).map numV), iRow (some ⟨b3, 0, none⟩) c3 (scoresL a)] (List.Sublist.refl _) ?_
  have q1 : (((P.map Prod.snd).map str).take (k * 1)).length = k * 1 := by simp; omega
  have q2 : (((P.map Prod.snd).map str).drop (k * 1)).length = (P.length - k) * 1 := by simp
  have q3 : ∀ u ∈ ((P.map Prod.snd).map str).take (k * 1), u.oneCell' = true := fun u hu => by
    obtain ⟨r, _, rfl⟩ := List.mem_map.1 (List.mem_of_mem_take hu)
    rfl
  have q4 : ∀ u ∈ ((P.map Prod.snd).map str).drop (k * 1), u.oneCell' = true := fun u hu => by
    obtain ⟨r, _, rfl⟩ := List.mem_map.1 (List.mem_of_mem_drop hu)
    rfl
  have q5 : (0 + k) * 16 ≤ 140737488355328 := by omega
  have q6 : (0 + k + 1) * 16 ≤ 140737488355328 := by omega
  have q7 : (0 + k + 1 + (P.length - k)) * 16 ≤ 140737488355328 := by omega
  have q8 : k ≤ c4 := by omega
  have q9 : P.length ≤ c4 := by omega
  refine an_takeH [0, 1, 2, 4, 5, 6, 7, 8, 11, 12, 13] HeldL.same ?_
  refine slH k q8 ?_
  refine ix i h1 ?_
  refine ldv hc.1 ?_
  refine slL' k hk q9 ?_
  refine rw_end ?_
  refine an_have (α := Nat × Option Addr × Nat) (lsA 16 [0, 1, 2, 3, 4, 5, 6, 7, 8, 9, 11, 12, 13]) (fun s => [(47, .slice s.2.1 (0 + k) s.2.2), (53, .slice (some ⟨s.1, 0, none⟩) 1 1), (57, .slice (A4.map fun a => if k = c4 then a else a.add (k * 1)) (P.length - k) (c4 - k)), (7, i64 k), (6, i64 i), (5, .slice A5 P.length c5), (4, .slice A4 P.length c4), (3, .slice (some ⟨b3, 0, none⟩) (scoresL a).length c3), (0, .slice (some ⟨b1, o1, none⟩) a.length c)]) (fun _ => g) (fun s => [.row (some ⟨s.1, 0, none⟩) 1 1 9 1 [str nm], .row s.2.1 (0 + k) s.2.2 9 1 ([] ++ ((P.map Prod.snd).map str).take (k * 1)), .row A4 P.length c4 9 1 ((P.map Prod.snd).map str), .row A5 P.length c5 3 1 ((P.map Prod.fst).map numV), iRow (some ⟨b3, 0, none⟩) c3 (scoresL a)]) ?_ (fun T => ?_)
  · rintro ⟨b8, Ay, cy⟩ ρ
    refine an_run1 10 ?_
    refine app 0 (fun Az cz => ?_) (hlim := q6)
    refine aH HeldL.same.cons ?_
    refine an_run1 14 ?_
    refine appW 0 q2 (fun w hw h0 => hw.rowTail (i := 1) (j := k) rfl (by omega)) q4 (fun A9 c9 => ?_) (hlim := q7)
    refine aH HeldL.same.cons ?_
    refine an_L [.row A9 (0 + k + 1 + (P.length - k)) c9 9 1 ([] ++ ((P.map Prod.snd).map str).take (k * 1) ++ [str nm] ++ ((P.map Prod.snd).map str).drop (k * 1)), .row A5 P.length c5 3 1 ((P.map Prod.fst).map numV), iRow (some ⟨b3, 0, none⟩) c3 (scoresL a)] (fun _ h => h.sublist (.cons_cons _ (.cons _ (List.Sublist.refl _)))) ?_
    refine an_takeU [15] ?_
    refine an_done ?_
    refine eperm (.swap _ _ _) ?_
    refine efg [(7, i64 k), (6, i64 i), (5, .slice A5 P.length c5), (4, .slice A9 (0 + k + 1 + (P.length - k)) c9), (3, .slice (some ⟨b3, 0, none⟩) (scoresL a).length c3), (0, .slice (some ⟨b1, o1, none⟩) a.length c)] [.row A5 P.length c5 3 1 ((P.map Prod.fst).map numV), .row A9 (0 + k + 1 + (P.length - k)) c9 9 1 ([] ++ ((P.map Prod.snd).map str).take (k * 1) ++ [str nm] ++ ((P.map Prod.snd).map str).drop (k * 1)), iRow (some ⟨b3, 0, none⟩) c3 (scoresL a)] fun ρ => ?_
    refine eA [0, 1, 2, 4, 5, 6, 7, 10, 11, 12] [.row A5 P.length c5 3 1 ((P.map Prod.fst).map numV), .row A9 (0 + k + 1 + (P.length - k)) c9 9 1 ([] ++ ((P.map Prod.snd).map str).take (k * 1) ++ [str nm] ++ ((P.map Prod.snd).map str).drop (k * 1)), iRow (some ⟨b3, 0, none⟩) c3 (scoresL a)] (List.Sublist.refl _) ?_
    have r1 : (((P.map Prod.fst).map numV).take (k * 1)).length = k * 1 := by simp; omega
    have r2 : (((P.map Prod.fst).map numV).drop (k * 1)).length = (P.length - k) * 1 := by simp
    have r3 : ∀ u ∈ ((P.map Prod.fst).map numV).take (k * 1), u.oneCell' = true := fun u hu => by
      obtain ⟨r, _, rfl⟩ := List.mem_map.1 (List.mem_of_mem_take hu)
      rfl
    have r4 : ∀ u ∈ ((P.map Prod.fst).map numV).drop (k * 1), u.oneCell' = true := fun u hu => by
      obtain ⟨r, _, rfl⟩ := List.mem_map.1 (List.mem_of_mem_drop hu)
      rfl
    have r5 : (0 + k) * 8 ≤ 140737488355328 := by omega
    have r6 : (0 + k + 1) * 8 ≤ 140737488355328 := by omega
    have r7 : (0 + k + 1 + (P.length - k)) * 8 ≤ 140737488355328 := by omega
    have r8 : k ≤ c5 := by omega
    have r9 : P.length ≤ c5 := by omega
    refine an_takeH [0, 1, 2, 4, 5, 6, 7, 10, 11, 12] HeldL.same ?_
    refine slH k r8 ?_
    refine ix i hm1 ?_
    refine ldr 2 hcx ?_
    refine slL' k hk r9 ?_
    refine rw_end ?_
    refine an_have (α := Nat × Option Addr × Nat) (lsA 15 [0, 1, 2, 3, 4, 5, 6, 7, 8, 10, 11, 12]) (fun s => [(62, .slice s.2.1 (0 + k) s.2.2), (67, .slice (some ⟨s.1, 0, none⟩) 1 1), (71, .slice (A5.map fun a => if k = c5 then a else a.add (k * 1)) (P.length - k) (c5 - k)), (7, i64 k), (6, i64 i), (5, .slice A5 P.length c5), (4, .slice A9 (0 + k + 1 + (P.length - k)) c9), (3, .slice (some ⟨b3, 0, none⟩) (scoresL a).length c3), (0, .slice (some ⟨b1, o1, none⟩) a.length c)]) (fun _ => g) (fun s => [.row (some ⟨s.1, 0, none⟩) 1 1 3 1 [numV x.1], .row s.2.1 (0 + k) s.2.2 3 1 ([] ++ ((P.map Prod.fst).map numV).take (k * 1)), .row A5 P.length c5 3 1 ((P.map Prod.fst).map numV), .row A9 (0 + k + 1 + (P.length - k)) c9 9 1 ([] ++ ((P.map Prod.snd).map str).take (k * 1) ++ [str nm] ++ ((P.map Prod.snd).map str).drop (k * 1)), iRow (some ⟨b3, 0, none⟩) c3 (scoresL a)]) ?_ (fun T => ?_)
    · rintro ⟨b8, Ay, cy⟩ ρ
      refine an_run1 9 ?_
      refine app 0 (fun Az cz => ?_) (hlim := r6)
      refine aH HeldL.same.cons ?_
      refine an_run1 13 ?_
      refine appW 0 r2 (fun w hw h0 => hw.rowTail (i := 1) (j := k) rfl (by omega)) r4 (fun A9' c9' => ?_) (hlim := r7)
      refine aH HeldL.same.cons ?_
      refine an_L [.row A9' (0 + k + 1 + (P.length - k)) c9' 3 1 ([] ++ ((P.map Prod.fst).map numV).take (k * 1) ++ [numV x.1] ++ ((P.map Prod.fst).map numV).drop (k * 1)), .row A9 (0 + k + 1 + (P.length - k)) c9 9 1 ([] ++ ((P.map Prod.snd).map str).take (k * 1) ++ [str nm] ++ ((P.map Prod.snd).map str).drop (k * 1)), iRow (some ⟨b3, 0, none⟩) c3 (scoresL a)] (fun _ h => h.sublist (.cons_cons _ (.cons _ (List.Sublist.refl _)))) ?_
      refine an_takeU [14] ?_
      refine an_done ?_
      have hnl : (P.take k ++ [x] ++ P.drop k).length = 0 + k + 1 + (P.length - k) := by simp; omega
      refine jn (P.take k ++ [x] ++ P.drop k, (A9, c9), (A9', c9')) ⟨?_, ?_⟩ (hh := ?_) (ha := ⟨rfl, ?_, ?_, rfl, rfl, trivial⟩)
      · show SBy plLt _
        exact sby_insert plSO hsb hk hgt hle
      · show (P.take k ++ [x] ++ P.drop k).Perm ((a.take (i + 1)).map (plOf a))
        rw [List.take_add_one, List.getElem?_eq_getElem h1, List.map_append]
        refine (insert_perm k x).trans ?_
        rw [← hx]
        exact (hpm.cons _).trans (List.perm_append_comm (l₁ := [plOf a a[i]]) (l₂ := (a.take i).map (plOf a)))
      · show [HE.row A9' (P.take k ++ [x] ++ P.drop k).length c9' _ 1 (((P.take k ++ [x] ++ P.drop k).map Prod.fst).map numV), HE.row A9 (P.take k ++ [x] ++ P.drop k).length c9 _ 1 (((P.take k ++ [x] ++ P.drop k).map Prod.snd).map str), _] = _
        rw [hnl, hx2]
        simp
        done
      · show Value.slice A9' _ c9' = .slice A9' (P.take k ++ [x] ++ P.drop k).length c9'
        rw [hnl]
      · show Value.slice A9 _ c9 = .slice A9 (P.take k ++ [x] ++ P.drop k).length c9
        rw [hnl]
    refine an_run2 3 8 ?_ ?_
    · refine nilrow 3 1 ?_
      refine appW 0 r1 (fun w hw h0 => ?_) r3 (fun Ay cy => ?_) (hlim := r5)
      · obtain ⟨b, o, e, hc⟩ := hw.rowAll (i := 1) rfl (show 0 < P.length by omega)
        exact ⟨b, o, e, fun j u hj => hc j u (by rw [List.getElem?_take] at hj; split at hj; exact hj; cases hj)⟩
      refine aH HeldL.same.cons ?_
      refine an_run1 8 ?_
      refine bsl fun b8 => ?_
      refine aH HeldL.same.cons.cons ?_
      exact an_use T (b8, Ay, cy)
    · refine bsl fun b8 => ?_
      refine aH HeldL.same.cons ?_
      refine an_run1 3 ?_
      refine nilrow 3 1 ?_
      refine appW 0 r1 (fun w hw h0 => ?_) r3 (fun Ay cy => ?_) (hlim := r5)
      · obtain ⟨b, o, e, hc⟩ := hw.rowAll (i := 2) rfl (show 0 < P.length by omega)
        exact ⟨b, o, e, fun j u hj => hc j u (by rw [List.getElem?_take] at hj; split at hj; exact hj; cases hj)⟩
      refine aH HeldL.same.cons.cons ?_
      refine an_perm (.swap _ _ _) ?_
      exact an_use T (b8, Ay, cy)
  refine an_run2 3 9 ?_ ?_
  · refine nilrow 9 1 ?_
    refine appW 0 q1 (fun w hw h0 => ?_) q3 (fun Ay cy => ?_) (hlim := q5)
    · obtain ⟨b, o, e, hc⟩ := hw.rowAll (i := 1) rfl (show 0 < P.length by omega)
      exact ⟨b, o, e, fun j u hj => hc j u (by rw [List.getElem?_take] at hj; split at hj; exact hj; cases hj)⟩
    refine aH HeldL.same.cons ?_
    refine an_run1 9 ?_
    refine bsl fun b8 => ?_
    refine aH HeldL.same.cons.cons ?_
    exact an_use T (b8, Ay, cy)
  · refine bsl fun b8 => ?_
    refine aH HeldL.same.cons ?_
    refine an_run1 3 ?_
    refine nilrow 9 1 ?_
    refine appW 0 q1 (fun w hw h0 => ?_) q3 (fun Ay cy => ?_) (hlim := q5)
    · obtain ⟨b, o, e, hc⟩ := hw.rowAll (i := 2) rfl (show 0 < P.length by omega)
      exact ⟨b, o, e, fun j u hj => hc j u (by rw [List.getElem?_take] at hj; split at hj; exact hj; cases hj)⟩
    refine aH HeldL.same.cons.cons ?_
    refine an_perm (.swap _ _ _) ?_
    exact an_use T (b8, Ay, cy)
end Go.Hog
