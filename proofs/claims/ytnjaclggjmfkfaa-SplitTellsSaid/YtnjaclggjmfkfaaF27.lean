/- Contract: the document's layers. (Printed by gen_f27.py.) -/
import Derived.Test.YtnjaclggjmfkfaaF26
set_option linter.unusedVariables false
set_option linter.unusedSimpArgs false
set_option maxRecDepth 100000
set_option maxHeartbeats 1000000
namespace Go.Hog
open Go.RowKit Rp Go.Proofs
theorem lay_no {a : List Item} {n : Int} (h : ¬ layOk a n) {g : View} : ∃ A c, Value.tuple #[.slice none 0 0, i64 2] = .tuple #[.slice A (layersL a n).length c, i64 (layersE a n)] ∧ Sl g A c (layersL a n) := by
  unfold layersL layersE
  rw [if_neg h, if_neg h]
  exact ⟨none, 0, rfl, Sl.nil _⟩
theorem ref22Layers {w : World} {f : View} (hv : On f w) {A : Option Addr} {c : Nat} {a : List Item} {n : Int} (ha : Sl f A c a) (hfit : FitT a) (h12 : a.length ≤ 12) :
    Con Try.prog 9 [.slice A a.length c, i64 n] w (Ret w f fun g v => ∃ A c, v = .tuple #[.slice A (layersL a n).length c, i64 (layersE a n)] ∧ Sl g A c (layersL a n)) := by
  refine enterC hv Try.call9 Try.func9 ?_
  refine sgE ?_
  refine sq (sg ?_)
  refine Go.Hog.lt (fun h1 => ?_) (fun h1 => ?_)
  · refine runE ?_
    refine cT (sgE ?_)
    refine ew_ret ?_
    exact ret2 (lay_no fun h => by have := h.1; omega)
  refine Go.Hog.gt (fun h2 => ?_) (fun h2 => ?_)
  · refine runE ?_
    refine cT (sgE ?_)
    refine ew_ret ?_
    exact ret2 (lay_no fun h => by have := h.2.1; omega)
  refine callB (p := (names a).Nodup) (vs := [.slice A a.length c]) (fun w g hs _ hon => unlike10 hon (ha.mono hs)) (fun hnd => ?_) (fun hnd => ?_)
  case refine_2 =>
    refine runE ?_
    refine cT (sgE ?_)
    refine ew_ret ?_
    exact ret2 (lay_no fun h => hnd h.2.2)
  refine runE ?_
  refine cFs ?_
  have hok : layOk a n := ⟨by omega, by omega, hnd⟩
  refine efg [(1, i64 n), (0, .slice A a.length c)] [] fun ρ => ?_
  refine sg ?_
  refine callM0 (vs := [.slice A a.length c]) [] (fun w hon hgi => ref21Rank hon ha hfit h12) (fun v g1 L' hs1 hR => ?_)
  obtain ⟨A6, c6, rfl, rfl⟩ := hR
  obtain ⟨R, hR, hRl, hRb⟩ : ∃ R, rankL a = R ∧ R.length ≤ 12 ∧ ∀ s ∈ R, s.length ≤ LB := ⟨_, rfl, Nat.le_trans (rankL_len a) h12, fun s hs => namesLe ha (rankL_sub a s hs)⟩
  rw [hR]
  refine runE ?_
  refine efrz 0 fun g0 hs0 hsn0 => ?_
  have hRL : R.length ≤ LB := by unfold LB; omega
  have tR : Sl g0 A6 c6 R := Sl.ofTexts (l := R) hsn0 rfl hRb hRL
  obtain ⟨m, hm, hm1⟩ : ∃ m : Nat, n = m ∧ 1 ≤ m := ⟨n.toNat, by omega, by omega⟩
  subst hm
  obtain ⟨p, hp⟩ : ∃ p, p = if R.length ≤ m then R.length else m - 1 := ⟨_, rfl⟩
  have hlay : layersL a (m : Int) = (R.take p).map (fun x => [x]) ++ (if R.length ≤ m then [] else [sortS (R.drop p)]) := by
    unfold layersL layL
    rw [if_pos hok, hR, hp, Int.toNat_natCast]
    by_cases h : R.length ≤ m
    · rw [if_pos h, if_pos h, if_pos h, List.take_length, List.append_nil]
    · rw [if_neg h, if_neg h, if_neg h]
  have hE : layersE a (m : Int) = 0 := by unfold layersE; rw [if_pos hok]
  refine efg [(1, i64 m), (6, .slice A6 R.length c6)] [] fun ρ => ?_
  refine sgE ?_
  refine enilrow 35 1 ?_
  refine sgE ?_
  refine enilrow 9 1 ?_
  refine efg [(8, .slice none 0 0), (7, .slice none 0 0), (6, .slice A6 R.length c6), (1, i64 m)] [.row none 0 0 9 1 ([].map str), .row none 0 0 35 1 []] fun ρ => ?_
  refine sqJ (σ := Nat × List Str × (Option Addr × Nat) × (Option Addr × Nat) × List Value × View) (fun s => [(8, .slice s.2.2.1.1 s.2.1.length s.2.2.1.2), (7, .slice s.2.2.2.1.1 s.1 s.2.2.2.1.2)]) (fun s => s.2.2.2.2.2) (fun s => [.row s.2.2.1.1 s.2.1.length s.2.2.1.2 9 1 (s.2.1.map str), .row s.2.2.2.1.1 s.1 s.2.2.2.1.2 35 1 s.2.2.2.2.1]) (fun s => s.1 = min (R.length) p ∧ Sub g0 s.2.2.2.2.2 ∧ Rw s.2.2.2.2.2 ((R.take (min (R.length) p)).map fun x => [x]) s.2.2.2.2.1 ∧ InsL (R.drop p) (R.length - p) s.2.1) ?_ ?_
  case refine_2 =>
    rintro ⟨q, Q, ⟨A8, c8⟩, ⟨A7, c7⟩, vs, g⟩ ρ ⟨hq, hsub, hrw, hins⟩
    replace hq : q = min R.length p := hq
    replace hrw : Rw g ((R.take (min R.length p)).map fun x => [x]) vs := hrw
    replace hins : InsL (R.drop p) (R.length - p) Q := hins
    show EW _ _ _ _ _ (ups ρ [(8, .slice A8 Q.length c8), (7, .slice A7 q c7)]) g [.row A8 Q.length c8 9 1 (Q.map str), .row A7 q c7 35 1 vs]
    have hpl : p ≤ R.length := by rw [hp]; split <;> omega
    have hql : q = p := by omega
    subst hql
    rw [show min R.length q = q by omega] at hrw
    have hQf : Q = sortS (R.drop q) := by
      have h3 := hins
      rw [show R.length - q = (R.drop q).length by rw [List.length_drop]] at h3
      exact h3.fin
    have hQl : Q.length = R.length - q := by rw [hQf, sortS_len, List.length_drop]
    have hQb : ∀ s ∈ Q, s.length ≤ LB := fun s hs => hRb s (List.mem_of_mem_drop (sortS_mem.1 (hQf ▸ hs)))
    have hQL : Q.length ≤ LB := by unfold LB; omega
    have hq24 : (q + 1) * 24 ≤ 140737488355328 := by omega
    have hvl : ((R.take q).map fun x => [x]).length = q := by rw [List.length_map, List.length_take]; omega
    refine sq (sg ?_)
    refine gtE (fun h => ?_) (fun h => ?_)
    · have hnm : ¬ R.length ≤ m := fun e => by
        rw [if_pos e] at hp
        have h5 : 0 < Q.length := Int.ofNat_lt.1 h
        omega
      rw [if_neg hnm] at hlay
      refine cT (rg ?_)
      refine bsl fun b2 => ?_
      refine app 1 (fun A9 c9 => ?_) (hlim := hq24)
      refine runE ?_
      refine efrz 0 fun g2 hs2 hsn2 => ?_
      refine efrz 0 fun g3 hs3 hsn3 => ?_
      have tQ : Sl g2 A8 c8 Q := Sl.ofTexts (l := Q) hsn2 rfl hQb hQL
      have hw3 : Rw g3 ((R.take q).map (fun x => [x]) ++ [Q]) (vs ++ [.slice A8 Q.length c8]) := ((hrw.mono hs2).mono hs3).snoc ⟨A8, c8, rfl, tQ.mono hs3⟩
      refine sgE ?_
      refine ew_ret ?_
      have hlen : q + 1 = ((R.take q).map (fun x => [x]) ++ [Q]).length := by rw [List.length_append, hvl]; rfl
      refine ret2 (v1 := .slice A9 (q + 1) c9) (v2 := i64 0) ⟨A9, c9, ?_, ?_⟩
      · rw [hlay, hE, ← hQf, ← hlen]
      · rw [hlay, ← hQf]
        exact hw3.sl hsn3 hlen (by rw [← hlen]; unfold LB; omega)
    · have hnm : R.length ≤ m := by
        refine Decidable.byContradiction fun e => ?_
        rw [if_neg e] at hp
        have h5 : ¬ 0 < Q.length := fun h5 => h (Int.ofNat_lt.2 h5)
        omega
      rw [if_pos hnm, List.append_nil] at hlay
      refine cFs ?_
      refine efrz 1 fun g3 hs3 hsn3 => ?_
      refine sgE ?_
      refine ew_ret ?_
      refine ret2 (v1 := .slice A7 q c7) (v2 := i64 0) ⟨A7, c7, ?_, ?_⟩
      · rw [hlay, hE, hvl]
      · rw [hlay]
        exact (hrw.mono hs3).sl hsn3 hvl.symm (by rw [hvl]; unfold LB; omega)
  refine sgE ?_
  refine bk ?_
  refine lp (σ := Nat × Nat × List Str × (Option Addr × Nat) × (Option Addr × Nat) × List Value × View) (fun s => [(9, i64 s.1), (8, .slice s.2.2.2.1.1 s.2.2.1.length s.2.2.2.1.2), (7, .slice s.2.2.2.2.1.1 s.2.1 s.2.2.2.2.1.2), (6, .slice A6 R.length c6), (1, i64 m)]) (fun s => s.2.2.2.2.2.2) (fun s => [.row s.2.2.2.1.1 s.2.2.1.length s.2.2.2.1.2 9 1 (s.2.2.1.map str), .row s.2.2.2.2.1.1 s.2.1 s.2.2.2.2.1.2 35 1 s.2.2.2.2.2.1]) (fun s => s.1 ≤ R.length ∧ s.2.1 = min (s.1) p ∧ Sub g0 s.2.2.2.2.2.2 ∧ Rw s.2.2.2.2.2.2 ((R.take (min (s.1) p)).map fun x => [x]) s.2.2.2.2.2.1 ∧ InsL (R.drop p) (s.1 - p) s.2.2.1) (fun s => R.length - s.1) (0, 0, [], (none, 0), (none, 0), [], g0) ⟨Nat.zero_le _, by simp, Sub.refl _, by simpa using Rw.nil g0, List.Pairwise.nil, by simp⟩ ?_
  rintro ⟨i, q, Q, ⟨A8, c8⟩, ⟨A7, c7⟩, vs, g⟩ ρ ⟨hi, hq, hsub, hrw, hins⟩
  replace hi : i ≤ R.length := hi
  replace hq : q = min i p := hq
  replace hsub : Sub g0 g := hsub
  replace hrw : Rw g ((R.take (min i p)).map fun x => [x]) vs := hrw
  replace hins : InsL (R.drop p) (i - p) Q := hins
  show EW _ _ _ _ _ (ups ρ [(9, i64 i), (8, .slice A8 Q.length c8), (7, .slice A7 q c7), (6, .slice A6 R.length c6), (1, i64 m)]) g [.row A8 Q.length c8 9 1 (Q.map str), .row A7 q c7 35 1 vs]
  have hQl : Q.length ≤ 12 := by
    rw [hins.2.length_eq, List.length_take, List.length_drop]; omega
  refine sq (sg ?_)
  refine ltE (fun h => ?_) (fun h => ?_)
  case refine_2 =>
    refine cFx ?_
    have e : i = R.length := by omega
    subst e
    exact jn (q, Q, (A8, c8), (A7, c7), vs, g) ⟨hq, hsub, hrw, hins⟩
  have h1 : i < R.length := by omega
  obtain ⟨b6, o6, rfl, hc6, _⟩ := (tR.mono hsub).text h1
  generalize hx : R[i] = x at hc6
  have hxb : x.length ≤ LB := by rw [← hx]; exact hRb _ (List.getElem_mem h1)
  refine cTs (bkJ (σ := Nat × List Str × (Option Addr × Nat) × (Option Addr × Nat) × List Value × View) (fun s => [(9, i64 i), (8, .slice s.2.2.1.1 s.2.1.length s.2.2.1.2), (7, .slice s.2.2.2.1.1 s.1 s.2.2.2.1.2), (6, .slice (some ⟨b6, o6, none⟩) R.length c6), (1, i64 m)]) (fun s => s.2.2.2.2.2) (fun s => [.row s.2.2.1.1 s.2.1.length s.2.2.1.2 9 1 (s.2.1.map str), .row s.2.2.2.1.1 s.1 s.2.2.2.1.2 35 1 s.2.2.2.2.1]) (fun s => s.1 = min (i + 1) p ∧ Sub g0 s.2.2.2.2.2 ∧ Rw s.2.2.2.2.2 ((R.take (min (i + 1) p)).map fun x => [x]) s.2.2.2.2.1 ∧ InsL (R.drop p) (i + 1 - p) s.2.1) ?_ ?_)
  case refine_2 =>
    rintro ⟨q2, Q2, ⟨A82, c82⟩, ⟨A72, c72⟩, vs2, g2⟩ ρ hI
    refine rg ?_
    refine addE ((i + 1 : Nat) : Int) ?_
    exact nxs (i + 1, q2, Q2, (A82, c82), (A72, c72), vs2, g2) ⟨h1, hI⟩ (by show R.length - (i + 1) < R.length - i; omega)
  refine sqJ (σ := Unit) (fun _ => [(9, i64 i), (8, .slice A8 Q.length c8), (7, .slice A7 q c7), (6, .slice (some ⟨b6, o6, none⟩) R.length c6), (1, i64 m)]) (fun _ => g) (fun _ => [.row A8 Q.length c8 9 1 (Q.map str), .row A7 q c7 35 1 vs]) (fun _ => ¬ R.length ≤ m ∧ p ≤ i) ?_ ?_
  · have hq24 : (q + 1) * 24 ≤ 140737488355328 := by omega
    have htk : R.take (i + 1) = R.take i ++ [x] := by
      rw [List.take_add_one, List.getElem?_eq_getElem h1, hx]; rfl
    refine sg ?_
    refine Go.Hog.le (fun hle => ?_) (fun hle => ?_)
    · have hip : i < p := by rw [hp, if_pos (by omega)]; exact h1
      refine runE ?_
      refine cT (sg ?_)
      refine ix i h1 ?_
      refine ldv hc6 ?_
      refine bsl fun b1 => ?_
      refine bsl fun b2 => ?_
      refine app 2 (fun A9 c9 => ?_) (hlim := hq24)
      refine rfrz 0 fun g2 hs2 hsn2 => ?_
      refine runE ?_
      refine ew_exit ?_
      have hx1 : Sl g2 (some ⟨b1, 0, none⟩) 1 [x] := Sl.ofTexts (l := [x]) hsn2 rfl (by simpa using hxb) (by simp [LB])
      refine jn (q + 1, Q, (A8, c8), (A9, c9), vs ++ [.slice (some ⟨b1, 0, none⟩) 1 1], g2) ⟨?_, hsub.trans hs2, ?_, ?_⟩
      · show q + 1 = min (i + 1) p
        omega
      · show Rw g2 ((R.take (min (i + 1) p)).map fun x => [x]) _
        rw [show min (i + 1) p = i + 1 by omega, htk, List.map_append]
        rw [show min i p = i by omega] at hrw
        exact (hrw.mono hs2).snoc ⟨some ⟨b1, 0, none⟩, 1, rfl, hx1⟩
      · show InsL (R.drop p) (i + 1 - p) Q
        rw [show i + 1 - p = i - p by omega]
        exact hins
    refine sub ((m : Int) - 1) ?_
    refine Go.Hog.lt (fun hlt => ?_) (fun hlt => ?_)
    · have hip : i < p := by rw [hp, if_neg (by omega)]; omega
      refine runE ?_
      refine cT (sg ?_)
      refine ix i h1 ?_
      refine ldv hc6 ?_
      refine bsl fun b1 => ?_
      refine bsl fun b2 => ?_
      refine app 2 (fun A9 c9 => ?_) (hlim := hq24)
      refine rfrz 0 fun g2 hs2 hsn2 => ?_
      refine runE ?_
      refine ew_exit ?_
      have hx1 : Sl g2 (some ⟨b1, 0, none⟩) 1 [x] := Sl.ofTexts (l := [x]) hsn2 rfl (by simpa using hxb) (by simp [LB])
      refine jn (q + 1, Q, (A8, c8), (A9, c9), vs ++ [.slice (some ⟨b1, 0, none⟩) 1 1], g2) ⟨?_, hsub.trans hs2, ?_, ?_⟩
      · show q + 1 = min (i + 1) p
        omega
      · show Rw g2 ((R.take (min (i + 1) p)).map fun x => [x]) _
        rw [show min (i + 1) p = i + 1 by omega, htk, List.map_append]
        rw [show min i p = i by omega] at hrw
        exact (hrw.mono hs2).snoc ⟨some ⟨b1, 0, none⟩, 1, rfl, hx1⟩
      · show InsL (R.drop p) (i + 1 - p) Q
        rw [show i + 1 - p = i - p by omega]
        exact hins
    · refine runE ?_
      refine cFs ?_
      have hnm : ¬ R.length ≤ m := by omega
      exact jn () ⟨hnm, by rw [hp, if_neg hnm]; omega⟩
  rintro ⟨⟩ ρ ⟨hno, hpi⟩
  have hpe : p = m - 1 := by rw [hp, if_neg hno]
  have hxe : (R.drop p)[i - p]'(by rw [List.length_drop]; omega) = x := by
    rw [← hx, List.getElem_drop]
    congr 1
    omega
  refine erowF 0 fun hrow0 => ?_
  have hoc := hrow0.2.1
  refine sgE ?_
  refine sqJ (σ := Nat) (fun k => [(10, i64 k), (9, i64 i), (8, .slice A8 Q.length c8), (7, .slice A7 q c7), (6, .slice (some ⟨b6, o6, none⟩) R.length c6), (1, i64 m)]) (fun _ => g) (fun _ => [.row A8 Q.length c8 9 1 (Q.map str), .row A7 q c7 35 1 vs]) (fun k => k ≤ Q.length ∧ (∀ y ∈ Q.drop k, x < y) ∧ (k = 0 ∨ ∃ h : k - 1 < Q.length, ¬ x < Q[k - 1])) ?_ ?_
  · refine bk ?_
    refine lp (σ := Nat) (fun k => [(10, i64 k), (9, i64 i), (8, .slice A8 Q.length c8), (7, .slice A7 q c7), (6, .slice (some ⟨b6, o6, none⟩) R.length c6), (1, i64 m)]) (fun _ => g) (fun _ => [.row A8 Q.length c8 9 1 (Q.map str), .row A7 q c7 35 1 vs]) (fun k => k ≤ Q.length ∧ ∀ y ∈ Q.drop k, x < y) (fun k => k) Q.length ⟨Nat.le_refl _, by simp⟩ ?_
    rintro k ρ ⟨hk, hgt⟩
    replace hk : k ≤ Q.length := hk
    refine sq (sQ ?_)
    refine Go.Hog.gt (fun hk0 => ?_) (fun hk0 => ?_)
    case refine_2 =>
      refine runE ?_
      refine cFx ?_
      exact jn k ⟨hk, hgt, .inl (by omega)⟩
    have hk1 : k - 1 < Q.length := by omega
    have hco : (Q.map str)[0 + (k - 1) * 1]? = some (str Q[k - 1]) := by simp [hk1]
    refine rowF 0 fun hrow => ?_
    obtain ⟨b10, rfl⟩ := hrow.2.2.2.1 (by omega)
    refine sub ((k - 1 : Nat) : Int) ?_
    refine ix (k - 1) hk1 ?_
    refine ldr 0 hco ?_
    refine ix i h1 ?_
    refine ldv hc6 ?_
    refine gtSE (fun hlt => ?_) (fun hlt => ?_)
    · refine cTs (bk (rg ?_))
      refine subE ((k - 1 : Nat) : Int) ?_
      refine nxs (k - 1) ⟨by omega, fun y hy => ?_⟩ (by show k - 1 < k; omega)
      have hdk : Q.drop (k - 1) = Q[k - 1] :: Q.drop k := by
        rw [List.drop_eq_getElem_cons hk1, show k - 1 + 1 = k by omega]
      rw [hdk] at hy
      rcases List.mem_cons.1 hy with rfl | hy
      · exact hlt
      · exact hgt y hy
    · refine cFx ?_
      exact jn k ⟨hk, hgt, .inr ⟨hk1, hlt⟩⟩
  rintro k ρ ⟨hk, hgt, hle⟩
  replace hk : k ≤ Q.length := hk
  refine eA [0, 1, 2, 4, 5, 6, 7, 10, 11, 12] [.row A8 Q.length c8 9 1 (Q.map str), .row A7 q c7 35 1 vs] (List.Sublist.refl _) ?_
  have z1 : ((Q.map str).take (k * 1)).length = k * 1 := by simp; omega
  have z2 : ((Q.map str).drop (k * 1)).length = (Q.length - k) * 1 := by simp
  have z3 : ∀ u ∈ (Q.map str).take (k * 1), u.oneCell' = true := fun u hu => by
    obtain ⟨r, _, rfl⟩ := List.mem_map.1 (List.mem_of_mem_take hu)
    rfl
  have z4 : ∀ u ∈ (Q.map str).drop (k * 1), u.oneCell' = true := fun u hu => by
    obtain ⟨r, _, rfl⟩ := List.mem_map.1 (List.mem_of_mem_drop hu)
    rfl
  have z5 : (0 + k) * 16 ≤ 140737488355328 := by omega
  have z6 : (0 + k + 1) * 16 ≤ 140737488355328 := by omega
  have z7 : (0 + k + 1 + (Q.length - k)) * 16 ≤ 140737488355328 := by omega
  have z8 : k ≤ c8 := by omega
  have z9 : Q.length ≤ c8 := by omega
  refine an_takeH [0, 1, 2, 4, 5, 6, 7, 10, 11, 12] HeldL.same ?_
  refine slH k z8 ?_
  refine ix i h1 ?_
  refine ldv hc6 ?_
  refine slL' k hk z9 ?_
  refine rw_end ?_
  refine an_have (α := Nat × Option Addr × Nat) (lsA 15 [0, 1, 2, 3, 4, 5, 6, 7, 8, 10, 11, 12]) (fun s => [(69, .slice s.2.1 (0 + k) s.2.2), (74, .slice (some ⟨s.1, 0, none⟩) 1 1), (78, .slice (A8.map fun a => if k = c8 then a else a.add (k * 1)) (Q.length - k) (c8 - k)), (10, i64 k), (9, i64 i), (8, .slice A8 Q.length c8), (7, .slice A7 q c7), (6, .slice (some ⟨b6, o6, none⟩) R.length c6), (1, i64 m)]) (fun _ => g) (fun s => [.row (some ⟨s.1, 0, none⟩) 1 1 9 1 [str x], .row s.2.1 (0 + k) s.2.2 9 1 ([] ++ (Q.map str).take (k * 1)), .row A8 Q.length c8 9 1 (Q.map str), .row A7 q c7 35 1 vs]) ?_ (fun T => ?_)
  · rintro ⟨b8, Ay, cy⟩ ρ
    refine an_run1 9 ?_
    refine app 0 (fun Az cz => ?_) (hlim := z6)
    refine aH HeldL.same.cons ?_
    refine an_run1 13 ?_
    refine appW 0 z2 (fun w hw h0 => hw.rowTail (i := 1) (j := k) rfl (by omega)) z4 (fun A9 c9 => ?_) (hlim := z7)
    refine aH HeldL.same.cons ?_
    refine an_L [.row A9 (0 + k + 1 + (Q.length - k)) c9 9 1 ([] ++ (Q.map str).take (k * 1) ++ [str x] ++ (Q.map str).drop (k * 1)), .row A7 q c7 35 1 vs] (fun _ h => h.sublist (.cons_cons _ (.cons _ (List.Sublist.refl _)))) ?_
    refine an_takeU [14] ?_
    refine an_done ?_
    have hnl : (Q.take k ++ [x] ++ Q.drop k).length = 0 + k + 1 + (Q.length - k) := by simp; omega
    refine jn (q, Q.take k ++ [x] ++ Q.drop k, (A9, c9), (A7, c7), vs, g) ⟨?_, hsub, ?_, ?_⟩ (hh := ?_) (ha := ⟨rfl, ?_, rfl, rfl, rfl, trivial⟩)
    · show q = min (i + 1) p
      omega
    · show Rw g ((R.take (min (i + 1) p)).map fun x => [x]) vs
      rw [show min (i + 1) p = min i p by omega]
      exact hrw
    · show InsL (R.drop p) (i + 1 - p) _
      rw [show i + 1 - p = (i - p) + 1 by omega]
      have hst := hins.step (show i - p < (R.drop p).length by rw [List.length_drop]; omega) hk
      rw [hxe] at hst
      exact hst hgt hle
    · show [HE.row A9 (Q.take k ++ [x] ++ Q.drop k).length c9 _ 1 ((Q.take k ++ [x] ++ Q.drop k).map str), _] = _
      rw [hnl]
      simp
    · show Value.slice A9 _ c9 = .slice A9 (Q.take k ++ [x] ++ Q.drop k).length c9
      rw [hnl]
  refine an_run2 3 8 ?_ ?_
  · refine nilrow 9 1 ?_
    refine appW 0 z1 (fun w hw h0 => ?_) z3 (fun Ay cy => ?_) (hlim := z5)
    · obtain ⟨b, o, e, hc⟩ := hw.rowAll (i := 1) rfl (show 0 < Q.length by omega)
      exact ⟨b, o, e, fun j u hj => hc j u (by rw [List.getElem?_take] at hj; split at hj; exact hj; cases hj)⟩
    refine aH HeldL.same.cons ?_
    refine an_run1 8 ?_
    refine bsl fun b8 => ?_
    refine aH HeldL.same.cons.cons ?_
    exact an_use T (b8, Ay, cy)
  · refine bsl fun b8 => ?_
    refine aH HeldL.same.cons ?_
    refine an_run1 3 ?_
    refine nilrow 9 1 ?_
    refine appW 0 z1 (fun w hw h0 => ?_) z3 (fun Ay cy => ?_) (hlim := z5)
    · obtain ⟨b, o, e, hc⟩ := hw.rowAll (i := 2) rfl (show 0 < Q.length by omega)
      exact ⟨b, o, e, fun j u hj => hc j u (by rw [List.getElem?_take] at hj; split at hj; exact hj; cases hj)⟩
    refine aH HeldL.same.cons.cons ?_
    refine an_perm (.swap _ _ _) ?_
    exact an_use T (b8, Ay, cy)
end Go.Hog
