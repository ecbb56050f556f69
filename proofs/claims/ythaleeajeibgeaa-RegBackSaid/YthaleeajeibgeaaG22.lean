/- RegBack answers true. -/
import Derived.Test.YthaleeajeibgeaaG21
set_option linter.unusedVariables false
set_option linter.unusedSimpArgs false
set_option maxRecDepth 100000
set_option maxHeartbeats 1000000
namespace Go.Hog
open Go.RowKit Rp Go.Proofs
theorem rows_pv2 {g : View} {its : List RI} {A A2 : Option Addr} {c c2 : Nat} {p : Pack} (hs : ∀ e ∈ pRows its A c A2 c2 p, e.seen g) (hi : its.map (·.1) = p.items) (hb : bareOk p) (hd : Bd 1000000 1000000 p) : PackV g p A c A2 c2 :=
  rows_packV hs hi hb hd (by show 1000000 ≤ 140737488355328; omega) (by show 1000000 ≤ 140737488355328; omega)
theorem regBack {w : World} {f : View} (hv : On f w) (hm : ML f) {p : Pack} {cs : List Value} (hp0 : rp f p cs) {u : Str} (hul : u.length ≤ LB) {z : Int} (hz : -9223372036854775808 ≤ z ∧ z ≤ 9223372036854775807) :
    Con Try.prog 5 [.agg ⟨cs⟩, str u, i64 z] w (Ret w f fun _ v => v = .bool true) := by
  obtain ⟨A, c, A2, c2, rfl, hp⟩ := hp0
  unfold LB at hul
  refine enterC hv Try.call5 Try.func5 ?_
  refine sg ?_
  refine box (vs := packC p A c A2 c2) fun b1 => ?_
  refine runE ?_
  refine efrz 0 fun g hs hq => ?_
  have hp1 := hp.mono hs
  have hmg := hm.mono hs
  have hc : Cells g b1 0 (packC p A c A2 c2) := ⟨blk_seen hq, blk_seen hq, blk_seen hq, blk_seen hq, trivial⟩
  refine efg [(3, ptrTo b1), (2, i64 z), (1, str u)] [] (fun ρ => ?_)
  refine sq (sg ?_)
  refine ldvA hc ?_
  refine callB (p := GreatP p) (vs := [.agg ⟨packC p A c A2 c2⟩]) (fun w g hs _ hon => greatPack hon (hp1.mono hs)) (fun h1 => ?_) (fun h1 => ?_)
  · refine runE ?_
    refine cT (sg ?_)
    refine callV (.bool true) (vs := []) (fun w g hs _ hon => awake11 hon (hmg.mono hs)) ?_
    refine runE ?_
    refine ew_ret ?_
    exact ret1 rfl
  refine gt (fun h2 => ?_) (fun h2 => ?_)
  · refine runE ?_
    refine cT (sg ?_)
    refine callV (.bool true) (vs := []) (fun w g hs _ hon => awake11 hon (hmg.mono hs)) ?_
    refine runE ?_
    refine ew_ret ?_
    exact ret1 rfl
  have hi10 := great_items h1
  have hu4 : u.length ≤ 4000 := by omega
  refine runE ?_
  refine cFs ?_
  refine efg [(3, ptrTo b1), (2, i64 z), (1, str u)] [] (fun ρ => ?_)
  refine sg ?_
  refine ldvA hc ?_
  refine callM0 (vs := [.agg ⟨packC p A c A2 c2⟩]) [] (fun w hon hgi => regLay hon hmg hp1 (by omega)) (fun v g2 L' hs2 hR => ?_)
  obtain ⟨rfl, rfl⟩ := hR
  have hp2 := hp1.mono hs2
  have hmg2 := hmg.mono hs2
  have hc2 := Cells.mono hs2 hc
  refine runE ?_
  refine efg [(8, i64 (layE p)), (7, str (layS p)), (3, ptrTo b1), (2, i64 z), (1, str u)] [] (fun ρ => ?_)
  refine sqJ (σ := View) (fun _ => [(1, str u)]) (fun g' => g') (fun _ => []) (fun g' => Sub g2 g') ?_ ?_
  · refine sg ?_
    refine eqIE (fun h3 => ?_) (fun h3 => ?_)
    case refine_2 =>
      have hnm : ¬ mayP p := fun h => h3 (if_pos h)
      have hS : layS p = [] := if_neg hnm
      rw [hS]
      refine cF (sg ?_)
      refine neSE (fun h => absurd rfl h) (fun _ => ?_)
      refine cFs ?_
      exact jn g2 (Sub.refl _)
    have hmay : mayP p := by
      by_cases e : mayP p
      · exact e
      · exact absurd h3 (by unfold layE; rw [if_neg e]; decide)
    have hS : layS p = layT p := if_pos hmay
    have hll := lay_len hmay
    have hsb : Says (layT p) (bareP p) := ⟨(bare_may p).2 hmay, bare_ok p, bare_lay p⟩
    rw [hS]
    generalize layT p = S at hll hsb
    refine cT ?_
    refine efg [(7, str S), (3, ptrTo b1), (2, i64 z), (1, str u)] [] (fun ρ => ?_)
    refine sg ?_
    refine callM0 (vs := [str S]) [] (fun w hon hgi => regRead hon hmg2 (by omega)) (fun v g3 L' hs3 hR => ?_)
    obtain ⟨its, A', c', A3, c3, q, e, rfl, hi, rfl, hans, hbd⟩ := hR
    obtain ⟨rfl, rfl⟩ := hans.uniq (.inl ⟨rfl, hsb⟩)
    refine alloc fun b9 => ?_
    refine st 0 ?_
    refine runE ?_
    generalize hP1 : pRows its A' c' A3 c3 (bareP p) = P1
    have hpv1 : ∀ g, (∀ e ∈ P1, e.seen g) → PackV g (bareP p) A' c' A3 c3 := fun g h => rows_pv2 (by rw [hP1]; exact h) hi hsb.2.1 hbd
    generalize hBL : HE.blk b9 (.cells ⟨packC (bareP p) A' c' A3 c3⟩ 25) = B9
    refine efg [(10, i64 0), (9, ptrTo b9), (7, str S), (3, ptrTo b1), (2, i64 z), (1, str u)] (B9 :: P1) (fun ρ => ?_) (hh := by subst hBL; rfl)
    refine sqJ (σ := View) (fun _ => [(9, ptrTo b9), (7, str S), (3, ptrTo b1), (2, i64 z), (1, str u)]) (fun g' => g') (fun _ => B9 :: P1) (fun g' => Sub g3 g') ?_ ?_
    · subst hBL
      refine sA [1, 2, 3, 4] [.blk b9 (.cells ⟨packC (bareP p) A' c' A3 c3⟩ 25)] (by simp) ?_
      refine an_takeU [0] ?_
      refine an_takeH [1, 2, 3, 4] ⟨Sub.refl _, fun e he => by rw [List.mem_singleton] at he; subst he; exact .head _⟩ ?_
      refine neI (fun h => absurd rfl h) (fun _ => ?_)
      refine ldoA 0 ?_
      refine ldvA (Cells.mono hs3 hc2) ?_
      refine rw_end ?_
      refine an_run1 5 ?_
      refine callM [] (.blk b9 (.cells ⟨packC (bareP p) A' c' A3 c3⟩ 25) :: P1) (vs := [.agg ⟨packC p A c A2 c2⟩]) (fun w hon hgi => lawBare hon (hp2.mono hs3) (by omega)) (fun v g4 L' hs4 hR => ?_)
      obtain ⟨A5, c5, xs, rfl, rfl, hrw⟩ := hR
      refine aH ⟨hs4, fun e he => by rw [List.mem_singleton] at he; subst he; exact .tail _ (.head _)⟩ ?_
      refine an_run1 6 ?_
      refine callV (.bool true) (vs := [.agg ⟨packC (bareP p) A' c' A3 c3⟩, .agg ⟨packC (bareP p) A5 c5 A2 c2⟩]) (fun w g' k1 k2 k3 => ?_) ?_
      · have := samePack0 k3 (hpv1 _ fun e he => k2 e (.tail _ (.tail _ he))) (bare_packV (hp2.mono ((hs3.trans hs4).trans k1)) (k2 _ (.head _)) (hrw.mono k1)) hsb.2.1 hsb.2.1
        rwa [decide_eq_true rfl] at this
      refine a0 ?_
      refine an_takeU [7, 8] ?_
      refine an_done ?_
      refine ewL (L' := .blk b9 (.cells ⟨packC (bareP p) A' c' A3 c3⟩ 25) :: P1) (fun _ h => h.sublist (List.sublist_cons_self _ _)) ?_
      refine cFs ?_
      exact jn g4 hs4
    rintro g4 ρ hs4
    replace hs4 : Sub g3 g4 := hs4
    have hlw := lowV_lt z (n := (S.length : Int) + 1) (by omega)
    obtain ⟨j, hj⟩ : ∃ j : Nat, lowV z ((S.length : Int) + 1) = j := ⟨(lowV z ((S.length : Int) + 1)).toNat, by omega⟩
    have hjl : j ≤ S.length := by omega
    refine sg ?_
    refine add ((S.length : Int) + 1) ?_
    refine callV (i64 j) (vs := [i64 z, i64 ((S.length : Int) + 1)]) (fun w g' k1 k2 k3 => ?_) ?_
    · have := low0 k3 (x := z) (n := (S.length : Int) + 1) ⟨by omega, by omega⟩
      rwa [hj] at this
    refine slSH j hjl ?_
    refine runE ?_
    generalize hT : S.take j = T
    have hTl : T.length ≤ 10000 := by rw [← hT, List.length_take]; omega
    refine efg [(11, str T), (9, ptrTo b9), (7, str S), (1, str u)] ([] ++ (B9 :: P1)) (fun ρ => ?_)
    refine sg ?_
    refine callM [] (B9 :: P1) (vs := [str T]) (fun w hon hgi => regRead hon (hmg2.mono (hs3.trans hs4)) (by omega)) (fun v g5 L' hs5 hR => ?_)
    obtain ⟨its2, A6, c6, A7, c7, q2, e2, rfl, hi2, rfl, hans2, hbd2⟩ := hR
    refine alloc fun b12 => ?_
    refine st 0 ?_
    refine runE ?_
    have hb2 := hans2.bare
    generalize hP2 : pRows its2 A6 c6 A7 c7 q2 = P2
    have hpv2 : ∀ g, (∀ e ∈ P2, e.seen g) → PackV g q2 A6 c6 A7 c7 := fun g h => rows_pv2 (by rw [hP2]; exact h) hi2 hb2 hbd2
    refine efg [(13, i64 e2), (12, ptrTo b12), (11, str T), (9, ptrTo b9), (7, str S), (1, str u)] (.blk b12 (.cells ⟨packC q2 A6 c6 A7 c7⟩ 25) :: (P2 ++ B9 :: P1)) (fun ρ => ?_)
    have hdone : ∀ ρ, ρ 1 = str u → EW Try.prog Try.f5.ntmps ⟨w, f, []⟩ .skip (thenQ (JnS (fun (_ : View) => [(1, str u)]) (fun g' => g') (fun _ => []) (fun g' => Sub g2 g')) (retQ Try.prog Try.f5 ⟨w, f, []⟩ (Ret w f fun _ v => v = .bool true))) ρ g5 (.blk b12 (.cells ⟨packC q2 A6 c6 A7 c7⟩ 25) :: (P2 ++ B9 :: P1)) := fun ρ h => by
      refine ewL (L' := []) (fun _ h => h.sublist (List.nil_sublist _)) ?_
      exact ew_skip (jn g5 ((hs3.trans hs4).trans hs5) (ha := ⟨h, trivial⟩))
    refine sg ?_
    refine neS (fun h4 => ?_) (fun h4 => ?_)
    case refine_2 =>
      refine runE ?_
      refine cF ?_
      exact hdone _ rfl
    refine eqI (fun h5 => ?_) (fun h5 => ?_)
    case refine_2 =>
      refine runE ?_
      refine cF ?_
      exact hdone _ rfl
    have hq2 : Says T q2 := by
      rcases hans2 with ⟨_, h⟩ | ⟨h, _⟩
      · exact h
      · rw [h] at h5; exact absurd h5 (by decide)
    have hne : q2 ≠ bareP p := fun e => h4 (by rw [← hq2.2.2, e, hsb.2.2])
    subst hBL
    refine rperm (L' := .blk b12 (.cells ⟨packC q2 A6 c6 A7 c7⟩ 25) :: .blk b9 (.cells ⟨packC (bareP p) A' c' A3 c3⟩ 25) :: (P1 ++ P2)) (.cons _ (List.perm_append_comm (l₁ := P2) (l₂ := _ :: P1))) ?_
    refine ldoA 0 ?_
    refine ldoA 1 ?_
    refine callV (.bool false) (vs := [.agg ⟨packC q2 A6 c6 A7 c7⟩, .agg ⟨packC (bareP p) A' c' A3 c3⟩]) (fun w g' k1 k2 k3 => ?_) ?_
    · have := samePack0 k3 (hpv2 _ fun e he => k2 e (.tail _ (.tail _ (List.mem_append_right _ he)))) (hpv1 _ fun e he => k2 e (.tail _ (.tail _ (List.mem_append_left _ he)))) hq2.2.1 hsb.2.1
      rwa [decide_eq_false hne] at this
    refine runE ?_
    refine cF ?_
    refine ewL (L' := []) (fun _ h => h.sublist (List.nil_sublist _)) ?_
    exact ew_skip (jn g5 ((hs3.trans hs4).trans hs5))
  rintro g3 ρ hs3
  replace hs3 : Sub g2 g3 := hs3
  have hmg3 := hmg2.mono hs3
  refine sg ?_
  refine callM0 (vs := [str u]) [] (fun w hon hgi => regRead hon hmg3 (by omega)) (fun v g4 L' hs4 hR => ?_)
  obtain ⟨its, A', c', A3, c3, q, e, rfl, hi, rfl, hans, hbd⟩ := hR
  refine alloc fun b14 => ?_
  refine st 0 ?_
  refine runE ?_
  have hmg4 := hmg3.mono hs4
  have hb := hans.bare
  generalize hP1 : pRows its A' c' A3 c3 q = P1
  have hpv1 : ∀ g, (∀ e ∈ P1, e.seen g) → PackV g q A' c' A3 c3 := fun g h => rows_pv2 (by rw [hP1]; exact h) hi hb hbd
  refine efg [(15, i64 e), (14, ptrTo b14), (1, str u)] (.blk b14 (.cells ⟨packC q A' c' A3 c3⟩ 25) :: P1) (fun ρ => ?_)
  refine sq (sg ?_)
  refine neIE (fun h => ?_) (fun h => ?_)
  · have he5 : e = 5 := by
      rcases hans with ⟨h2, _⟩ | ⟨h2, _⟩
      · exact absurd h2 h
      · exact h2
    refine cT (sg ?_)
    refine eqI (fun _ => ?_) (fun h => absurd he5 h)
    refine callV (.bool true) (vs := []) (fun w g hs _ hon => awake11 hon (hmg4.mono hs)) ?_
    refine runE ?_
    refine ewL (L' := []) (fun _ h => h.sublist (List.nil_sublist _)) ?_
    refine ew_ret ?_
    exact ret1 rfl
  refine cFs ?_
  have he0 : e = 0 := by
    by_cases h2 : e = 0
    · exact h2
    · exact absurd h2 h
  have hsay : Says u q := by
    rcases hans with ⟨_, h2⟩ | ⟨h2, _⟩
    · exact h2
    · rw [he0] at h2; exact absurd h2 (by decide)
  refine sg ?_
  refine ldoA 0 ?_
  refine callMo (vs := [.agg ⟨packC q A' c' A3 c3⟩]) (R := fun L' v => v = .tuple #[str (layS q), i64 (layE q)] ∧ L' = []) (fun w' g' k1 k2 k3 => regLay k3 (hmg4.mono k1) (hpv1 _ fun e he => k2 e (.tail _ he)) hbd.items) (fun v L' hR => ?_)
  obtain ⟨rfl, rfl⟩ := hR
  have hl1 : layS q = u := by rw [show layS q = layT q from if_pos hsay.1]; exact hsay.2.2
  have hl2 : layE q = 0 := if_pos hsay.1
  rw [hl1, hl2]
  refine runE ?_
  refine efg [(17, i64 0), (16, str u), (14, ptrTo b14), (1, str u)] (.blk b14 (.cells ⟨packC q A' c' A3 c3⟩ 25) :: P1) (fun ρ => ?_)
  refine sg ?_
  refine eqI (fun _ => ?_) (fun h => absurd rfl h)
  refine eqS (fun _ => ?_) (fun h => absurd rfl h)
  refine ldoA 0 ?_
  refine callV (.bool true) (vs := [.agg ⟨packC q A' c' A3 c3⟩]) (fun w g' k1 k2 k3 => ?_) ?_
  · have := regMay k3 (hmg4.mono k1) (hpv1 _ fun e he => k2 e (.tail _ he)) hbd.items
    rwa [decide_eq_true hsay.1] at this
  refine callV (.bool true) (vs := []) (fun w g hs _ hon => awake11 hon (hmg4.mono hs)) ?_
  refine runE ?_
  refine ewL (L' := []) (fun _ h => h.sublist (List.nil_sublist _)) ?_
  refine ew_ret ?_
  exact ret1 rfl
end Go.Hog
