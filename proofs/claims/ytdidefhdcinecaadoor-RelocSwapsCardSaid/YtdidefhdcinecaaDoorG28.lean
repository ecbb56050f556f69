/- RelocSwaps answers true. -/
import Derived.Test.YtdidefhdcinecaaDoorF66
set_option linter.unusedVariables false
set_option linter.unusedSimpArgs false
set_option maxRecDepth 100000
set_option maxHeartbeats 1000000
namespace Go.Hog
open Go.RowKit Rp Go.Proofs
theorem swaps_facts {s o n : Str} (h1 : prefixOk o) (h2 : prefixOk n) (hl : o.length = n.length) (hne : o ≠ n) (hh : ¬ hasL s n) :
    swS (swS s o n) n o = s ∧ cnS (swS s o n) n o = cnS s o n ∧ (placesI s o).length = cnS s o n ∧ ¬ hasL (swS s o n) o ∧ (placesI (swS s o n) n).length = cnS s o n := by
  have ho := prefix_pf h1
  have hn := prefix_pf h2
  have hz : ocN n s = 0 := by
    by_cases e : ocN n s = 0
    · exact e
    · exact absurd ((has_ocN hn.ne).2 (by omega)) hh
  have e1 : cnS s o n = ocN o s := by
    unfold cnS
    rw [if_neg (by rintro (h | h); exact ho.ne h; exact h hl.symm), cn_ocN ho]
  rw [e1, swS_pf ho hl.symm, swS_pf hn hl, places_ocN ho.ne, places_ocN hn.ne, has_ocN ho.ne]
  refine ⟨sw_back ho hn hz hl hne, ?_, rfl, ?_, sw_there ho hn hl hne hz⟩
  · unfold cnS
    rw [if_neg (by rintro (h | h); exact hn.ne h; exact h hl), cn_ocN hn, sw_there ho hn hl hne hz]
  · rw [sw_gone ho hn hl hne]
    omega
theorem swaps_con {f : View} (hm : ML f) {s o n : Str} (hs : s.length ≤ 300) (h1 : prefixOk o) (h2 : prefixOk n) (hl : o.length = n.length) (hne : o ≠ n) (hh : ¬ hasL s n) : ∃ (a : Str) (N : Nat),
    (∀ (w : World) (g : View), Sub f g → On g w → Con Tryd.prog 7 [str s, str o, str n] w (Ret w g fun _ v => v = .tuple #[str a, i64 (N : Nat)])) ∧
    (∀ (w : World) (g : View), Sub f g → On g w → Con Tryd.prog 7 [str a, str n, str o] w (Ret w g fun _ v => v = .tuple #[str s, i64 (N : Nat)])) ∧
    (placesI s o).length = N ∧ ¬ hasL a o ∧ (placesI a n).length = N ∧ a.length = s.length := by
  obtain ⟨f1, f2, f3, f4, f5⟩ := swaps_facts h1 h2 hl hne hh
  have f6 := swS_len s o n
  refine ⟨swS s o n, cnS s o n, fun w g h1 h3 => relocSwap h3 (hm.mono h1) (Nat.le_trans hs (by decide)), fun w g h1 h3 => ?_, f3, f4, f5, f6⟩
  have := relocSwap h3 (hm.mono h1) (s := swS s o n) (o := n) (n := o) (by rw [f6]; exact Nat.le_trans hs (by decide))
  rw [f1, f2] at this
  exact this
theorem relocSwapsT {w : World} {f : View} (hv : On f w) (hm : ML f) {s o n : Str} (hs : s.length ≤ LB) (ho : o.length ≤ LB) (hn : n.length ≤ LB) :
    Con Tryd.prog 3 [str s, str o, str n] w (Ret w f fun _ v => v = .bool true) := by
  refine enterC hv Tryd.call3 Tryd.func3 ?_
  refine sgE ?_
  refine sq (sg ?_)
  refine gt (fun h => ?_) (fun h => ?_)
  · refine runE ?_
    refine cT (sg ?_)
    refine callV (.bool true) (vs := []) (fun w g hs _ hon => awake25 hon (hm.mono hs)) ?_
    refine runE ?_
    refine ew_ret ?_
    exact ret1 rfl
  have hs3 : s.length ≤ 300 := by omega
  refine callB (p := prefixOk o) (vs := [str o]) (fun w g h1 h2 h3 => closurePrefix h3 (hm.mono h1) ho) (fun hpo => ?_) (fun hpo => ?_)
  case refine_2 =>
    refine runE ?_
    refine cT (sg ?_)
    refine callV (.bool true) (vs := []) (fun w g hs _ hon => awake25 hon (hm.mono hs)) ?_
    refine runE ?_
    refine ew_ret ?_
    exact ret1 rfl
  refine callB (p := prefixOk n) (vs := [str n]) (fun w g h1 h2 h3 => closurePrefix h3 (hm.mono h1) hn) (fun hpn => ?_) (fun hpn => ?_)
  case refine_2 =>
    refine runE ?_
    refine cT (sg ?_)
    refine callV (.bool true) (vs := []) (fun w g hs _ hon => awake25 hon (hm.mono hs)) ?_
    refine runE ?_
    refine ew_ret ?_
    exact ret1 rfl
  refine neI (fun hl => ?_) (fun hl => ?_)
  · refine runE ?_
    refine cT (sg ?_)
    refine callV (.bool true) (vs := []) (fun w g hs _ hon => awake25 hon (hm.mono hs)) ?_
    refine runE ?_
    refine ew_ret ?_
    exact ret1 rfl
  have hl' : o.length = n.length := by omega
  refine eqS (fun hne => ?_) (fun hne => ?_)
  · refine runE ?_
    refine cT (sg ?_)
    refine callV (.bool true) (vs := []) (fun w g hs _ hon => awake25 hon (hm.mono hs)) ?_
    refine runE ?_
    refine ew_ret ?_
    exact ret1 rfl
  refine callB (p := hasL s n) (vs := [str s, str n]) (fun w g h1 h2 h3 => scanHas h3 (hm.mono h1) (by omega)) (fun hh => ?_) (fun hh => ?_)
  · refine runE ?_
    refine cT (sg ?_)
    refine callV (.bool true) (vs := []) (fun w g hs _ hon => awake25 hon (hm.mono hs)) ?_
    refine runE ?_
    refine ew_ret ?_
    exact ret1 rfl
  obtain ⟨a, N, hsw1, hsw2, f3, f4, f5, f6⟩ := swaps_con hm hs3 hpo hpn hl' hne hh
  refine runE ?_
  refine cFs ?_
  refine efg [(0, str s), (1, str o), (2, str n)] [] (fun ρ => ?_)
  refine sg ?_
  refine callV (.tuple #[str a, i64 (N : Nat)]) (vs := [str s, str o, str n]) (fun w g h1 h2 h3 => hsw1 w g h1 h3) ?_
  refine runE ?_
  refine sg ?_
  refine callV (.tuple #[str s, i64 (N : Nat)]) (vs := [str a, str n, str o]) (fun w g h1 h2 h3 => hsw2 w g h1 h3) ?_
  refine runE ?_
  refine efg [(9, str s), (10, i64 (N : Nat)), (7, str a), (8, i64 (N : Nat)), (0, str s), (1, str o), (2, str n)] [] (fun ρ => ?_)
  refine sg ?_
  refine eqS (fun _ => ?_) (fun h => absurd rfl h)
  refine eqI (fun _ => ?_) (fun h => absurd rfl h)
  refine callM0 (vs := [str s, str o]) [] (fun w hon hgi => scanPlaces hon hm (by omega)) (fun v g1 L' hs1 hR => ?_)
  obtain ⟨A5, c5, rfl, rfl⟩ := hR
  rw [f3]
  refine eqI (fun _ => ?_) (fun h => absurd rfl h)
  refine dropH ?_
  refine callB (p := hasL a o) (vs := [str a, str o]) (fun w g h1 h2 h3 => scanHas h3 ((hm.mono hs1).mono h1) (by omega)) (fun h => absurd h f4) (fun _ => ?_)
  refine callM0 (vs := [str a, str n]) [] (fun w hon hgi => scanPlaces hon (hm.mono hs1) (by omega)) (fun v g2 L' hs2 hR => ?_)
  obtain ⟨A6, c6, rfl, rfl⟩ := hR
  rw [f5]
  refine eqI (fun _ => ?_) (fun h => absurd rfl h)
  refine dropH ?_
  refine eqI (fun _ => ?_) (fun h => absurd (show ((a.length : Nat) : Int) = (s.length : Nat) by omega) h)
  refine callV (.bool true) (vs := []) (fun w g hs _ hon => awake25 hon ((hm.mono (hs1.trans hs2)).mono hs)) ?_
  refine runE ?_
  refine ew_ret ?_
  exact ret1 rfl
end Go.Hog
