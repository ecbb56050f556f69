/- RelocSteps answers true. -/
import Derived.Test.YtdidefhdcinecaaGreatDoorF67
set_option linter.unusedVariables false
set_option linter.unusedSimpArgs false
set_option maxRecDepth 100000
set_option maxHeartbeats 1000000
namespace Go.Hog
open Go.RowKit Rp Go.Proofs
theorem relocStepsT {w : World} {f : View} (hv : On f w) (hm : ML f) {p q r : Str} (hp : p.length ≤ LB) (hq : q.length ≤ LB) (hr : r.length ≤ LB) {A : Option Addr} {c : Nat} {a : List Item} (ha : Sl f A c a) :
    Con Tryz.prog 6 [str p, str q, str r, .slice A a.length c] w (Ret w f fun _ v => v = .bool true) := by
  refine enterC hv Tryz.call6 Tryz.func6 ?_
  refine sgE ?_
  refine sq (sg ?_)
  refine gt (fun h => ?_) (fun h => ?_)
  · refine runE ?_
    refine cT (sg ?_)
    refine callV (.bool true) (vs := []) (fun w g hs _ hon => awake25 hon (hm.mono hs)) ?_
    refine runE ?_
    refine ew_ret ?_
    exact ret1 rfl
  refine gt (fun h => ?_) (fun h => ?_)
  · refine runE ?_
    refine cT (sg ?_)
    refine callV (.bool true) (vs := []) (fun w g hs _ hon => awake25 hon (hm.mono hs)) ?_
    refine runE ?_
    refine ew_ret ?_
    exact ret1 rfl
  refine gt (fun h => ?_) (fun h => ?_)
  · refine runE ?_
    refine cT (sg ?_)
    refine callV (.bool true) (vs := []) (fun w g hs _ hon => awake25 hon (hm.mono hs)) ?_
    refine runE ?_
    refine ew_ret ?_
    exact ret1 rfl
  refine callB (p := GreatI a) (vs := [.slice A a.length c]) (fun w g hs _ hon => greatItems hon (ha.mono hs)) (fun h1 => ?_) (fun h1 => ?_)
  · refine runE ?_
    refine cT (sg ?_)
    refine callV (.bool true) (vs := []) (fun w g hs _ hon => awake25 hon (hm.mono hs)) ?_
    refine runE ?_
    refine ew_ret ?_
    exact ret1 rfl
  obtain ⟨h10, hroom⟩ := great_room h1
  refine runE ?_
  refine cFs ?_
  refine efg [(0, str p), (1, str q), (2, str r), (3, .slice A a.length c)] [] (fun ρ => ?_)
  have hT := to_con hm hp hq ha hroom
  have hB := toR_itB (o := p) (n := q) ha.itB
  have hL := toR_len p q a
  have hM := room_to hroom p q
  have hR0 := fun h => toR_zero (o := p) (n := q) (a := a) h
  have hR1 := fun h => toR_bad (o := p) (n := q) (a := a) h
  have hZ := fun h : toE p q a = 0 => (toE_zero.1 h).2.2.2.2
  have hS := fun h : toE p q a = 0 => to_steps (c := r) h
  obtain ⟨E, R, hE, hR⟩ := to_ex f p q a
  rw [← hE, ← hR] at hT
  rw [← hR] at hB hL hR0 hR1 hM
  rw [← hE] at hR0 hR1 hZ hS
  clear hE hR
  refine sg ?_
  refine callM0 (vs := [str p, str q, .slice A a.length c]) [] (fun w hon hgi => hT w f (Sub.refl _) hon) (fun v g1 L' hs1 hRR => ?_)
  obtain ⟨its, A7, c7, hi, rfl, rfl⟩ := hRR
  refine rfrzA [] _ (List.Perm.refl _) fun g2 hs2 hsn => ?_
  obtain ⟨hsl, hil⟩ := to_sl hsn hi hB (by unfold LB; omega)
  rw [hil]
  refine runE ?_
  have hm2 := hm.mono (hs1.trans hs2)
  have ha2 := ha.mono (hs1.trans hs2)
  refine efg [(9, .slice A7 R.length c7), (10, i64 E), (0, str p), (1, str q), (2, str r), (3, .slice A a.length c)] [] (fun ρ => ?_)
  refine sq (sg ?_)
  refine neIE (fun h => ?_) (fun h => ?_)
  · refine cT (sg ?_)
    rw [hR1 h]
    refine eqI (fun _ => ?_) (fun h => absurd rfl h)
    refine callV (.bool true) (vs := []) (fun w g hs _ hon => awake25 hon (hm2.mono hs)) ?_
    refine runE ?_
    refine ew_ret ?_
    exact ret1 rfl
  have hE0 : E = 0 := Classical.not_not.1 h
  have hRm := hR0 hE0
  have hv1 := hZ hE0
  have hs0 := hS hE0
  rw [← hRm] at hv1 hs0
  clear hR0 hR1 hZ hS hT
  refine cFs ?_
  have hT := to_con hm2 hq hr hsl hM
  have hB2 := toR_itB (o := q) (n := r) hB
  have hL2 := toR_len q r R
  have hR0 := fun h => toR_zero (o := q) (n := r) (a := R) h
  have hR1 := fun h => toR_bad (o := q) (n := r) (a := R) h
  have hsec := fun h => toE_second (b := q) (c := r) (l := R) hv1 h
  obtain ⟨E2, R2, hE, hR⟩ := to_ex f q r R
  rw [← hE, ← hR] at hT
  rw [← hR] at hB2 hL2 hR0 hR1
  rw [← hE] at hR0 hR1 hs0 hsec
  clear hE hR
  refine sg ?_
  refine callM0 (vs := [str q, str r, .slice A7 R.length c7]) [] (fun w hon hgi => hT w g2 (Sub.refl _) hon) (fun v g3 L' hs3 hRR => ?_)
  obtain ⟨its2, A8, c8, hi2, rfl, rfl⟩ := hRR
  refine rfrzA [] _ (List.Perm.refl _) fun g4 hs4 hsn2 => ?_
  obtain ⟨hsl2, hil2⟩ := to_sl hsn2 hi2 hB2 (by unfold LB; omega)
  rw [hil2]
  refine runE ?_
  have hm4 := hm2.mono (hs3.trans hs4)
  have ha4 := ha2.mono (hs3.trans hs4)
  refine efg [(11, .slice A8 R2.length c8), (12, i64 E2), (0, str p), (2, str r), (3, .slice A a.length c)] [] (fun ρ => ?_)
  refine sq (sg ?_)
  refine neIE (fun h => ?_) (fun h => ?_)
  · refine cT (sg ?_)
    rw [hR1 h]
    refine eqI (fun _ => ?_) (fun h => absurd rfl h)
    have aw : ∀ (w : World) (g : View), Sub g4 g → On g w → Con Tryz.prog 8 [] w (Ret w g fun _ v => v = .bool true) := fun w g hs hon => awake25 hon (hm4.mono hs)
    rcases hsec h with e | e | e
    · subst e
      refine eqI (fun _ => ?_) (fun h => absurd rfl h)
      refine callV (.bool true) (vs := []) (fun w g hs _ hon => aw w g hs hon) ?_
      refine runE ?_
      refine ew_ret ?_
      exact ret1 rfl
    · subst e
      refine eqI (fun h => absurd h (show ¬ (9 : Int) = 11 by decide)) (fun _ => ?_)
      refine eqI (fun _ => ?_) (fun h => absurd rfl h)
      refine callV (.bool true) (vs := []) (fun w g hs _ hon => aw w g hs hon) ?_
      refine runE ?_
      refine ew_ret ?_
      exact ret1 rfl
    · subst e
      refine eqI (fun h => absurd h (show ¬ (8 : Int) = 11 by decide)) (fun _ => ?_)
      refine eqI (fun h => absurd h (show ¬ (8 : Int) = 9 by decide)) (fun _ => ?_)
      refine eqI (fun _ => ?_) (fun h => absurd rfl h)
      refine callV (.bool true) (vs := []) (fun w g hs _ hon => aw w g hs hon) ?_
      refine runE ?_
      refine ew_ret ?_
      exact ret1 rfl
  have hE20 : E2 = 0 := Classical.not_not.1 h
  have hRm2 := hR0 hE20
  obtain ⟨k1, k2⟩ := hs0 hE20
  clear hR0 hR1 hT hsec hs0
  refine cFs ?_
  have hT := to_con hm4 hp hr ha4 hroom
  have hB3 := toR_itB (o := p) (n := r) ha.itB
  have hL3 := toR_len p r a
  have hR3 := toR_zero k1
  rw [← k2, ← hRm2] at hR3
  rw [k1, hR3] at hT
  refine sg ?_
  refine callM0 (vs := [str p, str r, .slice A a.length c]) [] (fun w hon hgi => hT w g4 (Sub.refl _) hon) (fun v g5 L' hs5 hRR => ?_)
  obtain ⟨its3, A9, c9, hi3, rfl, rfl⟩ := hRR
  refine rfrzA [] _ (List.Perm.refl _) fun g6 hs6 hsn3 => ?_
  obtain ⟨hsl3, hil3⟩ := to_sl hsn3 hi3 hB2 (by unfold LB; omega)
  rw [hil3]
  refine runE ?_
  have hm6 := hm4.mono (hs5.trans hs6)
  have hs26 := hsl2.mono (hs5.trans hs6)
  refine efg [(13, .slice A9 R2.length c9), (14, i64 0), (11, .slice A8 R2.length c8)] [] (fun ρ => ?_)
  refine sg ?_
  refine eqI (fun _ => ?_) (fun h => absurd rfl h)
  refine callV (.bool (decide (R2 = R2))) (vs := [.slice A8 R2.length c8, .slice A9 R2.length c9]) (fun w g h1 h2 h3 => sameItems h3 (hs26.mono h1) (hsl3.mono h1)) ?_
  rw [decide_eq_true rfl]
  refine callV (.bool true) (vs := []) (fun w g hs _ hon => awake25 hon (hm6.mono hs)) ?_
  refine runE ?_
  refine ew_ret ?_
  exact ret1 rfl
end Go.Hog
