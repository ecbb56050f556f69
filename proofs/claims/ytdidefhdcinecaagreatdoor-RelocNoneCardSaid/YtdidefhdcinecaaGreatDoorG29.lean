/- RelocNone answers true. -/
import Derived.Test.YtdidefhdcinecaaGreatDoorF67
set_option linter.unusedVariables false
set_option linter.unusedSimpArgs false
set_option maxRecDepth 100000
set_option maxHeartbeats 1000000
namespace Go.Hog
open Go.RowKit Rp Go.Proofs
theorem relocNoneT {w : World} {f : View} (hv : On f w) (hm : ML f) {o n : Str} (ho : o.length ≤ LB) (hn : n.length ≤ LB) {A : Option Addr} {c : Nat} {a : List Item} (ha : Sl f A c a) :
    Con Tryz.prog 5 [str o, str n, .slice A a.length c] w (Ret w f fun _ v => v = .bool true) := by
  refine enterC hv Tryz.call5 Tryz.func5 ?_
  refine sgE ?_
  refine sq (sg ?_)
  refine gt (fun h => ?_) (fun h => ?_)
  · refine runE ?_
    refine cT (sg ?_)
    refine callV (.bool true) (vs := []) (fun w g hs _ hon => awake25 hon (hm.mono hs)) ?_
    refine runE ?_
    refine ew_ret ?_
    exact ret1 rfl
  refine gt (fun h => ?_) (fun h => ?_)
  · refine runE ?_
    refine cT (sg ?_)
    refine callV (.bool true) (vs := []) (fun w g hs _ hon => awake25 hon (hm.mono hs)) ?_
    refine runE ?_
    refine ew_ret ?_
    exact ret1 rfl
  refine callB (p := GreatI a) (vs := [.slice A a.length c]) (fun w g hs _ hon => greatItems hon (ha.mono hs)) (fun h1 => ?_) (fun h1 => ?_)
  · refine runE ?_
    refine cT (sg ?_)
    refine callV (.bool true) (vs := []) (fun w g hs _ hon => awake25 hon (hm.mono hs)) ?_
    refine runE ?_
    refine ew_ret ?_
    exact ret1 rfl
  obtain ⟨h10, hroom⟩ := great_room h1
  refine callV (i64 (cntI o a : Nat)) (vs := [.slice A a.length c, str o]) (fun w g h1 h2 h3 => relocCount h3 (hm.mono h1) (ha.mono h1) hroom.1) ?_
  refine neI (fun h => ?_) (fun hc1 => ?_)
  · refine runE ?_
    refine cT (sg ?_)
    refine callV (.bool true) (vs := []) (fun w g hs _ hon => awake25 hon (hm.mono hs)) ?_
    refine runE ?_
    refine ew_ret ?_
    exact ret1 rfl
  refine callV (i64 (cntI n a : Nat)) (vs := [.slice A a.length c, str n]) (fun w g h1 h2 h3 => relocCount h3 (hm.mono h1) (ha.mono h1) hroom.1) ?_
  refine neI (fun h => ?_) (fun hc2 => ?_)
  · refine runE ?_
    refine cT (sg ?_)
    refine callV (.bool true) (vs := []) (fun w g hs _ hon => awake25 hon (hm.mono hs)) ?_
    refine runE ?_
    refine ew_ret ?_
    exact ret1 rfl
  refine runE ?_
  refine cFs ?_
  refine efg [(0, str o), (1, str n), (2, .slice A a.length c)] [] (fun ρ => ?_)
  obtain ⟨fE, fR⟩ := to_none (o := o) (n := n) (a := a) (by omega) (by omega)
  have hT := to_con hm ho hn ha hroom
  have hB := toR_itB (o := o) (n := n) ha.itB
  have hL := toR_len o n a
  have hR0 := fun h => toR_zero (o := o) (n := n) (a := a) h
  have hR1 := fun h => toR_bad (o := o) (n := n) (a := a) h
  obtain ⟨E, R, hE, hR⟩ := to_ex f o n a
  rw [← hE, ← hR] at hT
  rw [← hR] at hB hL hR0 hR1
  rw [← hE] at fE fR hR0 hR1
  have hRa : E = 0 → R = a := fun h => by rw [hR0 h, fR h]
  clear hE hR hR0 fR
  refine sg ?_
  refine callM0 (vs := [str o, str n, .slice A a.length c]) [] (fun w hon hgi => hT w f (Sub.refl _) hon) (fun v g1 L' hs1 hRR => ?_)
  obtain ⟨its, A7, c7, hi, rfl, rfl⟩ := hRR
  refine rfrzA [] _ (List.Perm.refl _) fun g2 hs2 hsn => ?_
  obtain ⟨hsl, hil⟩ := to_sl hsn hi hB (by unfold LB; omega)
  rw [hil]
  refine runE ?_
  have hm2 := hm.mono (hs1.trans hs2)
  have ha2 := ha.mono (hs1.trans hs2)
  refine efg [(7, .slice A7 R.length c7), (8, i64 E), (0, str o), (1, str n), (2, .slice A a.length c)] [] (fun ρ => ?_)
  refine sg ?_
  refine callV (i64 (valE o a)) (vs := [str o, .slice A a.length c]) (fun w g h1 h2 h3 => closureValidate h3 (hm2.mono h1) ho (ha2.mono h1)) ?_
  refine runE ?_
  refine sqJ (σ := Unit) (fun _ => [(9, i64 E), (7, .slice A7 R.length c7), (8, i64 E), (2, .slice A a.length c)]) (fun _ => g2) (fun _ => []) (fun _ => True) ?_ ?_
  · refine sg ?_
    refine eqI (fun hv0 => ?_) (fun hv0 => ?_)
    case refine_2 =>
      refine runE ?_
      refine cFs ?_
      exact jn () trivial (ha := ⟨by rw [fE, if_neg (by rintro ⟨h, _⟩; exact hv0 h)]; rfl, rfl, rfl, rfl, trivial⟩)
    refine callB (p := prefixOk n) (vs := [str n]) (fun w g h1 h2 h3 => closurePrefix h3 (hm2.mono h1) hn) (fun h2 => ?_) (fun h2 => ?_)
    case refine_2 =>
      refine runE ?_
      refine cT (rgE ?_)
      exact jn () trivial (ha := ⟨by rw [fE, if_pos ⟨hv0, .inl h2⟩]; rfl, rfl, rfl, rfl, trivial⟩)
    refine neI (fun h3 => ?_) (fun h3 => ?_)
    · refine runE ?_
      refine cT (rgE ?_)
      exact jn () trivial (ha := ⟨by rw [fE, if_pos ⟨hv0, .inr fun e => h3 (by rw [e])⟩]; rfl, rfl, rfl, rfl, trivial⟩)
    · refine runE ?_
      refine cFs ?_
      exact jn () trivial (ha := ⟨by rw [fE, if_neg (by rintro ⟨_, h | h⟩; exact h h2; exact h3 (by omega))]; rfl, rfl, rfl, rfl, trivial⟩)
  rintro ⟨⟩ ρ _
  refine sg ?_
  refine eqI (fun _ => ?_) (fun h => absurd rfl h)
  refine neI (fun h => ?_) (fun h => ?_)
  · rw [hR1 h]
    refine eqI (fun _ => ?_) (fun h => absurd rfl h)
    refine callV (.bool true) (vs := []) (fun w g hs _ hon => awake25 hon (hm2.mono hs)) ?_
    refine runE ?_
    refine ew_ret ?_
    exact ret1 rfl
  · have h0 : E = 0 := Classical.not_not.1 h
    have hRe := hRa h0
    subst hRe
    refine eqI (fun _ => ?_) (fun h => absurd h0 h)
    refine callV (.bool (decide (R = R))) (vs := [.slice A7 R.length c7, .slice A R.length c]) (fun w g h1 h2 h3 => sameItems h3 (hsl.mono h1) (ha2.mono h1)) ?_
    rw [decide_eq_true rfl]
    refine callV (.bool true) (vs := []) (fun w g hs _ hon => awake25 hon (hm2.mono hs)) ?_
    refine runE ?_
    refine ew_ret ?_
    exact ret1 rfl
end Go.Hog
