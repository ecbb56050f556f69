/- ClosureReached answers true. -/
import Derived.Test.YtjjlfbpmbleabaaDoorG24
set_option linter.unusedVariables false
set_option linter.unusedSimpArgs false
set_option maxRecDepth 100000
set_option maxHeartbeats 1000000
namespace Go.Hog
open Go.RowKit Rp Go.Proofs
theorem great_texts' {l : List Str} {k : Int} (h : ¬ GreatT l k 100) : (l.length : Int) ≤ k := by
  by_cases e : k < l.length
  · exact absurd (.inl e) h
  · omega
theorem someOf_take {a : List Item} {r : List Str} {k : Nat} (h : k < a.length) : someOf (a.take (k + 1)) r = someOf (a.take k) r ++ if a[k].name ∈ r then [a[k]] else [] := by
  unfold someOf
  rw [(List.take_append_getElem h).symm, List.filter_append]
  by_cases h2 : a[k].name ∈ r
  · rw [if_pos h2, List.filter_cons_of_pos (by simpa using h2), List.filter_nil]
  · rw [if_neg h2, List.filter_cons_of_neg (by simpa using h2), List.filter_nil]
theorem closureReachedT {w : World} {f : View} (hv : On f w) (hm : ML f) {s : Str} (hs : s.length ≤ LB) {A : Option Addr} {c : Nat} {a : List Item} (ha : Sl f A c a) {A1 : Option Addr} {c1 : Nat} {S : List Str} (hS : Sl f A1 c1 S) {u : Str} (hu : u.length ≤ LB) :
    Con Tryd.prog 5 [str s, .slice A a.length c, .slice A1 S.length c1, str u] w (Ret w f fun _ v => v = .bool true) := by
  refine enterC hv Tryd.call5 Tryd.func5 ?_
  have hlim := ha.len_lt
  have haw : ∀ {n : Nat} {B : Bs}, True := fun {_ _} => trivial
  refine sgE ?_
  refine sq (sg ?_)
  refine gt (fun h => ?_) (fun h => ?_)
  · refine runE ?_
    refine cT (sg ?_)
    refine callV (.bool true) (vs := []) (fun w g hs _ hon => awake9 hon (hm.mono hs)) ?_
    refine runE ?_
    refine ew_ret ?_
    exact ret1 rfl
  refine gt (fun h => ?_) (fun h => ?_)
  · refine runE ?_
    refine cT (sg ?_)
    refine callV (.bool true) (vs := []) (fun w g hs _ hon => awake9 hon (hm.mono hs)) ?_
    refine runE ?_
    refine ew_ret ?_
    exact ret1 rfl
  refine callB (p := GreatI a) (vs := [.slice A a.length c]) (fun w g hs _ hon => greatItems hon (ha.mono hs)) (fun h1 => ?_) (fun h1 => ?_)
  · refine runE ?_
    refine cT (sg ?_)
    refine callV (.bool true) (vs := []) (fun w g hs _ hon => awake9 hon (hm.mono hs)) ?_
    refine runE ?_
    refine ew_ret ?_
    exact ret1 rfl
  obtain ⟨h10, hfit⟩ := great_fit' h1
  refine callB (p := GreatT S 12 100) (vs := [.slice A1 S.length c1, i64 12, i64 100]) (fun w g hs _ hon => greatTexts hon (hS.mono hs)) (fun h2 => ?_) (fun h2 => ?_)
  · refine runE ?_
    refine cT (sg ?_)
    refine callV (.bool true) (vs := []) (fun w g hs _ hon => awake9 hon (hm.mono hs)) ?_
    refine runE ?_
    refine ew_ret ?_
    exact ret1 rfl
  have hS12 := great_texts' h2
  refine callV (i64 (valE s a)) (vs := [str s, .slice A a.length c]) (fun w g h1 h2 h3 => closureValidate h3 (hm.mono h1) hs (ha.mono h1)) ?_
  refine neI (fun hE => ?_) (fun hE => ?_)
  · refine runE ?_
    refine cT (sg ?_)
    refine callV (.bool true) (vs := []) (fun w g hs _ hon => awake9 hon (hm.mono hs)) ?_
    refine runE ?_
    refine ew_ret ?_
    exact ret1 rfl
  have hV : ValidI s a := valE_zero.1 (Classical.not_not.1 hE)
  refine runE ?_
  refine cFs ?_
  refine efg [(0, str s), (1, .slice A a.length c), (2, .slice A1 S.length c1), (3, str u)] [] (fun ρ => ?_)
  have hnl : (names a).length = a.length := List.length_map _
  have hnb := names_bd ha
  refine sg ?_
  refine callM0 (vs := [.slice A a.length c, .slice A1 S.length c1]) [] (fun w hon hgi => closureReach hon ha hfit (by omega) hS (by omega)) (fun v g1 L' hs1 hR => ?_)
  obtain ⟨A9, c9, rfl, rfl⟩ := hR
  have hlF := reachL_len a S
  have hbF : ∀ z ∈ reachL a S, z.length ≤ LB := fun z hz => hnb z (reachL_mem.1 hz).names
  have e1 := hV.some_names S
  have e2 := fun o => hV.some_val S (other := o)
  have e3 := hV.some_reach S
  have e4 : reachL a (names a) = names a := reach_all hV.rising
  refine rfrz 0 fun g2 hs2 hq => ?_
  have hF : Sl g2 A9 c9 (reachL a S) := Sl.ofTexts hq rfl hbF (by unfold LB; omega)
  have ha2 := ha.mono (hs1.trans hs2)
  have hm2 := hm.mono (hs1.trans hs2)
  refine runE ?_
  generalize reachL a S = F at hlF hbF e1 e2 e3 hF
  refine efg [(9, .slice A9 F.length c9), (0, str s), (1, .slice A a.length c), (3, str u)] [] (fun ρ => ?_)
  refine sgE ?_
  refine sgE ?_
  refine sqJ (σ := Option Addr × Nat × Option Addr × Nat × List Value) (fun t => [(10, .slice t.2.2.1 (someOf a F).length t.2.2.2.1), (11, .slice t.1 (names a).length t.2.1), (9, .slice A9 F.length c9), (0, str s), (1, .slice A a.length c), (3, str u)]) (fun _ => g2) (fun t => [.row t.2.2.1 (someOf a F).length t.2.2.2.1 31 3 t.2.2.2.2, sRow t.1 t.2.1 (names a)]) (fun t => Rw g2 (someOf a F) t.2.2.2.2) ?_ ?_
  · refine sgE ?_
    refine enilrow 9 1 ?_
    refine enilrow 31 3 ?_
    refine bk ?_
    refine lp (σ := Nat × Option Addr × Nat × Option Addr × Nat × List Value) (fun t => [(12, i64 t.1), (10, .slice t.2.2.2.1 (someOf (a.take t.1) F).length t.2.2.2.2.1), (11, .slice t.2.1 t.1 t.2.2.1), (9, .slice A9 F.length c9), (0, str s), (1, .slice A a.length c), (3, str u)]) (fun _ => g2) (fun t => [.row t.2.2.2.1 (someOf (a.take t.1) F).length t.2.2.2.2.1 31 3 t.2.2.2.2.2, .row t.2.1 t.1 t.2.2.1 9 1 ((names (a.take t.1)).map str)]) (fun t => t.1 ≤ a.length ∧ Rw g2 (someOf (a.take t.1) F) t.2.2.2.2.2) (fun t => a.length - t.1) (0, none, 0, none, 0, []) ⟨Nat.zero_le _, Rw.nil g2⟩ ?_
    rintro ⟨i, A3, c3, A4, c4, xs⟩ ρ ⟨hi, hrw⟩
    replace hi : i ≤ a.length := hi
    replace hrw : Rw g2 (someOf (a.take i) F) xs := hrw
    show EW _ _ _ _ _ (ups ρ [(12, i64 i), (10, .slice A4 (someOf (a.take i) F).length c4), (11, .slice A3 i c3), (9, .slice A9 F.length c9), (0, str s), (1, .slice A a.length c), (3, str u)]) g2 [.row A4 (someOf (a.take i) F).length c4 31 3 xs, .row A3 i c3 9 1 ((names (a.take i)).map str)]
    refine sq (sg ?_)
    refine ltE (fun h => ?_) (fun h => ?_)
    case refine_2 =>
      refine cFx ?_
      have e : i = a.length := by omega
      subst e
      refine jn (A3, c3, A4, c4, xs) ?_ (hh := ?_) (ha := ⟨?_, ?_, rfl, rfl, rfl, rfl, trivial⟩)
      · show Rw g2 (someOf a F) xs
        rw [List.take_length] at hrw; exact hrw
      · show [HE.row A4 (someOf a F).length c4 31 3 xs, .row A3 (names a).length c3 9 1 ((names a).map str)] = _
        rw [List.take_length, hnl]
      · show Value.slice A4 _ c4 = Value.slice A4 _ c4
        rw [List.take_length]
      · show Value.slice A3 _ c3 = Value.slice A3 _ c3
        rw [hnl]
    have h1 : i < a.length := by omega
    have hst := someOf_take (r := F) h1
    have hsn := namesTake h1
    have hsl : (someOf (a.take i) F).length ≤ 10 := by
      have := (someOf_sub (a.take i) F).length_le
      rw [List.length_take] at this
      omega
    obtain ⟨b1, o1, A5, c5, A6, c6, rfl, hc1, hn1, hr1, ht1⟩ := ha2.item h1
    have hrx : rp g2 a[i] [str a[i].name, .slice A5 a[i].refs.length c5, .slice A6 a[i].tree.length c6] := ⟨A5, c5, A6, c6, rfl, hn1, hr1, ht1⟩
    generalize a[i] = x at hst hsn hc1 hrx
    generalize hso : someOf (a.take i) F = so at hst hsl hrw
    refine cTs (sq (bk ?_))
    refine sg ?_
    refine ix i h1 ?_
    refine ldv hc1.1 ?_
    refine bsl fun b2 => ?_
    refine app 1 (fun A3' c3' => ?_) (hlim := by show (i + 1) * 16 ≤ _; omega)
    refine runE ?_
    refine efg [(12, i64 i), (10, .slice A4 so.length c4), (11, .slice A3' (i + 1) c3'), (9, .slice A9 F.length c9), (0, str s), (1, .slice (some ⟨b1, o1, none⟩) a.length c), (3, str u)] [.row A4 so.length c4 31 3 xs, .row A3' (i + 1) c3' 9 1 ((names (a.take (i + 1))).map str)] (fun ρ => ?_) (hh := by rw [hsn, List.map_append]; rfl)
    refine sg ?_
    refine ix i h1 ?_
    refine ldv hc1.1 ?_
    refine callB (p := x.name ∈ F) (vs := [.slice A9 F.length c9, str x.name]) (fun w g h1 h2 h3 => lawHas h3 (hF.mono h1)) (fun hin => ?_) (fun hin => ?_)
    · rw [if_pos hin] at hst
      refine runE ?_
      refine cT (rg ?_)
      refine ix i h1 ?_
      refine ldvA hc1 ?_
      refine bsl fun b3 => ?_
      refine app 0 (fun A4' c4' => ?_) (hlim := by show (so.length + 1) * 64 ≤ _; omega)
      refine runE ?_
      refine rg ?_
      refine addE ((i + 1 : Nat) : Int) ?_
      refine nxs (i + 1, A3', c3', A4', c4', xs ++ [str x.name, .slice A5 x.refs.length c5, .slice A6 x.tree.length c6]) ⟨h1, ?_⟩ (by show a.length - (i + 1) < a.length - i; omega) (hh := ?_) (ha := ⟨rfl, ?_, rfl, rfl, rfl, rfl, rfl, trivial⟩)
      · show Rw g2 (someOf (a.take (i + 1)) F) _
        rw [hst]
        exact hrw.snoc hrx
      · show [HE.row A4' (someOf (a.take (i + 1)) F).length c4' 31 3 _, _] = _
        rw [hst, List.length_append]; rfl
      · show Value.slice A4' _ c4' = Value.slice A4' (someOf (a.take (i + 1)) F).length c4'
        rw [hst, List.length_append]; rfl
    · rw [if_neg hin, List.append_nil] at hst
      refine runE ?_
      refine cFs ?_
      refine rg ?_
      refine addE ((i + 1 : Nat) : Int) ?_
      refine nxs (i + 1, A3', c3', A4, c4, xs) ⟨h1, ?_⟩ (by show a.length - (i + 1) < a.length - i; omega) (hh := ?_) (ha := ⟨rfl, ?_, rfl, rfl, rfl, rfl, rfl, trivial⟩)
      · show Rw g2 (someOf (a.take (i + 1)) F) _
        rw [hst]
        exact hrw
      · show [HE.row A4 (someOf (a.take (i + 1)) F).length c4 31 3 _, _] = _
        rw [hst]
      · show Value.slice A4 _ c4 = Value.slice A4 (someOf (a.take (i + 1)) F).length c4
        rw [hst]
  rintro ⟨A3, c3, A4, c4, xs⟩ ρ hrw
  replace hrw : Rw g2 (someOf a F) xs := hrw
  have hsl : (someOf a F).length ≤ 10 := by
    have := (someOf_sub a F).length_le
    omega
  have hsnl : (names (someOf a F)).length = (someOf a F).length := List.length_map _
  rw [e1] at hsnl
  have hfs : FitT (someOf a F) := ⟨by omega, fun x hx => hfit.2 x ((someOf_sub a F).subset hx)⟩
  have e20 : valE s (someOf a F) = 0 := by rw [e2, if_pos hV.pre]
  have e2u := e2 u
  generalize someOf a F = so at hrw hsl hsnl e3 e2u e20 hfs
  show EW _ _ _ _ _ (ups ρ [(10, .slice A4 so.length c4), (11, .slice A3 (names a).length c3), (9, .slice A9 F.length c9), (0, str s), (1, .slice A a.length c), (3, str u)]) g2 [.row A4 so.length c4 31 3 xs, sRow A3 c3 (names a)]
  refine efrzA [] _ (List.Perm.refl _) fun g3 hs3 hsn => ?_
  have hso : Sl g3 A4 c4 so := (hrw.mono hs3).sl (hsn _ (.head _)) rfl (by unfold LB; omega)
  have hall : Sl g3 A3 c3 (names a) := Sl.ofTexts (hsn _ (.tail _ (.head _))) rfl hnb (by rw [hnl]; exact hlim)
  have hF3 := hF.mono hs3
  have ha3 := ha2.mono hs3
  have hm3 := hm2.mono hs3
  refine efg [(10, .slice A4 so.length c4), (11, .slice A3 (names a).length c3), (9, .slice A9 F.length c9), (0, str s), (1, .slice A a.length c), (3, str u)] [] (fun ρ => ?_)
  refine sq (sg ?_)
  refine neI (fun h => absurd (show (so.length : Int) = (F.length : Nat) by omega) h) (fun _ => ?_)
  refine callV (i64 (valE s so)) (vs := [str s, .slice A4 so.length c4]) (fun w g h1 h2 h3 => closureValidate h3 (hm3.mono h1) hs (hso.mono h1)) ?_
  rw [e20]
  refine neI (fun h => absurd rfl h) (fun _ => ?_)
  refine callM0 (vs := [.slice A a.length c, .slice A3 (names a).length c3]) [] (fun w hon hgi => closureReach hon ha3 hfit (by omega) hall (by rw [hnl]; omega)) (fun v g4 L' hs4 hR => ?_)
  unfold reachR at hR
  rw [e4] at hR
  obtain ⟨A7, c7, rfl, rfl⟩ := hR
  refine callV (.bool (decide (names a = names a))) (vs := [.slice A7 (names a).length c7, .slice A3 (names a).length c3]) (fun w g h1 h2 h3 => sameTexts h3 (Sl.ofTexts (h2 _ (.head _)) rfl hnb (by rw [hnl]; exact hlim)) ((hall.mono hs4).mono h1)) ?_
  rw [decide_eq_true rfl]
  refine runE ?_
  refine cFs ?_
  refine edropH ?_
  have hso4 := hso.mono hs4
  have hF4 := hF3.mono hs4
  have hm4 := hm3.mono hs4
  refine efg [(10, .slice A4 so.length c4), (9, .slice A9 F.length c9), (3, str u)] [] (fun ρ => ?_)
  refine sgE ?_
  refine sqJ (σ := Unit) (fun _ => [(13, i64 (if prefixOk u then 0 else 11)), (10, .slice A4 so.length c4), (9, .slice A9 F.length c9), (3, str u)]) (fun _ => g4) (fun _ => []) (fun _ => True) ?_ ?_
  · refine sg ?_
    refine callB (p := prefixOk u) (vs := [str u]) (fun w g h1 h2 h3 => closurePrefix h3 (hm4.mono h1) hu) (fun h3 => ?_) (fun h3 => ?_)
    · refine runE ?_
      refine cFs ?_
      exact jn () trivial (ha := ⟨by rw [if_pos h3]; rfl, rfl, rfl, rfl, trivial⟩)
    · refine runE ?_
      refine cT (rgE ?_)
      exact jn () trivial (ha := ⟨by rw [if_neg h3]; rfl, rfl, rfl, rfl, trivial⟩)
  rintro ⟨⟩ ρ _
  refine sg ?_
  refine callV (i64 (valE u so)) (vs := [str u, .slice A4 so.length c4]) (fun w g h1 h2 h3 => closureValidate h3 (hm4.mono h1) hu (hso4.mono h1)) ?_
  rw [e2u]
  refine eqI (fun _ => ?_) (fun h => absurd rfl h)
  refine callM0 (vs := [.slice A4 so.length c4, .slice A9 F.length c9]) [] (fun w hon hgi => closureReach hon hso4 hfs (by omega) hF4 (by omega)) (fun v g5 L' hs5 hR => ?_)
  unfold reachR at hR
  rw [e3] at hR
  obtain ⟨A7, c7, rfl, rfl⟩ := hR
  refine callV (.bool (decide (F = F))) (vs := [.slice A7 F.length c7, .slice A9 F.length c9]) (fun w g h1 h2 h3 => sameTexts h3 (Sl.ofTexts (h2 _ (.head _)) rfl hbF (by unfold LB; omega)) ((hF4.mono hs5).mono h1)) ?_
  rw [decide_eq_true rfl]
  refine dropH ?_
  refine callV (.bool true) (vs := []) (fun w g hs _ hon => awake9 hon ((hm4.mono hs5).mono hs)) ?_
  refine runE ?_
  refine ew_ret ?_
  exact ret1 rfl
end Go.Hog
