/- ClosureTurned answers true. -/
import Derived.Test.YtjjlfbpmbleabaaDoorG24
import Derived.Test.YtjjlfbpmbleabaaDoorCE
import Derived.Test.YtjjlfbpmbleabaaDoorMH
set_option linter.unusedVariables false
set_option linter.unusedSimpArgs false
set_option maxRecDepth 100000
set_option maxHeartbeats 1000000
namespace Go.Hog
open Go.RowKit Rp Go.Proofs
def wantB (b : List Item) (nm : Str) : Bool := b.any fun x => decide (nm ∈ x.refs)
theorem closureTurnedT {w : World} {f : View} (hv : On f w) (hm : ML f) {s : Str} (hs : s.length ≤ LB) {A : Option Addr} {c : Nat} {a : List Item} (ha : Sl f A c a) {n : Int} (hn : -9223372036854775808 ≤ n ∧ n ≤ 9223372036854775807) :
    Con Tryd.prog 4 [str s, .slice A a.length c, i64 n] w (Ret w f fun _ v => v = .bool true) := by
  refine enterC hv Tryd.call4 Tryd.func4 ?_
  have hlim := ha.len_lt
  refine sgE ?_
  refine sq (sg ?_)
  refine gt (fun h => ?_) (fun h => ?_)
  · refine runE ?_
    refine cT (sg ?_)
    refine callV (.bool true) (vs := []) (fun w g hs _ hon => awake9 hon (hm.mono hs)) ?_
    refine runE ?_
    refine ew_ret ?_
    exact ret1 rfl
  refine callB (p := GreatI a) (vs := [.slice A a.length c]) (fun w g hs _ hon => greatItems hon (ha.mono hs)) (fun h1 => ?_) (fun h1 => ?_)
  · refine runE ?_
    refine cT (sg ?_)
    refine callV (.bool true) (vs := []) (fun w g hs _ hon => awake9 hon (hm.mono hs)) ?_
    refine runE ?_
    refine ew_ret ?_
    exact ret1 rfl
  obtain ⟨h10, hfit⟩ := great_fit' h1
  refine eqI (fun h0 => ?_) (fun h0 => ?_)
  · refine runE ?_
    refine cT (sg ?_)
    refine callV (.bool true) (vs := []) (fun w g hs _ hon => awake9 hon (hm.mono hs)) ?_
    refine runE ?_
    refine ew_ret ?_
    exact ret1 rfl
  refine callV (i64 (valE s a)) (vs := [str s, .slice A a.length c]) (fun w g h1 h2 h3 => closureValidate h3 (hm.mono h1) hs (ha.mono h1)) ?_
  refine neI (fun hE => ?_) (fun hE => ?_)
  · refine runE ?_
    refine cT (sg ?_)
    refine callV (.bool true) (vs := []) (fun w g hs _ hon => awake9 hon (hm.mono hs)) ?_
    refine runE ?_
    refine ew_ret ?_
    exact ret1 rfl
  have hV : ValidI s a := valE_zero.1 (Classical.not_not.1 hE)
  refine runE ?_
  refine cFs ?_
  refine efg [(0, str s), (1, .slice A a.length c), (2, i64 n)] [] (fun ρ => ?_)
  have hpos : 0 < a.length := by omega
  have hlow := lowV_lt n (n := (a.length : Nat)) (by omega)
  refine sg ?_
  refine callV (i64 (lowV n (a.length : Nat))) (vs := [i64 n, i64 (a.length : Nat)]) (fun w g h1 h2 h3 => low0 h3 (by omega)) ?_
  refine runE ?_
  obtain ⟨k, hk⟩ : ∃ k : Nat, lowV n (a.length : Nat) = k := ⟨(lowV n (a.length : Nat)).toNat, by omega⟩
  rw [hk] at hlow ⊢
  have hka : k < a.length := by omega
  clear hk
  refine efg [(0, str s), (1, .slice A a.length c), (2, i64 k)] [] (fun ρ => ?_)
  obtain ⟨xs, hxs, hxc⟩ := ha.cells
  refine sg ?_
  refine nilrow 31 3 ?_
  refine appV 0 (nn := 0) (c := 0) (mm := a.length) hxs.len hxc hxs.ones (fun A7 c7 => ?_) (hlim := by show (0 + a.length) * 64 ≤ _; omega)
  refine rowF 0 fun hrow => ?_
  obtain ⟨b7, e7⟩ := hrow.2.2.2.1 (show 0 < 0 + a.length by omega)
  subst e7
  have hxl := hxs.len
  replace hxl : xs.length = a.length * 3 := hxl
  refine runE ?_
  refine efg [(7, .slice (some ⟨b7, 0, none⟩) a.length c7), (0, str s), (1, .slice A a.length c), (2, i64 k)] [.row (some ⟨b7, 0, none⟩) a.length c7 31 3 xs] (fun ρ => ?_) (hh := by rw [show 0 + a.length = a.length by omega]; rfl) (ha := ⟨by show Value.slice (some ⟨b7, 0, none⟩) (0 + a.length) c7 = _; rw [show 0 + a.length = a.length by omega], rfl, rfl, rfl, trivial⟩)
  refine sg ?_
  refine ix k hka ?_
  refine run ?_
  refine stR 0 (o := 0 + k * 3 + 1) (vs := [.slice none 0 0]) (show 0 + k * 3 + 1 + 1 ≤ xs.length by omega) ?_
  refine runE ?_
  obtain ⟨b1, o1, A3, c3, A4, c4, rfl, hc1, hn1, hr1, ht1⟩ := ha.item hka
  refine efg [(7, .slice (some ⟨b7, 0, none⟩) a.length c7), (0, str s), (1, .slice (some ⟨b1, o1, none⟩) a.length c), (2, i64 k)] [.row (some ⟨b7, 0, none⟩) a.length c7 31 3 (putL xs (k * 3 + 1) [.slice none 0 0])] (fun ρ => ?_) (hh := by show [HE.row _ _ _ _ _ (putL xs (0 + k * 3 + 1) _)] = _; rw [show 0 + k * 3 + 1 = k * 3 + 1 by omega])
  have hyl : (putL xs (k * 3 + 1) [.slice none 0 0]).length = a.length * 3 := by rw [putL_length _ _ _ (by show k * 3 + 1 + 1 ≤ xs.length; omega), hxl]
  refine sqJ (σ := View) (fun _ => [(7, .slice (some ⟨b7, 0, none⟩) a.length c7), (0, str s), (1, .slice (some ⟨b1, o1, none⟩) a.length c), (2, i64 k)]) (fun g' => g') (fun _ => []) (fun g' => Sub f g' ∧ ∃ rs, rs ≠ a[k].refs ∧ Sl g' (some ⟨b7, 0, none⟩) c7 (a.set k { a[k] with refs := rs })) ?_ ?_
  · refine sg ?_
    refine ix k hka ?_
    refine ldv hc1.2.1 ?_
    refine eqI (fun h0 => ?_) (fun h0 => ?_)
    · refine runE ?_
      refine cT (rg ?_)
      refine ix k hka ?_
      refine ldv hc1.1 ?_
      refine bsl fun b5 => ?_
      refine ix k hka ?_
      refine run ?_
      refine stR 1 (o := 0 + k * 3 + 1) (vs := [.slice (some ⟨b5, 0, none⟩) 1 1]) (xs := putL xs (k * 3 + 1) [.slice none 0 0]) (show 0 + k * 3 + 1 + 1 ≤ (putL xs (k * 3 + 1) [.slice none 0 0]).length by omega) ?_
      refine rfrzA [] _ (List.Perm.refl _) fun g2 hs2 hsn => ?_
      refine runE ?_
      refine jn g2 ⟨hs2, [a[k].name], ?_, ?_⟩
      · intro e
        have := congrArg List.length e
        rw [show a[k].refs.length = 0 by omega] at this
        cases this
      · have q5 : Sl g2 (some ⟨b5, 0, none⟩) 1 [a[k].name] := Sl.ofTexts (hsn _ (.head _)) rfl (by simpa using hn1) (show 1 ≤ LB by decide)
        have e : putL (putL xs (k * 3 + 1) [.slice none 0 0]) (0 + k * 3 + 1) [.slice (some ⟨b5, 0, none⟩) 1 1] = putL xs (k * 3 + 1) [.slice (some ⟨b5, 0, none⟩) 1 1] := by
          rw [show 0 + k * 3 + 1 = k * 3 + 1 by omega, putL_one (by omega), putL_one (by omega), putL_one (by omega), List.set_set]
        have hr := ((hxs.mono hs2).refs hka q5)
        have hsn2 := hsn _ (.tail _ (.head _))
        rw [e] at hsn2
        exact hr.sl hsn2 (by simp) (by rw [List.length_set]; exact hlim)
    · refine rfrz 0 fun g2 hs2 hq => ?_
      refine runE ?_
      refine cFs ?_
      refine jn g2 ⟨hs2, [], fun e => ?_, ?_⟩
      · apply h0
        rw [← e]; rfl
      · exact ((hxs.mono hs2).refs hka (Sl.nil g2)).sl hq (by simp) (by rw [List.length_set]; exact hlim)
  rintro g2 ρ ⟨hs2, rs, hne, hmore⟩
  replace hs2 : Sub f g2 := hs2
  have hm2 := hm.mono hs2
  have ha2 := ha.mono hs2
  have h8 := hV.set_eight hka hne
  have hml : (a.set k { a[k] with refs := rs }).length = a.length := List.length_set
  generalize a.set k { a[k] with refs := rs } = more at hmore h8 hml
  refine sq (sg ?_)
  refine callV (i64 (valE s more)) (vs := [str s, .slice (some ⟨b7, 0, none⟩) more.length c7]) (fun w g h1 h2 h3 => closureValidate h3 (hm2.mono h1) hs (hmore.mono h1)) ?_ (ha := by rw [hml]; rfl)
  rw [h8]
  refine neIE (fun h => absurd rfl h) (fun _ => ?_)
  refine cFs ?_
  refine efg [(0, str s), (1, .slice (some ⟨b1, o1, none⟩) a.length c), (2, i64 k)] [] (fun ρ => ?_)
  have hcap := ha.cap
  have hk1 : k + 1 ≤ a.length := by omega
  have hlt : (a.take k).length = k := by rw [List.length_take]; omega
  have hld : (a.drop (k + 1)).length = a.length - (k + 1) := List.length_drop
  obtain ⟨xs1, hxs1, hxc1⟩ := (ha2.take k).cells
  obtain ⟨xs2, hxs2, hxc2⟩ := (ha2.drop (k + 1) hk1).cells
  have hl1 := hxs1.len
  have hl2 := hxs2.len
  rw [hlt] at hl1 hxc1
  rw [hld] at hl2 hxc2
  replace hl1 : xs1.length = k * 3 := hl1
  replace hl2 : xs2.length = (a.length - (k + 1)) * 3 := hl2
  have p1 : (0 + k) * 64 ≤ 140737488355328 := by omega
  have p2 : (0 + k + (a.length - (k + 1))) * 64 ≤ 140737488355328 := by omega
  refine sA [2, 6, 7] [] (List.nil_sublist _) ?_
  refine an_takeU [0, 1, 4, 5] ?_
  refine an_takeH [2, 6, 7] (HeldL.none (Sub.refl _)) ?_
  refine slH k (show k ≤ c by omega) ?_
  refine add ((k + 1 : Nat) : Int) ?_
  refine slL (k + 1) hk1 hcap ?_
  refine rw_end ?_
  refine an_run1 3 ?_
  refine nilrow 31 3 ?_
  refine appV 0 (nn := 0) (c := 0) (mm := k) hl1 hxc1 hxs1.ones (fun A5 c5 => ?_) (hlim := p1)
  refine aH (HeldL.none (Sub.refl _)) ?_
  refine an_run1 8 ?_
  refine appV 0 (nn := 0 + k) (mm := a.length - (k + 1)) hl2 (fun h0 => ?_) hxs2.ones (fun A8 c8 => ?_) (hlim := p2)
  · rw [if_neg (by omega)]
    exact hxc2 h0
  refine aH (HeldL.none (Sub.refl _)) ?_
  refine an_takeU [9] ?_
  refine an_done ?_
  have hless := hV.less hka
  have hll : (a.take k ++ a.drop (k + 1)).length = 0 + k + (a.length - (k + 1)) := by rw [List.length_append, hlt, hld]; omega
  refine efrz 0 fun g3 hs3 hq => ?_
  have hle : Sl g3 A8 c8 (a.take k ++ a.drop (k + 1)) := ((hxs1.append hxs2).mono hs3).sl hq hll.symm (by rw [hll]; unfold LB; omega)
  have hl10 : (a.take k ++ a.drop (k + 1)).length ≤ 10 := by rw [hll]; omega
  refine efg [(8, .slice A8 (a.take k ++ a.drop (k + 1)).length c8), (0, str s), (1, .slice (some ⟨b1, o1, none⟩) a.length c), (2, i64 k)] [] (fun ρ => ?_) (ha := ⟨by rw [hll]; rfl, rfl, rfl, rfl, trivial⟩)
  have hm3 := hm2.mono hs3
  have hc3 := Sub.cell (hs2.trans hs3) hc1.1
  have hwant : valE s (a.take k ++ a.drop (k + 1)) = if wantB (a.take k ++ a.drop (k + 1)) a[k].name then 8 else 0 := by
    rw [hless]
    unfold wantB
    simp only [List.any_eq_true, decide_eq_true_eq]
  generalize a.take k ++ a.drop (k + 1) = less at hle hl10 hwant
  generalize a[k].name = nm at hc3 hwant
  refine sgE ?_
  refine sqJ (σ := Unit) (fun _ => [(9, .bool (wantB less nm)), (8, .slice A8 less.length c8), (0, str s)]) (fun _ => g3) (fun _ => []) (fun _ => True) ?_ ?_
  · refine sgE (bk ?_)
    refine lpn less.length (fun i => [(10, i64 i), (9, .bool (wantB (less.take i) nm)), (8, .slice A8 less.length c8), (0, str s), (1, .slice (some ⟨b1, o1, none⟩) a.length c), (2, i64 k)]) (fun _ => True) trivial ?_
    intro i ρ hi _
    refine sq (sg ?_)
    refine ltE (fun h => ?_) (fun h => ?_)
    case refine_2 =>
      refine cFx ?_
      have e : i = less.length := by omega
      subst e
      rw [List.take_length]
      exact jn () trivial
    have h1 : i < less.length := by omega
    have hst : wantB (less.take (i + 1)) nm = (wantB (less.take i) nm || decide (nm ∈ less[i].refs)) := by
      unfold wantB
      rw [(List.take_append_getElem h1).symm, List.any_append]
      simp
    obtain ⟨b2, o2, A5, c5, A6, c6, rfl, hc5, _, hr5, _⟩ := hle.item h1
    have hnx : ∀ bb, bb = wantB (less.take (i + 1)) nm → [(10, i64 (i + 1 : Nat)), (9, Value.bool bb), (8, .slice (some ⟨b2, o2, none⟩) less.length c8), (0, str s), (1, .slice (some ⟨b1, o1, none⟩) a.length c), (2, i64 k)] = [(10, i64 (i + 1 : Nat)), (9, .bool (wantB (less.take (i + 1)) nm)), (8, .slice (some ⟨b2, o2, none⟩) less.length c8), (0, str s), (1, .slice (some ⟨b1, o1, none⟩) a.length c), (2, i64 k)] := fun bb e => by rw [e]
    generalize less[i].refs = rs5 at hst hc5 hr5
    refine cTs (sq (bk ?_))
    cases hwb : wantB (less.take i) nm with
    | true =>
      rw [hwb, Bool.true_or] at hst
      refine rq ?_
      refine runE ?_
      refine rg ?_
      refine addE ((i + 1 : Nat) : Int) ?_
      exact nx trivial (ha := ⟨rfl, by rw [hst]; rfl, rfl, rfl, rfl, rfl, trivial⟩)
    | false =>
      rw [hwb, Bool.false_or] at hst
      refine rq ?_
      refine ix i h1 ?_
      refine ldv hc5.2.1 ?_
      refine ix k hka ?_
      refine ldv hc3 ?_
      refine callV (.bool (decide (nm ∈ rs5))) (vs := [.slice A5 rs5.length c5, str nm]) (fun w g h1 h2 h3 => lawHas h3 (hr5.mono h1)) ?_
      refine runE ?_
      refine rg ?_
      refine addE ((i + 1 : Nat) : Int) ?_
      exact nx trivial (ha := ⟨rfl, by rw [hst]; rfl, rfl, rfl, rfl, rfl, trivial⟩)
  rintro ⟨⟩ ρ _
  refine sg ?_
  refine callV (i64 (valE s less)) (vs := [str s, .slice A8 less.length c8]) (fun w g h1 h2 h3 => closureValidate h3 (hm3.mono h1) hs (hle.mono h1)) ?_
  rw [hwant]
  refine runE ?_
  cases wantB less nm with
  | true =>
    rw [if_pos rfl]
    refine sg ?_
    refine eqI (fun _ => ?_) (fun h => absurd rfl h)
    refine run ?_
    refine eqBo2 true rfl ?_
    refine callV (.bool true) (vs := []) (fun w g hs _ hon => awake9 hon (hm3.mono hs)) ?_
    refine runE ?_
    refine ew_ret ?_
    exact ret1 rfl
  | false =>
    rw [if_neg (by decide)]
    refine sg ?_
    refine eqI (fun h => absurd h (show ¬ (0 : Int) = 8 by decide)) (fun _ => ?_)
    refine run ?_
    refine eqBo2 true rfl ?_
    refine eqI (fun _ => ?_) (fun h => absurd rfl h)
    refine callV (.bool true) (vs := []) (fun w g hs _ hon => awake9 hon (hm3.mono hs)) ?_
    refine runE ?_
    refine ew_ret ?_
    exact ret1 rfl
end Go.Hog
