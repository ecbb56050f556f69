/- ClosureWhole answers true. -/
import Derived.Test.YtjjlfbpmbleabaaDoorCE
import Derived.Test.YtjjlfbpmbleabaaDoorCD
set_option linter.unusedVariables false
set_option linter.unusedSimpArgs false
set_option maxRecDepth 100000
set_option maxHeartbeats 1000000
namespace Go.Hog
open Go.RowKit Rp Go.Proofs
theorem great_fit' {a : List Item} (h : ¬ GreatI a) : a.length ≤ 10 ∧ FitT a := by
  have h10 : a.length ≤ 10 := by
    by_cases e : 10 < a.length
    · exact absurd (.inl e) h
    · omega
  refine ⟨h10, by omega, fun x hx => ?_⟩
  refine ⟨?_, ?_⟩
  · by_cases e : (12 : Int) < x.refs.length
    · exact absurd (.inr ⟨x, hx, .inr (.inl (.inl e))⟩) h
    · omega
  · by_cases e : (30 : Int) < x.tree.length
    · exact absurd (.inr ⟨x, hx, .inr (.inr (.inl e))⟩) h
    · omega
theorem names_bd {f : View} {A : Option Addr} {c : Nat} {a : List Item} (ha : Sl f A c a) : ∀ z ∈ names a, z.length ≤ LB := fun z hz => by
  obtain ⟨y, hy, rfl⟩ := List.mem_map.1 hz
  obtain ⟨j, hj, rfl⟩ := List.getElem_of_mem hy
  obtain ⟨_, _, _, _, _, _, _, _, hn, _, _⟩ := ha.item hj
  exact hn
theorem ValidI.data {pre : Str} {a : List Item} (h : ValidI pre a) {x : Item} (hx : x ∈ a) : ∀ z ∈ x.tree, z.data.length < 4294967281 := fun z hz => by
  obtain ⟨i, hi, rfl⟩ := List.getElem_of_mem hx
  have := good_data (tree_good (h.each i hi).2 z hz)
  omega
theorem closureWholeT {w : World} {f : View} (hv : On f w) (hm : ML f) {s : Str} (hs : s.length ≤ LB) {A : Option Addr} {c : Nat} {a : List Item} (ha : Sl f A c a) :
    Con Tryd.prog 6 [str s, .slice A a.length c] w (Ret w f fun _ v => v = .bool true) := by
  refine enterC hv Tryd.call6 Tryd.func6 ?_
  have hlim := ha.len_lt
  refine sgE ?_
  refine sq (sg ?_)
  refine gt (fun h => ?_) (fun h => ?_)
  · refine runE ?_
    refine cT (sg ?_)
    refine callV (.bool true) (vs := []) (fun w g hs _ hon => awake9 hon (hm.mono hs)) ?_
    refine runE ?_
    refine ew_ret ?_
    exact ret1 rfl
  refine callB (p := GreatI a) (vs := [.slice A a.length c]) (fun w g hs _ hon => greatItems hon (ha.mono hs)) (fun h1 => ?_) (fun h1 => ?_)
  · refine runE ?_
    refine cT (sg ?_)
    refine callV (.bool true) (vs := []) (fun w g hs _ hon => awake9 hon (hm.mono hs)) ?_
    refine runE ?_
    refine ew_ret ?_
    exact ret1 rfl
  obtain ⟨h10, hfit⟩ := great_fit' h1
  refine runE ?_
  refine cFs ?_
  refine efg [(0, str s), (1, .slice A a.length c)] [] (fun ρ => ?_)
  refine sg ?_
  refine callV (i64 (valE s a)) (vs := [str s, .slice A a.length c]) (fun w g h1 h2 h3 => closureValidate h3 (hm.mono h1) hs (ha.mono h1)) ?_
  refine runE ?_
  refine sq (sg ?_)
  refine neIE (fun hE => ?_) (fun hE => ?_)
  · refine cT (sg ?_)
    have h11 := valE_eleven (pre := s) (a := a)
    refine eqI (fun h2 => ?_) (fun h2 => ?_)
    · refine callB (p := prefixOk s) (vs := [str s]) (fun w g h1 h2 h3 => closurePrefix h3 (hm.mono h1) hs) (fun h3 => absurd h3 (h11.1 h2)) (fun h3 => ?_)
      refine run ?_
      refine eqBo2 true rfl ?_
      refine callV (.bool true) (vs := []) (fun w g hs _ hon => awake9 hon (hm.mono hs)) ?_
      refine runE ?_
      refine ew_ret ?_
      exact ret1 rfl
    · refine callB (p := prefixOk s) (vs := [str s]) (fun w g h1 h2 h3 => closurePrefix h3 (hm.mono h1) hs) (fun h3 => ?_) (fun h3 => absurd (h11.2 h3) h2)
      refine run ?_
      refine eqBo2 true rfl ?_
      refine callV (.bool true) (vs := []) (fun w g hs _ hon => awake9 hon (hm.mono hs)) ?_
      refine runE ?_
      refine ew_ret ?_
      exact ret1 rfl
  have hV : ValidI s a := valE_zero.1 (Classical.not_not.1 hE)
  refine cFs ?_
  refine efg [(0, str s), (1, .slice A a.length c)] [] (fun ρ => ?_)
  refine sq (sg ?_)
  have h8 := hV.len
  refine gtE (fun h9 => absurd h9 (show ¬ (8 : Int) < (a.length : Nat) by omega)) (fun _ => ?_)
  refine cFs ?_
  refine sg ?_
  refine callM0 (vs := [.slice A a.length c]) [] (fun w hon hgi => itemNames hon ha (by omega)) (fun v g1 L' hs1 hR => ?_)
  obtain ⟨A6, c6, rfl, rfl⟩ := hR
  have hnl : (names a).length = a.length := List.length_map _
  have hnb := names_bd ha
  refine rfrz 0 fun g2 hs2 hq => ?_
  have hns : Sl g2 A6 c6 (names a) := Sl.ofTexts hq rfl hnb (by rw [hnl]; exact hlim)
  have ha2 := ha.mono (hs1.trans hs2)
  have hm2 := hm.mono (hs1.trans hs2)
  refine runE ?_
  refine efg [(6, .slice A6 (names a).length c6), (1, .slice A a.length c)] [] (fun ρ => ?_)
  refine sqJ (σ := View) (fun _ => []) (fun g' => g') (fun _ => []) (fun g' => Sub g2 g') ?_ ?_
  case refine_2 =>
    rintro g5 ρ hs5
    refine sg ?_
    refine callV (.bool true) (vs := []) (fun w g hs _ hon => awake9 hon ((hm2.mono hs5).mono hs)) ?_
    refine runE ?_
    refine ew_ret ?_
    exact ret1 rfl
  refine sgE (bk ?_)
  refine lp (σ := Nat × View) (fun t => [(7, i64 t.1), (6, .slice A6 (names a).length c6), (1, .slice A a.length c)]) (fun t => t.2) (fun _ => []) (fun t => t.1 ≤ a.length ∧ Sub g2 t.2) (fun t => a.length - t.1) (0, g2) ⟨Nat.zero_le _, Sub.refl _⟩ ?_
  rintro ⟨i, g3⟩ ρ ⟨hi, hs3⟩
  replace hi : i ≤ a.length := hi
  replace hs3 : Sub g2 g3 := hs3
  show EW _ _ _ _ _ (ups ρ [(7, i64 i), (6, .slice A6 (names a).length c6), (1, .slice A a.length c)]) g3 []
  refine sq (sg ?_)
  refine ltE (fun h => ?_) (fun h => ?_)
  case refine_2 =>
    refine cFx ?_
    exact jn g3 hs3
  have h1 : i < a.length := by omega
  have ha3 := ha2.mono hs3
  have hm3 := hm2.mono hs3
  have hn3 := hns.mono hs3
  obtain ⟨b1, o1, A3, c3, A4, c4, rfl, hc1, hn1, hr1, ht1⟩ := ha3.item h1
  have hxa : a[i] ∈ a := List.getElem_mem h1
  have hrx : rp g3 a[i] [str a[i].name, .slice A3 a[i].refs.length c3, .slice A4 a[i].tree.length c4] := ⟨A3, c3, A4, c4, rfl, hn1, hr1, ht1⟩
  have hdat := hV.data hxa
  have href := hV.refs _ hxa
  have hrin := hV.refs_in hxa
  have hrr := hV.refs_rise hxa
  have hrl := hV.refs_len hxa
  have hrn : ∀ r ∈ a[i].refs, nameOk r := fun r hr => hV.names_ok r (hrin r hr)
  have hnm := hV.names_ok _ (List.mem_map.2 ⟨_, hxa, rfl⟩)
  have htk := (hV.each i h1).2
  have hah : ∀ j (hj : j < a.length), j < i → hashL a[j].name ≠ hashL a[i].name ∧ a[j].name < a[i].name := fun j hj hji => by
    refine ⟨hV.hash h1 hji, ?_⟩
    have := List.pairwise_iff_getElem.1 hV.rising j i (by omega) (by omega) hji
    simpa [names] using this
  generalize a[i] = x at hc1 hn1 hr1 ht1 hxa hrx hdat href hrin hrr hrl hrn hnm htk hah
  have hrb : ∀ z ∈ x.refs, z.length ≤ LB := fun z hz => hnb z (hrin z hz)
  refine cTs (sq (bk ?_))
  refine sq (sA [2, 3, 9, 10, 11, 14, 15, 16] [] (List.nil_sublist _) ?_)
  refine an_takeU [0, 1] ?_
  refine an_takeH [2, 3] (HeldL.none (Sub.refl _)) ?_
  refine ix i h1 ?_
  refine ldvA hc1 ?_
  refine rw_end ?_
  refine an_run1 4 ?_
  refine callV (.bool true) (vs := [.agg ⟨[str x.name, .slice A3 x.refs.length c3, .slice A4 x.tree.length c4]⟩]) (fun w g h1 h2 h3 => itemMayT h3 (hm3.mono h1) (Rp.mono h1 hrx) hnm hrl hrn hrr htk) ?_
  refine aH (HeldL.none (Sub.refl _)) ?_
  refine an_takeU [5, 6, 7, 8, 12, 13, 17] ?_
  refine an_takeH [9, 10, 11, 14, 15, 16] (HeldL.none (Sub.refl _)) ?_
  refine ix i h1 ?_
  refine ldv hc1.2.1 ?_
  refine ix i h1 ?_
  refine ldv hc1.2.2.1 ?_
  refine rw_end ?_
  refine an_run1 18 ?_
  refine callM0 (vs := [.slice A4 x.tree.length c4, .slice A6 (names a).length c6]) [] (fun w hon hgi => scanTree hon hm3 ht1 hdat hn3 (by rw [hnl]; omega)) (fun v g4 L' hs4 hR => ?_)
  obtain ⟨A9, c9, rfl, rfl⟩ := hR
  rw [← href]
  refine aH (HeldL.none hs4) ?_
  refine an_run1 19 ?_
  refine callV (.bool (decide (x.refs = x.refs))) (vs := [.slice A3 x.refs.length c3, .slice A9 x.refs.length c9]) (fun w g' h1 h2 h3 => sameTexts h3 (hr1.mono (hs4.trans h1)) (Sl.ofTexts (h2 _ (.head _)) rfl hrb (by unfold LB; omega))) ?_
  rw [decide_eq_true rfl]
  refine aH (HeldL.none hs4) ?_
  refine an_takeU [20, 21] ?_
  refine an_done ?_
  refine ewL (L' := []) (fun _ h => h.sublist (List.nil_sublist _)) ?_
  refine cFs ?_
  refine efg [(7, i64 i), (6, .slice A6 (names a).length c6), (1, .slice (some ⟨b1, o1, none⟩) a.length c)] [] (fun ρ => ?_)
  refine sqJ (σ := View) (fun _ => [(7, i64 i), (6, .slice A6 (names a).length c6), (1, .slice (some ⟨b1, o1, none⟩) a.length c)]) (fun g' => g') (fun _ => []) (fun g' => Sub g3 g') ?_ ?_
  · refine sgE (bk ?_)
    refine lp (σ := Nat × View) (fun t => [(8, i64 t.1), (7, i64 i), (6, .slice A6 (names a).length c6), (1, .slice (some ⟨b1, o1, none⟩) a.length c)]) (fun t => t.2) (fun _ => []) (fun t => t.1 ≤ x.refs.length ∧ Sub g3 t.2) (fun t => x.refs.length - t.1) (0, g4) ⟨Nat.zero_le _, hs4⟩ ?_
    rintro ⟨k, g5⟩ ρ ⟨hk, hs5⟩
    replace hk : k ≤ x.refs.length := hk
    replace hs5 : Sub g3 g5 := hs5
    show EW _ _ _ _ _ (ups ρ [(8, i64 k), (7, i64 i), (6, .slice A6 (names a).length c6), (1, .slice (some ⟨b1, o1, none⟩) a.length c)]) g5 []
    refine sq (sg ?_)
    refine ix i h1 ?_
    refine ldv (Sub.cell hs5 hc1.2.1) ?_
    refine ltE (fun h => ?_) (fun h => ?_)
    case refine_2 =>
      refine cFx ?_
      exact jn g5 hs5
    have h1k : k < x.refs.length := by omega
    obtain ⟨bR, oR, rfl, hcR, _⟩ := (hr1.mono hs5).text h1k
    obtain ⟨y, hy⟩ := Option.isSome_iff_exists.1 (getI_some.2 (hrin _ (List.getElem_mem h1k)) : (getI a x.refs[k]).isSome = true)
    generalize x.refs[k] = r at hcR hy
    refine cTs (sq (bk ?_))
    refine sg ?_
    refine ix i h1 ?_
    refine ldv (Sub.cell hs5 hc1.2.1) ?_
    refine ix k h1k ?_
    refine ldv hcR ?_
    refine callM0 (vs := [.slice (some ⟨b1, o1, none⟩) a.length c, str r]) [] (fun w hon hgi => closureGet hon (ha3.mono hs5) hfit) (fun v g6 L' hs6 hR => ?_)
    unfold getR at hR
    rw [hy] at hR
    obtain ⟨C1, e1, C2, e2, rfl, rfl⟩ := hR
    refine alloc fun b13 => ?_
    refine st 0 ?_
    refine rwL (L' := []) (fun _ h => h.sublist (List.nil_sublist _)) ?_
    refine runE ?_
    refine sgE ?_
    refine cFs ?_
    refine rg ?_
    refine addE ((k + 1 : Nat) : Int) ?_
    exact nxs (k + 1, g6) ⟨h1k, hs5.trans hs6⟩ (by show x.refs.length - (k + 1) < x.refs.length - k; omega)
  rintro g5 ρ hs5
  replace hs5 : Sub g3 g5 := hs5
  refine sgE (bk ?_)
  refine lpn i (fun k => [(11, i64 k), (7, i64 i), (6, .slice A6 (names a).length c6), (1, .slice (some ⟨b1, o1, none⟩) a.length c)]) (fun _ => True) trivial ?_
  intro k ρ hk _
  refine sq (sg ?_)
  refine ltE (fun h => ?_) (fun h => ?_)
  case refine_2 =>
    refine cFx ?_
    refine rg ?_
    refine addE ((i + 1 : Nat) : Int) ?_
    exact nxs (i + 1, g5) ⟨h1, hs3.trans hs5⟩ (by show a.length - (i + 1) < a.length - i; omega)
  have hki : k < i := by omega
  have hka : k < a.length := by omega
  obtain ⟨b2, o2, A7, c7, A8, c8, e2, hc2, hn2, _, _⟩ := (ha3.mono hs5).item hka
  injection e2 with e2
  injection e2 with e2 e3
  subst e2 e3
  obtain ⟨hh1, hh2⟩ := hah k hka hki
  generalize a[k].name = u at hc2 hn2 hh1 hh2
  have hcx := Sub.cell hs5 hc1.1
  refine cTs (sq (bk (sQ ?_)))
  refine ix k hka ?_
  refine ldv hc2.1 ?_
  refine callV (str (hashL u)) (vs := [str u]) (fun w g h1 h2 h3 => itemHash h3 hn2) ?_
  refine ix i h1 ?_
  refine ldv hcx ?_
  refine callV (str (hashL x.name)) (vs := [str x.name]) (fun w g h1 h2 h3 => itemHash h3 hn1) ?_
  refine eqS (fun h3 => absurd h3 hh1) (fun _ => ?_)
  refine ix k hka ?_
  refine ldv hc2.1 ?_
  refine ix i h1 ?_
  refine ldv hcx ?_
  refine geS (fun h3 => absurd hh2 h3) (fun _ => ?_)
  refine runE ?_
  refine cFs ?_
  refine rg ?_
  refine addE ((k + 1 : Nat) : Int) ?_
  exact nx trivial
end Go.Hog
