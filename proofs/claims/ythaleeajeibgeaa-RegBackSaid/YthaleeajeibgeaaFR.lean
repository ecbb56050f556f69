/- F46 F47 FT F48 F49, in one text. -/
import Derived.Test.YthaleeajeibgeaaFQ
import Derived.Test.YthaleeajeibgeaaF4
import Derived.Test.YthaleeajeibgeaaE10
import Derived.Test.YthaleeajeibgeaaH1
set_option linter.unusedVariables false
set_option linter.unusedSimpArgs false
set_option maxRecDepth 100000
set_option maxHeartbeats 1000000
namespace Go.Hog
open Go.RowKit Rp Go.Proofs
theorem sameNodes0 {w : World} {f : View} (hv : On f w) {A B : Option Addr} {c c2 : Nat} :
    Con Try.prog 52 [.slice A 0 c, .slice B 0 c2] w (Ret w f fun _ v => v = .bool true) := by
  refine enterC hv Try.call52 Try.func52 ?_
  refine sgE (sq (sg ?_))
  refine neIE (fun h => absurd rfl h) (fun h => ?_)
  refine cFs (sq (sgE (bk ?_)))
  refine lpn 0 (fun k => [(5, i64 k), (0, .slice A 0 c), (1, .slice B 0 c2)]) (fun k => True) trivial ?_
  intro k ρ hk hi
  refine sq (sg ?_)
  refine ltE (fun h => ?_) (fun h => ?_)
  · exact absurd h (by show ¬ ((k : Int) < ((0 : Nat) : Int)); omega)
  · refine cFx (rr ?_)
    exact ret1 rfl
def itEq (x y : Item) : Prop := x.name = y.name ∧ x.refs = y.refs
theorem itEq_eq {x y : Item} (h : x.tree = []) (h2 : y.tree = []) : itEq x y ↔ x = y := by
  constructor
  · rintro ⟨h3, h4⟩
    cases x; cases y
    simp_all
  · rintro rfl
    exact ⟨rfl, rfl⟩
theorem sameItems0 {w : World} {f : View} (hv : On f w) {A B : Option Addr} {c c2 : Nat} {a b : List Item} (ha : Sl f A c a) (hb : Sl f B c2 b) (h0 : ∀ x ∈ a, x.tree = []) (h0' : ∀ x ∈ b, x.tree = []) :
    Con Try.prog 40 [.slice A a.length c, .slice B b.length c2] w (Ret w f fun _ v => v = .bool (decide (a = b))) := by
  refine enterC hv Try.call40 Try.func40 ?_
  have hlim := ha.len_lt
  refine sgE (sq (sg ?_))
  refine neIE (fun h => ?_) (fun h => ?_)
  · refine cT (rr ?_)
    exact ret1 (bF (by rintro rfl; exact h rfl))
  refine cFs (sq (sgE (bk ?_)))
  refine lpn a.length (fun k => [(5, i64 k), (0, .slice A a.length c), (1, .slice B b.length c2)]) (fun k => a.take k = b.take k) rfl ?_
  intro k ρ hk hi
  refine sq (sg ?_)
  refine ltE (fun h => ?_) (fun h => ?_)
  · have h1 : k < a.length := by omega
    have h2 : k < b.length := by omega
    obtain ⟨b1, o1, A3, c3, A4, c4, rfl, hc1, hn1, hr1, ht1⟩ := ha.item h1
    obtain ⟨b2, o2, A5, c5, A6, c6, rfl, hc2, hn2, hr2, ht2⟩ := hb.item h2
    have e1 := h0 _ (List.getElem_mem h1)
    have e2 := h0' _ (List.getElem_mem h2)
    have heq := itEq_eq e1 e2
    have hst := take_eq hi h1 h2
    have hne : a[k] ≠ b[k] → a ≠ b := fun h e => by subst e; exact h rfl
    generalize a[k] = x at hc1 hn1 hr1 ht1 e1 heq hst hne
    generalize b[k] = y at hc2 hn2 hr2 ht2 e2 heq hst hne
    rw [e1] at hc1
    rw [e2] at hc2
    replace hc1 : Cells f b1 (o1 + k * 3) [str x.name, .slice A3 x.refs.length c3, .slice A4 0 c4] := hc1
    replace hc2 : Cells f b2 (o2 + k * 3) [str y.name, .slice A5 y.refs.length c5, .slice A6 0 c6] := hc2
    refine cTs (sq (bk (sQ ?_)))
    refine ix k h1 ?_
    refine ldv hc1.1 ?_
    refine ix k h2 ?_
    refine ldv hc2.1 ?_
    refine neS (fun h => ?_) (fun h => ?_)
    · refine runE ?_
      refine cT (rr ?_)
      exact ret1 (bF (hne fun e => h (by rw [e])))
    have hn : x.name = y.name := Classical.not_not.1 h
    refine ix k h1 ?_
    refine ldv hc1.2.1 ?_
    refine ix k h2 ?_
    refine ldv hc2.2.1 ?_
    refine callB (p := x.refs = y.refs) (vs := [.slice A3 x.refs.length c3, .slice A5 y.refs.length c5]) (fun w g hs _ hon => sameTexts hon (hr1.mono hs) (hr2.mono hs)) (fun h3 => ?_) (fun h3 => ?_)
    case refine_2 =>
      refine runE ?_
      refine cT (rr ?_)
      exact ret1 (bF (hne fun e => h3 (by rw [e])))
    refine ix k h1 ?_
    refine ldv hc1.2.2.1 ?_
    refine ix k h2 ?_
    refine ldv hc2.2.2.1 ?_
    refine callV (.bool true) (vs := [.slice A4 0 c4, .slice A6 0 c6]) (fun w g hs _ hon => sameNodes0 hon) ?_
    refine runE ?_
    refine cFs (rg ?_)
    refine addE ((k + 1 : Nat) : Int) ?_
    exact nx (hst (heq.1 ⟨hn, h3⟩))
  · refine cFx (rr ?_)
    exact ret1 (bT (take_all hi (by omega) (by omega)))
theorem samePack0 {w : World} {f : View} (hv : On f w) {A B A2 B2 : Option Addr} {c d c2 d2 : Nat} {p q : Pack} (hp : PackV f p A c A2 c2) (hq : PackV f q B d B2 d2) (h0 : bareOk p) (h0' : bareOk q) :
    Con Try.prog 17 [.agg ⟨packC p A c A2 c2⟩, .agg ⟨packC q B d B2 d2⟩] w (Ret w f fun _ v => v = .bool (decide (p = q))) := by
  refine enterC hv Try.call17 Try.func17 ?_
  refine sg ?_
  refine box (vs := packC p A c A2 c2) fun b1 => ?_
  refine box (vs := packC q B d B2 d2) fun b2 => ?_
  refine runE ?_
  refine sg ?_
  refine ldo 1 ?_
  refine ldo 0 ?_
  refine eqS (fun h1 => ?_) (fun h1 => ?_)
  case refine_2 =>
    refine runE ?_
    refine ewL (L' := []) (fun _ h => h.sublist (List.nil_sublist _)) ?_
    refine ew_ret ?_
    exact ret1 (bF fun e => h1 (by rw [e]))
  refine ldo 1 ?_
  refine ldo 0 ?_
  refine eqI (fun h2 => ?_) (fun h2 => ?_)
  case refine_2 =>
    refine runE ?_
    refine ewL (L' := []) (fun _ h => h.sublist (List.nil_sublist _)) ?_
    refine ew_ret ?_
    exact ret1 (bF fun e => h2 (by rw [e]))
  refine ldo 1 ?_
  refine ldo 0 ?_
  refine callB (p := p.prof = q.prof) (vs := [.slice A2 p.prof.length c2, .slice B2 q.prof.length d2]) (fun w g hs _ hon => sameTexts hon (hp.prof.mono hs) (hq.prof.mono hs)) (fun h3 => ?_) (fun h3 => ?_)
  case refine_2 =>
    refine runE ?_
    refine ewL (L' := []) (fun _ h => h.sublist (List.nil_sublist _)) ?_
    refine ew_ret ?_
    exact ret1 (bF fun e => h3 (by rw [e]))
  refine ldo 1 ?_
  refine ldo 0 ?_
  refine callB (p := p.items = q.items) (vs := [.slice A p.items.length c, .slice B q.items.length d]) (fun w g hs _ hon => sameItems0 hon (hp.items.mono hs) (hq.items.mono hs) h0 h0') (fun h4 => ?_) (fun h4 => ?_)
  · refine runE ?_
    refine ewL (L' := []) (fun _ h => h.sublist (List.nil_sublist _)) ?_
    refine ew_ret ?_
    exact ret1 (bT (by cases p; cases q; simp_all))
  · refine runE ?_
    refine ewL (L' := []) (fun _ h => h.sublist (List.nil_sublist _)) ?_
    refine ew_ret ?_
    exact ret1 (bF fun e => h4 (by rw [e]))
end Go.Hog

set_option linter.unusedVariables false
set_option linter.unusedSimpArgs false
set_option maxRecDepth 100000
set_option maxHeartbeats 1000000
namespace Go.Hog
open Go.RowKit Rp Go.Proofs
def bareI (x : Item) : Item := ⟨x.name, x.refs, []⟩
theorem lawBare {w : World} {f : View} (hv : On f w) {p : Pack} {A : Option Addr} {c : Nat} {A2 : Option Addr} {c2 : Nat} (hp : PackV f p A c A2 c2) (hsm : p.items.length ≤ 1000000) :
    Con Try.prog 11 [.agg ⟨packC p A c A2 c2⟩] w (RetM w f [] fun g L' v => ∃ A' c' xs, v = .agg ⟨packC (bareP p) A' c' A2 c2⟩ ∧ L' = [.row A' (bareP p).items.length c' 47 3 xs] ∧ Rw g (bareP p).items xs) := by
  refine enterM (L := []) hv (Given.nil _ _) Try.call11 Try.func11 ?_
  refine sg ?_
  refine box (vs := packC p A c A2 c2) fun b1 => ?_
  refine alloc fun b2 => ?_
  refine runE ?_
  generalize hB2 : HE.blk b2 (.cells ⟨packC p0 none 0 none 0⟩ 25) = B2
  refine efg [(2, ptrTo b2), (1, ptrTo b1)] [B2, .blk b1 (.cells ⟨packC p A c A2 c2⟩ 25)] (fun ρ => ?_) (hh := by subst hB2; rfl)
  refine efrz 1 fun g hs hq => ?_
  have hp1 := hp.mono hs
  have hc : Cells g b1 0 (packC p A c A2 c2) := ⟨blk_seen hq, blk_seen hq, blk_seen hq, blk_seen hq, trivial⟩
  have k1 : g.cell? ⟨b1, 1, none⟩ = some (.slice A p.items.length c) := blk_seen hq
  refine efg [(2, ptrTo b2), (1, ptrTo b1)] [B2] (fun ρ => ?_)
  refine sg ?_
  refine ldvA hc ?_
  refine alloc fun b3 => ?_
  refine st 0 ?_
  refine runE ?_
  refine sg ?_
  refine st 0 ?_
  refine runE ?_
  refine enilrow 47 3 ?_
  have hli := hp1.items.len_lt
  have hb1 : ∀ k (hk : k < p.items.length), (p.items.take (k + 1)).map bareI = (p.items.take k).map bareI ++ [bareI p.items[k]] := fun k hk => by
    rw [(List.take_append_getElem hk).symm, List.map_append]; rfl
  refine efg [(3, ptrTo b3), (2, ptrTo b2), (1, ptrTo b1)] [.row none 0 0 47 3 [], .blk b3 (.cells ⟨[str p.pre, .slice none 0 0, .slice A2 p.prof.length c2, i64 p.pol]⟩ 25), B2] (fun ρ => ?_)
  refine sqJ (σ := Option Addr × Nat × List Value) (fun s => [(3, ptrTo b3), (2, ptrTo b2), (1, ptrTo b1)]) (fun _ => g) (fun s => [.row s.1 p.items.length s.2.1 47 3 s.2.2, .blk b3 (.cells ⟨[str p.pre, .slice s.1 p.items.length s.2.1, .slice A2 p.prof.length c2, i64 p.pol]⟩ 25), B2]) (fun s => Rw g (p.items.map bareI) s.2.2) ?_ ?_
  · refine sgE (bk ?_)
    refine lp (σ := Nat × Option Addr × Nat × List Value) (fun s => [(4, i64 s.1), (3, ptrTo b3), (2, ptrTo b2), (1, ptrTo b1)]) (fun _ => g) (fun s => [.row s.2.1 s.1 s.2.2.1 47 3 s.2.2.2, .blk b3 (.cells ⟨[str p.pre, .slice s.2.1 s.1 s.2.2.1, .slice A2 p.prof.length c2, i64 p.pol]⟩ 25), B2]) (fun s => s.1 ≤ p.items.length ∧ Rw g ((p.items.take s.1).map bareI) s.2.2.2) (fun s => p.items.length - s.1) (0, none, 0, []) ⟨Nat.zero_le _, Rw.nil g⟩ ?_
    rintro ⟨k, A3, c3, xs⟩ ρ ⟨hk, hr⟩
    replace hk : k ≤ p.items.length := hk
    replace hr : Rw g ((p.items.take k).map bareI) xs := hr
    show EW _ _ _ _ _ (ups ρ [(4, i64 k), (3, ptrTo b3), (2, ptrTo b2), (1, ptrTo b1)]) g [.row A3 k c3 47 3 xs, .blk b3 (.cells ⟨[str p.pre, .slice A3 k c3, .slice A2 p.prof.length c2, i64 p.pol]⟩ 25), B2]
    refine sq (sg ?_)
    refine ldv k1 ?_
    refine ltE (fun h => ?_) (fun h => ?_)
    case refine_2 =>
      have e : k = p.items.length := by omega
      subst e
      rw [List.take_length] at hr
      refine cFx ?_
      exact jn (A3, c3, xs) hr
    have h1 : k < p.items.length := by omega
    obtain ⟨b5, o5, A6, c6, A7, c7, rfl, hc5, hn5, hr5, ht5⟩ := hp1.items.item h1
    have hbk := hb1 k h1
    generalize hx : p.items[k] = x at hc5 hn5 hr5 ht5 hbk
    have hrx : rp g (bareI x) [str x.name, .slice A6 x.refs.length c6, .slice none 0 0] := ⟨A6, c6, none, 0, rfl, hn5, hr5, Sl.nil g⟩
    refine cTs (sq (bk ?_))
    have hH : ∀ L, HE.blk b3 (.cells ⟨[str p.pre, .slice A3 k c3, .slice A2 p.prof.length c2, i64 p.pol]⟩ 25) ∈ L → HeldL g [.blk b3 (.cells ⟨[str p.pre, .slice A3 k c3, .slice A2 p.prof.length c2, i64 p.pol]⟩ 25)] g L := fun L h => ⟨Sub.refl _, fun e he => by rw [List.mem_singleton] at he; subst he; exact h⟩
    refine eA [1, 3, 5, 6, 7, 9, 11, 12, 13, 14] [.blk b3 (.cells ⟨[str p.pre, .slice A3 k c3, .slice A2 p.prof.length c2, i64 p.pol]⟩ 25)] (by simp) ?_
    refine an_takeU [0, 2, 4, 8, 10] ?_
    refine an_takeH [1, 3, 5, 6, 7, 9, 11, 12, 13, 14] (hH _ (.tail _ (.head _))) ?_
    refine ldo 0 ?_
    refine ldv k1 ?_
    refine ix k h1 ?_
    refine ldv hc5.1 ?_
    refine ldv k1 ?_
    refine ix k h1 ?_
    refine ldv hc5.2.1 ?_
    refine bld ?_
    refine rw_end ?_
    refine an_run1 15 ?_
    refine bsl fun b6 => ?_
    refine aH (hH _ (.tail _ (.tail _ (.head _)))) ?_
    refine an_run1 16 ?_
    refine app 0 (fun A8 c8 => ?_) (hlim := by show (k + 1) * 64 ≤ _; omega)
    refine aH (hH _ (.tail _ (.head _))) ?_
    refine an_takeU [17] ?_
    refine an_run1 18 ?_
    refine st 1 ?_
    refine a0 ?_
    refine an_done ?_
    refine efg [(4, i64 k), (3, ptrTo b3), (2, ptrTo b2), (1, ptrTo b1)] [.row A8 (k + 1) c8 47 3 (xs ++ [str x.name, .slice A6 x.refs.length c6, .slice none 0 0]), .blk b3 (.cells ⟨[str p.pre, .slice A8 (k + 1) c8, .slice A2 p.prof.length c2, i64 p.pol]⟩ 25), B2] (fun ρ => ?_)
    refine rg ?_
    refine addE ((k + 1 : Nat) : Int) ?_
    exact nxs (k + 1, A8, c8, xs ++ [str x.name, .slice A6 x.refs.length c6, .slice none 0 0]) ⟨h1, by rw [hbk]; exact hr.snoc hrx⟩ (by show p.items.length - (k + 1) < p.items.length - k; omega)
  rintro ⟨A3, c3, xs⟩ ρ hr
  replace hr : Rw g (p.items.map bareI) xs := hr
  show EW _ _ _ _ _ (ups ρ [(3, ptrTo b3), (2, ptrTo b2), (1, ptrTo b1)]) g [.row A3 p.items.length c3 47 3 xs, .blk b3 (.cells ⟨[str p.pre, .slice A3 p.items.length c3, .slice A2 p.prof.length c2, i64 p.pol]⟩ 25), B2]
  have hl : (bareP p).items.length = p.items.length := List.length_map _
  refine sg ?_
  refine ldoA 1 ?_
  subst hB2
  refine st 2 ?_
  refine runE ?_
  refine ew_ret ?_
  refine retA1M 2 [.row A3 p.items.length c3 47 3 xs] (fun w hw => hw.sublist (.cons_cons _ (List.nil_sublist _))) ⟨A3, c3, xs, ?_, ?_, hr⟩
  · unfold packC
    rw [hl]
    rfl
  · rw [hl]
end Go.Hog

set_option linter.unusedVariables false
set_option linter.unusedSimpArgs false
set_option maxRecDepth 100000
set_option maxHeartbeats 1000000
namespace Go.Hog
open Go.RowKit Rp Go.Proofs
theorem overTs {w : World} {f : View} {A : Option Addr} {n c : Nat} {xs : List Value} (hv : On f w) (hlim : n ≤ 1000000) (hg : Given f [.row A n c 9 1 xs] w) :
    Con Try.prog 19 [.slice A n c] w (RetM w f [.row A n c 9 1 xs] (fun _ L' _ => L' = [])) := by
  refine enterM hv hg Try.call19 Try.func19 ?_
  refine sqJ (σ := List Value) (fun _ => [(0, .slice A n c)]) (fun _ => f) (fun s => [.row A n c 9 1 s]) (fun _ => True) ?_ ?_
  case refine_2 =>
    rintro ys ρ _
    refine rg ?_
    refine bsl fun b => ?_
    refine app 0 (fun A' c' => ?_) (hi := rfl) (hlim := by show (n + 1) * 16 ≤ _; omega)
    refine dropH ?_
    refine runE ?_
    exact ret0M rfl
  refine sgE ?_
  refine bk ?_
  refine lp (σ := Nat × List Value) (fun s => [(2, i64 s.1), (0, .slice A n c)]) (fun _ => f) (fun s => [.row A n c 9 1 s.2]) (fun s => s.1 ≤ n) (fun s => n - s.1) (0, xs) (Nat.zero_le _) ?_
  rintro ⟨k, ys⟩ ρ hk
  replace hk : k ≤ n := hk
  show EW _ _ _ _ _ (ups ρ [(2, i64 k), (0, .slice A n c)]) f [.row A n c 9 1 ys]
  refine sq (sg ?_)
  refine ltE (fun h => ?_) (fun h => ?_)
  case refine_2 =>
    refine cFx ?_
    exact jn ys trivial
  have h1 : k < n := by omega
  refine erowF 0 fun hrow => ?_
  obtain ⟨g, rfl⟩ := hrow.2.2.2.1 (by omega)
  refine cTs (sq (bk ?_))
  refine rg ?_
  refine ix k h1 ?_
  refine stR 0 (o := 0 + k * 1) (vs := [str [111, 118, 101, 114]]) (xs := ys) (by rw [hrow.1]; simp; omega) ?_
  refine rw_end ?_
  refine rg ?_
  refine addE ((k + 1 : Nat) : Int) ?_
  exact nxs (k + 1, putL ys (0 + k * 1) [str [111, 118, 101, 114]]) h1 (by show n - (k + 1) < n - k; omega)
end Go.Hog

set_option linter.unusedVariables false
set_option linter.unusedSimpArgs false
set_option maxRecDepth 100000
set_option maxHeartbeats 1000000
namespace Go.Hog
open Go.RowKit Rp Go.Proofs
theorem overNodes0 {w : World} {f : View} (hv : On f w) :
    Con Try.prog 41 [.slice none 0 0] w (RetM w f [] (fun _ L' _ => L' = [])) := by
  refine enterM (L := []) hv (Given.nil _ _) Try.call41 Try.func41 ?_
  refine sqJ (σ := Unit) (fun _ => [(0, .slice none 0 0)]) (fun _ => f) (fun _ => []) (fun _ => True) ?_ ?_
  · refine sgE (bk ?_)
    refine lpn 0 (fun k => [(2, i64 k), (0, .slice none 0 0)]) (fun k => True) trivial ?_
    intro k ρ hk hi
    refine sq (sg ?_)
    refine ltE (fun h => ?_) (fun h => ?_)
    · exact absurd h (by show ¬ ((k : Int) < ((0 : Nat) : Int)); omega)
    · refine cFx ?_
      exact jn () trivial
  rintro ⟨⟩ ρ _
  refine rg ?_
  refine nilrow 85 3 ?_
  refine bld ?_
  refine bsl fun b => ?_
  refine app 0 (nn := 0) (c := 0) (fun A' c' => ?_) (hlim := by show (0 + 1) * 40 ≤ _; omega)
  refine dropH ?_
  refine runE ?_
  exact ret0M rfl
theorem overItems {w : World} {f : View} {its : List RI} {A : Option Addr} {c : Nat} (hv : On f w) (hlim : its.length ≤ 1000000) (hl2 : ∀ r ∈ its, r.1.refs.length ≤ 1000000) (hg : Given f (itR A c its :: its.map rRf) w) :
    Con Try.prog 18 [.slice A its.length c] w (RetM w f (itR A c its :: its.map rRf) (fun _ L' _ => L' = [])) := by
  refine enterM hv hg Try.call18 Try.func18 ?_
  refine sgE (bk ?_)
  refine lp (σ := Nat × List Value × View) (fun s => [(2, i64 s.1), (0, .slice A its.length c)]) (fun s => s.2.2) (fun s => .row A its.length c 47 3 s.2.1 :: (its.drop s.1).map rRf) (fun s => s.1 ≤ its.length ∧ s.2.1.length = its.length * 3 ∧ ∀ j (hj : j < its.length), s.1 ≤ j → ∀ i, i < 3 → s.2.1[j * 3 + i]? = (e3 its[j])[i]?) (fun s => its.length - s.1) (0, its.flatMap e3, f) ⟨Nat.zero_le _, flat_len e3_len its, fun j hj _ i hi => flat_cell e3_len its j i hj hi⟩ ?_
  rintro ⟨k, xs, g⟩ ρ ⟨hk, hxl, hxs⟩
  replace hk : k ≤ its.length := hk
  replace hxl : xs.length = its.length * 3 := hxl
  replace hxs : ∀ j (hj : j < its.length), k ≤ j → ∀ i, i < 3 → xs[j * 3 + i]? = (e3 its[j])[i]? := hxs
  show EW _ _ _ _ _ (ups ρ [(2, i64 k), (0, .slice A its.length c)]) g (.row A its.length c 47 3 xs :: (its.drop k).map rRf)
  refine sq (sg ?_)
  refine ltE (fun h => ?_) (fun h => ?_)
  case refine_2 =>
    refine cFx ?_
    exact postL (L' := []) (fun _ h => h.sublist (List.nil_sublist _)) (ret0M rfl)
  have h1 : k < its.length := by omega
  have hdr : its.drop k = its[k] :: its.drop (k + 1) := List.drop_eq_getElem_cons h1
  have hx1 : xs[0 + k * 3 + 1]? = some (.slice its[k].2.1 its[k].1.refs.length its[k].2.2) := by rw [Nat.zero_add]; exact hxs k h1 (Nat.le_refl _) 1 (by omega)
  have hx2 : xs[0 + k * 3 + 2]? = some (.slice none 0 0) := by rw [Nat.zero_add]; exact hxs k h1 (Nat.le_refl _) 2 (by omega)
  have hrl := hl2 _ (List.getElem_mem h1)
  refine erowF 0 fun hrow => ?_
  obtain ⟨bg, rfl⟩ := hrow.2.2.2.1 (by omega)
  generalize its[k] = r at hdr hx1 hrl
  rw [hdr]
  generalize hR : (its.drop (k + 1)).map rRf = R
  refine cTs (sq (bk ?_))
  refine efg [(2, i64 k), (0, .slice (some ⟨bg, 0, none⟩) its.length c)] (.row (some ⟨bg, 0, none⟩) its.length c 47 3 xs :: rRf r :: R) (fun ρ => ?_) (hh := by subst hR; rfl)
  refine sg ?_
  refine ix k h1 ?_
  refine ldr 0 hx1 ?_
  refine rperm (L' := [sRow r.2.1 r.2.2 r.1.refs] ++ (.row (some ⟨bg, 0, none⟩) its.length c 47 3 xs :: R)) (.swap _ _ _) ?_
  refine callM [sRow r.2.1 r.2.2 r.1.refs] (.row (some ⟨bg, 0, none⟩) its.length c 47 3 xs :: R) (vs := [.slice r.2.1 r.1.refs.length r.2.2]) (fun w hon hgi => overTs hon hrl hgi) (fun v g2 L' hs2 hR2 => ?_)
  subst hR2
  refine runE ?_
  refine efg [(2, i64 k), (0, .slice (some ⟨bg, 0, none⟩) its.length c)] (.row (some ⟨bg, 0, none⟩) its.length c 47 3 xs :: R) (fun ρ => ?_)
  refine sg ?_
  refine ix k h1 ?_
  refine ldr 0 hx2 ?_
  refine callM [] (.row (some ⟨bg, 0, none⟩) its.length c 47 3 xs :: R) (vs := [.slice none 0 0]) (fun w hon hgi => overNodes0 hon) (fun v g3 L' hs3 hR3 => ?_)
  subst hR3
  refine runE ?_
  refine efg [(2, i64 k), (0, .slice (some ⟨bg, 0, none⟩) its.length c)] (.row (some ⟨bg, 0, none⟩) its.length c 47 3 xs :: R) (fun ρ => ?_)
  refine rg ?_
  refine bld ?_
  refine ix k h1 ?_
  refine stR 0 (vs := [str [111, 118, 101, 114], .slice none 0 0, .slice none 0 0]) (xs := xs) (b := bg) (o := 0 + k * 3) (nn := its.length) (c := c) (by show 0 + k * 3 + 3 ≤ _; omega) ?_
  refine runE ?_
  refine rg ?_
  refine addE ((k + 1 : Nat) : Int) ?_
  have hq : 0 + k * 3 + [str [111, 118, 101, 114], Value.slice none 0 0, Value.slice none 0 0].length ≤ xs.length := by show 0 + k * 3 + 3 ≤ _; omega
  refine nxs (k + 1, putL xs (0 + k * 3) [str [111, 118, 101, 114], .slice none 0 0, .slice none 0 0], g3) ⟨h1, by show (putL _ _ _).length = _; rw [putL_length _ _ _ hq]; exact hxl, fun j hj hkj i hi => ?_⟩ (by show its.length - (k + 1) < its.length - k; omega) (hh := by subst hR; rfl)
  show (putL xs (0 + k * 3) [str [111, 118, 101, 114], .slice none 0 0, .slice none 0 0])[j * 3 + i]? = _
  rw [← putL_eq _ _ _ hq]
  have hkj' : k + 1 ≤ j := hkj
  have hl3 : (xs.take (0 + k * 3) ++ [str [111, 118, 101, 114], Value.slice none 0 0, Value.slice none 0 0]).length = k * 3 + 3 := by rw [List.length_append, List.length_take]; show min _ _ + 3 = _; omega
  rw [List.getElem?_append_right (by omega), hl3, List.getElem?_drop]
  rw [← hxs j hj (by omega) i hi]
  congr 1
  show 0 + k * 3 + 3 + (j * 3 + i - (k * 3 + 3)) = _
  omega
end Go.Hog

set_option linter.unusedVariables false
set_option linter.unusedSimpArgs false
set_option maxRecDepth 100000
set_option maxHeartbeats 1000000
namespace Go.Hog
open Go.RowKit Rp Go.Proofs
def aw11n : Str := [48, 48, 48, 48, 48, 48, 48, 48, 45, 97]
def aw11 : Pack := ⟨[47, 103, 110, 117], [⟨aw11n, [aw11n], []⟩], [], 1⟩
def aw11t : Str := [112, 114, 101, 102, 105, 120, 32, 47, 103, 110, 117, 10, 112, 111, 108, 105, 99, 121, 32, 49, 10, 105, 116, 101, 109, 32, 48, 48, 48, 48, 48, 48, 48, 48, 45, 97, 10, 114, 101, 102, 32, 48, 48, 48, 48, 48, 48, 48, 48, 45, 97, 10]
theorem aw11_may : mayP aw11 := by decide
theorem aw11_lay : layT aw11 = aw11t := by decide
theorem aw11_bare : bareOk aw11 := by
  intro x hx
  rcases List.mem_cons.1 hx with rfl | hx
  · rfl
  · cases hx
theorem p0_may : ¬ mayP p0 := by decide
theorem awake11 {w : World} {f : View} (hv : On f w) (hm : ML f) : Con Try.prog 8 [] w (Ret w f fun _ v => v = .bool true) := by
  refine enterC hv Try.call8 Try.func8 ?_
  refine sgE ?_
  refine sg ?_
  refine bsl fun b6 => ?_
  refine bld ?_
  refine bsl fun b8 => ?_
  refine bld ?_
  refine alloc fun b1 => ?_
  refine st 0 ?_
  refine runE ?_
  refine efg [(1, ptrTo b1)] [.blk b1 (.cells ⟨packC aw11 (some ⟨b8, 0, none⟩) 1 none 0⟩ 25), .row (some ⟨b8, 0, none⟩) 1 1 47 3 [str aw11n, .slice (some ⟨b6, 0, none⟩) 1 1, .slice none 0 0], sRow (some ⟨b6, 0, none⟩) 1 [aw11n]] (fun ρ => ?_)
  refine efrzA [] _ (List.Perm.refl _) fun g hs hsn => ?_
  have hq := hsn _ (.head _)
  have hit := hsn _ (.tail _ (.head _))
  have hrf := hsn _ (.tail _ (.tail _ (.head _)))
  have hc : Cells g b1 0 (packC aw11 (some ⟨b8, 0, none⟩) 1 none 0) := ⟨blk_seen hq, blk_seen hq, blk_seen hq, blk_seen hq, trivial⟩
  have hsl : Sl g (some ⟨b6, 0, none⟩) 1 [aw11n] := Sl.ofTexts hrf rfl (fun s hs => by rw [List.mem_singleton] at hs; subst hs; show 10 ≤ 140737488355328; omega) (by show 1 ≤ 140737488355328; omega)
  have hrx : rp g (⟨aw11n, [aw11n], []⟩ : Item) [str aw11n, .slice (some ⟨b6, 0, none⟩) 1 1, .slice none 0 0] := ⟨some ⟨b6, 0, none⟩, 1, none, 0, rfl, by show 10 ≤ 140737488355328; omega, hsl, Sl.nil g⟩
  have hp : PackV g aw11 (some ⟨b8, 0, none⟩) 1 none 0 := ⟨by show 4 ≤ 140737488355328; omega, (Rw.one hrx).sl hit rfl (by show 1 ≤ 140737488355328; omega), Sl.nil g, by show -9223372036854775808 ≤ (1 : Int) ∧ (1 : Int) ≤ 9223372036854775807; omega⟩
  have hl1 : layS aw11 = aw11t := by unfold layS; rw [if_pos aw11_may]; exact aw11_lay
  have hl2 : layE aw11 = 0 := if_pos aw11_may
  have hmg := hm.mono hs
  refine sg ?_
  refine ldvA hc ?_
  refine callM0 (vs := [.agg ⟨packC aw11 (some ⟨b8, 0, none⟩) 1 none 0⟩]) [] (fun w hon hgi => regLay hon hmg hp (by show 1 ≤ 1000000; omega)) (fun v g2 L' hs2 hR => ?_)
  obtain ⟨rfl, rfl⟩ := hR
  rw [hl1, hl2]
  refine runE ?_
  refine efg [(3, i64 0), (2, str aw11t), (1, ptrTo b1)] [] (fun ρ => ?_)
  refine sg ?_
  refine callM0 (vs := [str aw11t]) [] (fun w hon hgi => regRead hon (hmg.mono hs2) (by decide)) (fun v g3 L' hs3 hR => ?_)
  obtain ⟨its, A, c, A2, c2, q, e, rfl, hi, rfl, hans, _⟩ := hR
  obtain ⟨rfl, rfl⟩ := Ans.uniq hans (.inl ⟨rfl, aw11_may, aw11_bare, aw11_lay⟩)
  refine alloc fun b4 => ?_
  refine st 0 ?_
  refine runE ?_
  refine efg [(5, i64 0), (4, ptrTo b4), (3, i64 0), (2, str aw11t), (1, ptrTo b1)] (.blk b4 (.cells ⟨packC aw11 A c A2 c2⟩ 25) :: pRows its A c A2 c2 aw11) (fun ρ => ?_)
  have hs13 : Sub g g3 := hs2.trans hs3
  have hbd : Bd 10 10 aw11 := ⟨by decide, by decide, by decide, by decide, by decide, by decide⟩
  refine sg ?_
  refine eqS (fun _ => ?_) (fun h => absurd rfl h)
  refine eqI (fun _ => ?_) (fun h => absurd rfl h)
  refine eqI (fun _ => ?_) (fun h => absurd rfl h)
  refine ldvA (Cells.mono hs13 hc) ?_
  refine ldoA 0 ?_
  refine callV (.bool true) (vs := [.agg ⟨packC aw11 (some ⟨b8, 0, none⟩) 1 none 0⟩, .agg ⟨packC aw11 A c A2 c2⟩]) (fun w g' h1 h2 h3 => ?_) ?_
  · have := samePack0 h3 (hp.mono (hs13.trans h1)) (rows_packV (S := 10) (N := 10) (fun e he => h2 e (List.mem_cons_of_mem _ he)) hi aw11_bare hbd (by show 10 ≤ 140737488355328; omega) (by show 10 ≤ 140737488355328; omega)) aw11_bare aw11_bare
    rwa [decide_eq_true rfl] at this
  refine bld ?_
  refine callV (.bool false) (vs := [.agg ⟨packC p0 none 0 none 0⟩]) (fun w g' h1 h2 h3 => ?_) ?_
  · have := regMay h3 ((hmg.mono hs13).mono h1) (p := p0) (A := none) (c := 0) (A2 := none) (c2 := 0) ⟨Nat.zero_le _, Sl.nil g', Sl.nil g', by show -9223372036854775808 ≤ (0 : Int) ∧ (0 : Int) ≤ 9223372036854775807; omega⟩ (Nat.zero_le _)
    rwa [decide_eq_false p0_may] at this
  refine runE ?_
  refine ewL (L' := []) (fun _ h => h.sublist (List.nil_sublist _)) ?_
  refine ew_ret ?_
  exact ret1 rfl
end Go.Hog
