/- Contracts: item.Own, slices.IndexFunc of items, closure.Get. -/
import Derived.Test.YtdidefhdcinecaaGreatDoorS17
import Derived.Test.YtdidefhdcinecaaGreatDoorF14
import Derived.Test.YtdidefhdcinecaaGreatDoorEZ
set_option linter.unusedVariables false
set_option linter.unusedSimpArgs false
set_option maxRecDepth 100000
set_option maxHeartbeats 1000000
namespace Go.Hog
open Go.RowKit Rp Go.Proofs
def itemC (x : Item) (A1 : Option Addr) (c1 : Nat) (A2 : Option Addr) (c2 : Nat) : List Value := [str x.name, .slice A1 x.refs.length c1, .slice A2 x.tree.length c2]
theorem itemOwn {w : World} {f : View} (hv : On f w) {x : Item} {A1 A2 : Option Addr} {c1 c2 : Nat} (hr : Sl f A1 c1 x.refs) (ht : Sl f A2 c2 x.tree) (h1 : x.refs.length ≤ 1000000) (h2 : x.tree.length ≤ 1000000) :
    Con Tryz.prog 46 [.agg ⟨itemC x A1 c1 A2 c2⟩] w (RetM w f [] fun _ L' v => ∃ B1 d1 B2 d2, v = .agg ⟨itemC x B1 d1 B2 d2⟩ ∧ L' = [nRow B2 d2 x.tree, sRow B1 d1 x.refs]) := by
  refine enterM (L := []) hv (Given.nil _ _) Tryz.call46 Tryz.func46 ?_
  refine sg ?_
  refine box fun b1 => ?_
  refine alloc fun b2 => ?_
  refine runE ?_
  refine efg [(1, .pointer (some ⟨b1, 0, none⟩)), (2, .pointer (some ⟨b2, 0, none⟩))] [.blk b2 (.cells ⟨[str [], .slice none 0 0, .slice none 0 0]⟩ 44), .blk b1 (.cells ⟨[str x.name, .slice A1 x.refs.length c1, .slice A2 x.tree.length c2]⟩ 44)] fun ρ => ?_
  refine sA [0, 1, 3, 4] [.blk b1 (.cells ⟨[str x.name, .slice A1 x.refs.length c1, .slice A2 x.tree.length c2]⟩ 44)] (List.sublist_cons_self _ _) ?_
  refine an_takeH [0, 1, 3, 4] ⟨Sub.refl _, fun e he => List.mem_cons_of_mem _ he⟩ ?_
  refine ldo 0 ?_
  refine ldo 0 ?_
  refine rw_end ?_
  refine an_run1 2 ?_
  refine callM (vs := [.slice A1 x.refs.length c1]) [] [.blk b2 (.cells ⟨[str [], .slice none 0 0, .slice none 0 0]⟩ 44), .blk b1 (.cells ⟨[str x.name, .slice A1 x.refs.length c1, .slice A2 x.tree.length c2]⟩ 44)] (fun w hon hgi => cloneS hon hr h1) (fun v g L' hs hR => ?_)
  obtain ⟨B1, d1, rfl, rfl⟩ := hR
  refine aH ⟨hs, fun e he => List.mem_cons_of_mem _ (List.mem_cons_of_mem _ he)⟩ ?_
  refine an_takeU [6] ?_
  have ht2 := ht.mono hs
  refine an_run1 5 ?_
  refine callM (vs := [.slice A2 x.tree.length c2]) [] [sRow B1 d1 x.refs, .blk b2 (.cells ⟨[str [], .slice none 0 0, .slice none 0 0]⟩ 44), .blk b1 (.cells ⟨[str x.name, .slice A1 x.refs.length c1, .slice A2 x.tree.length c2]⟩ 44)] (fun w hon hgi => cloneN hon ht2 h2) (fun v g2 L' hs2 hR => ?_)
  obtain ⟨B2, d2, rfl, rfl⟩ := hR
  refine aH ⟨hs.trans hs2, fun e he => List.mem_cons_of_mem _ (List.mem_cons_of_mem _ (List.mem_cons_of_mem _ he))⟩ ?_
  refine an_run1 7 ?_
  refine st 3 ?_
  refine a0 ?_
  refine an_takeU [8] ?_
  refine an_run1 9 ?_
  refine st 3 ?_
  refine a0 ?_
  refine an_done ?_
  refine efg [(1, .pointer (some ⟨b1, 0, none⟩)), (2, .pointer (some ⟨b2, 0, none⟩))] [nRow B2 d2 x.tree, sRow B1 d1 x.refs, .blk b2 (.cells ⟨[str [], .slice none 0 0, .slice none 0 0]⟩ 44), .blk b1 (.cells ⟨itemC x B1 d1 B2 d2⟩ 44)] fun ρ => ?_
  refine sg ?_
  refine ldoA 3 ?_
  refine st 2 ?_
  refine runE ?_
  refine ew_ret ?_
  refine retA1M 2 [nRow B2 d2 x.tree, sRow B1 d1 x.refs] (cs := itemC x B1 d1 B2 d2) (fun _ h => h.sublist (by simp)) ⟨B1, d1, B2, d2, rfl, rfl⟩
/-- The place of the first that is so; -1. -/
theorem indexFuncI {w : World} {f : View} (hv : On f w) {A : Option Addr} {c : Nat} {a : List Item} (ha : Sl f A c a) {kf : Nat} {fi ca : List Value} {p : Item → Bool}
    (hp : ∀ w g, Sub f g → On g w → ∀ x cs, rp g x cs → Con Tryz.prog kf (fi ++ [.agg ⟨cs⟩] ++ ca) w (Ret w g fun _ v => v = .bool (p x))) :
    Con Tryz.prog 78 [.slice A a.length c, .func (.func kf) ⟨fi⟩ ⟨ca⟩] w (Ret w f fun _ v => v = i64 (idxP p a)) := by
  refine enterC hv Tryz.call78 Tryz.func78 ?_
  have hlim := ha.len_lt
  refine sgE ?_
  refine sqJ (σ := Unit) (fun _ => []) (fun _ => f) (fun _ => []) (fun _ => idxP p a = -1) ?_ ?_
  case refine_2 =>
    intro _ ρ h
    replace h : idxP p a = -1 := h
    refine sgE ?_
    refine ew_ret ?_
    exact ret1 (by rw [h])
  refine sgE ?_
  refine bk ?_
  refine lpn a.length (fun k => [(8, i64 k), (7, i64 (a.length : Nat)), (1, .func (.func kf) ⟨fi⟩ ⟨ca⟩), (0, .slice A a.length c)]) (fun k => ∀ j (hj : j < a.length), j < k → p a[j] = false) (fun j _ h => by omega) ?_
  intro k ρ hk hb
  refine sg ?_
  refine ltE (fun h => ?_) (fun h => ?_)
  case refine_2 =>
    refine sq (cFx ?_)
    exact jn () (idxP_no fun j hj => hb j hj (by omega))
  have h1 : k < a.length := by omega
  obtain ⟨b1, o1, A1, c1, A2, c2, rfl, hc, hn, hr, ht⟩ := ha.item h1
  refine sq (cTs (sq (bk (sgE ?_))))
  refine sg ?_
  refine ix k h1 ?_
  refine ldvA hc ?_
  refine callBF (p := p a[k] = true) (vs := [.agg ⟨[str a[k].name, .slice A1 a[k].refs.length c1, .slice A2 a[k].tree.length c2]⟩]) (fun w g hs _ hon => ?_) (fun hpt => ?_) (fun hpf => ?_)
  · have := hp w g hs hon a[k] _ ⟨A1, c1, A2, c2, rfl, hn, hr.mono hs, ht.mono hs⟩
    simpa using this
  · refine runE ?_
    refine cT (sgE ?_)
    refine ew_ret ?_
    exact ret1 (by rw [idxP_at h1 hpt hb])
  · refine runE ?_
    refine cFs (rg ?_)
    refine addE ((k + 1 : Nat) : Int) ?_
    refine nx (fun j hj hjk => ?_)
    by_cases e : j = k
    · subst e; simpa using hpf
    · exact hb j hj (by omega)
def getR (a : List Item) (s : Str) (L' : List HE) (v : Value) : Prop := match getI a s with
  | none => v = .tuple #[.agg ⟨[str [], .slice none 0 0, .slice none 0 0]⟩, .bool false] ∧ L' = []
  | some x => ∃ B1 d1 B2 d2, v = .tuple #[.agg ⟨itemC x B1 d1 B2 d2⟩, .bool true] ∧ L' = [nRow B2 d2 x.tree, sRow B1 d1 x.refs]
theorem getI_idx {a : List Item} {s : Str} : (getI a s = none ∧ idxP (fun x => x.name == s) a = -1) ∨ ∃ k, ∃ h : k < a.length, getI a s = some a[k] ∧ idxP (fun x => x.name == s) a = k := by
  cases hf : a.findIdx? (fun x => x.name == s) with
  | none =>
    refine .inl ⟨?_, by unfold idxP; rw [hf]⟩
    rw [List.findIdx?_eq_none_iff] at hf
    exact getI_none.2 fun i hi => by simpa using hf i hi
  | some k =>
    obtain ⟨h, h1, h2⟩ := List.findIdx?_eq_some_iff_getElem.1 hf
    refine .inr ⟨k, h, getI_at h (by simpa using h1) (fun j hj hjk => by simpa using h2 j hjk), by unfold idxP; rw [hf]⟩
/-- Of moderate size, the trees too. -/
def FitT (a : List Item) : Prop := a.length ≤ 1000 ∧ ∀ x ∈ a, x.refs.length ≤ 1000 ∧ x.tree.length ≤ 1000
end Go.Hog
