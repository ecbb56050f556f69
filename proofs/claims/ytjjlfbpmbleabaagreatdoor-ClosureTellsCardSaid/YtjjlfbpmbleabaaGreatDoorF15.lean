/- Contracts: item.Own, slices.IndexFunc of items, closure.Get. -/
import Derived.Test.YtjjlfbpmbleabaaGreatDoorS17
import Derived.Test.YtjjlfbpmbleabaaGreatDoorF14
import Derived.Test.YtjjlfbpmbleabaaGreatDoorEZ
set_option linter.unusedVariables false
set_option linter.unusedSimpArgs false
set_option maxRecDepth 100000
set_option maxHeartbeats 1000000
namespace Go.Hog
open Go.RowKit Rp Go.Proofs
def itemC (x : Item) (A1 : Option Addr) (c1 : Nat) (A2 : Option Addr) (c2 : Nat) : List Value := [str x.name, .slice A1 x.refs.length c1, .slice A2 x.tree.length c2]
theorem itemOwn {w : World} {f : View} (hv : On f w) {x : Item} {A1 A2 : Option Addr} {c1 c2 : Nat} (hr : Sl f A1 c1 x.refs) (ht : Sl f A2 c2 x.tree) (h1 : x.refs.length ≤ 1000000) (h2 : x.tree.length ≤ 1000000) :
    Con Tryz.prog 24 [.agg ⟨itemC x A1 c1 A2 c2⟩] w (RetM w f [] fun _ L' v => ∃ B1 d1 B2 d2, v = .agg ⟨itemC x B1 d1 B2 d2⟩ ∧ L' = [nRow B2 d2 x.tree, sRow B1 d1 x.refs]) := by
  refine enterM (L := []) hv (Given.nil _ _) Tryz.call24 Tryz.func24 ?_
  refine sg ?_
  refine box fun b1 => ?_
  refine alloc fun b2 => ?_
  refine runE ?_
  refine efg [(1, .pointer (some ⟨b1, 0, none⟩)), (2, .pointer (some ⟨b2, 0, none⟩))] [.blk b2 (.cells ⟨[str [], .slice none 0 0, .slice none 0 0]⟩ 29), .blk b1 (.cells ⟨[str x.name, .slice A1 x.refs.length c1, .slice A2 x.tree.length c2]⟩ 29)] fun ρ => ?_
  refine sA [0, 1, 3, 4] [.blk b1 (.cells ⟨[str x.name, .slice A1 x.refs.length c1, .slice A2 x.tree.length c2]⟩ 29)] (List.sublist_cons_self _ _) ?_
  refine an_takeH [0, 1, 3, 4] ⟨Sub.refl _, fun e he => List.mem_cons_of_mem _ he⟩ ?_
  refine ldo 0 ?_
  refine ldo 0 ?_
  refine rw_end ?_
  refine an_run1 2 ?_
  refine callM (vs := [.slice A1 x.refs.length c1]) [] [.blk b2 (.cells ⟨[str [], .slice none 0 0, .slice none 0 0]⟩ 29), .blk b1 (.cells ⟨[str x.name, .slice A1 x.refs.length c1, .slice A2 x.tree.length c2]⟩ 29)] (fun w hon hgi => cloneS hon hr h1) (fun v g L' hs hR => ?_)
  obtain ⟨B1, d1, rfl, rfl⟩ := hR
  refine aH ⟨hs, fun e he => List.mem_cons_of_mem _ (List.mem_cons_of_mem _ he)⟩ ?_
  refine an_takeU [6] ?_
  have ht2 := ht.mono hs
  refine an_run1 5 ?_
  refine callM (vs := [.slice A2 x.tree.length c2]) [] [sRow B1 d1 x.refs, .blk b2 (.cells ⟨[str [], .slice none 0 0, .slice none 0 0]⟩ 29), .blk b1 (.cells ⟨[str x.name, .slice A1 x.refs.length c1, .slice A2 x.tree.length c2]⟩ 29)] (fun w hon hgi => cloneN hon ht2 h2) (fun v g2 L' hs2 hR => ?_)
  obtain ⟨B2, d2, rfl, rfl⟩ := hR
  refine aH ⟨hs.trans hs2, fun e he => List.mem_cons_of_mem _ (List.mem_cons_of_mem _ (List.mem_cons_of_mem _ he))⟩ ?_
  refine an_run1 7 ?_
  refine st 3 ?_
  refine a0 ?_
  refine an_takeU [8] ?_
  refine an_run1 9 ?_
  refine st 3 ?_
  refine a0 ?_
  refine an_done ?_
  refine efg [(1, .pointer (some ⟨b1, 0, none⟩)), (2, .pointer (some ⟨b2, 0, none⟩))] [nRow B2 d2 x.tree, sRow B1 d1 x.refs, .blk b2 (.cells ⟨[str [], .slice none 0 0, .slice none 0 0]⟩ 29), .blk b1 (.cells ⟨itemC x B1 d1 B2 d2⟩ 29)] fun ρ => ?_
  refine sg ?_
  refine ldoA 3 ?_
  refine st 2 ?_
  refine runE ?_
  refine ew_ret ?_
  refine retA1M 2 [nRow B2 d2 x.tree, sRow B1 d1 x.refs] (cs := itemC x B1 d1 B2 d2) (fun _ h => h.sublist (by simp)) ⟨B1, d1, B2, d2, rfl, rfl⟩
/-- The place of the first that is so; -1. -/
theorem indexFuncI {w : World} {f : View} (hv : On f w) {A : Option Addr} {c : Nat} {a : List Item} (ha : Sl f A c a) {kf : Nat} {fi ca : List Value} {p : Item → Bool}
    (hp : ∀ w g, Sub f g → On g w → ∀ x cs, rp g x cs → Con Tryz.prog kf (fi ++ [.agg ⟨cs⟩] ++ ca) w (Ret w g fun _ v => v = .bool (p x))) :
    Con Tryz.prog 22 [.slice A a.length c, .func (.func kf) ⟨fi⟩ ⟨ca⟩] w (Ret w f fun _ v => v = i64 (idxP p a)) := by
  refine enterC hv Tryz.call22 Tryz.func22 ?_
  have hlim := ha.len_lt
  refine sgE ?_
  refine sqJ (σ := Unit) (fun _ => []) (fun _ => f) (fun _ => []) (fun _ => idxP p a = -1) ?_ ?_
  case refine_2 =>
    intro _ ρ h
    replace h : idxP p a = -1 := h
    refine sgE ?_
    refine ew_ret ?_
    exact ret1 (by rw [h])
  refine sgE ?_
  refine bk ?_
  refine lpn a.length (fun k => [(8, i64 k), (7, i64 (a.length : Nat)), (1, .func (.func kf) ⟨fi⟩ ⟨ca⟩), (0, .slice A a.length c)]) (fun k => ∀ j (hj : j < a.length), j < k → p a[j] = false) (fun j _ h => by omega) ?_
  intro k ρ hk hb
  refine sg ?_
  refine ltE (fun h => ?_) (fun h => ?_)
  case refine_2 =>
    refine sq (cFx ?_)
    exact jn () (idxP_no fun j hj => hb j hj (by omega))
  have h1 : k < a.length := by omega
  obtain ⟨b1, o1, A1, c1, A2, c2, rfl, hc, hn, hr, ht⟩ := ha.item h1
  refine sq (cTs (sq (bk (sgE ?_))))
  refine sg ?_
  refine ix k h1 ?_
  refine ldvA hc ?_
  refine callBF (p := p a[k] = true) (vs := [.agg ⟨[str a[k].name, .slice A1 a[k].refs.length c1, .slice A2 a[k].tree.length c2]⟩]) (fun w g hs _ hon => ?_) (fun hpt => ?_) (fun hpf => ?_)
  · have := hp w g hs hon a[k] _ ⟨A1, c1, A2, c2, rfl, hn, hr.mono hs, ht.mono hs⟩
    simpa using this
  · refine runE ?_
    refine cT (sgE ?_)
    refine ew_ret ?_
    exact ret1 (by rw [idxP_at h1 hpt hb])
  · refine runE ?_
    refine cFs (rg ?_)
    refine addE ((k + 1 : Nat) : Int) ?_
    refine nx (fun j hj hjk => ?_)
    by_cases e : j = k
    · subst e; simpa using hpf
    · exact hb j hj (by omega)
theorem getClo {w : World} {f : View} (hv : On f w) {x : Item} {cs : List Value} {b : Nat} {s : Str} (hx : rp f x cs) (hb : f.cell? ⟨b, 0, none⟩ = some (str s)) :
    Con Tryz.prog 23 [.agg ⟨cs⟩, .pointer (some ⟨b, 0, none⟩)] w (Ret w f fun _ v => v = .bool (x.name == s)) := by
  obtain ⟨A1, c1, A2, c2, rfl, _⟩ := hx
  refine enterC hv Tryz.call23 Tryz.func23 ?_
  refine sg ?_
  refine box fun b1 => ?_
  refine runE ?_
  refine sg ?_
  refine ldo 0 ?_
  refine ldv hb ?_
  refine eqSE (fun h => ?_) (fun h => ?_)
  · refine edropH ?_
    refine ew_ret ?_
    have e : Value.bool true = .bool (x.name == s) := by rw [h]; simp
    exact ret1 e
  · refine edropH ?_
    refine ew_ret ?_
    have e : Value.bool false = .bool (x.name == s) := by
      have : (x.name == s) = false := by simp [h]
      rw [this]
    exact ret1 e
def getR (a : List Item) (s : Str) (L' : List HE) (v : Value) : Prop := match getI a s with
  | none => v = .tuple #[.agg ⟨[str [], .slice none 0 0, .slice none 0 0]⟩, .bool false] ∧ L' = []
  | some x => ∃ B1 d1 B2 d2, v = .tuple #[.agg ⟨itemC x B1 d1 B2 d2⟩, .bool true] ∧ L' = [nRow B2 d2 x.tree, sRow B1 d1 x.refs]
theorem getI_idx {a : List Item} {s : Str} : (getI a s = none ∧ idxP (fun x => x.name == s) a = -1) ∨ ∃ k, ∃ h : k < a.length, getI a s = some a[k] ∧ idxP (fun x => x.name == s) a = k := by
  cases hf : a.findIdx? (fun x => x.name == s) with
  | none =>
    refine .inl ⟨?_, by unfold idxP; rw [hf]⟩
    rw [List.findIdx?_eq_none_iff] at hf
    exact getI_none.2 fun i hi => by simpa using hf i hi
  | some k =>
    obtain ⟨h, h1, h2⟩ := List.findIdx?_eq_some_iff_getElem.1 hf
    refine .inr ⟨k, h, getI_at h (by simpa using h1) (fun j hj hjk => by simpa using h2 j hjk), by unfold idxP; rw [hf]⟩
/-- Of moderate size, the trees too. -/
def FitT (a : List Item) : Prop := a.length ≤ 1000 ∧ ∀ x ∈ a, x.refs.length ≤ 1000 ∧ x.tree.length ≤ 1000
theorem closureGet {w : World} {f : View} (hv : On f w) {A : Option Addr} {c : Nat} {a : List Item} {s : Str} (ha : Sl f A c a) (hfit : FitT a) :
    Con Tryz.prog 7 [.slice A a.length c, str s] w (RetM w f [] fun _ => getR a s) := by
  refine enterM (L := []) hv (Given.nil _ _) Tryz.call7 Tryz.func7 ?_
  have hlim := ha.len_lt
  refine sg ?_
  refine box fun b3 => ?_
  refine alloc fun b4 => ?_
  refine runE ?_
  refine sg ?_
  have hcl : ∀ w g, Sub f g → (HE.blk b3 (.cells ⟨[str s]⟩ 9)).seen g → On g w → Con Tryz.prog 22 [.slice A a.length c, .func (.func 23) ⟨[]⟩ ⟨[.pointer (some ⟨b3, 0, none⟩)]⟩] w (Ret w g fun _ v => v = i64 (idxP (fun x => x.name == s) a)) := fun w g hs hsn hon => by
    refine indexFuncI (p := fun x => x.name == s) hon (ha.mono hs) fun w' g' hs' hon' x cs hx => ?_
    exact getClo hon' hx (Sub.cell hs' (blk_seen hsn))
  refine callV (i64 (idxP (fun x => x.name == s) a)) (vs := [.slice A a.length c, .func (.func 23) ⟨[]⟩ ⟨[.pointer (some ⟨b3, 0, none⟩)]⟩]) (fun w g hs hsn hon => hcl w g hs (hsn _ (.tail _ (.head _))) hon) ?_
  refine runE ?_
  refine efg [(0, .slice A a.length c), (4, .pointer (some ⟨b4, 0, none⟩)), (5, .bool false), (6, i64 (idxP (fun x => x.name == s) a))] [.blk b4 (.cells ⟨[str [], .slice none 0 0, .slice none 0 0]⟩ 29), .blk b3 (.cells ⟨[str s]⟩ 9)] fun ρ => ?_
  rcases getI_idx (a := a) (s := s) with ⟨hg, hi⟩ | ⟨k, h1, hg, hi⟩
  · rw [hi]
    refine sq (sg ?_)
    refine ltE (fun h => ?_) (fun h => ?_)
    case refine_2 => omega
    refine cT (sg ?_)
    refine bld ?_
    refine stE 0 ?_
    refine ew_ret ?_
    refine retA2M 0 [] (cs := [str [], .slice none 0 0, .slice none 0 0]) (fun _ h => h.sublist (List.nil_sublist _)) ?_
    unfold getR
    rw [hg]
    exact ⟨rfl, rfl⟩
  · rw [hi]
    have hx := hfit.2 a[k] (List.getElem_mem _)
    obtain ⟨b1, o1, A1, c1, A2, c2, rfl, hc, hn, hr, ht⟩ := ha.item h1
    have hx1 : a[k].refs.length ≤ 1000000 := by omega
    have hx2 : a[k].tree.length ≤ 1000000 := by omega
    refine sq (sg ?_)
    refine ltE (fun h => ?_) (fun h => ?_)
    · omega
    refine cFs ?_
    refine sg ?_
    refine ix k h1 ?_
    refine ldvA hc ?_
    refine callM (vs := [.agg ⟨itemC a[k] A1 c1 A2 c2⟩]) [] [.blk b4 (.cells ⟨[str [], .slice none 0 0, .slice none 0 0]⟩ 29), .blk b3 (.cells ⟨[str s]⟩ 9)] (fun w hon hgi => itemOwn hon hr ht hx1 hx2) (fun v g L' hs hR => ?_)
    obtain ⟨B1, d1, B2, d2, rfl, rfl⟩ := hR
    refine stE 2 ?_
    refine ew_ret ?_
    refine retA2M 2 [nRow B2 d2 a[k].tree, sRow B1 d1 a[k].refs] (cs := itemC a[k] B1 d1 B2 d2) (fun _ h => h.sublist (by simp)) ?_
    unfold getR
    rw [hg]
    exact ⟨B1, d1, B2, d2, rfl, rfl⟩
end Go.Hog
