/- Contracts: item.Names, Clone, Own, Get. -/
import Derived.Test.YtdidefhdcinecaaGreatDoorFY
import Derived.Test.YtdidefhdcinecaaGreatDoorMD
set_option linter.unusedVariables false
set_option linter.unusedSimpArgs false
set_option maxRecDepth 100000
set_option maxHeartbeats 1000000
namespace Go.Hog
open Go.RowKit Rp Go.Proofs
theorem namesLen (a : List Item) : (names a).length = a.length := List.length_map _
theorem namesTake {a : List Item} {k : Nat} (h : k < a.length) : names (a.take (k + 1)) = names (a.take k) ++ [a[k].name] := by
  unfold names
  rw [List.take_add_one, List.getElem?_eq_getElem h]
  simp only [Option.toList, List.map_append, List.map_cons, List.map_nil]
theorem rowNames {A : Option Addr} {c : Nat} {e : TypeId} {a : List Item} {k : Nat} (h : k < a.length) : [HE.row A (k + 1) c e 1 ((names (a.take (k + 1))).map str)] = [HE.row A (k + 1) c e 1 ((names (a.take k)).map str ++ [str a[k].name])] := by
  rw [namesTake h, List.map_append]
  rfl
/-- item.Names: a row of one's own. -/
theorem itemNames {w : World} {f : View} (hv : On f w) {A : Option Addr} {c : Nat} {a : List Item} (ha : Sl f A c a) (hsm : a.length ≤ 1000000) :
    Con Tryz.prog 21 [.slice A a.length c] w (RetM w f [] fun _ L' v => ∃ A' c', v = .slice A' (names a).length c' ∧ L' = [sRow A' c' (names a)]) := by
  refine enterM (L := []) hv (Given.nil _ _) Tryz.call21 Tryz.func21 ?_
  refine sgE ?_
  refine sgE ?_
  refine enilrow 9 1 ?_
  refine sqJ (σ := Option Addr × Nat) (fun s => [(3, .slice s.1 a.length s.2)]) (fun _ => f) (fun s => [.row s.1 a.length s.2 9 1 ((names a).map str)]) (fun _ => True) ?_ ?_
  case refine_2 =>
    rintro ⟨A', c'⟩ ρ _
    refine sgE ?_
    refine ew_ret ?_
    refine ret1M ⟨A', c', ?_, ?_⟩
    · rw [namesLen]; rfl
    · unfold sRow; rw [namesLen]
  refine sgE ?_
  refine bk ?_
  refine lp (σ := Nat × Option Addr × Nat) (fun s => [(8, i64 s.1), (7, i64 (a.length : Nat)), (6, .slice A a.length c), (3, .slice s.2.1 s.1 s.2.2)]) (fun _ => f) (fun s => [.row s.2.1 s.1 s.2.2 9 1 ((names (a.take s.1)).map str)]) (fun s => s.1 ≤ a.length) (fun s => a.length - s.1) (0, none, 0) (Nat.zero_le _) ?_
  rintro ⟨k, A', c'⟩ ρ hk
  replace hk : k ≤ a.length := hk
  show EW _ _ _ _ _ (ups ρ [(8, i64 k), (7, i64 (a.length : Nat)), (6, .slice A a.length c), (3, .slice A' k c')]) f [.row A' k c' 9 1 ((names (a.take k)).map str)]
  refine sg ?_
  refine ltE (fun h => ?_) (fun h => ?_)
  case refine_2 =>
    refine sq (cFx ?_)
    have e : k = a.length := by omega
    subst e
    rw [List.take_length]
    exact jn (A', c') trivial
  have h1 : k < a.length := by omega
  obtain ⟨b1, o1, A1, c1, A2, c2, rfl, hc, hn, hr, ht⟩ := ha.item h1
  refine sq (cTs (sq (bk (sg ?_))))
  refine ix k h1 ?_
  refine ldvA hc ?_
  refine alloc fun bi => ?_
  refine stE 0 ?_
  refine rg ?_
  refine ldo 0 ?_
  refine bsl fun b2 => ?_
  refine app 1 (fun A3 c3 => ?_) (hlim := by show (k + 1) * 16 ≤ _; omega)
  refine runE ?_
  refine edropH ?_
  refine rg ?_
  refine addE ((k + 1 : Nat) : Int) ?_
  refine nxs (k + 1, A3, c3) h1 (by show a.length - (k + 1) < a.length - k; omega) (hh := rowNames h1)
/-- slices.Clone of texts. -/
theorem cloneS {w : World} {f : View} (hv : On f w) {A : Option Addr} {c : Nat} {a : List Str} (ha : Sl f A c a) (hsm : a.length ≤ 1000000) :
    Con Tryz.prog 72 [.slice A a.length c] w (RetM w f [] fun _ L' v => ∃ A' c', v = .slice A' a.length c' ∧ L' = [sRow A' c' a]) := by
  refine enterM (L := []) hv (Given.nil _ _) Tryz.call72 Tryz.func72 ?_
  refine sgE ?_
  refine sq (sg ?_)
  refine eqNilS ?_
  refine runE ?_
  cases A with
  | none =>
    have h0 : a = [] := by
      rcases a with _ | ⟨x, a⟩
      · rfl
      · obtain ⟨b, o, e, _⟩ := ha.at_ 0 (by simp)
        cases e
    subst h0
    refine cT (sgE ?_)
    refine enilrow 9 1 ?_
    refine ew_ret ?_
    exact ret1M ⟨none, 0, rfl, rfl⟩
  | some ad =>
    refine cFs ?_
    refine sg ?_
    refine bsl0 fun b1 => ?_
    obtain ⟨xs, hxs, hcs⟩ := ha.cells
    refine appV 0 hxs.len hcs hxs.ones (fun A' c' => ?_) (hlim := by show (0 + a.length) * 16 ≤ _; omega)
    refine runE ?_
    refine ew_ret ?_
    have e : xs = a.map str := by
      apply List.ext_getElem?
      intro j
      by_cases hj : j < a.length
      · obtain ⟨cs, hcs', hc2⟩ := hxs.cell hj
        have h1 := hc2 0 (by decide)
        rw [hcs'.1] at h1
        simp only [List.getElem?_map, List.getElem?_eq_getElem hj]
        have h2 : sz Str = 1 := rfl
        rw [h2, Nat.mul_one, Nat.add_zero] at h1
        exact h1
      · have h2 : xs.length = a.length * 1 := hxs.len
        rw [List.getElem?_eq_none (by omega), List.getElem?_eq_none (by simp; omega)]
    refine ret1M ⟨A', c', ?_, ?_⟩
    · show Value.slice A' (0 + a.length) c' = _
      rw [Nat.zero_add]
    · show [HE.row A' (0 + a.length) c' _ 1 ([] ++ xs)] = _
      rw [Nat.zero_add, List.nil_append, e]
      rfl
def nodeC (x : Node) : List Value := [str x.path, .int .i64 x.kind, str x.data]
def nRow (A : Option Addr) (c : Nat) (l : List Node) : HE := .row A l.length c 46 3 (l.flatMap nodeC)
theorem nodes_cells {g : View} (a : List Node) : ∀ {xs : List Value}, Rw g a xs → xs = a.flatMap nodeC := by
  refine snocInd (P := fun a => ∀ {xs : List Value}, Rw g a xs → xs = a.flatMap nodeC) ?_ ?_ a
  · intro xs h
    have := h.len
    simpa using this
  · intro a x ih xs h
    obtain ⟨ys, cs, rfl, h1, h2, _⟩ := h.split
    rw [ih h1, h2.1]
    simp [List.flatMap_append, nodeC]
theorem cloneN {w : World} {f : View} (hv : On f w) {A : Option Addr} {c : Nat} {a : List Node} (ha : Sl f A c a) (hsm : a.length ≤ 1000000) :
    Con Tryz.prog 73 [.slice A a.length c] w (RetM w f [] fun _ L' v => ∃ A' c', v = .slice A' a.length c' ∧ L' = [nRow A' c' a]) := by
  refine enterM (L := []) hv (Given.nil _ _) Tryz.call73 Tryz.func73 ?_
  refine sgE ?_
  refine sq (sg ?_)
  refine eqNilS ?_
  refine runE ?_
  cases A with
  | none =>
    have h0 : a = [] := by
      rcases a with _ | ⟨x, a⟩
      · rfl
      · obtain ⟨b, o, e, _⟩ := ha.at_ 0 (by simp)
        cases e
    subst h0
    refine cT (sgE ?_)
    refine enilrow 46 3 ?_
    refine ew_ret ?_
    exact ret1M ⟨none, 0, rfl, rfl⟩
  | some ad =>
    refine cFs ?_
    refine sg ?_
    refine bsl0 fun b1 => ?_
    obtain ⟨xs, hxs, hcs⟩ := ha.cells
    refine appV 0 hxs.len hcs hxs.ones (fun A' c' => ?_) (hlim := by show (0 + a.length) * 40 ≤ _; omega)
    refine runE ?_
    refine ew_ret ?_
    have e := nodes_cells a hxs
    refine ret1M ⟨A', c', ?_, ?_⟩
    · show Value.slice A' (0 + a.length) c' = _
      rw [Nat.zero_add]
    · show [HE.row A' (0 + a.length) c' _ 3 ([] ++ xs)] = _
      rw [Nat.zero_add, List.nil_append, e]
      rfl
end Go.Hog
