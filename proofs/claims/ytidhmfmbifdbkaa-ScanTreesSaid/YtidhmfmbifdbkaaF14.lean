/- Contracts: item.Names, Clone, Own, Get. -/
import Derived.Test.YtidhmfmbifdbkaaF13
import Derived.Test.YtidhmfmbifdbkaaF3
set_option linter.unusedVariables false
set_option linter.unusedSimpArgs false
set_option maxRecDepth 100000
set_option maxHeartbeats 1000000
namespace Go.Hog
open Go.RowKit Rp Go.Proofs
theorem namesLen (a : List Item) : (names a).length = a.length := List.length_map _
theorem namesTake {a : List Item} {k : Nat} (h : k < a.length) : names (a.take (k + 1)) = names (a.take k) ++ [a[k].name] := by
  unfold names
  rw [List.take_add_one, List.getElem?_eq_getElem h]
  simp only [Option.toList, List.map_append, List.map_cons, List.map_nil]
theorem rowNames {A : Option Addr} {c : Nat} {e : TypeId} {a : List Item} {k : Nat} (h : k < a.length) : [HE.row A (k + 1) c e 1 ((names (a.take (k + 1))).map str)] = [HE.row A (k + 1) c e 1 ((names (a.take k)).map str ++ [str a[k].name])] := by
  rw [namesTake h, List.map_append]
  rfl
def nodeC (x : Node) : List Value := [str x.path, .int .i64 x.kind, str x.data]
def nRow (A : Option Addr) (c : Nat) (l : List Node) : HE := .row A l.length c 40 3 (l.flatMap nodeC)
theorem nodes_cells {g : View} (a : List Node) : ∀ {xs : List Value}, Rw g a xs → xs = a.flatMap nodeC := by
  refine snocInd (P := fun a => ∀ {xs : List Value}, Rw g a xs → xs = a.flatMap nodeC) ?_ ?_ a
  · intro xs h
    have := h.len
    simpa using this
  · intro a x ih xs h
    obtain ⟨ys, cs, rfl, h1, h2, _⟩ := h.split
    rw [ih h1, h2.1]
    simp [List.flatMap_append, nodeC]
end Go.Hog
