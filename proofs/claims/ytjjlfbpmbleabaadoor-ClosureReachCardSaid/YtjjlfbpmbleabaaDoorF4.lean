/- Contracts: chapter 10's own answer, whole. -/
import Derived.Test.YtjjlfbpmbleabaaDoorF3
set_option linter.unusedVariables false
set_option linter.unusedSimpArgs false
set_option maxRecDepth 100000
set_option maxHeartbeats 400000
namespace Go.Hog
open Go.RowKit Rp Go.Proofs

theorem Sl.ofTexts {g : View} {A : Option Addr} {c e : Nat} {l : List Str} {n : Nat} (h : (HE.row A n c e 1 (l.map str)).seen g) (hn : n = l.length) (hb : ∀ s ∈ l, s.length ≤ LB) (hl : l.length ≤ LB) : Sl g A c l :=
  Sl.ofRow h hn rfl hl fun j hj => ⟨by
    show ((l.map str).drop (j * 1)).take 1 = _
    rw [Nat.mul_one, ← List.map_drop, ← List.map_take, List.drop_eq_getElem_cons hj]
    rfl, hb _ (List.getElem_mem hj)⟩
theorem slot_eq {o o' : Option Nat} (h : o' = o) : i64 (slotJ o) = i64 (slotJ o') := by rw [h]
theorem row_snoc {A : Option Addr} {c : Nat} {e : TypeId} {l : List Str} {x : Str} : [HE.row A (l ++ [x]).length c e 1 ((l ++ [x]).map str)] = [HE.row A (l.length + 1) c e 1 (l.map str ++ [str x])] := by simp
theorem sl_snoc {α : Type} {A : Option Addr} {c : Nat} {l : List α} {x : α} : Value.slice A (l.length + 1) c = Value.slice A (l ++ [x]).length c := by simp
theorem slotJ_none : slotJ none = -1 := rfl
theorem slotJ_some (j : Nat) : slotJ (some j) = j := rfl
end Go.Hog

