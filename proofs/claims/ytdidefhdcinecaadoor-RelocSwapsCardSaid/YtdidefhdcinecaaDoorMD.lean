/- F2 F3 F4, in one text. -/
import Derived.Test.YtdidefhdcinecaaDoorF1
import Derived.Test.YtdidefhdcinecaaDoorMC
import Derived.Test.YtdidefhdcinecaaDoorS1
set_option linter.unusedVariables false
set_option linter.unusedSimpArgs false
set_option maxRecDepth 100000
namespace Go.Hog
open Go.RowKit Rp Go.Proofs

def idxI (l : List Str) (s : Str) : Int := if s ∈ l then (l.idxOf s : Int) else -1
theorem idxI_at {l : List Str} {s : Str} {k : Nat} (h : k < l.length) (hs : l[k] = s) (hb : ∀ j (hj : j < l.length), j < k → l[j] ≠ s) : idxI l s = k := by
  have hm : s ∈ l := hs ▸ List.getElem_mem h
  unfold idxI
  rw [if_pos hm]
  have h1 : l.idxOf s < l.length := List.idxOf_lt_length_of_mem hm
  have h2 : l[l.idxOf s] = s := List.getElem_idxOf h1
  have h3 : ¬ l.idxOf s < k := fun h => hb _ h1 h h2
  have h4 : ¬ k < l.idxOf s := fun h => by
    have := List.not_of_lt_findIdx (p := (· == s)) (xs := l) h
    simp [hs] at this
  omega
theorem idxI_no {l : List Str} {s : Str} (h : s ∉ l) : idxI l s = -1 := by unfold idxI; rw [if_neg h]

end Go.Hog

set_option linter.unusedVariables false
set_option linter.unusedSimpArgs false
set_option maxRecDepth 100000
namespace Go.Hog
open Go.RowKit Rp Go.Proofs

end Go.Hog

set_option linter.unusedVariables false
set_option linter.unusedSimpArgs false
set_option maxRecDepth 100000
set_option maxHeartbeats 400000
namespace Go.Hog
open Go.RowKit Rp Go.Proofs

theorem Sl.ofTexts {g : View} {A : Option Addr} {c e : Nat} {l : List Str} {n : Nat} (h : (HE.row A n c e 1 (l.map str)).seen g) (hn : n = l.length) (hb : ∀ s ∈ l, s.length ≤ LB) (hl : l.length ≤ LB) : Sl g A c l :=
  Sl.ofRow h hn rfl hl fun j hj => ⟨by
    show ((l.map str).drop (j * 1)).take 1 = _
    rw [Nat.mul_one, ← List.map_drop, ← List.map_take, List.drop_eq_getElem_cons hj]
    rfl, hb _ (List.getElem_mem hj)⟩
theorem slot_eq {o o' : Option Nat} (h : o' = o) : i64 (slotJ o) = i64 (slotJ o') := by rw [h]
theorem row_snoc {A : Option Addr} {c : Nat} {e : TypeId} {l : List Str} {x : Str} : [HE.row A (l ++ [x]).length c e 1 ((l ++ [x]).map str)] = [HE.row A (l.length + 1) c e 1 (l.map str ++ [str x])] := by simp
theorem sl_snoc {α : Type} {A : Option Addr} {c : Nat} {l : List α} {x : α} : Value.slice A (l.length + 1) c = Value.slice A (l ++ [x]).length c := by simp
theorem slotJ_none : slotJ none = -1 := rfl
theorem slotJ_some (j : Nat) : slotJ (some j) = j := rfl
end Go.Hog

