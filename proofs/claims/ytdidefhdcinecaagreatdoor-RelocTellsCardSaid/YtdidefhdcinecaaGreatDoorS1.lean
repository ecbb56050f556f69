/- Plain words: what chapters 9 and 10 reckon, over lists. -/
import Derived.Test.YtdidefhdcinecaaGreatDoorMA
set_option linter.unusedVariables false
namespace Go.Hog
def names (l : List Item) : List Str := l.map (·.name)
def getI (l : List Item) (s : Str) : Option Item := l.find? fun i => i.name == s
def ReadyI (l : List Item) (x : Item) (done : List Str) : Prop := ∀ r ∈ x.refs, (getI l r).isSome = true → r ≠ x.name → r ∈ done
instance (l : List Item) (x : Item) (done : List Str) : Decidable (ReadyI l x done) := by unfold ReadyI; infer_instance
def CandI (l : List Item) (out : List Str) (x : Item) : Prop := x.name ∉ out ∧ ReadyI l x out
instance (l : List Item) (out : List Str) (x : Item) : Decidable (CandI l out x) := by unfold CandI; infer_instance
def dI : Item := ⟨[], [], []⟩
/-- The place of the best of the first k. -/
def bestJ (l : List Item) (out : List Str) : Nat → Option Nat
  | 0 => none
  | k + 1 =>
    if CandI l out (l.getD k dI) then (match bestJ l out k with | none => some k | some j => if (l.getD k dI).name < (l.getD j dI).name then some k else some j)
    else bestJ l out k
/-- Chapter 10's own answer, a step at a time. -/
def refGo (l : List Item) : Nat → List Str → Option (List Str)
  | 0, out => some out
  | k + 1, out => match bestJ l out l.length with | none => none | some j => refGo l k (out ++ [(l.getD j dI).name])
def refOf (l : List Item) : Option (List Str) := if (names l).Nodup then refGo l l.length [] else none
theorem bestJ_lt {l : List Item} {out : List Str} : ∀ {k j : Nat}, bestJ l out k = some j → j < k
  | 0, j, h => by simp [bestJ] at h
  | k + 1, j, h => by
    simp only [bestJ] at h
    split at h
    · split at h
      · injection h with h; omega
      · rename_i j' hj'
        have := bestJ_lt hj'
        split at h <;> (injection h with h; omega)
    · have := bestJ_lt h; omega
def slotJ : Option Nat → Int
  | none => -1
  | some j => j
theorem getI_none {l : List Item} {s : Str} : getI l s = none ↔ ∀ i ∈ l, i.name ≠ s := by
  unfold getI
  rw [List.find?_eq_none]
  simp
theorem getI_at {l : List Item} {s : Str} {k : Nat} (h : k < l.length) (hn : l[k].name = s) (hb : ∀ j (hj : j < l.length), j < k → l[j].name ≠ s) : getI l s = some l[k] := by
  unfold getI
  rw [List.find?_eq_some_iff_getElem]
  refine ⟨by simp [hn], k, h, rfl, fun j hj => ?_⟩
  simpa using hb j (by omega) hj
end Go.Hog
