/- Contracts: slices.Sort of a few texts. -/
import Derived.Test.YthaleeajeibgeaaS6
import Derived.Test.YthaleeajeibgeaaE17
import Derived.Test.YthaleeajeibgeaaH1
import Derived.Test.YthaleeajeibgeaaF4
set_option linter.unusedVariables false
set_option linter.unusedSimpArgs false
set_option maxRecDepth 100000
set_option maxHeartbeats 1000000
namespace Go.Hog
open Go.RowKit Rp Go.Proofs
theorem putL1 : ∀ (xs : List Value) (o : Nat) (v : Value), o < xs.length → putL xs o [v] = xs.set o v
  | [], o, v, h => by simp at h
  | x :: xs, 0, v, h => by cases xs <;> rfl
  | x :: xs, o + 1, v, h => by
    simp only [putL, List.set_cons_succ]
    rw [putL1 xs o v (by simpa using h)]
theorem putLs (l : List Str) (o : Nat) (s : Str) (h : o < l.length) : putL (l.map str) o [str s] = (l.set o s).map str := by
  rw [putL1 _ _ _ (by simpa using h), List.map_set]
def sRow (A : Option Addr) (c : Nat) (l : List Str) : HE := .row A l.length c 9 1 (l.map str)
end Go.Hog
