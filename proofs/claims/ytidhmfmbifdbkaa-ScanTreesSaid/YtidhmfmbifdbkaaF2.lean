/- Contracts: chapter 10's own answer, and what stands around it. -/
import Derived.Test.YtidhmfmbifdbkaaF1
import Derived.Test.YtidhmfmbifdbkaaE7
import Derived.Test.YtidhmfmbifdbkaaS1
set_option linter.unusedVariables false
set_option linter.unusedSimpArgs false
set_option maxRecDepth 100000
namespace Go.Hog
open Go.RowKit Rp Go.Proofs

def idxI (l : List Str) (s : Str) : Int := if s ∈ l then (l.idxOf s : Int) else -1
theorem idxI_at {l : List Str} {s : Str} {k : Nat} (h : k < l.length) (hs : l[k] = s) (hb : ∀ j (hj : j < l.length), j < k → l[j] ≠ s) : idxI l s = k := by
  have hm : s ∈ l := hs ▸ List.getElem_mem h
  unfold idxI
  rw [if_pos hm]
  have h1 : l.idxOf s < l.length := List.idxOf_lt_length_of_mem hm
  have h2 : l[l.idxOf s] = s := List.getElem_idxOf h1
  have h3 : ¬ l.idxOf s < k := fun h => hb _ h1 h h2
  have h4 : ¬ k < l.idxOf s := fun h => by
    have := List.not_of_lt_findIdx (p := (· == s)) (xs := l) h
    simp [hs] at this
  omega
theorem idxI_no {l : List Str} {s : Str} (h : s ∉ l) : idxI l s = -1 := by unfold idxI; rw [if_neg h]

end Go.Hog
