/-
  No cell of these rows narrows 'for every input' (looked for: loops, veiled, ifaces, maps, wideKeys, modest, calm, conditions, laid).
  DERIVED. THE GIVEN ROWS OF THIS SEAT. 5 by the template 'for every input the law returns true; each argument reads behind the call as it read before'; 0 by the template 'total and deterministic' (their statements: YtaaehplhpkojiaaTotals.lean).
  GIVEN WITH THE SEED: the statements are not yours to turn. If you find one false, say at which input.
  Laid BY PROGRAM, IN A SANDBOX (cutbox-rows.mjs): the forced cells as the released guide's own fill.sh prints them over the translation 4780b5bd4cc7ad15… (all of the seat's roots in one cut). By AI agents, Wed Nov 11 2026. No macro, syntax, notation, axiom, sorry.
-/
import Derived.Test.YtaaehplhpkojiaaChecked
import GoSem.Claim
import GoSem.ClaimJoined
import GoSem.ClaimMapViews
import Derived.JoinedTies
import Derived.KernelRfl
namespace Go.Proofs.Ytaaehplhpkojiaa
/- THE CELL 'sum', in the pinned program and in every row, IS THE sha256 OF THE DUMP (.gsa) THAT YtaaehplhpkojiaaProg.lean LOADS. Nothing in Lean hashes anything: it is a label: what it is worth is what the hold of that sum in a sandbox is worth. -/
noncomputable def Try.pinned : Pinned := { name := "ytaaehplhpkojiaa", sum := "4780b5bd4cc7ad153c202dd0014ed0f0a4e800d91024db50783edd83f5ed72a5", checked := Try.checked }
namespace Rows
def none {H : Type} : Left H := { results := [], args := [] }

/-- 'hogsheadlaw21.PopTells': WHATEVER THE INPUT: true; the input reads as it did. -/
def popTellsSpec : ChangeSpec := { name := "popTells", fn := fun _ => fun
  | [d1, d2, d3, d4, d5] => { results := [.lit (.bool true)], args := [d1, d2, d3, d4, d5] }
  | _ => none }
def popTellsRow : OpenClaim := { program := "ytaaehplhpkojiaa", sum := "4780b5bd4cc7ad153c202dd0014ed0f0a4e800d91024db50783edd83f5ed72a5", func := "hogshead/hogsheadlaw21.PopTells", spec := "popTells", unfollowed := true, recurses := true, apart := false }
def PopTellsSaid : Prop := popTellsRow.holds Try.pinned (OpenSpec.ofChange popTellsSpec)

/-- ITS FALSE NEIGHBOUR: 'it returns false'. Refute it at one input. -/
def popTellsWrong : ChangeSpec := { name := "popTells", fn := fun _ => fun
  | [d1, d2, d3, d4, d5] => { results := [.lit (.bool false)], args := [d1, d2, d3, d4, d5] }
  | _ => none }
def PopTellsWrongFalsely : Prop := popTellsRow.holds Try.pinned (OpenSpec.ofChange popTellsWrong)

/-- 'hogsheadlaw21.PopCounts': WHATEVER THE INPUT: true; the input reads as it did. -/
def popCountsSpec : ChangeSpec := { name := "popCounts", fn := fun _ => fun
  | [d] => { results := [.lit (.bool true)], args := [d] }
  | _ => none }
def popCountsRow : OpenClaim := { program := "ytaaehplhpkojiaa", sum := "4780b5bd4cc7ad153c202dd0014ed0f0a4e800d91024db50783edd83f5ed72a5", func := "hogshead/hogsheadlaw21.PopCounts", spec := "popCounts", unfollowed := true, recurses := true, apart := false }
def PopCountsSaid : Prop := popCountsRow.holds Try.pinned (OpenSpec.ofChange popCountsSpec)

/-- ITS FALSE NEIGHBOUR: 'it returns false'. Refute it at one input. -/
def popCountsWrong : ChangeSpec := { name := "popCounts", fn := fun _ => fun
  | [d] => { results := [.lit (.bool false)], args := [d] }
  | _ => none }
def PopCountsWrongFalsely : Prop := popCountsRow.holds Try.pinned (OpenSpec.ofChange popCountsWrong)

/-- 'hogsheadlaw21.PopRanks': WHATEVER THE INPUT: true; the input reads as it did. -/
def popRanksSpec : ChangeSpec := { name := "popRanks", fn := fun _ => fun
  | [d] => { results := [.lit (.bool true)], args := [d] }
  | _ => none }
def popRanksRow : OpenClaim := { program := "ytaaehplhpkojiaa", sum := "4780b5bd4cc7ad153c202dd0014ed0f0a4e800d91024db50783edd83f5ed72a5", func := "hogshead/hogsheadlaw21.PopRanks", spec := "popRanks", unfollowed := true, recurses := true, apart := false }
def PopRanksSaid : Prop := popRanksRow.holds Try.pinned (OpenSpec.ofChange popRanksSpec)

/-- ITS FALSE NEIGHBOUR: 'it returns false'. Refute it at one input. -/
def popRanksWrong : ChangeSpec := { name := "popRanks", fn := fun _ => fun
  | [d] => { results := [.lit (.bool false)], args := [d] }
  | _ => none }
def PopRanksWrongFalsely : Prop := popRanksRow.holds Try.pinned (OpenSpec.ofChange popRanksWrong)

/-- 'hogsheadlaw21.PopMore': WHATEVER THE INPUT: true; the input reads as it did. -/
def popMoreSpec : ChangeSpec := { name := "popMore", fn := fun _ => fun
  | [d1, d2] => { results := [.lit (.bool true)], args := [d1, d2] }
  | _ => none }
def popMoreRow : OpenClaim := { program := "ytaaehplhpkojiaa", sum := "4780b5bd4cc7ad153c202dd0014ed0f0a4e800d91024db50783edd83f5ed72a5", func := "hogshead/hogsheadlaw21.PopMore", spec := "popMore", unfollowed := true, recurses := true, apart := false }
def PopMoreSaid : Prop := popMoreRow.holds Try.pinned (OpenSpec.ofChange popMoreSpec)

/-- ITS FALSE NEIGHBOUR: 'it returns false'. Refute it at one input. -/
def popMoreWrong : ChangeSpec := { name := "popMore", fn := fun _ => fun
  | [d1, d2] => { results := [.lit (.bool false)], args := [d1, d2] }
  | _ => none }
def PopMoreWrongFalsely : Prop := popMoreRow.holds Try.pinned (OpenSpec.ofChange popMoreWrong)

/-- 'hogsheadlaw21.PopLeaves': WHATEVER THE INPUT: true; the input reads as it did. -/
def popLeavesSpec : ChangeSpec := { name := "popLeaves", fn := fun _ => fun
  | [d1, d2] => { results := [.lit (.bool true)], args := [d1, d2] }
  | _ => none }
def popLeavesRow : OpenClaim := { program := "ytaaehplhpkojiaa", sum := "4780b5bd4cc7ad153c202dd0014ed0f0a4e800d91024db50783edd83f5ed72a5", func := "hogshead/hogsheadlaw21.PopLeaves", spec := "popLeaves", unfollowed := true, recurses := true, apart := false }
def PopLeavesSaid : Prop := popLeavesRow.holds Try.pinned (OpenSpec.ofChange popLeavesSpec)

/-- ITS FALSE NEIGHBOUR: 'it returns false'. Refute it at one input. -/
def popLeavesWrong : ChangeSpec := { name := "popLeaves", fn := fun _ => fun
  | [d1, d2] => { results := [.lit (.bool false)], args := [d1, d2] }
  | _ => none }
def PopLeavesWrongFalsely : Prop := popLeavesRow.holds Try.pinned (OpenSpec.ofChange popLeavesWrong)

/- THE SECOND FORM. 'bulk': how many values and letters a reading holds, each counted each time it is reached (what is shared counts as often as it is met; a slice's spare places count too). A statement '..UptoSaid' is the law's where the arguments, and the package variables that the reading takes, are together of bulk at most 1048576: NARROWER than '..Said'. Prove '..Said' where nothing that the law and all that it calls make is longer than what came in: it says more and counts as full. Else prove '..UptoSaid'. A law counts once. -/
mutual
def uptoBulk {H : Type} : DataW H → Nat
  | .lit (.string bytes) => bytes.length + 1
  | .lit _ => 1
  | .nil => 1
  | .ptr d => uptoBulk d + 1
  | .slice elems spare => uptoBulkAll elems + uptoBulkAll spare + 1
  | .agg parts => uptoBulkAll parts + 1
  | .iface _ d => uptoBulk d + 1
  | .map entries => uptoBulkEntries entries + 1
  | .held _ => 1
def uptoBulkAll {H : Type} : List (DataW H) → Nat
  | [] => 0
  | d :: r => uptoBulk d + uptoBulkAll r
def uptoBulkEntries {H : Type} : List (Lit × DataW H) → Nat
  | [] => 0
  | x :: r => uptoBulkEntry x + uptoBulkEntries r
def uptoBulkEntry {H : Type} : Lit × DataW H → Nat
  | (.string bytes, d) => bytes.length + uptoBulk d + 1
  | (_, d) => uptoBulk d + 1
 end
def uptoSmall : (H : Type) → List (DataW H) → Bool := fun _ ds => decide (uptoBulkAll ds ≤ 1048576)
def OpenSpec.upto (s : _root_.Go.ChangeSpec) : _root_.Go.OpenSpec := { _root_.Go.OpenSpec.ofChange s with cond := some uptoSmall }

/-- 'hogsheadlaw21.PopTells', WHERE WHAT IT READS IS OF BULK AT MOST 1048576: true; the input reads as it did. -/
def popTellsUptoRow : OpenClaim := { program := "ytaaehplhpkojiaa", sum := "4780b5bd4cc7ad153c202dd0014ed0f0a4e800d91024db50783edd83f5ed72a5", func := "hogshead/hogsheadlaw21.PopTells", spec := "popTells", unfollowed := true, recurses := true, apart := false, narrowed := true }
def PopTellsUptoSaid : Prop := popTellsUptoRow.holds Try.pinned (OpenSpec.upto popTellsSpec)

/-- 'hogsheadlaw21.PopCounts', WHERE WHAT IT READS IS OF BULK AT MOST 1048576: true; the input reads as it did. -/
def popCountsUptoRow : OpenClaim := { program := "ytaaehplhpkojiaa", sum := "4780b5bd4cc7ad153c202dd0014ed0f0a4e800d91024db50783edd83f5ed72a5", func := "hogshead/hogsheadlaw21.PopCounts", spec := "popCounts", unfollowed := true, recurses := true, apart := false, narrowed := true }
def PopCountsUptoSaid : Prop := popCountsUptoRow.holds Try.pinned (OpenSpec.upto popCountsSpec)

/-- 'hogsheadlaw21.PopRanks', WHERE WHAT IT READS IS OF BULK AT MOST 1048576: true; the input reads as it did. -/
def popRanksUptoRow : OpenClaim := { program := "ytaaehplhpkojiaa", sum := "4780b5bd4cc7ad153c202dd0014ed0f0a4e800d91024db50783edd83f5ed72a5", func := "hogshead/hogsheadlaw21.PopRanks", spec := "popRanks", unfollowed := true, recurses := true, apart := false, narrowed := true }
def PopRanksUptoSaid : Prop := popRanksUptoRow.holds Try.pinned (OpenSpec.upto popRanksSpec)

/-- 'hogsheadlaw21.PopMore', WHERE WHAT IT READS IS OF BULK AT MOST 1048576: true; the input reads as it did. -/
def popMoreUptoRow : OpenClaim := { program := "ytaaehplhpkojiaa", sum := "4780b5bd4cc7ad153c202dd0014ed0f0a4e800d91024db50783edd83f5ed72a5", func := "hogshead/hogsheadlaw21.PopMore", spec := "popMore", unfollowed := true, recurses := true, apart := false, narrowed := true }
def PopMoreUptoSaid : Prop := popMoreUptoRow.holds Try.pinned (OpenSpec.upto popMoreSpec)

/-- 'hogsheadlaw21.PopLeaves', WHERE WHAT IT READS IS OF BULK AT MOST 1048576: true; the input reads as it did. -/
def popLeavesUptoRow : OpenClaim := { program := "ytaaehplhpkojiaa", sum := "4780b5bd4cc7ad153c202dd0014ed0f0a4e800d91024db50783edd83f5ed72a5", func := "hogshead/hogsheadlaw21.PopLeaves", spec := "popLeaves", unfollowed := true, recurses := true, apart := false, narrowed := true }
def PopLeavesUptoSaid : Prop := popLeavesUptoRow.holds Try.pinned (OpenSpec.upto popLeavesSpec)

end Rows
end Go.Proofs.Ytaaehplhpkojiaa
