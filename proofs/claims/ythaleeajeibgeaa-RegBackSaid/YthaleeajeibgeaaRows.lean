/-
  No cell of these rows narrows 'for every input' (looked for: loops, veiled, ifaces, maps, wideKeys, modest, calm, conditions, laid).
  DERIVED. THE GIVEN ROWS OF THIS SEAT. 4 by the template 'for every input the law returns true; each argument reads behind the call as it read before'; 0 by the template 'total and deterministic' (their statements: YthaleeajeibgeaaTotals.lean).
  GIVEN WITH THE SEED: the statements are not yours to turn. If you find one false, say at which input.
  Laid BY PROGRAM, IN A SANDBOX (cutbox-rows.mjs): the forced cells as the released guide's own fill.sh prints them over the translation 8a09975100193f31… (all of the seat's roots in one cut). By AI agents, Wed Nov 11 2026. No macro, syntax, notation, axiom, sorry.
-/
import Derived.Test.YthaleeajeibgeaaChecked
import GoSem.Claim
import GoSem.ClaimJoined
import GoSem.ClaimMapViews
import Derived.JoinedTies
import Derived.KernelRfl
namespace Go.Proofs.Ythaleeajeibgeaa
/- THE CELL 'sum', in the pinned program and in every row, IS THE sha256 OF THE DUMP (.gsa) THAT YthaleeajeibgeaaProg.lean LOADS. Nothing in Lean hashes anything: it is a label: what it is worth is what the hold of that sum in a sandbox is worth. -/
noncomputable def Try.pinned : Pinned := { name := "ythaleeajeibgeaa", sum := "8a09975100193f31718719875b28f878f1d2b484b1ff97646adb30ef46499599", checked := Try.checked }
namespace Rows
def none {H : Type} : Left H := { results := [], args := [] }

/-- 'hogsheadlaw11.RegTells': WHATEVER THE INPUT: true; the input reads as it did. -/
def regTellsSpec : ChangeSpec := { name := "regTells", fn := fun _ => fun
  | [d] => { results := [.lit (.bool true)], args := [d] }
  | _ => none }
def regTellsRow : OpenClaim := { program := "ythaleeajeibgeaa", sum := "8a09975100193f31718719875b28f878f1d2b484b1ff97646adb30ef46499599", func := "hogshead/hogsheadlaw11.RegTells", spec := "regTells", inPlace := ["internal/bytealg.IndexByteString", "internal/bytealg.IndexString", "internal/abi.NoEscape"], unfollowed := true, recurses := true, named := ["internal/bytealg.MaxLen"], apart := false }
def RegTellsSaid : Prop := regTellsRow.holds Try.pinned (OpenSpec.ofChange regTellsSpec)

/-- ITS FALSE NEIGHBOUR: 'it returns false'. Refute it at one input. -/
def regTellsWrong : ChangeSpec := { name := "regTells", fn := fun _ => fun
  | [d] => { results := [.lit (.bool false)], args := [d] }
  | _ => none }
def RegTellsWrongFalsely : Prop := regTellsRow.holds Try.pinned (OpenSpec.ofChange regTellsWrong)

/-- 'hogsheadlaw11.RegReads': WHATEVER THE INPUT: true; the input reads as it did. -/
def regReadsSpec : ChangeSpec := { name := "regReads", fn := fun _ => fun
  | [d] => { results := [.lit (.bool true)], args := [d] }
  | _ => none }
def regReadsRow : OpenClaim := { program := "ythaleeajeibgeaa", sum := "8a09975100193f31718719875b28f878f1d2b484b1ff97646adb30ef46499599", func := "hogshead/hogsheadlaw11.RegReads", spec := "regReads", inPlace := ["internal/bytealg.IndexByteString", "internal/bytealg.IndexString", "internal/abi.NoEscape"], unfollowed := true, recurses := true, named := ["internal/bytealg.MaxLen"], apart := false }
def RegReadsSaid : Prop := regReadsRow.holds Try.pinned (OpenSpec.ofChange regReadsSpec)

/-- ITS FALSE NEIGHBOUR: 'it returns false'. Refute it at one input. -/
def regReadsWrong : ChangeSpec := { name := "regReads", fn := fun _ => fun
  | [d] => { results := [.lit (.bool false)], args := [d] }
  | _ => none }
def RegReadsWrongFalsely : Prop := regReadsRow.holds Try.pinned (OpenSpec.ofChange regReadsWrong)

/-- 'hogsheadlaw11.RegBack': WHATEVER THE INPUT: true; the input reads as it did. -/
def regBackSpec : ChangeSpec := { name := "regBack", fn := fun _ => fun
  | [d1, d2, d3] => { results := [.lit (.bool true)], args := [d1, d2, d3] }
  | _ => none }
def regBackRow : OpenClaim := { program := "ythaleeajeibgeaa", sum := "8a09975100193f31718719875b28f878f1d2b484b1ff97646adb30ef46499599", func := "hogshead/hogsheadlaw11.RegBack", spec := "regBack", inPlace := ["internal/bytealg.IndexByteString", "internal/bytealg.IndexString", "internal/abi.NoEscape"], unfollowed := true, recurses := true, named := ["internal/bytealg.MaxLen"], apart := false }
def RegBackSaid : Prop := regBackRow.holds Try.pinned (OpenSpec.ofChange regBackSpec)

/-- ITS FALSE NEIGHBOUR: 'it returns false'. Refute it at one input. -/
def regBackWrong : ChangeSpec := { name := "regBack", fn := fun _ => fun
  | [d1, d2, d3] => { results := [.lit (.bool false)], args := [d1, d2, d3] }
  | _ => none }
def RegBackWrongFalsely : Prop := regBackRow.holds Try.pinned (OpenSpec.ofChange regBackWrong)

/-- 'hogsheadlaw11.RegLines': WHATEVER THE INPUT: true; the input reads as it did. -/
def regLinesSpec : ChangeSpec := { name := "regLines", fn := fun _ => fun
  | [d] => { results := [.lit (.bool true)], args := [d] }
  | _ => none }
def regLinesRow : OpenClaim := { program := "ythaleeajeibgeaa", sum := "8a09975100193f31718719875b28f878f1d2b484b1ff97646adb30ef46499599", func := "hogshead/hogsheadlaw11.RegLines", spec := "regLines", inPlace := ["internal/bytealg.IndexByteString", "internal/bytealg.IndexString", "internal/abi.NoEscape"], unfollowed := true, recurses := true, named := ["internal/bytealg.MaxLen"], apart := false }
def RegLinesSaid : Prop := regLinesRow.holds Try.pinned (OpenSpec.ofChange regLinesSpec)

/-- ITS FALSE NEIGHBOUR: 'it returns false'. Refute it at one input. -/
def regLinesWrong : ChangeSpec := { name := "regLines", fn := fun _ => fun
  | [d] => { results := [.lit (.bool false)], args := [d] }
  | _ => none }
def RegLinesWrongFalsely : Prop := regLinesRow.holds Try.pinned (OpenSpec.ofChange regLinesWrong)

/- THE SECOND FORM. 'bulk': how many values and letters a reading holds, each counted each time it is reached (what is shared counts as often as it is met; a slice's spare places count too). A statement '..UptoSaid' is the law's where the arguments, and the package variables that the reading takes, are together of bulk at most 1048576: NARROWER than '..Said'. Prove '..Said' where nothing that the law and all that it calls make is longer than what came in: it says more and counts as full. Else prove '..UptoSaid'. A law counts once. -/
mutual
def uptoBulk {H : Type} : DataW H → Nat
  | .lit (.string bytes) => bytes.length + 1
  | .lit _ => 1
  | .nil => 1
  | .ptr d => uptoBulk d + 1
  | .slice elems spare => uptoBulkAll elems + uptoBulkAll spare + 1
  | .agg parts => uptoBulkAll parts + 1
  | .iface _ d => uptoBulk d + 1
  | .map entries => uptoBulkEntries entries + 1
  | .held _ => 1
def uptoBulkAll {H : Type} : List (DataW H) → Nat
  | [] => 0
  | d :: r => uptoBulk d + uptoBulkAll r
def uptoBulkEntries {H : Type} : List (Lit × DataW H) → Nat
  | [] => 0
  | x :: r => uptoBulkEntry x + uptoBulkEntries r
def uptoBulkEntry {H : Type} : Lit × DataW H → Nat
  | (.string bytes, d) => bytes.length + uptoBulk d + 1
  | (_, d) => uptoBulk d + 1
 end
def uptoSmall : (H : Type) → List (DataW H) → Bool := fun _ ds => decide (uptoBulkAll ds ≤ 1048576)
def OpenSpec.upto (s : _root_.Go.ChangeSpec) : _root_.Go.OpenSpec := { _root_.Go.OpenSpec.ofChange s with cond := some uptoSmall }

/-- 'hogsheadlaw11.RegTells', WHERE WHAT IT READS IS OF BULK AT MOST 1048576: true; the input reads as it did. -/
def regTellsUptoRow : OpenClaim := { program := "ythaleeajeibgeaa", sum := "8a09975100193f31718719875b28f878f1d2b484b1ff97646adb30ef46499599", func := "hogshead/hogsheadlaw11.RegTells", spec := "regTells", inPlace := ["internal/bytealg.IndexByteString", "internal/bytealg.IndexString", "internal/abi.NoEscape"], unfollowed := true, recurses := true, named := ["internal/bytealg.MaxLen"], apart := false, narrowed := true }
def RegTellsUptoSaid : Prop := regTellsUptoRow.holds Try.pinned (OpenSpec.upto regTellsSpec)

/-- 'hogsheadlaw11.RegReads', WHERE WHAT IT READS IS OF BULK AT MOST 1048576: true; the input reads as it did. -/
def regReadsUptoRow : OpenClaim := { program := "ythaleeajeibgeaa", sum := "8a09975100193f31718719875b28f878f1d2b484b1ff97646adb30ef46499599", func := "hogshead/hogsheadlaw11.RegReads", spec := "regReads", inPlace := ["internal/bytealg.IndexByteString", "internal/bytealg.IndexString", "internal/abi.NoEscape"], unfollowed := true, recurses := true, named := ["internal/bytealg.MaxLen"], apart := false, narrowed := true }
def RegReadsUptoSaid : Prop := regReadsUptoRow.holds Try.pinned (OpenSpec.upto regReadsSpec)

/-- 'hogsheadlaw11.RegBack', WHERE WHAT IT READS IS OF BULK AT MOST 1048576: true; the input reads as it did. -/
def regBackUptoRow : OpenClaim := { program := "ythaleeajeibgeaa", sum := "8a09975100193f31718719875b28f878f1d2b484b1ff97646adb30ef46499599", func := "hogshead/hogsheadlaw11.RegBack", spec := "regBack", inPlace := ["internal/bytealg.IndexByteString", "internal/bytealg.IndexString", "internal/abi.NoEscape"], unfollowed := true, recurses := true, named := ["internal/bytealg.MaxLen"], apart := false, narrowed := true }
def RegBackUptoSaid : Prop := regBackUptoRow.holds Try.pinned (OpenSpec.upto regBackSpec)

/-- 'hogsheadlaw11.RegLines', WHERE WHAT IT READS IS OF BULK AT MOST 1048576: true; the input reads as it did. -/
def regLinesUptoRow : OpenClaim := { program := "ythaleeajeibgeaa", sum := "8a09975100193f31718719875b28f878f1d2b484b1ff97646adb30ef46499599", func := "hogshead/hogsheadlaw11.RegLines", spec := "regLines", inPlace := ["internal/bytealg.IndexByteString", "internal/bytealg.IndexString", "internal/abi.NoEscape"], unfollowed := true, recurses := true, named := ["internal/bytealg.MaxLen"], apart := false, narrowed := true }
def RegLinesUptoSaid : Prop := regLinesUptoRow.holds Try.pinned (OpenSpec.upto regLinesSpec)

end Rows
end Go.Proofs.Ythaleeajeibgeaa
