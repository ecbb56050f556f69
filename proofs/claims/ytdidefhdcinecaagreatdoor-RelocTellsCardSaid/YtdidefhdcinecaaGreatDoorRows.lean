/-
  NARROWER THAN 'FOR EVERY INPUT', by the rows' own cells (each row's printed sentence says how): RelocTells: laid · RelocBack: laid · RelocNone: laid · RelocSteps: laid.
  DERIVED. THE GIVEN ROWS OF THIS SEAT. 4 by the template 'for every input the law returns true; each argument reads behind the call as it read before'; 0 by the template 'total and deterministic' (their statements: YtdidefhdcinecaaGreatDoorTotals.lean).
  GIVEN WITH THE SEED: the statements are not yours to turn. If you find one false, say at which input.
  Laid BY PROGRAM, IN A SANDBOX (cutbox-rows.mjs): the forced cells as the released guide's own fill.sh prints them over the translation af50d24f4ad1e512… (all of the seat's roots in one cut). By AI agents, Wed Nov 11 2026. No macro, syntax, notation, axiom, sorry.
-/
import Derived.Test.YtdidefhdcinecaaGreatDoorChecked
import GoSem.PinnedTables
import GoSem.Claim
import GoSem.ClaimJoined
import GoSem.ClaimMapViews
import Derived.JoinedTies
import Derived.KernelRfl
namespace Go.Proofs.YtdidefhdcinecaaGreatDoor
/- THE CELL 'sum', in the pinned program and in every row, IS THE sha256 OF THE DUMP (.gsa) THAT YtdidefhdcinecaaGreatDoorProg.lean LOADS. Nothing in Lean hashes anything: it is a label: what it is worth is what the hold of that sum in a sandbox is worth. -/
noncomputable def Tryz.pinned : Pinned := { name := "ytdidefhdcinecaagreatdoor", sum := "af50d24f4ad1e512dd82c494f65ad73dcd48ab9dca257d05eb7ab2acf80930b1", checked := Tryz.checked }
namespace Rows
def none {H : Type} : Left H := { results := [], args := [] }

/- WHAT THE LISTED PACKAGE-LEVEL VARIABLES READ AS WHEN THE CALL BEGINS. Each datum BY PROGRAM (the guide's laid-datum.mjs) off the statement by which the dump's own 'gosem.cut.vars' lays the variable. In a bare row this is a premise. The card (YtdidefhdcinecaaGreatDoorCards.lean) ties it to the program's text. -/
def laid_unicode_utf8_acceptRanges {H : Type} : DataW H := .agg [.agg [.lit (.int .u8 128), .lit (.int .u8 191)], .agg [.lit (.int .u8 160), .lit (.int .u8 191)], .agg [.lit (.int .u8 128), .lit (.int .u8 159)], .agg [.lit (.int .u8 144), .lit (.int .u8 191)], .agg [.lit (.int .u8 128), .lit (.int .u8 143)], .agg [.lit (.int .u8 0), .lit (.int .u8 0)], .agg [.lit (.int .u8 0), .lit (.int .u8 0)], .agg [.lit (.int .u8 0), .lit (.int .u8 0)], .agg [.lit (.int .u8 0), .lit (.int .u8 0)], .agg [.lit (.int .u8 0), .lit (.int .u8 0)], .agg [.lit (.int .u8 0), .lit (.int .u8 0)], .agg [.lit (.int .u8 0), .lit (.int .u8 0)], .agg [.lit (.int .u8 0), .lit (.int .u8 0)], .agg [.lit (.int .u8 0), .lit (.int .u8 0)], .agg [.lit (.int .u8 0), .lit (.int .u8 0)], .agg [.lit (.int .u8 0), .lit (.int .u8 0)]]
/-- One of Go's own tables, pinned by name: the form's constant. -/
def laid_unicode_utf8_first : DataW Unit := Go.Pinned.utf8First

/-- 'hogsheadlaw25.RelocTells': WHATEVER THE INPUT: true; the input reads as it did. -/
def relocTellsSpec : ChangeSpec := { name := "relocTells", fn := fun _ => fun
  | [d1, d2, d3, d4] => { results := [.lit (.bool true)], args := [d1, d2, d3, d4] }
  | _ => none }
def relocTellsRow : OpenClaim := { program := "ytdidefhdcinecaagreatdoor", sum := "af50d24f4ad1e512dd82c494f65ad73dcd48ab9dca257d05eb7ab2acf80930b1", func := "hogshead/hogsheadlaw25.RelocTells", spec := "relocTells", inPlace := ["internal/bytealg.CountString", "internal/bytealg.IndexByteString", "internal/bytealg.IndexString", "internal/abi.NoEscape", "internal/bytealg.MakeNoZero"], unfollowed := true, recurses := true, named := ["internal/bytealg.MaxLen", "unicode/utf8.first", "unicode/utf8.acceptRanges"], apart := false, laid := [("unicode/utf8.acceptRanges", laid_unicode_utf8_acceptRanges), ("unicode/utf8.first", laid_unicode_utf8_first)] }
def RelocTellsSaid : Prop := relocTellsRow.holds Tryz.pinned (OpenSpec.ofChange relocTellsSpec)

/-- ITS FALSE NEIGHBOUR: 'it returns false'. Refute it at one input. -/
def relocTellsWrong : ChangeSpec := { name := "relocTells", fn := fun _ => fun
  | [d1, d2, d3, d4] => { results := [.lit (.bool false)], args := [d1, d2, d3, d4] }
  | _ => none }
def RelocTellsWrongFalsely : Prop := relocTellsRow.holds Tryz.pinned (OpenSpec.ofChange relocTellsWrong)

/-- 'hogsheadlaw25.RelocBack': WHATEVER THE INPUT: true; the input reads as it did. -/
def relocBackSpec : ChangeSpec := { name := "relocBack", fn := fun _ => fun
  | [d1, d2, d3] => { results := [.lit (.bool true)], args := [d1, d2, d3] }
  | _ => none }
def relocBackRow : OpenClaim := { program := "ytdidefhdcinecaagreatdoor", sum := "af50d24f4ad1e512dd82c494f65ad73dcd48ab9dca257d05eb7ab2acf80930b1", func := "hogshead/hogsheadlaw25.RelocBack", spec := "relocBack", inPlace := ["internal/bytealg.CountString", "internal/bytealg.IndexByteString", "internal/bytealg.IndexString", "internal/abi.NoEscape", "internal/bytealg.MakeNoZero"], unfollowed := true, recurses := true, named := ["internal/bytealg.MaxLen", "unicode/utf8.first", "unicode/utf8.acceptRanges"], apart := false, laid := [("unicode/utf8.acceptRanges", laid_unicode_utf8_acceptRanges), ("unicode/utf8.first", laid_unicode_utf8_first)] }
def RelocBackSaid : Prop := relocBackRow.holds Tryz.pinned (OpenSpec.ofChange relocBackSpec)

/-- ITS FALSE NEIGHBOUR: 'it returns false'. Refute it at one input. -/
def relocBackWrong : ChangeSpec := { name := "relocBack", fn := fun _ => fun
  | [d1, d2, d3] => { results := [.lit (.bool false)], args := [d1, d2, d3] }
  | _ => none }
def RelocBackWrongFalsely : Prop := relocBackRow.holds Tryz.pinned (OpenSpec.ofChange relocBackWrong)

/-- 'hogsheadlaw25.RelocNone': WHATEVER THE INPUT: true; the input reads as it did. -/
def relocNoneSpec : ChangeSpec := { name := "relocNone", fn := fun _ => fun
  | [d1, d2, d3] => { results := [.lit (.bool true)], args := [d1, d2, d3] }
  | _ => none }
def relocNoneRow : OpenClaim := { program := "ytdidefhdcinecaagreatdoor", sum := "af50d24f4ad1e512dd82c494f65ad73dcd48ab9dca257d05eb7ab2acf80930b1", func := "hogshead/hogsheadlaw25.RelocNone", spec := "relocNone", inPlace := ["internal/bytealg.IndexByteString", "internal/bytealg.IndexString", "internal/bytealg.CountString", "internal/abi.NoEscape", "internal/bytealg.MakeNoZero"], unfollowed := true, recurses := true, named := ["internal/bytealg.MaxLen", "unicode/utf8.first", "unicode/utf8.acceptRanges"], apart := false, laid := [("unicode/utf8.acceptRanges", laid_unicode_utf8_acceptRanges), ("unicode/utf8.first", laid_unicode_utf8_first)] }
def RelocNoneSaid : Prop := relocNoneRow.holds Tryz.pinned (OpenSpec.ofChange relocNoneSpec)

/-- ITS FALSE NEIGHBOUR: 'it returns false'. Refute it at one input. -/
def relocNoneWrong : ChangeSpec := { name := "relocNone", fn := fun _ => fun
  | [d1, d2, d3] => { results := [.lit (.bool false)], args := [d1, d2, d3] }
  | _ => none }
def RelocNoneWrongFalsely : Prop := relocNoneRow.holds Tryz.pinned (OpenSpec.ofChange relocNoneWrong)

/-- 'hogsheadlaw25.RelocSteps': WHATEVER THE INPUT: true; the input reads as it did. -/
def relocStepsSpec : ChangeSpec := { name := "relocSteps", fn := fun _ => fun
  | [d1, d2, d3, d4] => { results := [.lit (.bool true)], args := [d1, d2, d3, d4] }
  | _ => none }
def relocStepsRow : OpenClaim := { program := "ytdidefhdcinecaagreatdoor", sum := "af50d24f4ad1e512dd82c494f65ad73dcd48ab9dca257d05eb7ab2acf80930b1", func := "hogshead/hogsheadlaw25.RelocSteps", spec := "relocSteps", inPlace := ["internal/bytealg.CountString", "internal/bytealg.IndexByteString", "internal/bytealg.IndexString", "internal/abi.NoEscape", "internal/bytealg.MakeNoZero"], unfollowed := true, recurses := true, named := ["internal/bytealg.MaxLen", "unicode/utf8.first", "unicode/utf8.acceptRanges"], apart := false, laid := [("unicode/utf8.acceptRanges", laid_unicode_utf8_acceptRanges), ("unicode/utf8.first", laid_unicode_utf8_first)] }
def RelocStepsSaid : Prop := relocStepsRow.holds Tryz.pinned (OpenSpec.ofChange relocStepsSpec)

/-- ITS FALSE NEIGHBOUR: 'it returns false'. Refute it at one input. -/
def relocStepsWrong : ChangeSpec := { name := "relocSteps", fn := fun _ => fun
  | [d1, d2, d3, d4] => { results := [.lit (.bool false)], args := [d1, d2, d3, d4] }
  | _ => none }
def RelocStepsWrongFalsely : Prop := relocStepsRow.holds Tryz.pinned (OpenSpec.ofChange relocStepsWrong)

/- THE SECOND FORM. 'bulk': how many values and letters a reading holds, each counted each time it is reached (what is shared counts as often as it is met; a slice's spare places count too). A statement '..UptoSaid' is the law's where the arguments, and the package variables that the reading takes, are together of bulk at most 1048576: NARROWER than '..Said'. Prove '..Said' where nothing that the law and all that it calls make is longer than what came in: it says more and counts as full. Else prove '..UptoSaid'. A law counts once. -/
mutual
def uptoBulk {H : Type} : DataW H → Nat
  | .lit (.string bytes) => bytes.length + 1
  | .lit _ => 1
  | .nil => 1
  | .ptr d => uptoBulk d + 1
  | .slice elems spare => uptoBulkAll elems + uptoBulkAll spare + 1
  | .agg parts => uptoBulkAll parts + 1
  | .iface _ d => uptoBulk d + 1
  | .map entries => uptoBulkEntries entries + 1
  | .held _ => 1
def uptoBulkAll {H : Type} : List (DataW H) → Nat
  | [] => 0
  | d :: r => uptoBulk d + uptoBulkAll r
def uptoBulkEntries {H : Type} : List (Lit × DataW H) → Nat
  | [] => 0
  | x :: r => uptoBulkEntry x + uptoBulkEntries r
def uptoBulkEntry {H : Type} : Lit × DataW H → Nat
  | (.string bytes, d) => bytes.length + uptoBulk d + 1
  | (_, d) => uptoBulk d + 1
 end
def uptoSmall : (H : Type) → List (DataW H) → Bool := fun _ ds => decide (uptoBulkAll ds ≤ 1048576)
def OpenSpec.upto (s : _root_.Go.ChangeSpec) : _root_.Go.OpenSpec := { _root_.Go.OpenSpec.ofChange s with cond := some uptoSmall }

/-- 'hogsheadlaw25.RelocTells', WHERE WHAT IT READS IS OF BULK AT MOST 1048576: true; the input reads as it did. -/
def relocTellsUptoRow : OpenClaim := { program := "ytdidefhdcinecaagreatdoor", sum := "af50d24f4ad1e512dd82c494f65ad73dcd48ab9dca257d05eb7ab2acf80930b1", func := "hogshead/hogsheadlaw25.RelocTells", spec := "relocTells", inPlace := ["internal/bytealg.CountString", "internal/bytealg.IndexByteString", "internal/bytealg.IndexString", "internal/abi.NoEscape", "internal/bytealg.MakeNoZero"], unfollowed := true, recurses := true, named := ["internal/bytealg.MaxLen", "unicode/utf8.first", "unicode/utf8.acceptRanges"], apart := false, laid := [("unicode/utf8.acceptRanges", laid_unicode_utf8_acceptRanges), ("unicode/utf8.first", laid_unicode_utf8_first)], narrowed := true }
def RelocTellsUptoSaid : Prop := relocTellsUptoRow.holds Tryz.pinned (OpenSpec.upto relocTellsSpec)

/-- 'hogsheadlaw25.RelocBack', WHERE WHAT IT READS IS OF BULK AT MOST 1048576: true; the input reads as it did. -/
def relocBackUptoRow : OpenClaim := { program := "ytdidefhdcinecaagreatdoor", sum := "af50d24f4ad1e512dd82c494f65ad73dcd48ab9dca257d05eb7ab2acf80930b1", func := "hogshead/hogsheadlaw25.RelocBack", spec := "relocBack", inPlace := ["internal/bytealg.CountString", "internal/bytealg.IndexByteString", "internal/bytealg.IndexString", "internal/abi.NoEscape", "internal/bytealg.MakeNoZero"], unfollowed := true, recurses := true, named := ["internal/bytealg.MaxLen", "unicode/utf8.first", "unicode/utf8.acceptRanges"], apart := false, laid := [("unicode/utf8.acceptRanges", laid_unicode_utf8_acceptRanges), ("unicode/utf8.first", laid_unicode_utf8_first)], narrowed := true }
def RelocBackUptoSaid : Prop := relocBackUptoRow.holds Tryz.pinned (OpenSpec.upto relocBackSpec)

/-- 'hogsheadlaw25.RelocNone', WHERE WHAT IT READS IS OF BULK AT MOST 1048576: true; the input reads as it did. -/
def relocNoneUptoRow : OpenClaim := { program := "ytdidefhdcinecaagreatdoor", sum := "af50d24f4ad1e512dd82c494f65ad73dcd48ab9dca257d05eb7ab2acf80930b1", func := "hogshead/hogsheadlaw25.RelocNone", spec := "relocNone", inPlace := ["internal/bytealg.IndexByteString", "internal/bytealg.IndexString", "internal/bytealg.CountString", "internal/abi.NoEscape", "internal/bytealg.MakeNoZero"], unfollowed := true, recurses := true, named := ["internal/bytealg.MaxLen", "unicode/utf8.first", "unicode/utf8.acceptRanges"], apart := false, laid := [("unicode/utf8.acceptRanges", laid_unicode_utf8_acceptRanges), ("unicode/utf8.first", laid_unicode_utf8_first)], narrowed := true }
def RelocNoneUptoSaid : Prop := relocNoneUptoRow.holds Tryz.pinned (OpenSpec.upto relocNoneSpec)

/-- 'hogsheadlaw25.RelocSteps', WHERE WHAT IT READS IS OF BULK AT MOST 1048576: true; the input reads as it did. -/
def relocStepsUptoRow : OpenClaim := { program := "ytdidefhdcinecaagreatdoor", sum := "af50d24f4ad1e512dd82c494f65ad73dcd48ab9dca257d05eb7ab2acf80930b1", func := "hogshead/hogsheadlaw25.RelocSteps", spec := "relocSteps", inPlace := ["internal/bytealg.CountString", "internal/bytealg.IndexByteString", "internal/bytealg.IndexString", "internal/abi.NoEscape", "internal/bytealg.MakeNoZero"], unfollowed := true, recurses := true, named := ["internal/bytealg.MaxLen", "unicode/utf8.first", "unicode/utf8.acceptRanges"], apart := false, laid := [("unicode/utf8.acceptRanges", laid_unicode_utf8_acceptRanges), ("unicode/utf8.first", laid_unicode_utf8_first)], narrowed := true }
def RelocStepsUptoSaid : Prop := relocStepsUptoRow.holds Tryz.pinned (OpenSpec.upto relocStepsSpec)

end Rows
end Go.Proofs.YtdidefhdcinecaaGreatDoor
