/-
  DERIVED. GIVEN WITH THE SEED: THE CARDS: each row of YtjjlfbpmbleabaaGreatDoorRows.lean that lists a variable, with what it lists TIED to the program's text (the seventh form; the later family's looks); each row that meets fmt, with fmt's text TOLD by the authors' own Lean function (tested against real Go, not proved from fmt's source: count such statements apart). THE CARD IS WHAT COUNTS. Prove the row's statement (the work); the ties are given (YtjjlfbpmbleabaaGreatDoorTie.lean); close each card by the builder's one call (the guide's Derived/Test/ToyasCard.lean, 'card_holds'). Laid BY PROGRAM, IN A SANDBOX (cutbox-door.mjs). By AI agents, Wed Nov 11 2026. No macro, syntax, notation, axiom, sorry.
-/
import Derived.Test.YtjjlfbpmbleabaaGreatDoorRows
import GoSem.ClaimSeven
namespace Go.Proofs.YtjjlfbpmbleabaaGreatDoor
namespace Rows

/-- THE TIED CARD OF 'hogsheadlaw9.ClosureTells'. -/
def closureTellsCard : Claim7 := { stood := { row := closureTellsRow, standIns := [], harness := (true, "788797746bb5188826a2536bea68cdd7a37100ae3673273718e5884f6504cb09"), looks := false }, kinds := [], alts := [], laidByText := true, laidKinds := [.data, .pinned], laidTests := true, laidLooks := .later }
def ClosureTellsCardSaid : Prop := Claim7.holds Tryz.pinned (.plain (OpenSpec.ofChange closureTellsSpec)) closureTellsCard

/-- THE SECOND FORM's CARD OF 'hogsheadlaw9.ClosureTells'. -/
def closureTellsUptoCard : Claim7 := { stood := { row := closureTellsUptoRow, standIns := [], harness := (true, "788797746bb5188826a2536bea68cdd7a37100ae3673273718e5884f6504cb09"), looks := false }, kinds := [], alts := [], laidByText := true, laidKinds := [.data, .pinned], laidTests := true, laidLooks := .later }
def ClosureTellsUptoCardSaid : Prop := Claim7.holds Tryz.pinned (.plain (OpenSpec.upto closureTellsSpec)) closureTellsUptoCard
end Rows
end Go.Proofs.YtjjlfbpmbleabaaGreatDoor
