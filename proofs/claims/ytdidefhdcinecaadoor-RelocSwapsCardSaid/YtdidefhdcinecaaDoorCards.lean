/-
  DERIVED. GIVEN WITH THE SEED: THE CARDS: each row of YtdidefhdcinecaaDoorRows.lean that lists a variable, with what it lists TIED to the program's text (the seventh form; the later family's looks); each row that meets fmt, with fmt's text TOLD by the authors' own Lean function (tested against real Go, not proved from fmt's source: count such statements apart). THE CARD IS WHAT COUNTS. Prove the row's statement (the work); the ties are given (YtdidefhdcinecaaDoorTie.lean); close each card by the builder's one call (the guide's Derived/Test/ToyasCard.lean, 'card_holds'). Laid BY PROGRAM, IN A SANDBOX (cutbox-door.mjs). By AI agents, Wed Nov 11 2026. No macro, syntax, notation, axiom, sorry.
-/
import Derived.Test.YtdidefhdcinecaaDoorRows
import GoSem.ClaimSeven
namespace Go.Proofs.YtdidefhdcinecaaDoor
namespace Rows

/-- THE TIED CARD OF 'hogsheadlaw25.RelocSwaps'. -/
def relocSwapsCard : Claim7 := { stood := { row := relocSwapsRow, standIns := [], harness := (true, "e5152bf6493b7b2cd3e51ec0024edd83b56ad6efe986435860d6675e07cee4df"), looks := false }, kinds := [], alts := [], laidByText := true, laidKinds := [.data, .pinned], laidTests := true, laidLooks := .later }
def RelocSwapsCardSaid : Prop := Claim7.holds Tryd.pinned (.plain (OpenSpec.ofChange relocSwapsSpec)) relocSwapsCard

/-- THE SECOND FORM's CARD OF 'hogsheadlaw25.RelocSwaps'. -/
def relocSwapsUptoCard : Claim7 := { stood := { row := relocSwapsUptoRow, standIns := [], harness := (true, "e5152bf6493b7b2cd3e51ec0024edd83b56ad6efe986435860d6675e07cee4df"), looks := false }, kinds := [], alts := [], laidByText := true, laidKinds := [.data, .pinned], laidTests := true, laidLooks := .later }
def RelocSwapsUptoCardSaid : Prop := Claim7.holds Tryd.pinned (.plain (OpenSpec.upto relocSwapsSpec)) relocSwapsUptoCard
end Rows
end Go.Proofs.YtdidefhdcinecaaDoor
