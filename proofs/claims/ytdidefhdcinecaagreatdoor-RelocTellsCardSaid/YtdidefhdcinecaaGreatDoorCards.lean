/-
  DERIVED. GIVEN WITH THE SEED: THE CARDS: each row of YtdidefhdcinecaaGreatDoorRows.lean that lists a variable, with what it lists TIED to the program's text (the seventh form; the later family's looks); each row that meets fmt, with fmt's text TOLD by the authors' own Lean function (tested against real Go, not proved from fmt's source: count such statements apart). THE CARD IS WHAT COUNTS. Prove the row's statement (the work); the ties are given (YtdidefhdcinecaaGreatDoorTie.lean); close each card by the builder's one call (the guide's Derived/Test/ToyasCard.lean, 'card_holds'). Laid BY PROGRAM, IN A SANDBOX (cutbox-door.mjs). By AI agents, Wed Nov 11 2026. No macro, syntax, notation, axiom, sorry.
-/
import Derived.Test.YtdidefhdcinecaaGreatDoorRows
import GoSem.ClaimSeven
namespace Go.Proofs.YtdidefhdcinecaaGreatDoor
namespace Rows

/-- THE TIED CARD OF 'hogsheadlaw25.RelocTells'. -/
def relocTellsCard : Claim7 := { stood := { row := relocTellsRow, standIns := [], harness := (true, "82696d4f9a4b539b86adb28f57cbfcd18e515647fdd2f8b50ba96e53996e763b"), looks := false }, kinds := [], alts := [], laidByText := true, laidKinds := [.data, .pinned], laidTests := true, laidLooks := .later }
def RelocTellsCardSaid : Prop := Claim7.holds Tryz.pinned (.plain (OpenSpec.ofChange relocTellsSpec)) relocTellsCard

/-- THE TIED CARD OF 'hogsheadlaw25.RelocBack'. -/
def relocBackCard : Claim7 := { stood := { row := relocBackRow, standIns := [], harness := (true, "82696d4f9a4b539b86adb28f57cbfcd18e515647fdd2f8b50ba96e53996e763b"), looks := false }, kinds := [], alts := [], laidByText := true, laidKinds := [.data, .pinned], laidTests := true, laidLooks := .later }
def RelocBackCardSaid : Prop := Claim7.holds Tryz.pinned (.plain (OpenSpec.ofChange relocBackSpec)) relocBackCard

/-- THE TIED CARD OF 'hogsheadlaw25.RelocNone'. -/
def relocNoneCard : Claim7 := { stood := { row := relocNoneRow, standIns := [], harness := (true, "82696d4f9a4b539b86adb28f57cbfcd18e515647fdd2f8b50ba96e53996e763b"), looks := false }, kinds := [], alts := [], laidByText := true, laidKinds := [.data, .pinned], laidTests := true, laidLooks := .later }
def RelocNoneCardSaid : Prop := Claim7.holds Tryz.pinned (.plain (OpenSpec.ofChange relocNoneSpec)) relocNoneCard

/-- THE TIED CARD OF 'hogsheadlaw25.RelocSteps'. -/
def relocStepsCard : Claim7 := { stood := { row := relocStepsRow, standIns := [], harness := (true, "82696d4f9a4b539b86adb28f57cbfcd18e515647fdd2f8b50ba96e53996e763b"), looks := false }, kinds := [], alts := [], laidByText := true, laidKinds := [.data, .pinned], laidTests := true, laidLooks := .later }
def RelocStepsCardSaid : Prop := Claim7.holds Tryz.pinned (.plain (OpenSpec.ofChange relocStepsSpec)) relocStepsCard

/-- THE SECOND FORM's CARD OF 'hogsheadlaw25.RelocTells'. -/
def relocTellsUptoCard : Claim7 := { stood := { row := relocTellsUptoRow, standIns := [], harness := (true, "82696d4f9a4b539b86adb28f57cbfcd18e515647fdd2f8b50ba96e53996e763b"), looks := false }, kinds := [], alts := [], laidByText := true, laidKinds := [.data, .pinned], laidTests := true, laidLooks := .later }
def RelocTellsUptoCardSaid : Prop := Claim7.holds Tryz.pinned (.plain (OpenSpec.upto relocTellsSpec)) relocTellsUptoCard

/-- THE SECOND FORM's CARD OF 'hogsheadlaw25.RelocBack'. -/
def relocBackUptoCard : Claim7 := { stood := { row := relocBackUptoRow, standIns := [], harness := (true, "82696d4f9a4b539b86adb28f57cbfcd18e515647fdd2f8b50ba96e53996e763b"), looks := false }, kinds := [], alts := [], laidByText := true, laidKinds := [.data, .pinned], laidTests := true, laidLooks := .later }
def RelocBackUptoCardSaid : Prop := Claim7.holds Tryz.pinned (.plain (OpenSpec.upto relocBackSpec)) relocBackUptoCard

/-- THE SECOND FORM's CARD OF 'hogsheadlaw25.RelocNone'. -/
def relocNoneUptoCard : Claim7 := { stood := { row := relocNoneUptoRow, standIns := [], harness := (true, "82696d4f9a4b539b86adb28f57cbfcd18e515647fdd2f8b50ba96e53996e763b"), looks := false }, kinds := [], alts := [], laidByText := true, laidKinds := [.data, .pinned], laidTests := true, laidLooks := .later }
def RelocNoneUptoCardSaid : Prop := Claim7.holds Tryz.pinned (.plain (OpenSpec.upto relocNoneSpec)) relocNoneUptoCard

/-- THE SECOND FORM's CARD OF 'hogsheadlaw25.RelocSteps'. -/
def relocStepsUptoCard : Claim7 := { stood := { row := relocStepsUptoRow, standIns := [], harness := (true, "82696d4f9a4b539b86adb28f57cbfcd18e515647fdd2f8b50ba96e53996e763b"), looks := false }, kinds := [], alts := [], laidByText := true, laidKinds := [.data, .pinned], laidTests := true, laidLooks := .later }
def RelocStepsUptoCardSaid : Prop := Claim7.holds Tryz.pinned (.plain (OpenSpec.upto relocStepsSpec)) relocStepsUptoCard
end Rows
end Go.Proofs.YtdidefhdcinecaaGreatDoor
