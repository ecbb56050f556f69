/-
  DERIVED. GIVEN WITH THE SEED: THE CARDS: each row of YtjjlfbpmbleabaaDoorRows.lean that lists a variable, with what it lists TIED to the program's text (the seventh form; the later family's looks); each row that meets fmt, with fmt's text TOLD by the authors' own Lean function (tested against real Go, not proved from fmt's source: count such statements apart). THE CARD IS WHAT COUNTS. Prove the row's statement (the work); the ties are given (YtjjlfbpmbleabaaDoorTie.lean); close each card by the builder's one call (the guide's Derived/Test/ToyasCard.lean, 'card_holds'). Laid BY PROGRAM, IN A SANDBOX (cutbox-door.mjs). By AI agents, Wed Nov 11 2026. No macro, syntax, notation, axiom, sorry.
-/
import Derived.Test.YtjjlfbpmbleabaaDoorRows
import GoSem.ClaimSeven
namespace Go.Proofs.YtjjlfbpmbleabaaDoor
namespace Rows

/-- THE TIED CARD OF 'hogsheadlaw9.ClosureReach'. -/
def closureReachCard : Claim7 := { stood := { row := closureReachRow, standIns := [], harness := (true, "22b097a1a6ba34548f042997eaf6246c298177721ea128ead98a75ef22bdbe35"), looks := false }, kinds := [], alts := [], laidByText := true, laidKinds := [.data, .pinned], laidTests := true, laidLooks := .later }
def ClosureReachCardSaid : Prop := Claim7.holds Tryd.pinned (.plain (OpenSpec.ofChange closureReachSpec)) closureReachCard

/-- THE TIED CARD OF 'hogsheadlaw9.ClosureTurned'. -/
def closureTurnedCard : Claim7 := { stood := { row := closureTurnedRow, standIns := [], harness := (true, "22b097a1a6ba34548f042997eaf6246c298177721ea128ead98a75ef22bdbe35"), looks := false }, kinds := [], alts := [], laidByText := true, laidKinds := [.data, .pinned], laidTests := true, laidLooks := .later }
def ClosureTurnedCardSaid : Prop := Claim7.holds Tryd.pinned (.plain (OpenSpec.ofChange closureTurnedSpec)) closureTurnedCard

/-- THE TIED CARD OF 'hogsheadlaw9.ClosureReached'. -/
def closureReachedCard : Claim7 := { stood := { row := closureReachedRow, standIns := [], harness := (true, "22b097a1a6ba34548f042997eaf6246c298177721ea128ead98a75ef22bdbe35"), looks := false }, kinds := [], alts := [], laidByText := true, laidKinds := [.data, .pinned], laidTests := true, laidLooks := .later }
def ClosureReachedCardSaid : Prop := Claim7.holds Tryd.pinned (.plain (OpenSpec.ofChange closureReachedSpec)) closureReachedCard

/-- THE TIED CARD OF 'hogsheadlaw9.ClosureWhole'. -/
def closureWholeCard : Claim7 := { stood := { row := closureWholeRow, standIns := [], harness := (true, "22b097a1a6ba34548f042997eaf6246c298177721ea128ead98a75ef22bdbe35"), looks := false }, kinds := [], alts := [], laidByText := true, laidKinds := [.data, .pinned], laidTests := true, laidLooks := .later }
def ClosureWholeCardSaid : Prop := Claim7.holds Tryd.pinned (.plain (OpenSpec.ofChange closureWholeSpec)) closureWholeCard

/-- THE SECOND FORM's CARD OF 'hogsheadlaw9.ClosureReach'. -/
def closureReachUptoCard : Claim7 := { stood := { row := closureReachUptoRow, standIns := [], harness := (true, "22b097a1a6ba34548f042997eaf6246c298177721ea128ead98a75ef22bdbe35"), looks := false }, kinds := [], alts := [], laidByText := true, laidKinds := [.data, .pinned], laidTests := true, laidLooks := .later }
def ClosureReachUptoCardSaid : Prop := Claim7.holds Tryd.pinned (.plain (OpenSpec.upto closureReachSpec)) closureReachUptoCard

/-- THE SECOND FORM's CARD OF 'hogsheadlaw9.ClosureTurned'. -/
def closureTurnedUptoCard : Claim7 := { stood := { row := closureTurnedUptoRow, standIns := [], harness := (true, "22b097a1a6ba34548f042997eaf6246c298177721ea128ead98a75ef22bdbe35"), looks := false }, kinds := [], alts := [], laidByText := true, laidKinds := [.data, .pinned], laidTests := true, laidLooks := .later }
def ClosureTurnedUptoCardSaid : Prop := Claim7.holds Tryd.pinned (.plain (OpenSpec.upto closureTurnedSpec)) closureTurnedUptoCard

/-- THE SECOND FORM's CARD OF 'hogsheadlaw9.ClosureReached'. -/
def closureReachedUptoCard : Claim7 := { stood := { row := closureReachedUptoRow, standIns := [], harness := (true, "22b097a1a6ba34548f042997eaf6246c298177721ea128ead98a75ef22bdbe35"), looks := false }, kinds := [], alts := [], laidByText := true, laidKinds := [.data, .pinned], laidTests := true, laidLooks := .later }
def ClosureReachedUptoCardSaid : Prop := Claim7.holds Tryd.pinned (.plain (OpenSpec.upto closureReachedSpec)) closureReachedUptoCard

/-- THE SECOND FORM's CARD OF 'hogsheadlaw9.ClosureWhole'. -/
def closureWholeUptoCard : Claim7 := { stood := { row := closureWholeUptoRow, standIns := [], harness := (true, "22b097a1a6ba34548f042997eaf6246c298177721ea128ead98a75ef22bdbe35"), looks := false }, kinds := [], alts := [], laidByText := true, laidKinds := [.data, .pinned], laidTests := true, laidLooks := .later }
def ClosureWholeUptoCardSaid : Prop := Claim7.holds Tryd.pinned (.plain (OpenSpec.upto closureWholeSpec)) closureWholeUptoCard
end Rows
end Go.Proofs.YtjjlfbpmbleabaaDoor
