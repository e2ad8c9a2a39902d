/-
  DERIVED. GIVEN WITH THE SEED: THE CARDS: each row of YtiepfiomhahckaaGreatDoorRows.lean that lists a variable, with what it lists TIED to the program's text (the seventh form; the later family's looks); each row that meets fmt, with fmt's text TOLD by the authors' own Lean function (tested against real Go, not proved from fmt's source: count such statements apart). THE CARD IS WHAT COUNTS. Prove the row's statement (the work); the ties are given (YtiepfiomhahckaaGreatDoorTie.lean); close each card by the builder's one call (the guide's Derived/Test/ToyasCard.lean, 'card_holds'). Laid BY PROGRAM, IN A SANDBOX (cutbox-door.mjs). By AI agents, Wed Nov 11 2026. No macro, syntax, notation, axiom, sorry.
-/
import Derived.Test.YtiepfiomhahckaaGreatDoorRows
import GoSem.ClaimSeven
namespace Go.Proofs.YtiepfiomhahckaaGreatDoor
namespace Rows

/-- THE TIED CARD OF 'committeekeep1.LateChangesNothing'. -/
def lateChangesNothingCard : Claim7 := { stood := { row := lateChangesNothingRow, standIns := [], harness := (true, "5f82696d11ea72fd80c9aaf35bb5623aa110113f72c7f115e200f952eba3b959"), looks := false }, kinds := [], alts := [], laidByText := true, laidKinds := [.data, .pinned], laidTests := true, laidLooks := .later }
def LateChangesNothingCardSaid : Prop := Claim7.holds Tryz.pinned (.plain (OpenSpec.ofChange lateChangesNothingSpec)) lateChangesNothingCard

/-- THE TIED CARD OF 'committeekeep1.ArrivalsStay'. -/
def arrivalsStayCard : Claim7 := { stood := { row := arrivalsStayRow, standIns := [], harness := (true, "5f82696d11ea72fd80c9aaf35bb5623aa110113f72c7f115e200f952eba3b959"), looks := false }, kinds := [], alts := [], laidByText := true, laidKinds := [.data, .pinned], laidTests := true, laidLooks := .later }
def ArrivalsStayCardSaid : Prop := Claim7.holds Tryz.pinned (.plain (OpenSpec.ofChange arrivalsStaySpec)) arrivalsStayCard

/-- THE TIED CARD OF 'committeekeep1.StatesOfSets'. -/
def statesOfSetsCard : Claim7 := { stood := { row := statesOfSetsRow, standIns := [], harness := (true, "5f82696d11ea72fd80c9aaf35bb5623aa110113f72c7f115e200f952eba3b959"), looks := false }, kinds := [], alts := [], laidByText := true, laidKinds := [.data, .pinned], laidTests := true, laidLooks := .later }
def StatesOfSetsCardSaid : Prop := Claim7.holds Tryz.pinned (.plain (OpenSpec.ofChange statesOfSetsSpec)) statesOfSetsCard

/-- THE SECOND FORM's CARD OF 'committeekeep1.LateChangesNothing'. -/
def lateChangesNothingUptoCard : Claim7 := { stood := { row := lateChangesNothingUptoRow, standIns := [], harness := (true, "5f82696d11ea72fd80c9aaf35bb5623aa110113f72c7f115e200f952eba3b959"), looks := false }, kinds := [], alts := [], laidByText := true, laidKinds := [.data, .pinned], laidTests := true, laidLooks := .later }
def LateChangesNothingUptoCardSaid : Prop := Claim7.holds Tryz.pinned (.plain (OpenSpec.upto lateChangesNothingSpec)) lateChangesNothingUptoCard

/-- THE SECOND FORM's CARD OF 'committeekeep1.ArrivalsStay'. -/
def arrivalsStayUptoCard : Claim7 := { stood := { row := arrivalsStayUptoRow, standIns := [], harness := (true, "5f82696d11ea72fd80c9aaf35bb5623aa110113f72c7f115e200f952eba3b959"), looks := false }, kinds := [], alts := [], laidByText := true, laidKinds := [.data, .pinned], laidTests := true, laidLooks := .later }
def ArrivalsStayUptoCardSaid : Prop := Claim7.holds Tryz.pinned (.plain (OpenSpec.upto arrivalsStaySpec)) arrivalsStayUptoCard

/-- THE SECOND FORM's CARD OF 'committeekeep1.StatesOfSets'. -/
def statesOfSetsUptoCard : Claim7 := { stood := { row := statesOfSetsUptoRow, standIns := [], harness := (true, "5f82696d11ea72fd80c9aaf35bb5623aa110113f72c7f115e200f952eba3b959"), looks := false }, kinds := [], alts := [], laidByText := true, laidKinds := [.data, .pinned], laidTests := true, laidLooks := .later }
def StatesOfSetsUptoCardSaid : Prop := Claim7.holds Tryz.pinned (.plain (OpenSpec.upto statesOfSetsSpec)) statesOfSetsUptoCard
end Rows
end Go.Proofs.YtiepfiomhahckaaGreatDoor
