/-
  DERIVED. GIVEN WITH THE SEED: THE CARDS: each row of YtdhbglnckeadkaaGreatDoorRows.lean that lists a variable, with what it lists TIED to the program's text (the seventh form; the later family's looks); each row that meets fmt, with fmt's text TOLD by the authors' own Lean function (tested against real Go, not proved from fmt's source: count such statements apart). THE CARD IS WHAT COUNTS. Prove the row's statement (the work); the ties are given (YtdhbglnckeadkaaGreatDoorTie.lean); close each card by the builder's one call (the guide's Derived/Test/ToyasCard.lean, 'card_holds'). Laid BY PROGRAM, IN A SANDBOX (cutbox-door.mjs). By AI agents, Wed Nov 11 2026. No macro, syntax, notation, axiom, sorry.
-/
import Derived.Test.YtdhbglnckeadkaaGreatDoorRows
import GoSem.ClaimSeven
namespace Go.Proofs.YtdhbglnckeadkaaGreatDoor
namespace Rows

/-- THE TIED CARD OF 'committeekeep2.MeetingsTurn'. -/
def meetingsTurnCard : Claim7 := { stood := { row := meetingsTurnRow, standIns := [], harness := (true, "eee84ec49e106931994dd621c0de6bc2c71bcfb506163daa329913b1bd6a9314"), looks := true }, kinds := [], alts := [], laidByText := true, laidKinds := [.data, .data, .data, .data, .sentinel, .sentinel, .pinned], laidTests := true, laidLooks := .later }
def MeetingsTurnCardSaid : Prop := Claim7.holds Tryz.pinned (.plain (OpenSpec.ofChange meetingsTurnSpec)) meetingsTurnCard

/-- THE SECOND FORM's CARD OF 'committeekeep2.MeetingsTurn'. -/
def meetingsTurnUptoCard : Claim7 := { stood := { row := meetingsTurnUptoRow, standIns := [], harness := (true, "eee84ec49e106931994dd621c0de6bc2c71bcfb506163daa329913b1bd6a9314"), looks := true }, kinds := [], alts := [], laidByText := true, laidKinds := [.data, .data, .data, .data, .sentinel, .sentinel, .pinned], laidTests := true, laidLooks := .later }
def MeetingsTurnUptoCardSaid : Prop := Claim7.holds Tryz.pinned (.plain (OpenSpec.upto meetingsTurnSpec)) meetingsTurnUptoCard
end Rows
end Go.Proofs.YtdhbglnckeadkaaGreatDoor
