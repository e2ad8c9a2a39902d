/-
  DERIVED. GIVEN WITH THE SEED: THE CARDS: each row of YtjphjbefjbojfaaGreatDoorRows.lean that lists a variable, with what it lists TIED to the program's text (the seventh form; the later family's looks); each row that meets fmt, with fmt's text TOLD by the authors' own Lean function (tested against real Go, not proved from fmt's source: count such statements apart). THE CARD IS WHAT COUNTS. Prove the row's statement (the work); the ties are given (YtjphjbefjbojfaaGreatDoorTie.lean); close each card by the builder's one call (the guide's Derived/Test/ToyasCard.lean, 'card_holds'). Laid BY PROGRAM, IN A SANDBOX (cutbox-door.mjs). By AI agents, Wed Nov 11 2026. No macro, syntax, notation, axiom, sorry.
-/
import Derived.Test.YtjphjbefjbojfaaGreatDoorRows
import GoSem.ClaimSeven
namespace Go.Proofs.YtjphjbefjbojfaaGreatDoor
namespace Rows

/-- THE TIED CARD OF 'committeekeep2.RepliesMeet'. -/
def repliesMeetCard : Claim7 := { stood := { row := repliesMeetRow, standIns := [], harness := (true, "3e0d3538037166a9438e21be4c3caaaf572d87c02c848bac89f464320c8b2f86"), looks := true }, kinds := [], alts := [], laidByText := true, laidKinds := [.data, .data, .data, .data, .sentinel, .sentinel, .pinned], laidTests := true, laidLooks := .later }
def RepliesMeetCardSaid : Prop := Claim7.holds Tryz.pinned (.plain (OpenSpec.ofChange repliesMeetSpec)) repliesMeetCard

/-- THE SECOND FORM's CARD OF 'committeekeep2.RepliesMeet'. -/
def repliesMeetUptoCard : Claim7 := { stood := { row := repliesMeetUptoRow, standIns := [], harness := (true, "3e0d3538037166a9438e21be4c3caaaf572d87c02c848bac89f464320c8b2f86"), looks := true }, kinds := [], alts := [], laidByText := true, laidKinds := [.data, .data, .data, .data, .sentinel, .sentinel, .pinned], laidTests := true, laidLooks := .later }
def RepliesMeetUptoCardSaid : Prop := Claim7.holds Tryz.pinned (.plain (OpenSpec.upto repliesMeetSpec)) repliesMeetUptoCard
end Rows
end Go.Proofs.YtjphjbefjbojfaaGreatDoor
