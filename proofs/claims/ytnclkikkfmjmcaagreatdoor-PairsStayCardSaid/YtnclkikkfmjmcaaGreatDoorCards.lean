/-
  DERIVED. GIVEN WITH THE SEED: THE CARDS: each row of YtnclkikkfmjmcaaGreatDoorRows.lean that lists a variable, with what it lists TIED to the program's text (the seventh form; the later family's looks); each row that meets fmt, with fmt's text TOLD by the authors' own Lean function (tested against real Go, not proved from fmt's source: count such statements apart). THE CARD IS WHAT COUNTS. Prove the row's statement (the work); the ties are given (YtnclkikkfmjmcaaGreatDoorTie.lean); close each card by the builder's one call (the guide's Derived/Test/ToyasCard.lean, 'card_holds'). Laid BY PROGRAM, IN A SANDBOX (cutbox-door.mjs). By AI agents, Wed Nov 11 2026. No macro, syntax, notation, axiom, sorry.
-/
import Derived.Test.YtnclkikkfmjmcaaGreatDoorRows
import GoSem.ClaimSeven
namespace Go.Proofs.YtnclkikkfmjmcaaGreatDoor
namespace Rows

/-- THE TIED CARD OF 'committeekeep2.PairsStay'. -/
def pairsStayCard : Claim7 := { stood := { row := pairsStayRow, standIns := [], harness := (true, "be77a335bf90b600391b50eedf8d15f5843bf9aa58dae93b83d0f39aa86bffb8"), looks := true }, kinds := [], alts := [], laidByText := true, laidKinds := [.data, .data, .data, .data, .sentinel, .sentinel, .pinned], laidTests := true, laidLooks := .later }
def PairsStayCardSaid : Prop := Claim7.holds Tryz.pinned (.plain (OpenSpec.ofChange pairsStaySpec)) pairsStayCard

/-- THE SECOND FORM's CARD OF 'committeekeep2.PairsStay'. -/
def pairsStayUptoCard : Claim7 := { stood := { row := pairsStayUptoRow, standIns := [], harness := (true, "be77a335bf90b600391b50eedf8d15f5843bf9aa58dae93b83d0f39aa86bffb8"), looks := true }, kinds := [], alts := [], laidByText := true, laidKinds := [.data, .data, .data, .data, .sentinel, .sentinel, .pinned], laidTests := true, laidLooks := .later }
def PairsStayUptoCardSaid : Prop := Claim7.holds Tryz.pinned (.plain (OpenSpec.upto pairsStaySpec)) pairsStayUptoCard
end Rows
end Go.Proofs.YtnclkikkfmjmcaaGreatDoor
