/-
  DERIVED. GIVEN WITH THE SEED: THE CARDS: each row of YthkbffdhiedjcaaGreatDoorRows.lean that lists a variable, with what it lists TIED to the program's text (the seventh form; the later family's looks); each row that meets fmt, with fmt's text TOLD by the authors' own Lean function (tested against real Go, not proved from fmt's source: count such statements apart). THE CARD IS WHAT COUNTS. Prove the row's statement (the work); the ties are given (YthkbffdhiedjcaaGreatDoorTie.lean); close each card by the builder's one call (the guide's Derived/Test/ToyasCard.lean, 'card_holds'). Laid BY PROGRAM, IN A SANDBOX (cutbox-door.mjs). By AI agents, Wed Nov 11 2026. No macro, syntax, notation, axiom, sorry.
-/
import Derived.Test.YthkbffdhiedjcaaGreatDoorRows
import GoSem.ClaimSeven
namespace Go.Proofs.YthkbffdhiedjcaaGreatDoor
namespace Rows

/-- THE TIED CARD OF 'committeekeep2.FinalsStay'. -/
def finalsStayCard : Claim7 := { stood := { row := finalsStayRow, standIns := [], harness := (true, "797426e0b87c0af9e03d5ee0936fd0d10710d29675f1629bf3c1b26048f9c457"), looks := true }, kinds := [], alts := [], laidByText := true, laidKinds := [.data, .data, .data, .data, .sentinel, .sentinel, .pinned], laidTests := true, laidLooks := .later }
def FinalsStayCardSaid : Prop := Claim7.holds Tryz.pinned (.plain (OpenSpec.ofChange finalsStaySpec)) finalsStayCard

/-- THE SECOND FORM's CARD OF 'committeekeep2.FinalsStay'. -/
def finalsStayUptoCard : Claim7 := { stood := { row := finalsStayUptoRow, standIns := [], harness := (true, "797426e0b87c0af9e03d5ee0936fd0d10710d29675f1629bf3c1b26048f9c457"), looks := true }, kinds := [], alts := [], laidByText := true, laidKinds := [.data, .data, .data, .data, .sentinel, .sentinel, .pinned], laidTests := true, laidLooks := .later }
def FinalsStayUptoCardSaid : Prop := Claim7.holds Tryz.pinned (.plain (OpenSpec.upto finalsStaySpec)) finalsStayUptoCard
end Rows
end Go.Proofs.YthkbffdhiedjcaaGreatDoor
