/-
  DERIVED. GIVEN WITH THE SEED: THE CARDS: each row of YtmeecpmogjlnaaaGreatDoorRows.lean that lists a variable, with what it lists TIED to the program's text (the seventh form; the later family's looks); each row that meets fmt, with fmt's text TOLD by the authors' own Lean function (tested against real Go, not proved from fmt's source: count such statements apart). THE CARD IS WHAT COUNTS. Prove the row's statement (the work); the ties are given (YtmeecpmogjlnaaaGreatDoorTie.lean); close each card by the builder's one call (the guide's Derived/Test/ToyasCard.lean, 'card_holds'). Laid BY PROGRAM, IN A SANDBOX (cutbox-door.mjs). By AI agents, Wed Nov 11 2026. No macro, syntax, notation, axiom, sorry.
-/
import Derived.Test.YtmeecpmogjlnaaaGreatDoorRows
import GoSem.ClaimSeven
namespace Go.Proofs.YtmeecpmogjlnaaaGreatDoor
namespace Rows

/-- THE TIED CARD OF 'committeekeep2.ErrataOnce'. -/
def errataOnceCard : Claim7 := { stood := { row := errataOnceRow, standIns := [], harness := (true, "d212c13fada35281a2ddc9b621d22c3a57bd68dac71456ed1916306fab1d4734"), looks := true }, kinds := [], alts := [], laidByText := true, laidKinds := [.data, .data, .data, .data, .sentinel, .sentinel, .pinned], laidTests := true, laidLooks := .later }
def ErrataOnceCardSaid : Prop := Claim7.holds Tryz.pinned (.plain (OpenSpec.ofChange errataOnceSpec)) errataOnceCard

/-- THE SECOND FORM's CARD OF 'committeekeep2.ErrataOnce'. -/
def errataOnceUptoCard : Claim7 := { stood := { row := errataOnceUptoRow, standIns := [], harness := (true, "d212c13fada35281a2ddc9b621d22c3a57bd68dac71456ed1916306fab1d4734"), looks := true }, kinds := [], alts := [], laidByText := true, laidKinds := [.data, .data, .data, .data, .sentinel, .sentinel, .pinned], laidTests := true, laidLooks := .later }
def ErrataOnceUptoCardSaid : Prop := Claim7.holds Tryz.pinned (.plain (OpenSpec.upto errataOnceSpec)) errataOnceUptoCard
end Rows
end Go.Proofs.YtmeecpmogjlnaaaGreatDoor
