/-
  DERIVED. GIVEN WITH THE SEED: THE CARDS: each row of YtmijnlfmphcbbaaDoorRows.lean that lists a variable, with what it lists TIED to the program's text (the seventh form; the later family's looks); each row that meets fmt, with fmt's text TOLD by the authors' own Lean function (tested against real Go, not proved from fmt's source: count such statements apart). THE CARD IS WHAT COUNTS. Prove the row's statement (the work); the ties are given (YtmijnlfmphcbbaaDoorTie.lean); close each card by the builder's one call (the guide's Derived/Test/ToyasCard.lean, 'card_holds'). Laid BY PROGRAM, IN A SANDBOX (cutbox-door.mjs). By AI agents, Wed Nov 11 2026. No macro, syntax, notation, axiom, sorry.
-/
import Derived.Test.YtmijnlfmphcbbaaDoorRows
import GoSem.ClaimSeven
namespace Go.Proofs.YtmijnlfmphcbbaaDoor
namespace Rows

/-- THE TIED CARD OF 'committeekeep1.OverlapTurns'. -/
def overlapTurnsCard : Claim7 := { stood := { row := overlapTurnsRow, standIns := [], harness := (true, "b842c872472994bdecfdb0eeeed17de0a04cb4cb438ca858107ed6b3b02fd6c8"), looks := false }, kinds := [], alts := [], laidByText := true, laidKinds := [.data, .pinned], laidTests := true, laidLooks := .later }
def OverlapTurnsCardSaid : Prop := Claim7.holds Tryd.pinned (.plain (OpenSpec.ofChange overlapTurnsSpec)) overlapTurnsCard

/-- THE SECOND FORM's CARD OF 'committeekeep1.OverlapTurns'. -/
def overlapTurnsUptoCard : Claim7 := { stood := { row := overlapTurnsUptoRow, standIns := [], harness := (true, "b842c872472994bdecfdb0eeeed17de0a04cb4cb438ca858107ed6b3b02fd6c8"), looks := false }, kinds := [], alts := [], laidByText := true, laidKinds := [.data, .pinned], laidTests := true, laidLooks := .later }
def OverlapTurnsUptoCardSaid : Prop := Claim7.holds Tryd.pinned (.plain (OpenSpec.upto overlapTurnsSpec)) overlapTurnsUptoCard
end Rows
end Go.Proofs.YtmijnlfmphcbbaaDoor
