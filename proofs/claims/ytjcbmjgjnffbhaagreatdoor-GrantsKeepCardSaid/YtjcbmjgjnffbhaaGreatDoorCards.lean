/-
  DERIVED. GIVEN WITH THE SEED: THE CARDS: each row of YtjcbmjgjnffbhaaGreatDoorRows.lean that lists a variable, with what it lists TIED to the program's text (the seventh form; the later family's looks); each row that meets fmt, with fmt's text TOLD by the authors' own Lean function (tested against real Go, not proved from fmt's source: count such statements apart). THE CARD IS WHAT COUNTS. Prove the row's statement (the work); the ties are given (YtjcbmjgjnffbhaaGreatDoorTie.lean); close each card by the builder's one call (the guide's Derived/Test/ToyasCard.lean, 'card_holds'). Laid BY PROGRAM, IN A SANDBOX (cutbox-door.mjs). By AI agents, Wed Nov 11 2026. No macro, syntax, notation, axiom, sorry.
-/
import Derived.Test.YtjcbmjgjnffbhaaGreatDoorRows
import GoSem.ClaimSeven
namespace Go.Proofs.YtjcbmjgjnffbhaaGreatDoor
namespace Rows

/-- THE TIED CARD OF 'committeekeep2.GrantsKeep'. -/
def grantsKeepCard : Claim7 := { stood := { row := grantsKeepRow, standIns := [], harness := (true, "f7caf97270fa5fdcddb5954a17c034900ad7196d163358213ca8c344f98bd872"), looks := true }, kinds := [], alts := [], laidByText := true, laidKinds := [.data, .data, .data, .data, .sentinel, .sentinel, .pinned], laidTests := true, laidLooks := .later }
def GrantsKeepCardSaid : Prop := Claim7.holds Tryz.pinned (.plain (OpenSpec.ofChange grantsKeepSpec)) grantsKeepCard

/-- THE SECOND FORM's CARD OF 'committeekeep2.GrantsKeep'. -/
def grantsKeepUptoCard : Claim7 := { stood := { row := grantsKeepUptoRow, standIns := [], harness := (true, "f7caf97270fa5fdcddb5954a17c034900ad7196d163358213ca8c344f98bd872"), looks := true }, kinds := [], alts := [], laidByText := true, laidKinds := [.data, .data, .data, .data, .sentinel, .sentinel, .pinned], laidTests := true, laidLooks := .later }
def GrantsKeepUptoCardSaid : Prop := Claim7.holds Tryz.pinned (.plain (OpenSpec.upto grantsKeepSpec)) grantsKeepUptoCard
end Rows
end Go.Proofs.YtjcbmjgjnffbhaaGreatDoor
