/-
  DERIVED. GIVEN WITH THE SEED: THE CARDS: each row of YtafkgameionciaaDoorRows.lean that lists a variable, with what it lists TIED to the program's text (the seventh form; the later family's looks); each row that meets fmt, with fmt's text TOLD by the authors' own Lean function (tested against real Go, not proved from fmt's source: count such statements apart). THE CARD IS WHAT COUNTS. Prove the row's statement (the work); the ties are given (YtafkgameionciaaDoorTie.lean); close each card by the builder's one call (the guide's Derived/Test/ToyasCard.lean, 'card_holds'). Laid BY PROGRAM, IN A SANDBOX (cutbox-door.mjs). By AI agents, Wed Nov 11 2026. No macro, syntax, notation, axiom, sorry.
-/
import Derived.Test.YtafkgameionciaaDoorRows
import GoSem.ClaimSeven
namespace Go.Proofs.YtafkgameionciaaDoor
namespace Rows

/-- THE TIED CARD OF 'committeekeep1.TopicsStay'. -/
def topicsStayCard : Claim7 := { stood := { row := topicsStayRow, standIns := [], harness := (true, "751ab576a05ea2916de11760fc1344119b388261f470faadb0fad23b6a62a4bb"), looks := false }, kinds := [], alts := [], laidByText := true, laidKinds := [.data, .pinned], laidTests := true, laidLooks := .later }
def TopicsStayCardSaid : Prop := Claim7.holds Tryd.pinned (.plain (OpenSpec.ofChange topicsStaySpec)) topicsStayCard

/-- THE TIED CARD OF 'committeekeep1.OverlapTurns'. -/
def overlapTurnsCard : Claim7 := { stood := { row := overlapTurnsRow, standIns := [], harness := (true, "751ab576a05ea2916de11760fc1344119b388261f470faadb0fad23b6a62a4bb"), looks := false }, kinds := [], alts := [], laidByText := true, laidKinds := [.data, .pinned], laidTests := true, laidLooks := .later }
def OverlapTurnsCardSaid : Prop := Claim7.holds Tryd.pinned (.plain (OpenSpec.ofChange overlapTurnsSpec)) overlapTurnsCard

/-- THE TIED CARD OF 'committeekeep1.NearIsNear'. -/
def nearIsNearCard : Claim7 := { stood := { row := nearIsNearRow, standIns := [], harness := (true, "751ab576a05ea2916de11760fc1344119b388261f470faadb0fad23b6a62a4bb"), looks := false }, kinds := [], alts := [], laidByText := true, laidKinds := [.data, .pinned], laidTests := true, laidLooks := .later }
def NearIsNearCardSaid : Prop := Claim7.holds Tryd.pinned (.plain (OpenSpec.ofChange nearIsNearSpec)) nearIsNearCard

/-- THE SECOND FORM's CARD OF 'committeekeep1.TopicsStay'. -/
def topicsStayUptoCard : Claim7 := { stood := { row := topicsStayUptoRow, standIns := [], harness := (true, "751ab576a05ea2916de11760fc1344119b388261f470faadb0fad23b6a62a4bb"), looks := false }, kinds := [], alts := [], laidByText := true, laidKinds := [.data, .pinned], laidTests := true, laidLooks := .later }
def TopicsStayUptoCardSaid : Prop := Claim7.holds Tryd.pinned (.plain (OpenSpec.upto topicsStaySpec)) topicsStayUptoCard

/-- THE SECOND FORM's CARD OF 'committeekeep1.OverlapTurns'. -/
def overlapTurnsUptoCard : Claim7 := { stood := { row := overlapTurnsUptoRow, standIns := [], harness := (true, "751ab576a05ea2916de11760fc1344119b388261f470faadb0fad23b6a62a4bb"), looks := false }, kinds := [], alts := [], laidByText := true, laidKinds := [.data, .pinned], laidTests := true, laidLooks := .later }
def OverlapTurnsUptoCardSaid : Prop := Claim7.holds Tryd.pinned (.plain (OpenSpec.upto overlapTurnsSpec)) overlapTurnsUptoCard

/-- THE SECOND FORM's CARD OF 'committeekeep1.NearIsNear'. -/
def nearIsNearUptoCard : Claim7 := { stood := { row := nearIsNearUptoRow, standIns := [], harness := (true, "751ab576a05ea2916de11760fc1344119b388261f470faadb0fad23b6a62a4bb"), looks := false }, kinds := [], alts := [], laidByText := true, laidKinds := [.data, .pinned], laidTests := true, laidLooks := .later }
def NearIsNearUptoCardSaid : Prop := Claim7.holds Tryd.pinned (.plain (OpenSpec.upto nearIsNearSpec)) nearIsNearUptoCard
end Rows
end Go.Proofs.YtafkgameionciaaDoor
