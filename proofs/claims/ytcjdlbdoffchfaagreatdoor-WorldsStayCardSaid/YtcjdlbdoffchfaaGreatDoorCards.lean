/-
  DERIVED. GIVEN WITH THE SEED: THE CARDS: each row of YtcjdlbdoffchfaaGreatDoorRows.lean that lists a variable, with what it lists TIED to the program's text (the seventh form; the later family's looks); each row that meets fmt, with fmt's text TOLD by the authors' own Lean function (tested against real Go, not proved from fmt's source: count such statements apart). THE CARD IS WHAT COUNTS. Prove the row's statement (the work); the ties are given (YtcjdlbdoffchfaaGreatDoorTie.lean); close each card by the builder's one call (the guide's Derived/Test/ToyasCard.lean, 'card_holds'). Laid BY PROGRAM, IN A SANDBOX (cutbox-door.mjs). By AI agents, Wed Nov 11 2026. No macro, syntax, notation, axiom, sorry.
-/
import Derived.Test.YtcjdlbdoffchfaaGreatDoorRows
import GoSem.ClaimSeven
namespace Go.Proofs.YtcjdlbdoffchfaaGreatDoor
namespace Rows

/-- THE TIED CARD OF 'committeekeep2.WorldsStay'. -/
def worldsStayCard : Claim7 := { stood := { row := worldsStayRow, standIns := [], harness := (true, "30635da54254a7ba2d5c69ba6697d41dd8c7160ce14404499319de63cb706267"), looks := true }, kinds := [], alts := [], laidByText := true, laidKinds := [.data, .data, .data, .data, .sentinel, .sentinel, .pinned], laidTests := true, laidLooks := .later }
def WorldsStayCardSaid : Prop := Claim7.holds Tryz.pinned (.plain (OpenSpec.ofChange worldsStaySpec)) worldsStayCard

/-- THE TIED CARD OF 'committeekeep2.ReasonsMirror'. -/
def reasonsMirrorCard : Claim7 := { stood := { row := reasonsMirrorRow, standIns := [], harness := (true, "30635da54254a7ba2d5c69ba6697d41dd8c7160ce14404499319de63cb706267"), looks := true }, kinds := [], alts := [], laidByText := true, laidKinds := [.data, .data, .data, .data, .sentinel, .sentinel, .pinned], laidTests := true, laidLooks := .later }
def ReasonsMirrorCardSaid : Prop := Claim7.holds Tryz.pinned (.plain (OpenSpec.ofChange reasonsMirrorSpec)) reasonsMirrorCard

/-- THE TIED CARD OF 'committeekeep2.PlacesStayNear'. -/
def placesStayNearCard : Claim7 := { stood := { row := placesStayNearRow, standIns := [], harness := (true, "30635da54254a7ba2d5c69ba6697d41dd8c7160ce14404499319de63cb706267"), looks := true }, kinds := [], alts := [], laidByText := true, laidKinds := [.data, .data, .data, .data, .sentinel, .sentinel, .pinned], laidTests := true, laidLooks := .later }
def PlacesStayNearCardSaid : Prop := Claim7.holds Tryz.pinned (.plain (OpenSpec.ofChange placesStayNearSpec)) placesStayNearCard

/-- THE TIED CARD OF 'committeekeep2.ReasonsMerge'. -/
def reasonsMergeCard : Claim7 := { stood := { row := reasonsMergeRow, standIns := [], harness := (true, "30635da54254a7ba2d5c69ba6697d41dd8c7160ce14404499319de63cb706267"), looks := true }, kinds := [], alts := [], laidByText := true, laidKinds := [.data, .data, .data, .data, .sentinel, .sentinel, .pinned], laidTests := true, laidLooks := .later }
def ReasonsMergeCardSaid : Prop := Claim7.holds Tryz.pinned (.plain (OpenSpec.ofChange reasonsMergeSpec)) reasonsMergeCard

/-- THE SECOND FORM's CARD OF 'committeekeep2.WorldsStay'. -/
def worldsStayUptoCard : Claim7 := { stood := { row := worldsStayUptoRow, standIns := [], harness := (true, "30635da54254a7ba2d5c69ba6697d41dd8c7160ce14404499319de63cb706267"), looks := true }, kinds := [], alts := [], laidByText := true, laidKinds := [.data, .data, .data, .data, .sentinel, .sentinel, .pinned], laidTests := true, laidLooks := .later }
def WorldsStayUptoCardSaid : Prop := Claim7.holds Tryz.pinned (.plain (OpenSpec.upto worldsStaySpec)) worldsStayUptoCard

/-- THE SECOND FORM's CARD OF 'committeekeep2.ReasonsMirror'. -/
def reasonsMirrorUptoCard : Claim7 := { stood := { row := reasonsMirrorUptoRow, standIns := [], harness := (true, "30635da54254a7ba2d5c69ba6697d41dd8c7160ce14404499319de63cb706267"), looks := true }, kinds := [], alts := [], laidByText := true, laidKinds := [.data, .data, .data, .data, .sentinel, .sentinel, .pinned], laidTests := true, laidLooks := .later }
def ReasonsMirrorUptoCardSaid : Prop := Claim7.holds Tryz.pinned (.plain (OpenSpec.upto reasonsMirrorSpec)) reasonsMirrorUptoCard

/-- THE SECOND FORM's CARD OF 'committeekeep2.PlacesStayNear'. -/
def placesStayNearUptoCard : Claim7 := { stood := { row := placesStayNearUptoRow, standIns := [], harness := (true, "30635da54254a7ba2d5c69ba6697d41dd8c7160ce14404499319de63cb706267"), looks := true }, kinds := [], alts := [], laidByText := true, laidKinds := [.data, .data, .data, .data, .sentinel, .sentinel, .pinned], laidTests := true, laidLooks := .later }
def PlacesStayNearUptoCardSaid : Prop := Claim7.holds Tryz.pinned (.plain (OpenSpec.upto placesStayNearSpec)) placesStayNearUptoCard

/-- THE SECOND FORM's CARD OF 'committeekeep2.ReasonsMerge'. -/
def reasonsMergeUptoCard : Claim7 := { stood := { row := reasonsMergeUptoRow, standIns := [], harness := (true, "30635da54254a7ba2d5c69ba6697d41dd8c7160ce14404499319de63cb706267"), looks := true }, kinds := [], alts := [], laidByText := true, laidKinds := [.data, .data, .data, .data, .sentinel, .sentinel, .pinned], laidTests := true, laidLooks := .later }
def ReasonsMergeUptoCardSaid : Prop := Claim7.holds Tryz.pinned (.plain (OpenSpec.upto reasonsMergeSpec)) reasonsMergeUptoCard
end Rows
end Go.Proofs.YtcjdlbdoffchfaaGreatDoor
