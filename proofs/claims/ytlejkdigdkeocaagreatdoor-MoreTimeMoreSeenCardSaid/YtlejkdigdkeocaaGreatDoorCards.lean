/-
  DERIVED. GIVEN WITH THE SEED: THE CARDS: each row of YtlejkdigdkeocaaGreatDoorRows.lean that lists a variable, with what it lists TIED to the program's text (the seventh form; the later family's looks); each row that meets fmt, with fmt's text TOLD by the authors' own Lean function (tested against real Go, not proved from fmt's source: count such statements apart). THE CARD IS WHAT COUNTS. Prove the row's statement (the work); the ties are given (YtlejkdigdkeocaaGreatDoorTie.lean); close each card by the builder's one call (the guide's Derived/Test/ToyasCard.lean, 'card_holds'). Laid BY PROGRAM, IN A SANDBOX (cutbox-door.mjs). By AI agents, Wed Nov 11 2026. No macro, syntax, notation, axiom, sorry.
-/
import Derived.Test.YtlejkdigdkeocaaGreatDoorRows
import GoSem.ClaimSeven
namespace Go.Proofs.YtlejkdigdkeocaaGreatDoor
namespace Rows

/-- THE TIED CARD OF 'committeekeep2.MoreTimeMoreSeen'. -/
def moreTimeMoreSeenCard : Claim7 := { stood := { row := moreTimeMoreSeenRow, standIns := [], harness := (true, "f698f91df685527fd0ff4cadffda7f510d2a9001d3669a49b637b94275586efb"), looks := true }, kinds := [], alts := [], laidByText := true, laidKinds := [.data, .data, .data, .data, .sentinel, .sentinel, .pinned], laidTests := true, laidLooks := .later }
def MoreTimeMoreSeenCardSaid : Prop := Claim7.holds Tryz.pinned (.plain (OpenSpec.ofChange moreTimeMoreSeenSpec)) moreTimeMoreSeenCard

/-- THE TIED CARD OF 'committeekeep2.ReviewsStay'. -/
def reviewsStayCard : Claim7 := { stood := { row := reviewsStayRow, standIns := [], harness := (true, "f698f91df685527fd0ff4cadffda7f510d2a9001d3669a49b637b94275586efb"), looks := true }, kinds := [], alts := [], laidByText := true, laidKinds := [.data, .data, .data, .data, .sentinel, .sentinel, .pinned], laidTests := true, laidLooks := .later }
def ReviewsStayCardSaid : Prop := Claim7.holds Tryz.pinned (.plain (OpenSpec.ofChange reviewsStaySpec)) reviewsStayCard

/-- THE TIED CARD OF 'committeekeep2.ReviewsMeet'. -/
def reviewsMeetCard : Claim7 := { stood := { row := reviewsMeetRow, standIns := [], harness := (true, "f698f91df685527fd0ff4cadffda7f510d2a9001d3669a49b637b94275586efb"), looks := true }, kinds := [], alts := [], laidByText := true, laidKinds := [.data, .data, .data, .data, .sentinel, .sentinel, .pinned], laidTests := true, laidLooks := .later }
def ReviewsMeetCardSaid : Prop := Claim7.holds Tryz.pinned (.plain (OpenSpec.ofChange reviewsMeetSpec)) reviewsMeetCard

/-- THE TIED CARD OF 'committeekeep2.AuthorsSeeNoNames'. -/
def authorsSeeNoNamesCard : Claim7 := { stood := { row := authorsSeeNoNamesRow, standIns := [], harness := (true, "f698f91df685527fd0ff4cadffda7f510d2a9001d3669a49b637b94275586efb"), looks := true }, kinds := [], alts := [], laidByText := true, laidKinds := [.data, .data, .data, .data, .sentinel, .sentinel, .pinned], laidTests := true, laidLooks := .later }
def AuthorsSeeNoNamesCardSaid : Prop := Claim7.holds Tryz.pinned (.plain (OpenSpec.ofChange authorsSeeNoNamesSpec)) authorsSeeNoNamesCard

/-- THE TIED CARD OF 'committeekeep2.DecisionsKeep'. -/
def decisionsKeepCard : Claim7 := { stood := { row := decisionsKeepRow, standIns := [], harness := (true, "f698f91df685527fd0ff4cadffda7f510d2a9001d3669a49b637b94275586efb"), looks := true }, kinds := [], alts := [], laidByText := true, laidKinds := [.data, .data, .data, .data, .sentinel, .sentinel, .pinned], laidTests := true, laidLooks := .later }
def DecisionsKeepCardSaid : Prop := Claim7.holds Tryz.pinned (.plain (OpenSpec.ofChange decisionsKeepSpec)) decisionsKeepCard

/-- THE TIED CARD OF 'committeekeep2.ReviewsAreKept'. -/
def reviewsAreKeptCard : Claim7 := { stood := { row := reviewsAreKeptRow, standIns := [], harness := (true, "f698f91df685527fd0ff4cadffda7f510d2a9001d3669a49b637b94275586efb"), looks := true }, kinds := [], alts := [], laidByText := true, laidKinds := [.data, .data, .data, .data, .sentinel, .sentinel, .pinned], laidTests := true, laidLooks := .later }
def ReviewsAreKeptCardSaid : Prop := Claim7.holds Tryz.pinned (.plain (OpenSpec.ofChange reviewsAreKeptSpec)) reviewsAreKeptCard

/-- THE SECOND FORM's CARD OF 'committeekeep2.MoreTimeMoreSeen'. -/
def moreTimeMoreSeenUptoCard : Claim7 := { stood := { row := moreTimeMoreSeenUptoRow, standIns := [], harness := (true, "f698f91df685527fd0ff4cadffda7f510d2a9001d3669a49b637b94275586efb"), looks := true }, kinds := [], alts := [], laidByText := true, laidKinds := [.data, .data, .data, .data, .sentinel, .sentinel, .pinned], laidTests := true, laidLooks := .later }
def MoreTimeMoreSeenUptoCardSaid : Prop := Claim7.holds Tryz.pinned (.plain (OpenSpec.upto moreTimeMoreSeenSpec)) moreTimeMoreSeenUptoCard

/-- THE SECOND FORM's CARD OF 'committeekeep2.ReviewsStay'. -/
def reviewsStayUptoCard : Claim7 := { stood := { row := reviewsStayUptoRow, standIns := [], harness := (true, "f698f91df685527fd0ff4cadffda7f510d2a9001d3669a49b637b94275586efb"), looks := true }, kinds := [], alts := [], laidByText := true, laidKinds := [.data, .data, .data, .data, .sentinel, .sentinel, .pinned], laidTests := true, laidLooks := .later }
def ReviewsStayUptoCardSaid : Prop := Claim7.holds Tryz.pinned (.plain (OpenSpec.upto reviewsStaySpec)) reviewsStayUptoCard

/-- THE SECOND FORM's CARD OF 'committeekeep2.ReviewsMeet'. -/
def reviewsMeetUptoCard : Claim7 := { stood := { row := reviewsMeetUptoRow, standIns := [], harness := (true, "f698f91df685527fd0ff4cadffda7f510d2a9001d3669a49b637b94275586efb"), looks := true }, kinds := [], alts := [], laidByText := true, laidKinds := [.data, .data, .data, .data, .sentinel, .sentinel, .pinned], laidTests := true, laidLooks := .later }
def ReviewsMeetUptoCardSaid : Prop := Claim7.holds Tryz.pinned (.plain (OpenSpec.upto reviewsMeetSpec)) reviewsMeetUptoCard

/-- THE SECOND FORM's CARD OF 'committeekeep2.AuthorsSeeNoNames'. -/
def authorsSeeNoNamesUptoCard : Claim7 := { stood := { row := authorsSeeNoNamesUptoRow, standIns := [], harness := (true, "f698f91df685527fd0ff4cadffda7f510d2a9001d3669a49b637b94275586efb"), looks := true }, kinds := [], alts := [], laidByText := true, laidKinds := [.data, .data, .data, .data, .sentinel, .sentinel, .pinned], laidTests := true, laidLooks := .later }
def AuthorsSeeNoNamesUptoCardSaid : Prop := Claim7.holds Tryz.pinned (.plain (OpenSpec.upto authorsSeeNoNamesSpec)) authorsSeeNoNamesUptoCard

/-- THE SECOND FORM's CARD OF 'committeekeep2.DecisionsKeep'. -/
def decisionsKeepUptoCard : Claim7 := { stood := { row := decisionsKeepUptoRow, standIns := [], harness := (true, "f698f91df685527fd0ff4cadffda7f510d2a9001d3669a49b637b94275586efb"), looks := true }, kinds := [], alts := [], laidByText := true, laidKinds := [.data, .data, .data, .data, .sentinel, .sentinel, .pinned], laidTests := true, laidLooks := .later }
def DecisionsKeepUptoCardSaid : Prop := Claim7.holds Tryz.pinned (.plain (OpenSpec.upto decisionsKeepSpec)) decisionsKeepUptoCard

/-- THE SECOND FORM's CARD OF 'committeekeep2.ReviewsAreKept'. -/
def reviewsAreKeptUptoCard : Claim7 := { stood := { row := reviewsAreKeptUptoRow, standIns := [], harness := (true, "f698f91df685527fd0ff4cadffda7f510d2a9001d3669a49b637b94275586efb"), looks := true }, kinds := [], alts := [], laidByText := true, laidKinds := [.data, .data, .data, .data, .sentinel, .sentinel, .pinned], laidTests := true, laidLooks := .later }
def ReviewsAreKeptUptoCardSaid : Prop := Claim7.holds Tryz.pinned (.plain (OpenSpec.upto reviewsAreKeptSpec)) reviewsAreKeptUptoCard
end Rows
end Go.Proofs.YtlejkdigdkeocaaGreatDoor
