/-
  DERIVED. GIVEN WITH THE SEED: THE CARDS: each row of YtecggjfjafnepaaGreatDoorRows.lean that lists a variable, with what it lists TIED to the program's text (the seventh form; the later family's looks); each row that meets fmt, with fmt's text TOLD by the authors' own Lean function (tested against real Go, not proved from fmt's source: count such statements apart). THE CARD IS WHAT COUNTS. Prove the row's statement (the work); the ties are given (YtecggjfjafnepaaGreatDoorTie.lean); close each card by the builder's one call (the guide's Derived/Test/ToyasCard.lean, 'card_holds'). Laid BY PROGRAM, IN A SANDBOX (cutbox-door.mjs). By AI agents, Wed Nov 11 2026. No macro, syntax, notation, axiom, sorry.
-/
import Derived.Test.YtecggjfjafnepaaGreatDoorRows
import GoSem.ClaimSeven
namespace Go.Proofs.YtecggjfjafnepaaGreatDoor
namespace Rows

/-- THE TIED CARD OF 'committeekeep2.ReviewsStay'. -/
def reviewsStayCard : Claim7 := { stood := { row := reviewsStayRow, standIns := [], harness := (true, "2f3303ebcc2a26e2662eec9b22af6aab9842d61c8a68403648c1889b432cde35"), looks := true }, kinds := [], alts := [], laidByText := true, laidKinds := [.data, .data, .data, .data, .sentinel, .sentinel, .pinned], laidTests := true, laidLooks := .later }
def ReviewsStayCardSaid : Prop := Claim7.holds Tryz.pinned (.plain (OpenSpec.ofChange reviewsStaySpec)) reviewsStayCard

/-- THE TIED CARD OF 'committeekeep2.ReviewsMeet'. -/
def reviewsMeetCard : Claim7 := { stood := { row := reviewsMeetRow, standIns := [], harness := (true, "2f3303ebcc2a26e2662eec9b22af6aab9842d61c8a68403648c1889b432cde35"), looks := true }, kinds := [], alts := [], laidByText := true, laidKinds := [.data, .data, .data, .data, .sentinel, .sentinel, .pinned], laidTests := true, laidLooks := .later }
def ReviewsMeetCardSaid : Prop := Claim7.holds Tryz.pinned (.plain (OpenSpec.ofChange reviewsMeetSpec)) reviewsMeetCard

/-- THE TIED CARD OF 'committeekeep2.AuthorsSeeNoNames'. -/
def authorsSeeNoNamesCard : Claim7 := { stood := { row := authorsSeeNoNamesRow, standIns := [], harness := (true, "2f3303ebcc2a26e2662eec9b22af6aab9842d61c8a68403648c1889b432cde35"), looks := true }, kinds := [], alts := [], laidByText := true, laidKinds := [.data, .data, .data, .data, .sentinel, .sentinel, .pinned], laidTests := true, laidLooks := .later }
def AuthorsSeeNoNamesCardSaid : Prop := Claim7.holds Tryz.pinned (.plain (OpenSpec.ofChange authorsSeeNoNamesSpec)) authorsSeeNoNamesCard

/-- THE TIED CARD OF 'committeekeep2.ReviewsAreKept'. -/
def reviewsAreKeptCard : Claim7 := { stood := { row := reviewsAreKeptRow, standIns := [], harness := (true, "2f3303ebcc2a26e2662eec9b22af6aab9842d61c8a68403648c1889b432cde35"), looks := true }, kinds := [], alts := [], laidByText := true, laidKinds := [.data, .data, .data, .data, .sentinel, .sentinel, .pinned], laidTests := true, laidLooks := .later }
def ReviewsAreKeptCardSaid : Prop := Claim7.holds Tryz.pinned (.plain (OpenSpec.ofChange reviewsAreKeptSpec)) reviewsAreKeptCard

/-- THE SECOND FORM's CARD OF 'committeekeep2.ReviewsStay'. -/
def reviewsStayUptoCard : Claim7 := { stood := { row := reviewsStayUptoRow, standIns := [], harness := (true, "2f3303ebcc2a26e2662eec9b22af6aab9842d61c8a68403648c1889b432cde35"), looks := true }, kinds := [], alts := [], laidByText := true, laidKinds := [.data, .data, .data, .data, .sentinel, .sentinel, .pinned], laidTests := true, laidLooks := .later }
def ReviewsStayUptoCardSaid : Prop := Claim7.holds Tryz.pinned (.plain (OpenSpec.upto reviewsStaySpec)) reviewsStayUptoCard

/-- THE SECOND FORM's CARD OF 'committeekeep2.ReviewsMeet'. -/
def reviewsMeetUptoCard : Claim7 := { stood := { row := reviewsMeetUptoRow, standIns := [], harness := (true, "2f3303ebcc2a26e2662eec9b22af6aab9842d61c8a68403648c1889b432cde35"), looks := true }, kinds := [], alts := [], laidByText := true, laidKinds := [.data, .data, .data, .data, .sentinel, .sentinel, .pinned], laidTests := true, laidLooks := .later }
def ReviewsMeetUptoCardSaid : Prop := Claim7.holds Tryz.pinned (.plain (OpenSpec.upto reviewsMeetSpec)) reviewsMeetUptoCard

/-- THE SECOND FORM's CARD OF 'committeekeep2.AuthorsSeeNoNames'. -/
def authorsSeeNoNamesUptoCard : Claim7 := { stood := { row := authorsSeeNoNamesUptoRow, standIns := [], harness := (true, "2f3303ebcc2a26e2662eec9b22af6aab9842d61c8a68403648c1889b432cde35"), looks := true }, kinds := [], alts := [], laidByText := true, laidKinds := [.data, .data, .data, .data, .sentinel, .sentinel, .pinned], laidTests := true, laidLooks := .later }
def AuthorsSeeNoNamesUptoCardSaid : Prop := Claim7.holds Tryz.pinned (.plain (OpenSpec.upto authorsSeeNoNamesSpec)) authorsSeeNoNamesUptoCard

/-- THE SECOND FORM's CARD OF 'committeekeep2.ReviewsAreKept'. -/
def reviewsAreKeptUptoCard : Claim7 := { stood := { row := reviewsAreKeptUptoRow, standIns := [], harness := (true, "2f3303ebcc2a26e2662eec9b22af6aab9842d61c8a68403648c1889b432cde35"), looks := true }, kinds := [], alts := [], laidByText := true, laidKinds := [.data, .data, .data, .data, .sentinel, .sentinel, .pinned], laidTests := true, laidLooks := .later }
def ReviewsAreKeptUptoCardSaid : Prop := Claim7.holds Tryz.pinned (.plain (OpenSpec.upto reviewsAreKeptSpec)) reviewsAreKeptUptoCard
end Rows
end Go.Proofs.YtecggjfjafnepaaGreatDoor
