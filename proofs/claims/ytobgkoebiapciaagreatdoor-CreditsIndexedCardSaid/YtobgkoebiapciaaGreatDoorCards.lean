/-
  DERIVED. GIVEN WITH THE SEED: THE CARDS: each row of YtobgkoebiapciaaGreatDoorRows.lean that lists a variable, with what it lists TIED to the program's text (the seventh form; the later family's looks); each row that meets fmt, with fmt's text TOLD by the authors' own Lean function (tested against real Go, not proved from fmt's source: count such statements apart). THE CARD IS WHAT COUNTS. Prove the row's statement (the work); the ties are given (YtobgkoebiapciaaGreatDoorTie.lean); close each card by the builder's one call (the guide's Derived/Test/ToyasCard.lean, 'card_holds'). Laid BY PROGRAM, IN A SANDBOX (cutbox-door.mjs). By AI agents, Wed Nov 11 2026. No macro, syntax, notation, axiom, sorry.
-/
import Derived.Test.YtobgkoebiapciaaGreatDoorRows
import GoSem.ClaimSeven
namespace Go.Proofs.YtobgkoebiapciaaGreatDoor
namespace Rows

/-- THE TIED CARD OF 'committeekeep2.VotesAddUp'. -/
def votesAddUpCard : Claim7 := { stood := { row := votesAddUpRow, standIns := [], harness := (true, "d9748922097315e7b286e99703e8da32ed8c5890bca03f75d762acb69fc8e852"), looks := true }, kinds := [], alts := [], laidByText := true, laidKinds := [.data, .data, .data, .data, .sentinel, .sentinel, .pinned], laidTests := true, laidLooks := .later }
def VotesAddUpCardSaid : Prop := Claim7.holds Tryz.pinned (.plain (OpenSpec.ofChange votesAddUpSpec)) votesAddUpCard

/-- THE TIED CARD OF 'committeekeep2.BallotsInAnyOrder'. -/
def ballotsInAnyOrderCard : Claim7 := { stood := { row := ballotsInAnyOrderRow, standIns := [], harness := (true, "d9748922097315e7b286e99703e8da32ed8c5890bca03f75d762acb69fc8e852"), looks := true }, kinds := [], alts := [], laidByText := true, laidKinds := [.data, .data, .data, .data, .sentinel, .sentinel, .pinned], laidTests := true, laidLooks := .later }
def BallotsInAnyOrderCardSaid : Prop := Claim7.holds Tryz.pinned (.plain (OpenSpec.ofChange ballotsInAnyOrderSpec)) ballotsInAnyOrderCard

/-- THE TIED CARD OF 'committeekeep2.BooksAreKept'. -/
def booksAreKeptCard : Claim7 := { stood := { row := booksAreKeptRow, standIns := [], harness := (true, "d9748922097315e7b286e99703e8da32ed8c5890bca03f75d762acb69fc8e852"), looks := true }, kinds := [], alts := [], laidByText := true, laidKinds := [.data, .data, .data, .data, .sentinel, .sentinel, .pinned], laidTests := true, laidLooks := .later }
def BooksAreKeptCardSaid : Prop := Claim7.holds Tryz.pinned (.plain (OpenSpec.ofChange booksAreKeptSpec)) booksAreKeptCard

/-- THE TIED CARD OF 'committeekeep2.CreditsIndexed'. -/
def creditsIndexedCard : Claim7 := { stood := { row := creditsIndexedRow, standIns := [], harness := (true, "d9748922097315e7b286e99703e8da32ed8c5890bca03f75d762acb69fc8e852"), looks := true }, kinds := [], alts := [], laidByText := true, laidKinds := [.data, .data, .data, .data, .sentinel, .sentinel, .pinned], laidTests := true, laidLooks := .later }
def CreditsIndexedCardSaid : Prop := Claim7.holds Tryz.pinned (.plain (OpenSpec.ofChange creditsIndexedSpec)) creditsIndexedCard

/-- THE SECOND FORM's CARD OF 'committeekeep2.VotesAddUp'. -/
def votesAddUpUptoCard : Claim7 := { stood := { row := votesAddUpUptoRow, standIns := [], harness := (true, "d9748922097315e7b286e99703e8da32ed8c5890bca03f75d762acb69fc8e852"), looks := true }, kinds := [], alts := [], laidByText := true, laidKinds := [.data, .data, .data, .data, .sentinel, .sentinel, .pinned], laidTests := true, laidLooks := .later }
def VotesAddUpUptoCardSaid : Prop := Claim7.holds Tryz.pinned (.plain (OpenSpec.upto votesAddUpSpec)) votesAddUpUptoCard

/-- THE SECOND FORM's CARD OF 'committeekeep2.BallotsInAnyOrder'. -/
def ballotsInAnyOrderUptoCard : Claim7 := { stood := { row := ballotsInAnyOrderUptoRow, standIns := [], harness := (true, "d9748922097315e7b286e99703e8da32ed8c5890bca03f75d762acb69fc8e852"), looks := true }, kinds := [], alts := [], laidByText := true, laidKinds := [.data, .data, .data, .data, .sentinel, .sentinel, .pinned], laidTests := true, laidLooks := .later }
def BallotsInAnyOrderUptoCardSaid : Prop := Claim7.holds Tryz.pinned (.plain (OpenSpec.upto ballotsInAnyOrderSpec)) ballotsInAnyOrderUptoCard

/-- THE SECOND FORM's CARD OF 'committeekeep2.BooksAreKept'. -/
def booksAreKeptUptoCard : Claim7 := { stood := { row := booksAreKeptUptoRow, standIns := [], harness := (true, "d9748922097315e7b286e99703e8da32ed8c5890bca03f75d762acb69fc8e852"), looks := true }, kinds := [], alts := [], laidByText := true, laidKinds := [.data, .data, .data, .data, .sentinel, .sentinel, .pinned], laidTests := true, laidLooks := .later }
def BooksAreKeptUptoCardSaid : Prop := Claim7.holds Tryz.pinned (.plain (OpenSpec.upto booksAreKeptSpec)) booksAreKeptUptoCard

/-- THE SECOND FORM's CARD OF 'committeekeep2.CreditsIndexed'. -/
def creditsIndexedUptoCard : Claim7 := { stood := { row := creditsIndexedUptoRow, standIns := [], harness := (true, "d9748922097315e7b286e99703e8da32ed8c5890bca03f75d762acb69fc8e852"), looks := true }, kinds := [], alts := [], laidByText := true, laidKinds := [.data, .data, .data, .data, .sentinel, .sentinel, .pinned], laidTests := true, laidLooks := .later }
def CreditsIndexedUptoCardSaid : Prop := Claim7.holds Tryz.pinned (.plain (OpenSpec.upto creditsIndexedSpec)) creditsIndexedUptoCard
end Rows
end Go.Proofs.YtobgkoebiapciaaGreatDoor
