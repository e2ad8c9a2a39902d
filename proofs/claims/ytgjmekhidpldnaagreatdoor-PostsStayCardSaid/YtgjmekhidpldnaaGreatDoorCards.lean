/-
  DERIVED. GIVEN WITH THE SEED: THE CARDS: each row of YtgjmekhidpldnaaGreatDoorRows.lean that lists a variable, with what it lists TIED to the program's text (the seventh form; the later family's looks); each row that meets fmt, with fmt's text TOLD by the authors' own Lean function (tested against real Go, not proved from fmt's source: count such statements apart). THE CARD IS WHAT COUNTS. Prove the row's statement (the work); the ties are given (YtgjmekhidpldnaaGreatDoorTie.lean); close each card by the builder's one call (the guide's Derived/Test/ToyasCard.lean, 'card_holds'). Laid BY PROGRAM, IN A SANDBOX (cutbox-door.mjs). By AI agents, Wed Nov 11 2026. No macro, syntax, notation, axiom, sorry.
-/
import Derived.Test.YtgjmekhidpldnaaGreatDoorRows
import GoSem.ClaimSeven
namespace Go.Proofs.YtgjmekhidpldnaaGreatDoor
namespace Rows

/-- THE TIED CARD OF 'committeekeep2.PostsStay'. -/
def postsStayCard : Claim7 := { stood := { row := postsStayRow, standIns := [], harness := (true, "34d48ae31585eec43e036c944dbd1058e5ca08fa19adfd23f8dce625b264e98e"), looks := true }, kinds := [], alts := [], laidByText := true, laidKinds := [.data, .data, .data, .data, .sentinel, .sentinel, .pinned], laidTests := true, laidLooks := .later }
def PostsStayCardSaid : Prop := Claim7.holds Tryz.pinned (.plain (OpenSpec.ofChange postsStaySpec)) postsStayCard

/-- THE TIED CARD OF 'committeekeep2.BoardsAreKept'. -/
def boardsAreKeptCard : Claim7 := { stood := { row := boardsAreKeptRow, standIns := [], harness := (true, "34d48ae31585eec43e036c944dbd1058e5ca08fa19adfd23f8dce625b264e98e"), looks := true }, kinds := [], alts := [], laidByText := true, laidKinds := [.data, .data, .data, .data, .sentinel, .sentinel, .pinned], laidTests := true, laidLooks := .later }
def BoardsAreKeptCardSaid : Prop := Claim7.holds Tryz.pinned (.plain (OpenSpec.ofChange boardsAreKeptSpec)) boardsAreKeptCard

/-- THE SECOND FORM's CARD OF 'committeekeep2.PostsStay'. -/
def postsStayUptoCard : Claim7 := { stood := { row := postsStayUptoRow, standIns := [], harness := (true, "34d48ae31585eec43e036c944dbd1058e5ca08fa19adfd23f8dce625b264e98e"), looks := true }, kinds := [], alts := [], laidByText := true, laidKinds := [.data, .data, .data, .data, .sentinel, .sentinel, .pinned], laidTests := true, laidLooks := .later }
def PostsStayUptoCardSaid : Prop := Claim7.holds Tryz.pinned (.plain (OpenSpec.upto postsStaySpec)) postsStayUptoCard

/-- THE SECOND FORM's CARD OF 'committeekeep2.BoardsAreKept'. -/
def boardsAreKeptUptoCard : Claim7 := { stood := { row := boardsAreKeptUptoRow, standIns := [], harness := (true, "34d48ae31585eec43e036c944dbd1058e5ca08fa19adfd23f8dce625b264e98e"), looks := true }, kinds := [], alts := [], laidByText := true, laidKinds := [.data, .data, .data, .data, .sentinel, .sentinel, .pinned], laidTests := true, laidLooks := .later }
def BoardsAreKeptUptoCardSaid : Prop := Claim7.holds Tryz.pinned (.plain (OpenSpec.upto boardsAreKeptSpec)) boardsAreKeptUptoCard
end Rows
end Go.Proofs.YtgjmekhidpldnaaGreatDoor
