/-
  DERIVED. GIVEN WITH THE SEED: THE CARDS: each row of YtmcchfkclhpbhaaGreatDoorRows.lean that lists a variable, with what it lists TIED to the program's text (the seventh form; the later family's looks); each row that meets fmt, with fmt's text TOLD by the authors' own Lean function (tested against real Go, not proved from fmt's source: count such statements apart). THE CARD IS WHAT COUNTS. Prove the row's statement (the work); the ties are given (YtmcchfkclhpbhaaGreatDoorTie.lean); close each card by the builder's one call (the guide's Derived/Test/ToyasCard.lean, 'card_holds'). Laid BY PROGRAM, IN A SANDBOX (cutbox-door.mjs). By AI agents, Wed Nov 11 2026. No macro, syntax, notation, axiom, sorry.
-/
import Derived.Test.YtmcchfkclhpbhaaGreatDoorRows
import GoSem.ClaimSeven
namespace Go.Proofs.YtmcchfkclhpbhaaGreatDoor
namespace Rows

/-- THE TIED CARD OF 'committeekeep1.AgreeWholly'. -/
def agreeWhollyCard : Claim7 := { stood := { row := agreeWhollyRow, standIns := [], harness := (true, "e07ad322473847e30e8e171b13dc77b09413fe9b88e32f37a51d74f8c019302e"), looks := false }, kinds := [], alts := [], laidByText := true, laidKinds := [.data, .pinned], laidTests := true, laidLooks := .later }
def AgreeWhollyCardSaid : Prop := Claim7.holds Tryz.pinned (.plain (OpenSpec.ofChange agreeWhollySpec)) agreeWhollyCard

/-- THE TIED CARD OF 'committeekeep1.MarksStay'. -/
def marksStayCard : Claim7 := { stood := { row := marksStayRow, standIns := [], harness := (true, "e07ad322473847e30e8e171b13dc77b09413fe9b88e32f37a51d74f8c019302e"), looks := false }, kinds := [], alts := [], laidByText := true, laidKinds := [.data, .pinned], laidTests := true, laidLooks := .later }
def MarksStayCardSaid : Prop := Claim7.holds Tryz.pinned (.plain (OpenSpec.ofChange marksStaySpec)) marksStayCard

/-- THE TIED CARD OF 'committeekeep1.PlacesHold'. -/
def placesHoldCard : Claim7 := { stood := { row := placesHoldRow, standIns := [], harness := (true, "e07ad322473847e30e8e171b13dc77b09413fe9b88e32f37a51d74f8c019302e"), looks := false }, kinds := [], alts := [], laidByText := true, laidKinds := [.data, .pinned], laidTests := true, laidLooks := .later }
def PlacesHoldCardSaid : Prop := Claim7.holds Tryz.pinned (.plain (OpenSpec.ofChange placesHoldSpec)) placesHoldCard

/-- THE TIED CARD OF 'committeekeep1.WinnersAreFirst'. -/
def winnersAreFirstCard : Claim7 := { stood := { row := winnersAreFirstRow, standIns := [], harness := (true, "e07ad322473847e30e8e171b13dc77b09413fe9b88e32f37a51d74f8c019302e"), looks := false }, kinds := [], alts := [], laidByText := true, laidKinds := [.data, .pinned], laidTests := true, laidLooks := .later }
def WinnersAreFirstCardSaid : Prop := Claim7.holds Tryz.pinned (.plain (OpenSpec.ofChange winnersAreFirstSpec)) winnersAreFirstCard

/-- THE SECOND FORM's CARD OF 'committeekeep1.AgreeWholly'. -/
def agreeWhollyUptoCard : Claim7 := { stood := { row := agreeWhollyUptoRow, standIns := [], harness := (true, "e07ad322473847e30e8e171b13dc77b09413fe9b88e32f37a51d74f8c019302e"), looks := false }, kinds := [], alts := [], laidByText := true, laidKinds := [.data, .pinned], laidTests := true, laidLooks := .later }
def AgreeWhollyUptoCardSaid : Prop := Claim7.holds Tryz.pinned (.plain (OpenSpec.upto agreeWhollySpec)) agreeWhollyUptoCard

/-- THE SECOND FORM's CARD OF 'committeekeep1.MarksStay'. -/
def marksStayUptoCard : Claim7 := { stood := { row := marksStayUptoRow, standIns := [], harness := (true, "e07ad322473847e30e8e171b13dc77b09413fe9b88e32f37a51d74f8c019302e"), looks := false }, kinds := [], alts := [], laidByText := true, laidKinds := [.data, .pinned], laidTests := true, laidLooks := .later }
def MarksStayUptoCardSaid : Prop := Claim7.holds Tryz.pinned (.plain (OpenSpec.upto marksStaySpec)) marksStayUptoCard

/-- THE SECOND FORM's CARD OF 'committeekeep1.PlacesHold'. -/
def placesHoldUptoCard : Claim7 := { stood := { row := placesHoldUptoRow, standIns := [], harness := (true, "e07ad322473847e30e8e171b13dc77b09413fe9b88e32f37a51d74f8c019302e"), looks := false }, kinds := [], alts := [], laidByText := true, laidKinds := [.data, .pinned], laidTests := true, laidLooks := .later }
def PlacesHoldUptoCardSaid : Prop := Claim7.holds Tryz.pinned (.plain (OpenSpec.upto placesHoldSpec)) placesHoldUptoCard

/-- THE SECOND FORM's CARD OF 'committeekeep1.WinnersAreFirst'. -/
def winnersAreFirstUptoCard : Claim7 := { stood := { row := winnersAreFirstUptoRow, standIns := [], harness := (true, "e07ad322473847e30e8e171b13dc77b09413fe9b88e32f37a51d74f8c019302e"), looks := false }, kinds := [], alts := [], laidByText := true, laidKinds := [.data, .pinned], laidTests := true, laidLooks := .later }
def WinnersAreFirstUptoCardSaid : Prop := Claim7.holds Tryz.pinned (.plain (OpenSpec.upto winnersAreFirstSpec)) winnersAreFirstUptoCard
end Rows
end Go.Proofs.YtmcchfkclhpbhaaGreatDoor
