/-
  PROVED (the tied card): for every list of numbers the Go function committeekeep2.AuthorsSeeNoNames returns true, and its argument reads afterwards as it read before. What the row lists of package-level variables is tied to the program's text by the given tie.
-/
import Derived.Test.YtecggjfjafnepaaGreatDoorCards
import Derived.Test.YtecggjfjafnepaaGreatDoorTie
import Derived.Test.YtecggjfjafnepaaGreatDoorAx30
import Derived.WalkKit
import Derived.ProofKit
import Derived.OpenShut
import Derived.ChangeOld
import Derived.Below
import Derived.Deep.DeepHandedRow
set_option linter.unusedSimpArgs false
set_option linter.unusedVariables false
namespace Go.Proofs.YtecggjfjafnepaaGreatDoor.authorsSeeNoNames
open Go.ChangeShapes Go.WideShapes Go.ChangeAt Go.RowKit

theorem r1 : (Rows.authorsSeeNoNamesRow.inPlace == Program.inPlace Tryz.pinned.checked.prog 5) = true := by kernel_rfl
theorem r2 : (Rows.authorsSeeNoNamesRow.unfollowed == Program.unfollowed Tryz.pinned.checked.prog 5) = true := by kernel_rfl
theorem r3 : (Rows.authorsSeeNoNamesRow.recurses == Program.recurses Tryz.pinned.checked.prog 5) = true := by kernel_rfl
theorem r4 : (Rows.authorsSeeNoNamesRow.named == Program.varsNamed Tryz.pinned.checked.prog 5) = true := by kernel_rfl
end Go.Proofs.YtecggjfjafnepaaGreatDoor.authorsSeeNoNames

namespace Go.Proofs.YtecggjfjafnepaaGreatDoor.authorsSeeNoNames
open Go.ChangeShapes Go.WideShapes Go.ChangeAt Go.RowKit

/-- The facts of the row. -/
theorem closed : joinedFacts Tryz.pinned.checked.prog 5 Tryz.f5 (OpenSpec.ofChange Rows.authorsSeeNoNamesSpec).bare Rows.authorsSeeNoNamesRow = true := by
 unfold joinedFacts
 rw [r1, r2, r3, r4]
 kernel_rfl
end Go.Proofs.YtecggjfjafnepaaGreatDoor.authorsSeeNoNames

namespace Go.Proofs.YtecggjfjafnepaaGreatDoor.authorsSeeNoNames
open Go.ChangeShapes Go.WideShapes Go.ChangeAt Go.RowKit

theorem c3 : false = Rows.authorsSeeNoNamesRow.goesBy Tryz.pinned.checked.prog := by kernel_rfl
end Go.Proofs.YtecggjfjafnepaaGreatDoor.authorsSeeNoNames
