/-
  PROVED (the tied card): for every list of numbers the Go function committeekeep2.MoreTimeMoreSeen returns true, and its argument reads afterwards as it read before. What the row lists of package-level variables is tied to the program's text by the given tie.
-/
import Derived.Test.YtlejkdigdkeocaaGreatDoorCards
import Derived.Test.YtlejkdigdkeocaaGreatDoorTie
import Derived.Test.YtlejkdigdkeocaaGreatDoorAx30
import Derived.WalkKit
import Derived.ProofKit
import Derived.OpenShut
import Derived.ChangeOld
import Derived.Below
import Derived.Deep.DeepHandedRow
set_option linter.unusedSimpArgs false
set_option linter.unusedVariables false
namespace Go.Proofs.YtlejkdigdkeocaaGreatDoor.moreTimeMoreSeen
open Go.ChangeShapes Go.WideShapes Go.ChangeAt Go.RowKit

theorem r1 : (Rows.moreTimeMoreSeenRow.inPlace == Program.inPlace Tryz.pinned.checked.prog 3) = true := by kernel_rfl
theorem r2 : (Rows.moreTimeMoreSeenRow.unfollowed == Program.unfollowed Tryz.pinned.checked.prog 3) = true := by kernel_rfl
theorem r3 : (Rows.moreTimeMoreSeenRow.recurses == Program.recurses Tryz.pinned.checked.prog 3) = true := by kernel_rfl
theorem r4 : (Rows.moreTimeMoreSeenRow.named == Program.varsNamed Tryz.pinned.checked.prog 3) = true := by kernel_rfl
end Go.Proofs.YtlejkdigdkeocaaGreatDoor.moreTimeMoreSeen
