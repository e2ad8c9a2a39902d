/-
  PROVED (the tied card): for every list of numbers the Go function committeekeep2.MoreTimeMoreSeen returns true, and its argument reads afterwards as it read before. What the row lists of package-level variables is tied to the program's text by the given tie.
-/
import Derived.Test.YtlejkdigdkeocaaGreatDoorCards
import Derived.Test.YtlejkdigdkeocaaGreatDoorPMoreR
import Derived.Test.YtlejkdigdkeocaaGreatDoorTie
import Derived.Test.YtlejkdigdkeocaaGreatDoorAx30
import Derived.WalkKit
import Derived.ProofKit
import Derived.OpenShut
import Derived.ChangeOld
import Derived.Below
import Derived.Deep.DeepHandedRow
set_option linter.unusedSimpArgs false
set_option linter.unusedVariables false
namespace Go.Proofs.YtlejkdigdkeocaaGreatDoor.moreTimeMoreSeen
open Go.ChangeShapes Go.WideShapes Go.ChangeAt Go.RowKit

/-- The facts of the row. -/
theorem closed : joinedFacts Tryz.pinned.checked.prog 3 Tryz.f3 (OpenSpec.ofChange Rows.moreTimeMoreSeenSpec).bare Rows.moreTimeMoreSeenRow = true := by
  unfold joinedFacts
  rw [r1, r2, r3, r4]
  kernel_rfl
end Go.Proofs.YtlejkdigdkeocaaGreatDoor.moreTimeMoreSeen
