/-
  PROVED (the tied card): for every list of numbers the Go function committeekeep2.WorldsStay returns true, and its argument reads afterwards as it read before. What the row lists of package-level variables is tied to the program's text by the given tie.
-/
import Derived.Test.YtcjdlbdoffchfaaGreatDoorCards
import Derived.Test.YtcjdlbdoffchfaaGreatDoorTie
import Derived.Test.YtcjdlbdoffchfaaGreatDoorAx30
import Derived.WalkKit
import Derived.ProofKit
import Derived.OpenShut
import Derived.ChangeOld
import Derived.Below
import Derived.Deep.DeepHandedRow
set_option linter.unusedSimpArgs false
set_option linter.unusedVariables false
namespace Go.Proofs.YtcjdlbdoffchfaaGreatDoor.worldsStay
open Go.ChangeShapes Go.WideShapes Go.ChangeAt Go.RowKit

/-- The facts of the row. -/
theorem closed : joinedFacts Tryz.pinned.checked.prog 3 Tryz.f3 (OpenSpec.ofChange Rows.worldsStaySpec).bare Rows.worldsStayRow = true := by kernel_rfl
end Go.Proofs.YtcjdlbdoffchfaaGreatDoor.worldsStay
