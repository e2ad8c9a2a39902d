/- AX, part 22: from a state of the walk to the evaluator. -/
import Derived.Test.YtobgkoebiapciaaGreatDoorAx21
set_option linter.unusedSimpArgs false
set_option linter.unusedVariables false
namespace Go.AX
open Go

end Go.AX
