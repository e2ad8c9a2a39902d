/- AX, part 34: families of objects. -/
import Derived.Test.YtmcchfkclhpbhaaGreatDoorAx32
set_option linter.unusedSimpArgs false
set_option linter.unusedVariables false
namespace Go.AX
open Go
section
variable {α : Type} {f : α → O}
end
section
variable {cx : Cx}
end
end Go.AX
