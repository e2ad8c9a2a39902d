/- AX, part 27: a slice that may be nil, held against nil. -/
import Derived.Test.YtlejkdigdkeocaaGreatDoorAx25
set_option linter.unusedSimpArgs false
set_option linter.unusedVariables false
namespace Go.AX
open Go
section
variable {P : Program} {cx : Cx}
end
end Go.AX
