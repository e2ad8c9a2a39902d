/- AX, part 28: objects of one's own, lent. -/
import Derived.Test.YtmijnlfmphcbbaaDoorAx27
set_option linter.unusedSimpArgs false
set_option linter.unusedVariables false
namespace Go.AX
open Go
end Go.AX
