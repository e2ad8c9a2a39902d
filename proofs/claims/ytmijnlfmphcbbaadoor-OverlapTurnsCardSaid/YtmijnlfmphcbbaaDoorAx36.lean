/- AX, part 36: a nil slice in a cell of a box becomes an empty slice of one's own. -/
import Derived.Test.YtmijnlfmphcbbaaDoorAx35
set_option linter.unusedSimpArgs false
set_option linter.unusedVariables false
namespace Go.AX
open Go Go.RowKit
end Go.AX
