/- Keys. -/
import Derived.Test.YtafkgameionciaaDoorB
set_option linter.unusedSimpArgs false
set_option linter.unusedVariables false
set_option maxRecDepth 1000000
namespace Go.AX
open Go Go.Proofs
def tKeys : List (Nat × List V × V) := [
  (58, [.d (.str [97, 114, 116])], .d (.bool true)),
  (89, [.d (.str [97, 114, 116])], .d (.bool true)),
  (58, [.d (.str [98, 114, 101, 97, 100])], .d (.bool true)),
  (89, [.d (.str [98, 114, 101, 97, 100])], .d (.bool true)),
  (58, [.d (.str [99, 97, 107, 101])], .d (.bool true)),
  (89, [.d (.str [99, 97, 107, 101])], .d (.bool true)),
  (58, [.d (.str [100, 97, 114, 107])], .d (.bool true)),
  (89, [.d (.str [100, 97, 114, 107])], .d (.bool true)),
  (58, [.d (.str [114, 111, 108, 108, 115])], .d (.bool true)),
  (89, [.d (.str [114, 111, 108, 108, 115])], .d (.bool true)),
  (58, [.d (.str [114, 121, 101])], .d (.bool true)),
  (89, [.d (.str [114, 121, 101])], .d (.bool true))]
def zNear : List Nat := [64, 23]
theorem tKeys_ok : TblOk Tryd.prog tKeys := runTbl_ok (z := zNear) TblOk.nil hmix (by kernel_rfl)
end Go.AX
