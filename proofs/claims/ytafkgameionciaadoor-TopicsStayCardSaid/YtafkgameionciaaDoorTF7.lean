/- A forest. -/
import Derived.Test.YtafkgameionciaaDoorTB
set_option linter.unusedSimpArgs false
set_option linter.unusedVariables false
set_option maxRecDepth 1000000
namespace Go.AX
open Go Go.Proofs
abbrev ft19 : List (Str × Str) := []
theorem c1_19 : chk1 Tryd.prog ft19 = true := by kernel_rfl
theorem c2_19 : chk2 Tryd.prog ft19 = true := by kernel_rfl
theorem c3_19 : chk3 Tryd.prog ft19 = true := by kernel_rfl
theorem fk19 : FoK ft19 (nearV Tryd.prog ft19) := FoK.of (by simp) (by simp) c1_19 c2_19 c3_19
end Go.AX

namespace Go.AX
open Go Go.Proofs
abbrev ft20 : List (Str × Str) := [(sArt, [])]
theorem c1_20 : chk1 Tryd.prog ft20 = true := by kernel_rfl
theorem c2_20 : chk2 Tryd.prog ft20 = true := by kernel_rfl
theorem c3_20 : chk3 Tryd.prog ft20 = true := by kernel_rfl
theorem fk20 : FoK ft20 (nearV Tryd.prog ft20) := FoK.of (by simp) (by simp) c1_20 c2_20 c3_20
end Go.AX

namespace Go.AX
open Go Go.Proofs
abbrev ft21 : List (Str × Str) := [(sArt, []), (sBread, [])]
theorem c1_21 : chk1 Tryd.prog ft21 = true := by kernel_rfl
theorem c2_21 : chk2 Tryd.prog ft21 = true := by kernel_rfl
theorem c3_21 : chk3 Tryd.prog ft21 = true := by kernel_rfl
theorem fk21 : FoK ft21 (nearV Tryd.prog ft21) := FoK.of (by simp) (by simp) c1_21 c2_21 c3_21
end Go.AX
