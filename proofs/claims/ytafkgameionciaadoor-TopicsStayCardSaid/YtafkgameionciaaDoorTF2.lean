/- A forest. -/
import Derived.Test.YtafkgameionciaaDoorTB
set_option linter.unusedSimpArgs false
set_option linter.unusedVariables false
set_option maxRecDepth 1000000
namespace Go.AX
open Go Go.Proofs
abbrev ft4 : List (Str × Str) := [(sArt, []), (sBread, []), (sCake, sBread), (sDark, sRye), (sRolls, sArt), (sRye, sBread)]
theorem c1_4 : chk1 Tryd.prog ft4 = true := by kernel_rfl
theorem c2_4 : chk2 Tryd.prog ft4 = true := by kernel_rfl
theorem c3_4 : chk3 Tryd.prog ft4 = true := by kernel_rfl
theorem fk4 : FoK ft4 (nearV Tryd.prog ft4) := FoK.of (by simp) (by simp) c1_4 c2_4 c3_4
end Go.AX

namespace Go.AX
open Go Go.Proofs
abbrev ft5 : List (Str × Str) := [(sArt, []), (sBread, []), (sCake, sBread), (sDark, sRye), (sRolls, sArt), (sRye, sRolls)]
theorem c1_5 : chk1 Tryd.prog ft5 = true := by kernel_rfl
theorem c2_5 : chk2 Tryd.prog ft5 = true := by kernel_rfl
theorem c3_5 : chk3 Tryd.prog ft5 = true := by kernel_rfl
theorem fk5 : FoK ft5 (nearV Tryd.prog ft5) := FoK.of (by simp) (by simp) c1_5 c2_5 c3_5
end Go.AX

namespace Go.AX
open Go Go.Proofs
abbrev ft6 : List (Str × Str) := [(sArt, []), (sBread, []), (sCake, sBread), (sDark, sRye), (sRolls, sArt), (sRye, [])]
theorem c1_6 : chk1 Tryd.prog ft6 = true := by kernel_rfl
theorem c2_6 : chk2 Tryd.prog ft6 = true := by kernel_rfl
theorem c3_6 : chk3 Tryd.prog ft6 = true := by kernel_rfl
theorem fk6 : FoK ft6 (nearV Tryd.prog ft6) := FoK.of (by simp) (by simp) c1_6 c2_6 c3_6
end Go.AX
