/- A forest. -/
import Derived.Test.YtifkocckeedgkaaGreatDoorAB
set_option linter.unusedSimpArgs false
set_option linter.unusedVariables false
set_option maxRecDepth 1000000
namespace Go.AX
open Go Go.Proofs
abbrev ft1 : List (Str × Str) := [(sArt, []), (sBread, []), (sCake, sBread), (sDark, sRye), (sRolls, sBread), (sRye, sBread)]
theorem c1_1 : chk1 Tryz.prog ft1 = true := by kernel_rfl
theorem c2_1 : chk2 Tryz.prog ft1 = true := by kernel_rfl
theorem c3_1 : chk3 Tryz.prog ft1 = true := by kernel_rfl
theorem fk1 : FoK ft1 (nearV Tryz.prog ft1) := FoK.of (by simp) (by simp) c1_1 c2_1 c3_1
end Go.AX

namespace Go.AX
open Go Go.Proofs
abbrev ft2 : List (Str × Str) := [(sArt, []), (sBread, []), (sCake, sBread), (sDark, sRye), (sRolls, sBread), (sRye, sRolls)]
theorem c1_2 : chk1 Tryz.prog ft2 = true := by kernel_rfl
theorem c2_2 : chk2 Tryz.prog ft2 = true := by kernel_rfl
theorem c3_2 : chk3 Tryz.prog ft2 = true := by kernel_rfl
theorem fk2 : FoK ft2 (nearV Tryz.prog ft2) := FoK.of (by simp) (by simp) c1_2 c2_2 c3_2
end Go.AX

namespace Go.AX
open Go Go.Proofs
abbrev ft3 : List (Str × Str) := [(sArt, []), (sBread, []), (sCake, sBread), (sDark, sRye), (sRolls, sBread), (sRye, [])]
theorem c1_3 : chk1 Tryz.prog ft3 = true := by kernel_rfl
theorem c2_3 : chk2 Tryz.prog ft3 = true := by kernel_rfl
theorem c3_3 : chk3 Tryz.prog ft3 = true := by kernel_rfl
theorem fk3 : FoK ft3 (nearV Tryz.prog ft3) := FoK.of (by simp) (by simp) c1_3 c2_3 c3_3
end Go.AX

namespace Go.AX
open Go Go.Proofs
abbrev ft4 : List (Str × Str) := [(sArt, []), (sBread, []), (sCake, sBread), (sDark, sRye), (sRolls, sArt), (sRye, sBread)]
theorem c1_4 : chk1 Tryz.prog ft4 = true := by kernel_rfl
theorem c2_4 : chk2 Tryz.prog ft4 = true := by kernel_rfl
theorem c3_4 : chk3 Tryz.prog ft4 = true := by kernel_rfl
theorem fk4 : FoK ft4 (nearV Tryz.prog ft4) := FoK.of (by simp) (by simp) c1_4 c2_4 c3_4
end Go.AX
