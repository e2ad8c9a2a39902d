/- A forest. -/
import Derived.Test.YtifkocckeedgkaaGreatDoorAB
set_option linter.unusedSimpArgs false
set_option linter.unusedVariables false
set_option maxRecDepth 1000000
namespace Go.AX
open Go Go.Proofs
abbrev ft5 : List (Str × Str) := [(sArt, []), (sBread, []), (sCake, sBread), (sDark, sRye), (sRolls, sArt), (sRye, sRolls)]
theorem c1_5 : chk1 Tryz.prog ft5 = true := by kernel_rfl
theorem c2_5 : chk2 Tryz.prog ft5 = true := by kernel_rfl
theorem c3_5 : chk3 Tryz.prog ft5 = true := by kernel_rfl
theorem fk5 : FoK ft5 (nearV Tryz.prog ft5) := FoK.of (by simp) (by simp) c1_5 c2_5 c3_5
end Go.AX

namespace Go.AX
open Go Go.Proofs
abbrev ft6 : List (Str × Str) := [(sArt, []), (sBread, []), (sCake, sBread), (sDark, sRye), (sRolls, sArt), (sRye, [])]
theorem c1_6 : chk1 Tryz.prog ft6 = true := by kernel_rfl
theorem c2_6 : chk2 Tryz.prog ft6 = true := by kernel_rfl
theorem c3_6 : chk3 Tryz.prog ft6 = true := by kernel_rfl
theorem fk6 : FoK ft6 (nearV Tryz.prog ft6) := FoK.of (by simp) (by simp) c1_6 c2_6 c3_6
end Go.AX

namespace Go.AX
open Go Go.Proofs
abbrev ft7 : List (Str × Str) := [(sArt, []), (sBread, []), (sCake, sBread), (sDark, sBread), (sRolls, sBread), (sRye, sBread)]
theorem c1_7 : chk1 Tryz.prog ft7 = true := by kernel_rfl
theorem c2_7 : chk2 Tryz.prog ft7 = true := by kernel_rfl
theorem c3_7 : chk3 Tryz.prog ft7 = true := by kernel_rfl
theorem fk7 : FoK ft7 (nearV Tryz.prog ft7) := FoK.of (by simp) (by simp) c1_7 c2_7 c3_7
end Go.AX

namespace Go.AX
open Go Go.Proofs
abbrev ft8 : List (Str × Str) := [(sArt, []), (sBread, []), (sCake, sBread), (sDark, sBread), (sRolls, sBread), (sRye, sRolls)]
theorem c1_8 : chk1 Tryz.prog ft8 = true := by kernel_rfl
theorem c2_8 : chk2 Tryz.prog ft8 = true := by kernel_rfl
theorem c3_8 : chk3 Tryz.prog ft8 = true := by kernel_rfl
theorem fk8 : FoK ft8 (nearV Tryz.prog ft8) := FoK.of (by simp) (by simp) c1_8 c2_8 c3_8
end Go.AX
