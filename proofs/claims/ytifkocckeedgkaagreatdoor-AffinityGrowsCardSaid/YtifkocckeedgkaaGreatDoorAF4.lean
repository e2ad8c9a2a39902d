/- A forest. -/
import Derived.Test.YtifkocckeedgkaaGreatDoorAB
set_option linter.unusedSimpArgs false
set_option linter.unusedVariables false
set_option maxRecDepth 1000000
namespace Go.AX
open Go Go.Proofs
abbrev ft13 : List (Str × Str) := [(sArt, []), (sBread, []), (sCake, sBread), (sDark, []), (sRolls, sBread), (sRye, sBread)]
theorem c1_13 : chk1 Tryz.prog ft13 = true := by kernel_rfl
theorem c2_13 : chk2 Tryz.prog ft13 = true := by kernel_rfl
theorem c3_13 : chk3 Tryz.prog ft13 = true := by kernel_rfl
theorem fk13 : FoK ft13 (nearV Tryz.prog ft13) := FoK.of (by simp) (by simp) c1_13 c2_13 c3_13
end Go.AX

namespace Go.AX
open Go Go.Proofs
abbrev ft14 : List (Str × Str) := [(sArt, []), (sBread, []), (sCake, sBread), (sDark, []), (sRolls, sBread), (sRye, sRolls)]
theorem c1_14 : chk1 Tryz.prog ft14 = true := by kernel_rfl
theorem c2_14 : chk2 Tryz.prog ft14 = true := by kernel_rfl
theorem c3_14 : chk3 Tryz.prog ft14 = true := by kernel_rfl
theorem fk14 : FoK ft14 (nearV Tryz.prog ft14) := FoK.of (by simp) (by simp) c1_14 c2_14 c3_14
end Go.AX

namespace Go.AX
open Go Go.Proofs
abbrev ft15 : List (Str × Str) := [(sArt, []), (sBread, []), (sCake, sBread), (sDark, []), (sRolls, sBread), (sRye, [])]
theorem c1_15 : chk1 Tryz.prog ft15 = true := by kernel_rfl
theorem c2_15 : chk2 Tryz.prog ft15 = true := by kernel_rfl
theorem c3_15 : chk3 Tryz.prog ft15 = true := by kernel_rfl
theorem fk15 : FoK ft15 (nearV Tryz.prog ft15) := FoK.of (by simp) (by simp) c1_15 c2_15 c3_15
end Go.AX

namespace Go.AX
open Go Go.Proofs
abbrev ft16 : List (Str × Str) := [(sArt, []), (sBread, []), (sCake, sBread), (sDark, []), (sRolls, sArt), (sRye, sBread)]
theorem c1_16 : chk1 Tryz.prog ft16 = true := by kernel_rfl
theorem c2_16 : chk2 Tryz.prog ft16 = true := by kernel_rfl
theorem c3_16 : chk3 Tryz.prog ft16 = true := by kernel_rfl
theorem fk16 : FoK ft16 (nearV Tryz.prog ft16) := FoK.of (by simp) (by simp) c1_16 c2_16 c3_16
end Go.AX
