/- A forest. -/
import Derived.Test.YtifkocckeedgkaaGreatDoorAB
set_option linter.unusedSimpArgs false
set_option linter.unusedVariables false
set_option maxRecDepth 1000000
namespace Go.AX
open Go Go.Proofs
abbrev ft9 : List (Str × Str) := [(sArt, []), (sBread, []), (sCake, sBread), (sDark, sBread), (sRolls, sBread), (sRye, [])]
theorem c1_9 : chk1 Tryz.prog ft9 = true := by kernel_rfl
theorem c2_9 : chk2 Tryz.prog ft9 = true := by kernel_rfl
theorem c3_9 : chk3 Tryz.prog ft9 = true := by kernel_rfl
theorem fk9 : FoK ft9 (nearV Tryz.prog ft9) := FoK.of (by simp) (by simp) c1_9 c2_9 c3_9
end Go.AX

namespace Go.AX
open Go Go.Proofs
abbrev ft10 : List (Str × Str) := [(sArt, []), (sBread, []), (sCake, sBread), (sDark, sBread), (sRolls, sArt), (sRye, sBread)]
theorem c1_10 : chk1 Tryz.prog ft10 = true := by kernel_rfl
theorem c2_10 : chk2 Tryz.prog ft10 = true := by kernel_rfl
theorem c3_10 : chk3 Tryz.prog ft10 = true := by kernel_rfl
theorem fk10 : FoK ft10 (nearV Tryz.prog ft10) := FoK.of (by simp) (by simp) c1_10 c2_10 c3_10
end Go.AX

namespace Go.AX
open Go Go.Proofs
abbrev ft11 : List (Str × Str) := [(sArt, []), (sBread, []), (sCake, sBread), (sDark, sBread), (sRolls, sArt), (sRye, sRolls)]
theorem c1_11 : chk1 Tryz.prog ft11 = true := by kernel_rfl
theorem c2_11 : chk2 Tryz.prog ft11 = true := by kernel_rfl
theorem c3_11 : chk3 Tryz.prog ft11 = true := by kernel_rfl
theorem fk11 : FoK ft11 (nearV Tryz.prog ft11) := FoK.of (by simp) (by simp) c1_11 c2_11 c3_11
end Go.AX

namespace Go.AX
open Go Go.Proofs
abbrev ft12 : List (Str × Str) := [(sArt, []), (sBread, []), (sCake, sBread), (sDark, sBread), (sRolls, sArt), (sRye, [])]
theorem c1_12 : chk1 Tryz.prog ft12 = true := by kernel_rfl
theorem c2_12 : chk2 Tryz.prog ft12 = true := by kernel_rfl
theorem c3_12 : chk3 Tryz.prog ft12 = true := by kernel_rfl
theorem fk12 : FoK ft12 (nearV Tryz.prog ft12) := FoK.of (by simp) (by simp) c1_12 c2_12 c3_12
end Go.AX
