/- A forest. -/
import Derived.Test.YtifkocckeedgkaaGreatDoorAB
set_option linter.unusedSimpArgs false
set_option linter.unusedVariables false
set_option maxRecDepth 1000000
namespace Go.AX
open Go Go.Proofs
abbrev ft17 : List (Str × Str) := [(sArt, []), (sBread, []), (sCake, sBread), (sDark, []), (sRolls, sArt), (sRye, sRolls)]
theorem c1_17 : chk1 Tryz.prog ft17 = true := by kernel_rfl
theorem c2_17 : chk2 Tryz.prog ft17 = true := by kernel_rfl
theorem c3_17 : chk3 Tryz.prog ft17 = true := by kernel_rfl
theorem fk17 : FoK ft17 (nearV Tryz.prog ft17) := FoK.of (by simp) (by simp) c1_17 c2_17 c3_17
end Go.AX

namespace Go.AX
open Go Go.Proofs
abbrev ft18 : List (Str × Str) := [(sArt, []), (sBread, []), (sCake, sBread), (sDark, []), (sRolls, sArt), (sRye, [])]
theorem c1_18 : chk1 Tryz.prog ft18 = true := by kernel_rfl
theorem c2_18 : chk2 Tryz.prog ft18 = true := by kernel_rfl
theorem c3_18 : chk3 Tryz.prog ft18 = true := by kernel_rfl
theorem fk18 : FoK ft18 (nearV Tryz.prog ft18) := FoK.of (by simp) (by simp) c1_18 c2_18 c3_18
end Go.AX

namespace Go.AX
open Go Go.Proofs
abbrev ft19 : List (Str × Str) := []
theorem c1_19 : chk1 Tryz.prog ft19 = true := by kernel_rfl
theorem c2_19 : chk2 Tryz.prog ft19 = true := by kernel_rfl
theorem c3_19 : chk3 Tryz.prog ft19 = true := by kernel_rfl
theorem fk19 : FoK ft19 (nearV Tryz.prog ft19) := FoK.of (by simp) (by simp) c1_19 c2_19 c3_19
end Go.AX

namespace Go.AX
open Go Go.Proofs
abbrev ft20 : List (Str × Str) := [(sArt, [])]
theorem c1_20 : chk1 Tryz.prog ft20 = true := by kernel_rfl
theorem c2_20 : chk2 Tryz.prog ft20 = true := by kernel_rfl
theorem c3_20 : chk3 Tryz.prog ft20 = true := by kernel_rfl
theorem fk20 : FoK ft20 (nearV Tryz.prog ft20) := FoK.of (by simp) (by simp) c1_20 c2_20 c3_20
end Go.AX

namespace Go.AX
open Go Go.Proofs
abbrev ft21 : List (Str × Str) := [(sArt, []), (sBread, [])]
theorem c1_21 : chk1 Tryz.prog ft21 = true := by kernel_rfl
theorem c2_21 : chk2 Tryz.prog ft21 = true := by kernel_rfl
theorem c3_21 : chk3 Tryz.prog ft21 = true := by kernel_rfl
theorem fk21 : FoK ft21 (nearV Tryz.prog ft21) := FoK.of (by simp) (by simp) c1_21 c2_21 c3_21
end Go.AX
