/- A forest. -/
import Derived.Test.YtafkgameionciaaDoorTB
set_option linter.unusedSimpArgs false
set_option linter.unusedVariables false
set_option maxRecDepth 1000000
namespace Go.AX
open Go Go.Proofs
abbrev ft16 : List (Str × Str) := [(sArt, []), (sBread, []), (sCake, sBread), (sDark, []), (sRolls, sArt), (sRye, sBread)]
theorem c1_16 : chk1 Tryd.prog ft16 = true := by kernel_rfl
theorem c2_16 : chk2 Tryd.prog ft16 = true := by kernel_rfl
theorem c3_16 : chk3 Tryd.prog ft16 = true := by kernel_rfl
theorem fk16 : FoK ft16 (nearV Tryd.prog ft16) := FoK.of (by simp) (by simp) c1_16 c2_16 c3_16
end Go.AX

namespace Go.AX
open Go Go.Proofs
abbrev ft17 : List (Str × Str) := [(sArt, []), (sBread, []), (sCake, sBread), (sDark, []), (sRolls, sArt), (sRye, sRolls)]
theorem c1_17 : chk1 Tryd.prog ft17 = true := by kernel_rfl
theorem c2_17 : chk2 Tryd.prog ft17 = true := by kernel_rfl
theorem c3_17 : chk3 Tryd.prog ft17 = true := by kernel_rfl
theorem fk17 : FoK ft17 (nearV Tryd.prog ft17) := FoK.of (by simp) (by simp) c1_17 c2_17 c3_17
end Go.AX

namespace Go.AX
open Go Go.Proofs
abbrev ft18 : List (Str × Str) := [(sArt, []), (sBread, []), (sCake, sBread), (sDark, []), (sRolls, sArt), (sRye, [])]
theorem c1_18 : chk1 Tryd.prog ft18 = true := by kernel_rfl
theorem c2_18 : chk2 Tryd.prog ft18 = true := by kernel_rfl
theorem c3_18 : chk3 Tryd.prog ft18 = true := by kernel_rfl
theorem fk18 : FoK ft18 (nearV Tryd.prog ft18) := FoK.of (by simp) (by simp) c1_18 c2_18 c3_18
end Go.AX
