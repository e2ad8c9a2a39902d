/- A forest. -/
import Derived.Test.YtafkgameionciaaDoorTB
set_option linter.unusedSimpArgs false
set_option linter.unusedVariables false
set_option maxRecDepth 1000000
namespace Go.AX
open Go Go.Proofs
abbrev ft7 : List (Str × Str) := [(sArt, []), (sBread, []), (sCake, sBread), (sDark, sBread), (sRolls, sBread), (sRye, sBread)]
theorem c1_7 : chk1 Tryd.prog ft7 = true := by kernel_rfl
theorem c2_7 : chk2 Tryd.prog ft7 = true := by kernel_rfl
theorem c3_7 : chk3 Tryd.prog ft7 = true := by kernel_rfl
theorem fk7 : FoK ft7 (nearV Tryd.prog ft7) := FoK.of (by simp) (by simp) c1_7 c2_7 c3_7
end Go.AX

namespace Go.AX
open Go Go.Proofs
abbrev ft8 : List (Str × Str) := [(sArt, []), (sBread, []), (sCake, sBread), (sDark, sBread), (sRolls, sBread), (sRye, sRolls)]
theorem c1_8 : chk1 Tryd.prog ft8 = true := by kernel_rfl
theorem c2_8 : chk2 Tryd.prog ft8 = true := by kernel_rfl
theorem c3_8 : chk3 Tryd.prog ft8 = true := by kernel_rfl
theorem fk8 : FoK ft8 (nearV Tryd.prog ft8) := FoK.of (by simp) (by simp) c1_8 c2_8 c3_8
end Go.AX

namespace Go.AX
open Go Go.Proofs
abbrev ft9 : List (Str × Str) := [(sArt, []), (sBread, []), (sCake, sBread), (sDark, sBread), (sRolls, sBread), (sRye, [])]
theorem c1_9 : chk1 Tryd.prog ft9 = true := by kernel_rfl
theorem c2_9 : chk2 Tryd.prog ft9 = true := by kernel_rfl
theorem c3_9 : chk3 Tryd.prog ft9 = true := by kernel_rfl
theorem fk9 : FoK ft9 (nearV Tryd.prog ft9) := FoK.of (by simp) (by simp) c1_9 c2_9 c3_9
end Go.AX
