/- AX, part 22: from a state of the walk to the evaluator. -/
import Derived.Test.YtecggjfjafnepaaGreatDoorAx21
set_option linter.unusedSimpArgs false
set_option linter.unusedVariables false
namespace Go.AX
open Go

end Go.AX

namespace Go.AX
open Go
section
variable {P : Program} {ops : Array Oper} {i : Nat} {o : Oper} {rest : List Oper} {st : St} {K : St → Prop} {tr : List Tr} {KT : St → List Tr → Prop}
/-- A guard that is not decided. -/
theorem stepB_split {b q : Bool} (h1 : q = true → stepB P ops i o rest st K b (some true)) (h2 : q = false → stepB P ops i o rest st K b (some false)) : stepB P ops i o rest st K b (some q) := by
 cases q
 ·exact h2 rfl
 ·exact h1 rfl
theorem stepBT_split {b q : Bool} (h1 : q = true → stepBT P ops i o rest st tr KT b (some true)) (h2 : q = false → stepBT P ops i o rest st tr KT b (some false)) : stepBT P ops i o rest st tr KT b (some q) := by
 cases q
 ·exact h2 rfl
 ·exact h1 rfl
end
end Go.AX
