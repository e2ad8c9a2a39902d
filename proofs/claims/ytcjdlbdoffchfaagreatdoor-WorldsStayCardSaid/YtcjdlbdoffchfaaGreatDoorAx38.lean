/- AX, part 38: rows of one's own as a family, of any kind and length. -/
import Derived.Test.YtcjdlbdoffchfaaGreatDoorAx34
set_option linter.unusedSimpArgs false
set_option linter.unusedVariables false
namespace Go.AX
open Go
/-- How the rows of some elements lie: the row, its type and size, the element's value. -/
structure RowS (γ : Type) where
  row : γ → List D
  e : TypeId
  s : Nat
  val : γ → V → V
section
variable {γ : Type} (R : RowS γ)
theorem renL_eq (f : Nat → Nat) : ∀ xs : List V, renL f xs = xs.map (V.ren f)
  | [] => rfl
  | x :: r => by simp [renL, renL_eq f r]
theorem frzL_eq (hv : Nat → Option O) (keep : Nat → Bool) : ∀ xs : List V, frzL hv keep xs = xs.map (frz hv keep)
  | [] => rfl
  | x :: r => by simp [frzL, frzL_eq hv keep r]
theorem belL_eq (n : Nat) : ∀ xs : List V, belL n xs = xs.all (V.bel n)
  | [] => rfl
  | x :: r => by simp [belL, belL_eq n r]
variable {R}
section
variable {cx : Cx}
end
theorem frzL_app2 (hv : Nat → Option O) (keep : Nat → Bool) (xs ys : List V) : frzL hv keep (xs ++ ys) = frzL hv keep xs ++ frzL hv keep ys := by
  simp only [frzL_eq, List.map_append]
end
end Go.AX
