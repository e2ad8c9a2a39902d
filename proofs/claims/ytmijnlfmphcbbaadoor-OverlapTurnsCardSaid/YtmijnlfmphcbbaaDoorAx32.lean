/- AX, part 32: the order of strings; sums; plain laws. -/
import Derived.Test.YtmijnlfmphcbbaaDoorAx31
import Derived.Lib.Bytealg
import Derived.LoopN
set_option linter.unusedSimpArgs false
set_option linter.unusedVariables false
namespace Go.AX
open Go
section
variable {α : Type} {lt : α → α → Bool}
end
/-! loops of few rounds -/
/-- At most n rounds. -/
def AWr (P : Program) (cx : Cx) (c : Code) (Q : Exit → St → Prop) : Nat → St → Prop
  | 0, _ => False
  | n + 1, st => AW P cx c (Then (AWr P cx c Q n) Q) st
theorem AW.unroll {P : Program} {cx : Cx} {c : Code} {Q : Exit → St → Prop} (n : Nat) {st : St} (h : AWr P cx c Q n st) : AW P cx (.loop c) Q st := by
  intro hgl σ a w hr
  refine wp_loop_rounds n ?_
  have key : ∀ n st σ a w, AWr P cx c Q n st → Rel cx st (fun id => st.c ≤ id / 64) σ a w → Code.rounds P c (Hat cx Q) n a w := by
    intro n
    induction n with
    | zero => intro st σ a w h _; exact h.elim
    | succ n ih =>
      intro st σ a w h hr
      rw [rounds_succ]
      refine wp_mono (h hgl σ a w hr) fun e a' w' he => ?_
      obtain ⟨st', σ', hq, hr'⟩ := he
      cases e with
      | normal => exact ih st' σ' a' w' hq hr'
      | _ => exact ⟨st', σ', hq, hr'⟩
  exact key n st σ a w h hr
/-! sums -/
end Go.AX
