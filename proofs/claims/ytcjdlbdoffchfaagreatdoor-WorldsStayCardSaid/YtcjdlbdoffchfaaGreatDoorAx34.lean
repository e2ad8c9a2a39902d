/- AX, part 34: families of objects. -/
import Derived.Test.YtcjdlbdoffchfaaGreatDoorAx31
set_option linter.unusedSimpArgs false
set_option linter.unusedVariables false
namespace Go.AX
open Go
section
variable {α : Type} {f : α → O}
end
/-- Two codes: what lies between them is one of some states. -/
theorem AW.join {P : Program} {cx : Cx} {x y : Code} {Q : Exit → St → Prop} {st : St} {ι : Type} (J : ι → Prop) (S : ι → St) (hx : AW P cx x (Then (fun s => ∃ i, J i ∧ Weak cx s (S i)) Q) st) (hy : ∀ i, J i → AW P cx y Q (S i)) : AW P cx (.seq x y) Q st :=
  AW.seq (hx.mono fun e s h => by
    cases e with
    | normal =>
      obtain ⟨i, hi, hw⟩ := h
      exact AW.weak hw (hy i hi)
    | _ => exact h)
/-- What follows is reached by some states alone. -/
theorem AW.joinK {P : Program} {cx : Cx} {x : Code} {K : St → Prop} {Q : Exit → St → Prop} {st : St} {ι : Type} (J : ι → Prop) (S : ι → St) (hx : AW P cx x (Then (fun s => ∃ i, J i ∧ Weak cx s (S i)) Q) st) (hk : ∀ s i, J i → Weak cx s (S i) → K s) : AW P cx x (Then K Q) st :=
  hx.mono fun e s h => by
    cases e with
    | normal =>
      obtain ⟨i, hi, hw⟩ := h
      exact hk s i hi hw
    | _ => exact h
section
variable {cx : Cx}
end
end Go.AX
