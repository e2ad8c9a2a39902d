/- AX, part 17: a call of a pure function whose arguments lie partly in the caller's own objects ('borrowed'). -/
import Derived.Test.YtmijnlfmphcbbaaDoorAx16
set_option linter.unusedSimpArgs false
set_option linter.unusedVariables false
namespace Go.AX
open Go

mutual
/-- No block is met. -/
def D.flat : D → Bool
  | .agg cs => flatL cs
  | .sl xs => xs.isEmpty
  | .map _ _ => false
  | .ptr _ _ => false
  | _ => true
def flatL : List D → Bool
  | [] => true
  | x :: xs => x.flat && flatL xs
end
mutual
def V.flat : V → Bool
  | .d x => x.flat
  | .nils => true
  | .tup vs => flatVL vs
  | .agg vs => flatVL vs
  | .top => true
  | .k _ => true
  | _ => false
def flatVL : List V → Bool
  | [] => true
  | x :: xs => x.flat && flatVL xs
end

section
variable {w w' : World} {ok ok' : Nat → Prop} {σ σ' : Nat → Option Loc}
mutual
theorem RD_flat : ∀ (x : D) (v : Value), x.flat = true → RD w ok x v → RD w' ok' x v
  | .bool _, _, _, r => by simpa only [RD] using r
  | .int _ _, _, _, r => by simpa only [RD] using r
  | .str _, _, _, r => by simpa only [RD] using r
  | .nilp, _, _, r => by simpa only [RD] using r
  | .nili, _, _, r => by simpa only [RD] using r
  | .agg cs, v, f, r => by
    simp only [D.flat] at f
    simp only [RD] at r ⊢
    obtain ⟨c, rfl, hs, hc⟩ := r
    exact ⟨c, rfl, hs, RDcs_flat c 0 cs f hc⟩
  | .sl xs, v, f, r => by
    simp only [D.flat, List.isEmpty_iff] at f
    subst f
    simp only [RD] at r ⊢
    obtain ⟨a, n, cap, h1, h2, h3, _⟩ := r
    exact ⟨a, n, cap, h1, h2, h3, .inl trivial⟩
  | .map _ _, _, f, _ => by simp [D.flat] at f
  | .ptr _ _, _, f, _ => by simp [D.flat] at f
theorem RDcs_flat (c : Array Value) : ∀ (p : Nat) (xs : List D), flatL xs = true → RDcs w ok c p xs → RDcs w' ok' c p xs
  | _, [], _, _ => by simp only [RDcs]
  | p, x :: xs, f, r => by
    simp only [flatL, Bool.and_eq_true] at f
    simp only [RDcs] at r ⊢
    obtain ⟨⟨v, hv, hr⟩, hrest⟩ := r
    exact ⟨⟨v, hv, RD_flat x v f.1 hr⟩, RDcs_flat c (p + 1) xs f.2 hrest⟩
end
mutual
theorem RV_flat : ∀ (x : V) (v : Value), x.flat = true → RV w ok σ x v → RV w' ok' σ' x v
  | .top, _, _, _ => by simp only [RV]
  | .k _, _, _, r => by simpa only [RV] using r
  | .d x, v, f, r => by
    simp only [V.flat] at f
    simp only [RV] at r ⊢
    exact RD_flat x v f r
  | .nils, _, _, r => by simpa only [RV] using r
  | .agg cs, v, f, r => by
    simp only [V.flat] at f
    simp only [RV] at r ⊢
    obtain ⟨c, hc, hr⟩ := r
    exact ⟨c, hc, RVl_flat cs _ f hr⟩
  | .tup cs, v, f, r => by
    simp only [V.flat] at f
    simp only [RV] at r ⊢
    obtain ⟨c, hc, hr⟩ := r
    exact ⟨c, hc, RVl_flat cs _ f hr⟩
  | .ptr _ _, _, f, _ => by simp [V.flat] at f
  | .pe _ _ _, _, f, _ => by simp [V.flat] at f
  | .slr _ _ _, _, f, _ => by simp [V.flat] at f
  | .mpr _, _, f, _ => by simp [V.flat] at f
  | .fn _ _, _, f, _ => by simp [V.flat] at f
theorem RVl_flat : ∀ (xs : List V) (vs : List Value), flatVL xs = true → RVl w ok σ xs vs → RVl w' ok' σ' xs vs
  | [], vs, _, r => by simpa only [RVl] using r
  | x :: xs, vs, f, r => by
    simp only [flatVL, Bool.and_eq_true] at f
    simp only [RVl] at r ⊢
    obtain ⟨u, us, rfl, hu, hus⟩ := r
    exact ⟨u, us, rfl, RV_flat x u f.1 hu, RVl_flat xs us f.2 hus⟩
end
end


attribute [go_sem] D.flat flatL V.flat flatVL
end Go.AX
