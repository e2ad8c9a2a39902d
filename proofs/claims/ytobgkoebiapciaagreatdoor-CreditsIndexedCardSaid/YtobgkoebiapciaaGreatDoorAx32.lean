/- AX, part 32: the order of strings; sums; plain laws. -/
import Derived.Test.YtobgkoebiapciaaGreatDoorAx31
import Derived.Lib.Bytealg
import Derived.LoopN
set_option linter.unusedSimpArgs false
set_option linter.unusedVariables false
namespace Go.AX
open Go
abbrev ltS (x y : List UInt8) : Bool := Op.bytesLess x y
theorem ltS_cons (a b : UInt8) (x y : List UInt8) : ltS (a :: x) (b :: y) = true ↔ a.toNat < b.toNat ∨ (a = b ∧ ltS x y = true) := by
  simp [ltS, Op.bytesLess, UInt8.lt_iff_toNat_lt]
theorem ltS_irrefl : ∀ x : List UInt8, ltS x x = false
  | [] => rfl
  | a :: x => by
    have := ltS_irrefl x
    simp only [ltS] at this
    simp [ltS, Op.bytesLess, this, UInt8.lt_irrefl]
theorem ltS_trans : ∀ {x y z : List UInt8}, ltS x y = true → ltS y z = true → ltS x z = true
  | _, [], _, h, _ => by simp [ltS, Op.bytesLess] at h
  | _, _ :: _, [], _, h => by simp [ltS, Op.bytesLess] at h
  | [], _ :: _, _ :: _, _, _ => by simp [ltS, Op.bytesLess]
  | a :: x, b :: y, c :: z, h1, h2 => by
    rw [ltS_cons] at *
    rcases h1 with h1 | ⟨rfl, h1⟩ <;> rcases h2 with h2 | ⟨rfl, h2⟩
    · exact .inl (Nat.lt_trans h1 h2)
    · exact .inl h1
    · exact .inl h2
    · exact .inr ⟨rfl, ltS_trans h1 h2⟩
theorem cmpB_lt : ∀ (x y : List UInt8), decide (Lib.compareBytes x y < 0) = ltS x y
  | [], [] => by simp [Lib.compareBytes, ltS, Op.bytesLess]
  | [], _ :: _ => by simp [Lib.compareBytes, ltS, Op.bytesLess]
  | _ :: _, [] => by simp [Lib.compareBytes, ltS, Op.bytesLess]
  | a :: x, b :: y => by
    have := cmpB_lt x y
    simp only [Lib.compareBytes, ltS, Op.bytesLess] at *
    split
    · rename_i h; simp [h]
    · rename_i h
      split
      · rename_i h2
        have : a ≠ b := fun e => by subst e; exact absurd h2 h
        simp [h, this]
      · rename_i h2
        have e : a = b := by
          rw [UInt8.lt_iff_toNat_lt] at h h2
          exact UInt8.toNat_inj.1 (by omega)
        subst e
        simp [h, this]
theorem cmpB_eq : ∀ (x y : List UInt8), Lib.compareBytes x y = 0 ↔ x = y
  | [], [] => by simp [Lib.compareBytes]
  | [], _ :: _ => by simp [Lib.compareBytes]
  | _ :: _, [] => by simp [Lib.compareBytes]
  | a :: x, b :: y => by
    have := cmpB_eq x y
    simp only [Lib.compareBytes]
    split
    · rename_i h
      have : a ≠ b := fun e => by subst e; exact absurd h (UInt8.lt_irrefl a)
      simp [this]
    · rename_i h
      split
      · rename_i h2
        have : a ≠ b := fun e => by subst e; exact absurd h2 h
        simp [this]
      · rename_i h2
        have e : a = b := by
          rw [UInt8.lt_iff_toNat_lt] at h h2
          exact UInt8.toNat_inj.1 (by omega)
        subst e
        simp [this]
section
variable {α : Type} {lt : α → α → Bool}
end
/-! loops of few rounds -/
/-- At most n rounds. -/
def AWr (P : Program) (cx : Cx) (c : Code) (Q : Exit → St → Prop) : Nat → St → Prop
  | 0, _ => False
  | n + 1, st => AW P cx c (Then (AWr P cx c Q n) Q) st
theorem AW.unroll {P : Program} {cx : Cx} {c : Code} {Q : Exit → St → Prop} (n : Nat) {st : St} (h : AWr P cx c Q n st) : AW P cx (.loop c) Q st := by
  intro hgl σ a w hr
  refine wp_loop_rounds n ?_
  have key : ∀ n st σ a w, AWr P cx c Q n st → Rel cx st (fun id => st.c ≤ id / 64) σ a w → Code.rounds P c (Hat cx Q) n a w := by
    intro n
    induction n with
    | zero => intro st σ a w h _; exact h.elim
    | succ n ih =>
      intro st σ a w h hr
      rw [rounds_succ]
      refine wp_mono (h hgl σ a w hr) fun e a' w' he => ?_
      obtain ⟨st', σ', hq, hr'⟩ := he
      cases e with
      | normal => exact ih st' σ' a' w' hq hr'
      | _ => exact ⟨st', σ', hq, hr'⟩
  exact key n st σ a w h hr
/-! sums -/
/-- The place of a key among keys. -/
theorem fndK_str (k : List UInt8) : ∀ ks : List (List UInt8), fndK (.str k) (ks.map D.str) = some (ks.findIdx? fun x => k == x)
  | [] => rfl
  | x :: ks => by
    simp only [List.map_cons, fndK, sameK, fndK_str k ks, List.findIdx?_cons]
    cases h : (k == x) with
    | true => simp [h]
    | false =>
      simp only [h, Bool.false_eq_true, if_false]
      cases ks.findIdx? fun x => k == x <;> rfl
theorem findIdx_none {k : List UInt8} {ks : List (List UInt8)} (h : k ∉ ks) : (ks.findIdx? fun x => k == x) = none := by
  rw [List.findIdx?_eq_none_iff]
  intro x hx
  simp only [beq_eq_false_iff_ne, ne_eq]
  rintro rfl
  exact h hx
theorem findIdx_at : ∀ {ks : List (List UInt8)} {j : Nat} {k : List UInt8}, ks.Nodup → ks[j]? = some k → (ks.findIdx? fun x => k == x) = some j
  | [], j, k, _, h => by simp at h
  | x :: ks, 0, k, _, h => by simp at h; subst h; simp [List.findIdx?_cons]
  | x :: ks, j + 1, k, hn, h => by
    have hn := List.nodup_cons.1 hn
    have h : ks[j]? = some k := by simpa using h
    have hx : k ≠ x := by rintro rfl; exact hn.1 (List.mem_of_getElem? h)
    rw [List.findIdx?_cons, if_neg (by simpa using hx), findIdx_at hn.2 h]
    rfl
end Go.AX
