/- AX, part 32: the order of strings; sums; plain laws. -/
import Derived.Test.YtmcchfkclhpbhaaGreatDoorAx31
import Derived.Lib.Bytealg
import Derived.LoopN
set_option linter.unusedSimpArgs false
set_option linter.unusedVariables false
namespace Go.AX
open Go
abbrev ltS (x y : List UInt8) : Bool := Op.bytesLess x y
theorem ltS_cons (a b : UInt8) (x y : List UInt8) : ltS (a :: x) (b :: y) = true ↔ a.toNat < b.toNat ∨ (a = b ∧ ltS x y = true) := by
  simp [ltS, Op.bytesLess, UInt8.lt_iff_toNat_lt]
theorem ltS_irrefl : ∀ x : List UInt8, ltS x x = false
  | [] => rfl
  | a :: x => by
    have := ltS_irrefl x
    simp only [ltS] at this
    simp [ltS, Op.bytesLess, this, UInt8.lt_irrefl]
theorem ltS_trans : ∀ {x y z : List UInt8}, ltS x y = true → ltS y z = true → ltS x z = true
  | _, [], _, h, _ => by simp [ltS, Op.bytesLess] at h
  | _, _ :: _, [], _, h => by simp [ltS, Op.bytesLess] at h
  | [], _ :: _, _ :: _, _, _ => by simp [ltS, Op.bytesLess]
  | a :: x, b :: y, c :: z, h1, h2 => by
    rw [ltS_cons] at *
    rcases h1 with h1 | ⟨rfl, h1⟩ <;> rcases h2 with h2 | ⟨rfl, h2⟩
    · exact .inl (Nat.lt_trans h1 h2)
    · exact .inl h1
    · exact .inl h2
    · exact .inr ⟨rfl, ltS_trans h1 h2⟩
theorem ltS_total : ∀ {x y : List UInt8}, ltS x y = false → x ≠ y → ltS y x = true
  | [], [], _, h => absurd rfl h
  | [], _ :: _, h, _ => by simp [ltS, Op.bytesLess] at h
  | _ :: _, [], _, _ => by simp [ltS, Op.bytesLess]
  | a :: x, b :: y, h, hne => by
    have h' : ¬ (ltS (a :: x) (b :: y) = true) := by rw [h]; simp
    rw [ltS_cons] at *
    by_cases e : a = b
    · subst e
      refine .inr ⟨rfl, ltS_total ?_ fun e => hne (by rw [e])⟩
      cases hl : ltS x y with
      | false => rfl
      | true => exact absurd (.inr ⟨rfl, hl⟩) h'
    · left
      have : a.toNat ≠ b.toNat := fun h => e (UInt8.toNat_inj.1 h)
      have : ¬ a.toNat < b.toNat := fun h => h' (.inl h)
      omega
theorem ltS_ne {x y : List UInt8} (h : ltS x y = true) : x ≠ y := by
  rintro rfl; rw [ltS_irrefl] at h; cases h
theorem ltS_asymm {x y : List UInt8} (h : ltS x y = true) : ltS y x = false := by
  cases h' : ltS y x with
  | false => rfl
  | true => have := ltS_trans h h'; rw [ltS_irrefl] at this; cases this
theorem cmpB_lt : ∀ (x y : List UInt8), decide (Lib.compareBytes x y < 0) = ltS x y
  | [], [] => by simp [Lib.compareBytes, ltS, Op.bytesLess]
  | [], _ :: _ => by simp [Lib.compareBytes, ltS, Op.bytesLess]
  | _ :: _, [] => by simp [Lib.compareBytes, ltS, Op.bytesLess]
  | a :: x, b :: y => by
    have := cmpB_lt x y
    simp only [Lib.compareBytes, ltS, Op.bytesLess] at *
    split
    · rename_i h; simp [h]
    · rename_i h
      split
      · rename_i h2
        have : a ≠ b := fun e => by subst e; exact absurd h2 h
        simp [h, this]
      · rename_i h2
        have e : a = b := by
          rw [UInt8.lt_iff_toNat_lt] at h h2
          exact UInt8.toNat_inj.1 (by omega)
        subst e
        simp [h, this]
theorem cmpB_eq : ∀ (x y : List UInt8), Lib.compareBytes x y = 0 ↔ x = y
  | [], [] => by simp [Lib.compareBytes]
  | [], _ :: _ => by simp [Lib.compareBytes]
  | _ :: _, [] => by simp [Lib.compareBytes]
  | a :: x, b :: y => by
    have := cmpB_eq x y
    simp only [Lib.compareBytes]
    split
    · rename_i h
      have : a ≠ b := fun e => by subst e; exact absurd h (UInt8.lt_irrefl a)
      simp [this]
    · rename_i h
      split
      · rename_i h2
        have : a ≠ b := fun e => by subst e; exact absurd h2 h
        simp [this]
      · rename_i h2
        have e : a = b := by
          rw [UInt8.lt_iff_toNat_lt] at h h2
          exact UInt8.toNat_inj.1 (by omega)
        subst e
        simp [this]
section
variable {α : Type} {lt : α → α → Bool}
/-- Lists that rise strictly and have the same members are the same. -/
theorem rise_ext (irr : ∀ a, lt a a = false) (tr : ∀ {a b c}, lt a b = true → lt b c = true → lt a c = true) : ∀ {l r : List α}, l.Pairwise (fun a b => lt a b = true) → r.Pairwise (fun a b => lt a b = true) → (∀ x, x ∈ l ↔ x ∈ r) → l = r
  | [], [], _, _, _ => rfl
  | [], y :: r, _, _, h => by have := (h y).2 (by simp); simp at this
  | x :: l, [], _, _, h => by have := (h x).1 (by simp); simp at this
  | x :: l, y :: r, hl, hr, h => by
    have hl' := List.pairwise_cons.1 hl
    have hr' := List.pairwise_cons.1 hr
    have e : x = y := by
      have h1 := (h x).1 (by simp)
      have h2 := (h y).2 (by simp)
      rcases List.mem_cons.1 h1 with e | h1
      · exact e
      · rcases List.mem_cons.1 h2 with e | h2
        · exact e.symm
        · have := tr (hr'.1 x h1) (hl'.1 y h2)
          rw [irr] at this; cases this
    subst e
    congr 1
    refine rise_ext irr tr hl'.2 hr'.2 fun z => ?_
    constructor
    · intro hz
      rcases List.mem_cons.1 ((h z).1 (by simp [hz])) with e | hz'
      · subst e; have := hl'.1 z hz; rw [irr] at this; cases this
      · exact hz'
    · intro hz
      rcases List.mem_cons.1 ((h z).2 (by simp [hz])) with e | hz'
      · subst e; have := hr'.1 z hz; rw [irr] at this; cases this
      · exact hz'
end
/-! loops of few rounds -/
/-- At most n rounds. -/
def AWr (P : Program) (cx : Cx) (c : Code) (Q : Exit → St → Prop) : Nat → St → Prop
  | 0, _ => False
  | n + 1, st => AW P cx c (Then (AWr P cx c Q n) Q) st
theorem AW.unroll {P : Program} {cx : Cx} {c : Code} {Q : Exit → St → Prop} (n : Nat) {st : St} (h : AWr P cx c Q n st) : AW P cx (.loop c) Q st := by
  intro hgl σ a w hr
  refine wp_loop_rounds n ?_
  have key : ∀ n st σ a w, AWr P cx c Q n st → Rel cx st (fun id => st.c ≤ id / 64) σ a w → Code.rounds P c (Hat cx Q) n a w := by
    intro n
    induction n with
    | zero => intro st σ a w h _; exact h.elim
    | succ n ih =>
      intro st σ a w h hr
      rw [rounds_succ]
      refine wp_mono (h hgl σ a w hr) fun e a' w' he => ?_
      obtain ⟨st', σ', hq, hr'⟩ := he
      cases e with
      | normal => exact ih st' σ' a' w' hq hr'
      | _ => exact ⟨st', σ', hq, hr'⟩
  exact key n st σ a w h hr
/-! sums -/
def sumI (l : List Int) : Int := l.foldr (· + ·) 0
theorem sumI_cons (x : Int) (l : List Int) : sumI (x :: l) = x + sumI l := rfl
theorem sumI_perm {l l' : List Int} (h : l.Perm l') : sumI l = sumI l' := by
  induction h with
  | nil => rfl
  | cons x _ ih => simp only [sumI_cons, ih]
  | swap x y l => simp only [sumI_cons]; omega
  | trans _ _ h1 h2 => omega
/-- The place of a key among keys. -/
theorem fndK_str (k : List UInt8) : ∀ ks : List (List UInt8), fndK (.str k) (ks.map D.str) = some (ks.findIdx? fun x => k == x)
  | [] => rfl
  | x :: ks => by
    simp only [List.map_cons, fndK, sameK, fndK_str k ks, List.findIdx?_cons]
    cases h : (k == x) with
    | true => simp [h]
    | false =>
      simp only [h, Bool.false_eq_true, if_false]
      cases ks.findIdx? fun x => k == x <;> rfl
theorem findIdx_none {k : List UInt8} {ks : List (List UInt8)} (h : k ∉ ks) : (ks.findIdx? fun x => k == x) = none := by
  rw [List.findIdx?_eq_none_iff]
  intro x hx
  simp only [beq_eq_false_iff_ne, ne_eq]
  rintro rfl
  exact h hx
theorem findIdx_at : ∀ {ks : List (List UInt8)} {j : Nat} {k : List UInt8}, ks.Nodup → ks[j]? = some k → (ks.findIdx? fun x => k == x) = some j
  | [], j, k, _, h => by simp at h
  | x :: ks, 0, k, _, h => by simp at h; subst h; simp [List.findIdx?_cons]
  | x :: ks, j + 1, k, hn, h => by
    have hn := List.nodup_cons.1 hn
    have h : ks[j]? = some k := by simpa using h
    have hx : k ≠ x := by rintro rfl; exact hn.1 (List.mem_of_getElem? h)
    rw [List.findIdx?_cons, if_neg (by simpa using hx), findIdx_at hn.2 h]
    rfl
end Go.AX
