/- Pairs. -/
import Derived.Test.YtdhbglnckeadkaaGreatDoorKB
set_option linter.unusedSimpArgs false
set_option linter.unusedVariables false
set_option linter.unnecessarySimpa false
set_option maxRecDepth 100000
set_option maxHeartbeats 4000000
namespace Go.AX
open Go Go.Proofs
abbrev Pr := Str × Str
abbrev prD (p : Pr) : D := .agg [.str p.1, .str p.2]
def ctM {α : Type} [BEq α] (p : α) : List α → List α
  | [] => []
  | y :: r => if (y == p) = true then ctM y r else y :: ctM y r
def compactM {α : Type} [BEq α] : List α → List α
  | [] => []
  | x :: r => x :: ctM x r
theorem ctM_mem {α : Type} [BEq α] [LawfulBEq α] : ∀ (r : List α) (p x : α), x ∈ p :: ctM p r ↔ x ∈ p :: r
  | [], p, x => by simp [ctM]
  | y :: r, p, x => by
    have ih := ctM_mem r y x
    simp only [ctM]
    by_cases e : y = p
    · subst e
      simp only [beq_self_eq_true, if_true]
      rw [ih]; simp
    · rw [if_neg (by simpa using e)]
      rw [List.mem_cons, ih]
      simp
theorem compactM_mem {α : Type} [BEq α] [LawfulBEq α] (l : List α) (x : α) : x ∈ compactM l ↔ x ∈ l := by
  cases l with
  | nil => simp [compactM]
  | cons p r => exact ctM_mem r p x
theorem ctM_len {α : Type} [BEq α] : ∀ (r : List α) (p : α), (ctM p r).length ≤ r.length
  | [], _ => by simp [ctM]
  | y :: r, p => by
    have := ctM_len r y
    simp only [ctM]
    split
    · simp; omega
    · simp; omega
theorem compactM_len {α : Type} [BEq α] (l : List α) : (compactM l).length ≤ l.length := by
  cases l with
  | nil => simp [compactM]
  | cons p r => have := ctM_len r p; simp [compactM]; omega
theorem ctM_rise {α : Type} [BEq α] [LawfulBEq α] {lt : α → α → Bool} (tot : ∀ a b, lt a b = false → a ≠ b → lt b a = true) (tr : ∀ a b c, lt a b = true → lt b c = true → lt a c = true) : ∀ (r : List α) (p : α), Sorted lt (p :: r) →
    (ctM p r).Pairwise (fun a b => lt a b = true) ∧ ∀ y ∈ ctM p r, lt p y = true
  | [], p, _ => ⟨List.Pairwise.nil, by simp [ctM]⟩
  | y :: r, p, h => by
    have h' := List.pairwise_cons.1 h
    obtain ⟨i1, i2⟩ := ctM_rise tot tr r y h'.2
    simp only [ctM]
    by_cases e : y = p
    · subst e
      simp only [beq_self_eq_true, if_true]
      exact ⟨i1, i2⟩
    · rw [if_neg (by simpa using e)]
      have hp : lt p y = true := tot _ _ (h'.1 y (by simp)) e
      refine ⟨List.Pairwise.cons i2 i1, ?_⟩
      intro z hz
      rcases List.mem_cons.1 hz with rfl | hz
      · exact hp
      · exact tr _ _ _ hp (i2 z hz)
theorem compactM_rise {α : Type} [BEq α] [LawfulBEq α] {lt : α → α → Bool} (tot : ∀ a b, lt a b = false → a ≠ b → lt b a = true) (tr : ∀ a b c, lt a b = true → lt b c = true → lt a c = true) (l : List α) (h : Sorted lt l) : (compactM l).Pairwise (fun a b => lt a b = true) := by
  cases l with
  | nil => exact List.Pairwise.nil
  | cons p r =>
    obtain ⟨i1, i2⟩ := ctM_rise tot tr r p h
    exact List.Pairwise.cons i2 i1
theorem compact_Pr (xs : List (Pr)) (hl : xs.length ≤ 1000) :
    Does Tryz.prog 39 [.slr 0 0 xs.length] [.vec 46 2 (dv (xs.map prD))] (.slr 0 0 (compactM xs).length) [.vec 46 2 (dv ((compactM xs).map prD ++ List.replicate (xs.length - (compactM xs).length) (prD ([], []))))] := by
  cases xs with
  | nil =>
    refine Does.of_AW (n := 61) Tryz.func39 rfl rfl rfl fun cx hcx => ?_
    repeat' (first | (refine AW.sreg rfl fun K hK => ?_; simp only [go_sem, Nat.reduceAdd, Nat.reduceMul, Int.reduceToNat, Nat.reduceLT, Nat.reduceLeDiff, Nat.le_refl, Nat.reduceEqDiff, ↓reduceIte, beq_self_eq_true, bne_self_eq_false, Int.reduceBEq, Int.reduceBNe, or_self, true_or, or_true, Option.map_some, Option.map_none]) | (refine AW.seq_k fun K hK => ?_) | (refine AW.condT rfl (by first | rfl | (simp; omega) | (simp [*]; done) | fail) ?_) | (refine hK _ ?_; clear hK K))
    exact AW.ret (Fin.one rfl (by simp [go_sem, compactM]) ⟨_, rfl, by simp [go_sem, compactM]⟩ rfl (by simp [go_sem]) rfl)
  | cons x0 r0 =>
  generalize hxs : x0 :: r0 = xs at *
  refine Does.of_AW (n := 61) Tryz.func39 rfl rfl rfl fun cx hcx => ?_
  repeat' (first | (refine AW.sreg rfl fun K hK => ?_; simp only [go_sem, Nat.reduceAdd, Nat.reduceMul, Int.reduceToNat, Nat.reduceLT, Nat.reduceLeDiff, Nat.le_refl, Nat.reduceEqDiff, ↓reduceIte, beq_self_eq_true, bne_self_eq_false, Int.reduceBEq, Int.reduceBNe, or_self, true_or, or_true, Option.map_some, Option.map_none, List.length_map]) | (refine AW.seq_k fun K hK => ?_) | (refine AW.block ?_) | (refine AW.skip ?_; simp only [Then, InBlock]) | (refine AW.cond rfl (fun h => ?_) (fun h => ?_) <;> (try simp only [decide_eq_true_eq, decide_eq_false_iff_not, Bool.not_eq_true', Bool.not_eq_false', Bool.not_eq_eq_eq_not, Bool.not_true, Bool.not_false, beq_iff_eq, bne_iff_ne, beq_eq_false_iff_ne, ne_eq, Bool.and_eq_true, Bool.or_eq_true, Bool.or_eq_false_iff] at h)) | (refine hK _ ?_; clear hK K))
  · have : r0 = [] := by
      rw [← hxs] at h; cases r0 with
      | nil => rfl
      | cons => simp at h; omega
    subst this
    subst hxs
    exact AW.ret (Fin.one rfl (by simp [go_sem, compactM, ctM]) ⟨_, rfl, by simp [go_sem, compactM, ctM]⟩ rfl (by simp [go_sem]) rfl)
  refine AW.loopF (ι := Nat) [0] (fun p => [(3, I p)]) (fun p => [(0, some (O.vec 46 2 (dv (xs.map prD))))]) 1 (fun p => 1 ≤ p ∧ p ≤ xs.length ∧ ∀ y, xs[p - 1]? = some y → xs.take p ++ ctM y (xs.drop p) = compactM xs) (fun p => xs.length - p) 1 ⟨by simp, by omega, by rw [← hxs]; intro y hy; simp at hy; subst hy; simp [compactM]⟩ (Weak.auto hcx rfl rfl (Nat.le_of_ble_eq_true rfl) (by simp [go_sem, gL, kL, renOf, V.obj, lk, Nat.blt, Nat.ble, List.map_append, dv_push]) (by simp [go_sem, gL, kL, renOf, V.obj, lk, Nat.blt, Nat.ble, List.map_append, dv_push]) (by first | (intro i hi; exact absurd hi (Nat.not_lt_zero _)) | (intro i0 hi0; match i0, hi0 with | 0, _ => exact ⟨_, rfl⟩ | n0+1, h0 => exact absurd h0 (Nat.not_lt.2 (Nat.le_add_left 1 n0))) | (intro i0 hi0; match i0, hi0 with | 0, _ => exact ⟨_, rfl⟩ | 1, _ => exact ⟨_, rfl⟩ | n0+2, h0 => exact absurd h0 (Nat.not_lt.2 (Nat.le_add_left 2 n0))) | (intro i0 hi0; match i0, hi0 with | 0, _ => exact ⟨_, rfl⟩ | 1, _ => exact ⟨_, rfl⟩ | 2, _ => exact ⟨_, rfl⟩ | n0+3, h0 => exact absurd h0 (Nat.not_lt.2 (Nat.le_add_left 3 n0))) | (intro i0 hi0; match i0, hi0 with | 0, _ => exact ⟨_, rfl⟩ | 1, _ => exact ⟨_, rfl⟩ | 2, _ => exact ⟨_, rfl⟩ | 3, _ => exact ⟨_, rfl⟩ | n0+4, h0 => exact absurd h0 (Nat.not_lt.2 (Nat.le_add_left 4 n0)))) (by simp [go_sem, gL, kL, lk, renOf, V.obj, Nat.blt, Nat.ble])) ?_; simp only [St.at_nil, St.at_cons, lk, Nat.reduceEqDiff, ↓reduceIte, Option.getD_some, Option.getD_none, List.cons_append, List.nil_append, List.append_nil]
  rintro k ⟨h1, h2, h3⟩
  by_cases hi : k < xs.length
  · obtain ⟨x, hx, hxm, hxd⟩ := get_some hi
    obtain ⟨y, hy, hym, hyd⟩ := get_some (show k - 1 < xs.length by omega)
    have hget : (dv (xs.map prD))[0 + k]? = some (.d (prD x)) := by simp only [dv, Nat.zero_add, List.getElem?_map, hx, Option.map_some]
    have hget2 : (dv (xs.map prD))[0 + ((k : Int) - 1).toNat]? = some (.d (prD y)) := by
      rw [show ((k : Int) - 1).toNat = k - 1 by omega]
      simp only [dv, Nat.zero_add, List.getElem?_map, hy, Option.map_some]
    have h3 := h3 y hy
    rw [hxd, ctM] at h3
    have heq : ((fun (x y : Pr) => x.1 == y.1 && x.2 == y.2) x y) = (x == y) := rfl
    dsimp only at heq
    cases hb : (x == y) with
    | false =>
      rw [hb] at heq h3
      simp only [Bool.false_eq_true, if_false] at h3
      repeat' (first | (refine AW.sreg rfl fun K hK => ?_; simp only [go_sem, Nat.reduceAdd, Nat.reduceMul, Int.reduceToNat, Nat.reduceLT, Nat.reduceLeDiff, Nat.le_refl, Nat.reduceEqDiff, ↓reduceIte, beq_self_eq_true, bne_self_eq_false, Int.reduceBEq, Int.reduceBNe, or_self, true_or, or_true, Option.map_some, Option.map_none, List.length_map, hget, hget2, heq]) | (refine AW.sregD hmix rfl fun K hK => ?_; simp only [go_sem, Nat.reduceAdd, Nat.reduceMul, Int.reduceToNat, Nat.reduceLT, Nat.reduceLeDiff, Nat.le_refl, Nat.reduceEqDiff, ↓reduceIte, beq_self_eq_true, bne_self_eq_false, Int.reduceBEq, Int.reduceBNe, or_self, true_or, or_true, Option.map_some, Option.map_none, List.length_map, hget, hget2, heq]) | (refine AW.reg rfl ?_; simp only [go_sem, Nat.reduceAdd, Nat.reduceMul, Int.reduceToNat, Nat.reduceLT, Nat.reduceLeDiff, Nat.le_refl, Nat.reduceEqDiff, ↓reduceIte, beq_self_eq_true, bne_self_eq_false, Int.reduceBEq, Int.reduceBNe, or_self, true_or, or_true, Option.map_some, Option.map_none, List.length_map, hget, hget2, heq]) | (refine AW.seq_k fun K hK => ?_) | (refine AW.block ?_) | (refine AW.skip ?_; simp only [Then, InBlock]) | (refine AW.condT rfl (by first | rfl | (simp; omega) | (simp [*]; done) | fail) ?_) | (refine AW.condF rfl (by first | rfl | (simp; omega) | (simp [*]; done) | fail) ?_) | (refine hK _ ?_; clear hK K) | (with_reducible refine And.intro (?_ : regOk _ _ = true) ?_; kernel_rfl) | (with_reducible refine And.intro ?_ ?_; first | omega | assumption | (focus (decide)) | (focus (simp; done)) | (focus (simp; omega)) | (focus (constructor <;> omega)) | fail))
      refine ⟨k + 1, ⟨by omega, hi, fun z hz => ?_⟩, by omega, (Weak.auto hcx rfl rfl (Nat.le_of_ble_eq_true rfl) (by simp [go_sem, gL, kL, renOf, V.obj, lk, Nat.blt, Nat.ble, List.map_append, dv_push]) (by simp [go_sem, gL, kL, renOf, V.obj, lk, Nat.blt, Nat.ble, List.map_append, dv_push]) (by first | (intro i hi; exact absurd hi (Nat.not_lt_zero _)) | (intro i0 hi0; match i0, hi0 with | 0, _ => exact ⟨_, rfl⟩ | n0+1, h0 => exact absurd h0 (Nat.not_lt.2 (Nat.le_add_left 1 n0))) | (intro i0 hi0; match i0, hi0 with | 0, _ => exact ⟨_, rfl⟩ | 1, _ => exact ⟨_, rfl⟩ | n0+2, h0 => exact absurd h0 (Nat.not_lt.2 (Nat.le_add_left 2 n0))) | (intro i0 hi0; match i0, hi0 with | 0, _ => exact ⟨_, rfl⟩ | 1, _ => exact ⟨_, rfl⟩ | 2, _ => exact ⟨_, rfl⟩ | n0+3, h0 => exact absurd h0 (Nat.not_lt.2 (Nat.le_add_left 3 n0))) | (intro i0 hi0; match i0, hi0 with | 0, _ => exact ⟨_, rfl⟩ | 1, _ => exact ⟨_, rfl⟩ | 2, _ => exact ⟨_, rfl⟩ | 3, _ => exact ⟨_, rfl⟩ | n0+4, h0 => exact absurd h0 (Nat.not_lt.2 (Nat.le_add_left 4 n0)))) (by simp [go_sem, gL, kL, lk, renOf, V.obj, Nat.blt, Nat.ble]))⟩
      rw [Nat.add_sub_cancel, hx] at hz
      cases hz
      rw [← h3, List.take_add_one, hx]
      simp
    | true =>
      rw [hb] at heq h3
      simp only [if_true] at h3
      obtain rfl : x = y := by simpa using hb
      repeat' (first | (refine AW.sreg rfl fun K hK => ?_; simp only [go_sem, Nat.reduceAdd, Nat.reduceMul, Int.reduceToNat, Nat.reduceLT, Nat.reduceLeDiff, Nat.le_refl, Nat.reduceEqDiff, ↓reduceIte, beq_self_eq_true, bne_self_eq_false, Int.reduceBEq, Int.reduceBNe, or_self, true_or, or_true, Option.map_some, Option.map_none, List.length_map, hget, hget2, heq]) | (refine AW.sregD hmix rfl fun K hK => ?_; simp only [go_sem, Nat.reduceAdd, Nat.reduceMul, Int.reduceToNat, Nat.reduceLT, Nat.reduceLeDiff, Nat.le_refl, Nat.reduceEqDiff, ↓reduceIte, beq_self_eq_true, bne_self_eq_false, Int.reduceBEq, Int.reduceBNe, or_self, true_or, or_true, Option.map_some, Option.map_none, List.length_map, hget, hget2, heq]) | (refine AW.seq_k fun K hK => ?_) | (refine AW.block ?_) | (refine AW.skip ?_; simp only [Then, InBlock]) | (refine AW.condT rfl (by first | rfl | (simp; omega) | (simp [*]; done) | fail) ?_) | (refine hK _ ?_; clear hK K) | (with_reducible refine And.intro (?_ : regOk _ _ = true) ?_; kernel_rfl) | (with_reducible refine And.intro ?_ ?_; first | omega | assumption | (focus (decide)) | (focus (simp; done)) | (focus (simp; omega)) | (focus (constructor <;> omega)) | fail))
      refine AW.loopF (ι := Nat × List (Pr) × List (Pr) × Pr) [0, 4] (fun p => [(3, I p.2.1.length), (5, I p.1)]) (fun p => [(0, some (O.vec 46 2 (dv ((p.2.1 ++ (p.2.2.1 ++ p.2.2.2 :: xs.drop (k + p.1))).map prD))))]) 1 (fun p => 1 ≤ p.1 ∧ k + p.1 ≤ xs.length ∧ p.2.1.length + p.2.2.1.length + 1 = k + p.1 ∧ p.2.1 ++ ctM p.2.2.2 (xs.drop (k + p.1)) = compactM xs) (fun p => xs.length - p.1) (1, xs.take k, [], x) ⟨by simp, by simp only; omega, by simp; omega, h3⟩ (Weak.auto hcx rfl rfl (Nat.le_of_ble_eq_true rfl) (by simp [go_sem, gL, kL, renOf, V.obj, lk, Nat.blt, Nat.ble, List.map_append, dv_push, ← hxd, List.take_append_drop, Nat.min_eq_left (Nat.le_of_lt hi)]) (by simp [go_sem, gL, kL, renOf, V.obj, lk, Nat.blt, Nat.ble, List.map_append, dv_push, ← hxd, List.take_append_drop, Nat.min_eq_left (Nat.le_of_lt hi)]) (by first | (intro i hi; exact absurd hi (Nat.not_lt_zero _)) | (intro i0 hi0; match i0, hi0 with | 0, _ => exact ⟨_, rfl⟩ | n0+1, h0 => exact absurd h0 (Nat.not_lt.2 (Nat.le_add_left 1 n0))) | (intro i0 hi0; match i0, hi0 with | 0, _ => exact ⟨_, rfl⟩ | 1, _ => exact ⟨_, rfl⟩ | n0+2, h0 => exact absurd h0 (Nat.not_lt.2 (Nat.le_add_left 2 n0))) | (intro i0 hi0; match i0, hi0 with | 0, _ => exact ⟨_, rfl⟩ | 1, _ => exact ⟨_, rfl⟩ | 2, _ => exact ⟨_, rfl⟩ | n0+3, h0 => exact absurd h0 (Nat.not_lt.2 (Nat.le_add_left 3 n0))) | (intro i0 hi0; match i0, hi0 with | 0, _ => exact ⟨_, rfl⟩ | 1, _ => exact ⟨_, rfl⟩ | 2, _ => exact ⟨_, rfl⟩ | 3, _ => exact ⟨_, rfl⟩ | n0+4, h0 => exact absurd h0 (Nat.not_lt.2 (Nat.le_add_left 4 n0)))) (by simp [go_sem, gL, kL, lk, renOf, V.obj, Nat.blt, Nat.ble, ← hxd, List.take_append_drop, Nat.min_eq_left (Nat.le_of_lt hi)])) ?_; simp only [St.at_nil, St.at_cons, lk, Nat.reduceEqDiff, ↓reduceIte, Option.getD_some, Option.getD_none, List.cons_append, List.nil_append, List.append_nil]
      rintro ⟨k2, A, G, y⟩ ⟨g1, g2, g3, g4⟩
      simp only at g1 g2 g3 g4 ⊢
      by_cases hj : k + k2 < xs.length
      · obtain ⟨z, hz, hzm, hzd⟩ := get_some hj
        have e1 : (dv ((A ++ (G ++ y :: xs.drop (k + k2))).map prD))[0 + k + k2]? = some (.d (prD z)) := by
          have : (A ++ (G ++ y :: xs.drop (k + k2)))[k + k2]? = some z := by
            rw [show A ++ (G ++ y :: xs.drop (k + k2)) = (A ++ (G ++ [y])) ++ xs.drop (k + k2) by simp, List.getElem?_append_right (by simp; omega), show k + k2 - (A ++ (G ++ [y])).length = 0 by simp; omega, hzd]
            rfl
          simp only [dv, Nat.zero_add, List.getElem?_map, this, Option.map_some]
        have e2 : (dv ((A ++ (G ++ y :: xs.drop (k + k2))).map prD))[0 + k + ((k2 : Int) - 1).toNat]? = some (.d (prD y)) := by
          have : (A ++ (G ++ y :: xs.drop (k + k2)))[k + ((k2 : Int) - 1).toNat]? = some y := by
            rw [show A ++ (G ++ y :: xs.drop (k + k2)) = (A ++ G) ++ (y :: xs.drop (k + k2)) by simp, List.getElem?_append_right (by simp; omega), show k + ((k2 : Int) - 1).toNat - (A ++ G).length = 0 by simp; omega]
            rfl
          simp only [dv, Nat.zero_add, List.getElem?_map, this, Option.map_some]
        have hlen : (A ++ (G ++ y :: xs.drop (k + k2))).length = xs.length := by simp; omega
        have heq2 : ((fun (x y : Pr) => x.1 == y.1 && x.2 == y.2) z y) = (z == y) := rfl
        dsimp only at heq2
        rw [hzd, ctM] at g4
        cases hb2 : (z == y) with
        | true =>
          rw [hb2] at heq2 g4
          simp only [if_true] at g4
          obtain rfl : z = y := by simpa using hb2
          repeat' (first | (refine AW.sreg rfl fun K hK => ?_; simp only [go_sem, Nat.reduceAdd, Nat.reduceMul, Int.reduceToNat, Nat.reduceLT, Nat.reduceLeDiff, Nat.le_refl, Nat.reduceEqDiff, ↓reduceIte, beq_self_eq_true, bne_self_eq_false, Int.reduceBEq, Int.reduceBNe, or_self, true_or, or_true, Option.map_some, Option.map_none, List.length_map, e1, e2, heq2]) | (refine AW.sregD hmix rfl fun K hK => ?_; simp only [go_sem, Nat.reduceAdd, Nat.reduceMul, Int.reduceToNat, Nat.reduceLT, Nat.reduceLeDiff, Nat.le_refl, Nat.reduceEqDiff, ↓reduceIte, beq_self_eq_true, bne_self_eq_false, Int.reduceBEq, Int.reduceBNe, or_self, true_or, or_true, Option.map_some, Option.map_none, List.length_map, e1, e2, heq2]) | (refine AW.reg rfl ?_; simp only [go_sem, Nat.reduceAdd, Nat.reduceMul, Int.reduceToNat, Nat.reduceLT, Nat.reduceLeDiff, Nat.le_refl, Nat.reduceEqDiff, ↓reduceIte, beq_self_eq_true, bne_self_eq_false, Int.reduceBEq, Int.reduceBNe, or_self, true_or, or_true, Option.map_some, Option.map_none, List.length_map, e1, e2, heq2]) | (refine AW.seq_k fun K hK => ?_) | (refine AW.block ?_) | (refine AW.skip ?_; simp only [Then, InBlock]) | (refine AW.condT rfl (by first | rfl | (simp; omega) | (simp [*]; done) | fail) ?_) | (refine AW.condF rfl (by first | rfl | (simp; omega) | (simp [*]; done) | fail) ?_) | (refine hK _ ?_; clear hK K) | (with_reducible refine And.intro (?_ : regOk _ _ = true) ?_; kernel_rfl) | (with_reducible refine And.intro ?_ ?_; first | omega | assumption | (focus (decide)) | (focus (simp; done)) | (focus (simp; omega)) | (focus (constructor <;> omega)) | fail))
          refine ⟨(k2 + 1, A, G ++ [z], z), ⟨by simp only; omega, by simp only; omega, by simp; omega, by simpa [Nat.add_assoc] using g4⟩, by simp only; omega, (Weak.auto hcx rfl rfl (Nat.le_of_ble_eq_true rfl) (by simp [go_sem, gL, kL, renOf, V.obj, lk, Nat.blt, Nat.ble, List.map_append, dv_push, hzd, Nat.add_assoc]) (by simp [go_sem, gL, kL, renOf, V.obj, lk, Nat.blt, Nat.ble, List.map_append, dv_push, hzd, Nat.add_assoc]) (by first | (intro i hi; exact absurd hi (Nat.not_lt_zero _)) | (intro i0 hi0; match i0, hi0 with | 0, _ => exact ⟨_, rfl⟩ | n0+1, h0 => exact absurd h0 (Nat.not_lt.2 (Nat.le_add_left 1 n0))) | (intro i0 hi0; match i0, hi0 with | 0, _ => exact ⟨_, rfl⟩ | 1, _ => exact ⟨_, rfl⟩ | n0+2, h0 => exact absurd h0 (Nat.not_lt.2 (Nat.le_add_left 2 n0))) | (intro i0 hi0; match i0, hi0 with | 0, _ => exact ⟨_, rfl⟩ | 1, _ => exact ⟨_, rfl⟩ | 2, _ => exact ⟨_, rfl⟩ | n0+3, h0 => exact absurd h0 (Nat.not_lt.2 (Nat.le_add_left 3 n0))) | (intro i0 hi0; match i0, hi0 with | 0, _ => exact ⟨_, rfl⟩ | 1, _ => exact ⟨_, rfl⟩ | 2, _ => exact ⟨_, rfl⟩ | 3, _ => exact ⟨_, rfl⟩ | n0+4, h0 => exact absurd h0 (Nat.not_lt.2 (Nat.le_add_left 4 n0)))) (by simp [go_sem, gL, kL, lk, renOf, V.obj, Nat.blt, Nat.ble, hzd, Nat.add_assoc]))⟩
        | false =>
          rw [hb2] at heq2 g4
          simp only [Bool.false_eq_true, if_false] at g4
          rcases G with _ | ⟨g0, G⟩
          · have hset : (dv ((A ++ ([] ++ y :: xs.drop (k + k2))).map prD)).set (0 + A.length) (.d (prD z)) = dv (((A ++ [z]) ++ xs.drop (k + k2)).map prD) := by
              have := set_mid (dv (A.map prD)) (V.d (prD y)) (dv ((xs.drop (k + k2)).map prD)) (V.d (prD z))
              simpa [dv] using this
            simp only [List.nil_append, List.cons_append] at e1 e2 hset hlen
            have e3 : (dv ((A ++ y :: xs.drop (k + k2)).map prD))[0 + A.length]? = some (.d (prD y)) := by
              have := get_mid A y (xs.drop (k + k2))
              simp only [dv, Nat.zero_add, List.getElem?_map, this, Option.map_some]
            repeat' (first | (refine AW.sreg rfl fun K hK => ?_; simp only [go_sem, Nat.reduceAdd, Nat.reduceMul, Int.reduceToNat, Nat.reduceLT, Nat.reduceLeDiff, Nat.le_refl, Nat.reduceEqDiff, ↓reduceIte, beq_self_eq_true, bne_self_eq_false, Int.reduceBEq, Int.reduceBNe, or_self, true_or, or_true, Option.map_some, Option.map_none, List.length_map, e1, e2, e3, heq2, hset]) | (refine AW.sregD hmix rfl fun K hK => ?_; simp only [go_sem, Nat.reduceAdd, Nat.reduceMul, Int.reduceToNat, Nat.reduceLT, Nat.reduceLeDiff, Nat.le_refl, Nat.reduceEqDiff, ↓reduceIte, beq_self_eq_true, bne_self_eq_false, Int.reduceBEq, Int.reduceBNe, or_self, true_or, or_true, Option.map_some, Option.map_none, List.length_map, e1, e2, e3, heq2, hset]) | (refine AW.reg rfl ?_; simp only [go_sem, Nat.reduceAdd, Nat.reduceMul, Int.reduceToNat, Nat.reduceLT, Nat.reduceLeDiff, Nat.le_refl, Nat.reduceEqDiff, ↓reduceIte, beq_self_eq_true, bne_self_eq_false, Int.reduceBEq, Int.reduceBNe, or_self, true_or, or_true, Option.map_some, Option.map_none, List.length_map, e1, e2, e3, heq2, hset]) | (refine AW.seq_k fun K hK => ?_) | (refine AW.block ?_) | (refine AW.skip ?_; simp only [Then, InBlock]) | (refine AW.condT rfl (by first | rfl | (simp; omega) | (simp [*]; done) | fail) ?_) | (refine hK _ ?_; clear hK K) | (with_reducible refine And.intro (?_ : regOk _ _ = true) ?_; kernel_rfl) | (with_reducible refine And.intro ?_ ?_; first | omega | assumption | (focus (decide)) | (focus (simp; done)) | (focus (simp; omega)) | (focus (constructor <;> omega)) | fail))
            refine ⟨(k2 + 1, A ++ [z], [], z), ⟨by simp only; omega, by simp only; omega, by simp at g3 ⊢; omega, by simpa [Nat.add_assoc] using g4⟩, by simp only; omega, (Weak.auto hcx rfl rfl (Nat.le_of_ble_eq_true rfl) (by simp [go_sem, gL, kL, renOf, V.obj, lk, Nat.blt, Nat.ble, List.map_append, dv_push, hzd, Nat.add_assoc]) (by simp [go_sem, gL, kL, renOf, V.obj, lk, Nat.blt, Nat.ble, List.map_append, dv_push, hzd, Nat.add_assoc]) (by first | (intro i hi; exact absurd hi (Nat.not_lt_zero _)) | (intro i0 hi0; match i0, hi0 with | 0, _ => exact ⟨_, rfl⟩ | n0+1, h0 => exact absurd h0 (Nat.not_lt.2 (Nat.le_add_left 1 n0))) | (intro i0 hi0; match i0, hi0 with | 0, _ => exact ⟨_, rfl⟩ | 1, _ => exact ⟨_, rfl⟩ | n0+2, h0 => exact absurd h0 (Nat.not_lt.2 (Nat.le_add_left 2 n0))) | (intro i0 hi0; match i0, hi0 with | 0, _ => exact ⟨_, rfl⟩ | 1, _ => exact ⟨_, rfl⟩ | 2, _ => exact ⟨_, rfl⟩ | n0+3, h0 => exact absurd h0 (Nat.not_lt.2 (Nat.le_add_left 3 n0))) | (intro i0 hi0; match i0, hi0 with | 0, _ => exact ⟨_, rfl⟩ | 1, _ => exact ⟨_, rfl⟩ | 2, _ => exact ⟨_, rfl⟩ | 3, _ => exact ⟨_, rfl⟩ | n0+4, h0 => exact absurd h0 (Nat.not_lt.2 (Nat.le_add_left 4 n0)))) (by simp [go_sem, gL, kL, lk, renOf, V.obj, Nat.blt, Nat.ble, hzd, Nat.add_assoc]))⟩
          · have hset : (dv ((A ++ ((g0 :: G) ++ y :: xs.drop (k + k2))).map prD)).set (0 + A.length) (.d (prD z)) = dv (((A ++ [z]) ++ (G ++ y :: xs.drop (k + k2))).map prD) := by
              have := set_mid (dv (A.map prD)) (V.d (prD g0)) (dv ((G ++ y :: xs.drop (k + k2)).map prD)) (V.d (prD z))
              simpa [dv] using this
            simp only [List.nil_append, List.cons_append] at e1 e2 hset hlen
            have e3 : (dv ((A ++ g0 :: (G ++ y :: xs.drop (k + k2))).map prD))[0 + A.length]? = some (.d (prD g0)) := by
              have := get_mid A g0 (G ++ y :: xs.drop (k + k2))
              simp only [dv, Nat.zero_add, List.getElem?_map, this, Option.map_some]
            repeat' (first | (refine AW.sreg rfl fun K hK => ?_; simp only [go_sem, Nat.reduceAdd, Nat.reduceMul, Int.reduceToNat, Nat.reduceLT, Nat.reduceLeDiff, Nat.le_refl, Nat.reduceEqDiff, ↓reduceIte, beq_self_eq_true, bne_self_eq_false, Int.reduceBEq, Int.reduceBNe, or_self, true_or, or_true, Option.map_some, Option.map_none, List.length_map, e1, e2, e3, heq2, hset]) | (refine AW.sregD hmix rfl fun K hK => ?_; simp only [go_sem, Nat.reduceAdd, Nat.reduceMul, Int.reduceToNat, Nat.reduceLT, Nat.reduceLeDiff, Nat.le_refl, Nat.reduceEqDiff, ↓reduceIte, beq_self_eq_true, bne_self_eq_false, Int.reduceBEq, Int.reduceBNe, or_self, true_or, or_true, Option.map_some, Option.map_none, List.length_map, e1, e2, e3, heq2, hset]) | (refine AW.reg rfl ?_; simp only [go_sem, Nat.reduceAdd, Nat.reduceMul, Int.reduceToNat, Nat.reduceLT, Nat.reduceLeDiff, Nat.le_refl, Nat.reduceEqDiff, ↓reduceIte, beq_self_eq_true, bne_self_eq_false, Int.reduceBEq, Int.reduceBNe, or_self, true_or, or_true, Option.map_some, Option.map_none, List.length_map, e1, e2, e3, heq2, hset]) | (refine AW.seq_k fun K hK => ?_) | (refine AW.block ?_) | (refine AW.skip ?_; simp only [Then, InBlock]) | (refine AW.condT rfl (by first | rfl | (simp; omega) | (simp [*]; done) | fail) ?_) | (refine hK _ ?_; clear hK K) | (with_reducible refine And.intro (?_ : regOk _ _ = true) ?_; kernel_rfl) | (with_reducible refine And.intro ?_ ?_; first | omega | assumption | (focus (decide)) | (focus (simp; done)) | (focus (simp; omega)) | (focus (constructor <;> omega)) | fail))
            refine ⟨(k2 + 1, A ++ [z], G ++ [y], z), ⟨by simp only; omega, by simp only; omega, by simp at g3 ⊢; omega, by simpa [Nat.add_assoc] using g4⟩, by simp only; omega, (Weak.auto hcx rfl rfl (Nat.le_of_ble_eq_true rfl) (by simp [go_sem, gL, kL, renOf, V.obj, lk, Nat.blt, Nat.ble, List.map_append, dv_push, hzd, Nat.add_assoc]) (by simp [go_sem, gL, kL, renOf, V.obj, lk, Nat.blt, Nat.ble, List.map_append, dv_push, hzd, Nat.add_assoc]) (by first | (intro i hi; exact absurd hi (Nat.not_lt_zero _)) | (intro i0 hi0; match i0, hi0 with | 0, _ => exact ⟨_, rfl⟩ | n0+1, h0 => exact absurd h0 (Nat.not_lt.2 (Nat.le_add_left 1 n0))) | (intro i0 hi0; match i0, hi0 with | 0, _ => exact ⟨_, rfl⟩ | 1, _ => exact ⟨_, rfl⟩ | n0+2, h0 => exact absurd h0 (Nat.not_lt.2 (Nat.le_add_left 2 n0))) | (intro i0 hi0; match i0, hi0 with | 0, _ => exact ⟨_, rfl⟩ | 1, _ => exact ⟨_, rfl⟩ | 2, _ => exact ⟨_, rfl⟩ | n0+3, h0 => exact absurd h0 (Nat.not_lt.2 (Nat.le_add_left 3 n0))) | (intro i0 hi0; match i0, hi0 with | 0, _ => exact ⟨_, rfl⟩ | 1, _ => exact ⟨_, rfl⟩ | 2, _ => exact ⟨_, rfl⟩ | 3, _ => exact ⟨_, rfl⟩ | n0+4, h0 => exact absurd h0 (Nat.not_lt.2 (Nat.le_add_left 4 n0)))) (by simp [go_sem, gL, kL, lk, renOf, V.obj, Nat.blt, Nat.ble, hzd, Nat.add_assoc]))⟩
      · have hn : k + k2 = xs.length := by omega
        rw [hn, List.drop_length, ctM, List.append_nil] at g4
        subst g4
        have hcl : (dv ((compactM xs ++ (G ++ [y])).map prD)).take (0 + (compactM xs).length) ++ List.replicate (xs.length - (compactM xs).length) (V.d (prD ([], []))) ++ (dv ((compactM xs ++ (G ++ [y])).map prD)).drop (0 + (compactM xs).length + (xs.length - (compactM xs).length)) = dv ((compactM xs).map prD ++ List.replicate (xs.length - (compactM xs).length) (prD ([], []))) := by
          rw [List.drop_eq_nil_of_le (by simp [dv]; omega), List.append_nil]
          simp [dv]
        repeat' (first | (refine AW.sreg rfl fun K hK => ?_; simp only [go_sem, Nat.reduceAdd, Nat.reduceMul, Int.reduceToNat, Nat.reduceLT, Nat.reduceLeDiff, Nat.le_refl, Nat.reduceEqDiff, ↓reduceIte, beq_self_eq_true, bne_self_eq_false, Int.reduceBEq, Int.reduceBNe, or_self, true_or, or_true, Option.map_some, Option.map_none, List.length_map, hn, List.drop_length, hcl]) | (refine AW.seq_k fun K hK => ?_) | (refine AW.exit ?_; simp only [go_sem, ↓reduceIte]) | (refine AW.condF rfl (by first | rfl | (simp; omega) | (simp [*]; done) | fail) ?_) | (refine hK _ ?_; clear hK K) | (clear hK K; refine hK _ ?_; clear hK K) | (with_reducible refine And.intro ?_ ?_; first | omega | assumption | (focus (decide)) | (focus (simp; done)) | (focus (simp; omega)) | (focus (constructor <;> omega)) | fail))
        exact AW.ret (Fin.one rfl (by simp [go_sem]) ⟨_, rfl, by simp [go_sem]⟩ rfl (by simp [go_sem]) rfl)
  · obtain rfl : k = xs.length := by omega
    obtain ⟨y, hy, -, -⟩ := get_some (show xs.length - 1 < xs.length by omega)
    replace h3 := h3 y hy
    simp only [List.take_length, List.drop_length, ctM, List.append_nil] at h3
    replace h3 := h3.symm
    clear hxs hy h1 h2
    repeat' (first | (refine AW.sreg rfl fun K hK => ?_; simp only [go_sem, Nat.reduceAdd, Nat.reduceMul, Int.reduceToNat, Nat.reduceLT, Nat.reduceLeDiff, Nat.le_refl, Nat.reduceEqDiff, ↓reduceIte, beq_self_eq_true, bne_self_eq_false, Int.reduceBEq, Int.reduceBNe, or_self, true_or, or_true, Option.map_some, Option.map_none, List.length_map]) | (refine AW.seq_k fun K hK => ?_) | (refine AW.exit ?_; simp only [go_sem, ↓reduceIte]) | (refine AW.condF rfl (by first | rfl | (simp; omega) | (simp [*]; done) | fail) ?_) | (refine hK _ ?_; clear hK K) | (clear hK K; refine hK _ ?_; clear hK K))
    exact AW.ret (Fin.one rfl (by simp [go_sem, h3]) ⟨_, rfl, by simp [go_sem, h3]⟩ rfl (by simp [go_sem]) rfl)

end Go.AX

namespace Go.AX
open Go Go.Proofs
def cpP (a b : Pr) : Int := if Lib.compareBytes a.1 b.1 ≠ 0 then Lib.compareBytes a.1 b.1 else Lib.compareBytes a.2 b.2
def ltP (a b : Pr) : Bool := ltS a.1 b.1 || (a.1 == b.1 && ltS a.2 b.2)
theorem cpP_lt (a b : Pr) : decide (cpP a b < 0) = ltP a b := by
  unfold cpP ltP
  have h1 := cmpB_lt a.1 b.1
  have h2 := cmpB_lt a.2 b.2
  have h3 := cmpB_eq a.1 b.1
  split
  · rename_i h
    have : a.1 ≠ b.1 := fun e => h (h3.2 e)
    rw [h1]; simp [this]
  · rename_i h
    simp only [ne_eq, Decidable.not_not] at h
    rw [h2, h3.1 h, ltS_irrefl]; simp
theorem cpP_eq (a b : Pr) : cpP a b = 0 ↔ a = b := by
  unfold cpP
  have h3 := cmpB_eq a.1 b.1
  have h4 := cmpB_eq a.2 b.2
  split
  · rename_i h
    constructor
    · intro h'; exact absurd h' h
    · rintro rfl; exact absurd (h3.2 rfl) h
  · rename_i h
    simp only [ne_eq, Decidable.not_not] at h
    rw [h4]
    constructor
    · intro h'; exact Prod.ext (h3.1 h) h'
    · rintro rfl; rfl
theorem ltP_iff (a b : Pr) : ltP a b = true ↔ ltS a.1 b.1 = true ∨ (a.1 = b.1 ∧ ltS a.2 b.2 = true) := by simp [ltP]
theorem ltP_irrefl (a : Pr) : ltP a a = false := by simp [ltP, ltS_irrefl]
theorem ltP_trans {a b c : Pr} (h1 : ltP a b = true) (h2 : ltP b c = true) : ltP a c = true := by
  rw [ltP_iff] at *
  rcases h1 with h1 | ⟨e1, h1⟩ <;> rcases h2 with h2 | ⟨e2, h2⟩
  · exact .inl (ltS_trans h1 h2)
  · exact .inl (by rw [← e2]; exact h1)
  · exact .inl (by rw [e1]; exact h2)
  · exact .inr ⟨e1.trans e2, ltS_trans h1 h2⟩
theorem ltP_total {a b : Pr} (h : ltP a b = false) (hne : a ≠ b) : ltP b a = true := by
  have h' : ¬ ltP a b = true := by rw [h]; simp
  rw [ltP_iff] at *
  by_cases e : a.1 = b.1
  · refine .inr ⟨e.symm, ltS_total ?_ fun e2 => hne (Prod.ext e e2)⟩
    cases hl : ltS a.2 b.2 with
    | false => rfl
    | true => exact absurd (.inr ⟨e, hl⟩) h'
  · refine .inl (ltS_total ?_ e)
    cases hl : ltS a.1 b.1 with
    | false => rfl
    | true => exact absurd (.inl hl) h'
theorem ltP_asym (a b : Pr) (h : ltP a b = true) : ltP b a = false := by
  cases h' : ltP b a with
  | false => rfl
  | true => have := ltP_trans h h'; rw [ltP_irrefl] at this; cases this
theorem ltP_ntr (a b c : Pr) (h1 : ltP b a = false) (h2 : ltP c b = false) : ltP c a = false := by
  cases h : ltP c a with
  | false => rfl
  | true =>
    by_cases e : b = c
    · subst e; rw [h] at h1; cases h1
    · have := ltP_total h2 (Ne.symm e)
      have := ltP_trans this h
      rw [h1] at this; cases this
theorem comparePairs_any (a b : Pr) : Does Tryz.prog 58 [.d (prD a), .d (prD b)] [] (I (cpP a b)) [] := by
  refine Does.of_AW (n := 19) Tryz.func58 rfl rfl rfl fun cx hcx => ?_
  by_cases h : Lib.compareBytes a.1 b.1 = 0
  · rw [show cpP a b = Lib.compareBytes a.2 b.2 from if_neg (by simp [h])]
    repeat' (first | (refine AW.sreg rfl fun K hK => ?_; simp only [go_sem, Nat.reduceAdd, Nat.reduceMul, Int.reduceToNat, Nat.reduceLT, Nat.reduceLeDiff, Nat.le_refl, Nat.reduceEqDiff, ↓reduceIte, beq_self_eq_true, bne_self_eq_false, Int.reduceBEq, Int.reduceBNe, or_self, true_or, or_true, Option.map_some, Option.map_none]) | (refine AW.seq_k fun K hK => ?_) | (refine AW.skip ?_; simp only [Then, InBlock]) | (refine AW.condF rfl (by first | rfl | (simp; omega) | (simp [*]; done) | fail) ?_) | (refine hK _ ?_; clear hK K) | (refine run_call _ _ _ ((compareStr_any _ _).pure rfl rfl _ _) rfl rfl (dstOk_of rfl) rfl rfl rfl ?_; simp only [go_sem, Nat.reduceAdd, Nat.reduceMul, Int.reduceToNat, Nat.reduceLT, Nat.reduceLeDiff, Nat.le_refl, Nat.reduceEqDiff, ↓reduceIte, beq_self_eq_true, bne_self_eq_false, Int.reduceBEq, Int.reduceBNe, or_self, true_or, or_true, Option.map_some, Option.map_none]) | (refine AW.ret (Fin.data rfl (by first | (simp only [go_sem]; done) | (simp [go_sem, *]; done) | (simp [go_sem]; omega) | rfl) rfl)))
  · rw [show cpP a b = Lib.compareBytes a.1 b.1 from if_pos h]
    repeat' (first | (refine AW.sreg rfl fun K hK => ?_; simp only [go_sem, Nat.reduceAdd, Nat.reduceMul, Int.reduceToNat, Nat.reduceLT, Nat.reduceLeDiff, Nat.le_refl, Nat.reduceEqDiff, ↓reduceIte, beq_self_eq_true, bne_self_eq_false, Int.reduceBEq, Int.reduceBNe, or_self, true_or, or_true, Option.map_some, Option.map_none]) | (refine AW.seq_k fun K hK => ?_) | (refine AW.condT rfl (by first | rfl | (simp; omega) | (simp [*]; done) | fail) ?_) | (refine hK _ ?_; clear hK K) | (refine run_call _ _ _ ((compareStr_any _ _).pure rfl rfl _ _) rfl rfl (dstOk_of rfl) rfl rfl rfl ?_; simp only [go_sem, Nat.reduceAdd, Nat.reduceMul, Int.reduceToNat, Nat.reduceLT, Nat.reduceLeDiff, Nat.le_refl, Nat.reduceEqDiff, ↓reduceIte, beq_self_eq_true, bne_self_eq_false, Int.reduceBEq, Int.reduceBNe, or_self, true_or, or_true, Option.map_some, Option.map_none]) | (refine AW.ret (Fin.data rfl (by first | (simp only [go_sem]; done) | (simp [go_sem, *]; done) | (simp [go_sem]; omega) | rfl) rfl)))
theorem isNaN_str (x : Str) : Does Tryz.prog 98 [S x] [] (B false) [] := by
  refine Does.of_AW (n := 6) Tryz.func98 rfl rfl rfl fun cx hcx => ?_
  repeat' (first | (refine AW.sreg rfl fun K hK => ?_; simp only [go_sem, Nat.reduceAdd, Nat.reduceMul, Int.reduceToNat, Nat.reduceLT, Nat.reduceLeDiff, Nat.le_refl, Nat.reduceEqDiff, ↓reduceIte, beq_self_eq_true, bne_self_eq_false, Int.reduceBEq, Int.reduceBNe, or_self, true_or, or_true, Option.map_some, Option.map_none]) | (refine hK _ ?_; clear hK K) | (refine AW.ret (Fin.data rfl (by first | (simp only [go_sem]; done) | (simp [go_sem, *]; done) | (simp [go_sem]; omega) | rfl) rfl)))
theorem compare_str (x y : Str) : Does Tryz.prog 60 [S x, S y] [] (I (Lib.compareBytes x y)) [] := by
  have hl : ∀ a b, Op.bytesLess a b = ltS a b := fun _ _ => rfl
  rcases cmpB_cases x y with ⟨h1, h2, h3⟩ | ⟨h1, h2, h3⟩ | ⟨h2, h3⟩
  · rw [h3]
    refine Does.of_AW (n := 20) Tryz.func60 rfl rfl rfl fun cx hcx => ?_
    repeat' (first | (refine AW.sreg rfl fun K hK => ?_; simp only [go_sem, Nat.reduceAdd, Nat.reduceMul, Int.reduceToNat, Nat.reduceLT, Nat.reduceLeDiff, Nat.le_refl, Nat.reduceEqDiff, ↓reduceIte, beq_self_eq_true, bne_self_eq_false, Int.reduceBEq, Int.reduceBNe, or_self, true_or, or_true, Option.map_some, Option.map_none, hl, h1, h2]) | (refine AW.seq_k fun K hK => ?_) | (refine AW.skip ?_; simp only [Then, InBlock]) | (refine AW.condT rfl (by first | rfl | (simp; omega) | (simp [*]; done) | fail) ?_) | (refine AW.condF rfl (by first | rfl | (simp; omega) | (simp [*]; done) | fail) ?_) | (refine hK _ ?_; clear hK K) | (refine run_call _ _ _ ((isNaN_str _).pure rfl rfl _ _) rfl rfl (dstOk_of rfl) rfl rfl rfl ?_; simp only [go_sem, Nat.reduceAdd, Nat.reduceMul, Int.reduceToNat, Nat.reduceLT, Nat.reduceLeDiff, Nat.le_refl, Nat.reduceEqDiff, ↓reduceIte, beq_self_eq_true, bne_self_eq_false, Int.reduceBEq, Int.reduceBNe, or_self, true_or, or_true, Option.map_some, Option.map_none, hl, h1, h2]) | (refine AW.ret (Fin.data rfl (by first | (simp only [go_sem]; done) | (simp [go_sem, *]; done) | (simp [go_sem]; omega) | rfl) rfl)))
  · rw [h3]
    refine Does.of_AW (n := 20) Tryz.func60 rfl rfl rfl fun cx hcx => ?_
    repeat' (first | (refine AW.sreg rfl fun K hK => ?_; simp only [go_sem, Nat.reduceAdd, Nat.reduceMul, Int.reduceToNat, Nat.reduceLT, Nat.reduceLeDiff, Nat.le_refl, Nat.reduceEqDiff, ↓reduceIte, beq_self_eq_true, bne_self_eq_false, Int.reduceBEq, Int.reduceBNe, or_self, true_or, or_true, Option.map_some, Option.map_none, hl, h1, h2, Bool.or_false]) | (refine AW.seq_k fun K hK => ?_) | (refine AW.skip ?_; simp only [Then, InBlock]) | (refine AW.condT rfl (by first | rfl | (simp; omega) | (simp [*]; done) | fail) ?_) | (refine AW.condF rfl (by first | rfl | (simp; omega) | (simp [*]; done) | fail) ?_) | (refine hK _ ?_; clear hK K) | (refine run_call _ _ _ ((isNaN_str _).pure rfl rfl _ _) rfl rfl (dstOk_of rfl) rfl rfl rfl ?_; simp only [go_sem, Nat.reduceAdd, Nat.reduceMul, Int.reduceToNat, Nat.reduceLT, Nat.reduceLeDiff, Nat.le_refl, Nat.reduceEqDiff, ↓reduceIte, beq_self_eq_true, bne_self_eq_false, Int.reduceBEq, Int.reduceBNe, or_self, true_or, or_true, Option.map_some, Option.map_none, hl, h1, h2, Bool.or_false]) | (refine AW.ret (Fin.data rfl (by first | (simp only [go_sem]; done) | (simp [go_sem, *]; done) | (simp [go_sem]; omega) | rfl) rfl)))
  · rw [h3]
    subst h2
    refine Does.of_AW (n := 20) Tryz.func60 rfl rfl rfl fun cx hcx => ?_
    repeat' (first | (refine AW.sreg rfl fun K hK => ?_; simp only [go_sem, Nat.reduceAdd, Nat.reduceMul, Int.reduceToNat, Nat.reduceLT, Nat.reduceLeDiff, Nat.le_refl, Nat.reduceEqDiff, ↓reduceIte, beq_self_eq_true, bne_self_eq_false, Int.reduceBEq, Int.reduceBNe, or_self, true_or, or_true, Option.map_some, Option.map_none, hl, ltS_irrefl, Bool.or_true]) | (refine AW.seq_k fun K hK => ?_) | (refine AW.skip ?_; simp only [Then, InBlock]) | (refine AW.condF rfl (by first | rfl | (simp; omega) | (simp [*]; done) | fail) ?_) | (refine hK _ ?_; clear hK K) | (refine run_call _ _ _ ((isNaN_str _).pure rfl rfl _ _) rfl rfl (dstOk_of rfl) rfl rfl rfl ?_; simp only [go_sem, Nat.reduceAdd, Nat.reduceMul, Int.reduceToNat, Nat.reduceLT, Nat.reduceLeDiff, Nat.le_refl, Nat.reduceEqDiff, ↓reduceIte, beq_self_eq_true, bne_self_eq_false, Int.reduceBEq, Int.reduceBNe, or_self, true_or, or_true, Option.map_some, Option.map_none, hl, ltS_irrefl, Bool.or_true]) | (refine AW.ret (Fin.data rfl (by first | (simp only [go_sem]; done) | (simp [go_sem, *]; done) | (simp [go_sem]; omega) | rfl) rfl)))
theorem compare2_any (a b c d : Str) : Does Tryz.prog 44 [.d (.sl [.str a, .str b]), .d (.sl [.str c, .str d])] [] (I (cpP (a, b) (c, d))) [] := by
  refine Does.of_AW (n := 36) Tryz.func44 rfl rfl rfl fun cx hcx => ?_
  unfold cpP
  by_cases h : Lib.compareBytes a c = 0
  · rw [if_neg (by simp [h])]
    by_cases h2 : Lib.compareBytes b d = 0
    · rw [h2]
      repeat' (first | (refine AW.sreg rfl fun K hK => ?_; simp only [go_sem, Nat.reduceAdd, Nat.reduceMul, Int.reduceToNat, Nat.reduceLT, Nat.reduceLeDiff, Nat.le_refl, Nat.reduceEqDiff, ↓reduceIte, beq_self_eq_true, bne_self_eq_false, Int.reduceBEq, Int.reduceBNe, or_self, true_or, or_true, Option.map_some, Option.map_none, h, h2, Int.zero_add, Int.reduceAdd]) | (refine AW.reg rfl ?_; simp only [go_sem, Nat.reduceAdd, Nat.reduceMul, Int.reduceToNat, Nat.reduceLT, Nat.reduceLeDiff, Nat.le_refl, Nat.reduceEqDiff, ↓reduceIte, beq_self_eq_true, bne_self_eq_false, Int.reduceBEq, Int.reduceBNe, or_self, true_or, or_true, Option.map_some, Option.map_none, h, h2, Int.zero_add, Int.reduceAdd]) | (refine AW.seq_k fun K hK => ?_) | (refine AW.block ?_) | (refine AW.skip ?_; simp only [Then, InBlock]) | (refine AW.exit ?_; simp only [go_sem, ↓reduceIte]) | (refine AW.condT rfl (by first | rfl | (simp; omega) | (simp [*]; done) | fail) ?_) | (refine AW.condF rfl (by first | rfl | (simp; omega) | (simp [*]; done) | fail) ?_) | (refine hK _ ?_; clear hK K) | (clear hK K; refine hK _ ?_; clear hK K) | (refine AW.unroll 3 ?_; simp only [AWr]) | (refine run_call _ _ _ ((compare_str _ _).pure rfl rfl _ _) rfl rfl (dstOk_of rfl) rfl rfl rfl ?_; simp only [go_sem, Nat.reduceAdd, Nat.reduceMul, Int.reduceToNat, Nat.reduceLT, Nat.reduceLeDiff, Nat.le_refl, Nat.reduceEqDiff, ↓reduceIte, beq_self_eq_true, bne_self_eq_false, Int.reduceBEq, Int.reduceBNe, or_self, true_or, or_true, Option.map_some, Option.map_none, h, h2, Int.zero_add, Int.reduceAdd]) | (with_reducible refine And.intro ?_ ?_; first | omega | assumption | (focus (decide)) | (focus (simp; done)) | (focus (simp; omega)) | (focus (constructor <;> omega)) | fail) | (refine AW.ret (Fin.data rfl (by first | (simp only [go_sem]; done) | (simp [go_sem, *]; done) | (simp [go_sem]; omega) | rfl) rfl)))
    · repeat' (first | (refine AW.sreg rfl fun K hK => ?_; simp only [go_sem, Nat.reduceAdd, Nat.reduceMul, Int.reduceToNat, Nat.reduceLT, Nat.reduceLeDiff, Nat.le_refl, Nat.reduceEqDiff, ↓reduceIte, beq_self_eq_true, bne_self_eq_false, Int.reduceBEq, Int.reduceBNe, or_self, true_or, or_true, Option.map_some, Option.map_none, h, Int.zero_add, Int.reduceAdd]) | (refine AW.reg rfl ?_; simp only [go_sem, Nat.reduceAdd, Nat.reduceMul, Int.reduceToNat, Nat.reduceLT, Nat.reduceLeDiff, Nat.le_refl, Nat.reduceEqDiff, ↓reduceIte, beq_self_eq_true, bne_self_eq_false, Int.reduceBEq, Int.reduceBNe, or_self, true_or, or_true, Option.map_some, Option.map_none, h, Int.zero_add, Int.reduceAdd]) | (refine AW.seq_k fun K hK => ?_) | (refine AW.block ?_) | (refine AW.skip ?_; simp only [Then, InBlock]) | (refine AW.condT rfl (by first | rfl | (simp; omega) | (simp [*]; done) | fail) ?_) | (refine AW.condF rfl (by first | rfl | (simp; omega) | (simp [*]; done) | fail) ?_) | (refine hK _ ?_; clear hK K) | (refine AW.unroll 3 ?_; simp only [AWr]) | (refine run_call _ _ _ ((compare_str _ _).pure rfl rfl _ _) rfl rfl (dstOk_of rfl) rfl rfl rfl ?_; simp only [go_sem, Nat.reduceAdd, Nat.reduceMul, Int.reduceToNat, Nat.reduceLT, Nat.reduceLeDiff, Nat.le_refl, Nat.reduceEqDiff, ↓reduceIte, beq_self_eq_true, bne_self_eq_false, Int.reduceBEq, Int.reduceBNe, or_self, true_or, or_true, Option.map_some, Option.map_none, h, Int.zero_add, Int.reduceAdd]) | (with_reducible refine And.intro ?_ ?_; first | omega | assumption | (focus (decide)) | (focus (simp; done)) | (focus (simp; omega)) | (focus (constructor <;> omega)) | fail) | (refine AW.ret (Fin.data rfl (by first | (simp only [go_sem]; done) | (simp [go_sem, *]; done) | (simp [go_sem]; omega) | rfl) rfl)))
  · rw [if_pos h]
    repeat' (first | (refine AW.sreg rfl fun K hK => ?_; simp only [go_sem, Nat.reduceAdd, Nat.reduceMul, Int.reduceToNat, Nat.reduceLT, Nat.reduceLeDiff, Nat.le_refl, Nat.reduceEqDiff, ↓reduceIte, beq_self_eq_true, bne_self_eq_false, Int.reduceBEq, Int.reduceBNe, or_self, true_or, or_true, Option.map_some, Option.map_none, Int.zero_add, Int.reduceAdd]) | (refine AW.seq_k fun K hK => ?_) | (refine AW.block ?_) | (refine AW.skip ?_; simp only [Then, InBlock]) | (refine AW.condT rfl (by first | rfl | (simp; omega) | (simp [*]; done) | fail) ?_) | (refine AW.condF rfl (by first | rfl | (simp; omega) | (simp [*]; done) | fail) ?_) | (refine hK _ ?_; clear hK K) | (refine AW.unroll 3 ?_; simp only [AWr]) | (refine run_call _ _ _ ((compare_str _ _).pure rfl rfl _ _) rfl rfl (dstOk_of rfl) rfl rfl rfl ?_; simp only [go_sem, Nat.reduceAdd, Nat.reduceMul, Int.reduceToNat, Nat.reduceLT, Nat.reduceLeDiff, Nat.le_refl, Nat.reduceEqDiff, ↓reduceIte, beq_self_eq_true, bne_self_eq_false, Int.reduceBEq, Int.reduceBNe, or_self, true_or, or_true, Option.map_some, Option.map_none, Int.zero_add, Int.reduceAdd]) | (with_reducible refine And.intro ?_ ?_; first | omega | assumption | (focus (decide)) | (focus (simp; done)) | (focus (simp; omega)) | (focus (constructor <;> omega)) | fail) | (refine AW.ret (Fin.data rfl (by first | (simp only [go_sem]; done) | (simp [go_sem, *]; done) | (simp [go_sem]; omega) | rfl) rfl)))
theorem pairOrder_any (a b : Pr) : Does Tryz.prog 22 [.d (prD a), .d (prD b)] [] (I (cpP a b)) [] := by
  refine Does.of_AW (n := 16) Tryz.func22 rfl rfl rfl fun cx hcx => ?_
  repeat' (first | (refine AW.sreg rfl fun K hK => ?_; simp only [go_sem, Nat.reduceAdd, Nat.reduceMul, Int.reduceToNat, Nat.reduceLT, Nat.reduceLeDiff, Nat.le_refl, Nat.reduceEqDiff, ↓reduceIte, beq_self_eq_true, bne_self_eq_false, Int.reduceBEq, Int.reduceBNe, or_self, true_or, or_true, Option.map_some, Option.map_none]) | (refine hK _ ?_; clear hK K) | (refine run_call _ _ _ ((compare2_any a.1 a.2 b.1 b.2).borrow rfl rfl rfl) rfl rfl (dstOk_of rfl) rfl rfl rfl ?_; simp only [go_sem, Nat.reduceAdd, Nat.reduceMul, Int.reduceToNat, Nat.reduceLT, Nat.reduceLeDiff, Nat.le_refl, Nat.reduceEqDiff, ↓reduceIte, beq_self_eq_true, bne_self_eq_false, Int.reduceBEq, Int.reduceBNe, or_self, true_or, or_true, Option.map_some, Option.map_none]) | (refine AW.ret (Fin.data rfl (by first | (simp only [go_sem]; done) | (simp [go_sem, *]; done) | (simp [go_sem]; omega) | rfl) rfl)))
end Go.AX
