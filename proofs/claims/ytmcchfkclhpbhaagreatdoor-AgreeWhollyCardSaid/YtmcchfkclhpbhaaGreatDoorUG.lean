/- Whether marks agree: the law's own words. -/
import Derived.Test.YtmcchfkclhpbhaaGreatDoorUF
import Derived.Test.YtmcchfkclhpbhaaGreatDoorUE
set_option linter.unusedSimpArgs false
set_option linter.unusedVariables false
set_option linter.unnecessarySimpa false
set_option maxRecDepth 1000000
set_option maxHeartbeats 4000000
namespace Go.AX
open Go Go.Proofs Go.RowKit
theorem compact_In (xs : List (Int)) (hl : xs.length ≤ 1000) :
    Does Tryz.prog 43 [.slr 0 0 xs.length] [.vec 3 1 (dv (xs.map (D.int .i64)))] (.slr 0 0 (compactM xs).length) [.vec 3 1 (dv ((compactM xs).map (D.int .i64) ++ List.replicate (xs.length - (compactM xs).length) (D.int .i64 0)))] := by
  cases xs with
  | nil =>
    refine Does.of_AW (n := 61) Tryz.func43 rfl rfl rfl fun cx hcx => ?_
    repeat' (first | (refine AW.sreg rfl fun K hK => ?_; simp only [go_sem, Nat.reduceAdd, Nat.reduceMul, Int.reduceToNat, Nat.reduceLT, Nat.reduceLeDiff, Nat.le_refl, Nat.reduceEqDiff, ↓reduceIte, beq_self_eq_true, bne_self_eq_false, Int.reduceBEq, Int.reduceBNe, or_self, true_or, or_true, Option.map_some, Option.map_none]) | (refine AW.seq_k fun K hK => ?_) | (refine AW.condT rfl (by first | rfl | (simp; omega) | (simp [*]; done) | fail) ?_) | (refine hK _ ?_; clear hK K))
    exact AW.ret (Fin.one rfl (by simp [go_sem, compactM]) ⟨_, rfl, by simp [go_sem, compactM]⟩ rfl (by simp [go_sem]) rfl)
  | cons x0 r0 =>
  generalize hxs : x0 :: r0 = xs at *
  refine Does.of_AW (n := 61) Tryz.func43 rfl rfl rfl fun cx hcx => ?_
  repeat' (first | (refine AW.sreg rfl fun K hK => ?_; simp only [go_sem, Nat.reduceAdd, Nat.reduceMul, Int.reduceToNat, Nat.reduceLT, Nat.reduceLeDiff, Nat.le_refl, Nat.reduceEqDiff, ↓reduceIte, beq_self_eq_true, bne_self_eq_false, Int.reduceBEq, Int.reduceBNe, or_self, true_or, or_true, Option.map_some, Option.map_none, List.length_map]) | (refine AW.seq_k fun K hK => ?_) | (refine AW.block ?_) | (refine AW.skip ?_; simp only [Then, InBlock]) | (refine AW.cond rfl (fun h => ?_) (fun h => ?_) <;> (try simp only [decide_eq_true_eq, decide_eq_false_iff_not, Bool.not_eq_true', Bool.not_eq_false', Bool.not_eq_eq_eq_not, Bool.not_true, Bool.not_false, beq_iff_eq, bne_iff_ne, beq_eq_false_iff_ne, ne_eq, Bool.and_eq_true, Bool.or_eq_true, Bool.or_eq_false_iff] at h)) | (refine hK _ ?_; clear hK K))
  · have : r0 = [] := by
      rw [← hxs] at h; cases r0 with
      | nil => rfl
      | cons => simp at h; omega
    subst this
    subst hxs
    exact AW.ret (Fin.one rfl (by simp [go_sem, compactM, ctM]) ⟨_, rfl, by simp [go_sem, compactM, ctM]⟩ rfl (by simp [go_sem]) rfl)
  refine AW.loopF (ι := Nat) [0] (fun p => [(3, I p)]) (fun p => [(0, some (O.vec 3 1 (dv (xs.map (D.int .i64)))))]) 1 (fun p => 1 ≤ p ∧ p ≤ xs.length ∧ ∀ y, xs[p - 1]? = some y → xs.take p ++ ctM y (xs.drop p) = compactM xs) (fun p => xs.length - p) 1 ⟨by simp, by omega, by rw [← hxs]; intro y hy; simp at hy; subst hy; simp [compactM]⟩ (Weak.auto hcx rfl rfl (Nat.le_of_ble_eq_true rfl) (by simp [go_sem, gL, kL, renOf, V.obj, lk, Nat.blt, Nat.ble, List.map_append, dv_push]) (by simp [go_sem, gL, kL, renOf, V.obj, lk, Nat.blt, Nat.ble, List.map_append, dv_push]) (by first | (intro i hi; exact absurd hi (Nat.not_lt_zero _)) | (intro i0 hi0; match i0, hi0 with | 0, _ => exact ⟨_, rfl⟩ | n0+1, h0 => exact absurd h0 (Nat.not_lt.2 (Nat.le_add_left 1 n0))) | (intro i0 hi0; match i0, hi0 with | 0, _ => exact ⟨_, rfl⟩ | 1, _ => exact ⟨_, rfl⟩ | n0+2, h0 => exact absurd h0 (Nat.not_lt.2 (Nat.le_add_left 2 n0))) | (intro i0 hi0; match i0, hi0 with | 0, _ => exact ⟨_, rfl⟩ | 1, _ => exact ⟨_, rfl⟩ | 2, _ => exact ⟨_, rfl⟩ | n0+3, h0 => exact absurd h0 (Nat.not_lt.2 (Nat.le_add_left 3 n0))) | (intro i0 hi0; match i0, hi0 with | 0, _ => exact ⟨_, rfl⟩ | 1, _ => exact ⟨_, rfl⟩ | 2, _ => exact ⟨_, rfl⟩ | 3, _ => exact ⟨_, rfl⟩ | n0+4, h0 => exact absurd h0 (Nat.not_lt.2 (Nat.le_add_left 4 n0)))) (by simp [go_sem, gL, kL, lk, renOf, V.obj, Nat.blt, Nat.ble])) ?_; simp only [St.at_nil, St.at_cons, lk, Nat.reduceEqDiff, ↓reduceIte, Option.getD_some, Option.getD_none, List.cons_append, List.nil_append, List.append_nil]
  rintro k ⟨h1, h2, h3⟩
  by_cases hi : k < xs.length
  · obtain ⟨x, hx, hxm, hxd⟩ := get_some hi
    obtain ⟨y, hy, hym, hyd⟩ := get_some (show k - 1 < xs.length by omega)
    have hget : (dv (xs.map (D.int .i64)))[0 + k]? = some (.d ((D.int .i64) x)) := by simp only [dv, Nat.zero_add, List.getElem?_map, hx, Option.map_some]
    have hget2 : (dv (xs.map (D.int .i64)))[0 + ((k : Int) - 1).toNat]? = some (.d ((D.int .i64) y)) := by
      rw [show ((k : Int) - 1).toNat = k - 1 by omega]
      simp only [dv, Nat.zero_add, List.getElem?_map, hy, Option.map_some]
    have h3 := h3 y hy
    rw [hxd, ctM] at h3
    have heq : ((fun (x y : Int) => x == y) x y) = (x == y) := rfl
    dsimp only at heq
    cases hb : (x == y) with
    | false =>
      rw [hb] at heq h3
      simp only [Bool.false_eq_true, if_false] at h3
      repeat' (first | ((first | refine AW.sreg rfl fun K hK => ?_ | refine AW.sregD hmix rfl fun K hK => ?_ | refine AW.reg rfl ?_); simp only [go_sem, Nat.reduceAdd, Nat.reduceMul, Int.reduceToNat, Nat.reduceLT, Nat.reduceLeDiff, Nat.le_refl, Nat.reduceEqDiff, ↓reduceIte, beq_self_eq_true, bne_self_eq_false, Int.reduceBEq, Int.reduceBNe, or_self, true_or, or_true, Option.map_some, Option.map_none, List.length_map, hget, hget2, heq]) | (refine AW.seq_k fun K hK => ?_) | (refine AW.block ?_) | (refine AW.skip ?_; simp only [Then, InBlock]) | (refine AW.condT rfl (by first | rfl | (simp; omega) | (simp [*]; done) | fail) ?_) | (refine AW.condF rfl (by first | rfl | (simp; omega) | (simp [*]; done) | fail) ?_) | (refine hK _ ?_; clear hK K) | (with_reducible refine And.intro (?_ : regOk _ _ = true) ?_; kernel_rfl) | (with_reducible refine And.intro ?_ ?_; first | omega | assumption | (focus (decide)) | (focus (simp; done)) | (focus (simp; omega)) | (focus (constructor <;> omega)) | fail))
      refine ⟨k + 1, ⟨by omega, hi, fun z hz => ?_⟩, by omega, (Weak.auto hcx rfl rfl (Nat.le_of_ble_eq_true rfl) (by simp [go_sem, gL, kL, renOf, V.obj, lk, Nat.blt, Nat.ble, List.map_append, dv_push]) (by simp [go_sem, gL, kL, renOf, V.obj, lk, Nat.blt, Nat.ble, List.map_append, dv_push]) (by first | (intro i hi; exact absurd hi (Nat.not_lt_zero _)) | (intro i0 hi0; match i0, hi0 with | 0, _ => exact ⟨_, rfl⟩ | n0+1, h0 => exact absurd h0 (Nat.not_lt.2 (Nat.le_add_left 1 n0))) | (intro i0 hi0; match i0, hi0 with | 0, _ => exact ⟨_, rfl⟩ | 1, _ => exact ⟨_, rfl⟩ | n0+2, h0 => exact absurd h0 (Nat.not_lt.2 (Nat.le_add_left 2 n0))) | (intro i0 hi0; match i0, hi0 with | 0, _ => exact ⟨_, rfl⟩ | 1, _ => exact ⟨_, rfl⟩ | 2, _ => exact ⟨_, rfl⟩ | n0+3, h0 => exact absurd h0 (Nat.not_lt.2 (Nat.le_add_left 3 n0))) | (intro i0 hi0; match i0, hi0 with | 0, _ => exact ⟨_, rfl⟩ | 1, _ => exact ⟨_, rfl⟩ | 2, _ => exact ⟨_, rfl⟩ | 3, _ => exact ⟨_, rfl⟩ | n0+4, h0 => exact absurd h0 (Nat.not_lt.2 (Nat.le_add_left 4 n0)))) (by simp [go_sem, gL, kL, lk, renOf, V.obj, Nat.blt, Nat.ble]))⟩
      rw [Nat.add_sub_cancel, hx] at hz
      cases hz
      rw [← h3, List.take_add_one, hx]
      simp
    | true =>
      rw [hb] at heq h3
      simp only [if_true] at h3
      obtain rfl : x = y := by simpa using hb
      repeat' (first | ((first | refine AW.sreg rfl fun K hK => ?_ | refine AW.sregD hmix rfl fun K hK => ?_); simp only [go_sem, Nat.reduceAdd, Nat.reduceMul, Int.reduceToNat, Nat.reduceLT, Nat.reduceLeDiff, Nat.le_refl, Nat.reduceEqDiff, ↓reduceIte, beq_self_eq_true, bne_self_eq_false, Int.reduceBEq, Int.reduceBNe, or_self, true_or, or_true, Option.map_some, Option.map_none, List.length_map, hget, hget2, heq]) | (refine AW.seq_k fun K hK => ?_) | (refine AW.block ?_) | (refine AW.skip ?_; simp only [Then, InBlock]) | (refine AW.condT rfl (by first | rfl | (simp; omega) | (simp [*]; done) | fail) ?_) | (refine hK _ ?_; clear hK K) | (with_reducible refine And.intro (?_ : regOk _ _ = true) ?_; kernel_rfl) | (with_reducible refine And.intro ?_ ?_; first | omega | assumption | (focus (decide)) | (focus (simp; done)) | (focus (simp; omega)) | (focus (constructor <;> omega)) | fail))
      refine AW.loopF (ι := Nat × List (Int) × List (Int) × Int) [0, 4] (fun p => [(3, I p.2.1.length), (5, I p.1)]) (fun p => [(0, some (O.vec 3 1 (dv ((p.2.1 ++ (p.2.2.1 ++ p.2.2.2 :: xs.drop (k + p.1))).map (D.int .i64)))))]) 1 (fun p => 1 ≤ p.1 ∧ k + p.1 ≤ xs.length ∧ p.2.1.length + p.2.2.1.length + 1 = k + p.1 ∧ p.2.1 ++ ctM p.2.2.2 (xs.drop (k + p.1)) = compactM xs) (fun p => xs.length - p.1) (1, xs.take k, [], x) ⟨by simp, by simp only; omega, by simp; omega, h3⟩ (Weak.auto hcx rfl rfl (Nat.le_of_ble_eq_true rfl) (by simp [go_sem, gL, kL, renOf, V.obj, lk, Nat.blt, Nat.ble, List.map_append, dv_push, ← hxd, List.take_append_drop, Nat.min_eq_left (Nat.le_of_lt hi)]) (by simp [go_sem, gL, kL, renOf, V.obj, lk, Nat.blt, Nat.ble, List.map_append, dv_push, ← hxd, List.take_append_drop, Nat.min_eq_left (Nat.le_of_lt hi)]) (by first | (intro i hi; exact absurd hi (Nat.not_lt_zero _)) | (intro i0 hi0; match i0, hi0 with | 0, _ => exact ⟨_, rfl⟩ | n0+1, h0 => exact absurd h0 (Nat.not_lt.2 (Nat.le_add_left 1 n0))) | (intro i0 hi0; match i0, hi0 with | 0, _ => exact ⟨_, rfl⟩ | 1, _ => exact ⟨_, rfl⟩ | n0+2, h0 => exact absurd h0 (Nat.not_lt.2 (Nat.le_add_left 2 n0))) | (intro i0 hi0; match i0, hi0 with | 0, _ => exact ⟨_, rfl⟩ | 1, _ => exact ⟨_, rfl⟩ | 2, _ => exact ⟨_, rfl⟩ | n0+3, h0 => exact absurd h0 (Nat.not_lt.2 (Nat.le_add_left 3 n0))) | (intro i0 hi0; match i0, hi0 with | 0, _ => exact ⟨_, rfl⟩ | 1, _ => exact ⟨_, rfl⟩ | 2, _ => exact ⟨_, rfl⟩ | 3, _ => exact ⟨_, rfl⟩ | n0+4, h0 => exact absurd h0 (Nat.not_lt.2 (Nat.le_add_left 4 n0)))) (by simp [go_sem, gL, kL, lk, renOf, V.obj, Nat.blt, Nat.ble, ← hxd, List.take_append_drop, Nat.min_eq_left (Nat.le_of_lt hi)])) ?_; simp only [St.at_nil, St.at_cons, lk, Nat.reduceEqDiff, ↓reduceIte, Option.getD_some, Option.getD_none, List.cons_append, List.nil_append, List.append_nil]
      rintro ⟨k2, A, G, y⟩ ⟨g1, g2, g3, g4⟩
      simp only at g1 g2 g3 g4 ⊢
      by_cases hj : k + k2 < xs.length
      · obtain ⟨z, hz, hzm, hzd⟩ := get_some hj
        have e1 : (dv ((A ++ (G ++ y :: xs.drop (k + k2))).map (D.int .i64)))[0 + k + k2]? = some (.d ((D.int .i64) z)) := by
          have : (A ++ (G ++ y :: xs.drop (k + k2)))[k + k2]? = some z := by
            rw [show A ++ (G ++ y :: xs.drop (k + k2)) = (A ++ (G ++ [y])) ++ xs.drop (k + k2) by simp, List.getElem?_append_right (by simp; omega), show k + k2 - (A ++ (G ++ [y])).length = 0 by simp; omega, hzd]
            rfl
          simp only [dv, Nat.zero_add, List.getElem?_map, this, Option.map_some]
        have e2 : (dv ((A ++ (G ++ y :: xs.drop (k + k2))).map (D.int .i64)))[0 + k + ((k2 : Int) - 1).toNat]? = some (.d ((D.int .i64) y)) := by
          have : (A ++ (G ++ y :: xs.drop (k + k2)))[k + ((k2 : Int) - 1).toNat]? = some y := by
            rw [show A ++ (G ++ y :: xs.drop (k + k2)) = (A ++ G) ++ (y :: xs.drop (k + k2)) by simp, List.getElem?_append_right (by simp; omega), show k + ((k2 : Int) - 1).toNat - (A ++ G).length = 0 by simp; omega]
            rfl
          simp only [dv, Nat.zero_add, List.getElem?_map, this, Option.map_some]
        have hlen : (A ++ (G ++ y :: xs.drop (k + k2))).length = xs.length := by simp; omega
        have heq2 : ((fun (x y : Int) => x == y) z y) = (z == y) := rfl
        dsimp only at heq2
        rw [hzd, ctM] at g4
        cases hb2 : (z == y) with
        | true =>
          rw [hb2] at heq2 g4
          simp only [if_true] at g4
          obtain rfl : z = y := by simpa using hb2
          repeat' (first | ((first | refine AW.sreg rfl fun K hK => ?_ | refine AW.sregD hmix rfl fun K hK => ?_ | refine AW.reg rfl ?_); simp only [go_sem, Nat.reduceAdd, Nat.reduceMul, Int.reduceToNat, Nat.reduceLT, Nat.reduceLeDiff, Nat.le_refl, Nat.reduceEqDiff, ↓reduceIte, beq_self_eq_true, bne_self_eq_false, Int.reduceBEq, Int.reduceBNe, or_self, true_or, or_true, Option.map_some, Option.map_none, List.length_map, e1, e2, heq2, bne, Bool.not_true, Bool.not_false]) | (refine AW.seq_k fun K hK => ?_) | (refine AW.block ?_) | (refine AW.skip ?_; simp only [Then, InBlock]) | (refine AW.condT rfl (by first | rfl | (simp; omega) | (simp [*]; done) | fail) ?_) | (refine AW.condF rfl (by first | rfl | (simp; omega) | (simp [*]; done) | fail) ?_) | (refine hK _ ?_; clear hK K) | (with_reducible refine And.intro (?_ : regOk _ _ = true) ?_; kernel_rfl) | (with_reducible refine And.intro ?_ ?_; first | omega | assumption | (focus (decide)) | (focus (simp; done)) | (focus (simp; omega)) | (focus (constructor <;> omega)) | fail))
          refine ⟨(k2 + 1, A, G ++ [z], z), ⟨by simp only; omega, by simp only; omega, by simp; omega, by simpa [Nat.add_assoc] using g4⟩, by simp only; omega, (Weak.auto hcx rfl rfl (Nat.le_of_ble_eq_true rfl) (by simp [go_sem, gL, kL, renOf, V.obj, lk, Nat.blt, Nat.ble, List.map_append, dv_push, hzd, Nat.add_assoc]) (by simp [go_sem, gL, kL, renOf, V.obj, lk, Nat.blt, Nat.ble, List.map_append, dv_push, hzd, Nat.add_assoc]) (by first | (intro i hi; exact absurd hi (Nat.not_lt_zero _)) | (intro i0 hi0; match i0, hi0 with | 0, _ => exact ⟨_, rfl⟩ | n0+1, h0 => exact absurd h0 (Nat.not_lt.2 (Nat.le_add_left 1 n0))) | (intro i0 hi0; match i0, hi0 with | 0, _ => exact ⟨_, rfl⟩ | 1, _ => exact ⟨_, rfl⟩ | n0+2, h0 => exact absurd h0 (Nat.not_lt.2 (Nat.le_add_left 2 n0))) | (intro i0 hi0; match i0, hi0 with | 0, _ => exact ⟨_, rfl⟩ | 1, _ => exact ⟨_, rfl⟩ | 2, _ => exact ⟨_, rfl⟩ | n0+3, h0 => exact absurd h0 (Nat.not_lt.2 (Nat.le_add_left 3 n0))) | (intro i0 hi0; match i0, hi0 with | 0, _ => exact ⟨_, rfl⟩ | 1, _ => exact ⟨_, rfl⟩ | 2, _ => exact ⟨_, rfl⟩ | 3, _ => exact ⟨_, rfl⟩ | n0+4, h0 => exact absurd h0 (Nat.not_lt.2 (Nat.le_add_left 4 n0)))) (by simp [go_sem, gL, kL, lk, renOf, V.obj, Nat.blt, Nat.ble, hzd, Nat.add_assoc]))⟩
        | false =>
          rw [hb2] at heq2 g4
          simp only [Bool.false_eq_true, if_false] at g4
          rcases G with _ | ⟨g0, G⟩
          · have hset : (dv ((A ++ ([] ++ y :: xs.drop (k + k2))).map (D.int .i64))).set (0 + A.length) (.d ((D.int .i64) z)) = dv (((A ++ [z]) ++ xs.drop (k + k2)).map (D.int .i64)) := by
              have := set_mid (dv (A.map (D.int .i64))) (V.d ((D.int .i64) y)) (dv ((xs.drop (k + k2)).map (D.int .i64))) (V.d ((D.int .i64) z))
              simpa [dv] using this
            simp only [List.nil_append, List.cons_append] at e1 e2 hset hlen
            have e3 : (dv ((A ++ y :: xs.drop (k + k2)).map (D.int .i64)))[0 + A.length]? = some (.d ((D.int .i64) y)) := by
              have := get_mid A y (xs.drop (k + k2))
              simp only [dv, Nat.zero_add, List.getElem?_map, this, Option.map_some]
            repeat' (first | ((first | refine AW.sreg rfl fun K hK => ?_ | refine AW.sregD hmix rfl fun K hK => ?_ | refine AW.reg rfl ?_); simp only [go_sem, Nat.reduceAdd, Nat.reduceMul, Int.reduceToNat, Nat.reduceLT, Nat.reduceLeDiff, Nat.le_refl, Nat.reduceEqDiff, ↓reduceIte, beq_self_eq_true, bne_self_eq_false, Int.reduceBEq, Int.reduceBNe, or_self, true_or, or_true, Option.map_some, Option.map_none, List.length_map, e1, e2, e3, heq2, bne, Bool.not_true, Bool.not_false, hset]) | (refine AW.seq_k fun K hK => ?_) | (refine AW.block ?_) | (refine AW.skip ?_; simp only [Then, InBlock]) | (refine AW.condT rfl (by first | rfl | (simp; omega) | (simp [*]; done) | fail) ?_) | (refine hK _ ?_; clear hK K) | (with_reducible refine And.intro (?_ : regOk _ _ = true) ?_; kernel_rfl) | (with_reducible refine And.intro ?_ ?_; first | omega | assumption | (focus (decide)) | (focus (simp; done)) | (focus (simp; omega)) | (focus (constructor <;> omega)) | fail))
            refine ⟨(k2 + 1, A ++ [z], [], z), ⟨by simp only; omega, by simp only; omega, by simp at g3 ⊢; omega, by simpa [Nat.add_assoc] using g4⟩, by simp only; omega, (Weak.auto hcx rfl rfl (Nat.le_of_ble_eq_true rfl) (by simp [go_sem, gL, kL, renOf, V.obj, lk, Nat.blt, Nat.ble, List.map_append, dv_push, hzd, Nat.add_assoc]) (by simp [go_sem, gL, kL, renOf, V.obj, lk, Nat.blt, Nat.ble, List.map_append, dv_push, hzd, Nat.add_assoc]) (by first | (intro i hi; exact absurd hi (Nat.not_lt_zero _)) | (intro i0 hi0; match i0, hi0 with | 0, _ => exact ⟨_, rfl⟩ | n0+1, h0 => exact absurd h0 (Nat.not_lt.2 (Nat.le_add_left 1 n0))) | (intro i0 hi0; match i0, hi0 with | 0, _ => exact ⟨_, rfl⟩ | 1, _ => exact ⟨_, rfl⟩ | n0+2, h0 => exact absurd h0 (Nat.not_lt.2 (Nat.le_add_left 2 n0))) | (intro i0 hi0; match i0, hi0 with | 0, _ => exact ⟨_, rfl⟩ | 1, _ => exact ⟨_, rfl⟩ | 2, _ => exact ⟨_, rfl⟩ | n0+3, h0 => exact absurd h0 (Nat.not_lt.2 (Nat.le_add_left 3 n0))) | (intro i0 hi0; match i0, hi0 with | 0, _ => exact ⟨_, rfl⟩ | 1, _ => exact ⟨_, rfl⟩ | 2, _ => exact ⟨_, rfl⟩ | 3, _ => exact ⟨_, rfl⟩ | n0+4, h0 => exact absurd h0 (Nat.not_lt.2 (Nat.le_add_left 4 n0)))) (by simp [go_sem, gL, kL, lk, renOf, V.obj, Nat.blt, Nat.ble, hzd, Nat.add_assoc]))⟩
          · have hset : (dv ((A ++ ((g0 :: G) ++ y :: xs.drop (k + k2))).map (D.int .i64))).set (0 + A.length) (.d ((D.int .i64) z)) = dv (((A ++ [z]) ++ (G ++ y :: xs.drop (k + k2))).map (D.int .i64)) := by
              have := set_mid (dv (A.map (D.int .i64))) (V.d ((D.int .i64) g0)) (dv ((G ++ y :: xs.drop (k + k2)).map (D.int .i64))) (V.d ((D.int .i64) z))
              simpa [dv] using this
            simp only [List.nil_append, List.cons_append] at e1 e2 hset hlen
            have e3 : (dv ((A ++ g0 :: (G ++ y :: xs.drop (k + k2))).map (D.int .i64)))[0 + A.length]? = some (.d ((D.int .i64) g0)) := by
              have := get_mid A g0 (G ++ y :: xs.drop (k + k2))
              simp only [dv, Nat.zero_add, List.getElem?_map, this, Option.map_some]
            repeat' (first | ((first | refine AW.sreg rfl fun K hK => ?_ | refine AW.sregD hmix rfl fun K hK => ?_ | refine AW.reg rfl ?_); simp only [go_sem, Nat.reduceAdd, Nat.reduceMul, Int.reduceToNat, Nat.reduceLT, Nat.reduceLeDiff, Nat.le_refl, Nat.reduceEqDiff, ↓reduceIte, beq_self_eq_true, bne_self_eq_false, Int.reduceBEq, Int.reduceBNe, or_self, true_or, or_true, Option.map_some, Option.map_none, List.length_map, e1, e2, e3, heq2, bne, Bool.not_true, Bool.not_false, hset]) | (refine AW.seq_k fun K hK => ?_) | (refine AW.block ?_) | (refine AW.skip ?_; simp only [Then, InBlock]) | (refine AW.condT rfl (by first | rfl | (simp; omega) | (simp [*]; done) | fail) ?_) | (refine hK _ ?_; clear hK K) | (with_reducible refine And.intro (?_ : regOk _ _ = true) ?_; kernel_rfl) | (with_reducible refine And.intro ?_ ?_; first | omega | assumption | (focus (decide)) | (focus (simp; done)) | (focus (simp; omega)) | (focus (constructor <;> omega)) | fail))
            refine ⟨(k2 + 1, A ++ [z], G ++ [y], z), ⟨by simp only; omega, by simp only; omega, by simp at g3 ⊢; omega, by simpa [Nat.add_assoc] using g4⟩, by simp only; omega, (Weak.auto hcx rfl rfl (Nat.le_of_ble_eq_true rfl) (by simp [go_sem, gL, kL, renOf, V.obj, lk, Nat.blt, Nat.ble, List.map_append, dv_push, hzd, Nat.add_assoc]) (by simp [go_sem, gL, kL, renOf, V.obj, lk, Nat.blt, Nat.ble, List.map_append, dv_push, hzd, Nat.add_assoc]) (by first | (intro i hi; exact absurd hi (Nat.not_lt_zero _)) | (intro i0 hi0; match i0, hi0 with | 0, _ => exact ⟨_, rfl⟩ | n0+1, h0 => exact absurd h0 (Nat.not_lt.2 (Nat.le_add_left 1 n0))) | (intro i0 hi0; match i0, hi0 with | 0, _ => exact ⟨_, rfl⟩ | 1, _ => exact ⟨_, rfl⟩ | n0+2, h0 => exact absurd h0 (Nat.not_lt.2 (Nat.le_add_left 2 n0))) | (intro i0 hi0; match i0, hi0 with | 0, _ => exact ⟨_, rfl⟩ | 1, _ => exact ⟨_, rfl⟩ | 2, _ => exact ⟨_, rfl⟩ | n0+3, h0 => exact absurd h0 (Nat.not_lt.2 (Nat.le_add_left 3 n0))) | (intro i0 hi0; match i0, hi0 with | 0, _ => exact ⟨_, rfl⟩ | 1, _ => exact ⟨_, rfl⟩ | 2, _ => exact ⟨_, rfl⟩ | 3, _ => exact ⟨_, rfl⟩ | n0+4, h0 => exact absurd h0 (Nat.not_lt.2 (Nat.le_add_left 4 n0)))) (by simp [go_sem, gL, kL, lk, renOf, V.obj, Nat.blt, Nat.ble, hzd, Nat.add_assoc]))⟩
      · have hn : k + k2 = xs.length := by omega
        rw [hn, List.drop_length, ctM, List.append_nil] at g4
        subst g4
        have hcl : (dv ((compactM xs ++ (G ++ [y])).map (D.int .i64))).take (0 + (compactM xs).length) ++ List.replicate (xs.length - (compactM xs).length) (V.d (D.int .i64 0)) ++ (dv ((compactM xs ++ (G ++ [y])).map (D.int .i64))).drop (0 + (compactM xs).length + (xs.length - (compactM xs).length)) = dv ((compactM xs).map (D.int .i64) ++ List.replicate (xs.length - (compactM xs).length) (D.int .i64 0)) := by
          rw [List.drop_eq_nil_of_le (by simp [dv]; omega), List.append_nil]
          simp [dv]
        repeat' (first | (refine AW.sreg rfl fun K hK => ?_; simp only [go_sem, Nat.reduceAdd, Nat.reduceMul, Int.reduceToNat, Nat.reduceLT, Nat.reduceLeDiff, Nat.le_refl, Nat.reduceEqDiff, ↓reduceIte, beq_self_eq_true, bne_self_eq_false, Int.reduceBEq, Int.reduceBNe, or_self, true_or, or_true, Option.map_some, Option.map_none, List.length_map, hn, List.drop_length, hcl]) | (refine AW.seq_k fun K hK => ?_) | (refine AW.exit ?_; simp only [go_sem, ↓reduceIte]) | (refine AW.condF rfl (by first | rfl | (simp; omega) | (simp [*]; done) | fail) ?_) | (refine hK _ ?_; clear hK K) | (clear hK K; refine hK _ ?_; clear hK K) | (with_reducible refine And.intro ?_ ?_; first | omega | assumption | (focus (decide)) | (focus (simp; done)) | (focus (simp; omega)) | (focus (constructor <;> omega)) | fail))
        exact AW.ret (Fin.one rfl (by simp [go_sem]) ⟨_, rfl, by simp [go_sem]⟩ rfl (by simp [go_sem]) rfl)
  · obtain rfl : k = xs.length := by omega
    obtain ⟨y, hy, -, -⟩ := get_some (show xs.length - 1 < xs.length by omega)
    replace h3 := h3 y hy
    simp only [List.take_length, List.drop_length, ctM, List.append_nil] at h3
    replace h3 := h3.symm
    clear hxs hy h1 h2
    repeat' (first | (refine AW.sreg rfl fun K hK => ?_; simp only [go_sem, Nat.reduceAdd, Nat.reduceMul, Int.reduceToNat, Nat.reduceLT, Nat.reduceLeDiff, Nat.le_refl, Nat.reduceEqDiff, ↓reduceIte, beq_self_eq_true, bne_self_eq_false, Int.reduceBEq, Int.reduceBNe, or_self, true_or, or_true, Option.map_some, Option.map_none, List.length_map]) | (refine AW.seq_k fun K hK => ?_) | (refine AW.exit ?_; simp only [go_sem, ↓reduceIte]) | (refine AW.condF rfl (by first | rfl | (simp; omega) | (simp [*]; done) | fail) ?_) | (refine hK _ ?_; clear hK K) | (clear hK K; refine hK _ ?_; clear hK K))
    exact AW.ret (Fin.one rfl (by simp [go_sem, h3]) ⟨_, rfl, by simp [go_sem, h3]⟩ rfl (by simp [go_sem]) rfl)

theorem ctM_nil (p : Int) : ∀ xs : List Int, ctM p xs = [] ↔ ∀ x ∈ xs, x = p
  | [] => by simp [ctM]
  | x :: r => by
    have ih := ctM_nil p r
    unfold ctM
    by_cases h : x = p
    · subst h
      simp only [beq_self_eq_true, if_true, ih, List.mem_cons, forall_eq_or_imp, true_and]
    · have hb : (x == p) = false := by simpa using h
      simp [hb, h]
theorem compact_two (xs : List Int) : (compactM xs).length < 2 ↔ ∀ x ∈ xs, ∀ y ∈ xs, x = y := by
  cases xs with
  | nil => simp [compactM]
  | cons x r =>
    have h := ctM_nil x r
    simp only [compactM, List.length_cons]
    constructor
    · intro h2
      have h3 := h.1 (List.eq_nil_of_length_eq_zero (by omega))
      intro a ha b hb
      have e1 : a = x := (List.mem_cons.1 ha).elim id (h3 a)
      have e2 : b = x := (List.mem_cons.1 hb).elim id (h3 b)
      rw [e1, e2]
    · intro h2
      have h3 := h.2 fun y hy => h2 y (List.mem_cons_of_mem _ hy) x (by simp)
      rw [h3]
      simp
abbrev AgT := Bool × List Int
def agI1 (i : Nat) (x : Mk) (st : AgT) (k : Nat) (y : Mk) : AgT := if i ≠ k ∧ x.1 = y.1 then (st.1 && x.2.2 == y.2.2, st.2 ++ [x.2.2]) else st
def agRw (ms : List Mk) (i : Nat) (x : Mk) (st : AgT) : Nat → AgT
  | 0 => st
  | k + 1 => agI1 i x (agRw ms i x st k) k (ms.getD k ([], [], 0))
def agO (ms : List Mk) : Nat → AgT
  | 0 => (true, [])
  | i + 1 => agRw ms i (ms.getD i ([], [], 0)) (agO ms i) ms.length
theorem agRw_succ (ms : List Mk) (i : Nat) (x : Mk) (st : AgT) {k : Nat} {y : Mk} (h : ms[k]? = some y) : agRw ms i x st (k + 1) = agI1 i x (agRw ms i x st k) k y := by
  have e : ms.getD k ([], [], 0) = y := by rw [List.getD_eq_getElem?_getD, h]; rfl
  rw [agRw, e]
theorem agO_succ (ms : List Mk) {i : Nat} {x : Mk} (h : ms[i]? = some x) : agO ms (i + 1) = agRw ms i x (agO ms i) ms.length := by
  have e : ms.getD i ([], [], 0) = x := by rw [List.getD_eq_getElem?_getD, h]; rfl
  rw [agO, e]
theorem agRw_ok (ms : List Mk) (i : Nat) (x : Mk) (st : AgT) : ∀ n, n ≤ ms.length →
    ((agRw ms i x st n).1 = true ↔ st.1 = true ∧ ∀ k y, k < n → ms[k]? = some y → i ≠ k → x.1 = y.1 → x.2.2 = y.2.2) ∧
    (∀ v, v ∈ (agRw ms i x st n).2 ↔ v ∈ st.2 ∨ ∃ k y, k < n ∧ ms[k]? = some y ∧ i ≠ k ∧ x.1 = y.1 ∧ v = x.2.2) ∧ (agRw ms i x st n).2.length ≤ st.2.length + n
  | 0, _ => by simp [agRw]
  | n + 1, hn => by
    obtain ⟨y, hy, -, -⟩ := get_some (l := ms) (i := n) (by omega)
    obtain ⟨h1, h2, h3⟩ := agRw_ok ms i x st n (by omega)
    rw [agRw_succ ms i x st hy]
    generalize agRw ms i x st n = z at *
    unfold agI1
    split
    · rename_i hc
      refine ⟨?_, fun v => ?_, ?_⟩
      · simp only [Bool.and_eq_true, beq_iff_eq, h1]
        constructor
        · rintro ⟨⟨a, b⟩, c⟩
          refine ⟨a, fun k y2 hk hy2 hik hp => ?_⟩
          rcases Nat.lt_or_ge k n with h | h
          · exact b k y2 h hy2 hik hp
          · obtain rfl : k = n := by omega
            rw [hy] at hy2
            cases hy2
            exact c
        · rintro ⟨a, b⟩
          exact ⟨⟨a, fun k y2 hk => b k y2 (by omega)⟩, b n y (by omega) hy hc.1 hc.2⟩
      · simp only [List.mem_append, List.mem_singleton, h2]
        constructor
        · rintro ((a | ⟨k, y2, a, b⟩) | rfl)
          · exact .inl a
          · exact .inr ⟨k, y2, by omega, b⟩
          · exact .inr ⟨n, y, by omega, hy, hc.1, hc.2, rfl⟩
        · rintro (a | ⟨k, y2, a, b, c, d, rfl⟩)
          · exact .inl (.inl a)
          · exact .inr rfl
      · simp only [List.length_append, List.length_cons, List.length_nil]; omega
    · rename_i hc
      refine ⟨?_, fun v => ?_, by omega⟩
      · rw [h1]
        constructor
        · rintro ⟨a, b⟩
          refine ⟨a, fun k y2 hk hy2 hik hp => ?_⟩
          rcases Nat.lt_or_ge k n with h | h
          · exact b k y2 h hy2 hik hp
          · obtain rfl : k = n := by omega
            rw [hy] at hy2
            cases hy2
            exact absurd ⟨hik, hp⟩ hc
        · rintro ⟨a, b⟩
          exact ⟨a, fun k y2 hk => b k y2 (by omega)⟩
      · rw [h2]
        constructor
        · rintro (a | ⟨k, y2, a, b⟩)
          · exact .inl a
          · exact .inr ⟨k, y2, by omega, b⟩
        · rintro (a | ⟨k, y2, a, b, c, d, e⟩)
          · exact .inl a
          · rcases Nat.lt_or_ge k n with h | h
            · exact .inr ⟨k, y2, h, b, c, d, e⟩
            · obtain rfl : k = n := by omega
              rw [hy] at b
              cases b
              exact absurd ⟨c, d⟩ hc
theorem agO_ok (ms : List Mk) : ∀ n, n ≤ ms.length →
    ((agO ms n).1 = true ↔ ∀ i x, i < n → ms[i]? = some x → ∀ k y, ms[k]? = some y → i ≠ k → x.1 = y.1 → x.2.2 = y.2.2) ∧
    (∀ v, v ∈ (agO ms n).2 ↔ ∃ i x, i < n ∧ ms[i]? = some x ∧ ∃ k y, ms[k]? = some y ∧ i ≠ k ∧ x.1 = y.1 ∧ v = x.2.2) ∧ (agO ms n).2.length ≤ n * ms.length
  | 0, _ => by simp [agO]
  | n + 1, hn => by
    obtain ⟨x, hx, -, -⟩ := get_some (l := ms) (i := n) (by omega)
    obtain ⟨h1, h2, h3⟩ := agO_ok ms n (by omega)
    rw [agO_succ ms hx]
    obtain ⟨r1, r2, r3⟩ := agRw_ok ms n x (agO ms n) ms.length (Nat.le_refl _)
    refine ⟨?_, fun v => ?_, ?_⟩
    · rw [r1, h1]
      constructor
      · rintro ⟨a, b⟩ i x2 hi hx2 k y hy hik hp
        rcases Nat.lt_or_ge i n with h | h
        · exact a i x2 h hx2 k y hy hik hp
        · obtain rfl : i = n := by omega
          rw [hx] at hx2
          cases hx2
          exact b k y (get_lt hy) hy hik hp
      · intro a
        exact ⟨fun i x2 hi => a i x2 (by omega), fun k y _ hy hik hp => a n x (by omega) hx k y hy hik hp⟩
    · rw [r2, h2]
      constructor
      · rintro (⟨i, x2, a, b⟩ | ⟨k, y, a, b, c, d, e⟩)
        · exact ⟨i, x2, by omega, b⟩
        · exact ⟨n, x, by omega, hx, k, y, b, c, d, e⟩
      · rintro ⟨i, x2, a, b, k, y, c, d, e, f⟩
        rcases Nat.lt_or_ge i n with h | h
        · exact .inl ⟨i, x2, h, b, k, y, c, d, e, f⟩
        · obtain rfl : i = n := by omega
          rw [hx] at b
          cases b
          exact .inr ⟨k, y, get_lt c, c, d, e, f⟩
    · rw [Nat.succ_mul]; omega
def agB (ms : List Mk) : Bool := (agO ms ms.length).1 || decide ((compactM (srtI (agO ms ms.length).2)).length < 2)
theorem good_lt {ms : List Mk} (g : GoodM ms) : ∀ (d i : Nat) (x y : Mk), ms[i]? = some x → ms[i + d + 1]? = some y → ltP (x.1, x.2.1) (y.1, y.2.1) = true
  | 0, i, x, y, hx, hy => by
    have h := g.ord i x y hx hy
    rw [← cpP_lt, decide_eq_true h]
  | d + 1, i, x, y, hx, hy => by
    obtain ⟨z, hz, -, -⟩ := get_some (l := ms) (i := i + d + 1) (by have := get_lt hy; omega)
    have h1 := good_lt g d i x z hx hz
    have h2 := g.ord (i + d + 1) z y hz (by rw [← hy]; congr 1)
    have h3 : ltP (z.1, z.2.1) (y.1, y.2.1) = true := by rw [← cpP_lt, decide_eq_true h2]
    exact ltP_trans h1 h3
theorem good_inj {ms : List Mk} (g : GoodM ms) {i k : Nat} {x : Mk} (hi : ms[i]? = some x) (hk : ms[k]? = some x) : i = k := by
  rcases Nat.lt_trichotomy i k with h | h | h
  · have := good_lt g (k - i - 1) i x x hi (by rw [← hk]; congr 1; omega)
    rw [ltP_irrefl] at this; cases this
  · exact h
  · have := good_lt g (i - k - 1) k x x hk (by rw [← hi]; congr 1; omega)
    rw [ltP_irrefl] at this; cases this
theorem good_nodup {ms : List Mk} (g : GoodM ms) : ms.Nodup := by
  rw [List.nodup_iff_pairwise_ne, List.pairwise_iff_getElem]
  intro i j hi hj hij e
  have := good_inj g (List.getElem?_eq_getElem hi) (by rw [e]; exact List.getElem?_eq_getElem hj)
  omega
theorem part_iff {ms : List Mk} (g : GoodM ms) {i : Nat} {x : Mk} (hx : ms[i]? = some x) : (∃ k y, ms[k]? = some y ∧ i ≠ k ∧ x.1 = y.1) ↔ 2 ≤ (gP ms x.1).length := by
  have hxm := List.mem_of_getElem? hx
  constructor
  · rintro ⟨k, y, hy, hik, hp⟩
    have hne : x ≠ y := by
      rintro rfl
      exact hik (good_inj g hx hy)
    exact two_of (mem_gP.2 ⟨hxm, rfl⟩) (mem_gP.2 ⟨List.mem_of_getElem? hy, hp.symm⟩) hne
  · intro h
    have hnd : (gP ms x.1).Nodup := List.Nodup.sublist (List.filter_sublist) (good_nodup g)
    match hg : gP ms x.1 with
    | [] => rw [hg] at h; simp at h
    | [a] => rw [hg] at h; simp at h
    | a :: b :: r =>
      rw [hg] at hnd
      have hab : a ≠ b := by
        rintro rfl
        simp at hnd
      have ha : a ∈ gP ms x.1 := by rw [hg]; simp
      have hb : b ∈ gP ms x.1 := by rw [hg]; simp
      by_cases e : a = x
      · subst e
        obtain ⟨b1, b2⟩ := mem_gP.1 hb
        obtain ⟨k, hk⟩ := List.getElem?_of_mem b1
        refine ⟨k, b, hk, ?_, b2.symm⟩
        rintro rfl
        rw [hx] at hk
        cases hk
        exact hab rfl
      · obtain ⟨a1, a2⟩ := mem_gP.1 ha
        obtain ⟨k, hk⟩ := List.getElem?_of_mem a1
        refine ⟨k, a, hk, ?_, a2.symm⟩
        rintro rfl
        rw [hx] at hk
        cases hk
        exact e rfl
theorem agB_iff {ms : List Mk} (g : GoodM ms) : agB ms = true ↔ Uni ms ∨ AllQ ms := by
  obtain ⟨h1, h2, -⟩ := agO_ok ms ms.length (Nat.le_refl _)
  unfold agB
  rw [Bool.or_eq_true, decide_eq_true_eq, compact_two, h1]
  have hmem : ∀ v, v ∈ srtI (agO ms ms.length).2 ↔ v ∈ (agO ms ms.length).2 := fun v => (srtI_perm _).mem_iff
  constructor
  · rintro (a | a)
    · left
      intro x hx y hy hp
      obtain ⟨i, hi⟩ := List.getElem?_of_mem hx
      obtain ⟨k, hk⟩ := List.getElem?_of_mem hy
      by_cases e : i = k
      · subst e
        rw [hi] at hk
        cases hk
        rfl
      · exact a i x (get_lt hi) hi k y hk e hp
    · right
      intro x hx y hy hx2 hy2
      obtain ⟨i, hi⟩ := List.getElem?_of_mem hx
      obtain ⟨k, hk⟩ := List.getElem?_of_mem hy
      obtain ⟨i2, x2, q1, q2, q3⟩ := (part_iff g hi).2 hx2
      obtain ⟨k2, y2, p1, p2, p3⟩ := (part_iff g hk).2 hy2
      exact a x.2.2 ((hmem _).2 ((h2 _).2 ⟨i, x, get_lt hi, hi, i2, x2, q1, q2, q3, rfl⟩)) y.2.2 ((hmem _).2 ((h2 _).2 ⟨k, y, get_lt hk, hk, k2, y2, p1, p2, p3, rfl⟩))
  · rintro (a | a)
    · left
      intro i x _ hi k y hk _ hp
      exact a x (List.mem_of_getElem? hi) y (List.mem_of_getElem? hk) hp
    · right
      intro v hv u hu
      obtain ⟨i, x, -, hi, k, y, q1, q2, q3, rfl⟩ := (h2 _).1 ((hmem _).1 hv)
      obtain ⟨i2, x2, -, hi2, k2, y2, p1, p2, p3, rfl⟩ := (h2 _).1 ((hmem _).1 hu)
      exact a x (List.mem_of_getElem? hi) x2 (List.mem_of_getElem? hi2) ((part_iff g hi).1 ⟨k, y, q1, q2, q3⟩) ((part_iff g hi2).1 ⟨k2, y2, p1, p2, p3⟩)
end Go.AX

namespace Go.AX
open Go Go.Proofs Go.RowKit
theorem agrees_any (ms : List Mk) (hl : ms.length ≤ 16) : Does Tryz.prog 12 [.d (.sl (ms.map mkD))] [] (B (agB ms)) [] := by
  refine Does.of_AW (n := 59) Tryz.func12 rfl rfl rfl fun cx hcx => ?_
  generalize hR : agB ms = R
  repeat' (first | (refine AW.sreg rfl fun K hK => ?_; simp only [go_sem, Nat.reduceAdd, Nat.reduceMul, Int.reduceToNat, Nat.reduceLT, Nat.reduceLeDiff, Nat.le_refl, Nat.reduceEqDiff, ↓reduceIte, beq_self_eq_true, bne_self_eq_false, Int.reduceBEq, Int.reduceBNe, or_self, true_or, or_true, Option.map_some, Option.map_none, List.length_map]) | (refine AW.seq_k fun K hK => ?_) | (refine AW.block ?_) | (refine hK _ ?_; clear hK K))
  refine AW.weak (Weak.nil 4 3 1 rfl) ?_
  refine AW.loopF (ι := Nat) [0, 9, 10] (fun p => [(3, B (agO ms p).1), (4, .slr 384 0 (agO ms p).2.length), (11, I p)]) (fun p => [(384, some (IW (agO ms p).2))]) 7 (fun p => p ≤ ms.length) (fun p => ms.length - p) 0 (Nat.zero_le _) (Weak.auto hcx rfl rfl (Nat.le_of_ble_eq_true rfl) (by simp [go_sem, gL, kL, renOf, V.obj, lk, Nat.blt, Nat.ble, List.map_append, dv_push, agO]) (by simp [go_sem, gL, kL, renOf, V.obj, lk, Nat.blt, Nat.ble, List.map_append, dv_push, agO]) (by first | (intro i hi; exact absurd hi (Nat.not_lt_zero _)) | (intro i0 hi0; match i0, hi0 with | 0, _ => exact ⟨_, rfl⟩ | n0+1, h0 => exact absurd h0 (Nat.not_lt.2 (Nat.le_add_left 1 n0))) | (intro i0 hi0; match i0, hi0 with | 0, _ => exact ⟨_, rfl⟩ | 1, _ => exact ⟨_, rfl⟩ | n0+2, h0 => exact absurd h0 (Nat.not_lt.2 (Nat.le_add_left 2 n0))) | (intro i0 hi0; match i0, hi0 with | 0, _ => exact ⟨_, rfl⟩ | 1, _ => exact ⟨_, rfl⟩ | 2, _ => exact ⟨_, rfl⟩ | n0+3, h0 => exact absurd h0 (Nat.not_lt.2 (Nat.le_add_left 3 n0))) | (intro i0 hi0; match i0, hi0 with | 0, _ => exact ⟨_, rfl⟩ | 1, _ => exact ⟨_, rfl⟩ | 2, _ => exact ⟨_, rfl⟩ | 3, _ => exact ⟨_, rfl⟩ | n0+4, h0 => exact absurd h0 (Nat.not_lt.2 (Nat.le_add_left 4 n0)))) (by simp [go_sem, gL, kL, lk, renOf, V.obj, Nat.blt, Nat.ble, agO])) ?_; simp only [St.at_nil, St.at_cons, lk, Nat.reduceEqDiff, ↓reduceIte, Option.getD_some, Option.getD_none, List.cons_append, List.nil_append, List.append_nil]
  intro i h1
  have hoi := agO_ok ms i h1
  have hm1 : i * ms.length ≤ 16 * 16 := Nat.mul_le_mul (by omega) hl
  by_cases hi : i < ms.length
  · obtain ⟨x, hx, hxm, -⟩ := get_some hi
    have hget : (ms.map mkD)[i]? = some (mkD x) := by simp only [List.getElem?_map, hx, Option.map_some]
    have hos := agO_succ ms hx
    have hrw := agRw_ok ms i x (agO ms i)
    obtain ⟨-, -, ho3⟩ := hoi
    generalize agO ms i = st at *
    obtain ⟨s1, s2⟩ := st
    simp only at ho3
    repeat' (first | (refine AW.sreg rfl fun K hK => ?_; simp only [go_sem, Nat.reduceAdd, Nat.reduceMul, Int.reduceToNat, Nat.reduceLT, Nat.reduceLeDiff, Nat.le_refl, Nat.reduceEqDiff, ↓reduceIte, beq_self_eq_true, bne_self_eq_false, Int.reduceBEq, Int.reduceBNe, or_self, true_or, or_true, Option.map_some, Option.map_none, List.length_map, hget]) | (refine AW.seq_k fun K hK => ?_) | (refine AW.block ?_) | (refine AW.skip ?_; simp only [Then, InBlock]) | (refine AW.condT rfl (by first | rfl | (simp; omega) | (simp [*]; done) | fail) ?_) | (refine hK _ ?_; clear hK K) | (with_reducible refine And.intro ?_ ?_; first | omega | assumption | (focus (decide)) | (focus (simp; done)) | (focus (simp; omega)) | (focus (constructor <;> omega)) | fail))
    refine AW.loopF (ι := Nat) [0, 5, 6, 9, 10, 11, 16, 17] (fun p => [(3, B (agRw ms i x (s1, s2) p).1), (4, .slr 384 0 (agRw ms i x (s1, s2) p).2.length), (18, I p)]) (fun p => [(704, some (O.box 39 [S x.1, S x.2.1, I x.2.2])), (384, some (IW (agRw ms i x (s1, s2) p).2))]) 17 (fun p => p ≤ ms.length) (fun p => ms.length - p) 0 (Nat.zero_le _) (Weak.auto hcx rfl rfl (Nat.le_of_ble_eq_true rfl) (by simp [go_sem, gL, kL, renOf, V.obj, lk, Nat.blt, Nat.ble, List.map_append, dv_push, agRw]) (by simp [go_sem, gL, kL, renOf, V.obj, lk, Nat.blt, Nat.ble, List.map_append, dv_push, agRw]) (by first | (intro i hi; exact absurd hi (Nat.not_lt_zero _)) | (intro i0 hi0; match i0, hi0 with | 0, _ => exact ⟨_, rfl⟩ | n0+1, h0 => exact absurd h0 (Nat.not_lt.2 (Nat.le_add_left 1 n0))) | (intro i0 hi0; match i0, hi0 with | 0, _ => exact ⟨_, rfl⟩ | 1, _ => exact ⟨_, rfl⟩ | n0+2, h0 => exact absurd h0 (Nat.not_lt.2 (Nat.le_add_left 2 n0))) | (intro i0 hi0; match i0, hi0 with | 0, _ => exact ⟨_, rfl⟩ | 1, _ => exact ⟨_, rfl⟩ | 2, _ => exact ⟨_, rfl⟩ | n0+3, h0 => exact absurd h0 (Nat.not_lt.2 (Nat.le_add_left 3 n0))) | (intro i0 hi0; match i0, hi0 with | 0, _ => exact ⟨_, rfl⟩ | 1, _ => exact ⟨_, rfl⟩ | 2, _ => exact ⟨_, rfl⟩ | 3, _ => exact ⟨_, rfl⟩ | n0+4, h0 => exact absurd h0 (Nat.not_lt.2 (Nat.le_add_left 4 n0)))) (by simp [go_sem, gL, kL, lk, renOf, V.obj, Nat.blt, Nat.ble, agRw])) ?_; simp only [St.at_nil, St.at_cons, lk, Nat.reduceEqDiff, ↓reduceIte, Option.getD_some, Option.getD_none, List.cons_append, List.nil_append, List.append_nil]
    intro k g1
    obtain ⟨-, -, hr3⟩ := hrw k g1
    by_cases hk : k < ms.length
    · obtain ⟨y, hy, hym, -⟩ := get_some hk
      have hget2 : (ms.map mkD)[k]? = some (mkD y) := by simp only [List.getElem?_map, hy, Option.map_some]
      have hsu := agRw_succ ms i x (s1, s2) hy
      unfold agI1 at hsu
      generalize agRw ms i x (s1, s2) k = z at *
      obtain ⟨z1, z2⟩ := z
      simp only at hr3 hsu ⊢
      have htl : List.take z2.length (dv (z2.map (D.int .i64))) = dv (z2.map (D.int .i64)) := List.take_of_length_le (by simp [dv])
      by_cases hik : i = k
      · subst hik
        rw [if_neg (fun h => h.1 rfl)] at hsu
        have hb : ((i : Int) != (i : Int)) = false := by simp
        repeat' (first | ((first | refine AW.sreg rfl fun K hK => ?_ | refine AW.reg rfl ?_); simp only [go_sem, Nat.reduceAdd, Nat.reduceMul, Int.reduceToNat, Nat.reduceLT, Nat.reduceLeDiff, Nat.le_refl, Nat.reduceEqDiff, ↓reduceIte, beq_self_eq_true, bne_self_eq_false, Int.reduceBEq, Int.reduceBNe, or_self, true_or, or_true, Option.map_some, Option.map_none, List.length_map, hget2, hb]) | (refine AW.seq_k fun K hK => ?_) | (refine AW.block ?_) | (refine AW.skip ?_; simp only [Then, InBlock]) | (refine AW.condT rfl (by first | rfl | (simp; omega) | (simp [*]; done) | fail) ?_) | (refine AW.condF rfl (by first | rfl | (simp; omega) | (simp [*]; done) | fail) ?_) | (refine hK _ ?_; clear hK K) | (with_reducible refine And.intro ?_ ?_; first | omega | assumption | (focus (decide)) | (focus (simp; done)) | (focus (simp; omega)) | (focus (constructor <;> omega)) | fail))
        exact ⟨i + 1, hk, by omega, (Weak.auto hcx rfl rfl (Nat.le_of_ble_eq_true rfl) (by simp [go_sem, gL, kL, renOf, V.obj, lk, Nat.blt, Nat.ble, List.map_append, dv_push, hsu]) (by simp [go_sem, gL, kL, renOf, V.obj, lk, Nat.blt, Nat.ble, List.map_append, dv_push, hsu]) (by first | (intro i hi; exact absurd hi (Nat.not_lt_zero _)) | (intro i0 hi0; match i0, hi0 with | 0, _ => exact ⟨_, rfl⟩ | n0+1, h0 => exact absurd h0 (Nat.not_lt.2 (Nat.le_add_left 1 n0))) | (intro i0 hi0; match i0, hi0 with | 0, _ => exact ⟨_, rfl⟩ | 1, _ => exact ⟨_, rfl⟩ | n0+2, h0 => exact absurd h0 (Nat.not_lt.2 (Nat.le_add_left 2 n0))) | (intro i0 hi0; match i0, hi0 with | 0, _ => exact ⟨_, rfl⟩ | 1, _ => exact ⟨_, rfl⟩ | 2, _ => exact ⟨_, rfl⟩ | n0+3, h0 => exact absurd h0 (Nat.not_lt.2 (Nat.le_add_left 3 n0))) | (intro i0 hi0; match i0, hi0 with | 0, _ => exact ⟨_, rfl⟩ | 1, _ => exact ⟨_, rfl⟩ | 2, _ => exact ⟨_, rfl⟩ | 3, _ => exact ⟨_, rfl⟩ | n0+4, h0 => exact absurd h0 (Nat.not_lt.2 (Nat.le_add_left 4 n0)))) (by simp [go_sem, gL, kL, lk, renOf, V.obj, Nat.blt, Nat.ble, hsu]))⟩
      · have hb : ((i : Int) != (k : Int)) = true := by simp; omega
        by_cases hp : x.1 = y.1
        · rw [if_pos ⟨hik, hp⟩] at hsu
          have hpb : (x.1 == y.1) = true := by simpa using hp
          cases z1 with
          | true =>
            rw [Bool.true_and] at hsu
            repeat' (first | ((first | refine AW.sreg rfl fun K hK => ?_ | refine AW.reg rfl ?_); simp only [go_sem, Nat.reduceAdd, Nat.reduceMul, Int.reduceToNat, Nat.reduceLT, Nat.reduceLeDiff, Nat.le_refl, Nat.reduceEqDiff, ↓reduceIte, beq_self_eq_true, bne_self_eq_false, Int.reduceBEq, Int.reduceBNe, or_self, true_or, or_true, Option.map_some, Option.map_none, List.length_map, hget2, hb, hpb, htl, dv_length]) | (refine AW.seq_k fun K hK => ?_) | (refine AW.block ?_) | (refine AW.skip ?_; simp only [Then, InBlock]) | (refine AW.condT rfl (by first | rfl | (simp; omega) | (simp [*]; done) | fail) ?_) | (refine hK _ ?_; clear hK K) | (with_reducible refine And.intro ?_ ?_; first | omega | assumption | (focus (decide)) | (focus (simp; done)) | (focus (simp; omega)) | (focus (constructor <;> omega)) | fail))
            exact ⟨k + 1, hk, by omega, (Weak.auto hcx rfl rfl (Nat.le_of_ble_eq_true rfl) (by simp [go_sem, gL, kL, renOf, V.obj, lk, Nat.blt, Nat.ble, List.map_append, dv_push, hsu]) (by simp [go_sem, gL, kL, renOf, V.obj, lk, Nat.blt, Nat.ble, List.map_append, dv_push, hsu]) (by first | (intro i hi; exact absurd hi (Nat.not_lt_zero _)) | (intro i0 hi0; match i0, hi0 with | 0, _ => exact ⟨_, rfl⟩ | n0+1, h0 => exact absurd h0 (Nat.not_lt.2 (Nat.le_add_left 1 n0))) | (intro i0 hi0; match i0, hi0 with | 0, _ => exact ⟨_, rfl⟩ | 1, _ => exact ⟨_, rfl⟩ | n0+2, h0 => exact absurd h0 (Nat.not_lt.2 (Nat.le_add_left 2 n0))) | (intro i0 hi0; match i0, hi0 with | 0, _ => exact ⟨_, rfl⟩ | 1, _ => exact ⟨_, rfl⟩ | 2, _ => exact ⟨_, rfl⟩ | n0+3, h0 => exact absurd h0 (Nat.not_lt.2 (Nat.le_add_left 3 n0))) | (intro i0 hi0; match i0, hi0 with | 0, _ => exact ⟨_, rfl⟩ | 1, _ => exact ⟨_, rfl⟩ | 2, _ => exact ⟨_, rfl⟩ | 3, _ => exact ⟨_, rfl⟩ | n0+4, h0 => exact absurd h0 (Nat.not_lt.2 (Nat.le_add_left 4 n0)))) (by simp [go_sem, gL, kL, lk, renOf, V.obj, Nat.blt, Nat.ble, hsu]))⟩
          | false =>
            rw [Bool.false_and] at hsu
            repeat' (first | ((first | refine AW.sreg rfl fun K hK => ?_ | refine AW.reg rfl ?_); simp only [go_sem, Nat.reduceAdd, Nat.reduceMul, Int.reduceToNat, Nat.reduceLT, Nat.reduceLeDiff, Nat.le_refl, Nat.reduceEqDiff, ↓reduceIte, beq_self_eq_true, bne_self_eq_false, Int.reduceBEq, Int.reduceBNe, or_self, true_or, or_true, Option.map_some, Option.map_none, List.length_map, hget2, hb, hpb, htl, dv_length]) | (refine AW.seq_k fun K hK => ?_) | (refine AW.block ?_) | (refine AW.skip ?_; simp only [Then, InBlock]) | (refine AW.condT rfl (by first | rfl | (simp; omega) | (simp [*]; done) | fail) ?_) | (refine hK _ ?_; clear hK K) | (with_reducible refine And.intro ?_ ?_; first | omega | assumption | (focus (decide)) | (focus (simp; done)) | (focus (simp; omega)) | (focus (constructor <;> omega)) | fail))
            exact ⟨k + 1, hk, by omega, (Weak.auto hcx rfl rfl (Nat.le_of_ble_eq_true rfl) (by simp [go_sem, gL, kL, renOf, V.obj, lk, Nat.blt, Nat.ble, List.map_append, dv_push, hsu]) (by simp [go_sem, gL, kL, renOf, V.obj, lk, Nat.blt, Nat.ble, List.map_append, dv_push, hsu]) (by first | (intro i hi; exact absurd hi (Nat.not_lt_zero _)) | (intro i0 hi0; match i0, hi0 with | 0, _ => exact ⟨_, rfl⟩ | n0+1, h0 => exact absurd h0 (Nat.not_lt.2 (Nat.le_add_left 1 n0))) | (intro i0 hi0; match i0, hi0 with | 0, _ => exact ⟨_, rfl⟩ | 1, _ => exact ⟨_, rfl⟩ | n0+2, h0 => exact absurd h0 (Nat.not_lt.2 (Nat.le_add_left 2 n0))) | (intro i0 hi0; match i0, hi0 with | 0, _ => exact ⟨_, rfl⟩ | 1, _ => exact ⟨_, rfl⟩ | 2, _ => exact ⟨_, rfl⟩ | n0+3, h0 => exact absurd h0 (Nat.not_lt.2 (Nat.le_add_left 3 n0))) | (intro i0 hi0; match i0, hi0 with | 0, _ => exact ⟨_, rfl⟩ | 1, _ => exact ⟨_, rfl⟩ | 2, _ => exact ⟨_, rfl⟩ | 3, _ => exact ⟨_, rfl⟩ | n0+4, h0 => exact absurd h0 (Nat.not_lt.2 (Nat.le_add_left 4 n0)))) (by simp [go_sem, gL, kL, lk, renOf, V.obj, Nat.blt, Nat.ble, hsu]))⟩
        · rw [if_neg (fun h => hp h.2)] at hsu
          have hpb : (x.1 == y.1) = false := by simpa using hp
          repeat' (first | ((first | refine AW.sreg rfl fun K hK => ?_ | refine AW.reg rfl ?_); simp only [go_sem, Nat.reduceAdd, Nat.reduceMul, Int.reduceToNat, Nat.reduceLT, Nat.reduceLeDiff, Nat.le_refl, Nat.reduceEqDiff, ↓reduceIte, beq_self_eq_true, bne_self_eq_false, Int.reduceBEq, Int.reduceBNe, or_self, true_or, or_true, Option.map_some, Option.map_none, List.length_map, hget2, hb, hpb]) | (refine AW.seq_k fun K hK => ?_) | (refine AW.block ?_) | (refine AW.skip ?_; simp only [Then, InBlock]) | (refine AW.condT rfl (by first | rfl | (simp; omega) | (simp [*]; done) | fail) ?_) | (refine AW.condF rfl (by first | rfl | (simp; omega) | (simp [*]; done) | fail) ?_) | (refine hK _ ?_; clear hK K) | (with_reducible refine And.intro ?_ ?_; first | omega | assumption | (focus (decide)) | (focus (simp; done)) | (focus (simp; omega)) | (focus (constructor <;> omega)) | fail))
          exact ⟨k + 1, hk, by omega, (Weak.auto hcx rfl rfl (Nat.le_of_ble_eq_true rfl) (by simp [go_sem, gL, kL, renOf, V.obj, lk, Nat.blt, Nat.ble, List.map_append, dv_push, hsu]) (by simp [go_sem, gL, kL, renOf, V.obj, lk, Nat.blt, Nat.ble, List.map_append, dv_push, hsu]) (by first | (intro i hi; exact absurd hi (Nat.not_lt_zero _)) | (intro i0 hi0; match i0, hi0 with | 0, _ => exact ⟨_, rfl⟩ | n0+1, h0 => exact absurd h0 (Nat.not_lt.2 (Nat.le_add_left 1 n0))) | (intro i0 hi0; match i0, hi0 with | 0, _ => exact ⟨_, rfl⟩ | 1, _ => exact ⟨_, rfl⟩ | n0+2, h0 => exact absurd h0 (Nat.not_lt.2 (Nat.le_add_left 2 n0))) | (intro i0 hi0; match i0, hi0 with | 0, _ => exact ⟨_, rfl⟩ | 1, _ => exact ⟨_, rfl⟩ | 2, _ => exact ⟨_, rfl⟩ | n0+3, h0 => exact absurd h0 (Nat.not_lt.2 (Nat.le_add_left 3 n0))) | (intro i0 hi0; match i0, hi0 with | 0, _ => exact ⟨_, rfl⟩ | 1, _ => exact ⟨_, rfl⟩ | 2, _ => exact ⟨_, rfl⟩ | 3, _ => exact ⟨_, rfl⟩ | n0+4, h0 => exact absurd h0 (Nat.not_lt.2 (Nat.le_add_left 4 n0)))) (by simp [go_sem, gL, kL, lk, renOf, V.obj, Nat.blt, Nat.ble, hsu]))⟩
    · obtain rfl : k = ms.length := by omega
      repeat' (first | ((first | refine AW.sreg rfl fun K hK => ?_ | refine AW.reg rfl ?_); simp only [go_sem, Nat.reduceAdd, Nat.reduceMul, Int.reduceToNat, Nat.reduceLT, Nat.reduceLeDiff, Nat.le_refl, Nat.reduceEqDiff, ↓reduceIte, beq_self_eq_true, bne_self_eq_false, Int.reduceBEq, Int.reduceBNe, or_self, true_or, or_true, Option.map_some, Option.map_none, List.length_map]) | (refine AW.seq_k fun K hK => ?_) | (refine AW.exit ?_; simp only [go_sem, ↓reduceIte]) | (refine AW.condF rfl (by first | rfl | (simp; omega) | (simp [*]; done) | fail) ?_) | (refine hK _ ?_; clear hK K) | (clear hK K; refine hK _ ?_; clear hK K) | (with_reducible refine And.intro ?_ ?_; first | omega | assumption | (focus (decide)) | (focus (simp; done)) | (focus (simp; omega)) | (focus (constructor <;> omega)) | fail))
      exact ⟨i + 1, hi, by omega, (Weak.auto hcx rfl rfl (Nat.le_of_ble_eq_true rfl) (by simp [go_sem, gL, kL, renOf, V.obj, lk, Nat.blt, Nat.ble, List.map_append, dv_push, hos]) (by simp [go_sem, gL, kL, renOf, V.obj, lk, Nat.blt, Nat.ble, List.map_append, dv_push, hos]) (by first | (intro i hi; exact absurd hi (Nat.not_lt_zero _)) | (intro i0 hi0; match i0, hi0 with | 0, _ => exact ⟨_, rfl⟩ | n0+1, h0 => exact absurd h0 (Nat.not_lt.2 (Nat.le_add_left 1 n0))) | (intro i0 hi0; match i0, hi0 with | 0, _ => exact ⟨_, rfl⟩ | 1, _ => exact ⟨_, rfl⟩ | n0+2, h0 => exact absurd h0 (Nat.not_lt.2 (Nat.le_add_left 2 n0))) | (intro i0 hi0; match i0, hi0 with | 0, _ => exact ⟨_, rfl⟩ | 1, _ => exact ⟨_, rfl⟩ | 2, _ => exact ⟨_, rfl⟩ | n0+3, h0 => exact absurd h0 (Nat.not_lt.2 (Nat.le_add_left 3 n0))) | (intro i0 hi0; match i0, hi0 with | 0, _ => exact ⟨_, rfl⟩ | 1, _ => exact ⟨_, rfl⟩ | 2, _ => exact ⟨_, rfl⟩ | 3, _ => exact ⟨_, rfl⟩ | n0+4, h0 => exact absurd h0 (Nat.not_lt.2 (Nat.le_add_left 4 n0)))) (by simp [go_sem, gL, kL, lk, renOf, V.obj, Nat.blt, Nat.ble, hos]))⟩
  · obtain rfl : i = ms.length := by omega
    unfold agB at hR
    obtain ⟨-, -, ho3⟩ := hoi
    generalize agO ms ms.length = st at *
    obtain ⟨s1, s2⟩ := st
    simp only at ho3 hR ⊢
    have hso := sortInts_does s2 (by omega)
    have hco := compact_In (srtI s2) (by rw [(srtI_perm s2).length_eq]; omega)
    have hsl := (srtI_perm s2).length_eq
    rw [hsl] at hco
    have hcl := compactM_len (srtI s2)
    rw [hsl] at hcl
    cases s1 with
    | true =>
      rw [Bool.true_or] at hR
      subst hR
      repeat' (first | ((first | refine AW.sreg rfl fun K hK => ?_ | refine run_call _ _ _ ((hso).objs [_] ⟨rfl, trivial⟩ rfl (by decide) (by simp [go_sem, renOs]) (by simp) (by simp) (by simp [go_sem]) (by simp [go_sem]) (by simp [go_sem]) (by simp [go_sem])) rfl rfl (dstOk_of rfl) rfl rfl rfl ?_); simp only [go_sem, Nat.reduceAdd, Nat.reduceMul, Int.reduceToNat, Nat.reduceLT, Nat.reduceLeDiff, Nat.le_refl, Nat.reduceEqDiff, ↓reduceIte, beq_self_eq_true, bne_self_eq_false, Int.reduceBEq, Int.reduceBNe, or_self, true_or, or_true, Option.map_some, Option.map_none, List.length_map]) | (refine AW.seq_k fun K hK => ?_) | (refine AW.exit ?_; simp only [go_sem, ↓reduceIte]) | (refine AW.condF rfl (by first | rfl | (simp; omega) | (simp [*]; done) | fail) ?_) | (refine hK _ ?_; clear hK K) | (clear hK K; refine hK _ ?_; clear hK K) | (refine AW.ret (Fin.data rfl (by first | (simp only [go_sem]; done) | (simp [go_sem, *]; done) | (simp [go_sem]; omega) | rfl) rfl)))
    | false =>
      rw [Bool.false_or] at hR
      subst hR
      repeat' (first | ((first | refine AW.sreg rfl fun K hK => ?_ | refine run_call _ _ _ ((hso).objs [_] ⟨rfl, trivial⟩ rfl (by decide) (by simp [go_sem, renOs]) (by simp) (by simp) (by simp [go_sem]) (by simp [go_sem]) (by simp [go_sem]) (by simp [go_sem])) rfl rfl (dstOk_of rfl) rfl rfl rfl ?_ | refine run_call _ _ _ ((hco).objs [_] ⟨rfl, trivial⟩ rfl (by decide) (by simp [go_sem, renOs]) (by simp) (by simp) (by simp [go_sem]) (by simp [go_sem]) (by simp [go_sem]) (by simp [go_sem])) rfl rfl (dstOk_of rfl) rfl rfl rfl ?_); simp only [go_sem, Nat.reduceAdd, Nat.reduceMul, Int.reduceToNat, Nat.reduceLT, Nat.reduceLeDiff, Nat.le_refl, Nat.reduceEqDiff, ↓reduceIte, beq_self_eq_true, bne_self_eq_false, Int.reduceBEq, Int.reduceBNe, or_self, true_or, or_true, Option.map_some, Option.map_none, List.length_map]) | (refine AW.seq_k fun K hK => ?_) | (refine AW.exit ?_; simp only [go_sem, ↓reduceIte]) | (refine AW.condF rfl (by first | rfl | (simp; omega) | (simp [*]; done) | fail) ?_) | (refine hK _ ?_; clear hK K) | (clear hK K; refine hK _ ?_; clear hK K))
      exact AW.ret (Fin.data rfl (by simp [go_sem]; omega) rfl)
end Go.AX

namespace Go.AX
open Go Go.Proofs Go.RowKit
theorem all_ok_Mk (xs : List Mk) : (dv (xs.map mkD)).all (elemOk 3) = true := by
  simp only [dv, List.map_map, List.all_eq_true, List.mem_map, Function.comp_apply, forall_exists_index, and_imp, forall_apply_eq_imp_iff₂]
  intro x _
  rfl
theorem clone_Mk (xs : List Mk) (hl : xs.length ≤ 1000) : Does Tryz.prog 11 [.d (.sl (xs.map mkD))] [] (.slr 0 0 xs.length) [.vec 39 3 (dv (xs.map mkD))] := by
  refine Does.of_AW (n := 8) Tryz.func11 rfl rfl rfl fun cx hcx => ?_
  refine AW.sreg rfl fun K hK => ?_; simp only [go_sem, Nat.reduceAdd, Nat.reduceMul, Int.reduceToNat, Nat.reduceLT, Nat.reduceLeDiff, Nat.le_refl, Nat.reduceEqDiff, ↓reduceIte, beq_self_eq_true, bne_self_eq_false, Int.reduceBEq, Int.reduceBNe, or_self, true_or, or_true, Option.map_some, Option.map_none]
  refine hK _ ?_; (try clear hK K)
  refine AW.seq_k fun K1 hK1 => ?_
  refine AW.seq_k fun K2 hK2 => ?_
  refine AW.nilCmp rfl rfl rfl rfl rfl rfl (by simp only [go_sem]; rfl) (by simp) (by simp) rfl (fun b hb => ?_)
  refine hK2 _ ?_
  refine AW.cond rfl (fun h => ?_) (fun h => ?_)
  · have h0 : xs = [] := by simpa using hb h
    subst h0
    repeat' (first | (refine AW.sreg rfl fun K hK => ?_; simp only [go_sem, Nat.reduceAdd, Nat.reduceMul, Int.reduceToNat, Nat.reduceLT, Nat.reduceLeDiff, Nat.le_refl, Nat.reduceEqDiff, ↓reduceIte, beq_self_eq_true, bne_self_eq_false, Int.reduceBEq, Int.reduceBNe, or_self, true_or, or_true, Option.map_some, Option.map_none, List.length_map]) | (refine hK _ ?_; clear hK K))
    refine AW.weak (Weak.nil 2 39 3 rfl) ?_
    exact AW.ret (Fin.objs [256] rfl (by simp [go_sem, inI, gI]) ⟨⟨_, rfl, by simp [go_sem, inI, gI]⟩, trivial⟩ (by simp) rfl (by simp [go_sem]) (by simp [go_sem]) rfl)
  · refine AW.skip (hK1 _ ?_)
    repeat' (first | (refine AW.sreg rfl fun K hK => ?_; simp only [go_sem, Nat.reduceAdd, Nat.reduceMul, Int.reduceToNat, Nat.reduceLT, Nat.reduceLeDiff, Nat.le_refl, Nat.reduceEqDiff, ↓reduceIte, beq_self_eq_true, bne_self_eq_false, Int.reduceBEq, Int.reduceBNe, or_self, true_or, or_true, Option.map_some, Option.map_none, List.length_map, all_ok_Mk]) | (refine hK _ ?_; clear hK K) | (with_reducible refine And.intro ?_ ?_; first | omega | assumption | (focus (decide)) | (focus (simp; done)) | (focus (simp; omega)) | (focus (constructor <;> omega)) | fail))
    exact AW.ret (Fin.objs [320] rfl (by simp [go_sem, inI, gI]) ⟨⟨_, rfl, by simp [go_sem, inI, gI]⟩, trivial⟩ (by simp) rfl (by simp [go_sem]) (by simp [go_sem]) rfl)

abbrev H4 : List Str := (List.range 4).map hN
abbrev WdM : List Str := ((List.range 4).map pN ++ [[], [112, 97], [80]]) ++ ((List.range 4).map hN ++ [[], [104, 97], [72]])
theorem keyM : ∀ s ∈ WdM, KeyO s := by
  have h : WdM.all (fun s => evalsTo Tryz.prog (CS Tryz.prog) 32 [S s] (B (keyB s))) = true := by kernel_rfl
  exact fun s hs => evalsTo_ok CS_ok hmix (List.all_eq_true.1 h s hs)
theorem lenM : ∀ s ∈ WdM, s.length ≤ 1000 := by decide
theorem pers4 : ∀ s ∈ ((List.range 4).map hN ++ [[], [104, 97], [72]]), keyB s = true → s ∈ H4 := by decide
theorem mkOk4 {ms : List Mk} (hl : ms.length ≤ 4 * 4) (hf : ∀ m ∈ ms, FinK 4 4 m) (g : GoodM ms) : MkOk ms H4 where
  len := by omega
  good := g
  hH := by decide
  pe := fun m hm => pers4 _ (hf m hm).pe (g.keys m hm).2
  sh := fun m hm => ⟨lenM _ (List.mem_append_left _ (hf m hm).pa), lenM _ (List.mem_append_right _ (hf m hm).pe)⟩
/-- The first score of a paper. -/
def fsc (ms : List Mk) (p : Str) : Int := match gP ms p with
  | [] => 0
  | m :: _ => m.2.2
theorem fsc_in {ms : List Mk} {x : Mk} (hx : x ∈ ms) : ∃ m ∈ ms, m.1 = x.1 ∧ fsc ms x.1 = m.2.2 := by
  have h : x ∈ gP ms x.1 := mem_gP.2 ⟨hx, rfl⟩
  unfold fsc
  match hg : gP ms x.1 with
  | [] => rw [hg] at h; simp at h
  | m :: r =>
    have hm : m ∈ gP ms x.1 := by rw [hg]; simp
    obtain ⟨h1, h2⟩ := mem_gP.1 hm
    exact ⟨m, h1, h2, rfl⟩
/-- The first mark of a paper, as the loop meets it. -/
theorem fsc_first {ms : List Mk} {i : Nat} {x : Mk} (hx : ms[i]? = some x) (hn : ∀ m ∈ ms.take i, m.1 ≠ x.1) : fsc ms x.1 = x.2.2 := by
  have hi := get_lt hx
  have hd : ms = ms.take i ++ x :: ms.drop (i + 1) := by
    have h1 : ms.drop i = x :: ms.drop (i + 1) := by
      rw [List.drop_eq_getElem_cons hi]
      rw [List.getElem?_eq_getElem hi] at hx
      cases hx; rfl
    rw [← h1, List.take_append_drop]
  have e : gP ms x.1 = x :: gP (ms.drop (i + 1)) x.1 := by
    conv => lhs; rw [hd]
    unfold gP
    rw [List.filter_append]
    have : (ms.take i).filter (fun m => m.1 == x.1) = [] := by
      rw [List.filter_eq_nil_iff]
      intro m hm
      simpa using hn m hm
    rw [this, List.nil_append, List.filter_cons_of_pos (by simp)]
  unfold fsc
  rw [e]
def chg (ms : List Mk) (x : Mk) : Mk := (x.1, x.2.1, fsc ms x.1)
def saF (ms : List Mk) (i : Nat) : List Mk := (ms.take i).map (chg ms) ++ ms.drop i
theorem saF_len (ms : List Mk) {i : Nat} (h : i ≤ ms.length) : (saF ms i).length = ms.length := by simp [saF]; omega
theorem saF_at (ms : List Mk) {i : Nat} {x : Mk} (hx : ms[i]? = some x) : (saF ms i)[i]? = some x ∧ (saF ms i).set i (chg ms x) = saF ms (i + 1) := by
  have hi := get_lt hx
  have h1 : ms.drop i = x :: ms.drop (i + 1) := by
    rw [List.drop_eq_getElem_cons hi]
    rw [List.getElem?_eq_getElem hi] at hx
    cases hx; rfl
  have hl : ((ms.take i).map (chg ms)).length = i := by simp; omega
  unfold saF
  rw [h1]
  constructor
  · rw [List.getElem?_append_right (by omega), hl]
    simp
  · have := set_mid ((ms.take i).map (chg ms)) x (ms.drop (i + 1)) (chg ms x)
    rw [hl] at this
    rw [this, List.take_add_one, hx]
    simp
/-- What the map of first scores holds. -/
structure LvI (ms : List Mk) (i : Nat) (om : IM) : Prop where
  no : ∀ k, (∀ m ∈ ms.take i, m.1 ≠ k) → imI om k = none
  yes : ∀ m ∈ ms.take i, imI om m.1 ≠ none ∧ imG om m.1 = fsc ms m.1
theorem imI_put (m : IM) (k k' : Str) (v : Int) : imI (imP m k v) k' = none ↔ k ≠ k' ∧ imI m k' = none := by
  unfold imP
  cases ho : imI m k with
  | some j =>
    obtain ⟨v0, hv, -⟩ := imI_some ho
    have hk : (m.set j (k, v)).map (·.1) = m.map (·.1) := by
      have := imP_keys2 (v2 := v) hv
      have h2 := congrArg (List.map fun d => match d with | D.str s => s | _ => []) this
      simpa [Function.comp_def] using h2
    have hi : imI (m.set j (k, v)) k' = imI m k' := by unfold imI; rw [hk]
    simp only [hi]
    constructor
    · intro h
      refine ⟨?_, h⟩
      rintro rfl
      rw [ho] at h; cases h
    · exact fun h => h.2
  | none =>
    simp only
    unfold imI
    rw [List.map_append, List.findIdx?_append]
    cases h2 : (m.map (·.1)).findIdx? (fun x => k' == x) with
    | some j => simp
    | none =>
      by_cases e : k = k'
      · subst e; simp
      · simp [e, Ne.symm e]
theorem LvI.zero (ms : List Mk) : LvI ms 0 [] := ⟨fun _ _ => rfl, by simp⟩
theorem LvI.old {ms : List Mk} {i : Nat} {om : IM} (h : LvI ms i om) {x : Mk} (hx : ms[i]? = some x) (ho : imI om x.1 ≠ none) : LvI ms (i + 1) om ∧ imG om x.1 = fsc ms x.1 := by
  have e : ms.take (i + 1) = ms.take i ++ [x] := by rw [List.take_add_one, hx]; rfl
  have hex : ∃ m ∈ ms.take i, m.1 = x.1 := by
    refine Decidable.byContradiction fun hn => ho (h.no x.1 fun m hm e => hn ⟨m, hm, e⟩)
  obtain ⟨m, hm, hme⟩ := hex
  have hg := (h.yes m hm).2
  rw [hme] at hg
  refine ⟨⟨fun k hk => h.no k fun m hm => hk m (by rw [e]; exact List.mem_append_left _ hm), fun m hm => ?_⟩, hg⟩
  rw [e] at hm
  rcases List.mem_append.1 hm with hm | hm
  · exact h.yes m hm
  · obtain rfl := List.mem_singleton.1 hm
    exact ⟨ho, hg⟩
theorem LvI.new {ms : List Mk} {i : Nat} {om : IM} (h : LvI ms i om) {x : Mk} (hx : ms[i]? = some x) (ho : imI om x.1 = none) : LvI ms (i + 1) (imP om x.1 x.2.2) ∧ fsc ms x.1 = x.2.2 := by
  have e : ms.take (i + 1) = ms.take i ++ [x] := by rw [List.take_add_one, hx]; rfl
  have hno : ∀ m ∈ ms.take i, m.1 ≠ x.1 := fun m hm e => (h.yes m hm).1 (by rw [e]; exact ho)
  have hf := fsc_first hx hno
  refine ⟨⟨fun k hk => ?_, fun m hm => ?_⟩, hf⟩
  · rw [imI_put]
    exact ⟨hk x (by rw [e]; simp), h.no k fun m hm => hk m (by rw [e]; exact List.mem_append_left _ hm)⟩
  · rw [e] at hm
    rw [Ne, imI_put, imG_put]
    rcases List.mem_append.1 hm with hm | hm
    · have hne := hno m hm
      rw [if_neg (Ne.symm hne)]
      exact ⟨fun h2 => (h.yes m hm).1 h2.2, (h.yes m hm).2⟩
    · obtain rfl := List.mem_singleton.1 hm
      rw [if_pos rfl]
      exact ⟨fun h2 => h2.1 rfl, hf.symm⟩
end Go.AX

namespace Go.AX
open Go Go.Proofs Go.RowKit
theorem saF_ok {ms : List Mk} {H : List Str} (h : MkOk ms H) : MkOk (saF ms ms.length) H ∧ Uni (saF ms ms.length) := by
  have e : saF ms ms.length = ms.map (chg ms) := by simp [saF]
  rw [e]
  have hpr : (ms.map (chg ms)).map (fun m => (m.1, m.2.1)) = ms.map (fun m => (m.1, m.2.1)) := by
    rw [List.map_map]
    rfl
  refine ⟨⟨by rw [List.length_map]; exact h.len, good_scores h.good hpr ?_, h.hH, ?_, ?_⟩, ?_⟩
  · intro m hm
    obtain ⟨x, hx, rfl⟩ := List.mem_map.1 hm
    obtain ⟨y, hy, -, hs⟩ := fsc_in hx
    have := h.good.sc y hy
    simp only [chg]
    omega
  · intro m hm
    obtain ⟨x, hx, rfl⟩ := List.mem_map.1 hm
    exact h.pe x hx
  · intro m hm
    obtain ⟨x, hx, rfl⟩ := List.mem_map.1 hm
    exact h.sh x hx
  · intro a ha b hb hab
    obtain ⟨x, hx, rfl⟩ := List.mem_map.1 ha
    obtain ⟨y, hy, rfl⟩ := List.mem_map.1 hb
    simp only [chg] at hab ⊢
    rw [hab]
theorem law_ok (l : List Int) (hl : l.length ≤ 9223372036854775807) : Does Tryz.prog 3 [Ls l] [] (B true) [] := by
  have c1 := marks_f l hl 4 4 (by omega) (by omega) 0 (by omega) (by omega)
  rw [show ((4 : Nat) : Int) = 4 from rfl] at c1
  obtain ⟨hml, hmf⟩ := mrF_fin l 4 4 0
  generalize mrF l 4 4 0 = z at *
  obtain ⟨ms, pz⟩ := z
  simp only at c1 hml hmf
  have hmr := marksFault_any ms (by omega) fun m hm => ⟨keyM _ (List.mem_append_left _ (hmf m hm).pa), keyM _ (List.mem_append_right _ (hmf m hm).pe)⟩
  refine Does.of_AW (n := 99) Tryz.func3 rfl rfl rfl fun cx hcx => ?_
  by_cases he : goF (mF mnR) [] ms = 0
  case neg =>
    generalize goF (mF mnR) [] ms = e at *
    have heb : (e != 0) = true := by simpa using he
    repeat' (first | ((first | refine AW.sreg rfl fun K hK => ?_ | refine run_call _ _ _ ((c1).objs [_] ⟨rfl, trivial⟩ rfl (by decide) (by simp [go_sem, renOs]) (by simp) (by simp) (by simp [go_sem]) (by simp [go_sem]) (by simp [go_sem]) (by simp [go_sem])) rfl rfl (dstOk_of rfl) rfl rfl rfl ?_ | refine run_call _ _ _ ((hmr).pure rfl rfl _ _) rfl rfl (dstOk_of rfl) rfl rfl rfl ?_ | refine run_call _ _ _ ((scores_ok).pure rfl rfl _ _) rfl rfl (dstOk_of rfl) rfl rfl rfl ?_); simp only [go_sem, Nat.reduceAdd, Nat.reduceMul, Int.reduceToNat, Nat.reduceLT, Nat.reduceLeDiff, Nat.le_refl, Nat.reduceEqDiff, ↓reduceIte, beq_self_eq_true, bne_self_eq_false, Int.reduceBEq, Int.reduceBNe, or_self, true_or, or_true, Option.map_some, Option.map_none, heb]) | (refine AW.seq_k fun K hK => ?_) | (refine AW.condT rfl (by first | rfl | (simp; omega) | (simp [*]; done) | fail) ?_) | (refine hK _ ?_; clear hK K) | (refine AW.ret (Fin.data rfl (by first | (simp only [go_sem]; done) | (simp [go_sem, *]; done) | (simp [go_sem]; omega) | rfl) rfl)))
  have hok := mkOk4 hml hmf (goodR he)
  rw [he] at hmr
  have hcl := clone_Mk ms (by omega)
  have hag := agreementI ms H4 hok
  repeat' (first | ((first | refine AW.sreg rfl fun K hK => ?_ | refine run_call _ _ _ ((c1).objs [_] ⟨rfl, trivial⟩ rfl (by decide) (by simp [go_sem, renOs]) (by simp) (by simp) (by simp [go_sem]) (by simp [go_sem]) (by simp [go_sem]) (by simp [go_sem])) rfl rfl (dstOk_of rfl) rfl rfl rfl ?_ | refine run_call _ _ _ ((hmr).pure rfl rfl _ _) rfl rfl (dstOk_of rfl) rfl rfl rfl ?_ | refine run_call _ _ _ ((hcl).objs [] trivial rfl (by decide) (by simp [go_sem, renOs]) (by simp) (by simp) (by simp [go_sem]) (by simp [go_sem]) (by simp [go_sem]) (by simp [go_sem])) rfl rfl (dstOk_of rfl) rfl rfl rfl ?_); simp only [go_sem, Nat.reduceAdd, Nat.reduceMul, Int.reduceToNat, Nat.reduceLT, Nat.reduceLeDiff, Nat.le_refl, Nat.reduceEqDiff, ↓reduceIte, beq_self_eq_true, bne_self_eq_false, Int.reduceBEq, Int.reduceBNe, or_self, true_or, or_true, Option.map_some, Option.map_none, Nat.reduceSub, Nat.add_zero]) | (refine AW.seq_k fun K hK => ?_) | (refine AW.block ?_) | (refine AW.skip ?_; simp only [Then, InBlock]) | (refine AW.condF rfl (by first | rfl | (simp; omega) | (simp [*]; done) | fail) ?_) | (refine hK _ ?_; clear hK K) | (refine run_callI _ _ _ ((hag).pure rfl (fun _ => rfl) _ _) rfl rfl (dstOk_of rfl) rfl rfl rfl ?_; rintro ra ha; (try dsimp only at ra); (try dsimp only at ha); simp only [go_sem, Nat.reduceAdd, Nat.reduceMul, Int.reduceToNat, Nat.reduceLT, Nat.reduceLeDiff, Nat.le_refl, Nat.reduceEqDiff, ↓reduceIte, beq_self_eq_true, bne_self_eq_false, Int.reduceBEq, Int.reduceBNe, or_self, true_or, or_true, Option.map_some, Option.map_none, Nat.reduceSub, Nat.add_zero]))
  have hs0 : saF ms 0 = ms := by simp [saF]
  refine AW.loopF (ι := Nat × IM) [4, 5, 6, 7, 8, 32, 33] (fun p => [(34, I p.1)]) (fun p => [(1024, some (O.box 32 [I ra.1, I ra.2])), (1280, some (MV (saF ms p.1))), (1408, some (O.map (p.2.map fun q => D.str q.1) (dv (p.2.map fun q => D.int .i64 q.2))))]) 27 (fun p => p.1 ≤ ms.length ∧ LvI ms p.1 p.2) (fun p => ms.length - p.1) (0, []) ⟨Nat.zero_le _, LvI.zero ms⟩ (Weak.auto hcx rfl rfl (Nat.le_of_ble_eq_true rfl) (by simp [go_sem, gL, kL, renOf, V.obj, lk, Nat.blt, Nat.ble, List.map_append, dv_push, hs0, dvz, List.map_nil]) (by simp [go_sem, gL, kL, renOf, V.obj, lk, Nat.blt, Nat.ble, List.map_append, dv_push, hs0, dvz, List.map_nil]) (by first | (intro i hi; exact absurd hi (Nat.not_lt_zero _)) | (intro i0 hi0; match i0, hi0 with | 0, _ => exact ⟨_, rfl⟩ | n0+1, h0 => exact absurd h0 (Nat.not_lt.2 (Nat.le_add_left 1 n0))) | (intro i0 hi0; match i0, hi0 with | 0, _ => exact ⟨_, rfl⟩ | 1, _ => exact ⟨_, rfl⟩ | n0+2, h0 => exact absurd h0 (Nat.not_lt.2 (Nat.le_add_left 2 n0))) | (intro i0 hi0; match i0, hi0 with | 0, _ => exact ⟨_, rfl⟩ | 1, _ => exact ⟨_, rfl⟩ | 2, _ => exact ⟨_, rfl⟩ | n0+3, h0 => exact absurd h0 (Nat.not_lt.2 (Nat.le_add_left 3 n0))) | (intro i0 hi0; match i0, hi0 with | 0, _ => exact ⟨_, rfl⟩ | 1, _ => exact ⟨_, rfl⟩ | 2, _ => exact ⟨_, rfl⟩ | 3, _ => exact ⟨_, rfl⟩ | n0+4, h0 => exact absurd h0 (Nat.not_lt.2 (Nat.le_add_left 4 n0)))) (by simp [go_sem, gL, kL, lk, renOf, V.obj, Nat.blt, Nat.ble, hs0, dvz, List.map_nil])) ?_; simp only [St.at_nil, St.at_cons, lk, Nat.reduceEqDiff, ↓reduceIte, Option.getD_some, Option.getD_none, List.cons_append, List.nil_append, List.append_nil]
  rintro ⟨i, om⟩ ⟨h1, h2⟩
  simp only at h1 h2 ⊢
  by_cases hi : i < ms.length
  · obtain ⟨x, hx, hxm, -⟩ := get_some hi
    obtain ⟨q1, q2⟩ := saF_at ms hx
    have hln : (saF ms i).length = ms.length := saF_len ms h1
    have hgv : (dv ((saF ms i).map mkD))[0 + i]? = some (.d (mkD x)) := by rw [Nat.zero_add, dv_get, List.getElem?_map, q1]; rfl
    have hsv : (dv ((saF ms i).map mkD)).set (0 + i) (.d (mkD (chg ms x))) = dv ((saF ms (i + 1)).map mkD) := by rw [Nat.zero_add, dv_set1, ← List.map_set, q2]
    unfold chg at hsv
    have hf := fnd_im om x.1
    obtain ⟨xp, xq, xs⟩ := x
    simp only at hf hsv hgv
    cases ho : imI om xp with
    | none =>
      obtain ⟨n1, n2⟩ := h2.new hx ho
      simp only at n1 n2
      rw [imP_none ho] at n1
      rw [ho] at hf
      have hf2 := fnd_newI ho
      have hgn : (dv (om.map fun q => D.int .i64 q.2) ++ [V.d (D.int .i64 xs)])[om.length]? = some (V.d (D.int .i64 xs)) := by simp [dv]
      rw [n2] at hsv
      repeat' (first | ((first | refine AW.sreg rfl fun K hK => ?_ | refine AW.reg rfl ?_); simp only [go_sem, Nat.reduceAdd, Nat.reduceMul, Int.reduceToNat, Nat.reduceLT, Nat.reduceLeDiff, Nat.le_refl, Nat.reduceEqDiff, ↓reduceIte, beq_self_eq_true, bne_self_eq_false, Int.reduceBEq, Int.reduceBNe, or_self, true_or, or_true, Option.map_some, Option.map_none, hgv, hf, hf2, hgn, hsv, hln]) | (refine AW.seq_k fun K hK => ?_) | (refine AW.block ?_) | (refine AW.skip ?_; simp only [Then, InBlock]) | (refine AW.condT rfl (by first | rfl | (simp; omega) | (simp [*]; done) | fail) ?_) | (refine hK _ ?_; clear hK K) | (with_reducible refine And.intro ?_ ?_; first | omega | assumption | (focus (decide)) | (focus (simp; done)) | (focus (simp; omega)) | (focus (constructor <;> omega)) | fail))
      exact ⟨(i + 1, om ++ [(xp, xs)]), ⟨hi, n1⟩, by simp only; omega, (Weak.auto hcx rfl rfl (Nat.le_of_ble_eq_true rfl) (by simp [go_sem, gL, kL, renOf, V.obj, lk, Nat.blt, Nat.ble, List.map_append, dv_push]) (by simp [go_sem, gL, kL, renOf, V.obj, lk, Nat.blt, Nat.ble, List.map_append, dv_push]) (by first | (intro i hi; exact absurd hi (Nat.not_lt_zero _)) | (intro i0 hi0; match i0, hi0 with | 0, _ => exact ⟨_, rfl⟩ | n0+1, h0 => exact absurd h0 (Nat.not_lt.2 (Nat.le_add_left 1 n0))) | (intro i0 hi0; match i0, hi0 with | 0, _ => exact ⟨_, rfl⟩ | 1, _ => exact ⟨_, rfl⟩ | n0+2, h0 => exact absurd h0 (Nat.not_lt.2 (Nat.le_add_left 2 n0))) | (intro i0 hi0; match i0, hi0 with | 0, _ => exact ⟨_, rfl⟩ | 1, _ => exact ⟨_, rfl⟩ | 2, _ => exact ⟨_, rfl⟩ | n0+3, h0 => exact absurd h0 (Nat.not_lt.2 (Nat.le_add_left 3 n0))) | (intro i0 hi0; match i0, hi0 with | 0, _ => exact ⟨_, rfl⟩ | 1, _ => exact ⟨_, rfl⟩ | 2, _ => exact ⟨_, rfl⟩ | 3, _ => exact ⟨_, rfl⟩ | n0+4, h0 => exact absurd h0 (Nat.not_lt.2 (Nat.le_add_left 4 n0)))) (by simp [go_sem, gL, kL, lk, renOf, V.obj, Nat.blt, Nat.ble]))⟩
    | some j =>
      obtain ⟨n1, n2⟩ := h2.old hx (by simp only; rw [ho]; simp)
      simp only at n1 n2
      obtain ⟨v, hv, hgo⟩ := imI_some ho
      rw [hgo] at n2
      rw [ho] at hf
      have hgg : (dv (om.map fun q => D.int .i64 q.2))[j]? = some (.d (.int .i64 v)) := by simp [dv, hv]
      rw [← n2] at hsv
      repeat' (first | ((first | refine AW.sreg rfl fun K hK => ?_ | refine AW.reg rfl ?_); simp only [go_sem, Nat.reduceAdd, Nat.reduceMul, Int.reduceToNat, Nat.reduceLT, Nat.reduceLeDiff, Nat.le_refl, Nat.reduceEqDiff, ↓reduceIte, beq_self_eq_true, bne_self_eq_false, Int.reduceBEq, Int.reduceBNe, or_self, true_or, or_true, Option.map_some, Option.map_none, hgv, hf, hgg, hsv, hln]) | (refine AW.seq_k fun K hK => ?_) | (refine AW.block ?_) | (refine AW.skip ?_; simp only [Then, InBlock]) | (refine AW.condT rfl (by first | rfl | (simp; omega) | (simp [*]; done) | fail) ?_) | (refine AW.condF rfl (by first | rfl | (simp; omega) | (simp [*]; done) | fail) ?_) | (refine hK _ ?_; clear hK K) | (with_reducible refine And.intro ?_ ?_; first | omega | assumption | (focus (decide)) | (focus (simp; done)) | (focus (simp; omega)) | (focus (constructor <;> omega)) | fail))
      exact ⟨(i + 1, om), ⟨hi, n1⟩, by simp only; omega, (Weak.auto hcx rfl rfl (Nat.le_of_ble_eq_true rfl) (by simp [go_sem, gL, kL, renOf, V.obj, lk, Nat.blt, Nat.ble, List.map_append, dv_push]) (by simp [go_sem, gL, kL, renOf, V.obj, lk, Nat.blt, Nat.ble, List.map_append, dv_push]) (by first | (intro i hi; exact absurd hi (Nat.not_lt_zero _)) | (intro i0 hi0; match i0, hi0 with | 0, _ => exact ⟨_, rfl⟩ | n0+1, h0 => exact absurd h0 (Nat.not_lt.2 (Nat.le_add_left 1 n0))) | (intro i0 hi0; match i0, hi0 with | 0, _ => exact ⟨_, rfl⟩ | 1, _ => exact ⟨_, rfl⟩ | n0+2, h0 => exact absurd h0 (Nat.not_lt.2 (Nat.le_add_left 2 n0))) | (intro i0 hi0; match i0, hi0 with | 0, _ => exact ⟨_, rfl⟩ | 1, _ => exact ⟨_, rfl⟩ | 2, _ => exact ⟨_, rfl⟩ | n0+3, h0 => exact absurd h0 (Nat.not_lt.2 (Nat.le_add_left 3 n0))) | (intro i0 hi0; match i0, hi0 with | 0, _ => exact ⟨_, rfl⟩ | 1, _ => exact ⟨_, rfl⟩ | 2, _ => exact ⟨_, rfl⟩ | 3, _ => exact ⟨_, rfl⟩ | n0+4, h0 => exact absurd h0 (Nat.not_lt.2 (Nat.le_add_left 4 n0)))) (by simp [go_sem, gL, kL, lk, renOf, V.obj, Nat.blt, Nat.ble]))⟩
  · obtain rfl : i = ms.length := by omega
    obtain ⟨hokn, huni⟩ := saF_ok hok
    have hln : (saF ms ms.length).length = ms.length := saF_len ms (Nat.le_refl _)
    have hagn := agreementI (saF ms ms.length) H4 hokn
    have hone := agB_iff hok.good
    have hgr := agrees_any ms (by omega)
    generalize saF ms ms.length = ns at *
    have hral := ha.le
    have hrao := ha.one
    rw [← hone] at hrao
    generalize agB ms = ab at *
    clear ha hag hone hmr c1 hcl
    repeat' (first | ((first | refine AW.sreg rfl fun K hK => ?_ | refine AW.sregD hmix rfl fun K hK => ?_); simp only [go_sem, Nat.reduceAdd, Nat.reduceMul, Int.reduceToNat, Nat.reduceLT, Nat.reduceLeDiff, Nat.le_refl, Nat.reduceEqDiff, ↓reduceIte, beq_self_eq_true, bne_self_eq_false, Int.reduceBEq, Int.reduceBNe, or_self, true_or, or_true, Option.map_some, Option.map_none]) | (refine AW.seq_k fun K hK => ?_) | (refine AW.exit ?_; simp only [go_sem, ↓reduceIte]) | (refine AW.condF rfl (by first | rfl | (simp; omega) | (simp [*]; done) | fail) ?_) | (refine hK _ ?_; clear hK K) | (clear hK K; refine hK _ ?_; clear hK K) | (refine run_callI _ _ _ ((hagn).lend (by repeat' (first | exact frzL_nil | refine frzL_cons (by first | exact frz_d | exact frz_slr rfl rfl (by first | (simp; done) | (simp; omega) | (simp [*]; done) | fail) | rfl) ?_)) rfl rfl (fun _ => rfl)) rfl rfl (dstOk_of rfl) rfl rfl rfl ?_; rintro rb hb; (try dsimp only at rb); (try dsimp only at hb); simp only [go_sem, Nat.reduceAdd, Nat.reduceMul, Int.reduceToNat, Nat.reduceLT, Nat.reduceLeDiff, Nat.le_refl, Nat.reduceEqDiff, ↓reduceIte, beq_self_eq_true, bne_self_eq_false, Int.reduceBEq, Int.reduceBNe, or_self, true_or, or_true, Option.map_some, Option.map_none]))
    obtain rfl : rb = (1, 1) := hb.one.2 (.inl huni)
    cases ab with
    | true =>
      obtain rfl : ra = (1, 1) := hrao.2 rfl
      repeat' (first | (refine hK _ ?_; clear hK K) | (refine stepBT_split (fun h => ?_) (fun h => ?_) <;> (have hb0 := h) <;> (try simp only [Bool.not_eq_true', Bool.not_eq_false'] at hb0) <;> (try simp only [decide_eq_true_eq, decide_eq_false_iff_not, Bool.not_eq_true', Bool.not_eq_false', Bool.not_eq_eq_eq_not, Bool.not_true, Bool.not_false, beq_iff_eq, bne_iff_ne, beq_eq_false_iff_ne, ne_eq, Bool.and_eq_true, Bool.or_eq_true, Bool.or_eq_false_iff] at h) <;> simp only [go_sem, Nat.reduceAdd, Nat.reduceMul, Int.reduceToNat, Nat.reduceLT, Nat.reduceLeDiff, Nat.le_refl, Nat.reduceEqDiff, ↓reduceIte, beq_self_eq_true, bne_self_eq_false, Int.reduceBEq, Int.reduceBNe, or_self, true_or, or_true, Option.map_some, Option.map_none, hb0, h, decide_true, decide_false] <;> (try clear hb0)) | (with_reducible refine And.intro (?_ : regOk _ _ = true) ?_; kernel_rfl) | ((first | refine runT_call _ _ [] (fun hv _ => (scores_ok).pure rfl rfl hv _) rfl rfl (dstOk_of rfl) rfl rfl ?_ | refine runT_call _ _ [] (fun hv _ => (hgr).pure rfl rfl hv _) rfl rfl (dstOk_of rfl) rfl rfl ?_); simp only [go_sem, Nat.reduceAdd, Nat.reduceMul, Int.reduceToNat, Nat.reduceLT, Nat.reduceLeDiff, Nat.le_refl, Nat.reduceEqDiff, ↓reduceIte, beq_self_eq_true, bne_self_eq_false, Int.reduceBEq, Int.reduceBNe, or_self, true_or, or_true, Option.map_some, Option.map_none]) | (refine AW.ret (Fin.data rfl (by first | (simp only [go_sem]; done) | (simp [go_sem, *]; done) | (simp [go_sem]; omega) | rfl) rfl)))
    | false =>
      have hne : ¬ (ra.1 = 1 ∧ ra.2 = 1) := by
        rintro ⟨e1, e2⟩
        have := hrao.1 (Prod.ext e1 e2)
        cases this
      have hnb : (ra.1 == 1 && ra.2 == 1) = false := by
        rw [Bool.eq_false_iff]
        intro hh
        simp only [Bool.and_eq_true, beq_iff_eq] at hh
        exact hne hh
      repeat' (first | (refine hK _ ?_; clear hK K) | (with_reducible refine And.intro (?_ : regOk _ _ = true) ?_; kernel_rfl) | ((first | refine runT_call _ _ [] (fun hv _ => (scores_ok).pure rfl rfl hv _) rfl rfl (dstOk_of rfl) rfl rfl ?_ | refine runT_call _ _ [] (fun hv _ => (hgr).pure rfl rfl hv _) rfl rfl (dstOk_of rfl) rfl rfl ?_); simp only [go_sem, Nat.reduceAdd, Nat.reduceMul, Int.reduceToNat, Nat.reduceLT, Nat.reduceLeDiff, Nat.le_refl, Nat.reduceEqDiff, ↓reduceIte, beq_self_eq_true, bne_self_eq_false, Int.reduceBEq, Int.reduceBNe, or_self, true_or, or_true, Option.map_some, Option.map_none, hral, hnb]) | (refine AW.ret (Fin.data rfl (by first | (simp only [go_sem]; done) | (simp [go_sem, *]; done) | (simp [go_sem]; omega) | rfl) rfl)))
end Go.AX
