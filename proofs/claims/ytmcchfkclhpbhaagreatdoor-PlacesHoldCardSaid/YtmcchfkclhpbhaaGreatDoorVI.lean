/- The order of papers in any way; what one paper's places may be without one person. -/
import Derived.Test.YtmcchfkclhpbhaaGreatDoorVH
set_option linter.unusedSimpArgs false
set_option linter.unusedVariables false
set_option linter.unnecessarySimpa false
set_option maxRecDepth 1000000
set_option maxHeartbeats 4000000
namespace Go.AX
open Go Go.Proofs Go.RowKit
theorem all_ok_Mk (xs : List Mk) : (dv (xs.map mkD)).all (elemOk 3) = true := by
  simp only [dv, List.map_map, List.all_eq_true, List.mem_map, Function.comp_apply, forall_exists_index, and_imp, forall_apply_eq_imp_iff₂]
  intro x _
  rfl
theorem clone_Mk (xs : List Mk) (hl : xs.length ≤ 1000) : Does Tryz.prog 11 [.d (.sl (xs.map mkD))] [] (.slr 0 0 xs.length) [.vec 39 3 (dv (xs.map mkD))] := by
  refine Does.of_AW (n := 8) Tryz.func11 rfl rfl rfl fun cx hcx => ?_
  refine AW.sreg rfl fun K hK => ?_; simp only [go_sem, Nat.reduceAdd, Nat.reduceMul, Int.reduceToNat, Nat.reduceLT, Nat.reduceLeDiff, Nat.le_refl, Nat.reduceEqDiff, ↓reduceIte, beq_self_eq_true, bne_self_eq_false, Int.reduceBEq, Int.reduceBNe, or_self, true_or, or_true, Option.map_some, Option.map_none]
  refine hK _ ?_; (try clear hK K)
  refine AW.seq_k fun K1 hK1 => ?_
  refine AW.seq_k fun K2 hK2 => ?_
  refine AW.nilCmp rfl rfl rfl rfl rfl rfl (by simp only [go_sem]; rfl) (by simp) (by simp) rfl (fun b hb => ?_)
  refine hK2 _ ?_
  refine AW.cond rfl (fun h => ?_) (fun h => ?_)
  · have h0 : xs = [] := by simpa using hb h
    subst h0
    repeat' (first | (refine AW.sreg rfl fun K hK => ?_; simp only [go_sem, Nat.reduceAdd, Nat.reduceMul, Int.reduceToNat, Nat.reduceLT, Nat.reduceLeDiff, Nat.le_refl, Nat.reduceEqDiff, ↓reduceIte, beq_self_eq_true, bne_self_eq_false, Int.reduceBEq, Int.reduceBNe, or_self, true_or, or_true, Option.map_some, Option.map_none, List.length_map]) | (refine hK _ ?_; clear hK K))
    refine AW.weak (Weak.nil 2 39 3 rfl) ?_
    exact AW.ret (Fin.objs [256] rfl (by simp [go_sem, inI, gI]) ⟨⟨_, rfl, by simp [go_sem, inI, gI]⟩, trivial⟩ (by simp) rfl (by simp [go_sem]) (by simp [go_sem]) rfl)
  · refine AW.skip (hK1 _ ?_)
    repeat' (first | (refine AW.sreg rfl fun K hK => ?_; simp only [go_sem, Nat.reduceAdd, Nat.reduceMul, Int.reduceToNat, Nat.reduceLT, Nat.reduceLeDiff, Nat.le_refl, Nat.reduceEqDiff, ↓reduceIte, beq_self_eq_true, bne_self_eq_false, Int.reduceBEq, Int.reduceBNe, or_self, true_or, or_true, Option.map_some, Option.map_none, List.length_map, all_ok_Mk]) | (refine hK _ ?_; clear hK K) | (with_reducible refine And.intro ?_ ?_; first | omega | assumption | (focus (decide)) | (focus (simp; done)) | (focus (simp; omega)) | (focus (constructor <;> omega)) | fail))
    exact AW.ret (Fin.objs [320] rfl (by simp [go_sem, inI, gI]) ⟨⟨_, rfl, by simp [go_sem, inI, gI]⟩, trivial⟩ (by simp) rfl (by simp [go_sem]) (by simp [go_sem]) rfl)

theorem indexFunc_Mk (xs : List Mk) (hl : xs.length ≤ 1000) (c : Nat) (cap : D) (q : Mk → Bool) (hc : ∀ x ∈ xs, Does Tryz.prog c [.d (mkD x), .d cap] [] (B (q x)) []) :
    Does Tryz.prog 94 [.d (.sl (xs.map mkD)), .fn c [.d cap]] [] (I (idxG q xs 0)) [] := by
  refine Does.of_AW (n := 19) Tryz.func94 rfl rfl rfl fun cx hcx => ?_
  generalize hR : idxG q xs 0 = R
  repeat' (first | (refine AW.sreg rfl fun K hK => ?_; simp only [go_sem, Nat.reduceAdd, Nat.reduceMul, Int.reduceToNat, Nat.reduceLT, Nat.reduceLeDiff, Nat.le_refl, Nat.reduceEqDiff, ↓reduceIte, beq_self_eq_true, bne_self_eq_false, Int.reduceBEq, Int.reduceBNe, or_self, true_or, or_true, Option.map_some, Option.map_none, List.length_map]) | (refine AW.seq_k fun K hK => ?_) | (refine AW.block ?_) | (refine hK _ ?_; clear hK K))
  refine AW.loopF (ι := Nat) [0, 1, 7] (fun p => [(8, I p)]) (fun p => []) 1 (fun p => p ≤ xs.length ∧ idxG q (xs.drop p) p = R) (fun p => xs.length - p) 0 ⟨by simp, hR⟩ (Weak.auto hcx rfl rfl (Nat.le_of_ble_eq_true rfl) (by simp [go_sem, gL, kL, renOf, V.obj, lk, Nat.blt, Nat.ble, List.map_append, dv_push]) (by simp [go_sem, gL, kL, renOf, V.obj, lk, Nat.blt, Nat.ble, List.map_append, dv_push]) (by first | (intro i hi; exact absurd hi (Nat.not_lt_zero _)) | (intro i0 hi0; match i0, hi0 with | 0, _ => exact ⟨_, rfl⟩ | n0+1, h0 => exact absurd h0 (Nat.not_lt.2 (Nat.le_add_left 1 n0))) | (intro i0 hi0; match i0, hi0 with | 0, _ => exact ⟨_, rfl⟩ | 1, _ => exact ⟨_, rfl⟩ | n0+2, h0 => exact absurd h0 (Nat.not_lt.2 (Nat.le_add_left 2 n0))) | (intro i0 hi0; match i0, hi0 with | 0, _ => exact ⟨_, rfl⟩ | 1, _ => exact ⟨_, rfl⟩ | 2, _ => exact ⟨_, rfl⟩ | n0+3, h0 => exact absurd h0 (Nat.not_lt.2 (Nat.le_add_left 3 n0))) | (intro i0 hi0; match i0, hi0 with | 0, _ => exact ⟨_, rfl⟩ | 1, _ => exact ⟨_, rfl⟩ | 2, _ => exact ⟨_, rfl⟩ | 3, _ => exact ⟨_, rfl⟩ | n0+4, h0 => exact absurd h0 (Nat.not_lt.2 (Nat.le_add_left 4 n0)))) (by simp [go_sem, gL, kL, lk, renOf, V.obj, Nat.blt, Nat.ble])) ?_; simp only [St.at_nil, St.at_cons, lk, Nat.reduceEqDiff, ↓reduceIte, Option.getD_some, Option.getD_none, List.cons_append, List.nil_append, List.append_nil]
  rintro i ⟨h1, h2⟩
  by_cases hi : i < xs.length
  · obtain ⟨x, hx, hxm, hxd⟩ := get_some hi
    have hget : (xs.map mkD)[i]? = some (mkD x) := by simp [hx]
    rw [hxd, idxG] at h2
    repeat' (first | ((first | refine AW.sreg rfl fun K hK => ?_ | refine AW.reg rfl ?_ | refine run_call _ _ _ ((hc x hxm).pure rfl rfl _ _) rfl rfl (dstOk_of rfl) rfl rfl rfl ?_); simp only [go_sem, Nat.reduceAdd, Nat.reduceMul, Int.reduceToNat, Nat.reduceLT, Nat.reduceLeDiff, Nat.le_refl, Nat.reduceEqDiff, ↓reduceIte, beq_self_eq_true, bne_self_eq_false, Int.reduceBEq, Int.reduceBNe, or_self, true_or, or_true, Option.map_some, Option.map_none, List.length_map, hget]) | (refine AW.seq_k fun K hK => ?_) | (refine AW.block ?_) | (refine AW.skip ?_; simp only [Then, InBlock]) | (refine AW.condT rfl (by first | rfl | (simp; omega) | (simp [*]; done) | fail) ?_) | (refine AW.cond rfl (fun h => ?_) (fun h => ?_) <;> (try simp only [decide_eq_true_eq, decide_eq_false_iff_not, Bool.not_eq_true', Bool.not_eq_false', Bool.not_eq_eq_eq_not, Bool.not_true, Bool.not_false, beq_iff_eq, bne_iff_ne, beq_eq_false_iff_ne, ne_eq, Bool.and_eq_true, Bool.or_eq_true, Bool.or_eq_false_iff] at h)) | (refine hK _ ?_; clear hK K) | (with_reducible refine And.intro ?_ ?_; first | omega | assumption | (focus (decide)) | (focus (simp; done)) | (focus (simp; omega)) | (focus (constructor <;> omega)) | fail) | (refine AW.ret (Fin.data rfl (by first | (simp only [go_sem]; done) | ((rw [if_pos h] at h2; subst h2; simp [go_sem]); done) | (simp [go_sem]; omega) | rfl) rfl)))
    rw [if_neg (by simp [h])] at h2
    exact ⟨i + 1, ⟨hi, h2⟩, by omega, (Weak.auto hcx rfl rfl (Nat.le_of_ble_eq_true rfl) (by simp [go_sem, gL, kL, renOf, V.obj, lk, Nat.blt, Nat.ble, List.map_append, dv_push]) (by simp [go_sem, gL, kL, renOf, V.obj, lk, Nat.blt, Nat.ble, List.map_append, dv_push]) (by first | (intro i hi; exact absurd hi (Nat.not_lt_zero _)) | (intro i0 hi0; match i0, hi0 with | 0, _ => exact ⟨_, rfl⟩ | n0+1, h0 => exact absurd h0 (Nat.not_lt.2 (Nat.le_add_left 1 n0))) | (intro i0 hi0; match i0, hi0 with | 0, _ => exact ⟨_, rfl⟩ | 1, _ => exact ⟨_, rfl⟩ | n0+2, h0 => exact absurd h0 (Nat.not_lt.2 (Nat.le_add_left 2 n0))) | (intro i0 hi0; match i0, hi0 with | 0, _ => exact ⟨_, rfl⟩ | 1, _ => exact ⟨_, rfl⟩ | 2, _ => exact ⟨_, rfl⟩ | n0+3, h0 => exact absurd h0 (Nat.not_lt.2 (Nat.le_add_left 3 n0))) | (intro i0 hi0; match i0, hi0 with | 0, _ => exact ⟨_, rfl⟩ | 1, _ => exact ⟨_, rfl⟩ | 2, _ => exact ⟨_, rfl⟩ | 3, _ => exact ⟨_, rfl⟩ | n0+4, h0 => exact absurd h0 (Nat.not_lt.2 (Nat.le_add_left 4 n0)))) (by simp [go_sem, gL, kL, lk, renOf, V.obj, Nat.blt, Nat.ble]))⟩
  · obtain rfl : i = xs.length := by omega
    simp only [List.drop_length, idxG] at h2
    subst h2
    repeat' (first | (refine AW.sreg rfl fun K hK => ?_; simp only [go_sem, Nat.reduceAdd, Nat.reduceMul, Int.reduceToNat, Nat.reduceLT, Nat.reduceLeDiff, Nat.le_refl, Nat.reduceEqDiff, ↓reduceIte, beq_self_eq_true, bne_self_eq_false, Int.reduceBEq, Int.reduceBNe, or_self, true_or, or_true, Option.map_some, Option.map_none, List.length_map]) | (refine AW.seq_k fun K hK => ?_) | (refine AW.exit ?_; simp only [go_sem, ↓reduceIte]) | (refine AW.condF rfl (by first | rfl | (simp; omega) | (simp [*]; done) | fail) ?_) | (refine hK _ ?_; clear hK K) | (clear hK K; refine hK _ ?_; clear hK K) | (refine AW.ret (Fin.data rfl (by first | (simp only [go_sem]; done) | (simp [go_sem, *]; done) | (simp [go_sem]; omega) | rfl) rfl)))
theorem deleteFunc_Mk (xs : List (Mk)) (hl : xs.length ≤ 1000) (c : Nat) (cap : D) (q : Mk → Bool) (hc : ∀ x ∈ xs, Does Tryz.prog c [.d (mkD x), .d cap] [] (B (q x)) []) :
    Does Tryz.prog 64 [.slr 0 0 xs.length, .fn c [.d cap]] [.vec 39 3 (dv (xs.map mkD))] (.slr 0 0 (xs.filter fun x => !q x).length) [.vec 39 3 (dv ((xs.filter fun x => !q x).map mkD ++ List.replicate (xs.length - (xs.filter fun x => !q x).length) (mkD ([], [], 0))))] := by
  have hix := indexFunc_Mk xs hl c cap q hc
  refine Does.of_AW (n := 42) Tryz.func64 rfl rfl rfl fun cx hcx => ?_
  generalize hF : (xs.filter fun x => !q x) = F
  cases hany : xs.any q with
  | false =>
    have hno : ∀ x ∈ xs, q x = false := by simpa using hany
    have hid : idxG q xs 0 = -1 := idxG_none 0 hany
    rw [hid] at hix
    have : F = xs := by
      rw [← hF, List.filter_eq_self]
      intro x hx; rw [hno x hx]; rfl
    subst this
    repeat' (first | ((first | refine AW.sreg rfl fun K hK => ?_ | refine run_call _ _ _ ((hix).lend (by repeat' (first | exact frzL_nil | refine frzL_cons (by first | exact frz_d | exact frz_slr rfl rfl (by first | (simp; done) | (simp; omega) | (simp [*]; done) | fail) | rfl) ?_)) rfl rfl rfl) rfl rfl (dstOk_of rfl) rfl rfl rfl ?_); simp only [go_sem, Nat.reduceAdd, Nat.reduceMul, Int.reduceToNat, Nat.reduceLT, Nat.reduceLeDiff, Nat.le_refl, Nat.reduceEqDiff, ↓reduceIte, beq_self_eq_true, bne_self_eq_false, Int.reduceBEq, Int.reduceBNe, or_self, true_or, or_true, Option.map_some, Option.map_none, List.length_map]) | (refine AW.seq_k fun K hK => ?_) | (refine AW.condT rfl (by first | rfl | (simp; omega) | (simp [*]; done) | fail) ?_) | (refine hK _ ?_; clear hK K))
    exact AW.ret (Fin.one rfl (by simp [go_sem]) ⟨_, rfl, by simp [go_sem]⟩ rfl (by simp [go_sem]) rfl)
  | true =>
    obtain ⟨k, x, hk, hkx, hqx, hpre⟩ := idxG_at 0 hany
    rw [hk, Nat.zero_add] at hix
    have hkl : k < xs.length := by
      rcases Nat.lt_or_ge k xs.length with h | h
      · exact h
      · simp [List.getElem?_eq_none h] at hkx
    have hd : xs.drop k = x :: xs.drop (k + 1) := by
      rw [List.drop_eq_getElem_cons hkl]; congr 1; rw [List.getElem?_eq_getElem hkl] at hkx; exact Option.some.inj hkx
    have hf0 : xs.take k ++ (xs.drop (k + 1)).filter (fun x => !q x) = F := by
      rw [← hF]
      conv => rhs; rw [← List.take_append_drop k xs, List.filter_append, hd, List.filter_cons_of_neg (by simp [hqx])]
      congr 1
      rw [List.filter_eq_self.2]
      intro y hy; rw [hpre y hy]; rfl
    repeat' (first | ((first | refine AW.sreg rfl fun K hK => ?_ | refine run_call _ _ _ ((hix).lend (by repeat' (first | exact frzL_nil | refine frzL_cons (by first | exact frz_d | exact frz_slr rfl rfl (by first | (simp; done) | (simp; omega) | (simp [*]; done) | fail) | rfl) ?_)) rfl rfl rfl) rfl rfl (dstOk_of rfl) rfl rfl rfl ?_); simp only [go_sem, Nat.reduceAdd, Nat.reduceMul, Int.reduceToNat, Nat.reduceLT, Nat.reduceLeDiff, Nat.le_refl, Nat.reduceEqDiff, ↓reduceIte, beq_self_eq_true, bne_self_eq_false, Int.reduceBEq, Int.reduceBNe, or_self, true_or, or_true, Option.map_some, Option.map_none, List.length_map]) | (refine AW.seq_k fun K hK => ?_) | (refine AW.block ?_) | (refine AW.skip ?_; simp only [Then, InBlock]) | (refine AW.condF rfl (by first | rfl | (simp; omega) | (simp [*]; done) | fail) ?_) | (refine hK _ ?_; clear hK K) | (with_reducible refine And.intro ?_ ?_; first | omega | assumption | (focus (decide)) | (focus (simp; done)) | (focus (simp; omega)) | (focus (constructor <;> omega)) | fail))
    refine AW.loopF (ι := Nat × List (Mk) × List (Mk)) [0, 1] (fun p => [(5, I p.2.1.length), (6, I p.1)]) (fun p => [(0, some (O.vec 39 3 (dv ((p.2.1 ++ (p.2.2 ++ xs.drop p.1)).map mkD))))]) 1 (fun p => p.1 ≤ xs.length ∧ p.2.1.length + p.2.2.length = p.1 ∧ 1 ≤ p.2.2.length ∧ p.2.1 ++ (xs.drop p.1).filter (fun x => !q x) = F) (fun p => xs.length - p.1) (k + 1, xs.take k, [x]) ⟨by simp only; omega, by simp; omega, by simp, hf0⟩ (Weak.auto hcx rfl rfl (Nat.le_of_ble_eq_true rfl) (by simp [go_sem, gL, kL, renOf, V.obj, lk, Nat.blt, Nat.ble, List.map_append, dv_push, ← hd, List.take_append_drop, Nat.min_eq_left (Nat.le_of_lt hkl)]) (by simp [go_sem, gL, kL, renOf, V.obj, lk, Nat.blt, Nat.ble, List.map_append, dv_push, ← hd, List.take_append_drop, Nat.min_eq_left (Nat.le_of_lt hkl)]) (by first | (intro i hi; exact absurd hi (Nat.not_lt_zero _)) | (intro i0 hi0; match i0, hi0 with | 0, _ => exact ⟨_, rfl⟩ | n0+1, h0 => exact absurd h0 (Nat.not_lt.2 (Nat.le_add_left 1 n0))) | (intro i0 hi0; match i0, hi0 with | 0, _ => exact ⟨_, rfl⟩ | 1, _ => exact ⟨_, rfl⟩ | n0+2, h0 => exact absurd h0 (Nat.not_lt.2 (Nat.le_add_left 2 n0))) | (intro i0 hi0; match i0, hi0 with | 0, _ => exact ⟨_, rfl⟩ | 1, _ => exact ⟨_, rfl⟩ | 2, _ => exact ⟨_, rfl⟩ | n0+3, h0 => exact absurd h0 (Nat.not_lt.2 (Nat.le_add_left 3 n0))) | (intro i0 hi0; match i0, hi0 with | 0, _ => exact ⟨_, rfl⟩ | 1, _ => exact ⟨_, rfl⟩ | 2, _ => exact ⟨_, rfl⟩ | 3, _ => exact ⟨_, rfl⟩ | n0+4, h0 => exact absurd h0 (Nat.not_lt.2 (Nat.le_add_left 4 n0)))) (by simp [go_sem, gL, kL, lk, renOf, V.obj, Nat.blt, Nat.ble, ← hd, List.take_append_drop, Nat.min_eq_left (Nat.le_of_lt hkl)])) ?_; simp only [St.at_nil, St.at_cons, lk, Nat.reduceEqDiff, ↓reduceIte, Option.getD_some, Option.getD_none, List.cons_append, List.nil_append, List.append_nil]
    rintro ⟨j, A, G⟩ ⟨g1, g2, g3, g4⟩
    simp only at g1 g2 g3 g4 ⊢
    have hlen : (A ++ (G ++ xs.drop j)).length = xs.length := by simp; omega
    by_cases hj : j < xs.length
    · obtain ⟨z, hz, hzm, hzd⟩ := get_some hj
      obtain ⟨g0, G, rfl⟩ : ∃ g0 G', G = g0 :: G' := by
        cases G with
        | nil => simp at g3
        | cons a b => exact ⟨a, b, rfl⟩
      have e1 : (dv ((A ++ ((g0 :: G) ++ xs.drop j)).map mkD))[0 + j]? = some (.d (mkD z)) := by
        have : (A ++ ((g0 :: G) ++ xs.drop j))[j]? = some z := by
          rw [show A ++ ((g0 :: G) ++ xs.drop j) = (A ++ (g0 :: G)) ++ xs.drop j by simp, List.getElem?_append_right (by simp at g2 ⊢; omega), show j - (A ++ (g0 :: G)).length = 0 by simp at g2 ⊢; omega, hzd]
          rfl
        simp only [dv, Nat.zero_add, List.getElem?_map, this, Option.map_some]
      have e3 : (dv ((A ++ ((g0 :: G) ++ xs.drop j)).map mkD))[0 + A.length]? = some (.d (mkD g0)) := by
        have := get_mid A g0 (G ++ xs.drop j)
        simp only [dv, Nat.zero_add, List.getElem?_map, List.cons_append, this, Option.map_some]
      have hset : (dv ((A ++ ((g0 :: G) ++ xs.drop j)).map mkD)).set (0 + A.length) (.d (mkD z)) = dv (((A ++ [z]) ++ (G ++ xs.drop j)).map mkD) := by
        have := set_mid (dv (A.map mkD)) (V.d (mkD g0)) (dv ((G ++ xs.drop j).map mkD)) (V.d (mkD z))
        simpa [dv] using this
      simp only [List.cons_append] at e1 e3 hset hlen
      rw [hzd] at g4
      have hcz := hc z hzm
      cases hqz : q z with
      | true =>
        rw [hqz] at hcz
        rw [List.filter_cons_of_neg (by simp [hqz])] at g4
        repeat' (first | ((first | refine AW.sreg rfl fun K hK => ?_ | refine AW.reg rfl ?_ | refine run_call _ _ _ ((hcz).pure rfl rfl _ _) rfl rfl (dstOk_of rfl) rfl rfl rfl ?_); simp only [go_sem, Nat.reduceAdd, Nat.reduceMul, Int.reduceToNat, Nat.reduceLT, Nat.reduceLeDiff, Nat.le_refl, Nat.reduceEqDiff, ↓reduceIte, beq_self_eq_true, bne_self_eq_false, Int.reduceBEq, Int.reduceBNe, or_self, true_or, or_true, Option.map_some, Option.map_none, List.length_map, e1, List.cons_append]) | (refine AW.seq_k fun K hK => ?_) | (refine AW.block ?_) | (refine AW.skip ?_; simp only [Then, InBlock]) | (refine AW.condT rfl (by first | rfl | (simp; omega) | (simp [*]; done) | fail) ?_) | (refine AW.condF rfl (by first | rfl | (simp; omega) | (simp [*]; done) | fail) ?_) | (refine hK _ ?_; clear hK K) | (with_reducible refine And.intro ?_ ?_; first | omega | assumption | (focus (decide)) | (focus (simp; done)) | (focus (simp; omega)) | (focus (constructor <;> omega)) | fail))
        exact ⟨(j + 1, A, g0 :: (G ++ [z])), ⟨hj, by simp at g2 ⊢; omega, by simp, g4⟩, by simp only; omega, (Weak.auto hcx rfl rfl (Nat.le_of_ble_eq_true rfl) (by simp [go_sem, gL, kL, renOf, V.obj, lk, Nat.blt, Nat.ble, List.map_append, dv_push, hzd]) (by simp [go_sem, gL, kL, renOf, V.obj, lk, Nat.blt, Nat.ble, List.map_append, dv_push, hzd]) (by first | (intro i hi; exact absurd hi (Nat.not_lt_zero _)) | (intro i0 hi0; match i0, hi0 with | 0, _ => exact ⟨_, rfl⟩ | n0+1, h0 => exact absurd h0 (Nat.not_lt.2 (Nat.le_add_left 1 n0))) | (intro i0 hi0; match i0, hi0 with | 0, _ => exact ⟨_, rfl⟩ | 1, _ => exact ⟨_, rfl⟩ | n0+2, h0 => exact absurd h0 (Nat.not_lt.2 (Nat.le_add_left 2 n0))) | (intro i0 hi0; match i0, hi0 with | 0, _ => exact ⟨_, rfl⟩ | 1, _ => exact ⟨_, rfl⟩ | 2, _ => exact ⟨_, rfl⟩ | n0+3, h0 => exact absurd h0 (Nat.not_lt.2 (Nat.le_add_left 3 n0))) | (intro i0 hi0; match i0, hi0 with | 0, _ => exact ⟨_, rfl⟩ | 1, _ => exact ⟨_, rfl⟩ | 2, _ => exact ⟨_, rfl⟩ | 3, _ => exact ⟨_, rfl⟩ | n0+4, h0 => exact absurd h0 (Nat.not_lt.2 (Nat.le_add_left 4 n0)))) (by simp [go_sem, gL, kL, lk, renOf, V.obj, Nat.blt, Nat.ble, hzd]))⟩
      | false =>
        rw [hqz] at hcz
        rw [List.filter_cons_of_pos (by simp [hqz])] at g4
        repeat' (first | ((first | refine AW.sreg rfl fun K hK => ?_ | refine AW.reg rfl ?_ | refine run_call _ _ _ ((hcz).pure rfl rfl _ _) rfl rfl (dstOk_of rfl) rfl rfl rfl ?_); simp only [go_sem, Nat.reduceAdd, Nat.reduceMul, Int.reduceToNat, Nat.reduceLT, Nat.reduceLeDiff, Nat.le_refl, Nat.reduceEqDiff, ↓reduceIte, beq_self_eq_true, bne_self_eq_false, Int.reduceBEq, Int.reduceBNe, or_self, true_or, or_true, Option.map_some, Option.map_none, List.length_map, e1, e3, hset, List.cons_append]) | (refine AW.seq_k fun K hK => ?_) | (refine AW.block ?_) | (refine AW.skip ?_; simp only [Then, InBlock]) | (refine AW.condT rfl (by first | rfl | (simp; omega) | (simp [*]; done) | fail) ?_) | (refine hK _ ?_; clear hK K) | (with_reducible refine And.intro ?_ ?_; first | omega | assumption | (focus (decide)) | (focus (simp; done)) | (focus (simp; omega)) | (focus (constructor <;> omega)) | fail))
        exact ⟨(j + 1, A ++ [z], G ++ [z]), ⟨hj, by simp at g2 ⊢; omega, by simp, by simpa using g4⟩, by simp only; omega, (Weak.auto hcx rfl rfl (Nat.le_of_ble_eq_true rfl) (by simp [go_sem, gL, kL, renOf, V.obj, lk, Nat.blt, Nat.ble, List.map_append, dv_push, hzd]) (by simp [go_sem, gL, kL, renOf, V.obj, lk, Nat.blt, Nat.ble, List.map_append, dv_push, hzd]) (by first | (intro i hi; exact absurd hi (Nat.not_lt_zero _)) | (intro i0 hi0; match i0, hi0 with | 0, _ => exact ⟨_, rfl⟩ | n0+1, h0 => exact absurd h0 (Nat.not_lt.2 (Nat.le_add_left 1 n0))) | (intro i0 hi0; match i0, hi0 with | 0, _ => exact ⟨_, rfl⟩ | 1, _ => exact ⟨_, rfl⟩ | n0+2, h0 => exact absurd h0 (Nat.not_lt.2 (Nat.le_add_left 2 n0))) | (intro i0 hi0; match i0, hi0 with | 0, _ => exact ⟨_, rfl⟩ | 1, _ => exact ⟨_, rfl⟩ | 2, _ => exact ⟨_, rfl⟩ | n0+3, h0 => exact absurd h0 (Nat.not_lt.2 (Nat.le_add_left 3 n0))) | (intro i0 hi0; match i0, hi0 with | 0, _ => exact ⟨_, rfl⟩ | 1, _ => exact ⟨_, rfl⟩ | 2, _ => exact ⟨_, rfl⟩ | 3, _ => exact ⟨_, rfl⟩ | n0+4, h0 => exact absurd h0 (Nat.not_lt.2 (Nat.le_add_left 4 n0)))) (by simp [go_sem, gL, kL, lk, renOf, V.obj, Nat.blt, Nat.ble, hzd]))⟩
    · obtain rfl : j = xs.length := by omega
      simp only [List.drop_length, List.filter_nil, List.append_nil] at g4 hlen
      subst g4
      have hcl : (dv ((A ++ G).map mkD)).take (0 + A.length) ++ List.replicate (xs.length - A.length) (V.d (mkD ([], [], 0))) ++ (dv ((A ++ G).map mkD)).drop (0 + A.length + (xs.length - A.length)) = dv (A.map mkD ++ List.replicate (xs.length - A.length) (mkD ([], [], 0))) := by
        rw [List.drop_eq_nil_of_le (by simp [dv]; omega), List.append_nil]
        simp [dv]
      clear hf0 hF
      repeat' (first | (refine AW.sreg rfl fun K hK => ?_; simp only [go_sem, Nat.reduceAdd, Nat.reduceMul, Int.reduceToNat, Nat.reduceLT, Nat.reduceLeDiff, Nat.le_refl, Nat.reduceEqDiff, ↓reduceIte, beq_self_eq_true, bne_self_eq_false, Int.reduceBEq, Int.reduceBNe, or_self, true_or, or_true, Option.map_some, Option.map_none, List.length_map, List.drop_length, List.append_nil, hcl]) | (refine AW.seq_k fun K hK => ?_) | (refine AW.exit ?_; simp only [go_sem, ↓reduceIte]) | (refine AW.condF rfl (by first | rfl | (simp; omega) | (simp [*]; done) | fail) ?_) | (refine hK _ ?_; clear hK K) | (clear hK K; refine hK _ ?_; clear hK K) | (with_reducible refine And.intro ?_ ?_; first | omega | assumption | (focus (decide)) | (focus (simp; done)) | (focus (simp; omega)) | (focus (constructor <;> omega)) | fail))
      exact AW.ret (Fin.one rfl (by simp [go_sem]) ⟨_, rfl, by simp [go_sem]⟩ rfl (by simp [go_sem]) rfl)

theorem index_St (xs : List Str) (hl : xs.length ≤ 1000) (v : Str) :
    Does Tryz.prog 62 [.d (.sl (xs.map D.str)), S v] [] (I (idxG (fun x => v == x) xs 0)) [] := by
  refine Does.of_AW (n := 19) Tryz.func62 rfl rfl rfl fun cx hcx => ?_
  generalize hR : idxG (fun x => v == x) xs 0 = R
  repeat' (first | (refine AW.sreg rfl fun K hK => ?_; simp only [go_sem, Nat.reduceAdd, Nat.reduceMul, Int.reduceToNat, Nat.reduceLT, Nat.reduceLeDiff, Nat.le_refl, Nat.reduceEqDiff, ↓reduceIte, beq_self_eq_true, bne_self_eq_false, Int.reduceBEq, Int.reduceBNe, or_self, true_or, or_true, Option.map_some, Option.map_none, List.length_map]) | (refine AW.seq_k fun K hK => ?_) | (refine AW.block ?_) | (refine hK _ ?_; clear hK K))
  refine AW.loopF (ι := Nat) [0, 1, 7] (fun p => [(8, I p)]) (fun p => []) 1 (fun p => p ≤ xs.length ∧ idxG (fun x => v == x) (xs.drop p) p = R) (fun p => xs.length - p) 0 ⟨by simp, hR⟩ (Weak.auto hcx rfl rfl (Nat.le_of_ble_eq_true rfl) (by simp [go_sem, gL, kL, renOf, V.obj, lk, Nat.blt, Nat.ble, List.map_append, dv_push]) (by simp [go_sem, gL, kL, renOf, V.obj, lk, Nat.blt, Nat.ble, List.map_append, dv_push]) (by first | (intro i hi; exact absurd hi (Nat.not_lt_zero _)) | (intro i0 hi0; match i0, hi0 with | 0, _ => exact ⟨_, rfl⟩ | n0+1, h0 => exact absurd h0 (Nat.not_lt.2 (Nat.le_add_left 1 n0))) | (intro i0 hi0; match i0, hi0 with | 0, _ => exact ⟨_, rfl⟩ | 1, _ => exact ⟨_, rfl⟩ | n0+2, h0 => exact absurd h0 (Nat.not_lt.2 (Nat.le_add_left 2 n0))) | (intro i0 hi0; match i0, hi0 with | 0, _ => exact ⟨_, rfl⟩ | 1, _ => exact ⟨_, rfl⟩ | 2, _ => exact ⟨_, rfl⟩ | n0+3, h0 => exact absurd h0 (Nat.not_lt.2 (Nat.le_add_left 3 n0))) | (intro i0 hi0; match i0, hi0 with | 0, _ => exact ⟨_, rfl⟩ | 1, _ => exact ⟨_, rfl⟩ | 2, _ => exact ⟨_, rfl⟩ | 3, _ => exact ⟨_, rfl⟩ | n0+4, h0 => exact absurd h0 (Nat.not_lt.2 (Nat.le_add_left 4 n0)))) (by simp [go_sem, gL, kL, lk, renOf, V.obj, Nat.blt, Nat.ble])) ?_; simp only [St.at_nil, St.at_cons, lk, Nat.reduceEqDiff, ↓reduceIte, Option.getD_some, Option.getD_none, List.cons_append, List.nil_append, List.append_nil]
  rintro i ⟨h1, h2⟩
  by_cases hi : i < xs.length
  · obtain ⟨x, hx, hxm, hxd⟩ := get_some hi
    have hget : (xs.map D.str)[i]? = some (.str x) := by simp [hx]
    rw [hxd, idxG] at h2
    repeat' (first | ((first | refine AW.sreg rfl fun K hK => ?_ | refine AW.reg rfl ?_); simp only [go_sem, Nat.reduceAdd, Nat.reduceMul, Int.reduceToNat, Nat.reduceLT, Nat.reduceLeDiff, Nat.le_refl, Nat.reduceEqDiff, ↓reduceIte, beq_self_eq_true, bne_self_eq_false, Int.reduceBEq, Int.reduceBNe, or_self, true_or, or_true, Option.map_some, Option.map_none, List.length_map, hget]) | (refine AW.seq_k fun K hK => ?_) | (refine AW.block ?_) | (refine AW.skip ?_; simp only [Then, InBlock]) | (refine AW.condT rfl (by first | rfl | (simp; omega) | (simp [*]; done) | fail) ?_) | (refine AW.cond rfl (fun h => ?_) (fun h => ?_) <;> (try simp only [decide_eq_true_eq, decide_eq_false_iff_not, Bool.not_eq_true', Bool.not_eq_false', Bool.not_eq_eq_eq_not, Bool.not_true, Bool.not_false, beq_iff_eq, bne_iff_ne, beq_eq_false_iff_ne, ne_eq, Bool.and_eq_true, Bool.or_eq_true, Bool.or_eq_false_iff] at h)) | (refine hK _ ?_; clear hK K) | (with_reducible refine And.intro ?_ ?_; first | omega | assumption | (focus (decide)) | (focus (simp; done)) | (focus (simp; omega)) | (focus (constructor <;> omega)) | fail) | (refine AW.ret (Fin.data rfl (by first | (simp only [go_sem]; done) | ((rw [if_pos (by simpa using h)] at h2; subst h2; simp [go_sem]); done) | (simp [go_sem]; omega) | rfl) rfl)))
    rw [if_neg (by simpa using h)] at h2
    exact ⟨i + 1, ⟨hi, h2⟩, by omega, (Weak.auto hcx rfl rfl (Nat.le_of_ble_eq_true rfl) (by simp [go_sem, gL, kL, renOf, V.obj, lk, Nat.blt, Nat.ble, List.map_append, dv_push]) (by simp [go_sem, gL, kL, renOf, V.obj, lk, Nat.blt, Nat.ble, List.map_append, dv_push]) (by first | (intro i hi; exact absurd hi (Nat.not_lt_zero _)) | (intro i0 hi0; match i0, hi0 with | 0, _ => exact ⟨_, rfl⟩ | n0+1, h0 => exact absurd h0 (Nat.not_lt.2 (Nat.le_add_left 1 n0))) | (intro i0 hi0; match i0, hi0 with | 0, _ => exact ⟨_, rfl⟩ | 1, _ => exact ⟨_, rfl⟩ | n0+2, h0 => exact absurd h0 (Nat.not_lt.2 (Nat.le_add_left 2 n0))) | (intro i0 hi0; match i0, hi0 with | 0, _ => exact ⟨_, rfl⟩ | 1, _ => exact ⟨_, rfl⟩ | 2, _ => exact ⟨_, rfl⟩ | n0+3, h0 => exact absurd h0 (Nat.not_lt.2 (Nat.le_add_left 3 n0))) | (intro i0 hi0; match i0, hi0 with | 0, _ => exact ⟨_, rfl⟩ | 1, _ => exact ⟨_, rfl⟩ | 2, _ => exact ⟨_, rfl⟩ | 3, _ => exact ⟨_, rfl⟩ | n0+4, h0 => exact absurd h0 (Nat.not_lt.2 (Nat.le_add_left 4 n0)))) (by simp [go_sem, gL, kL, lk, renOf, V.obj, Nat.blt, Nat.ble]))⟩
  · obtain rfl : i = xs.length := by omega
    simp only [List.drop_length, idxG] at h2
    subst h2
    repeat' (first | (refine AW.sreg rfl fun K hK => ?_; simp only [go_sem, Nat.reduceAdd, Nat.reduceMul, Int.reduceToNat, Nat.reduceLT, Nat.reduceLeDiff, Nat.le_refl, Nat.reduceEqDiff, ↓reduceIte, beq_self_eq_true, bne_self_eq_false, Int.reduceBEq, Int.reduceBNe, or_self, true_or, or_true, Option.map_some, Option.map_none, List.length_map]) | (refine AW.seq_k fun K hK => ?_) | (refine AW.exit ?_; simp only [go_sem, ↓reduceIte]) | (refine AW.condF rfl (by first | rfl | (simp; omega) | (simp [*]; done) | fail) ?_) | (refine hK _ ?_; clear hK K) | (clear hK K; refine hK _ ?_; clear hK K) | (refine AW.ret (Fin.data rfl (by first | (simp only [go_sem]; done) | (simp [go_sem, *]; done) | (simp [go_sem]; omega) | rfl) rfl)))
theorem contains_St (xs : List Str) (hl : xs.length ≤ 1000) (v : Str) :
    Does Tryz.prog 22 [.d (.sl (xs.map D.str)), S v] [] (B (xs.any fun x => v == x)) [] := by
  rw [← idxG_any (fun x => v == x) xs 0]
  refine Does.of_AW (n := 9) Tryz.func22 rfl rfl rfl fun cx hcx => ?_
  repeat' (first | ((first | refine AW.sreg rfl fun K hK => ?_ | refine run_call _ _ _ ((index_St xs hl v).pure rfl rfl _ _) rfl rfl (dstOk_of rfl) rfl rfl rfl ?_); simp only [go_sem, Nat.reduceAdd, Nat.reduceMul, Int.reduceToNat, Nat.reduceLT, Nat.reduceLeDiff, Nat.le_refl, Nat.reduceEqDiff, ↓reduceIte, beq_self_eq_true, bne_self_eq_false, Int.reduceBEq, Int.reduceBNe, or_self, true_or, or_true, Option.map_some, Option.map_none]) | (refine hK _ ?_; clear hK K) | (refine AW.ret (Fin.data rfl (by first | (simp only [go_sem]; done) | (simp [go_sem, *]; done) | (simp [go_sem]; omega) | rfl) rfl)))

theorem idxG_bd {α : Type} (q : α → Bool) : ∀ (xs : List α) (i : Nat), -1 ≤ idxG q xs i ∧ idxG q xs i < (i : Int) + xs.length
  | [], i => by simp [idxG]; omega
  | x :: r, i => by
    have := idxG_bd q r (i + 1)
    simp only [idxG, List.length_cons]
    split <;> omega
theorem idxG_nd {xs : List Str} {v : Str} : ∀ {i : Nat} (b : Nat), xs.Nodup → xs[i]? = some v → idxG (fun x => v == x) xs b = (b : Int) + i := by
  induction xs with
  | nil => intro i b _ h; simp at h
  | cons x r ih =>
    intro i b hn h
    have hn' := List.nodup_cons.1 hn
    cases i with
    | zero =>
      simp only [List.getElem?_cons_zero, Option.some.injEq] at h
      subst h
      simp [idxG]
    | succ i =>
      simp only [List.getElem?_cons_succ] at h
      have hne : ¬ v = x := by rintro rfl; exact hn'.1 (List.mem_of_getElem? h)
      simp only [idxG, beq_iff_eq, if_neg hne]
      rw [ih (b + 1) hn'.2 h]
      omega
/-- Marks that are right stay so if some are left out. -/
theorem good_lt {ms : List Mk} (g : GoodM ms) : ∀ (d i : Nat) (x y : Mk), ms[i]? = some x → ms[i + d + 1]? = some y → ltP (x.1, x.2.1) (y.1, y.2.1) = true
  | 0, i, x, y, hx, hy => by
    have h := g.ord i x y hx hy
    rw [← cpP_lt, decide_eq_true h]
  | d + 1, i, x, y, hx, hy => by
    obtain ⟨z, hz, -, -⟩ := get_some (l := ms) (i := i + d + 1) (by have := get_lt hy; omega)
    have h1 := good_lt g d i x z hx hz
    have h2 := g.ord (i + d + 1) z y hz (by rw [← hy]; congr 1)
    have h3 : ltP (z.1, z.2.1) (y.1, y.2.1) = true := by rw [← cpP_lt, decide_eq_true h2]
    exact ltP_trans h1 h3
theorem good_pw {ms : List Mk} (g : GoodM ms) : ms.Pairwise (fun x y => ltP (x.1, x.2.1) (y.1, y.2.1) = true) := by
  rw [List.pairwise_iff_getElem]
  intro i j hi hj hij
  exact good_lt g (j - i - 1) i _ _ (List.getElem?_eq_getElem hi) (by rw [show i + (j - i - 1) + 1 = j by omega]; exact List.getElem?_eq_getElem hj)
theorem cnt_all {ms : List Mk} (g : GoodM ms) (p : Str) : ∀ n, n ≤ ms.length → cnt (ms.take n) p ≤ 12
  | 0, _ => by simp [cnt]
  | n + 1, h => by
    obtain ⟨x, hx, -, -⟩ := get_some (l := ms) (i := n) (by omega)
    have ih := cnt_all g p n (by omega)
    rw [take_snoc hx, cnt_snoc]
    split
    · rename_i e
      have := g.cnt n x hx
      rw [e] at this
      exact this
    · omega
theorem GoodM.filter {ms : List Mk} (g : GoodM ms) (f : Mk → Bool) : GoodM (ms.filter f) where
  keys := fun m hm => g.keys m (List.mem_filter.1 hm).1
  sc := fun m hm => g.sc m (List.mem_filter.1 hm).1
  ord := fun i x y hx hy => by
    have hp := (good_pw g).filter f
    rw [List.pairwise_iff_getElem] at hp
    have h1 := get_lt hx
    have h2 := get_lt hy
    have h3 := hp i (i + 1) h1 h2 (by omega)
    rw [List.getElem?_eq_getElem h1] at hx
    rw [List.getElem?_eq_getElem h2] at hy
    cases hx
    cases hy
    rw [← cpP_lt] at h3
    simpa using h3
  cnt := fun n m hm => by
    have h0 := cnt_all g m.1 ms.length (Nat.le_refl _)
    rw [List.take_length] at h0
    have h1 : Go.AX.cnt ((ms.filter f).take (n + 1)) m.1 ≤ Go.AX.cnt ms m.1 := by
      have : ((ms.filter f).take (n + 1)).Sublist ms := (List.take_sublist _ _).trans List.filter_sublist
      have := (this.filter fun x => x.1 == m.1).length_le
      unfold Go.AX.cnt
      omega
    rw [take_snoc hm, cnt_snoc, if_pos rfl] at h1
    omega
theorem MkO.filter {ms : List Mk} {H L : List Str} (h : MkO ms H L) (f : Mk → Bool) : MkO (ms.filter f) H L where
  len := Nat.le_trans (List.length_filter_le _ _) h.len
  good := h.good.filter f
  hH := h.hH
  pe := fun m hm => h.pe m (List.mem_filter.1 hm).1
  sh := fun m hm => h.sh m (List.mem_filter.1 hm).1
  hL := h.hL
  pl := fun m hm => h.pl m (List.mem_filter.1 hm).1
theorem isWay_any (how : Int) (h : 1 ≤ how ∧ how ≤ 5) : Does Tryz.prog 45 [I how] [] (B true) [] := by
  rcases (show how = 1 ∨ how = 2 ∨ how = 3 ∨ how = 4 ∨ how = 5 by omega) with rfl | rfl | rfl | rfl | rfl
  · have h := outside 1 1 5
    refine Does.of_AW (n := 6) Tryz.func45 rfl rfl rfl fun cx hcx => ?_
    repeat' (first | ((first | refine AW.sreg rfl fun K hK => ?_ | refine run_call _ _ _ ((h).pure rfl rfl _ _) rfl rfl (dstOk_of rfl) rfl rfl rfl ?_); simp only [go_sem, Nat.reduceAdd, Nat.reduceMul, Int.reduceToNat, Nat.reduceLT, Nat.reduceLeDiff, Nat.le_refl, Nat.reduceEqDiff, ↓reduceIte, beq_self_eq_true, bne_self_eq_false, Int.reduceBEq, Int.reduceBNe, or_self, true_or, or_true, Option.map_some, Option.map_none]) | (refine hK _ ?_; clear hK K) | (refine AW.ret (Fin.data rfl (by first | (simp only [go_sem]; done) | (simp [go_sem, *]; done) | (simp [go_sem]; omega) | rfl) rfl)))
  · have h := outside 2 1 5
    refine Does.of_AW (n := 6) Tryz.func45 rfl rfl rfl fun cx hcx => ?_
    repeat' (first | ((first | refine AW.sreg rfl fun K hK => ?_ | refine run_call _ _ _ ((h).pure rfl rfl _ _) rfl rfl (dstOk_of rfl) rfl rfl rfl ?_); simp only [go_sem, Nat.reduceAdd, Nat.reduceMul, Int.reduceToNat, Nat.reduceLT, Nat.reduceLeDiff, Nat.le_refl, Nat.reduceEqDiff, ↓reduceIte, beq_self_eq_true, bne_self_eq_false, Int.reduceBEq, Int.reduceBNe, or_self, true_or, or_true, Option.map_some, Option.map_none]) | (refine hK _ ?_; clear hK K) | (refine AW.ret (Fin.data rfl (by first | (simp only [go_sem]; done) | (simp [go_sem, *]; done) | (simp [go_sem]; omega) | rfl) rfl)))
  · have h := outside 3 1 5
    refine Does.of_AW (n := 6) Tryz.func45 rfl rfl rfl fun cx hcx => ?_
    repeat' (first | ((first | refine AW.sreg rfl fun K hK => ?_ | refine run_call _ _ _ ((h).pure rfl rfl _ _) rfl rfl (dstOk_of rfl) rfl rfl rfl ?_); simp only [go_sem, Nat.reduceAdd, Nat.reduceMul, Int.reduceToNat, Nat.reduceLT, Nat.reduceLeDiff, Nat.le_refl, Nat.reduceEqDiff, ↓reduceIte, beq_self_eq_true, bne_self_eq_false, Int.reduceBEq, Int.reduceBNe, or_self, true_or, or_true, Option.map_some, Option.map_none]) | (refine hK _ ?_; clear hK K) | (refine AW.ret (Fin.data rfl (by first | (simp only [go_sem]; done) | (simp [go_sem, *]; done) | (simp [go_sem]; omega) | rfl) rfl)))
  · have h := outside 4 1 5
    refine Does.of_AW (n := 6) Tryz.func45 rfl rfl rfl fun cx hcx => ?_
    repeat' (first | ((first | refine AW.sreg rfl fun K hK => ?_ | refine run_call _ _ _ ((h).pure rfl rfl _ _) rfl rfl (dstOk_of rfl) rfl rfl rfl ?_); simp only [go_sem, Nat.reduceAdd, Nat.reduceMul, Int.reduceToNat, Nat.reduceLT, Nat.reduceLeDiff, Nat.le_refl, Nat.reduceEqDiff, ↓reduceIte, beq_self_eq_true, bne_self_eq_false, Int.reduceBEq, Int.reduceBNe, or_self, true_or, or_true, Option.map_some, Option.map_none]) | (refine hK _ ?_; clear hK K) | (refine AW.ret (Fin.data rfl (by first | (simp only [go_sem]; done) | (simp [go_sem, *]; done) | (simp [go_sem]; omega) | rfl) rfl)))
  · have h := outside 5 1 5
    refine Does.of_AW (n := 6) Tryz.func45 rfl rfl rfl fun cx hcx => ?_
    repeat' (first | ((first | refine AW.sreg rfl fun K hK => ?_ | refine run_call _ _ _ ((h).pure rfl rfl _ _) rfl rfl (dstOk_of rfl) rfl rfl rfl ?_); simp only [go_sem, Nat.reduceAdd, Nat.reduceMul, Int.reduceToNat, Nat.reduceLT, Nat.reduceLeDiff, Nat.le_refl, Nat.reduceEqDiff, ↓reduceIte, beq_self_eq_true, bne_self_eq_false, Int.reduceBEq, Int.reduceBNe, or_self, true_or, or_true, Option.map_some, Option.map_none]) | (refine hK _ ?_; clear hK K) | (refine AW.ret (Fin.data rfl (by first | (simp only [go_sem]; done) | (simp [go_sem, *]; done) | (simp [go_sem]; omega) | rfl) rfl)))
theorem orderW_any (how : Int) (hh : 1 ≤ how ∧ how ≤ 5) (ms : List Mk) (H L : List Str) (h : MkO ms H L) (q : (List Str × List D) × (List Str × List D)) (hq : ShOk ms q) : Does Tryz.prog 46 [shV ms q, I how] [] (.slr 0 0 q.1.1.length) [SWk (ordP q.1.1 (vwF how ms))] := by
  have hl := h.len
  have hlL := hq.lenL h.pl
  have hL := h.hL
  have hk := fun m hm => (h.sh m hm).1
  rcases (show how = 1 ∨ how = 2 ∨ how = 3 ∨ how = 4 ∨ how = 5 by omega) with rfl | rfl | rfl | rfl | rfl
  · exact order_any 1 (mnV ms) ms q (by omega) hk hq (fun k hk => mnV_ok (by omega) h.i k (hq.pos hk)) (values1_any ms (by omega) h.i hk q hq)
  · exact order_any 2 (mdV ms) ms q (by omega) hk hq (fun k hk => mdV_ok (by omega) h.i k (hq.pos hk)) (values2_any ms hl h.i hk q hq)
  · exact order_any 3 (ptV ms) ms q (by omega) hk hq (fun k hk => ptV_ok hl k) (values3_any ms hl h.i hk q hq)
  · exact order_any 4 (wnV ms) ms q (by omega) hk hq (fun k hk => wnV_ok k (by rw [← hq.eqP]; omega)) (values4_any ms hl h.i hk q hq)
  · exact order_any 5 (bcV ms) ms q (by omega) hk hq (fun k hk => bcV_ok h.i k) (values5_any ms hl h.i hk q hq)
theorem OrderW_any (how : Int) (hh : 1 ≤ how ∧ how ≤ 5) (ms : List Mk) (H L : List Str) (h : MkO ms H L) : DoesI Tryz.prog 15 [.d (.sl (ms.map mkD)), I how] [] (ShOk ms) (fun q => .tup [.slr 0 0 q.1.1.length, I 0]) (fun q => [SWk (ordP q.1.1 (vwF how ms))]) := by
  have h1 := checkedO ms H L h
  have hw := isWay_any how hh
  refine DoesI.of_AW (n := 22) Tryz.func15 rfl rfl rfl fun cx hcx => ?_
  have h2 := fun q hq => orderW_any how hh ms H L h q hq
  repeat' (first | ((first | refine AW.sreg rfl fun K hK => ?_ | refine run_call _ _ _ ((h2 _ hq).objs [] trivial rfl (by decide) (by simp [go_sem, renOs]) (by simp) (by simp) (by simp [go_sem]) (by simp [go_sem]) (by simp [go_sem]) (by simp [go_sem])) rfl rfl (dstOk_of rfl) rfl rfl rfl ?_ | refine run_call _ _ _ ((hw).pure rfl rfl _ _) rfl rfl (dstOk_of rfl) rfl rfl rfl ?_); simp only [go_sem, Nat.reduceAdd, Nat.reduceMul, Int.reduceToNat, Nat.reduceLT, Nat.reduceLeDiff, Nat.le_refl, Nat.reduceEqDiff, ↓reduceIte, beq_self_eq_true, bne_self_eq_false, Int.reduceBEq, Int.reduceBNe, or_self, true_or, or_true, Option.map_some, Option.map_none, Nat.reduceSub, Nat.add_zero]) | (refine AW.seq_k fun K hK => ?_) | (refine AW.skip ?_; simp only [Then, InBlock]) | (refine AW.condF rfl (by first | rfl | (simp; omega) | (simp [*]; done) | fail) ?_) | (refine hK _ ?_; clear hK K) | (refine run_callI _ _ _ ((h1).pure rfl (fun _ => rfl) _ _) rfl rfl (dstOk_of rfl) rfl rfl rfl ?_; rintro q hq; (try dsimp only at q); (try dsimp only at hq); simp only [go_sem, Nat.reduceAdd, Nat.reduceMul, Int.reduceToNat, Nat.reduceLT, Nat.reduceLeDiff, Nat.le_refl, Nat.reduceEqDiff, ↓reduceIte, beq_self_eq_true, bne_self_eq_false, Int.reduceBEq, Int.reduceBNe, or_self, true_or, or_true, Option.map_some, Option.map_none, Nat.reduceSub, Nat.add_zero]))
  exact AW.ret ⟨q, hq, Fin.objs [1024] rfl (by simp [go_sem, inI, gI]) ⟨⟨_, rfl, by simp [go_sem, inI, gI]⟩, trivial⟩ (by simp) rfl (by simp [go_sem]) (by simp [go_sem]) rfl⟩
theorem papersOf_any (ms : List Mk) (H L : List Str) (h : MkO ms H L) : DoesI Tryz.prog 20 [.d (.sl (ms.map mkD))] [] (ShOk ms) (fun q => .tup [.d (.sl (q.1.1.map D.str)), I 0]) (fun _ => []) := by
  have h1 := checkedO ms H L h
  have hl := h.len
  have h2 := fun q (hq : ShOk ms q) => keys_any q.1.1 q.1.2 (hq.len (by omega)) (keysLen hq fun m hm => (h.sh m hm).1) hq.rise
  refine DoesI.of_AW (n := 19) Tryz.func20 rfl rfl rfl fun cx hcx => ?_
  repeat' (first | ((first | refine AW.sreg rfl fun K hK => ?_ | refine run_call _ _ _ ((h2 _ hq).pure rfl rfl _ _) rfl rfl (dstOk_of rfl) rfl rfl rfl ?_); simp only [go_sem, Nat.reduceAdd, Nat.reduceMul, Int.reduceToNat, Nat.reduceLT, Nat.reduceLeDiff, Nat.le_refl, Nat.reduceEqDiff, ↓reduceIte, beq_self_eq_true, bne_self_eq_false, Int.reduceBEq, Int.reduceBNe, or_self, true_or, or_true, Option.map_some, Option.map_none, Nat.reduceSub, Nat.add_zero]) | (refine AW.seq_k fun K hK => ?_) | (refine AW.skip ?_; simp only [Then, InBlock]) | (refine AW.condF rfl (by first | rfl | (simp; omega) | (simp [*]; done) | fail) ?_) | (refine hK _ ?_; clear hK K) | (refine run_callI _ _ _ ((h1).pure rfl (fun _ => rfl) _ _) rfl rfl (dstOk_of rfl) rfl rfl rfl ?_; rintro q hq; (try dsimp only at q); (try dsimp only at hq); simp only [go_sem, Nat.reduceAdd, Nat.reduceMul, Int.reduceToNat, Nat.reduceLT, Nat.reduceLeDiff, Nat.le_refl, Nat.reduceEqDiff, ↓reduceIte, beq_self_eq_true, bne_self_eq_false, Int.reduceBEq, Int.reduceBNe, or_self, true_or, or_true, Option.map_some, Option.map_none, Nat.reduceSub, Nat.add_zero]))
  exact AW.ret ⟨q, hq, Fin.data rfl (by simp [go_sem]) rfl⟩
theorem range1_any (m : Mk) (x : Str) : Does Tryz.prog 65 [.d (mkD m), .d (.ptr [.str x] 0)] [] (B (m.2.1 == x)) [] := by
  refine Does.of_AW (n := 9) Tryz.func65 rfl rfl rfl fun cx hcx => ?_
  repeat' (first | (refine AW.sreg rfl fun K hK => ?_; simp only [go_sem, Nat.reduceAdd, Nat.reduceMul, Int.reduceToNat, Nat.reduceLT, Nat.reduceLeDiff, Nat.le_refl, Nat.reduceEqDiff, ↓reduceIte, beq_self_eq_true, bne_self_eq_false, Int.reduceBEq, Int.reduceBNe, or_self, true_or, or_true, Option.map_some, Option.map_none]) | (refine hK _ ?_; clear hK K) | (refine AW.ret (Fin.data rfl (by first | (simp only [go_sem]; done) | (simp [go_sem, *]; done) | (simp [go_sem]; omega) | rfl) rfl)))
end Go.AX

namespace Go.AX
open Go Go.Proofs Go.RowKit
section
variable {P : Program} {cx : Cx}
theorem aRun_mid (hgl : Gl P cx) {ops : Array Oper} {Q : Exit → Act → World → Prop} {K : St → Prop} {c : Nat} {l2 : List Nat} : ∀ (l : List Nat) {st : St} {F : Nat → Prop} {σ : Nat → Option Loc} {a : Act} {w : World},
    l.Nodup → st.c = c → (∀ i ∈ l, ∀ id, id / 64 = c + i → F id) → Rel cx st F σ a w → aRun P ops l st K →
    (∀ st' σ' a' w', st'.c = c → K st' → Rel cx st' (fun id => F id ∧ ∀ i ∈ l, id / 64 ≠ c + i) σ' a' w' → wpOps P ops Q l2 a' w') → wpOps P ops Q (l ++ l2) a w
  | [], st, F, σ, a, w, _, hc, _, h, hr, hK => by
    simp only [aRun] at hr
    rw [List.nil_append]
    refine hK st σ a w hc hr ?_
    exact ⟨h.hr, fun id hid => h.fresh id hid.1, h.par, h.tmps, h.defers, h.env⟩
  | i :: rest, st, F, σ, a, w, hnd, hc, hF, h, hr, hK => by
    simp only [aRun] at hr
    simp only [List.cons_append, wpOps]
    have hnd' := List.nodup_cons.1 hnd
    split at hr
    · rename_i ho
      rw [ho]
      refine aRun_mid hgl rest hnd'.2 hc (fun j hj => hF j (by simp [hj])) h hr fun st' σ' a' w' h1 h2 h3 => hK st' σ' a' w' h1 h2 ?_
      exact ⟨h3.hr, fun id hid => h3.fresh id ⟨hid.1, fun j hj => hid.2 j (by simp [hj])⟩, h3.par, h3.tmps, h3.defers, h3.env⟩
    · rename_i o ho
      rw [ho]
      simp only
      split at hr
      · rename_i hw
        rw [h.want hw]
        simp only [if_true]
        obtain ⟨hd, hstep⟩ := hr
        refine .inl (aStep_sound hgl h (by rw [hc]; exact hF i (by simp)) hd hstep (fun st' σ' a' w' h1 h2 h3 => ?_) (fun v u => rfl))
        refine aRun_mid hgl rest hnd'.2 (h1.trans hc) (fun j hj id hid => ⟨hF j (by simp [hj]) id hid, ?_⟩) h3 h2 fun st2 σ2 a2 w2 g1 g2 g3 => hK st2 σ2 a2 w2 g1 g2 ?_
        · refine ⟨g3.hr, fun id hid => g3.fresh id ⟨⟨hid.1, ?_⟩, fun j hj => hid.2 j (by simp [hj])⟩, g3.par, g3.tmps, g3.defers, g3.env⟩
          rw [hc]
          exact hid.2 i (by simp)
        · rw [hc]
          intro e
          have : j = i := by omega
          subst this
          exact hnd'.1 hj
      · rename_i hw
        rw [h.want hw]
        simp only [Bool.false_eq_true, if_false]
        refine aRun_mid hgl (st := st.skip o.dst) rest hnd'.2 hc (fun j hj => hF j (by simp [hj])) (h.skip o.dst) hr fun st' σ' a' w' h1 h2 h3 => hK st' σ' a' w' h1 h2 ?_
        exact ⟨h3.hr, fun id hid => h3.fresh id ⟨hid.1, fun j hj => hid.2 j (by simp [hj])⟩, h3.par, h3.tmps, h3.defers, h3.env⟩
      · cases hr
theorem range'_sub {ops : Array Oper} : ∀ (l : List Oper) (i : Nat), (∀ k o, l[k]? = some o → ops[i + k]? = some o) → ∀ (st : St) (K : St → Prop), aRunO P ops i l st K → aRun P ops (List.range' i l.length) st K
  | [], _, _, _, _, h => by simpa [aRun, aRunO, List.range'] using h
  | o :: l, i, hd, st, K, h => by
    have ho : ops[i]? = some o := hd 0 o rfl
    have hl : ∀ k o, l[k]? = some o → ops[i + 1 + k]? = some o := fun k o' hk => by
      have := hd (k + 1) o' (by simpa using hk)
      rwa [show i + 1 + k = i + (k + 1) by omega]
    simp only [List.length_cons, List.range'_succ, aRun, ho]
    simp only [aRunO] at h
    split at h
    · rename_i hw; rw [hw]; exact ⟨h.1, aStep_mono (fun s hs => range'_sub l (i + 1) hl s K hs) h.2⟩
    · rename_i hw; rw [hw]; exact range'_sub l (i + 1) hl _ K h
    · exact h.elim
theorem AW.regMid (m : Nat) {id n : Nat} {l l1 l2 : List Oper} {Q : Exit → St → Prop} {st : St} (hn : l.length = n) (h1 : l.take m = l1) (h2 : l.drop m = l2) (hm : m ≤ n)
    (h : aRunO P ⟨l⟩ 0 l1 st fun st' => ∃ st2 : St, Weak cx (st'.bump m) st2 ∧ m ≤ st2.c ∧ aRunO P ⟨l⟩ m l2 ⟨st2.n, st2.env, st2.H, st2.c - m⟩ fun s => Q .normal (s.bump n)) : AW P cx (.region id ⟨l⟩ false) Q st := by
  intro hgl σ a w hr
  subst h1 h2
  have hll : (l.take m).length = m := by rw [List.length_take]; omega
  have hrun := range'_sub (P := P) (ops := ⟨l⟩) (l.take m) 0 (fun k o hk => by
    have hkm : k < m := by have := (List.getElem?_eq_some_iff.1 hk).1; omega
    rw [List.getElem?_take_of_lt hkm] at hk
    simpa using hk) st _ h
  rw [hll] at hrun
  have e : List.range (⟨l⟩ : Array Oper).size = List.range' 0 m ++ List.range' m (n - m) := by
    have h0 : (⟨l⟩ : Array Oper).size = m + (n - m) := by simp [hn]; omega
    rw [List.range_eq_range', h0]
    have := List.range'_append_1 (s := 0) (m := m) (n := n - m)
    rw [Nat.zero_add] at this
    exact this.symm
  refine wp_region ?_
  rw [e]
  refine aRun_mid hgl (c := st.c) _ (List.nodup_range' (step := 1)) rfl (fun i _ id hid => by omega) hr hrun fun st' σ' a' w' g1 g2 g3 => ?_
  obtain ⟨st2, hw, hc2, hrun2⟩ := g2
  obtain ⟨σ2, g4⟩ := hw σ' a' w' ⟨g3.hr, fun id hid => g3.fresh id (by
    simp only [St.bump] at hid
    refine ⟨by omega, fun i hi => ?_⟩
    have := List.mem_range'_1.1 hi
    omega), g3.par, g3.tmps, g3.defers, g3.env⟩
  have hrun3 := range'_of (P := P) (ops := ⟨l⟩) (l.drop m) m rfl _ _ hrun2
  rw [List.length_drop, hn] at hrun3
  refine aRun_sound hgl (c := st2.c - m) _ (List.nodup_range' (step := 1)) rfl (fun i hi id hid => ?_) (st := ⟨st2.n, st2.env, st2.H, st2.c - m⟩) (F := fun id => st2.c ≤ id / 64) (σ := σ2) ⟨g4.hr, g4.fresh, g4.par, g4.tmps, g4.defers, g4.env⟩ hrun3 fun st3 σ3 a3 w3 k1 k2 k3 => ?_
  · have := List.mem_range'_1.1 hi
    omega
  · refine ⟨_, σ3, k2, ?_⟩
    refine ⟨k3.hr, fun id hid => k3.fresh id ?_, k3.par, k3.tmps, k3.defers, k3.env⟩
    simp only [St.bump] at hid
    refine ⟨by omega, fun i hi => ?_⟩
    have := List.mem_range'_1.1 hi
    omega
theorem AW.sregMid (m : Nat) {id n : Nat} {l l1 l2 : List Oper} {y : Code} {Q : Exit → St → Prop} {st : St} (hn : l.length = n) (h1 : l.take m = l1) (h2 : l.drop m = l2) (hm : m ≤ n)
    (h : ∀ K : St → Prop, (∀ s, AW P cx y Q s → K s) → aRunO P ⟨l⟩ 0 l1 st fun st' => ∃ st2 : St, Weak cx (st'.bump m) st2 ∧ m ≤ st2.c ∧ aRunO P ⟨l⟩ m l2 ⟨st2.n, st2.env, st2.H, st2.c - m⟩ fun s => K (s.bump n)) : AW P cx (.seq (.region id ⟨l⟩ false) y) Q st :=
  AW.seq_k fun K hK => AW.regMid m hn h1 h2 hm (h K hK)
end
end Go.AX

namespace Go.AX
open Go Go.Proofs Go.RowKit
theorem dv_takeP (q : List D) (r : List D) : (dv (q ++ r)).take q.length = dv q := by simp [dv]
/-- Places of a map that were seen. -/
structure Sd (n : Nat) (seen : List Nat) : Prop where
  nd : seen.Nodup
  lt : ∀ j ∈ seen, j < n
theorem Sd.nil (n : Nat) : Sd n [] := ⟨List.nodup_nil, by simp⟩
theorem Sd.add {n : Nat} {seen : List Nat} (h : Sd n seen) {j : Nat} (hj : j ∉ seen) (hl : j < n) : Sd n (seen ++ [j]) where
  nd := by rw [List.nodup_append]; exact ⟨h.nd, by simp, fun a ha b hb => by simp at hb; subst hb; rintro rfl; exact hj ha⟩
  lt := fun i hi => by
    rcases List.mem_append.1 hi with hi | hi
    · exact h.lt i hi
    · obtain rfl := List.mem_singleton.1 hi
      exact hl
theorem Sd.len {n : Nat} {seen : List Nat} (h : Sd n seen) {j : Nat} (hj : j ∉ seen) (hl : j < n) : seen.length < n := by
  have := nodup_subN (seen ++ [j]) (List.range n) (h.add hj hl).nd fun i hi => List.mem_range.2 ((h.add hj hl).lt i hi)
  simp at this
  omega
/-- Where a paper is. -/
def plF (how : Int) (ms : List Mk) (pa : Str) : Int := idxG (fun x => pa == x) (ordP (pps ms) (vwF how ms)) 0 + 1
theorem plF_bd {how : Int} {ms : List Mk} {pa : Str} (h : (pps ms).length ≤ 19) : 0 ≤ plF how ms pa ∧ plF how ms pa ≤ 20 := by
  have h1 := idxG_bd (fun x => pa == x) (ordP (pps ms) (vwF how ms)) 0
  have h2 : (ordP (pps ms) (vwF how ms)).length = (pps ms).length := (ordP_perm _ _).length_eq
  unfold plF
  omega
theorem Range_any (how : Int) (hh : 1 ≤ how ∧ how ≤ 5) (ms : List Mk) (H L : List Str) (h : MkO ms H L) (pa : Str) (hp : pa ∈ pps ms) : DoesI Tryz.prog 21 [.d (.sl (ms.map mkD)), S pa, I how] [] (fun r : Int × Int => r.1 ≤ plF how ms pa ∧ plF how ms pa ≤ r.2 ∧ 0 ≤ r.1 ∧ r.2 ≤ 100) (fun r => .tup [I r.1, I r.2, I 0]) (fun _ => []) := by
  have hck := checkedO ms H L h
  have hw := isWay_any how hh
  have hl := h.len
  refine DoesI.of_AW (n := 75) Tryz.func21 rfl rfl rfl fun cx hcx => ?_
  repeat' (first | (refine AW.sreg rfl fun K hK => ?_; simp only [go_sem, Nat.reduceAdd, Nat.reduceMul, Int.reduceToNat, Nat.reduceLT, Nat.reduceLeDiff, Nat.le_refl, Nat.reduceEqDiff, ↓reduceIte, beq_self_eq_true, bne_self_eq_false, Int.reduceBEq, Int.reduceBNe, or_self, true_or, or_true, Option.map_some, Option.map_none]) | (refine AW.seq_k fun K hK => ?_) | (refine AW.skip ?_; simp only [Then, InBlock]) | (refine AW.condF rfl (by first | rfl | (simp; omega) | (simp [*]; done) | fail) ?_) | (refine hK _ ?_; clear hK K) | (refine run_callI _ _ _ ((hck).pure rfl (fun _ => rfl) _ _) rfl rfl (dstOk_of rfl) rfl rfl rfl ?_; rintro q hq; (try dsimp only at q); (try dsimp only at hq); simp only [go_sem, Nat.reduceAdd, Nat.reduceMul, Int.reduceToNat, Nat.reduceLT, Nat.reduceLeDiff, Nat.le_refl, Nat.reduceEqDiff, ↓reduceIte, beq_self_eq_true, bne_self_eq_false, Int.reduceBEq, Int.reduceBNe, or_self, true_or, or_true, Option.map_some, Option.map_none]))
  have hpq : pa ∈ q.1.1 := by rw [hq.eqP]; exact hp
  obtain ⟨z, hf, hg⟩ := hq.at hpq
  have hpos := hq.pos hpq
  have hz : (((gP ms pa).length : Int) == 0) = false := beq_eq_false_iff_ne.2 (by omega)
  have hor := orderW_any how hh ms H L h q hq
  have hL := h.hL
  have hlL := hq.lenL h.pl
  have hol : (ordP q.1.1 (vwF how ms)).length = q.1.1.length := (ordP_perm _ _).length_eq
  have hix := index_St (ordP q.1.1 (vwF how ms)) (by omega) pa
  have hvq := hq.pe.vlen
  have hb0 : plF how ms pa = idxG (fun x => pa == x) (ordP q.1.1 (vwF how ms)) 0 + 1 := by unfold plF; rw [hq.eqP]
  have hbd := plF_bd (how := how) (ms := ms) (pa := pa) (by rw [← hq.eqP]; omega)
  rw [hb0] at hbd
  generalize idxG (fun x => pa == x) (ordP q.1.1 (vwF how ms)) 0 = ix at *
  simp only [go_sem, Nat.reduceAdd, Nat.reduceMul, Int.reduceToNat, Nat.reduceLT, Nat.reduceLeDiff, Nat.le_refl, Nat.reduceEqDiff, ↓reduceIte, beq_self_eq_true, bne_self_eq_false, Int.reduceBEq, Int.reduceBNe, or_self, true_or, or_true, Option.map_some, Option.map_none, hf, hg, List.length_map]
  repeat' (first | ((first | refine AW.sreg rfl fun K hK => ?_ | refine run_call _ _ _ ((hw).pure rfl rfl _ _) rfl rfl (dstOk_of rfl) rfl rfl rfl ?_ | refine run_call _ _ _ ((hor).objs [] trivial rfl (by decide) (by simp [go_sem, renOs]) (by simp) (by simp) (by simp [go_sem]) (by simp [go_sem]) (by simp [go_sem]) (by simp [go_sem])) rfl rfl (dstOk_of rfl) rfl rfl rfl ?_ | refine run_call _ _ _ ((hix).lend (by repeat' (first | exact frzL_nil | refine frzL_cons (by first | exact frz_d | exact frz_slr rfl rfl (by first | (simp; done) | (simp; omega) | (simp [*]; done) | fail) | rfl) ?_)) rfl rfl rfl) rfl rfl (dstOk_of rfl) rfl rfl rfl ?_); simp only [go_sem, Nat.reduceAdd, Nat.reduceMul, Int.reduceToNat, Nat.reduceLT, Nat.reduceLeDiff, Nat.le_refl, Nat.reduceEqDiff, ↓reduceIte, beq_self_eq_true, bne_self_eq_false, Int.reduceBEq, Int.reduceBNe, or_self, true_or, or_true, Option.map_some, Option.map_none, hf, hg, hz, List.length_map, Nat.reduceSub, Nat.add_zero]) | (refine AW.seq_k fun K hK => ?_) | (refine AW.block ?_) | (refine AW.skip ?_; simp only [Then, InBlock]) | (refine AW.condF rfl (by first | rfl | (simp; omega) | (simp [*]; done) | fail) ?_) | (refine hK _ ?_; clear hK K) | (with_reducible refine And.intro ?_ ?_; first | omega | assumption | (focus (decide)) | (focus (simp; done)) | (focus (simp; omega)) | (focus (constructor <;> omega)) | fail))
  refine AW.loopF (ι := List Nat × Int × Int) [0, 1, 2, 43] (fun p => [(6, I p.2.1), (7, I p.2.2)]) (fun p => [(2304, some (O.miter (.d (.map (q.2.1.map D.str) q.2.2)) q.2.1.length p.1.getLast? (.lst p.1)))]) 37 (fun p => Sd q.2.1.length p.1 ∧ p.2.1 ≤ ix + 1 ∧ ix + 1 ≤ p.2.2 ∧ 0 ≤ p.2.1 ∧ p.2.2 ≤ 100) (fun p => q.2.1.length - p.1.length) ([], ix + 1, ix + 1) ⟨Sd.nil _, Int.le_refl _, Int.le_refl _, hbd.1, by simp only; omega⟩ (Weak.auto hcx rfl rfl (Nat.le_of_ble_eq_true rfl) (by simp [go_sem, gL, kL, renOf, V.obj, lk, Nat.blt, Nat.ble, List.map_append, dv_push, List.length_map, List.getLast?_nil]) (by simp [go_sem, gL, kL, renOf, V.obj, lk, Nat.blt, Nat.ble, List.map_append, dv_push, List.length_map, List.getLast?_nil]) (by first | (intro i hi; exact absurd hi (Nat.not_lt_zero _)) | (intro i0 hi0; match i0, hi0 with | 0, _ => exact ⟨_, rfl⟩ | n0+1, h0 => exact absurd h0 (Nat.not_lt.2 (Nat.le_add_left 1 n0))) | (intro i0 hi0; match i0, hi0 with | 0, _ => exact ⟨_, rfl⟩ | 1, _ => exact ⟨_, rfl⟩ | n0+2, h0 => exact absurd h0 (Nat.not_lt.2 (Nat.le_add_left 2 n0))) | (intro i0 hi0; match i0, hi0 with | 0, _ => exact ⟨_, rfl⟩ | 1, _ => exact ⟨_, rfl⟩ | 2, _ => exact ⟨_, rfl⟩ | n0+3, h0 => exact absurd h0 (Nat.not_lt.2 (Nat.le_add_left 3 n0))) | (intro i0 hi0; match i0, hi0 with | 0, _ => exact ⟨_, rfl⟩ | 1, _ => exact ⟨_, rfl⟩ | 2, _ => exact ⟨_, rfl⟩ | 3, _ => exact ⟨_, rfl⟩ | n0+4, h0 => exact absurd h0 (Nat.not_lt.2 (Nat.le_add_left 4 n0)))) (by simp [go_sem, gL, kL, lk, renOf, V.obj, Nat.blt, Nat.ble, List.length_map, List.getLast?_nil])) ?_; simp only [St.at_nil, St.at_cons, lk, Nat.reduceEqDiff, ↓reduceIte, Option.getD_some, Option.getD_none, List.cons_append, List.nil_append, List.append_nil]
  rintro ⟨seen, be, wo⟩ ⟨k1, k2, k3, k4, k5⟩
  simp only at k1 k2 k3 k4 k5 ⊢
  repeat' (first | (refine AW.sreg rfl fun K hK => ?_; simp only [go_sem, Nat.reduceAdd, Nat.reduceMul, Int.reduceToNat, Nat.reduceLT, Nat.reduceLeDiff, Nat.le_refl, Nat.reduceEqDiff, ↓reduceIte, beq_self_eq_true, bne_self_eq_false, Int.reduceBEq, Int.reduceBNe, or_self, true_or, or_true, Option.map_some, Option.map_none, List.length_map]))
  refine run_next rfl rfl rfl rfl (dstOk_of rfl) (by simp) (by simp [hvq]) (fun hd => ?_) (fun j kk vv hm hk hv => ?_)
  · simp only [go_sem, Nat.reduceAdd, Nat.reduceMul, Int.reduceToNat, Nat.reduceLT, Nat.reduceLeDiff, Nat.le_refl, Nat.reduceEqDiff, ↓reduceIte, beq_self_eq_true, bne_self_eq_false, Int.reduceBEq, Int.reduceBNe, or_self, true_or, or_true, Option.map_some, Option.map_none, List.length_map]
    repeat' (first | (refine AW.sreg rfl fun K hK => ?_; simp only [go_sem, Nat.reduceAdd, Nat.reduceMul, Int.reduceToNat, Nat.reduceLT, Nat.reduceLeDiff, Nat.le_refl, Nat.reduceEqDiff, ↓reduceIte, beq_self_eq_true, bne_self_eq_false, Int.reduceBEq, Int.reduceBNe, or_self, true_or, or_true, Option.map_some, Option.map_none, List.length_map]) | (refine AW.seq_k fun K hK => ?_) | (refine AW.exit ?_; simp only [go_sem, ↓reduceIte]) | (refine AW.condF rfl (by first | rfl | (simp; omega) | (simp [*]; done) | fail) ?_) | (refine hK _ ?_; clear hK K) | (clear hK K; refine hK _ ?_; clear hK K))
    exact AW.ret ⟨(be, wo), ⟨by simp only; omega, by simp only; omega, k4, k5⟩, Fin.data rfl (by simp [go_sem]) rfl⟩
  · obtain ⟨x, hx, rfl⟩ : ∃ x, q.2.1[j]? = some x ∧ kk = D.str x := by
      rw [List.getElem?_map] at hk
      obtain ⟨x, hx, e⟩ := Option.map_eq_some_iff.1 hk
      exact ⟨x, hx, e.symm⟩
    have hjl := get_lt hx
    have hlen := k1.len hm hjl
    have hadd := k1.add hm hjl
    have hget : (q.2.1.map D.str)[j]? = some (.str x) := by simp only [List.getElem?_map, hx, Option.map_some]
    simp only [go_sem, Nat.reduceAdd, Nat.reduceMul, Int.reduceToNat, Nat.reduceLT, Nat.reduceLeDiff, Nat.le_refl, Nat.reduceEqDiff, ↓reduceIte, beq_self_eq_true, bne_self_eq_false, Int.reduceBEq, Int.reduceBNe, or_self, true_or, or_true, Option.map_some, Option.map_none, List.length_map]
    repeat' (first | (refine AW.sreg rfl fun K hK => ?_; simp only [go_sem, Nat.reduceAdd, Nat.reduceMul, Int.reduceToNat, Nat.reduceLT, Nat.reduceLeDiff, Nat.le_refl, Nat.reduceEqDiff, ↓reduceIte, beq_self_eq_true, bne_self_eq_false, Int.reduceBEq, Int.reduceBNe, or_self, true_or, or_true, Option.map_some, Option.map_none, List.length_map]) | (refine AW.seq_k fun K hK => ?_) | (refine AW.block ?_) | (refine AW.skip ?_; simp only [Then, InBlock]) | (refine AW.condT rfl (by first | rfl | (simp; omega) | (simp [*]; done) | fail) ?_) | (refine hK _ ?_; clear hK K))
    refine run_entry rfl rfl rfl rfl (dstOk_of rfl) (by simp) hget hv ?_
    simp only [go_sem, Nat.reduceAdd, Nat.reduceMul, Int.reduceToNat, Nat.reduceLT, Nat.reduceLeDiff, Nat.le_refl, Nat.reduceEqDiff, ↓reduceIte, beq_self_eq_true, bne_self_eq_false, Int.reduceBEq, Int.reduceBNe, or_self, true_or, or_true, Option.map_some, Option.map_none, List.length_map]
    refine hK _ ?_; (try clear hK K)
    refine AW.weak (?wk : Weak cx _ (⟨75, [(10, .d (.ptr [.str x] 0)), (0, .d (.sl (ms.map mkD))), (1, S pa), (2, I how), (43, .ptr 2304 0), (6, I be), (7, I wo)], [(2304, some (O.miter (.d (.map (q.2.1.map D.str) q.2.2)) q.2.1.length (some j) (.lst (seen ++ [j]))))], 43⟩ : St)) ?_
    case wk => exact (Weak.auto hcx rfl rfl (Nat.le_of_ble_eq_true rfl) (by simp [go_sem, gL, kL, renOf, V.obj, lk, Nat.blt, Nat.ble, List.map_append, dv_push]) (by simp [go_sem, gL, kL, renOf, V.obj, lk, Nat.blt, Nat.ble, List.map_append, dv_push]) (by first | (intro i hi; exact absurd hi (Nat.not_lt_zero _)) | (intro i0 hi0; match i0, hi0 with | 0, _ => exact ⟨_, rfl⟩ | n0+1, h0 => exact absurd h0 (Nat.not_lt.2 (Nat.le_add_left 1 n0))) | (intro i0 hi0; match i0, hi0 with | 0, _ => exact ⟨_, rfl⟩ | 1, _ => exact ⟨_, rfl⟩ | n0+2, h0 => exact absurd h0 (Nat.not_lt.2 (Nat.le_add_left 2 n0))) | (intro i0 hi0; match i0, hi0 with | 0, _ => exact ⟨_, rfl⟩ | 1, _ => exact ⟨_, rfl⟩ | 2, _ => exact ⟨_, rfl⟩ | n0+3, h0 => exact absurd h0 (Nat.not_lt.2 (Nat.le_add_left 3 n0))) | (intro i0 hi0; match i0, hi0 with | 0, _ => exact ⟨_, rfl⟩ | 1, _ => exact ⟨_, rfl⟩ | 2, _ => exact ⟨_, rfl⟩ | 3, _ => exact ⟨_, rfl⟩ | n0+4, h0 => exact absurd h0 (Nat.not_lt.2 (Nat.le_add_left 4 n0)))) (by simp [go_sem, gL, kL, lk, renOf, V.obj, Nat.blt, Nat.ble]))
    have hF := h.filter fun m => !(m.2.1 == x)
    have hcl := clone_Mk ms (by omega)
    have hdel := deleteFunc_Mk ms (by omega) 65 (.ptr [.str x] 0) (fun m => m.2.1 == x) (fun m _ => range1_any m x)
    have hsh := sheetOfI _ (by have := hF.len; omega) hF.good H hF.hH hF.pe
    generalize hFF : (ms.filter fun m => !(m.2.1 == x)) = F at *
    refine AW.sregMid 4 rfl rfl rfl (by decide) fun K hK => ?_
    simp only [go_sem, Nat.reduceAdd, Nat.reduceMul, Int.reduceToNat, Nat.reduceLT, Nat.reduceLeDiff, Nat.le_refl, Nat.reduceEqDiff, ↓reduceIte, beq_self_eq_true, bne_self_eq_false, Int.reduceBEq, Int.reduceBNe, or_self, true_or, or_true, Option.map_some, Option.map_none, List.length_map]
    repeat' (first | ((first | refine run_call _ _ _ ((hcl).objs [] trivial rfl (by decide) (by simp [go_sem, renOs]) (by simp) (by simp) (by simp [go_sem]) (by simp [go_sem]) (by simp [go_sem]) (by simp [go_sem])) rfl rfl (dstOk_of rfl) rfl rfl rfl ?_ | refine run_call _ _ _ ((hdel).objs [_] ⟨rfl, trivial⟩ rfl (by decide) (by simp [go_sem, renOs]) (by simp) (by simp) (by simp [go_sem]) (by simp [go_sem]) (by simp [go_sem]) (by simp [go_sem])) rfl rfl (dstOk_of rfl) rfl rfl rfl ?_); simp only [go_sem, Nat.reduceAdd, Nat.reduceMul, Int.reduceToNat, Nat.reduceLT, Nat.reduceLeDiff, Nat.le_refl, Nat.reduceEqDiff, ↓reduceIte, beq_self_eq_true, bne_self_eq_false, Int.reduceBEq, Int.reduceBNe, or_self, true_or, or_true, Option.map_some, Option.map_none, Nat.reduceSub, Nat.add_zero, List.length_map]))
    have htk : List.take F.length (dv (F.map mkD ++ List.replicate (ms.length - F.length) (mkD ([], [], 0)))) = dv (F.map mkD) := by
      have := dv_takeP (F.map mkD) (List.replicate (ms.length - F.length) (mkD ([], [], 0)))
      rwa [List.length_map] at this
    refine ⟨⟨75, [(51, .d (.sl (F.map mkD))), (0, .d (.sl (ms.map mkD))), (1, S pa), (2, I how), (43, .ptr 2304 0), (6, I be), (7, I wo)], [(2304, some (O.miter (.d (.map (q.2.1.map D.str) q.2.2)) q.2.1.length (some j) (.lst (seen ++ [j]))))], 47⟩, (Weak.auto hcx rfl rfl (Nat.le_of_ble_eq_true rfl) (by simp [go_sem, gL, kL, renOf, V.obj, lk, Nat.blt, Nat.ble, List.map_append, dv_push, htk, toDL_dvF]) (by simp [go_sem, gL, kL, renOf, V.obj, lk, Nat.blt, Nat.ble, List.map_append, dv_push, htk, toDL_dvF]) (by first | (intro i hi; exact absurd hi (Nat.not_lt_zero _)) | (intro i0 hi0; match i0, hi0 with | 0, _ => exact ⟨_, rfl⟩ | n0+1, h0 => exact absurd h0 (Nat.not_lt.2 (Nat.le_add_left 1 n0))) | (intro i0 hi0; match i0, hi0 with | 0, _ => exact ⟨_, rfl⟩ | 1, _ => exact ⟨_, rfl⟩ | n0+2, h0 => exact absurd h0 (Nat.not_lt.2 (Nat.le_add_left 2 n0))) | (intro i0 hi0; match i0, hi0 with | 0, _ => exact ⟨_, rfl⟩ | 1, _ => exact ⟨_, rfl⟩ | 2, _ => exact ⟨_, rfl⟩ | n0+3, h0 => exact absurd h0 (Nat.not_lt.2 (Nat.le_add_left 3 n0))) | (intro i0 hi0; match i0, hi0 with | 0, _ => exact ⟨_, rfl⟩ | 1, _ => exact ⟨_, rfl⟩ | 2, _ => exact ⟨_, rfl⟩ | 3, _ => exact ⟨_, rfl⟩ | n0+4, h0 => exact absurd h0 (Nat.not_lt.2 (Nat.le_add_left 4 n0)))) (by simp [go_sem, gL, kL, lk, renOf, V.obj, Nat.blt, Nat.ble, htk, toDL_dvF])), Nat.le_of_ble_eq_true rfl, ?_⟩
    clear htk hcl hdel
    refine run_callI _ _ _ (hsh.pure rfl (fun _ => rfl) _ _) rfl rfl (dstOk_of rfl) rfl rfl rfl ?_
    rintro q2 hq2
    simp only [go_sem, Nat.reduceAdd, Nat.reduceMul, Int.reduceToNat, Nat.reduceLT, Nat.reduceLeDiff, Nat.le_refl, Nat.reduceEqDiff, ↓reduceIte, beq_self_eq_true, bne_self_eq_false, Int.reduceBEq, Int.reduceBNe, or_self, true_or, or_true, Option.map_some, Option.map_none]
    refine hK _ ?_; (try clear hK K)
    repeat' (first | (refine AW.sreg rfl fun K hK => ?_; simp only [go_sem, Nat.reduceAdd, Nat.reduceMul, Int.reduceToNat, Nat.reduceLT, Nat.reduceLeDiff, Nat.le_refl, Nat.reduceEqDiff, ↓reduceIte, beq_self_eq_true, bne_self_eq_false, Int.reduceBEq, Int.reduceBNe, or_self, true_or, or_true, Option.map_some, Option.map_none]) | (refine AW.seq_k fun K hK => ?_))
    have hF19 := hq2.lenL hF.pl
    by_cases hm2 : pa ∈ q2.1.1
    · obtain ⟨z2, hf2, hg2⟩ := hq2.at hm2
      have hpos2 := hq2.pos hm2
      have hz2 : (((gP F pa).length : Int) == 0) = false := beq_eq_false_iff_ne.2 (by omega)
      have hor2 := orderW_any how hh F H L hF q2 hq2
      have hol2 : (ordP q2.1.1 (vwF how F)).length = q2.1.1.length := (ordP_perm _ _).length_eq
      have hix2 := index_St (ordP q2.1.1 (vwF how F)) (by omega) pa
      have hib := idxG_bd (fun x => pa == x) (ordP q2.1.1 (vwF how F)) 0
      generalize idxG (fun x => pa == x) (ordP q2.1.1 (vwF how F)) 0 = iy at *
      simp only [go_sem, Nat.reduceAdd, Nat.reduceMul, Int.reduceToNat, Nat.reduceLT, Nat.reduceLeDiff, Nat.le_refl, Nat.reduceEqDiff, ↓reduceIte, beq_self_eq_true, bne_self_eq_false, Int.reduceBEq, Int.reduceBNe, or_self, true_or, or_true, Option.map_some, Option.map_none, hf2, hg2, List.length_map]
      repeat' (first | ((first | refine AW.sreg rfl fun K hK => ?_ | refine AW.reg rfl ?_ | refine run_call _ _ _ ((hor2).objs [] trivial rfl (by decide) (by simp [go_sem, renOs]) (by simp) (by simp) (by simp [go_sem]) (by simp [go_sem]) (by simp [go_sem]) (by simp [go_sem])) rfl rfl (dstOk_of rfl) rfl rfl rfl ?_ | refine run_call _ _ _ ((hix2).lend (by repeat' (first | exact frzL_nil | refine frzL_cons (by first | exact frz_d | exact frz_slr rfl rfl (by first | (simp; done) | (simp; omega) | (simp [*]; done) | fail) | rfl) ?_)) rfl rfl rfl) rfl rfl (dstOk_of rfl) rfl rfl rfl ?_); simp only [go_sem, Nat.reduceAdd, Nat.reduceMul, Int.reduceToNat, Nat.reduceLT, Nat.reduceLeDiff, Nat.le_refl, Nat.reduceEqDiff, ↓reduceIte, beq_self_eq_true, bne_self_eq_false, Int.reduceBEq, Int.reduceBNe, or_self, true_or, or_true, Option.map_some, Option.map_none, hf2, hg2, hz2, List.length_map, Nat.reduceSub, Nat.add_zero]) | (refine AW.skip ?_; simp only [Then, InBlock]) | (refine AW.condF rfl (by first | rfl | (simp; omega) | (simp [*]; done) | fail) ?_) | (refine hK _ ?_; clear hK K) | (with_reducible refine And.intro ?_ ?_; first | omega | assumption | (focus (decide)) | (focus (simp; done)) | (focus (simp; omega)) | (focus (constructor <;> omega)) | fail))
      have m1 : (if iy + 1 < be then iy + 1 else be) ≤ ix + 1 ∧ 0 ≤ (if iy + 1 < be then iy + 1 else be) := by split <;> omega
      have m2 : ix + 1 ≤ (if iy + 1 > wo then iy + 1 else wo) ∧ (if iy + 1 > wo then iy + 1 else wo) ≤ 100 := by split <;> omega
      exact ⟨(seen ++ [j], (if iy + 1 < be then iy + 1 else be), (if iy + 1 > wo then iy + 1 else wo)), ⟨hadd, m1.1, m2.1, m1.2, m2.2⟩, by simp only [List.length_append, List.length_singleton]; omega, (Weak.auto hcx rfl rfl (Nat.le_of_ble_eq_true rfl) (by simp [go_sem, gL, kL, renOf, V.obj, lk, Nat.blt, Nat.ble, List.map_append, dv_push, List.getLast?_concat]) (by simp [go_sem, gL, kL, renOf, V.obj, lk, Nat.blt, Nat.ble, List.map_append, dv_push, List.getLast?_concat]) (by first | (intro i hi; exact absurd hi (Nat.not_lt_zero _)) | (intro i0 hi0; match i0, hi0 with | 0, _ => exact ⟨_, rfl⟩ | n0+1, h0 => exact absurd h0 (Nat.not_lt.2 (Nat.le_add_left 1 n0))) | (intro i0 hi0; match i0, hi0 with | 0, _ => exact ⟨_, rfl⟩ | 1, _ => exact ⟨_, rfl⟩ | n0+2, h0 => exact absurd h0 (Nat.not_lt.2 (Nat.le_add_left 2 n0))) | (intro i0 hi0; match i0, hi0 with | 0, _ => exact ⟨_, rfl⟩ | 1, _ => exact ⟨_, rfl⟩ | 2, _ => exact ⟨_, rfl⟩ | n0+3, h0 => exact absurd h0 (Nat.not_lt.2 (Nat.le_add_left 3 n0))) | (intro i0 hi0; match i0, hi0 with | 0, _ => exact ⟨_, rfl⟩ | 1, _ => exact ⟨_, rfl⟩ | 2, _ => exact ⟨_, rfl⟩ | 3, _ => exact ⟨_, rfl⟩ | n0+4, h0 => exact absurd h0 (Nat.not_lt.2 (Nat.le_add_left 4 n0)))) (by simp [go_sem, gL, kL, lk, renOf, V.obj, Nat.blt, Nat.ble, List.getLast?_concat]))⟩
    · have hf2 := fnd_no hm2
      simp only [go_sem, Nat.reduceAdd, Nat.reduceMul, Int.reduceToNat, Nat.reduceLT, Nat.reduceLeDiff, Nat.le_refl, Nat.reduceEqDiff, ↓reduceIte, beq_self_eq_true, bne_self_eq_false, Int.reduceBEq, Int.reduceBNe, or_self, true_or, or_true, Option.map_some, Option.map_none, hf2, List.length_map]
      repeat' (first | (refine AW.exit ?_; simp only [go_sem, ↓reduceIte]) | (refine AW.condT rfl (by first | rfl | (simp; omega) | (simp [*]; done) | fail) ?_) | (refine hK _ ?_; clear hK K))
      exact ⟨(seen ++ [j], be, wo), ⟨hadd, k2, k3, k4, k5⟩, by simp only [List.length_append, List.length_singleton]; omega, (Weak.auto hcx rfl rfl (Nat.le_of_ble_eq_true rfl) (by simp [go_sem, gL, kL, renOf, V.obj, lk, Nat.blt, Nat.ble, List.map_append, dv_push, List.getLast?_concat]) (by simp [go_sem, gL, kL, renOf, V.obj, lk, Nat.blt, Nat.ble, List.map_append, dv_push, List.getLast?_concat]) (by first | (intro i hi; exact absurd hi (Nat.not_lt_zero _)) | (intro i0 hi0; match i0, hi0 with | 0, _ => exact ⟨_, rfl⟩ | n0+1, h0 => exact absurd h0 (Nat.not_lt.2 (Nat.le_add_left 1 n0))) | (intro i0 hi0; match i0, hi0 with | 0, _ => exact ⟨_, rfl⟩ | 1, _ => exact ⟨_, rfl⟩ | n0+2, h0 => exact absurd h0 (Nat.not_lt.2 (Nat.le_add_left 2 n0))) | (intro i0 hi0; match i0, hi0 with | 0, _ => exact ⟨_, rfl⟩ | 1, _ => exact ⟨_, rfl⟩ | 2, _ => exact ⟨_, rfl⟩ | n0+3, h0 => exact absurd h0 (Nat.not_lt.2 (Nat.le_add_left 3 n0))) | (intro i0 hi0; match i0, hi0 with | 0, _ => exact ⟨_, rfl⟩ | 1, _ => exact ⟨_, rfl⟩ | 2, _ => exact ⟨_, rfl⟩ | 3, _ => exact ⟨_, rfl⟩ | n0+4, h0 => exact absurd h0 (Nat.not_lt.2 (Nat.le_add_left 4 n0)))) (by simp [go_sem, gL, kL, lk, renOf, V.obj, Nat.blt, Nat.ble, List.getLast?_concat]))⟩
end Go.AX

namespace Go.AX
open Go Go.Proofs Go.RowKit
abbrev H5 : List Str := (List.range 5).map hN
abbrev L9 : List Str := (List.range 6).map pN ++ [[], [112, 97], [80]]
abbrev WdA : List Str := L9 ++ (H5 ++ [[], [104, 97], [72]])
theorem keyA : ∀ s ∈ WdA, KeyO s := by
  have h : WdA.all (fun s => evalsTo Tryz.prog (CS Tryz.prog) 32 [S s] (B (keyB s))) = true := by kernel_rfl
  exact fun s hs => evalsTo_ok CS_ok hmix (List.all_eq_true.1 h s hs)
theorem lenA : ∀ s ∈ WdA, s.length ≤ 1000 := by decide
theorem pers5 : ∀ s ∈ (H5 ++ [[], [104, 97], [72]]), keyB s = true → s ∈ H5 := by decide
theorem range_sub {a b : Nat} (h : a ≤ b) (f : Nat → Str) (t : List Str) : ∀ s ∈ (List.range a).map f ++ t, s ∈ (List.range b).map f ++ t := by
  intro s hs
  rcases List.mem_append.1 hs with hs | hs
  · obtain ⟨i, hi, rfl⟩ := List.mem_map.1 hs
    exact List.mem_append_left _ (List.mem_map_of_mem (List.mem_range.2 (by have := List.mem_range.1 hi; omega)))
  · exact List.mem_append_right _ hs
/-- The marks that are drawn. -/
def plM (l : List Int) : List Mk × Int := mrF l (rg l 0 1 4).toNat (rg l 1 1 4).toNat 2
theorem plM_fin (l : List Int) : (plM l).1.length ≤ 42 ∧ ∀ m ∈ (plM l).1, m.1 ∈ L9 ∧ m.2.1 ∈ H5 ++ [[], [104, 97], [72]] := by
  have r1 := rg_range l 0 1 4 (by omega)
  have r2 := rg_range l 1 1 4 (by omega)
  have h := mrF_fin l (rg l 0 1 4).toNat (rg l 1 1 4).toNat 2
  refine ⟨?_, fun m hm => ?_⟩
  · have := Nat.mul_le_mul (show (rg l 0 1 4).toNat ≤ 4 by omega) (show (rg l 1 1 4).toNat ≤ 4 by omega)
    have h1 := h.1
    unfold plM
    omega
  · have hk := h.2 m hm
    exact ⟨range_sub (by omega) pN _ _ hk.pa, range_sub (by omega) hN _ _ hk.pe⟩
theorem plM_ok {l : List Int} (g : GoodM (plM l).1) : MkO (plM l).1 H5 L9 where
  len := (plM_fin l).1
  good := g
  hH := by decide
  pe := fun m hm => pers5 _ ((plM_fin l).2 m hm).2 (g.keys m hm).2
  sh := fun m hm => ⟨lenA _ (List.mem_append_left _ ((plM_fin l).2 m hm).1), lenA _ (List.mem_append_right _ ((plM_fin l).2 m hm).2)⟩
  hL := by decide
  pl := fun m hm => ((plM_fin l).2 m hm).1
theorem law_ok (l : List Int) (hl : l.length ≤ 9223372036854775807) : Does Tryz.prog 5 [Ls l] [] (B true) [] := by
  have c1 := range_f l hl 0 1 4 (by omega) (by omega) (by omega) (by omega) (by omega)
  have c2 := range_f l hl 1 1 4 (by omega) (by omega) (by omega) (by omega) (by omega)
  have r1 := rg_range l 0 1 4 (by omega)
  have r2 := rg_range l 1 1 4 (by omega)
  have c3 := marks_f l hl (rg l 0 1 4).toNat (rg l 1 1 4).toNat (by omega) (by omega) 2 (by omega) (by omega)
  have ha := mrF_at l (rg l 0 1 4).toNat (rg l 1 1 4).toNat 2 (by omega) (by omega)
  rw [show (((rg l 0 1 4).toNat : Nat) : Int) = rg l 0 1 4 by omega, show (((rg l 1 1 4).toNat : Nat) : Int) = rg l 1 1 4 by omega] at c3
  change Does _ _ _ _ (.d (.sl ((plM l).1.map mkD))) [Stm l (plM l).2] at c3
  change 2 ≤ (plM l).2 ∧ (plM l).2 ≤ 2 + 200 at ha
  have hfin := plM_fin l
  have hmk := @plM_ok l
  generalize plM l = z at *
  obtain ⟨ms, pz⟩ := z
  simp only at c3 ha hfin hmk
  have c4 := range_f l hl pz 1 5 (by omega) (by omega) (by omega) (by omega) (by omega)
  have hh := rg_range l pz 1 5 (by omega)
  generalize rg l pz 1 5 = how at *
  generalize rg l 0 1 4 = n1 at *
  generalize rg l 1 1 4 = n2 at *
  have hmr := marksFault_any ms (by omega) fun m hm => ⟨keyA _ (List.mem_append_left _ (hfin.2 m hm).1), keyA _ (List.mem_append_right _ (hfin.2 m hm).2)⟩
  refine Does.of_AW (n := 98) Tryz.func5 rfl rfl rfl fun cx hcx => ?_
  by_cases he : goF (mF mnR) [] ms = 0
  case neg =>
    generalize goF (mF mnR) [] ms = e at *
    have heb : (e != 0) = true := by simpa using he
    repeat' (first | ((first | refine AW.sreg rfl fun K hK => ?_ | refine run_call _ _ _ ((c1).objs [_] ⟨rfl, trivial⟩ rfl (by decide) (by simp [go_sem, renOs]) (by simp) (by simp) (by simp [go_sem]) (by simp [go_sem]) (by simp [go_sem]) (by simp [go_sem])) rfl rfl (dstOk_of rfl) rfl rfl rfl ?_ | refine run_call _ _ _ ((c2).objs [_] ⟨rfl, trivial⟩ rfl (by decide) (by simp [go_sem, renOs]) (by simp) (by simp) (by simp [go_sem]) (by simp [go_sem]) (by simp [go_sem]) (by simp [go_sem])) rfl rfl (dstOk_of rfl) rfl rfl rfl ?_ | refine run_call _ _ _ ((c3).objs [_] ⟨rfl, trivial⟩ rfl (by decide) (by simp [go_sem, renOs]) (by simp) (by simp) (by simp [go_sem]) (by simp [go_sem]) (by simp [go_sem]) (by simp [go_sem])) rfl rfl (dstOk_of rfl) rfl rfl rfl ?_ | refine run_call _ _ _ ((c4).objs [_] ⟨rfl, trivial⟩ rfl (by decide) (by simp [go_sem, renOs]) (by simp) (by simp) (by simp [go_sem]) (by simp [go_sem]) (by simp [go_sem]) (by simp [go_sem])) rfl rfl (dstOk_of rfl) rfl rfl rfl ?_ | refine run_call _ _ _ ((hmr).pure rfl rfl _ _) rfl rfl (dstOk_of rfl) rfl rfl rfl ?_ | refine run_call _ _ _ ((scores_ok).pure rfl rfl _ _) rfl rfl (dstOk_of rfl) rfl rfl rfl ?_); simp only [go_sem, Nat.reduceAdd, Nat.reduceMul, Int.reduceToNat, Nat.reduceLT, Nat.reduceLeDiff, Nat.le_refl, Nat.reduceEqDiff, ↓reduceIte, beq_self_eq_true, bne_self_eq_false, Int.reduceBEq, Int.reduceBNe, or_self, true_or, or_true, Option.map_some, Option.map_none, heb]) | (refine AW.seq_k fun K hK => ?_) | (refine AW.condT rfl (by first | rfl | (simp; omega) | (simp [*]; done) | fail) ?_) | (refine hK _ ?_; clear hK K) | (refine AW.ret (Fin.data rfl (by first | (simp only [go_sem]; done) | (simp [go_sem, *]; done) | (simp [go_sem]; omega) | rfl) rfl)))
  have hok := hmk (goodR he)
  rw [he] at hmr
  have hln := hok.len
  have hpl : (pps ms).length ≤ 19 := by
    have h1 := (rise_nodupS (onc_rise (ms.map (·.1)))).length_le_of_subset (l₂ := L9) fun p hp => by
      rw [onc_mem] at hp
      obtain ⟨m, hm, rfl⟩ := List.mem_map.1 hp
      exact hok.pl m hm
    have h2 := hok.hL
    unfold pps
    omega
  have hord : Does Tryz.prog 15 [.d (.sl (ms.map mkD)), I how] [] (.tup [.slr 0 0 (pps ms).length, I 0]) [SWk (ordP (pps ms) (vwF how ms))] :=
    (DoesI.weaken (OrderW_any how hh ms H5 L9 hok) (q := fun _ : Unit => True) (y := fun _ => .tup [.slr 0 0 (pps ms).length, I 0]) (os2 := fun _ => [SWk (ordP (pps ms) (vwF how ms))]) fun q hq => ⟨(), trivial, by rw [hq.eqP], by rw [hq.eqP]⟩).toU
  have hpap : Does Tryz.prog 20 [.d (.sl (ms.map mkD))] [] (.tup [.d (.sl ((pps ms).map D.str)), I 0]) [] :=
    (DoesI.weaken (papersOf_any ms H5 L9 hok) (q := fun _ : Unit => True) (y := fun _ => .tup [.d (.sl ((pps ms).map D.str)), I 0]) (os2 := fun _ => []) fun q hq => ⟨(), trivial, by rw [hq.eqP], rfl⟩).toU
  have hol : (ordP (pps ms) (vwF how ms)).length = (pps ms).length := (ordP_perm _ _).length_eq
  have hrg := fun pa hp => Range_any how hh ms H5 L9 hok pa hp
  have hnd : (ordP (pps ms) (vwF how ms)).Nodup := (ordP_perm _ _).nodup_iff.2 (rise_nodupS (onc_rise _))
  have hpm : ∀ p, p ∈ ordP (pps ms) (vwF how ms) → p ∈ pps ms := fun p hp => (ordP_perm _ _).mem_iff.1 hp
  have hplF : ∀ (i : Nat) (p : Str), (ordP (pps ms) (vwF how ms))[i]? = some p → plF how ms p = i + 1 := fun i p hp => by
    unfold plF
    rw [idxG_nd 0 hnd hp]
    omega
  generalize ordP (pps ms) (vwF how ms) = O1 at *
  repeat' (first | ((first | refine AW.sreg rfl fun K hK => ?_ | refine run_call _ _ _ ((c1).objs [_] ⟨rfl, trivial⟩ rfl (by decide) (by simp [go_sem, renOs]) (by simp) (by simp) (by simp [go_sem]) (by simp [go_sem]) (by simp [go_sem]) (by simp [go_sem])) rfl rfl (dstOk_of rfl) rfl rfl rfl ?_ | refine run_call _ _ _ ((c2).objs [_] ⟨rfl, trivial⟩ rfl (by decide) (by simp [go_sem, renOs]) (by simp) (by simp) (by simp [go_sem]) (by simp [go_sem]) (by simp [go_sem]) (by simp [go_sem])) rfl rfl (dstOk_of rfl) rfl rfl rfl ?_ | refine run_call _ _ _ ((c3).objs [_] ⟨rfl, trivial⟩ rfl (by decide) (by simp [go_sem, renOs]) (by simp) (by simp) (by simp [go_sem]) (by simp [go_sem]) (by simp [go_sem]) (by simp [go_sem])) rfl rfl (dstOk_of rfl) rfl rfl rfl ?_ | refine run_call _ _ _ ((c4).objs [_] ⟨rfl, trivial⟩ rfl (by decide) (by simp [go_sem, renOs]) (by simp) (by simp) (by simp [go_sem]) (by simp [go_sem]) (by simp [go_sem]) (by simp [go_sem])) rfl rfl (dstOk_of rfl) rfl rfl rfl ?_ | refine run_call _ _ _ ((hmr).pure rfl rfl _ _) rfl rfl (dstOk_of rfl) rfl rfl rfl ?_ | refine run_call _ _ _ ((hord).objs [] trivial rfl (by decide) (by simp [go_sem, renOs]) (by simp) (by simp) (by simp [go_sem]) (by simp [go_sem]) (by simp [go_sem]) (by simp [go_sem])) rfl rfl (dstOk_of rfl) rfl rfl rfl ?_ | refine run_call _ _ _ ((hpap).pure rfl rfl _ _) rfl rfl (dstOk_of rfl) rfl rfl rfl ?_); simp only [go_sem, Nat.reduceAdd, Nat.reduceMul, Int.reduceToNat, Nat.reduceLT, Nat.reduceLeDiff, Nat.le_refl, Nat.reduceEqDiff, ↓reduceIte, beq_self_eq_true, bne_self_eq_false, Int.reduceBEq, Int.reduceBNe, or_self, true_or, or_true, Option.map_some, Option.map_none, Nat.reduceSub, Nat.add_zero, List.length_map]) | (refine AW.seq_k fun K hK => ?_) | (refine AW.block ?_) | (refine AW.skip ?_; simp only [Then, InBlock]) | (refine AW.condF rfl (by first | rfl | (simp; omega) | (simp [*]; done) | fail) ?_) | (refine hK _ ?_; clear hK K))
  have htk : List.take (pps ms).length (dv (O1.map D.str)) = dv (O1.map D.str) := List.take_of_length_le (by simp [dv, hol])
  refine AW.weak (?wk : Weak cx _ (⟨98, [(4, .d (.sl (ms.map mkD))), (5, I how), (6, .d (.sl (O1.map D.str))), (8, .d (.sl ((pps ms).map D.str))), (54, .d (.sl (O1.map D.str))), (55, I (pps ms).length), (56, I 0)], [], 49⟩ : St)) ?_
  case wk => exact (Weak.auto hcx rfl rfl (Nat.le_of_ble_eq_true rfl) (by simp [go_sem, gL, kL, renOf, V.obj, lk, Nat.blt, Nat.ble, List.map_append, dv_push, htk, hol, toDL_dvF]) (by simp [go_sem, gL, kL, renOf, V.obj, lk, Nat.blt, Nat.ble, List.map_append, dv_push, htk, hol, toDL_dvF]) (by first | (intro i hi; exact absurd hi (Nat.not_lt_zero _)) | (intro i0 hi0; match i0, hi0 with | 0, _ => exact ⟨_, rfl⟩ | n0+1, h0 => exact absurd h0 (Nat.not_lt.2 (Nat.le_add_left 1 n0))) | (intro i0 hi0; match i0, hi0 with | 0, _ => exact ⟨_, rfl⟩ | 1, _ => exact ⟨_, rfl⟩ | n0+2, h0 => exact absurd h0 (Nat.not_lt.2 (Nat.le_add_left 2 n0))) | (intro i0 hi0; match i0, hi0 with | 0, _ => exact ⟨_, rfl⟩ | 1, _ => exact ⟨_, rfl⟩ | 2, _ => exact ⟨_, rfl⟩ | n0+3, h0 => exact absurd h0 (Nat.not_lt.2 (Nat.le_add_left 3 n0))) | (intro i0 hi0; match i0, hi0 with | 0, _ => exact ⟨_, rfl⟩ | 1, _ => exact ⟨_, rfl⟩ | 2, _ => exact ⟨_, rfl⟩ | 3, _ => exact ⟨_, rfl⟩ | n0+4, h0 => exact absurd h0 (Nat.not_lt.2 (Nat.le_add_left 4 n0)))) (by simp [go_sem, gL, kL, lk, renOf, V.obj, Nat.blt, Nat.ble, htk, hol, toDL_dvF]))
  clear hord hpap htk c1 c2 c3 c4 hmr
  refine AW.loopF (ι := Nat) [4, 5, 6, 8, 54, 55] (fun p => [(56, I p)]) (fun p => []) 49 (fun p => p ≤ (pps ms).length) (fun p => (pps ms).length - p) 0 (Nat.zero_le _) (Weak.auto hcx rfl rfl (Nat.le_of_ble_eq_true rfl) (by simp [go_sem, gL, kL, renOf, V.obj, lk, Nat.blt, Nat.ble, List.map_append, dv_push]) (by simp [go_sem, gL, kL, renOf, V.obj, lk, Nat.blt, Nat.ble, List.map_append, dv_push]) (by first | (intro i hi; exact absurd hi (Nat.not_lt_zero _)) | (intro i0 hi0; match i0, hi0 with | 0, _ => exact ⟨_, rfl⟩ | n0+1, h0 => exact absurd h0 (Nat.not_lt.2 (Nat.le_add_left 1 n0))) | (intro i0 hi0; match i0, hi0 with | 0, _ => exact ⟨_, rfl⟩ | 1, _ => exact ⟨_, rfl⟩ | n0+2, h0 => exact absurd h0 (Nat.not_lt.2 (Nat.le_add_left 2 n0))) | (intro i0 hi0; match i0, hi0 with | 0, _ => exact ⟨_, rfl⟩ | 1, _ => exact ⟨_, rfl⟩ | 2, _ => exact ⟨_, rfl⟩ | n0+3, h0 => exact absurd h0 (Nat.not_lt.2 (Nat.le_add_left 3 n0))) | (intro i0 hi0; match i0, hi0 with | 0, _ => exact ⟨_, rfl⟩ | 1, _ => exact ⟨_, rfl⟩ | 2, _ => exact ⟨_, rfl⟩ | 3, _ => exact ⟨_, rfl⟩ | n0+4, h0 => exact absurd h0 (Nat.not_lt.2 (Nat.le_add_left 4 n0)))) (by simp [go_sem, gL, kL, lk, renOf, V.obj, Nat.blt, Nat.ble])) ?_; simp only [St.at_nil, St.at_cons, lk, Nat.reduceEqDiff, ↓reduceIte, Option.getD_some, Option.getD_none, List.cons_append, List.nil_append, List.append_nil]
  intro i h1
  by_cases hi : i < (pps ms).length
  · obtain ⟨x, hx, hxm, -⟩ := get_some (l := O1) (i := i) (by omega)
    have hget : (O1.map D.str)[i]? = some (.str x) := by simp only [List.getElem?_map, hx, Option.map_some]
    have hr := hrg x (hpm x hxm)
    have hpe := hplF i x hx
    have hk1 := contains_St (O1.take i) (by rw [List.length_take]; omega) x
    have hk2 := contains_St (pps ms) (by omega) x
    have e1 : ((O1.take i).any fun y => x == y) = false := by
      rw [List.any_eq_false]
      intro y hy hxy
      have hxy2 : x = y := by simpa using hxy
      subst hxy2
      obtain ⟨k, hk⟩ := List.getElem?_of_mem hy
      have hkl := get_lt hk
      rw [List.length_take] at hkl
      rw [List.getElem?_take_of_lt (by omega)] at hk
      have := (List.getElem?_inj (by have := get_lt hk; exact this) hnd).1 (hk.trans hx.symm)
      omega
    have e2 : ((pps ms).any fun y => x == y) = true := List.any_eq_true.2 ⟨x, hpm x hxm, by simp⟩
    rw [e1, List.map_take] at hk1
    rw [e2] at hk2
    rw [hpe] at hr
    clear hrg hplF hpe e1 e2
    have hall : (O1.map D.str).all (elemOkD 1) = true := by
      simp only [List.all_map, List.all_eq_true]
      intro y _
      rfl
    repeat' (first | ((first | refine AW.sreg rfl fun K hK => ?_ | refine AW.reg rfl ?_ | refine run_call _ _ _ ((hk1).pure rfl rfl _ _) rfl rfl (dstOk_of rfl) rfl rfl rfl ?_ | refine run_call _ _ _ ((hk2).pure rfl rfl _ _) rfl rfl (dstOk_of rfl) rfl rfl rfl ?_); simp only [go_sem, Nat.reduceAdd, Nat.reduceMul, Int.reduceToNat, Nat.reduceLT, Nat.reduceLeDiff, Nat.le_refl, Nat.reduceEqDiff, ↓reduceIte, beq_self_eq_true, bne_self_eq_false, Int.reduceBEq, Int.reduceBNe, or_self, true_or, or_true, Option.map_some, Option.map_none, List.length_map, hget, hol, hall, Nat.sub_zero, and_true]) | (refine AW.seq_k fun K hK => ?_) | (refine AW.block ?_) | (refine AW.skip ?_; simp only [Then, InBlock]) | (refine AW.condT rfl (by first | rfl | (simp; omega) | (simp [*]; done) | fail) ?_) | (refine AW.condF rfl (by first | rfl | (simp; omega) | (simp [*]; done) | fail) ?_) | (refine hK _ ?_; clear hK K) | (refine stepB_split (fun h => ?_) (fun h => ?_) <;> (have hb0 := h) <;> (try simp only [Bool.not_eq_true', Bool.not_eq_false'] at hb0) <;> (try simp only [decide_eq_true_eq, decide_eq_false_iff_not, Bool.not_eq_true', Bool.not_eq_false', Bool.not_eq_eq_eq_not, Bool.not_true, Bool.not_false, beq_iff_eq, bne_iff_ne, beq_eq_false_iff_ne, ne_eq, Bool.and_eq_true, Bool.or_eq_true, Bool.or_eq_false_iff] at h) <;> simp only [go_sem, Nat.reduceAdd, Nat.reduceMul, Int.reduceToNat, Nat.reduceLT, Nat.reduceLeDiff, Nat.le_refl, Nat.reduceEqDiff, ↓reduceIte, beq_self_eq_true, bne_self_eq_false, Int.reduceBEq, Int.reduceBNe, or_self, true_or, or_true, Option.map_some, Option.map_none, hb0, h, decide_true, decide_false, List.length_map, hget, hol, hall, Nat.sub_zero, and_true] <;> (try clear hb0)) | (refine run_callI _ _ _ ((hr).pure rfl (fun _ => rfl) _ _) rfl rfl (dstOk_of rfl) rfl rfl rfl ?_; rintro ⟨be, wo⟩ hbw; (try dsimp only at be); (try dsimp only at wo); (try dsimp only at hbw); simp only [go_sem, Nat.reduceAdd, Nat.reduceMul, Int.reduceToNat, Nat.reduceLT, Nat.reduceLeDiff, Nat.le_refl, Nat.reduceEqDiff, ↓reduceIte, beq_self_eq_true, bne_self_eq_false, Int.reduceBEq, Int.reduceBNe, or_self, true_or, or_true, Option.map_some, Option.map_none, List.length_map, hget, hol, hall, Nat.sub_zero, and_true]) | (with_reducible refine And.intro ?_ ?_; first | omega | assumption | (focus (decide)) | (focus (simp; done)) | (focus (simp; omega)) | (focus (constructor <;> omega)) | fail) | (exfalso; omega))
    exact ⟨i + 1, hi, by omega, (Weak.auto hcx rfl rfl (Nat.le_of_ble_eq_true rfl) (by simp [go_sem, gL, kL, renOf, V.obj, lk, Nat.blt, Nat.ble, List.map_append, dv_push]) (by simp [go_sem, gL, kL, renOf, V.obj, lk, Nat.blt, Nat.ble, List.map_append, dv_push]) (by first | (intro i hi; exact absurd hi (Nat.not_lt_zero _)) | (intro i0 hi0; match i0, hi0 with | 0, _ => exact ⟨_, rfl⟩ | n0+1, h0 => exact absurd h0 (Nat.not_lt.2 (Nat.le_add_left 1 n0))) | (intro i0 hi0; match i0, hi0 with | 0, _ => exact ⟨_, rfl⟩ | 1, _ => exact ⟨_, rfl⟩ | n0+2, h0 => exact absurd h0 (Nat.not_lt.2 (Nat.le_add_left 2 n0))) | (intro i0 hi0; match i0, hi0 with | 0, _ => exact ⟨_, rfl⟩ | 1, _ => exact ⟨_, rfl⟩ | 2, _ => exact ⟨_, rfl⟩ | n0+3, h0 => exact absurd h0 (Nat.not_lt.2 (Nat.le_add_left 3 n0))) | (intro i0 hi0; match i0, hi0 with | 0, _ => exact ⟨_, rfl⟩ | 1, _ => exact ⟨_, rfl⟩ | 2, _ => exact ⟨_, rfl⟩ | 3, _ => exact ⟨_, rfl⟩ | n0+4, h0 => exact absurd h0 (Nat.not_lt.2 (Nat.le_add_left 4 n0)))) (by simp [go_sem, gL, kL, lk, renOf, V.obj, Nat.blt, Nat.ble]))⟩
  · obtain rfl : i = (pps ms).length := by omega
    repeat' (first | ((first | refine AW.sreg rfl fun K hK => ?_ | refine run_call _ _ _ ((scores_ok).pure rfl rfl _ _) rfl rfl (dstOk_of rfl) rfl rfl rfl ?_); simp only [go_sem, Nat.reduceAdd, Nat.reduceMul, Int.reduceToNat, Nat.reduceLT, Nat.reduceLeDiff, Nat.le_refl, Nat.reduceEqDiff, ↓reduceIte, beq_self_eq_true, bne_self_eq_false, Int.reduceBEq, Int.reduceBNe, or_self, true_or, or_true, Option.map_some, Option.map_none, List.length_map]) | (refine AW.seq_k fun K hK => ?_) | (refine AW.exit ?_; simp only [go_sem, ↓reduceIte]) | (refine AW.condF rfl (by first | rfl | (simp; omega) | (simp [*]; done) | fail) ?_) | (refine hK _ ?_; clear hK K) | (clear hK K; refine hK _ ?_; clear hK K) | (refine AW.ret (Fin.data rfl (by first | (simp only [go_sem]; done) | (simp [go_sem, *]; done) | (simp [go_sem]; omega) | rfl) rfl)))
end Go.AX
