/- Orders: faults, moves. -/
import Derived.Test.YtdhbglnckeadkaaGreatDoorMB
set_option linter.unusedSimpArgs false
set_option linter.unusedVariables false
set_option linter.unnecessarySimpa false
set_option maxRecDepth 100000
set_option maxHeartbeats 4000000
namespace Go.AX
open Go Go.Proofs
def KeyO (o : List Str) : Prop := ∀ s ∈ o, keyB s = true ∧ s.length ≤ 1000
theorem take_fresh {o : List Str} (hn : o.Nodup) {i : Nat} {x : Str} (hx : o[i]? = some x) : x ∉ o.take i := by
  have h1 : (o.take (i + 1)).Nodup := hn.sublist (List.take_sublist _ _)
  rw [List.take_add_one, hx] at h1
  have := (List.nodup_append.1 h1).2.2
  intro hm
  exact this x hm x (by simp) rfl
theorem orderFault_any (o : List Str) (hl : o.length ≤ 300) (hk : KeyO o) (hn : o.Nodup) (xs : List Pr) (e : Int) (hcp : Does Tryz.prog 41 [.d (.sl (xs.map prD))] [] (I e) []) :
    Does Tryz.prog 18 [.d (.sl (o.map D.str)), .d (.sl (xs.map prD))] [] (I e) [] := by
  refine Does.of_AW (n := 29) Tryz.func18 rfl rfl rfl fun cx hcx => ?_
  repeat' (first | (refine AW.sreg rfl fun K hK => ?_; simp only [go_sem, Nat.reduceAdd, Nat.reduceMul, Int.reduceToNat, Nat.reduceLT, Nat.reduceLeDiff, Nat.le_refl, Nat.reduceEqDiff, ↓reduceIte, beq_self_eq_true, bne_self_eq_false, Int.reduceBEq, Int.reduceBNe, or_self, true_or, or_true, Option.map_some, Option.map_none, List.length_map]) | (refine AW.seq_k fun K hK => ?_) | (refine AW.block ?_) | (refine AW.skip ?_; simp only [Then, InBlock]) | (refine AW.condF rfl (by first | rfl | (simp; omega) | (simp [*]; done) | fail) ?_) | (refine hK _ ?_; clear hK K))
  refine AW.loopF (ι := Nat) [1, 5, 12, 13] (fun p => [(14, I p)]) (fun p => [(256, some (O.map ((o.take p).map D.str) (dv ((o.take p).map fun _ => D.bool true))))]) 9 (fun p => p ≤ o.length) (fun p => o.length - p) 0 (Nat.zero_le _) (Weak.auto hcx rfl rfl (Nat.le_of_ble_eq_true rfl) (by simp [go_sem, gL, kL, renOf, V.obj, lk, Nat.blt, Nat.ble, List.map_append, dv_push]) (by simp [go_sem, gL, kL, renOf, V.obj, lk, Nat.blt, Nat.ble, List.map_append, dv_push]) (by first | (intro i hi; exact absurd hi (Nat.not_lt_zero _)) | (intro i0 hi0; match i0, hi0 with | 0, _ => exact ⟨_, rfl⟩ | n0+1, h0 => exact absurd h0 (Nat.not_lt.2 (Nat.le_add_left 1 n0))) | (intro i0 hi0; match i0, hi0 with | 0, _ => exact ⟨_, rfl⟩ | 1, _ => exact ⟨_, rfl⟩ | n0+2, h0 => exact absurd h0 (Nat.not_lt.2 (Nat.le_add_left 2 n0))) | (intro i0 hi0; match i0, hi0 with | 0, _ => exact ⟨_, rfl⟩ | 1, _ => exact ⟨_, rfl⟩ | 2, _ => exact ⟨_, rfl⟩ | n0+3, h0 => exact absurd h0 (Nat.not_lt.2 (Nat.le_add_left 3 n0))) | (intro i0 hi0; match i0, hi0 with | 0, _ => exact ⟨_, rfl⟩ | 1, _ => exact ⟨_, rfl⟩ | 2, _ => exact ⟨_, rfl⟩ | 3, _ => exact ⟨_, rfl⟩ | n0+4, h0 => exact absurd h0 (Nat.not_lt.2 (Nat.le_add_left 4 n0)))) (by simp [go_sem, gL, kL, lk, renOf, V.obj, Nat.blt, Nat.ble])) ?_; simp only [St.at_nil, St.at_cons, lk, Nat.reduceEqDiff, ↓reduceIte, Option.getD_some, Option.getD_none, List.cons_append, List.nil_append, List.append_nil]
  intro i h1
  by_cases hi : i < o.length
  · obtain ⟨x, hx, hxm, hxd⟩ := get_some hi
    have hget : (o.map D.str)[i]? = some (.str x) := by simp [hx]
    have htk : o.take (i + 1) = o.take i ++ [x] := by rw [List.take_add_one, hx]; rfl
    have hf : fndK (.str x) ((o.take i).map D.str) = some none := by rw [fndK_str, findIdx_none (take_fresh hn hx)]
    obtain ⟨k1, k2⟩ := hk x hxm
    have hik := isKey_any x (by omega)
    rw [k1] at hik
    repeat' (first | (refine AW.sreg rfl fun K hK => ?_; simp only [go_sem, Nat.reduceAdd, Nat.reduceMul, Int.reduceToNat, Nat.reduceLT, Nat.reduceLeDiff, Nat.le_refl, Nat.reduceEqDiff, ↓reduceIte, beq_self_eq_true, bne_self_eq_false, Int.reduceBEq, Int.reduceBNe, or_self, true_or, or_true, Option.map_some, Option.map_none, List.length_map, hget, hf]) | (refine AW.reg rfl ?_; simp only [go_sem, Nat.reduceAdd, Nat.reduceMul, Int.reduceToNat, Nat.reduceLT, Nat.reduceLeDiff, Nat.le_refl, Nat.reduceEqDiff, ↓reduceIte, beq_self_eq_true, bne_self_eq_false, Int.reduceBEq, Int.reduceBNe, or_self, true_or, or_true, Option.map_some, Option.map_none, List.length_map, hget, hf]) | (refine AW.seq_k fun K hK => ?_) | (refine AW.block ?_) | (refine AW.skip ?_; simp only [Then, InBlock]) | (refine AW.condT rfl (by first | rfl | (simp; omega) | (simp [*]; done) | fail) ?_) | (refine AW.condF rfl (by first | rfl | (simp; omega) | (simp [*]; done) | fail) ?_) | (refine hK _ ?_; clear hK K) | (refine run_call _ _ _ ((hik).pure rfl rfl _ _) rfl rfl (dstOk_of rfl) rfl rfl rfl ?_; simp only [go_sem, Nat.reduceAdd, Nat.reduceMul, Int.reduceToNat, Nat.reduceLT, Nat.reduceLeDiff, Nat.le_refl, Nat.reduceEqDiff, ↓reduceIte, beq_self_eq_true, bne_self_eq_false, Int.reduceBEq, Int.reduceBNe, or_self, true_or, or_true, Option.map_some, Option.map_none, List.length_map, hget, hf]) | (with_reducible refine And.intro ?_ ?_; first | omega | assumption | (focus (decide)) | (focus (simp; done)) | (focus (simp; omega)) | (focus (constructor <;> omega)) | fail))
    exact ⟨i + 1, hi, by omega, (Weak.auto hcx rfl rfl (Nat.le_of_ble_eq_true rfl) (by simp [go_sem, gL, kL, renOf, V.obj, lk, Nat.blt, Nat.ble, List.map_append, dv_push, htk]) (by simp [go_sem, gL, kL, renOf, V.obj, lk, Nat.blt, Nat.ble, List.map_append, dv_push, htk]) (by first | (intro i hi; exact absurd hi (Nat.not_lt_zero _)) | (intro i0 hi0; match i0, hi0 with | 0, _ => exact ⟨_, rfl⟩ | n0+1, h0 => exact absurd h0 (Nat.not_lt.2 (Nat.le_add_left 1 n0))) | (intro i0 hi0; match i0, hi0 with | 0, _ => exact ⟨_, rfl⟩ | 1, _ => exact ⟨_, rfl⟩ | n0+2, h0 => exact absurd h0 (Nat.not_lt.2 (Nat.le_add_left 2 n0))) | (intro i0 hi0; match i0, hi0 with | 0, _ => exact ⟨_, rfl⟩ | 1, _ => exact ⟨_, rfl⟩ | 2, _ => exact ⟨_, rfl⟩ | n0+3, h0 => exact absurd h0 (Nat.not_lt.2 (Nat.le_add_left 3 n0))) | (intro i0 hi0; match i0, hi0 with | 0, _ => exact ⟨_, rfl⟩ | 1, _ => exact ⟨_, rfl⟩ | 2, _ => exact ⟨_, rfl⟩ | 3, _ => exact ⟨_, rfl⟩ | n0+4, h0 => exact absurd h0 (Nat.not_lt.2 (Nat.le_add_left 4 n0)))) (by simp [go_sem, gL, kL, lk, renOf, V.obj, Nat.blt, Nat.ble, htk]))⟩
  · obtain rfl : i = o.length := by omega
    repeat' (first | (refine AW.sreg rfl fun K hK => ?_; simp only [go_sem, Nat.reduceAdd, Nat.reduceMul, Int.reduceToNat, Nat.reduceLT, Nat.reduceLeDiff, Nat.le_refl, Nat.reduceEqDiff, ↓reduceIte, beq_self_eq_true, bne_self_eq_false, Int.reduceBEq, Int.reduceBNe, or_self, true_or, or_true, Option.map_some, Option.map_none, List.length_map]) | (refine AW.seq_k fun K hK => ?_) | (refine AW.exit ?_; simp only [go_sem, ↓reduceIte]) | (refine AW.condF rfl (by first | rfl | (simp; omega) | (simp [*]; done) | fail) ?_) | (refine hK _ ?_; clear hK K) | (clear hK K; refine hK _ ?_; clear hK K) | (refine run_call _ _ _ ((hcp).pure rfl rfl _ _) rfl rfl (dstOk_of rfl) rfl rfl rfl ?_; simp only [go_sem, Nat.reduceAdd, Nat.reduceMul, Int.reduceToNat, Nat.reduceLT, Nat.reduceLeDiff, Nat.le_refl, Nat.reduceEqDiff, ↓reduceIte, beq_self_eq_true, bne_self_eq_false, Int.reduceBEq, Int.reduceBNe, or_self, true_or, or_true, Option.map_some, Option.map_none, List.length_map]) | (refine AW.ret (Fin.data rfl (by first | (simp only [go_sem]; done) | (simp [go_sem, *]; done) | (simp [go_sem]; omega) | rfl) rfl)))
theorem risingFault_any (o : List Str) (hl : o.length ≤ 300) (hk : KeyO o) (hr : RiseS o) : Does Tryz.prog 77 [.d (.sl (o.map D.str))] [] (I 0) [] := by
  have hb : ∀ a b, Op.bytesLess a b = ltS a b := fun _ _ => rfl
  refine Does.of_AW (n := 27) Tryz.func77 rfl rfl rfl fun cx hcx => ?_
  repeat' (first | (refine AW.sreg rfl fun K hK => ?_; simp only [go_sem, Nat.reduceAdd, Nat.reduceMul, Int.reduceToNat, Nat.reduceLT, Nat.reduceLeDiff, Nat.le_refl, Nat.reduceEqDiff, ↓reduceIte, beq_self_eq_true, bne_self_eq_false, Int.reduceBEq, Int.reduceBNe, or_self, true_or, or_true, Option.map_some, Option.map_none, List.length_map]) | (refine AW.seq_k fun K hK => ?_) | (refine AW.block ?_) | (refine hK _ ?_; clear hK K))
  refine AW.loopF (ι := Nat) [0, 5, 6] (fun p => [(7, I p)]) (fun p => []) 4 (fun p => p ≤ o.length) (fun p => o.length - p) 0 (Nat.zero_le _) (Weak.auto hcx rfl rfl (Nat.le_of_ble_eq_true rfl) (by simp [go_sem, gL, kL, renOf, V.obj, lk, Nat.blt, Nat.ble, List.map_append, dv_push]) (by simp [go_sem, gL, kL, renOf, V.obj, lk, Nat.blt, Nat.ble, List.map_append, dv_push]) (by first | (intro i hi; exact absurd hi (Nat.not_lt_zero _)) | (intro i0 hi0; match i0, hi0 with | 0, _ => exact ⟨_, rfl⟩ | n0+1, h0 => exact absurd h0 (Nat.not_lt.2 (Nat.le_add_left 1 n0))) | (intro i0 hi0; match i0, hi0 with | 0, _ => exact ⟨_, rfl⟩ | 1, _ => exact ⟨_, rfl⟩ | n0+2, h0 => exact absurd h0 (Nat.not_lt.2 (Nat.le_add_left 2 n0))) | (intro i0 hi0; match i0, hi0 with | 0, _ => exact ⟨_, rfl⟩ | 1, _ => exact ⟨_, rfl⟩ | 2, _ => exact ⟨_, rfl⟩ | n0+3, h0 => exact absurd h0 (Nat.not_lt.2 (Nat.le_add_left 3 n0))) | (intro i0 hi0; match i0, hi0 with | 0, _ => exact ⟨_, rfl⟩ | 1, _ => exact ⟨_, rfl⟩ | 2, _ => exact ⟨_, rfl⟩ | 3, _ => exact ⟨_, rfl⟩ | n0+4, h0 => exact absurd h0 (Nat.not_lt.2 (Nat.le_add_left 4 n0)))) (by simp [go_sem, gL, kL, lk, renOf, V.obj, Nat.blt, Nat.ble])) ?_; simp only [St.at_nil, St.at_cons, lk, Nat.reduceEqDiff, ↓reduceIte, Option.getD_some, Option.getD_none, List.cons_append, List.nil_append, List.append_nil]
  intro i h1
  by_cases hi : i < o.length
  · obtain ⟨x, hx, hxm, hxd⟩ := get_some hi
    have hget : (o.map D.str)[i]? = some (.str x) := by simp [hx]
    obtain ⟨k1, k2⟩ := hk x hxm
    have hik := isKey_any x (by omega)
    rw [k1] at hik
    rcases i with _ | j
    · repeat' (first | (refine AW.sreg rfl fun K hK => ?_; simp only [go_sem, Nat.reduceAdd, Nat.reduceMul, Int.reduceToNat, Nat.reduceLT, Nat.reduceLeDiff, Nat.le_refl, Nat.reduceEqDiff, ↓reduceIte, beq_self_eq_true, bne_self_eq_false, Int.reduceBEq, Int.reduceBNe, or_self, true_or, or_true, Option.map_some, Option.map_none, List.length_map, hget]) | (refine AW.reg rfl ?_; simp only [go_sem, Nat.reduceAdd, Nat.reduceMul, Int.reduceToNat, Nat.reduceLT, Nat.reduceLeDiff, Nat.le_refl, Nat.reduceEqDiff, ↓reduceIte, beq_self_eq_true, bne_self_eq_false, Int.reduceBEq, Int.reduceBNe, or_self, true_or, or_true, Option.map_some, Option.map_none, List.length_map, hget]) | (refine AW.seq_k fun K hK => ?_) | (refine AW.block ?_) | (refine AW.skip ?_; simp only [Then, InBlock]) | (refine AW.condT rfl (by first | rfl | (simp; omega) | (simp [*]; done) | fail) ?_) | (refine AW.condF rfl (by first | rfl | (simp; omega) | (simp [*]; done) | fail) ?_) | (refine hK _ ?_; clear hK K) | (refine stepB_split (fun h => ?_) (fun h => ?_) <;> (have hb0 := h) <;> (try simp only [Bool.not_eq_true', Bool.not_eq_false'] at hb0) <;> (try simp only [decide_eq_true_eq, decide_eq_false_iff_not, Bool.not_eq_true', Bool.not_eq_false', Bool.not_eq_eq_eq_not, Bool.not_true, Bool.not_false, beq_iff_eq, bne_iff_ne, beq_eq_false_iff_ne, ne_eq, Bool.and_eq_true, Bool.or_eq_true, Bool.or_eq_false_iff] at h) <;> simp only [go_sem, Nat.reduceAdd, Nat.reduceMul, Int.reduceToNat, Nat.reduceLT, Nat.reduceLeDiff, Nat.le_refl, Nat.reduceEqDiff, ↓reduceIte, beq_self_eq_true, bne_self_eq_false, Int.reduceBEq, Int.reduceBNe, or_self, true_or, or_true, Option.map_some, Option.map_none, hb0, h, decide_true, decide_false, List.length_map, hget] <;> (try clear hb0)) | (refine run_call _ _ _ ((hik).pure rfl rfl _ _) rfl rfl (dstOk_of rfl) rfl rfl rfl ?_; simp only [go_sem, Nat.reduceAdd, Nat.reduceMul, Int.reduceToNat, Nat.reduceLT, Nat.reduceLeDiff, Nat.le_refl, Nat.reduceEqDiff, ↓reduceIte, beq_self_eq_true, bne_self_eq_false, Int.reduceBEq, Int.reduceBNe, or_self, true_or, or_true, Option.map_some, Option.map_none, List.length_map, hget]) | (with_reducible refine And.intro ?_ ?_; first | omega | assumption | (focus (decide)) | (focus (simp; done)) | (focus (simp; omega)) | (focus (constructor <;> omega)) | fail) | (exfalso; omega))
      all_goals first | (exfalso; omega) | exact ⟨1, hi, by omega, (Weak.auto hcx rfl rfl (Nat.le_of_ble_eq_true rfl) (by simp [go_sem, gL, kL, renOf, V.obj, lk, Nat.blt, Nat.ble, List.map_append, dv_push]) (by simp [go_sem, gL, kL, renOf, V.obj, lk, Nat.blt, Nat.ble, List.map_append, dv_push]) (by first | (intro i hi; exact absurd hi (Nat.not_lt_zero _)) | (intro i0 hi0; match i0, hi0 with | 0, _ => exact ⟨_, rfl⟩ | n0+1, h0 => exact absurd h0 (Nat.not_lt.2 (Nat.le_add_left 1 n0))) | (intro i0 hi0; match i0, hi0 with | 0, _ => exact ⟨_, rfl⟩ | 1, _ => exact ⟨_, rfl⟩ | n0+2, h0 => exact absurd h0 (Nat.not_lt.2 (Nat.le_add_left 2 n0))) | (intro i0 hi0; match i0, hi0 with | 0, _ => exact ⟨_, rfl⟩ | 1, _ => exact ⟨_, rfl⟩ | 2, _ => exact ⟨_, rfl⟩ | n0+3, h0 => exact absurd h0 (Nat.not_lt.2 (Nat.le_add_left 3 n0))) | (intro i0 hi0; match i0, hi0 with | 0, _ => exact ⟨_, rfl⟩ | 1, _ => exact ⟨_, rfl⟩ | 2, _ => exact ⟨_, rfl⟩ | 3, _ => exact ⟨_, rfl⟩ | n0+4, h0 => exact absurd h0 (Nat.not_lt.2 (Nat.le_add_left 4 n0)))) (by simp [go_sem, gL, kL, lk, renOf, V.obj, Nat.blt, Nat.ble]))⟩
    · obtain ⟨y, hy, hym, hyd⟩ := get_some (show j < o.length by omega)
      have hget2 : (o.map D.str)[(((j + 1 : Nat) : Int) - 1).toNat]? = some (.str y) := by
        rw [show (((j + 1 : Nat) : Int) - 1).toNat = j by omega]; simp [hy]
      have hlt := riseS_at hr hy hx (by omega)
      have e1 := ltS_asymm hlt
      have e2 : (x == y) = false := by
        have := ltS_ne hlt
        simpa using fun e : x = y => this e.symm
      repeat' (first | (refine AW.sreg rfl fun K hK => ?_; simp only [go_sem, Nat.reduceAdd, Nat.reduceMul, Int.reduceToNat, Nat.reduceLT, Nat.reduceLeDiff, Nat.le_refl, Nat.reduceEqDiff, ↓reduceIte, beq_self_eq_true, bne_self_eq_false, Int.reduceBEq, Int.reduceBNe, or_self, true_or, or_true, Option.map_some, Option.map_none, List.length_map, hget, hget2, hb, e1, e2, Bool.or_false]) | (refine AW.reg rfl ?_; simp only [go_sem, Nat.reduceAdd, Nat.reduceMul, Int.reduceToNat, Nat.reduceLT, Nat.reduceLeDiff, Nat.le_refl, Nat.reduceEqDiff, ↓reduceIte, beq_self_eq_true, bne_self_eq_false, Int.reduceBEq, Int.reduceBNe, or_self, true_or, or_true, Option.map_some, Option.map_none, List.length_map, hget, hget2, hb, e1, e2, Bool.or_false]) | (refine AW.seq_k fun K hK => ?_) | (refine AW.block ?_) | (refine AW.skip ?_; simp only [Then, InBlock]) | (refine AW.condT rfl (by first | rfl | (simp; omega) | (simp [*]; done) | fail) ?_) | (refine AW.condF rfl (by first | rfl | (simp; omega) | (simp [*]; done) | fail) ?_) | (refine hK _ ?_; clear hK K) | (refine stepB_split (fun h => ?_) (fun h => ?_) <;> (have hb0 := h) <;> (try simp only [Bool.not_eq_true', Bool.not_eq_false'] at hb0) <;> (try simp only [decide_eq_true_eq, decide_eq_false_iff_not, Bool.not_eq_true', Bool.not_eq_false', Bool.not_eq_eq_eq_not, Bool.not_true, Bool.not_false, beq_iff_eq, bne_iff_ne, beq_eq_false_iff_ne, ne_eq, Bool.and_eq_true, Bool.or_eq_true, Bool.or_eq_false_iff] at h) <;> simp only [go_sem, Nat.reduceAdd, Nat.reduceMul, Int.reduceToNat, Nat.reduceLT, Nat.reduceLeDiff, Nat.le_refl, Nat.reduceEqDiff, ↓reduceIte, beq_self_eq_true, bne_self_eq_false, Int.reduceBEq, Int.reduceBNe, or_self, true_or, or_true, Option.map_some, Option.map_none, hb0, h, decide_true, decide_false, List.length_map, hget, hget2, hb, e1, e2, Bool.or_false] <;> (try clear hb0)) | (refine run_call _ _ _ ((hik).pure rfl rfl _ _) rfl rfl (dstOk_of rfl) rfl rfl rfl ?_; simp only [go_sem, Nat.reduceAdd, Nat.reduceMul, Int.reduceToNat, Nat.reduceLT, Nat.reduceLeDiff, Nat.le_refl, Nat.reduceEqDiff, ↓reduceIte, beq_self_eq_true, bne_self_eq_false, Int.reduceBEq, Int.reduceBNe, or_self, true_or, or_true, Option.map_some, Option.map_none, List.length_map, hget, hget2, hb, e1, e2, Bool.or_false]) | (with_reducible refine And.intro ?_ ?_; first | omega | assumption | (focus (decide)) | (focus (simp; done)) | (focus (simp; omega)) | (focus (constructor <;> omega)) | fail) | (exfalso; omega))
      all_goals first | (exfalso; omega) | exact ⟨j + 1 + 1, hi, by omega, (Weak.auto hcx rfl rfl (Nat.le_of_ble_eq_true rfl) (by simp [go_sem, gL, kL, renOf, V.obj, lk, Nat.blt, Nat.ble, List.map_append, dv_push]) (by simp [go_sem, gL, kL, renOf, V.obj, lk, Nat.blt, Nat.ble, List.map_append, dv_push]) (by first | (intro i hi; exact absurd hi (Nat.not_lt_zero _)) | (intro i0 hi0; match i0, hi0 with | 0, _ => exact ⟨_, rfl⟩ | n0+1, h0 => exact absurd h0 (Nat.not_lt.2 (Nat.le_add_left 1 n0))) | (intro i0 hi0; match i0, hi0 with | 0, _ => exact ⟨_, rfl⟩ | 1, _ => exact ⟨_, rfl⟩ | n0+2, h0 => exact absurd h0 (Nat.not_lt.2 (Nat.le_add_left 2 n0))) | (intro i0 hi0; match i0, hi0 with | 0, _ => exact ⟨_, rfl⟩ | 1, _ => exact ⟨_, rfl⟩ | 2, _ => exact ⟨_, rfl⟩ | n0+3, h0 => exact absurd h0 (Nat.not_lt.2 (Nat.le_add_left 3 n0))) | (intro i0 hi0; match i0, hi0 with | 0, _ => exact ⟨_, rfl⟩ | 1, _ => exact ⟨_, rfl⟩ | 2, _ => exact ⟨_, rfl⟩ | 3, _ => exact ⟨_, rfl⟩ | n0+4, h0 => exact absurd h0 (Nat.not_lt.2 (Nat.le_add_left 4 n0)))) (by simp [go_sem, gL, kL, lk, renOf, V.obj, Nat.blt, Nat.ble]))⟩
  · obtain rfl : i = o.length := by omega
    repeat' (first | (refine AW.sreg rfl fun K hK => ?_; simp only [go_sem, Nat.reduceAdd, Nat.reduceMul, Int.reduceToNat, Nat.reduceLT, Nat.reduceLeDiff, Nat.le_refl, Nat.reduceEqDiff, ↓reduceIte, beq_self_eq_true, bne_self_eq_false, Int.reduceBEq, Int.reduceBNe, or_self, true_or, or_true, Option.map_some, Option.map_none, List.length_map]) | (refine AW.seq_k fun K hK => ?_) | (refine AW.exit ?_; simp only [go_sem, ↓reduceIte]) | (refine AW.condF rfl (by first | rfl | (simp; omega) | (simp [*]; done) | fail) ?_) | (refine hK _ ?_; clear hK K) | (clear hK K; refine hK _ ?_; clear hK K) | (refine AW.ret (Fin.data rfl (by first | (simp only [go_sem]; done) | (simp [go_sem, *]; done) | (simp [go_sem]; omega) | rfl) rfl)))
theorem papersFault_any (o : List Str) (hl : o.length ≤ 300) (hk : KeyO o) (hr : RiseS o) (xs : List Pr) (e : Int) (hcp : Does Tryz.prog 41 [.d (.sl (xs.map prD))] [] (I e) []) :
    Does Tryz.prog 26 [.d (.sl (o.map D.str)), .d (.sl (xs.map prD))] [] (I e) [] := by
  have hrf := risingFault_any o hl hk hr
  have hnf : Does Tryz.prog 51 [.d (.sl (o.map D.str))] [] (I 0) [] := by
    refine Does.of_AW (n := 8) Tryz.func51 rfl rfl rfl fun cx hcx => ?_
    repeat' (first | (refine AW.sreg rfl fun K hK => ?_; simp only [go_sem, Nat.reduceAdd, Nat.reduceMul, Int.reduceToNat, Nat.reduceLT, Nat.reduceLeDiff, Nat.le_refl, Nat.reduceEqDiff, ↓reduceIte, beq_self_eq_true, bne_self_eq_false, Int.reduceBEq, Int.reduceBNe, or_self, true_or, or_true, Option.map_some, Option.map_none, List.length_map]) | (refine AW.seq_k fun K hK => ?_) | (refine AW.skip ?_; simp only [Then, InBlock]) | (refine AW.condF rfl (by first | rfl | (simp; omega) | (simp [*]; done) | fail) ?_) | (refine hK _ ?_; clear hK K) | (refine run_call _ _ _ ((hrf).pure rfl rfl _ _) rfl rfl (dstOk_of rfl) rfl rfl rfl ?_; simp only [go_sem, Nat.reduceAdd, Nat.reduceMul, Int.reduceToNat, Nat.reduceLT, Nat.reduceLeDiff, Nat.le_refl, Nat.reduceEqDiff, ↓reduceIte, beq_self_eq_true, bne_self_eq_false, Int.reduceBEq, Int.reduceBNe, or_self, true_or, or_true, Option.map_some, Option.map_none, List.length_map]) | (refine AW.ret (Fin.data rfl (by first | (simp only [go_sem]; done) | (simp [go_sem, *]; done) | (simp [go_sem]; omega) | rfl) rfl)))
  refine Does.of_AW (n := 13) Tryz.func26 rfl rfl rfl fun cx hcx => ?_
  repeat' (first | (refine AW.sreg rfl fun K hK => ?_; simp only [go_sem, Nat.reduceAdd, Nat.reduceMul, Int.reduceToNat, Nat.reduceLT, Nat.reduceLeDiff, Nat.le_refl, Nat.reduceEqDiff, ↓reduceIte, beq_self_eq_true, bne_self_eq_false, Int.reduceBEq, Int.reduceBNe, or_self, true_or, or_true, Option.map_some, Option.map_none, List.length_map]) | (refine AW.seq_k fun K hK => ?_) | (refine AW.skip ?_; simp only [Then, InBlock]) | (refine AW.condF rfl (by first | rfl | (simp; omega) | (simp [*]; done) | fail) ?_) | (refine hK _ ?_; clear hK K) | (refine run_call _ _ _ ((hnf).pure rfl rfl _ _) rfl rfl (dstOk_of rfl) rfl rfl rfl ?_; simp only [go_sem, Nat.reduceAdd, Nat.reduceMul, Int.reduceToNat, Nat.reduceLT, Nat.reduceLeDiff, Nat.le_refl, Nat.reduceEqDiff, ↓reduceIte, beq_self_eq_true, bne_self_eq_false, Int.reduceBEq, Int.reduceBNe, or_self, true_or, or_true, Option.map_some, Option.map_none, List.length_map]) | (refine run_call _ _ _ ((hcp).pure rfl rfl _ _) rfl rfl (dstOk_of rfl) rfl rfl rfl ?_; simp only [go_sem, Nat.reduceAdd, Nat.reduceMul, Int.reduceToNat, Nat.reduceLT, Nat.reduceLeDiff, Nat.le_refl, Nat.reduceEqDiff, ↓reduceIte, beq_self_eq_true, bne_self_eq_false, Int.reduceBEq, Int.reduceBNe, or_self, true_or, or_true, Option.map_some, Option.map_none, List.length_map]) | (refine AW.ret (Fin.data rfl (by first | (simp only [go_sem]; done) | (simp [go_sem, *]; done) | (simp [go_sem]; omega) | rfl) rfl)))
theorem moves_bad (o : List Str) (hl : o.length ≤ 300) (hk : KeyO o) (hn : o.Nodup) (xs : List Pr) (e : Int) (he : e ≠ 0) (hcp : Does Tryz.prog 41 [.d (.sl (xs.map prD))] [] (I e) []) :
    Does Tryz.prog 9 [.d (.sl (o.map D.str)), .d (.sl (xs.map prD))] [] (.tup [I 0, I e]) [] := by
  have hof := orderFault_any o hl hk hn xs e hcp
  have hne : (e != 0) = true := by simpa using he
  refine Does.of_AW (n := 17) Tryz.func9 rfl rfl rfl fun cx hcx => ?_
  repeat' (first | (refine AW.sreg rfl fun K hK => ?_; simp only [go_sem, Nat.reduceAdd, Nat.reduceMul, Int.reduceToNat, Nat.reduceLT, Nat.reduceLeDiff, Nat.le_refl, Nat.reduceEqDiff, ↓reduceIte, beq_self_eq_true, bne_self_eq_false, Int.reduceBEq, Int.reduceBNe, or_self, true_or, or_true, Option.map_some, Option.map_none, hne]) | (refine AW.seq_k fun K hK => ?_) | (refine AW.condT rfl (by first | rfl | (simp; omega) | (simp [*]; done) | fail) ?_) | (refine hK _ ?_; clear hK K) | (refine run_call _ _ _ ((hof).pure rfl rfl _ _) rfl rfl (dstOk_of rfl) rfl rfl rfl ?_; simp only [go_sem, Nat.reduceAdd, Nat.reduceMul, Int.reduceToNat, Nat.reduceLT, Nat.reduceLeDiff, Nat.le_refl, Nat.reduceEqDiff, ↓reduceIte, beq_self_eq_true, bne_self_eq_false, Int.reduceBEq, Int.reduceBNe, or_self, true_or, or_true, Option.map_some, Option.map_none, hne]) | (refine AW.ret (Fin.data rfl (by first | (simp only [go_sem]; done) | (simp [go_sem, *]; done) | (simp [go_sem]; omega) | rfl) rfl)))
theorem moves_ok (o : List Str) (hl : o.length ≤ 300) (hk : KeyO o) (hn : o.Nodup) (xs : List Pr) (hxl : xs.length ≤ 1000) (hr : RiseP xs) (hcp : Does Tryz.prog 41 [.d (.sl (xs.map prD))] [] (I 0) []) :
    Does Tryz.prog 9 [.d (.sl (o.map D.str)), .d (.sl (xs.map prD))] [] (.tup [I (totG (lvP xs) [] o), I 0]) [] := by
  have hof := orderFault_any o hl hk hn xs 0 hcp
  have hle := leavingI xs hxl hr
  refine Does.of_AW (n := 17) Tryz.func9 rfl rfl rfl fun cx hcx => ?_
  repeat' (first | (refine AW.sreg rfl fun K hK => ?_; simp only [go_sem, Nat.reduceAdd, Nat.reduceMul, Int.reduceToNat, Nat.reduceLT, Nat.reduceLeDiff, Nat.le_refl, Nat.reduceEqDiff, ↓reduceIte, beq_self_eq_true, bne_self_eq_false, Int.reduceBEq, Int.reduceBNe, or_self, true_or, or_true, Option.map_some, Option.map_none]) | (refine AW.seq_k fun K hK => ?_) | (refine AW.skip ?_; simp only [Then, InBlock]) | (refine AW.condF rfl (by first | rfl | (simp; omega) | (simp [*]; done) | fail) ?_) | (refine hK _ ?_; clear hK K) | (refine run_call _ _ _ ((hof).pure rfl rfl _ _) rfl rfl (dstOk_of rfl) rfl rfl rfl ?_; simp only [go_sem, Nat.reduceAdd, Nat.reduceMul, Int.reduceToNat, Nat.reduceLT, Nat.reduceLeDiff, Nat.le_refl, Nat.reduceEqDiff, ↓reduceIte, beq_self_eq_true, bne_self_eq_false, Int.reduceBEq, Int.reduceBNe, or_self, true_or, or_true, Option.map_some, Option.map_none]) | (refine run_callI _ _ _ ((hle).pure rfl (fun _ => rfl) _ _) rfl rfl (dstOk_of rfl) rfl rfl rfl ?_; rintro ⟨KS, VS⟩ hkk; (try dsimp only at KS); (try dsimp only at VS); (try dsimp only at hkk); simp only [go_sem, Nat.reduceAdd, Nat.reduceMul, Int.reduceToNat, Nat.reduceLT, Nat.reduceLeDiff, Nat.le_refl, Nat.reduceEqDiff, ↓reduceIte, beq_self_eq_true, bne_self_eq_false, Int.reduceBEq, Int.reduceBNe, or_self, true_or, or_true, Option.map_some, Option.map_none]) | (refine run_call _ _ _ ((total_any hkk o (by omega)).pure rfl rfl _ _) rfl rfl (dstOk_of rfl) rfl rfl rfl ?_; simp only [go_sem, Nat.reduceAdd, Nat.reduceMul, Int.reduceToNat, Nat.reduceLT, Nat.reduceLeDiff, Nat.le_refl, Nat.reduceEqDiff, ↓reduceIte, beq_self_eq_true, bne_self_eq_false, Int.reduceBEq, Int.reduceBNe, or_self, true_or, or_true, Option.map_some, Option.map_none]) | (refine AW.ret (Fin.data rfl (by first | (simp only [go_sem]; done) | (simp [go_sem, *]; done) | (simp [go_sem]; omega) | rfl) rfl)))
theorem reverse_St (xs : List Str) (hl : xs.length ≤ 1000) : Does Tryz.prog 8 [.slr 0 0 xs.length] [.vec 9 1 (dv (xs.map D.str))] (.tup []) [.vec 9 1 (dv (xs.reverse.map D.str))] := by
  refine Does.of_AW (n := 28) Tryz.func8 rfl rfl rfl fun cx hcx => ?_
  repeat' (first | (refine AW.sreg rfl fun K hK => ?_; simp only [go_sem, Nat.reduceAdd, Nat.reduceMul, Int.reduceToNat, Nat.reduceLT, Nat.reduceLeDiff, Nat.le_refl, Nat.reduceEqDiff, ↓reduceIte, beq_self_eq_true, bne_self_eq_false, Int.reduceBEq, Int.reduceBNe, or_self, true_or, or_true, Option.map_some, Option.map_none]) | (refine AW.block ?_) | (refine hK _ ?_; clear hK K) | (with_reducible refine And.intro ?_ ?_; first | omega | assumption | (focus (decide)) | (focus (simp; done)) | (focus (simp; omega)) | (focus (constructor <;> omega)) | fail))
  refine AW.loopF (ι := Nat × List Str) [0] (fun p => [(2, I p.1), (3, I ((xs.length : Int) - 1 - p.1))]) (fun p => [(0, some (O.vec 9 1 (dv (p.2.map D.str))))]) 6 (fun p => 2 * p.1 ≤ xs.length + 1 ∧ p.2.length = xs.length ∧ ∀ k, k < xs.length → p.2[k]? = if k < p.1 ∨ xs.length ≤ k + p.1 then xs[xs.length - 1 - k]? else xs[k]?) (fun p => xs.length - p.1) (0, xs) ⟨by omega, rfl, fun k hk => by rw [if_neg (by omega)]⟩ (Weak.auto hcx rfl rfl (Nat.le_of_ble_eq_true rfl) (by simp [go_sem, gL, kL, renOf, V.obj, lk, Nat.blt, Nat.ble, List.map_append, dv_push]) (by simp [go_sem, gL, kL, renOf, V.obj, lk, Nat.blt, Nat.ble, List.map_append, dv_push]) (by first | (intro i hi; exact absurd hi (Nat.not_lt_zero _)) | (intro i0 hi0; match i0, hi0 with | 0, _ => exact ⟨_, rfl⟩ | n0+1, h0 => exact absurd h0 (Nat.not_lt.2 (Nat.le_add_left 1 n0))) | (intro i0 hi0; match i0, hi0 with | 0, _ => exact ⟨_, rfl⟩ | 1, _ => exact ⟨_, rfl⟩ | n0+2, h0 => exact absurd h0 (Nat.not_lt.2 (Nat.le_add_left 2 n0))) | (intro i0 hi0; match i0, hi0 with | 0, _ => exact ⟨_, rfl⟩ | 1, _ => exact ⟨_, rfl⟩ | 2, _ => exact ⟨_, rfl⟩ | n0+3, h0 => exact absurd h0 (Nat.not_lt.2 (Nat.le_add_left 3 n0))) | (intro i0 hi0; match i0, hi0 with | 0, _ => exact ⟨_, rfl⟩ | 1, _ => exact ⟨_, rfl⟩ | 2, _ => exact ⟨_, rfl⟩ | 3, _ => exact ⟨_, rfl⟩ | n0+4, h0 => exact absurd h0 (Nat.not_lt.2 (Nat.le_add_left 4 n0)))) (by simp [go_sem, gL, kL, lk, renOf, V.obj, Nat.blt, Nat.ble])) ?_; simp only [St.at_nil, St.at_cons, lk, Nat.reduceEqDiff, ↓reduceIte, Option.getD_some, Option.getD_none, List.cons_append, List.nil_append, List.append_nil]
  rintro ⟨i, ys⟩ ⟨h1, h2, h3⟩
  simp only at h1 h2 h3 ⊢
  by_cases hi : 2 * i + 1 < xs.length
  · obtain ⟨a, ha, -, -⟩ := get_some (l := xs) (i := i) (by omega)
    obtain ⟨b, hb, -, -⟩ := get_some (l := xs) (i := xs.length - 1 - i) (by omega)
    have hya : ys[i]? = some a := by rw [h3 i (by omega), if_neg (by omega), ha]
    have hyb : ys[xs.length - 1 - i]? = some b := by rw [h3 _ (by omega), if_neg (by omega), hb]
    have ej : ((xs.length : Int) - 1 - i).toNat = xs.length - 1 - i := by omega
    have g1 : (dv (ys.map D.str))[0 + i]? = some (.d (.str a)) := by simp [dv, hya]
    have g2 : (dv (ys.map D.str))[0 + (xs.length - 1 - i)]? = some (.d (.str b)) := by simp [dv, hyb]
    have s1 : (dv (ys.map D.str)).set (0 + i) (.d (.str b)) = dv ((ys.set i b).map D.str) := by simp [dv, List.map_set]
    have s2 : (dv ((ys.set i b).map D.str)).set (0 + (xs.length - 1 - i)) (.d (.str a)) = dv (((ys.set i b).set (xs.length - 1 - i) a).map D.str) := by simp [dv, List.map_set]
    have g3 : ∃ z, (dv ((ys.set i b).map D.str))[0 + (xs.length - 1 - i)]? = some (.d (.str z)) := by
      obtain ⟨z, hz, -, -⟩ := get_some (l := ys.set i b) (i := xs.length - 1 - i) (by simp; omega)
      exact ⟨z, by simp only [dv, Nat.zero_add, List.getElem?_map, hz, Option.map_some]⟩
    obtain ⟨z, g3⟩ := g3
    repeat' (first | (refine AW.sreg rfl fun K hK => ?_; simp only [go_sem, Nat.reduceAdd, Nat.reduceMul, Int.reduceToNat, Nat.reduceLT, Nat.reduceLeDiff, Nat.le_refl, Nat.reduceEqDiff, ↓reduceIte, beq_self_eq_true, bne_self_eq_false, Int.reduceBEq, Int.reduceBNe, or_self, true_or, or_true, Option.map_some, Option.map_none, ej, g1, g2, g3, s1, s2, dv_length, List.length_map, h2]) | (refine AW.reg rfl ?_; simp only [go_sem, Nat.reduceAdd, Nat.reduceMul, Int.reduceToNat, Nat.reduceLT, Nat.reduceLeDiff, Nat.le_refl, Nat.reduceEqDiff, ↓reduceIte, beq_self_eq_true, bne_self_eq_false, Int.reduceBEq, Int.reduceBNe, or_self, true_or, or_true, Option.map_some, Option.map_none, ej, g1, g2, g3, s1, s2, dv_length, List.length_map, h2]) | (refine AW.regD hmix rfl ?_; simp only [go_sem, Nat.reduceAdd, Nat.reduceMul, Int.reduceToNat, Nat.reduceLT, Nat.reduceLeDiff, Nat.le_refl, Nat.reduceEqDiff, ↓reduceIte, beq_self_eq_true, bne_self_eq_false, Int.reduceBEq, Int.reduceBNe, or_self, true_or, or_true, Option.map_some, Option.map_none, ej, g1, g2, g3, s1, s2, dv_length, List.length_map, h2]) | (refine AW.seq_k fun K hK => ?_) | (refine AW.block ?_) | (refine AW.skip ?_; simp only [Then, InBlock]) | (refine AW.condT rfl (by first | rfl | (simp; omega) | (simp [*]; done) | fail) ?_) | (refine hK _ ?_; clear hK K) | (with_reducible refine And.intro (?_ : regOk _ _ = true) ?_; kernel_rfl) | (with_reducible refine And.intro ?_ ?_; first | omega | assumption | (focus (decide)) | (focus (simp; done)) | (focus (simp; omega)) | (focus (constructor <;> omega)) | fail))
    all_goals first | (exfalso; omega) | skip
    refine ⟨(i + 1, (ys.set i b).set (xs.length - 1 - i) a), ⟨by simp only; omega, by simp [h2], fun k hk => ?_⟩, by simp only; omega, (Weak.auto hcx rfl rfl (Nat.le_of_ble_eq_true rfl) (by simp [go_sem, gL, kL, renOf, V.obj, lk, Nat.blt, Nat.ble, List.map_append, dv_push, show (xs.length : Int) - 1 - i - 1 = (xs.length : Int) - 1 - (i + 1) by omega]) (by simp [go_sem, gL, kL, renOf, V.obj, lk, Nat.blt, Nat.ble, List.map_append, dv_push, show (xs.length : Int) - 1 - i - 1 = (xs.length : Int) - 1 - (i + 1) by omega]) (by first | (intro i hi; exact absurd hi (Nat.not_lt_zero _)) | (intro i0 hi0; match i0, hi0 with | 0, _ => exact ⟨_, rfl⟩ | n0+1, h0 => exact absurd h0 (Nat.not_lt.2 (Nat.le_add_left 1 n0))) | (intro i0 hi0; match i0, hi0 with | 0, _ => exact ⟨_, rfl⟩ | 1, _ => exact ⟨_, rfl⟩ | n0+2, h0 => exact absurd h0 (Nat.not_lt.2 (Nat.le_add_left 2 n0))) | (intro i0 hi0; match i0, hi0 with | 0, _ => exact ⟨_, rfl⟩ | 1, _ => exact ⟨_, rfl⟩ | 2, _ => exact ⟨_, rfl⟩ | n0+3, h0 => exact absurd h0 (Nat.not_lt.2 (Nat.le_add_left 3 n0))) | (intro i0 hi0; match i0, hi0 with | 0, _ => exact ⟨_, rfl⟩ | 1, _ => exact ⟨_, rfl⟩ | 2, _ => exact ⟨_, rfl⟩ | 3, _ => exact ⟨_, rfl⟩ | n0+4, h0 => exact absurd h0 (Nat.not_lt.2 (Nat.le_add_left 4 n0)))) (by simp [go_sem, gL, kL, lk, renOf, V.obj, Nat.blt, Nat.ble, show (xs.length : Int) - 1 - i - 1 = (xs.length : Int) - 1 - (i + 1) by omega]))⟩
    rw [List.getElem?_set, List.getElem?_set]
    by_cases e1 : xs.length - 1 - i = k
    · rw [if_pos e1, if_pos (by simp; omega), if_pos (by omega), ← e1, show xs.length - 1 - (xs.length - 1 - i) = i by omega, ha]
    · rw [if_neg e1]
      by_cases e2 : i = k
      · rw [if_pos e2, if_pos (by omega), if_pos (by omega), ← e2, hb]
      · rw [if_neg e2, h3 k hk]
        by_cases e3 : k < i ∨ xs.length ≤ k + i
        · rw [if_pos e3, if_pos (by omega)]
        · rw [if_neg e3, if_neg (by omega)]
  · have he : ys = xs.reverse := by
      apply List.ext_getElem?
      intro k
      rcases Nat.lt_or_ge k xs.length with hk | hk
      · rw [h3 k hk, List.getElem?_reverse hk]
        split
        · rfl
        · rw [show xs.length - 1 - k = k by omega]
      · rw [List.getElem?_eq_none (by omega), List.getElem?_eq_none (by simp; omega)]
    subst he
    repeat' (first | (refine AW.sreg rfl fun K hK => ?_; simp only [go_sem, Nat.reduceAdd, Nat.reduceMul, Int.reduceToNat, Nat.reduceLT, Nat.reduceLeDiff, Nat.le_refl, Nat.reduceEqDiff, ↓reduceIte, beq_self_eq_true, bne_self_eq_false, Int.reduceBEq, Int.reduceBNe, or_self, true_or, or_true, Option.map_some, Option.map_none]) | (refine AW.seq_k fun K hK => ?_) | (refine AW.exit ?_; simp only [go_sem, ↓reduceIte]) | (refine AW.condF rfl (by first | rfl | (simp; omega) | (simp [*]; done) | fail) ?_) | (refine hK _ ?_; clear hK K))
    all_goals first | (exfalso; omega) | exact Fin.objs [0] rfl (by simp [go_sem, inI, gI]) ⟨⟨_, rfl, by simp [go_sem, inI, gI]⟩, trivial⟩ (by simp) rfl (by simp [go_sem]) (by simp [go_sem]) rfl
end Go.AX

namespace Go.AX
open Go Go.Proofs
theorem totG_map {α γ β : Type} [DecidableEq β] (L : γ → List β) (f : α → γ) : ∀ (o : List α) (last : List β), totG (fun a => L (f a)) last o = totG L last (o.map f)
  | [], last => rfl
  | p :: r, last => by simp only [totG, List.map_cons, totG_map L f r]
theorem getD_range (ids : List Str) : (List.range ids.length).map (fun i => ids.getD i []) = ids := by
  apply List.ext_getElem?
  intro i
  rcases Nat.lt_or_ge i ids.length with h | h
  · simp [h]
  · rw [List.getElem?_eq_none (by simpa using h), List.getElem?_eq_none h]
theorem idx_range {ids : List Str} (hn : ids.Nodup) : ids.map (fun s => ids.idxOf s) = List.range ids.length := by
  apply List.ext_getElem?
  intro i
  rcases Nat.lt_or_ge i ids.length with h | h
  · rw [List.getElem?_map, List.getElem?_eq_getElem h, Option.map_some, List.getElem?_range h, hn.idxOf_getElem i h]
  · rw [List.getElem?_eq_none (by simpa using h), List.getElem?_eq_none (by simpa using h)]
/-- No order has fewer moves than the least number. -/
theorem G_order {ids : List Str} (hn : ids.Nodup) (h6 : ids.length ≤ 6) (L : Str → List Str) (o : List Str) (hp : o.Perm ids) : G (Li L ids) ids.length (2 ^ ids.length - 1) (-1) ≤ totG L [] o := by
  have hq : (o.map fun s => ids.idxOf s).Perm (List.range ids.length) := idx_range hn ▸ hp.map _
  have hb : (o.map fun s => ids.idxOf s).map (fun i => ids.getD i []) = o := by
    rw [List.map_map]
    conv => rhs; rw [← List.map_id o]
    refine List.map_congr_left fun s hs => ?_
    have hm := hp.mem_iff.1 hs
    have hlt := List.idxOf_lt_length_of_mem hm
    simp [hlt]
  have h2 := Nat.two_pow_pos ids.length
  have := G_least (Li L ids) ids.length h6 (o.map fun s => ids.idxOf s) (2 ^ ids.length - 1) (-1) (by omega) (hq.nodup_iff.2 List.nodup_range) (fun j hj => by
    rw [Nat.testBit_two_pow_sub_one, hq.mem_iff]
    simp) (fun j hj => List.mem_range.1 (hq.mem_iff.1 hj))
  rw [LL_neg] at this
  have e := totG_map L (fun i => ids.getD i []) (o.map fun s => ids.idxOf s) []
  rw [hb] at e
  rw [← e]
  exact this
theorem pow_all : ((List.range 7).all fun n => IntKind.i64.wrap (1 * 2 ^ min n 64) == ((2 ^ n : Nat) : Int)) = true := by kernel_rfl
theorem pow_get {n : Nat} (h : n ≤ 6) : IntKind.i64.wrap (1 * 2 ^ min n 64) = ((2 ^ n : Nat) : Int) := by
  simpa using List.all_eq_true.1 pow_all n (List.mem_range.2 (by omega))
/-- Where the search for the best order is. -/
structure BestI (L : Str → List Str) (ids : List Str) (left : Nat) (last : Int) (o : List Nat) (es : List Se) : Prop where
  lt : left < 2 ^ ids.length
  lo : -1 ≤ last
  hi : last < ids.length
  ok : SeenOk (G (Li L ids) ids.length) es
  nd : o.Nodup
  bit : ∀ j, j < ids.length → (left.testBit j = true ↔ j ∉ o)
  mem : ∀ j ∈ o, j < ids.length
  fin : endL (Li L ids) [] o = LL (Li L ids) last
  sum : (pfx (Li L ids) [] o : Int) + G (Li L ids) ids.length left last = G (Li L ids) ids.length (2 ^ ids.length - 1) (-1)
theorem BestI.start (L : Str → List Str) (ids : List Str) {es : List Se} (h : SeenOk (G (Li L ids) ids.length) es) : BestI L ids (2 ^ ids.length - 1) (-1) [] es where
  lt := by have := Nat.two_pow_pos ids.length; omega
  lo := Int.le_refl _
  hi := by omega
  ok := h
  nd := List.nodup_nil
  bit := fun j hj => by rw [Nat.testBit_two_pow_sub_one]; simp [hj]
  mem := by simp
  fin := rfl
  sum := by simp [pfx]
theorem BestI.step {L : Str → List Str} {ids : List Str} (h6 : ids.length ≤ 6) {left : Nat} {last : Int} {o : List Nat} {es es' : List Se} (h : BestI L ids left last o es) {i : Nat} (hi : i < ids.length) (hb : left.testBit i = true)
    (he : (mvS (LL (Li L ids) last) (Li L ids i) : Int) + G (Li L ids) ids.length (left - 2 ^ i) i = G (Li L ids) ids.length left last) (hes : SeenOk (G (Li L ids) ids.length) es') : BestI L ids (left - 2 ^ i) i (o ++ [i]) es' where
  lt := Nat.lt_of_le_of_lt (Nat.sub_le _ _) h.lt
  lo := by omega
  hi := by omega
  ok := hes
  nd := by
    rw [List.nodup_append]
    refine ⟨h.nd, by simp, fun a ha b hb' => ?_⟩
    obtain rfl := List.mem_singleton.1 hb'
    rintro rfl
    exact (h.bit a hi).1 hb ha
  bit := fun j hj => by
    have h64 := pow_le64 h6
    have := h.lt
    rw [clr_bit (by omega) (by omega) (by omega) hb, Bool.and_eq_true, h.bit j hj]
    simp only [Bool.not_eq_true', beq_eq_false_iff_ne, ne_eq, List.mem_append, List.mem_singleton, not_or]
  mem := fun j hj => by
    rcases List.mem_append.1 hj with hj | hj
    · exact h.mem j hj
    · obtain rfl := List.mem_singleton.1 hj; exact hi
  fin := by rw [endL_snoc, LL_nat]
  sum := by
    rw [pfx_snoc, h.fin, ← h.sum, ← he]
    omega
theorem BestI.done {L : Str → List Str} {ids : List Str} {last : Int} {o : List Nat} {es : List Se} (h : BestI L ids 0 last o es) : (o.map fun i => ids.getD i []).Perm ids ∧ (totG L [] (o.map fun i => ids.getD i []) : Int) = G (Li L ids) ids.length (2 ^ ids.length - 1) (-1) := by
  refine ⟨?_, ?_⟩
  · have hp : o.Perm (List.range ids.length) := by
      refine (List.perm_ext_iff_of_nodup h.nd List.nodup_range).2 fun j => ⟨fun hj => List.mem_range.2 (h.mem j hj), fun hj => ?_⟩
      have := h.bit j (List.mem_range.1 hj)
      simpa using this
    have := hp.map fun i => ids.getD i []
    rwa [getD_range] at this
  · rw [← totG_map L (fun i => ids.getD i []) o [], totG_pfx, ← h.sum, G_zero, ← h.fin]
    rfl
theorem frz_tup3 {hv : Nat → Option O} {keep : Nat → Bool} {x a b : V} {d : D} {e f : D} (h : frz hv keep x = .d d) (ha : a = .d e) (hb : b = .d f) : frz hv keep (.tup [x, a, b]) = .tup [.d d, a, b] := by
  subst ha hb
  simp only [frz, frzL, h]
theorem bestI_any (ids : List Str) (h6 : ids.length ≤ 6) (hk : KeyO ids) (hr : RiseS ids) (xs : List Pr) (hxl : xs.length ≤ 1000) (hrx : RiseP xs) (hcp : Does Tryz.prog 41 [.d (.sl (xs.map prD))] [] (I 0) []) :
    DoesI Tryz.prog 12 [.d (.sl (ids.map D.str)), .d (.sl (xs.map prD))] [] (fun o : List Str => o.Perm ids ∧ ∀ o' : List Str, o'.Perm ids → totG (lvP xs) [] o ≤ totG (lvP xs) [] o') (fun o => .tup [.d (.sl (o.map D.str)), I (totG (lvP xs) [] o), I 0]) (fun _ => []) := by
  have hpf := papersFault_any ids (by omega) hk hr xs 0 hcp
  have hle := leavingI xs hxl hrx
  have hsh := pow_get h6
  have h64 := pow_le64 h6
  have hpos := Nat.two_pow_pos ids.length
  have hsub : ((2 ^ ids.length : Nat) : Int) - 1 = ((2 ^ ids.length - 1 : Nat) : Int) := by omega
  have hnd := rise_nodupS hr
  refine DoesI.of_AW (n := 85) Tryz.func12 rfl rfl rfl fun cx hcx => ?_
  repeat' (first | (refine AW.sreg rfl fun K hK => ?_; simp only [go_sem, Nat.reduceAdd, Nat.reduceMul, Int.reduceToNat, Nat.reduceLT, Nat.reduceLeDiff, Nat.le_refl, Nat.reduceEqDiff, ↓reduceIte, beq_self_eq_true, bne_self_eq_false, Int.reduceBEq, Int.reduceBNe, or_self, true_or, or_true, Option.map_some, Option.map_none, List.length_map, hsh, hsub]) | (refine AW.seq_k fun K hK => ?_) | (refine AW.block ?_) | (refine AW.skip ?_; simp only [Then, InBlock]) | (refine AW.condF rfl (by first | rfl | (simp; omega) | (simp [*]; done) | fail) ?_) | (refine hK _ ?_; clear hK K) | (refine run_call _ _ _ ((hpf).pure rfl rfl _ _) rfl rfl (dstOk_of rfl) rfl rfl rfl ?_; simp only [go_sem, Nat.reduceAdd, Nat.reduceMul, Int.reduceToNat, Nat.reduceLT, Nat.reduceLeDiff, Nat.le_refl, Nat.reduceEqDiff, ↓reduceIte, beq_self_eq_true, bne_self_eq_false, Int.reduceBEq, Int.reduceBNe, or_self, true_or, or_true, Option.map_some, Option.map_none, List.length_map, hsh, hsub]) | (refine run_callI _ _ _ ((hle).pure rfl (fun _ => rfl) _ _) rfl rfl (dstOk_of rfl) rfl rfl rfl ?_; rintro ⟨KS, VS⟩ hkk; (try dsimp only at KS); (try dsimp only at VS); (try dsimp only at hkk); simp only [go_sem, Nat.reduceAdd, Nat.reduceMul, Int.reduceToNat, Nat.reduceLT, Nat.reduceLeDiff, Nat.le_refl, Nat.reduceEqDiff, ↓reduceIte, beq_self_eq_true, bne_self_eq_false, Int.reduceBEq, Int.reduceBNe, or_self, true_or, or_true, Option.map_some, Option.map_none, List.length_map, hsh, hsub]) | (refine run_call _ _ _ ((fewest_any hkk ids h6 64 (2 ^ ids.length - 1) (by omega) (by omega) (-1) (by omega) (by omega) [] (fun e he => absurd he (by simp))).robjs [1088, 960] ⟨(by first | rfl | (simp [go_sem]; done) | (simp [go_sem]; rfl)), (by first | rfl | (simp [go_sem]; done) | (simp [go_sem]; rfl)), trivial⟩ rfl (by decide) (by simp) (by simp) (by simp [go_sem]) (by simp [go_sem]) (by simp [go_sem]) (by simp [go_sem])) rfl rfl (dstOk_of rfl) rfl rfl rfl ?_; simp only [go_sem, Nat.reduceAdd, Nat.reduceMul, Int.reduceToNat, Nat.reduceLT, Nat.reduceLeDiff, Nat.le_refl, Nat.reduceEqDiff, ↓reduceIte, beq_self_eq_true, bne_self_eq_false, Int.reduceBEq, Int.reduceBNe, or_self, true_or, or_true, Option.map_some, Option.map_none, List.length_map, hsh, hsub]) | (with_reducible refine And.intro ?_ ?_; first | omega | assumption | (focus (decide)) | (focus (simp; done)) | (focus (simp; omega)) | (focus (constructor <;> omega)) | fail))
  have hE0 := fwS_ok (N := ids.length) (F := G (Li (lvP xs) ids) ids.length) 64 (2 ^ ids.length - 1) (-1) [] (fun e he => absurd he (by simp))
  refine AW.weak (Weak.nil 12 9 1 rfl) ?_
  refine AW.loopF (ι := Nat × Int × List Nat × List Se) [0, 8, 11] (fun p => [(9, I p.1), (10, I p.2.1), (12, .slr 1984 0 p.2.2.1.length)]) (fun p => [(1088, some (SB ids KS VS 960)), (960, some (MO p.2.2.2)), (1984, some (O.vec 9 1 (dv ((p.2.2.1.map fun i => ids.getD i []).map D.str))))]) 32 (fun p => BestI (lvP xs) ids p.1 p.2.1 p.2.2.1 p.2.2.2) (fun p => p.1) (2 ^ ids.length - 1, -1, [], fwS ids.length (G (Li (lvP xs) ids) ids.length) 64 (2 ^ ids.length - 1) (-1) []) (BestI.start _ _ hE0) (Weak.objs hcx [(1088, 1088), (960, 960), (1984, 1984)] rfl rfl (Nat.le_of_ble_eq_true rfl) (by simp [go_sem, gL, kL, List.map_append, dv_push]) (by simp [go_sem, gL, kL, List.map_append, dv_push]) (by first | (intro i hi; exact absurd hi (Nat.not_lt_zero _)) | (intro i0 hi0; match i0, hi0 with | 0, _ => exact ⟨_, rfl⟩ | n0+1, h0 => exact absurd h0 (Nat.not_lt.2 (Nat.le_add_left 1 n0))) | (intro i0 hi0; match i0, hi0 with | 0, _ => exact ⟨_, rfl⟩ | 1, _ => exact ⟨_, rfl⟩ | n0+2, h0 => exact absurd h0 (Nat.not_lt.2 (Nat.le_add_left 2 n0))) | (intro i0 hi0; match i0, hi0 with | 0, _ => exact ⟨_, rfl⟩ | 1, _ => exact ⟨_, rfl⟩ | 2, _ => exact ⟨_, rfl⟩ | n0+3, h0 => exact absurd h0 (Nat.not_lt.2 (Nat.le_add_left 3 n0))) | (intro i0 hi0; match i0, hi0 with | 0, _ => exact ⟨_, rfl⟩ | 1, _ => exact ⟨_, rfl⟩ | 2, _ => exact ⟨_, rfl⟩ | 3, _ => exact ⟨_, rfl⟩ | n0+4, h0 => exact absurd h0 (Nat.not_lt.2 (Nat.le_add_left 4 n0)))) (by simp [gL, lk])) ?_; simp only [St.at_nil, St.at_cons, lk, Nat.reduceEqDiff, ↓reduceIte, Option.getD_some, Option.getD_none, List.cons_append, List.nil_append, List.append_nil]
  rintro ⟨left, last, o, es⟩ hB
  simp only at hB ⊢
  have hLL : ∀ i, (Li (lvP xs) ids i).length ≤ 1000 := fun i => hkk.len _
  have hGb := fun l la h => G_bound (N := ids.length) hLL l la h
  have hGn := fun l la h => G_nonneg (Li (lvP xs) ids) ids.length l la h
  have hol : o.length ≤ 6 := by
    have := hB.nd.length_le_of_subset (l₂ := List.range ids.length) (fun j hj => List.mem_range.2 (hB.mem j hj))
    simp at this
    omega
  by_cases hz : left = 0
  · subst hz
    obtain ⟨d1, d2⟩ := hB.done
    repeat' (first | (refine AW.sreg rfl fun K hK => ?_; simp only [go_sem, Nat.reduceAdd, Nat.reduceMul, Int.reduceToNat, Nat.reduceLT, Nat.reduceLeDiff, Nat.le_refl, Nat.reduceEqDiff, ↓reduceIte, beq_self_eq_true, bne_self_eq_false, Int.reduceBEq, Int.reduceBNe, or_self, true_or, or_true, Option.map_some, Option.map_none, Int.natCast_zero]) | (refine AW.seq_k fun K hK => ?_) | (refine AW.exit ?_; simp only [go_sem, ↓reduceIte]) | (refine AW.condF rfl (by first | rfl | (simp; omega) | (simp [*]; done) | fail) ?_) | (refine hK _ ?_; clear hK K) | (clear hK K; refine hK _ ?_; clear hK K))
    rw [← d2]
    exact AW.ret ⟨o.map fun i => ids.getD i [], ⟨d1, fun o' ho' => by have := G_order hnd h6 (lvP xs) o' ho'; omega⟩, Fin.data rfl (frz_tup3 (frz_slr (e := 9) (s := 1) (xs := (o.map fun i => ids.getD i []).map D.str) rfl rfl (by simp)) rfl rfl) rfl⟩
  · have hfew := fewest_any hkk ids h6 64 left (by have := hB.lt; omega) hB.lt last hB.lo hB.hi es hB.ok
    have hE1 := fwS_ok (N := ids.length) (F := G (Li (lvP xs) ids) ids.length) 64 left last es hB.ok
    generalize fwS ids.length (G (Li (lvP xs) ids) ids.length) 64 left last es = e1 at *
    repeat' (first | (refine AW.sreg rfl fun K hK => ?_; simp only [go_sem, Nat.reduceAdd, Nat.reduceMul, Int.reduceToNat, Nat.reduceLT, Nat.reduceLeDiff, Nat.le_refl, Nat.reduceEqDiff, ↓reduceIte, beq_self_eq_true, bne_self_eq_false, Int.reduceBEq, Int.reduceBNe, or_self, true_or, or_true, Option.map_some, Option.map_none, List.length_map]) | (refine AW.seq_k fun K hK => ?_) | (refine AW.block ?_) | (refine AW.skip ?_; simp only [Then, InBlock]) | (refine AW.condT rfl (by first | rfl | (simp; omega) | (simp [*]; done) | fail) ?_) | (refine hK _ ?_; clear hK K) | (refine run_call _ _ _ ((hfew).robjs [1088, 960] ⟨(by first | rfl | (simp [go_sem]; done) | (simp [go_sem]; rfl)), (by first | rfl | (simp [go_sem]; done) | (simp [go_sem]; rfl)), trivial⟩ rfl (by decide) (by simp) (by simp) (by simp [go_sem]) (by simp [go_sem]) (by simp [go_sem]) (by simp [go_sem])) rfl rfl (dstOk_of rfl) rfl rfl rfl ?_; simp only [go_sem, Nat.reduceAdd, Nat.reduceMul, Int.reduceToNat, Nat.reduceLT, Nat.reduceLeDiff, Nat.le_refl, Nat.reduceEqDiff, ↓reduceIte, beq_self_eq_true, bne_self_eq_false, Int.reduceBEq, Int.reduceBNe, or_self, true_or, or_true, Option.map_some, Option.map_none, List.length_map]))
    refine AW.loopF (ι := Nat × List Se) [0, 8, 11, 13, 45, 46] (fun p => [(47, I p.1), (9, I left), (10, I last), (12, .slr 1984 0 o.length)]) (fun p => [(1088, some (SB ids KS VS 960)), (960, some (MO p.2)), (1984, some (O.vec 9 1 (dv ((o.map fun i => ids.getD i []).map D.str))))]) 42 (fun p => p.1 ≤ ids.length ∧ SeenOk (G (Li (lvP xs) ids) ids.length) p.2 ∧ ∀ i, i < p.1 → left.testBit i = true → (mvS (LL (Li (lvP xs) ids) last) (Li (lvP xs) ids i) : Int) + G (Li (lvP xs) ids) ids.length (left - 2 ^ i) i ≠ G (Li (lvP xs) ids) ids.length left last) (fun p => ids.length - p.1) (0, e1) ⟨Nat.zero_le _, hE1, fun i hi => absurd hi (Nat.not_lt_zero _)⟩ (Weak.objs hcx [(1088, 1088), (960, 960), (1984, 1984)] rfl rfl (Nat.le_of_ble_eq_true rfl) (by simp [go_sem, gL, kL, List.map_append, dv_push]) (by simp [go_sem, gL, kL, List.map_append, dv_push]) (by first | (intro i hi; exact absurd hi (Nat.not_lt_zero _)) | (intro i0 hi0; match i0, hi0 with | 0, _ => exact ⟨_, rfl⟩ | n0+1, h0 => exact absurd h0 (Nat.not_lt.2 (Nat.le_add_left 1 n0))) | (intro i0 hi0; match i0, hi0 with | 0, _ => exact ⟨_, rfl⟩ | 1, _ => exact ⟨_, rfl⟩ | n0+2, h0 => exact absurd h0 (Nat.not_lt.2 (Nat.le_add_left 2 n0))) | (intro i0 hi0; match i0, hi0 with | 0, _ => exact ⟨_, rfl⟩ | 1, _ => exact ⟨_, rfl⟩ | 2, _ => exact ⟨_, rfl⟩ | n0+3, h0 => exact absurd h0 (Nat.not_lt.2 (Nat.le_add_left 3 n0))) | (intro i0 hi0; match i0, hi0 with | 0, _ => exact ⟨_, rfl⟩ | 1, _ => exact ⟨_, rfl⟩ | 2, _ => exact ⟨_, rfl⟩ | 3, _ => exact ⟨_, rfl⟩ | n0+4, h0 => exact absurd h0 (Nat.not_lt.2 (Nat.le_add_left 4 n0)))) (by simp [gL, lk])) ?_; simp only [St.at_nil, St.at_cons, lk, Nat.reduceEqDiff, ↓reduceIte, Option.getD_some, Option.getD_none, List.cons_append, List.nil_append, List.append_nil]
    rintro ⟨k, e2⟩ ⟨g1, g2, g3⟩
    simp only at g1 g2 g3 ⊢
    by_cases hk' : k < ids.length
    · obtain ⟨x, hx, -, -⟩ := get_some hk'
      have hget : (ids.map D.str)[k]? = some (.str x) := by simp [hx]
      obtain ⟨hb1, hb2⟩ := bit_get (left := left) (i := k) (by have := hB.lt; omega) (by omega)
      by_cases hb : left.testBit k = true
      · have hand := hb2 hb
        rw [if_pos hb] at hb1
        have hsl := sub_lt hb
        have hltt : left - 2 ^ k < 2 ^ ids.length := Nat.lt_trans hsl hB.lt
        have hrec := fewest_any hkk ids h6 64 (left - 2 ^ k) (by omega) hltt (k : Int) (by omega) (by omega) e2 g2
        have hbt := between_any hkk ids h6 last hB.lo hB.hi k hk' e2
        have hE2 := fwS_ok (N := ids.length) (F := G (Li (lvP xs) ids) ids.length) 64 (left - 2 ^ k) k e2 g2
        have g1' := hGb (left - 2 ^ k) (k : Int) hltt
        have g2' := hGn (left - 2 ^ k) (k : Int) hltt
        have g3' := mvS_le (LL (Li (lvP xs) ids) last) (Li (lvP xs) ids k)
        have g4' : (LL (Li (lvP xs) ids) last).length ≤ 1000 := by
          unfold LL
          split
          · simp
          · exact hLL _
        have g5' := hLL k
        generalize fwS ids.length (G (Li (lvP xs) ids) ids.length) 64 (left - 2 ^ k) k e2 = e3 at *
        by_cases heq : (mvS (LL (Li (lvP xs) ids) last) (Li (lvP xs) ids k) : Int) + G (Li (lvP xs) ids) ids.length (left - 2 ^ k) k = G (Li (lvP xs) ids) ids.length left last
        · have hst := hB.step h6 hk' hb heq hE2
          repeat' (first | (refine AW.sreg rfl fun K hK => ?_; simp only [go_sem, Nat.reduceAdd, Nat.reduceMul, Int.reduceToNat, Nat.reduceLT, Nat.reduceLeDiff, Nat.le_refl, Nat.reduceEqDiff, ↓reduceIte, beq_self_eq_true, bne_self_eq_false, Int.reduceBEq, Int.reduceBNe, or_self, true_or, or_true, Option.map_some, Option.map_none, hb1, hand, hget, List.length_map]) | (refine AW.sregD hmix rfl fun K hK => ?_; simp only [go_sem, Nat.reduceAdd, Nat.reduceMul, Int.reduceToNat, Nat.reduceLT, Nat.reduceLeDiff, Nat.le_refl, Nat.reduceEqDiff, ↓reduceIte, beq_self_eq_true, bne_self_eq_false, Int.reduceBEq, Int.reduceBNe, or_self, true_or, or_true, Option.map_some, Option.map_none, hb1, hand, hget, List.length_map]) | (refine AW.seq_k fun K hK => ?_) | (refine AW.block ?_) | (refine AW.skip ?_; simp only [Then, InBlock]) | (refine AW.exit ?_; simp only [go_sem, ↓reduceIte]) | (refine AW.condT rfl (by first | rfl | (simp; omega) | (simp [*]; done) | fail) ?_) | (refine hK _ ?_; clear hK K) | (with_reducible refine And.intro (?_ : regOk _ _ = true) ?_; kernel_rfl) | (refine runT_call _ _ [1088, 960] (fun hv hag => (hbt).robjs [1088, 960] ⟨((hag 1088 (by simp)).trans (by first | rfl | (simp [go_sem]; done) | (simp [go_sem]; rfl))), ((hag 960 (by simp)).trans (by first | rfl | (simp [go_sem]; done) | (simp [go_sem]; rfl))), trivial⟩ rfl (by decide) (by simp) (by simp) (by simp [go_sem]) (by simp [go_sem]) (by simp [go_sem]) (by simp [go_sem])) rfl rfl (dstOk_of rfl) rfl rfl ?_; simp only [go_sem, Nat.reduceAdd, Nat.reduceMul, Int.reduceToNat, Nat.reduceLT, Nat.reduceLeDiff, Nat.le_refl, Nat.reduceEqDiff, ↓reduceIte, beq_self_eq_true, bne_self_eq_false, Int.reduceBEq, Int.reduceBNe, or_self, true_or, or_true, Option.map_some, Option.map_none, hb1, hand, hget, List.length_map]) | (refine runT_call _ _ [1088, 960] (fun hv hag => (hrec).robjs [1088, 960] ⟨((hag 1088 (by simp)).trans (by first | rfl | (simp [go_sem]; done) | (simp [go_sem]; rfl))), ((hag 960 (by simp)).trans (by first | rfl | (simp [go_sem]; done) | (simp [go_sem]; rfl))), trivial⟩ rfl (by decide) (by simp) (by simp) (by simp [go_sem]) (by simp [go_sem]) (by simp [go_sem]) (by simp [go_sem])) rfl rfl (dstOk_of rfl) rfl rfl ?_; simp only [go_sem, Nat.reduceAdd, Nat.reduceMul, Int.reduceToNat, Nat.reduceLT, Nat.reduceLeDiff, Nat.le_refl, Nat.reduceEqDiff, ↓reduceIte, beq_self_eq_true, bne_self_eq_false, Int.reduceBEq, Int.reduceBNe, or_self, true_or, or_true, Option.map_some, Option.map_none, hb1, hand, hget, List.length_map]) | (with_reducible refine And.intro ?_ ?_; first | omega | assumption | (focus (decide)) | (focus (simp; done)) | (focus (simp; omega)) | (focus (constructor <;> omega)) | fail))
          all_goals first | (exfalso; omega) | exact ⟨(left - 2 ^ k, (k : Int), o ++ [k], e3), hst, hsl, (Weak.objs hcx [(1088, 1088), (960, 960), (1984, 4608)] rfl rfl (Nat.le_of_ble_eq_true rfl) (by simp [go_sem, gL, kL, List.map_append, dv_push, hx]) (by simp [go_sem, gL, kL, List.map_append, dv_push, hx]) (by first | (intro i hi; exact absurd hi (Nat.not_lt_zero _)) | (intro i0 hi0; match i0, hi0 with | 0, _ => exact ⟨_, rfl⟩ | n0+1, h0 => exact absurd h0 (Nat.not_lt.2 (Nat.le_add_left 1 n0))) | (intro i0 hi0; match i0, hi0 with | 0, _ => exact ⟨_, rfl⟩ | 1, _ => exact ⟨_, rfl⟩ | n0+2, h0 => exact absurd h0 (Nat.not_lt.2 (Nat.le_add_left 2 n0))) | (intro i0 hi0; match i0, hi0 with | 0, _ => exact ⟨_, rfl⟩ | 1, _ => exact ⟨_, rfl⟩ | 2, _ => exact ⟨_, rfl⟩ | n0+3, h0 => exact absurd h0 (Nat.not_lt.2 (Nat.le_add_left 3 n0))) | (intro i0 hi0; match i0, hi0 with | 0, _ => exact ⟨_, rfl⟩ | 1, _ => exact ⟨_, rfl⟩ | 2, _ => exact ⟨_, rfl⟩ | 3, _ => exact ⟨_, rfl⟩ | n0+4, h0 => exact absurd h0 (Nat.not_lt.2 (Nat.le_add_left 4 n0)))) (by simp [gL, lk, hx]))⟩ | trace_state
        · repeat' (first | (refine AW.sreg rfl fun K hK => ?_; simp only [go_sem, Nat.reduceAdd, Nat.reduceMul, Int.reduceToNat, Nat.reduceLT, Nat.reduceLeDiff, Nat.le_refl, Nat.reduceEqDiff, ↓reduceIte, beq_self_eq_true, bne_self_eq_false, Int.reduceBEq, Int.reduceBNe, or_self, true_or, or_true, Option.map_some, Option.map_none, hb1, hand, hget, List.length_map]) | (refine AW.sregD hmix rfl fun K hK => ?_; simp only [go_sem, Nat.reduceAdd, Nat.reduceMul, Int.reduceToNat, Nat.reduceLT, Nat.reduceLeDiff, Nat.le_refl, Nat.reduceEqDiff, ↓reduceIte, beq_self_eq_true, bne_self_eq_false, Int.reduceBEq, Int.reduceBNe, or_self, true_or, or_true, Option.map_some, Option.map_none, hb1, hand, hget, List.length_map]) | (refine AW.reg rfl ?_; simp only [go_sem, Nat.reduceAdd, Nat.reduceMul, Int.reduceToNat, Nat.reduceLT, Nat.reduceLeDiff, Nat.le_refl, Nat.reduceEqDiff, ↓reduceIte, beq_self_eq_true, bne_self_eq_false, Int.reduceBEq, Int.reduceBNe, or_self, true_or, or_true, Option.map_some, Option.map_none, hb1, hand, hget, List.length_map]) | (refine AW.seq_k fun K hK => ?_) | (refine AW.block ?_) | (refine AW.skip ?_; simp only [Then, InBlock]) | (refine AW.condT rfl (by first | rfl | (simp; omega) | (simp [*]; done) | fail) ?_) | (refine AW.condF rfl (by first | rfl | (simp; omega) | (simp [*]; done) | fail) ?_) | (refine hK _ ?_; clear hK K) | (with_reducible refine And.intro (?_ : regOk _ _ = true) ?_; kernel_rfl) | (refine runT_call _ _ [1088, 960] (fun hv hag => (hbt).robjs [1088, 960] ⟨((hag 1088 (by simp)).trans (by first | rfl | (simp [go_sem]; done) | (simp [go_sem]; rfl))), ((hag 960 (by simp)).trans (by first | rfl | (simp [go_sem]; done) | (simp [go_sem]; rfl))), trivial⟩ rfl (by decide) (by simp) (by simp) (by simp [go_sem]) (by simp [go_sem]) (by simp [go_sem]) (by simp [go_sem])) rfl rfl (dstOk_of rfl) rfl rfl ?_; simp only [go_sem, Nat.reduceAdd, Nat.reduceMul, Int.reduceToNat, Nat.reduceLT, Nat.reduceLeDiff, Nat.le_refl, Nat.reduceEqDiff, ↓reduceIte, beq_self_eq_true, bne_self_eq_false, Int.reduceBEq, Int.reduceBNe, or_self, true_or, or_true, Option.map_some, Option.map_none, hb1, hand, hget, List.length_map]) | (refine runT_call _ _ [1088, 960] (fun hv hag => (hrec).robjs [1088, 960] ⟨((hag 1088 (by simp)).trans (by first | rfl | (simp [go_sem]; done) | (simp [go_sem]; rfl))), ((hag 960 (by simp)).trans (by first | rfl | (simp [go_sem]; done) | (simp [go_sem]; rfl))), trivial⟩ rfl (by decide) (by simp) (by simp) (by simp [go_sem]) (by simp [go_sem]) (by simp [go_sem]) (by simp [go_sem])) rfl rfl (dstOk_of rfl) rfl rfl ?_; simp only [go_sem, Nat.reduceAdd, Nat.reduceMul, Int.reduceToNat, Nat.reduceLT, Nat.reduceLeDiff, Nat.le_refl, Nat.reduceEqDiff, ↓reduceIte, beq_self_eq_true, bne_self_eq_false, Int.reduceBEq, Int.reduceBNe, or_self, true_or, or_true, Option.map_some, Option.map_none, hb1, hand, hget, List.length_map]) | (with_reducible refine And.intro ?_ ?_; first | omega | assumption | (focus (decide)) | (focus (simp; done)) | (focus (simp; omega)) | (focus (constructor <;> omega)) | fail))
          all_goals first | (exfalso; omega) | exact ⟨(k + 1, e3), ⟨hk', hE2, fun i hi hbi => by
            rcases Nat.lt_or_ge i k with hik | hik
            · exact g3 i hik hbi
            · obtain rfl : i = k := by omega
              exact heq⟩, by simp only; omega, (Weak.objs hcx [(1088, 1088), (960, 960), (1984, 1984)] rfl rfl (Nat.le_of_ble_eq_true rfl) (by simp [go_sem, gL, kL, List.map_append, dv_push]) (by simp [go_sem, gL, kL, List.map_append, dv_push]) (by first | (intro i hi; exact absurd hi (Nat.not_lt_zero _)) | (intro i0 hi0; match i0, hi0 with | 0, _ => exact ⟨_, rfl⟩ | n0+1, h0 => exact absurd h0 (Nat.not_lt.2 (Nat.le_add_left 1 n0))) | (intro i0 hi0; match i0, hi0 with | 0, _ => exact ⟨_, rfl⟩ | 1, _ => exact ⟨_, rfl⟩ | n0+2, h0 => exact absurd h0 (Nat.not_lt.2 (Nat.le_add_left 2 n0))) | (intro i0 hi0; match i0, hi0 with | 0, _ => exact ⟨_, rfl⟩ | 1, _ => exact ⟨_, rfl⟩ | 2, _ => exact ⟨_, rfl⟩ | n0+3, h0 => exact absurd h0 (Nat.not_lt.2 (Nat.le_add_left 3 n0))) | (intro i0 hi0; match i0, hi0 with | 0, _ => exact ⟨_, rfl⟩ | 1, _ => exact ⟨_, rfl⟩ | 2, _ => exact ⟨_, rfl⟩ | 3, _ => exact ⟨_, rfl⟩ | n0+4, h0 => exact absurd h0 (Nat.not_lt.2 (Nat.le_add_left 4 n0)))) (by simp [gL, lk]))⟩ | trace_state
      · rw [if_neg hb] at hb1
        repeat' (first | (refine AW.sreg rfl fun K hK => ?_; simp only [go_sem, Nat.reduceAdd, Nat.reduceMul, Int.reduceToNat, Nat.reduceLT, Nat.reduceLeDiff, Nat.le_refl, Nat.reduceEqDiff, ↓reduceIte, beq_self_eq_true, bne_self_eq_false, Int.reduceBEq, Int.reduceBNe, or_self, true_or, or_true, Option.map_some, Option.map_none, hb1, hget, List.length_map]) | (refine AW.sregD hmix rfl fun K hK => ?_; simp only [go_sem, Nat.reduceAdd, Nat.reduceMul, Int.reduceToNat, Nat.reduceLT, Nat.reduceLeDiff, Nat.le_refl, Nat.reduceEqDiff, ↓reduceIte, beq_self_eq_true, bne_self_eq_false, Int.reduceBEq, Int.reduceBNe, or_self, true_or, or_true, Option.map_some, Option.map_none, hb1, hget, List.length_map]) | (refine AW.reg rfl ?_; simp only [go_sem, Nat.reduceAdd, Nat.reduceMul, Int.reduceToNat, Nat.reduceLT, Nat.reduceLeDiff, Nat.le_refl, Nat.reduceEqDiff, ↓reduceIte, beq_self_eq_true, bne_self_eq_false, Int.reduceBEq, Int.reduceBNe, or_self, true_or, or_true, Option.map_some, Option.map_none, hb1, hget, List.length_map]) | (refine AW.seq_k fun K hK => ?_) | (refine AW.block ?_) | (refine AW.skip ?_; simp only [Then, InBlock]) | (refine AW.condT rfl (by first | rfl | (simp; omega) | (simp [*]; done) | fail) ?_) | (refine AW.condF rfl (by first | rfl | (simp; omega) | (simp [*]; done) | fail) ?_) | (refine hK _ ?_; clear hK K) | (with_reducible refine And.intro (?_ : regOk _ _ = true) ?_; kernel_rfl) | (with_reducible refine And.intro ?_ ?_; first | omega | assumption | (focus (decide)) | (focus (simp; done)) | (focus (simp; omega)) | (focus (constructor <;> omega)) | fail))
        all_goals first | (exfalso; omega) | exact ⟨(k + 1, e2), ⟨hk', g2, fun i hi hbi => by
            rcases Nat.lt_or_ge i k with hik | hik
            · exact g3 i hik hbi
            · obtain rfl : i = k := by omega
              exact absurd hbi hb⟩, by simp only; omega, (Weak.objs hcx [(1088, 1088), (960, 960), (1984, 1984)] rfl rfl (Nat.le_of_ble_eq_true rfl) (by simp [go_sem, gL, kL, List.map_append, dv_push]) (by simp [go_sem, gL, kL, List.map_append, dv_push]) (by first | (intro i hi; exact absurd hi (Nat.not_lt_zero _)) | (intro i0 hi0; match i0, hi0 with | 0, _ => exact ⟨_, rfl⟩ | n0+1, h0 => exact absurd h0 (Nat.not_lt.2 (Nat.le_add_left 1 n0))) | (intro i0 hi0; match i0, hi0 with | 0, _ => exact ⟨_, rfl⟩ | 1, _ => exact ⟨_, rfl⟩ | n0+2, h0 => exact absurd h0 (Nat.not_lt.2 (Nat.le_add_left 2 n0))) | (intro i0 hi0; match i0, hi0 with | 0, _ => exact ⟨_, rfl⟩ | 1, _ => exact ⟨_, rfl⟩ | 2, _ => exact ⟨_, rfl⟩ | n0+3, h0 => exact absurd h0 (Nat.not_lt.2 (Nat.le_add_left 3 n0))) | (intro i0 hi0; match i0, hi0 with | 0, _ => exact ⟨_, rfl⟩ | 1, _ => exact ⟨_, rfl⟩ | 2, _ => exact ⟨_, rfl⟩ | 3, _ => exact ⟨_, rfl⟩ | n0+4, h0 => exact absurd h0 (Nat.not_lt.2 (Nat.le_add_left 4 n0)))) (by simp [gL, lk]))⟩ | trace_state
    · exfalso
      obtain ⟨i, hi, hb, he⟩ := G_at (Li (lvP xs) ids) ids.length last hB.lt hz
      exact g3 i (by omega) hb he.symm
end Go.AX
