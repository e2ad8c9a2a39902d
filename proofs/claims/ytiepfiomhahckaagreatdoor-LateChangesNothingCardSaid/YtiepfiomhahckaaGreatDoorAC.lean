/- What counts; the order of arrivals; sorting them. -/
import Derived.Test.YtiepfiomhahckaaGreatDoorAB
import Derived.Test.YtiepfiomhahckaaGreatDoorKB
import Derived.Test.YtiepfiomhahckaaGreatDoorSh
import Derived.Test.YtiepfiomhahckaaGreatDoorTi
import Derived.Test.YtiepfiomhahckaaGreatDoorAx32
import Derived.Sort.KeysCollected
import Derived.WideShapes
import Derived.WideReads
set_option linter.unusedSimpArgs false
set_option linter.unusedVariables false
set_option linter.unnecessarySimpa false
set_option maxRecDepth 100000
set_option maxHeartbeats 4000000
set_option maxRecDepth 1000000
namespace Go.AX
open Go Go.Proofs Go.RowKit
theorem indexFunc_Rs (xs : List Rs) (hl : xs.length ≤ 1000) (c : Nat) (cap : D) (q : Rs → Bool) (hc : ∀ x ∈ xs, Does Tryz.prog c [.d (rsD x), .d cap] [] (B (q x)) []) :
    Does Tryz.prog 87 [.d (.sl (xs.map rsD)), .fn c [.d cap]] [] (I (idxG q xs 0)) [] := by
  refine Does.of_AW (n := 19) Tryz.func87 rfl rfl rfl fun cx hcx => ?_
  generalize hR : idxG q xs 0 = R
  repeat' (first | (refine AW.sreg rfl fun K hK => ?_; simp only [go_sem, Nat.reduceAdd, Nat.reduceMul, Int.reduceToNat, Nat.reduceLT, Nat.reduceLeDiff, Nat.le_refl, Nat.reduceEqDiff, ↓reduceIte, beq_self_eq_true, bne_self_eq_false, Int.reduceBEq, Int.reduceBNe, or_self, true_or, or_true, Option.map_some, Option.map_none, List.length_map]) | (refine AW.seq_k fun K hK => ?_) | (refine AW.block ?_) | (refine hK _ ?_; clear hK K))
  refine AW.loopF (ι := Nat) [0, 1, 7] (fun p => [(8, I p)]) (fun p => []) 1 (fun p => p ≤ xs.length ∧ idxG q (xs.drop p) p = R) (fun p => xs.length - p) 0 ⟨by simp, hR⟩ (Weak.auto hcx rfl rfl (Nat.le_of_ble_eq_true rfl) (by simp [go_sem, gL, kL, renOf, V.obj, lk, Nat.blt, Nat.ble, List.map_append, dv_push]) (by simp [go_sem, gL, kL, renOf, V.obj, lk, Nat.blt, Nat.ble, List.map_append, dv_push]) (by first | (intro i hi; exact absurd hi (Nat.not_lt_zero _)) | (intro i0 hi0; match i0, hi0 with | 0, _ => exact ⟨_, rfl⟩ | n0+1, h0 => exact absurd h0 (Nat.not_lt.2 (Nat.le_add_left 1 n0))) | (intro i0 hi0; match i0, hi0 with | 0, _ => exact ⟨_, rfl⟩ | 1, _ => exact ⟨_, rfl⟩ | n0+2, h0 => exact absurd h0 (Nat.not_lt.2 (Nat.le_add_left 2 n0))) | (intro i0 hi0; match i0, hi0 with | 0, _ => exact ⟨_, rfl⟩ | 1, _ => exact ⟨_, rfl⟩ | 2, _ => exact ⟨_, rfl⟩ | n0+3, h0 => exact absurd h0 (Nat.not_lt.2 (Nat.le_add_left 3 n0))) | (intro i0 hi0; match i0, hi0 with | 0, _ => exact ⟨_, rfl⟩ | 1, _ => exact ⟨_, rfl⟩ | 2, _ => exact ⟨_, rfl⟩ | 3, _ => exact ⟨_, rfl⟩ | n0+4, h0 => exact absurd h0 (Nat.not_lt.2 (Nat.le_add_left 4 n0)))) (by simp [go_sem, gL, kL, lk, renOf, V.obj, Nat.blt, Nat.ble])) ?_; simp only [St.at_nil, St.at_cons, lk, Nat.reduceEqDiff, ↓reduceIte, Option.getD_some, Option.getD_none, List.cons_append, List.nil_append, List.append_nil]
  rintro i ⟨h1, h2⟩
  by_cases hi : i < xs.length
  · obtain ⟨x, hx, hxm, hxd⟩ := get_some hi
    have hget : (xs.map rsD)[i]? = some (rsD x) := by simp [hx]
    rw [hxd, idxG] at h2
    repeat' (first | (refine AW.sreg rfl fun K hK => ?_; simp only [go_sem, Nat.reduceAdd, Nat.reduceMul, Int.reduceToNat, Nat.reduceLT, Nat.reduceLeDiff, Nat.le_refl, Nat.reduceEqDiff, ↓reduceIte, beq_self_eq_true, bne_self_eq_false, Int.reduceBEq, Int.reduceBNe, or_self, true_or, or_true, Option.map_some, Option.map_none, List.length_map, hget]) | (refine AW.reg rfl ?_; simp only [go_sem, Nat.reduceAdd, Nat.reduceMul, Int.reduceToNat, Nat.reduceLT, Nat.reduceLeDiff, Nat.le_refl, Nat.reduceEqDiff, ↓reduceIte, beq_self_eq_true, bne_self_eq_false, Int.reduceBEq, Int.reduceBNe, or_self, true_or, or_true, Option.map_some, Option.map_none, List.length_map, hget]) | (refine AW.seq_k fun K hK => ?_) | (refine AW.block ?_) | (refine AW.skip ?_; simp only [Then, InBlock]) | (refine AW.condT rfl (by first | rfl | (simp; omega) | (simp [*]; done) | fail) ?_) | (refine AW.cond rfl (fun h => ?_) (fun h => ?_) <;> (try simp only [decide_eq_true_eq, decide_eq_false_iff_not, Bool.not_eq_true', Bool.not_eq_false', Bool.not_eq_eq_eq_not, Bool.not_true, Bool.not_false, beq_iff_eq, bne_iff_ne, beq_eq_false_iff_ne, ne_eq, Bool.and_eq_true, Bool.or_eq_true, Bool.or_eq_false_iff] at h)) | (refine hK _ ?_; clear hK K) | (refine run_call _ _ _ ((hc x hxm).pure rfl rfl _ _) rfl rfl (dstOk_of rfl) rfl rfl rfl ?_; simp only [go_sem, Nat.reduceAdd, Nat.reduceMul, Int.reduceToNat, Nat.reduceLT, Nat.reduceLeDiff, Nat.le_refl, Nat.reduceEqDiff, ↓reduceIte, beq_self_eq_true, bne_self_eq_false, Int.reduceBEq, Int.reduceBNe, or_self, true_or, or_true, Option.map_some, Option.map_none, List.length_map, hget]) | (with_reducible refine And.intro ?_ ?_; first | omega | assumption | (focus (decide)) | (focus (simp; done)) | (focus (simp; omega)) | (focus (constructor <;> omega)) | fail) | (refine AW.ret (Fin.data rfl (by first | (simp only [go_sem]; done) | ((rw [if_pos h] at h2; subst h2; simp [go_sem]); done) | (simp [go_sem]; omega) | rfl) rfl)))
    rw [if_neg (by simp [h])] at h2
    exact ⟨i + 1, ⟨hi, h2⟩, by omega, (Weak.auto hcx rfl rfl (Nat.le_of_ble_eq_true rfl) (by simp [go_sem, gL, kL, renOf, V.obj, lk, Nat.blt, Nat.ble, List.map_append, dv_push]) (by simp [go_sem, gL, kL, renOf, V.obj, lk, Nat.blt, Nat.ble, List.map_append, dv_push]) (by first | (intro i hi; exact absurd hi (Nat.not_lt_zero _)) | (intro i0 hi0; match i0, hi0 with | 0, _ => exact ⟨_, rfl⟩ | n0+1, h0 => exact absurd h0 (Nat.not_lt.2 (Nat.le_add_left 1 n0))) | (intro i0 hi0; match i0, hi0 with | 0, _ => exact ⟨_, rfl⟩ | 1, _ => exact ⟨_, rfl⟩ | n0+2, h0 => exact absurd h0 (Nat.not_lt.2 (Nat.le_add_left 2 n0))) | (intro i0 hi0; match i0, hi0 with | 0, _ => exact ⟨_, rfl⟩ | 1, _ => exact ⟨_, rfl⟩ | 2, _ => exact ⟨_, rfl⟩ | n0+3, h0 => exact absurd h0 (Nat.not_lt.2 (Nat.le_add_left 3 n0))) | (intro i0 hi0; match i0, hi0 with | 0, _ => exact ⟨_, rfl⟩ | 1, _ => exact ⟨_, rfl⟩ | 2, _ => exact ⟨_, rfl⟩ | 3, _ => exact ⟨_, rfl⟩ | n0+4, h0 => exact absurd h0 (Nat.not_lt.2 (Nat.le_add_left 4 n0)))) (by simp [go_sem, gL, kL, lk, renOf, V.obj, Nat.blt, Nat.ble]))⟩
  · obtain rfl : i = xs.length := by omega
    simp only [List.drop_length, idxG] at h2
    subst h2
    repeat' (first | (refine AW.sreg rfl fun K hK => ?_; simp only [go_sem, Nat.reduceAdd, Nat.reduceMul, Int.reduceToNat, Nat.reduceLT, Nat.reduceLeDiff, Nat.le_refl, Nat.reduceEqDiff, ↓reduceIte, beq_self_eq_true, bne_self_eq_false, Int.reduceBEq, Int.reduceBNe, or_self, true_or, or_true, Option.map_some, Option.map_none, List.length_map]) | (refine AW.seq_k fun K hK => ?_) | (refine AW.exit ?_; simp only [go_sem, ↓reduceIte]) | (refine AW.condF rfl (by first | rfl | (simp; omega) | (simp [*]; done) | fail) ?_) | (refine hK _ ?_; clear hK K) | (clear hK K; refine hK _ ?_; clear hK K) | (refine AW.ret (Fin.data rfl (by first | (simp only [go_sem]; done) | (simp [go_sem, *]; done) | (simp [go_sem]; omega) | rfl) rfl)))
def ixR (rs : List Rs) (k : Str) : Int := idxG (fun r => r.1 == k) rs 0
def moreF (rs : List Rs) (k : Str) : Option Int := if k = [] then some 0 else if ixR rs k < 0 then none else some (rs.getD (ixR rs k).toNat ([], 0)).2
theorem more1_any (k : Str) (r : Rs) : Does Tryz.prog 88 [.d (rsD r), .d (.ptr [.str k] 0)] [] (B (r.1 == k)) [] := by
  refine Does.of_AW (n := 8) Tryz.func88 rfl rfl rfl fun cx hcx => ?_
  repeat' (first | (refine AW.sreg rfl fun K hK => ?_; simp only [go_sem, Nat.reduceAdd, Nat.reduceMul, Int.reduceToNat, Nat.reduceLT, Nat.reduceLeDiff, Nat.le_refl, Nat.reduceEqDiff, ↓reduceIte, beq_self_eq_true, bne_self_eq_false, Int.reduceBEq, Int.reduceBNe, or_self, true_or, or_true, Option.map_some, Option.map_none]) | (refine hK _ ?_; clear hK K) | (refine AW.ret (Fin.data rfl (by first | (simp only [go_sem]; done) | (simp [go_sem, *]; done) | (simp [go_sem]; omega) | rfl) rfl)))
theorem more_any (c : Cl) (h : GoodC c) (k : Str) : Does Tryz.prog 61 [.d (clD c), S k] [] (.tup [I ((moreF c.2 k).getD 0), B (moreF c.2 k).isSome]) [] := by
  have hlen := h.fin.len
  have hmr := h.more
  obtain ⟨⟨o, ab, fu⟩, rs⟩ := c
  simp only at hlen hmr ⊢
  have hix := indexFunc_Rs rs (by omega) 88 (.ptr [.str k] 0) (fun r => r.1 == k) (fun r _ => more1_any k r)
  have hfold : idxG (fun r : Rs => r.1 == k) rs 0 = ixR rs k := rfl
  rw [hfold] at hix
  by_cases hk : k = []
  · subst hk
    have e : moreF rs [] = some 0 := rfl
    rw [e]
    refine Does.of_AW (n := 21) Tryz.func61 rfl rfl rfl fun cx hcx => ?_
    repeat' (first | (refine AW.sreg rfl fun K hK => ?_; simp only [go_sem, Nat.reduceAdd, Nat.reduceMul, Int.reduceToNat, Nat.reduceLT, Nat.reduceLeDiff, Nat.le_refl, Nat.reduceEqDiff, ↓reduceIte, beq_self_eq_true, bne_self_eq_false, Int.reduceBEq, Int.reduceBNe, or_self, true_or, or_true, Option.map_some, Option.map_none]) | (refine AW.seq_k fun K hK => ?_) | (refine AW.condT rfl (by first | rfl | (simp; omega) | (simp [*]; done) | fail) ?_) | (refine hK _ ?_; clear hK K) | (refine AW.ret (Fin.data rfl (by first | (simp only [go_sem]; done) | (simp [go_sem, *]; done) | (simp [go_sem]; omega) | rfl) rfl)))
  · by_cases hn : ixR rs k < 0
    · have e : moreF rs k = none := by unfold moreF; rw [if_neg hk, if_pos hn]
      rw [e]
      have hke : (k == []) = false := by simpa using hk
      refine Does.of_AW (n := 21) Tryz.func61 rfl rfl rfl fun cx hcx => ?_
      repeat' (first | (refine AW.sreg rfl fun K hK => ?_; simp only [go_sem, Nat.reduceAdd, Nat.reduceMul, Int.reduceToNat, Nat.reduceLT, Nat.reduceLeDiff, Nat.le_refl, Nat.reduceEqDiff, ↓reduceIte, beq_self_eq_true, bne_self_eq_false, Int.reduceBEq, Int.reduceBNe, or_self, true_or, or_true, Option.map_some, Option.map_none, hk, hke, hn]) | (refine AW.seq_k fun K hK => ?_) | (refine AW.skip ?_; simp only [Then, InBlock]) | (refine AW.condT rfl (by first | rfl | (simp; omega) | (simp [*]; done) | fail) ?_) | (refine AW.condF rfl (by first | rfl | (simp; omega) | (simp [*]; done) | fail) ?_) | (refine hK _ ?_; clear hK K) | (refine run_call _ _ _ ((hix).borrow rfl rfl rfl) rfl rfl (dstOk_of rfl) rfl rfl rfl ?_; simp only [go_sem, Nat.reduceAdd, Nat.reduceMul, Int.reduceToNat, Nat.reduceLT, Nat.reduceLeDiff, Nat.le_refl, Nat.reduceEqDiff, ↓reduceIte, beq_self_eq_true, bne_self_eq_false, Int.reduceBEq, Int.reduceBNe, or_self, true_or, or_true, Option.map_some, Option.map_none, hk, hke, hn]) | (refine AW.ret (Fin.data rfl (by first | (simp only [go_sem]; done) | (simp [go_sem, *]; done) | (simp [go_sem]; omega) | rfl) rfl)))
    · have hany : rs.any (fun r => r.1 == k) = true := by
        cases ha : rs.any (fun r => r.1 == k) with
        | true => rfl
        | false =>
          have := idxG_none 0 ha
          unfold ixR at hn
          rw [this] at hn
          exact absurd (by decide) hn
      obtain ⟨j, r, h1, h2, -, -⟩ := idxG_at 0 hany
      have hj : ixR rs k = (j : Int) := by unfold ixR; rw [h1]; simp
      have e : moreF rs k = some r.2 := by
        unfold moreF
        rw [if_neg hk, if_neg hn, hj]
        simp [h2]
      rw [e]
      rw [hj] at hix
      have hke : (k == []) = false := by simpa using hk
      have hget : (rs.map rsD)[j]? = some (rsD r) := by simp [h2]
      have hjl : j < rs.length := (List.getElem?_eq_some_iff.1 h2).1
      refine Does.of_AW (n := 21) Tryz.func61 rfl rfl rfl fun cx hcx => ?_
      repeat' (first | (refine AW.sreg rfl fun K hK => ?_; simp only [go_sem, Nat.reduceAdd, Nat.reduceMul, Int.reduceToNat, Nat.reduceLT, Nat.reduceLeDiff, Nat.le_refl, Nat.reduceEqDiff, ↓reduceIte, beq_self_eq_true, bne_self_eq_false, Int.reduceBEq, Int.reduceBNe, or_self, true_or, or_true, Option.map_some, Option.map_none, hk, hke, hget, Int.toNat_natCast]) | (refine AW.seq_k fun K hK => ?_) | (refine AW.skip ?_; simp only [Then, InBlock]) | (refine AW.condF rfl (by first | rfl | (simp; omega) | (simp [*]; done) | fail) ?_) | (refine hK _ ?_; clear hK K) | (refine run_call _ _ _ ((hix).borrow rfl rfl rfl) rfl rfl (dstOk_of rfl) rfl rfl rfl ?_; simp only [go_sem, Nat.reduceAdd, Nat.reduceMul, Int.reduceToNat, Nat.reduceLT, Nat.reduceLeDiff, Nat.le_refl, Nat.reduceEqDiff, ↓reduceIte, beq_self_eq_true, bne_self_eq_false, Int.reduceBEq, Int.reduceBNe, or_self, true_or, or_true, Option.map_some, Option.map_none, hk, hke, hget, Int.toNat_natCast]) | (with_reducible refine And.intro ?_ ?_; first | omega | assumption | (focus (decide)) | (focus (simp; done)) | (focus (simp; omega)) | (focus (constructor <;> omega)) | fail) | (refine AW.ret (Fin.data rfl (by first | (simp only [go_sem]; done) | (simp [go_sem, *]; done) | (simp [go_sem]; omega) | rfl) rfl)))
def befF (c : Cl) (k : Int) : Int := if k = 1 then c.1.2.1 else if k = 2 then c.1.2.2 else 5761440
theorem before_any (c : Cl) (k : Int) : Does Tryz.prog 62 [.d (clD c), I k] [] (I (befF c k)) [] := by
  obtain ⟨⟨o, ab, fu⟩, rs⟩ := c
  unfold befF
  refine Does.of_AW (n := 14) Tryz.func62 rfl rfl rfl fun cx hcx => ?_
  by_cases h1 : k = 1
  · subst h1
    repeat' (first | (refine AW.sreg rfl fun K hK => ?_; simp only [go_sem, Nat.reduceAdd, Nat.reduceMul, Int.reduceToNat, Nat.reduceLT, Nat.reduceLeDiff, Nat.le_refl, Nat.reduceEqDiff, ↓reduceIte, beq_self_eq_true, bne_self_eq_false, Int.reduceBEq, Int.reduceBNe, or_self, true_or, or_true, Option.map_some, Option.map_none]) | (refine AW.seq_k fun K hK => ?_) | (refine AW.block ?_) | (refine AW.condT rfl (by first | rfl | (simp; omega) | (simp [*]; done) | fail) ?_) | (refine hK _ ?_; clear hK K) | (refine AW.ret (Fin.data rfl (by first | (simp only [go_sem]; done) | (simp [go_sem, *]; done) | (simp [go_sem]; omega) | rfl) rfl)))
  · by_cases h2 : k = 2
    · subst h2
      repeat' (first | (refine AW.sreg rfl fun K hK => ?_; simp only [go_sem, Nat.reduceAdd, Nat.reduceMul, Int.reduceToNat, Nat.reduceLT, Nat.reduceLeDiff, Nat.le_refl, Nat.reduceEqDiff, ↓reduceIte, beq_self_eq_true, bne_self_eq_false, Int.reduceBEq, Int.reduceBNe, or_self, true_or, or_true, Option.map_some, Option.map_none]) | (refine AW.seq_k fun K hK => ?_) | (refine AW.block ?_) | (refine AW.condT rfl (by first | rfl | (simp; omega) | (simp [*]; done) | fail) ?_) | (refine AW.condF rfl (by first | rfl | (simp; omega) | (simp [*]; done) | fail) ?_) | (refine hK _ ?_; clear hK K) | (refine AW.ret (Fin.data rfl (by first | (simp only [go_sem]; done) | (simp [go_sem, *]; done) | (simp [go_sem]; omega) | rfl) rfl)))
    · rw [if_neg h1, if_neg h2]
      repeat' (first | (refine AW.sreg rfl fun K hK => ?_; simp only [go_sem, Nat.reduceAdd, Nat.reduceMul, Int.reduceToNat, Nat.reduceLT, Nat.reduceLeDiff, Nat.le_refl, Nat.reduceEqDiff, ↓reduceIte, beq_self_eq_true, bne_self_eq_false, Int.reduceBEq, Int.reduceBNe, or_self, true_or, or_true, Option.map_some, Option.map_none, h1, h2]) | (refine AW.seq_k fun K hK => ?_) | (refine AW.block ?_) | (refine AW.skip ?_; simp only [Then, InBlock]) | (refine AW.condF rfl (by first | rfl | (simp; omega) | (simp [*]; done) | fail) ?_) | (refine hK _ ?_; clear hK K) | (refine AW.ret (Fin.data rfl (by first | (simp only [go_sem]; done) | (simp [go_sem, *]; done) | (simp [go_sem]; omega) | rfl) rfl)))
def cntF (c : Cl) (a : Ar) : Int := match moreF c.2 a.2.2.2.1 with
  | none => 4
  | some n => if a.2.1 < c.1.1 then 2 else if min (befF c a.2.2.1 + n) 5761440 ≤ a.2.1 then 3 else 1
theorem moreF_bd {c : Cl} (h : GoodC c) {k : Str} {n : Int} (e : moreF c.2 k = some n) : 0 ≤ n ∧ n ≤ 5761440 := by
  unfold moreF at e
  split at e
  · cases e; omega
  · split at e
    · cases e
    · rename_i hn
      cases e
      have hany : c.2.any (fun r => r.1 == k) = true := by
        cases ha : c.2.any (fun r => r.1 == k) with
        | true => rfl
        | false =>
          have := idxG_none 0 ha
          unfold ixR at hn
          rw [this] at hn
          exact absurd (by decide) hn
      obtain ⟨j, r, h1, h2, -, -⟩ := idxG_at 0 hany
      have hj : ixR c.2 k = (j : Int) := by unfold ixR; rw [h1]; simp
      rw [hj, Int.toNat_natCast]
      have := h.more r (List.mem_of_getElem? h2)
      simp only [List.getD_eq_getElem?_getD, h2, Option.getD_some]
      omega
theorem counts_any (c : Cl) (h : GoodC c) (a : Ar) : Does Tryz.prog 34 [.d (clD c), .d (arD a)] [] (I (cntF c a)) [] := by
  have hm := more_any c h a.2.2.2.1
  have hb := before_any c a.2.2.1
  have hbd : 0 ≤ befF c a.2.2.1 ∧ befF c a.2.2.1 ≤ 5761440 := by
    have := h.o0; have := h.ab; have := h.fu; have := h.f1
    unfold befF
    split
    · omega
    · split <;> omega
  unfold cntF
  cases e : moreF c.2 a.2.2.2.1 with
  | none =>
    rw [e] at hm
    refine Does.of_AW (n := 34) Tryz.func34 rfl rfl rfl fun cx hcx => ?_
    repeat' (first | (refine AW.sreg rfl fun K hK => ?_; simp only [go_sem, Nat.reduceAdd, Nat.reduceMul, Int.reduceToNat, Nat.reduceLT, Nat.reduceLeDiff, Nat.le_refl, Nat.reduceEqDiff, ↓reduceIte, beq_self_eq_true, bne_self_eq_false, Int.reduceBEq, Int.reduceBNe, or_self, true_or, or_true, Option.map_some, Option.map_none]) | (refine AW.seq_k fun K hK => ?_) | (refine AW.block ?_) | (refine AW.condT rfl (by first | rfl | (simp; omega) | (simp [*]; done) | fail) ?_) | (refine hK _ ?_; clear hK K) | (refine run_call _ _ _ ((hm).pure rfl rfl _ _) rfl rfl (dstOk_of rfl) rfl rfl rfl ?_; simp only [go_sem, Nat.reduceAdd, Nat.reduceMul, Int.reduceToNat, Nat.reduceLT, Nat.reduceLeDiff, Nat.le_refl, Nat.reduceEqDiff, ↓reduceIte, beq_self_eq_true, bne_self_eq_false, Int.reduceBEq, Int.reduceBNe, or_self, true_or, or_true, Option.map_some, Option.map_none]) | (refine AW.ret (Fin.data rfl (by first | (simp only [go_sem]; done) | (simp [go_sem, *]; done) | (simp [go_sem]; omega) | rfl) rfl)))
  | some n =>
    have hn := moreF_bd h e
    rw [e] at hm
    simp only [Option.getD_some, Option.isSome_some] at hm ⊢
    obtain ⟨⟨o, ab, fu⟩, rs⟩ := c
    obtain ⟨xp, xt, xk, xr, xx⟩ := a
    simp only at hm hb hbd ⊢
    generalize befF ((o, ab, fu), rs) xk = bf at *
    refine Does.of_AW (n := 34) Tryz.func34 rfl rfl rfl fun cx hcx => ?_
    by_cases h1 : xt < o
    · rw [if_pos h1]
      repeat' (first | (refine AW.sreg rfl fun K hK => ?_; simp only [go_sem, Nat.reduceAdd, Nat.reduceMul, Int.reduceToNat, Nat.reduceLT, Nat.reduceLeDiff, Nat.le_refl, Nat.reduceEqDiff, ↓reduceIte, beq_self_eq_true, bne_self_eq_false, Int.reduceBEq, Int.reduceBNe, or_self, true_or, or_true, Option.map_some, Option.map_none, h1]) | (refine AW.seq_k fun K hK => ?_) | (refine AW.block ?_) | (refine AW.condT rfl (by first | rfl | (simp; omega) | (simp [*]; done) | fail) ?_) | (refine AW.condF rfl (by first | rfl | (simp; omega) | (simp [*]; done) | fail) ?_) | (refine hK _ ?_; clear hK K) | (refine run_call _ _ _ ((hm).pure rfl rfl _ _) rfl rfl (dstOk_of rfl) rfl rfl rfl ?_; simp only [go_sem, Nat.reduceAdd, Nat.reduceMul, Int.reduceToNat, Nat.reduceLT, Nat.reduceLeDiff, Nat.le_refl, Nat.reduceEqDiff, ↓reduceIte, beq_self_eq_true, bne_self_eq_false, Int.reduceBEq, Int.reduceBNe, or_self, true_or, or_true, Option.map_some, Option.map_none, h1]) | (refine AW.ret (Fin.data rfl (by first | (simp only [go_sem]; done) | (simp [go_sem, *]; done) | (simp [go_sem]; omega) | rfl) rfl)))
    · rw [if_neg h1]
      by_cases h2 : min (bf + n) 5761440 ≤ xt
      · rw [if_pos h2]
        repeat' (first | (refine AW.sreg rfl fun K hK => ?_; simp only [go_sem, Nat.reduceAdd, Nat.reduceMul, Int.reduceToNat, Nat.reduceLT, Nat.reduceLeDiff, Nat.le_refl, Nat.reduceEqDiff, ↓reduceIte, beq_self_eq_true, bne_self_eq_false, Int.reduceBEq, Int.reduceBNe, or_self, true_or, or_true, Option.map_some, Option.map_none, h1, h2]) | (refine AW.sregD hmix rfl fun K hK => ?_; simp only [go_sem, Nat.reduceAdd, Nat.reduceMul, Int.reduceToNat, Nat.reduceLT, Nat.reduceLeDiff, Nat.le_refl, Nat.reduceEqDiff, ↓reduceIte, beq_self_eq_true, bne_self_eq_false, Int.reduceBEq, Int.reduceBNe, or_self, true_or, or_true, Option.map_some, Option.map_none, h1, h2]) | (refine AW.seq_k fun K hK => ?_) | (refine AW.block ?_) | (refine AW.condT rfl (by first | rfl | (simp; omega) | (simp [*]; done) | fail) ?_) | (refine AW.condF rfl (by first | rfl | (simp; omega) | (simp [*]; done) | fail) ?_) | (refine hK _ ?_; clear hK K) | (with_reducible refine And.intro (?_ : regOk _ _ = true) ?_; kernel_rfl) | (refine run_call _ _ _ ((hm).pure rfl rfl _ _) rfl rfl (dstOk_of rfl) rfl rfl rfl ?_; simp only [go_sem, Nat.reduceAdd, Nat.reduceMul, Int.reduceToNat, Nat.reduceLT, Nat.reduceLeDiff, Nat.le_refl, Nat.reduceEqDiff, ↓reduceIte, beq_self_eq_true, bne_self_eq_false, Int.reduceBEq, Int.reduceBNe, or_self, true_or, or_true, Option.map_some, Option.map_none, h1, h2]) | (refine runT_call _ _ [] (fun hv _ => (hb).pure rfl rfl hv _) rfl rfl (dstOk_of rfl) rfl rfl ?_; simp only [go_sem, Nat.reduceAdd, Nat.reduceMul, Int.reduceToNat, Nat.reduceLT, Nat.reduceLeDiff, Nat.le_refl, Nat.reduceEqDiff, ↓reduceIte, beq_self_eq_true, bne_self_eq_false, Int.reduceBEq, Int.reduceBNe, or_self, true_or, or_true, Option.map_some, Option.map_none, h1, h2]) | (with_reducible refine And.intro ?_ ?_; first | omega | assumption | (focus (decide)) | (focus (simp; done)) | (focus (simp; omega)) | (focus (constructor <;> omega)) | fail) | (refine AW.ret (Fin.data rfl (by first | (simp only [go_sem]; done) | (simp [go_sem, *]; done) | (simp [go_sem]; omega) | rfl) rfl)))
      · rw [if_neg h2]
        repeat' (first | (refine AW.sreg rfl fun K hK => ?_; simp only [go_sem, Nat.reduceAdd, Nat.reduceMul, Int.reduceToNat, Nat.reduceLT, Nat.reduceLeDiff, Nat.le_refl, Nat.reduceEqDiff, ↓reduceIte, beq_self_eq_true, bne_self_eq_false, Int.reduceBEq, Int.reduceBNe, or_self, true_or, or_true, Option.map_some, Option.map_none, h1, h2]) | (refine AW.sregD hmix rfl fun K hK => ?_; simp only [go_sem, Nat.reduceAdd, Nat.reduceMul, Int.reduceToNat, Nat.reduceLT, Nat.reduceLeDiff, Nat.le_refl, Nat.reduceEqDiff, ↓reduceIte, beq_self_eq_true, bne_self_eq_false, Int.reduceBEq, Int.reduceBNe, or_self, true_or, or_true, Option.map_some, Option.map_none, h1, h2]) | (refine AW.seq_k fun K hK => ?_) | (refine AW.block ?_) | (refine AW.skip ?_; simp only [Then, InBlock]) | (refine AW.condF rfl (by first | rfl | (simp; omega) | (simp [*]; done) | fail) ?_) | (refine hK _ ?_; clear hK K) | (with_reducible refine And.intro (?_ : regOk _ _ = true) ?_; kernel_rfl) | (refine run_call _ _ _ ((hm).pure rfl rfl _ _) rfl rfl (dstOk_of rfl) rfl rfl rfl ?_; simp only [go_sem, Nat.reduceAdd, Nat.reduceMul, Int.reduceToNat, Nat.reduceLT, Nat.reduceLeDiff, Nat.le_refl, Nat.reduceEqDiff, ↓reduceIte, beq_self_eq_true, bne_self_eq_false, Int.reduceBEq, Int.reduceBNe, or_self, true_or, or_true, Option.map_some, Option.map_none, h1, h2]) | (refine runT_call _ _ [] (fun hv _ => (hb).pure rfl rfl hv _) rfl rfl (dstOk_of rfl) rfl rfl ?_; simp only [go_sem, Nat.reduceAdd, Nat.reduceMul, Int.reduceToNat, Nat.reduceLT, Nat.reduceLeDiff, Nat.le_refl, Nat.reduceEqDiff, ↓reduceIte, beq_self_eq_true, bne_self_eq_false, Int.reduceBEq, Int.reduceBNe, or_self, true_or, or_true, Option.map_some, Option.map_none, h1, h2]) | (with_reducible refine And.intro ?_ ?_; first | omega | assumption | (focus (decide)) | (focus (simp; done)) | (focus (simp; omega)) | (focus (constructor <;> omega)) | fail) | (refine AW.ret (Fin.data rfl (by first | (simp only [go_sem]; done) | (simp [go_sem, *]; done) | (simp [go_sem]; omega) | rfl) rfl)))
theorem cmpA_any (a b : Ar) : Does Tryz.prog 45 [.d (arD a), .d (arD b)] [] (I (cpA a b)) [] := by
  have hor := cmpOr_any [Lib.compareBytes a.1 b.1, cmpI a.2.1 b.2.1, cmpI a.2.2.1 b.2.2.1, Lib.compareBytes a.2.2.2.1 b.2.2.2.1, Lib.compareBytes a.2.2.2.2 b.2.2.2.2] (by simp)
  have e : orI [Lib.compareBytes a.1 b.1, cmpI a.2.1 b.2.1, cmpI a.2.2.1 b.2.2.1, Lib.compareBytes a.2.2.2.1 b.2.2.2.1, Lib.compareBytes a.2.2.2.2 b.2.2.2.2] = cpA a b := by
    have hz : ∀ x y, cmpI x y = cmpZ x y := fun _ _ => rfl
    simp only [orI, cpA, lexC, hz]
    repeat' split
    all_goals first | rfl | simp_all
  rw [e] at hor
  obtain ⟨ap, at', ak, ar', ax⟩ := a
  obtain ⟨bp, bt, bk, br, bx⟩ := b
  generalize cpA _ _ = v at *
  refine Does.of_AW (n := 32) Tryz.func45 rfl rfl rfl fun cx hcx => ?_
  repeat' (first | (refine AW.sreg rfl fun K hK => ?_; simp only [go_sem, Nat.reduceAdd, Nat.reduceMul, Int.reduceToNat, Nat.reduceLT, Nat.reduceLeDiff, Nat.le_refl, Nat.reduceEqDiff, ↓reduceIte, beq_self_eq_true, bne_self_eq_false, Int.reduceBEq, Int.reduceBNe, or_self, true_or, or_true, Option.map_some, Option.map_none]) | (refine AW.sregD hmix rfl fun K hK => ?_; simp only [go_sem, Nat.reduceAdd, Nat.reduceMul, Int.reduceToNat, Nat.reduceLT, Nat.reduceLeDiff, Nat.le_refl, Nat.reduceEqDiff, ↓reduceIte, beq_self_eq_true, bne_self_eq_false, Int.reduceBEq, Int.reduceBNe, or_self, true_or, or_true, Option.map_some, Option.map_none]) | (refine hK _ ?_; clear hK K) | (with_reducible refine And.intro (?_ : regOk _ _ = true) ?_; kernel_rfl) | (refine runT_call _ _ [] (fun hv _ => (compareStr_any _ _).pure rfl rfl hv _) rfl rfl (dstOk_of rfl) rfl rfl ?_; simp only [go_sem, Nat.reduceAdd, Nat.reduceMul, Int.reduceToNat, Nat.reduceLT, Nat.reduceLeDiff, Nat.le_refl, Nat.reduceEqDiff, ↓reduceIte, beq_self_eq_true, bne_self_eq_false, Int.reduceBEq, Int.reduceBNe, or_self, true_or, or_true, Option.map_some, Option.map_none]) | (refine runT_call _ _ [] (fun hv _ => (compare_int _ _).pure rfl rfl hv _) rfl rfl (dstOk_of rfl) rfl rfl ?_; simp only [go_sem, Nat.reduceAdd, Nat.reduceMul, Int.reduceToNat, Nat.reduceLT, Nat.reduceLeDiff, Nat.le_refl, Nat.reduceEqDiff, ↓reduceIte, beq_self_eq_true, bne_self_eq_false, Int.reduceBEq, Int.reduceBNe, or_self, true_or, or_true, Option.map_some, Option.map_none]) | (refine runT_call _ _ [1792] (fun hv hag => (hor).lend (by repeat' (first | exact frzL_nil | refine frzL_cons (by first | exact frz_d | exact frz_slr rfl ((hag 1792 (by simp)).trans rfl) (by first | (simp; done) | (simp; omega) | (simp [*]; done) | fail) | rfl) ?_)) rfl rfl rfl) rfl rfl (dstOk_of rfl) rfl rfl ?_; simp only [go_sem, Nat.reduceAdd, Nat.reduceMul, Int.reduceToNat, Nat.reduceLT, Nat.reduceLeDiff, Nat.le_refl, Nat.reduceEqDiff, ↓reduceIte, beq_self_eq_true, bne_self_eq_false, Int.reduceBEq, Int.reduceBNe, or_self, true_or, or_true, Option.map_some, Option.map_none]) | (refine AW.ret (Fin.data rfl (by first | (simp only [go_sem]; done) | (simp [go_sem, *]; done) | (simp [go_sem]; omega) | rfl) rfl)))
theorem insertionSort_Ar (lt : Ar → Ar → Bool) (cv : Ar → Ar → Int) (hlt : ∀ x y, lt x y = decide (cv x y < 0)) (c : Nat) (hc : ∀ x y, Does Tryz.prog c [.d (arD x), .d (arD y)] [] (I (cv x y)) []) (xs : List Ar) (hl : xs.length ≤ 1000) :
    Does Tryz.prog 94 [.slr 0 0 xs.length, I 0, I xs.length, .fn c []] [.vec 37 5 (dv (xs.map arD))] (.tup []) [.vec 37 5 (dv ((isort lt xs).map arD))] := by
  refine Does.of_AW (n := 53) Tryz.func94 rfl rfl rfl fun cx hcx => ?_
  generalize hR : isort lt xs = R
  repeat' (first | (refine AW.sreg rfl fun K hK => ?_; simp only [go_sem, Nat.reduceAdd, Nat.reduceMul, Int.reduceToNat, Nat.reduceLT, Nat.reduceLeDiff, Nat.le_refl, Nat.reduceEqDiff, ↓reduceIte, beq_self_eq_true, bne_self_eq_false, Int.reduceBEq, Int.reduceBNe, or_self, true_or, or_true, Option.map_some, Option.map_none, List.length_map]) | (refine AW.block ?_) | (refine hK _ ?_; clear hK K) | (with_reducible refine And.intro ?_ ?_; first | omega | assumption | (focus (decide)) | (focus (simp; done)) | (focus (simp; omega)) | (focus (constructor <;> omega)) | fail))
  refine AW.loopF (ι := Nat × List Ar × List Ar) [0, 1, 2, 3] (fun p => [(8, I p.1)]) (fun p => [(0, some (O.vec 37 5 (dv ((p.2.1 ++ p.2.2).map arD))))]) 1 (fun p => 1 ≤ p.1 ∧ p.2.1.length + p.2.2.length = xs.length ∧ (p.2.1.length = p.1 ∨ xs.length = 0) ∧ isGo lt p.2.1 p.2.2 = R) (fun p => xs.length - p.1) (1, xs.take 1, xs.drop 1) ⟨by simp, by simp only [List.length_take, List.length_drop]; omega, by simp only [List.length_take]; omega, hR⟩ (Weak.auto hcx rfl rfl (Nat.le_of_ble_eq_true rfl) (by simp [go_sem, gL, kL, renOf, V.obj, lk, Nat.blt, Nat.ble, List.map_append, dv_push, take1_tail]) (by simp [go_sem, gL, kL, renOf, V.obj, lk, Nat.blt, Nat.ble, List.map_append, dv_push, take1_tail]) (by first | (intro i hi; exact absurd hi (Nat.not_lt_zero _)) | (intro i0 hi0; match i0, hi0 with | 0, _ => exact ⟨_, rfl⟩ | n0+1, h0 => exact absurd h0 (Nat.not_lt.2 (Nat.le_add_left 1 n0))) | (intro i0 hi0; match i0, hi0 with | 0, _ => exact ⟨_, rfl⟩ | 1, _ => exact ⟨_, rfl⟩ | n0+2, h0 => exact absurd h0 (Nat.not_lt.2 (Nat.le_add_left 2 n0))) | (intro i0 hi0; match i0, hi0 with | 0, _ => exact ⟨_, rfl⟩ | 1, _ => exact ⟨_, rfl⟩ | 2, _ => exact ⟨_, rfl⟩ | n0+3, h0 => exact absurd h0 (Nat.not_lt.2 (Nat.le_add_left 3 n0))) | (intro i0 hi0; match i0, hi0 with | 0, _ => exact ⟨_, rfl⟩ | 1, _ => exact ⟨_, rfl⟩ | 2, _ => exact ⟨_, rfl⟩ | 3, _ => exact ⟨_, rfl⟩ | n0+4, h0 => exact absurd h0 (Nat.not_lt.2 (Nat.le_add_left 4 n0)))) (by simp [go_sem, gL, kL, lk, renOf, V.obj, Nat.blt, Nat.ble, take1_tail])) ?_; simp only [St.at_nil, St.at_cons, lk, Nat.reduceEqDiff, ↓reduceIte, Option.getD_some, Option.getD_none, List.cons_append, List.nil_append, List.append_nil]
  rintro ⟨i, d, r⟩ ⟨h1, h2, h3, h4⟩
  simp only at h1 h2 h3 h4 ⊢
  by_cases hi : i < xs.length
  · obtain ⟨x, r, rfl⟩ : ∃ x r', r = x :: r' := by
      cases r with
      | nil => simp at h2; omega
      | cons x r' => exact ⟨x, r', rfl⟩
    obtain rfl : i = d.length := by omega
    simp only [isGo] at h4
    repeat' (first | (refine AW.sreg rfl fun K hK => ?_; simp only [go_sem, Nat.reduceAdd, Nat.reduceMul, Int.reduceToNat, Nat.reduceLT, Nat.reduceLeDiff, Nat.le_refl, Nat.reduceEqDiff, ↓reduceIte, beq_self_eq_true, bne_self_eq_false, Int.reduceBEq, Int.reduceBNe, or_self, true_or, or_true, Option.map_some, Option.map_none, List.length_map]) | (refine AW.seq_k fun K hK => ?_) | (refine AW.block ?_) | (refine AW.skip ?_; simp only [Then, InBlock]) | (refine AW.condT rfl (by first | rfl | (simp; omega) | (simp [*]; done) | fail) ?_) | (refine hK _ ?_; clear hK K))
    generalize hR2 : insP lt d.reverse x [] = R2 at h4
    refine AW.loopF (ι := List Ar × List Ar) [0, 1, 2, 3, 8] (fun p => [(9, I p.1.length)]) (fun p => [(0, some (O.vec 37 5 (dv ((p.1.reverse ++ x :: (p.2 ++ r)).map arD))))]) 1 (fun p => p.1.length + p.2.length = d.length ∧ insP lt p.1 x p.2 = R2) (fun p => p.1.length) (d.reverse, []) ⟨by simp, hR2⟩ (Weak.auto hcx rfl rfl (Nat.le_of_ble_eq_true rfl) (by simp [go_sem, gL, kL, renOf, V.obj, lk, Nat.blt, Nat.ble, List.map_append, dv_push]) (by simp [go_sem, gL, kL, renOf, V.obj, lk, Nat.blt, Nat.ble, List.map_append, dv_push]) (by first | (intro i hi; exact absurd hi (Nat.not_lt_zero _)) | (intro i0 hi0; match i0, hi0 with | 0, _ => exact ⟨_, rfl⟩ | n0+1, h0 => exact absurd h0 (Nat.not_lt.2 (Nat.le_add_left 1 n0))) | (intro i0 hi0; match i0, hi0 with | 0, _ => exact ⟨_, rfl⟩ | 1, _ => exact ⟨_, rfl⟩ | n0+2, h0 => exact absurd h0 (Nat.not_lt.2 (Nat.le_add_left 2 n0))) | (intro i0 hi0; match i0, hi0 with | 0, _ => exact ⟨_, rfl⟩ | 1, _ => exact ⟨_, rfl⟩ | 2, _ => exact ⟨_, rfl⟩ | n0+3, h0 => exact absurd h0 (Nat.not_lt.2 (Nat.le_add_left 3 n0))) | (intro i0 hi0; match i0, hi0 with | 0, _ => exact ⟨_, rfl⟩ | 1, _ => exact ⟨_, rfl⟩ | 2, _ => exact ⟨_, rfl⟩ | 3, _ => exact ⟨_, rfl⟩ | n0+4, h0 => exact absurd h0 (Nat.not_lt.2 (Nat.le_add_left 4 n0)))) (by simp [go_sem, gL, kL, lk, renOf, V.obj, Nat.blt, Nat.ble])) ?_; simp only [St.at_nil, St.at_cons, lk, Nat.reduceEqDiff, ↓reduceIte, Option.getD_some, Option.getD_none, List.cons_append, List.nil_append, List.append_nil]
    rintro ⟨pr, q⟩ ⟨g1, g2⟩
    simp only at g1 g2 ⊢
    rcases pr with _ | ⟨y, pr⟩
    · simp only [insP] at g2
      subst g2
      simp only [List.length_cons, List.length_nil] at g1 h2
      repeat' (first | (refine AW.sregD hmix rfl fun K hK => ?_; simp only [go_sem, Nat.reduceAdd, Nat.reduceMul, Int.reduceToNat, Nat.reduceLT, Nat.reduceLeDiff, Nat.le_refl, Nat.reduceEqDiff, ↓reduceIte, beq_self_eq_true, bne_self_eq_false, Int.reduceBEq, Int.reduceBNe, or_self, true_or, or_true, Option.map_some, Option.map_none, List.length_map]) | (refine AW.reg rfl ?_; simp only [go_sem, Nat.reduceAdd, Nat.reduceMul, Int.reduceToNat, Nat.reduceLT, Nat.reduceLeDiff, Nat.le_refl, Nat.reduceEqDiff, ↓reduceIte, beq_self_eq_true, bne_self_eq_false, Int.reduceBEq, Int.reduceBNe, or_self, true_or, or_true, Option.map_some, Option.map_none, List.length_map]) | (refine AW.seq_k fun K hK => ?_) | (refine AW.exit ?_; simp only [go_sem, ↓reduceIte]) | (refine AW.condF rfl (by first | rfl | (simp; omega) | (simp [*]; done) | fail) ?_) | (refine hK _ ?_; clear hK K) | (clear hK K; refine hK _ ?_; clear hK K) | (refine stepBT_split (fun h => ?_) (fun h => ?_) <;> (have hb0 := h) <;> (try simp only [Bool.not_eq_true', Bool.not_eq_false'] at hb0) <;> (try simp only [decide_eq_true_eq, decide_eq_false_iff_not, Bool.not_eq_true', Bool.not_eq_false', Bool.not_eq_eq_eq_not, Bool.not_true, Bool.not_false, beq_iff_eq, bne_iff_ne, beq_eq_false_iff_ne, ne_eq, Bool.and_eq_true, Bool.or_eq_true, Bool.or_eq_false_iff] at h) <;> simp only [go_sem, Nat.reduceAdd, Nat.reduceMul, Int.reduceToNat, Nat.reduceLT, Nat.reduceLeDiff, Nat.le_refl, Nat.reduceEqDiff, ↓reduceIte, beq_self_eq_true, bne_self_eq_false, Int.reduceBEq, Int.reduceBNe, or_self, true_or, or_true, Option.map_some, Option.map_none, hb0, h, decide_true, decide_false, List.length_map] <;> (try clear hb0)) | (with_reducible refine And.intro (?_ : regOk _ _ = true) ?_; kernel_rfl) | (with_reducible refine And.intro ?_ ?_; first | omega | assumption | (focus (decide)) | (focus (simp; done)) | (focus (simp; omega)) | (focus (constructor <;> omega)) | fail) | (exfalso; omega))
      exact ⟨(d.length + 1, x :: q, r), ⟨by simp only; omega, by simp only [List.length_cons]; omega, .inl (by simp only [List.length_cons]; omega), h4⟩, by simp only; omega, (Weak.auto hcx rfl rfl (Nat.le_of_ble_eq_true rfl) (by simp [go_sem, gL, kL, renOf, V.obj, lk, Nat.blt, Nat.ble, List.map_append, dv_push]) (by simp [go_sem, gL, kL, renOf, V.obj, lk, Nat.blt, Nat.ble, List.map_append, dv_push]) (by first | (intro i hi; exact absurd hi (Nat.not_lt_zero _)) | (intro i0 hi0; match i0, hi0 with | 0, _ => exact ⟨_, rfl⟩ | n0+1, h0 => exact absurd h0 (Nat.not_lt.2 (Nat.le_add_left 1 n0))) | (intro i0 hi0; match i0, hi0 with | 0, _ => exact ⟨_, rfl⟩ | 1, _ => exact ⟨_, rfl⟩ | n0+2, h0 => exact absurd h0 (Nat.not_lt.2 (Nat.le_add_left 2 n0))) | (intro i0 hi0; match i0, hi0 with | 0, _ => exact ⟨_, rfl⟩ | 1, _ => exact ⟨_, rfl⟩ | 2, _ => exact ⟨_, rfl⟩ | n0+3, h0 => exact absurd h0 (Nat.not_lt.2 (Nat.le_add_left 3 n0))) | (intro i0 hi0; match i0, hi0 with | 0, _ => exact ⟨_, rfl⟩ | 1, _ => exact ⟨_, rfl⟩ | 2, _ => exact ⟨_, rfl⟩ | 3, _ => exact ⟨_, rfl⟩ | n0+4, h0 => exact absurd h0 (Nat.not_lt.2 (Nat.le_add_left 4 n0)))) (by simp [go_sem, gL, kL, lk, renOf, V.obj, Nat.blt, Nat.ble]))⟩
    · have e1 : (dv ((List.reverse (y :: pr) ++ x :: (q ++ r)).map arD))[0 + (pr.length + 1)]? = some (.d (arD x)) := by
        have := get_mid (List.reverse (y :: pr)) x (q ++ r)
        simp only [List.length_reverse, List.length_cons] at this
        simp only [dv, Nat.zero_add, List.getElem?_map, this, Option.map_some]
      have e2 : (dv ((List.reverse (y :: pr) ++ x :: (q ++ r)).map arD))[0 + pr.length]? = some (.d (arD y)) := by
        have := get_mid (List.reverse pr) y (x :: (q ++ r))
        simp only [List.length_reverse] at this
        simp only [dv, Nat.zero_add, List.getElem?_map, List.reverse_cons, List.append_assoc, List.cons_append, List.nil_append, this, Option.map_some]
      have e3 : (((pr.length + 1 : Nat) : Int) - 1).toNat = pr.length := by omega
      simp only [List.length_cons] at g1 h2
      simp only [insP, hlt] at g2
      have e4 : (((dv ((List.reverse (y :: pr) ++ x :: (q ++ r)).map arD)).set (0 + (pr.length + 1)) (.d (arD y))).set (0 + pr.length) (.d (arD x))) = dv ((pr.reverse ++ x :: ((y :: q) ++ r)).map arD) := by
        have := swap_mid (dv (pr.reverse.map arD)) (V.d (arD x)) (V.d (arD y)) (dv ((q ++ r).map arD))
        simp only [dv, List.length_map, List.length_reverse, List.map_append, List.map_cons, List.reverse_cons, List.append_assoc, List.cons_append, List.nil_append, List.map_nil] at this ⊢
        exact this
      have e5 : ((dv ((List.reverse (y :: pr) ++ x :: (q ++ r)).map arD)).set (0 + (pr.length + 1)) (.d (arD y)))[0 + pr.length]? = some (.d (arD y)) := by
        rw [List.getElem?_set_ne (by omega)]
        exact e2
      repeat' (first | (refine AW.sregD hmix rfl fun K hK => ?_; simp only [go_sem, Nat.reduceAdd, Nat.reduceMul, Int.reduceToNat, Nat.reduceLT, Nat.reduceLeDiff, Nat.le_refl, Nat.reduceEqDiff, ↓reduceIte, beq_self_eq_true, bne_self_eq_false, Int.reduceBEq, Int.reduceBNe, or_self, true_or, or_true, Option.map_some, Option.map_none, List.length_map, e1, e2, e3, e4, e5, List.length_cons, or_self, true_or, or_true]) | (refine AW.reg rfl ?_; simp only [go_sem, Nat.reduceAdd, Nat.reduceMul, Int.reduceToNat, Nat.reduceLT, Nat.reduceLeDiff, Nat.le_refl, Nat.reduceEqDiff, ↓reduceIte, beq_self_eq_true, bne_self_eq_false, Int.reduceBEq, Int.reduceBNe, or_self, true_or, or_true, Option.map_some, Option.map_none, List.length_map, e1, e2, e3, e4, e5, List.length_cons, or_self, true_or, or_true]) | (refine AW.regD hmix rfl ?_; simp only [go_sem, Nat.reduceAdd, Nat.reduceMul, Int.reduceToNat, Nat.reduceLT, Nat.reduceLeDiff, Nat.le_refl, Nat.reduceEqDiff, ↓reduceIte, beq_self_eq_true, bne_self_eq_false, Int.reduceBEq, Int.reduceBNe, or_self, true_or, or_true, Option.map_some, Option.map_none, List.length_map, e1, e2, e3, e4, e5, List.length_cons, or_self, true_or, or_true]) | (refine AW.seq_k fun K hK => ?_) | (refine AW.block ?_) | (refine AW.skip ?_; simp only [Then, InBlock]) | (refine AW.exit ?_; simp only [go_sem, ↓reduceIte]) | (refine AW.condT rfl (by first | rfl | (simp; omega) | (simp [*]; done) | fail) ?_) | (refine AW.cond rfl (fun h => ?_) (fun h => ?_) <;> (try simp only [decide_eq_true_eq, decide_eq_false_iff_not, Bool.not_eq_true', Bool.not_eq_false', Bool.not_eq_eq_eq_not, Bool.not_true, Bool.not_false, beq_iff_eq, bne_iff_ne, beq_eq_false_iff_ne, ne_eq, Bool.and_eq_true, Bool.or_eq_true, Bool.or_eq_false_iff] at h)) | (refine hK _ ?_; clear hK K) | (clear hK K; refine hK _ ?_; clear hK K) | (refine stepBT_split (fun h => ?_) (fun h => ?_) <;> (have hb0 := h) <;> (try simp only [Bool.not_eq_true', Bool.not_eq_false'] at hb0) <;> (try simp only [decide_eq_true_eq, decide_eq_false_iff_not, Bool.not_eq_true', Bool.not_eq_false', Bool.not_eq_eq_eq_not, Bool.not_true, Bool.not_false, beq_iff_eq, bne_iff_ne, beq_eq_false_iff_ne, ne_eq, Bool.and_eq_true, Bool.or_eq_true, Bool.or_eq_false_iff] at h) <;> simp only [go_sem, Nat.reduceAdd, Nat.reduceMul, Int.reduceToNat, Nat.reduceLT, Nat.reduceLeDiff, Nat.le_refl, Nat.reduceEqDiff, ↓reduceIte, beq_self_eq_true, bne_self_eq_false, Int.reduceBEq, Int.reduceBNe, or_self, true_or, or_true, Option.map_some, Option.map_none, hb0, h, decide_true, decide_false, List.length_map, e1, e2, e3, e4, e5, List.length_cons, or_self, true_or, or_true] <;> (try clear hb0)) | (with_reducible refine And.intro (?_ : regOk _ _ = true) ?_; kernel_rfl) | (refine runT_call _ _ [] (fun hv _ => (hc x y).pure rfl rfl hv _) rfl rfl (dstOk_of rfl) rfl rfl ?_; simp only [go_sem, Nat.reduceAdd, Nat.reduceMul, Int.reduceToNat, Nat.reduceLT, Nat.reduceLeDiff, Nat.le_refl, Nat.reduceEqDiff, ↓reduceIte, beq_self_eq_true, bne_self_eq_false, Int.reduceBEq, Int.reduceBNe, or_self, true_or, or_true, Option.map_some, Option.map_none, List.length_map, e1, e2, e3, e4, e5, List.length_cons, or_self, true_or, or_true]) | (with_reducible refine And.intro ?_ ?_; first | omega | assumption | (focus (decide)) | (focus (simp; done)) | (focus (simp; omega)) | (focus (constructor <;> omega)) | fail) | (exfalso; omega))
      · rw [if_pos (by simpa using h)] at g2
        exact ⟨(pr, y :: q), ⟨by simp only [List.length_cons]; omega, g2⟩, by simp only [List.length_cons]; omega, (Weak.auto hcx rfl rfl (Nat.le_of_ble_eq_true rfl) (by simp [go_sem, gL, kL, renOf, V.obj, lk, Nat.blt, Nat.ble, List.map_append, dv_push]) (by simp [go_sem, gL, kL, renOf, V.obj, lk, Nat.blt, Nat.ble, List.map_append, dv_push]) (by first | (intro i hi; exact absurd hi (Nat.not_lt_zero _)) | (intro i0 hi0; match i0, hi0 with | 0, _ => exact ⟨_, rfl⟩ | n0+1, h0 => exact absurd h0 (Nat.not_lt.2 (Nat.le_add_left 1 n0))) | (intro i0 hi0; match i0, hi0 with | 0, _ => exact ⟨_, rfl⟩ | 1, _ => exact ⟨_, rfl⟩ | n0+2, h0 => exact absurd h0 (Nat.not_lt.2 (Nat.le_add_left 2 n0))) | (intro i0 hi0; match i0, hi0 with | 0, _ => exact ⟨_, rfl⟩ | 1, _ => exact ⟨_, rfl⟩ | 2, _ => exact ⟨_, rfl⟩ | n0+3, h0 => exact absurd h0 (Nat.not_lt.2 (Nat.le_add_left 3 n0))) | (intro i0 hi0; match i0, hi0 with | 0, _ => exact ⟨_, rfl⟩ | 1, _ => exact ⟨_, rfl⟩ | 2, _ => exact ⟨_, rfl⟩ | 3, _ => exact ⟨_, rfl⟩ | n0+4, h0 => exact absurd h0 (Nat.not_lt.2 (Nat.le_add_left 4 n0)))) (by simp [go_sem, gL, kL, lk, renOf, V.obj, Nat.blt, Nat.ble]))⟩
      · rw [if_neg (by simpa using h)] at g2
        subst g2
        exact ⟨(d.length + 1, (y :: pr).reverse ++ x :: q, r), ⟨by simp only; omega, by simp only [List.length_append, List.length_reverse, List.length_cons]; omega, .inl (by simp only [List.length_append, List.length_reverse, List.length_cons]; omega), h4⟩, by simp only; omega, (Weak.auto hcx rfl rfl (Nat.le_of_ble_eq_true rfl) (by simp [go_sem, gL, kL, renOf, V.obj, lk, Nat.blt, Nat.ble, List.map_append, dv_push]) (by simp [go_sem, gL, kL, renOf, V.obj, lk, Nat.blt, Nat.ble, List.map_append, dv_push]) (by first | (intro i hi; exact absurd hi (Nat.not_lt_zero _)) | (intro i0 hi0; match i0, hi0 with | 0, _ => exact ⟨_, rfl⟩ | n0+1, h0 => exact absurd h0 (Nat.not_lt.2 (Nat.le_add_left 1 n0))) | (intro i0 hi0; match i0, hi0 with | 0, _ => exact ⟨_, rfl⟩ | 1, _ => exact ⟨_, rfl⟩ | n0+2, h0 => exact absurd h0 (Nat.not_lt.2 (Nat.le_add_left 2 n0))) | (intro i0 hi0; match i0, hi0 with | 0, _ => exact ⟨_, rfl⟩ | 1, _ => exact ⟨_, rfl⟩ | 2, _ => exact ⟨_, rfl⟩ | n0+3, h0 => exact absurd h0 (Nat.not_lt.2 (Nat.le_add_left 3 n0))) | (intro i0 hi0; match i0, hi0 with | 0, _ => exact ⟨_, rfl⟩ | 1, _ => exact ⟨_, rfl⟩ | 2, _ => exact ⟨_, rfl⟩ | 3, _ => exact ⟨_, rfl⟩ | n0+4, h0 => exact absurd h0 (Nat.not_lt.2 (Nat.le_add_left 4 n0)))) (by simp [go_sem, gL, kL, lk, renOf, V.obj, Nat.blt, Nat.ble]))⟩
  · have hr : r = [] := by
      cases r with
      | nil => rfl
      | cons x r => simp only [List.length_cons] at h2; omega
    subst hr
    simp only [isGo] at h4
    subst h4
    repeat' (first | (refine AW.sreg rfl fun K hK => ?_; simp only [go_sem, Nat.reduceAdd, Nat.reduceMul, Int.reduceToNat, Nat.reduceLT, Nat.reduceLeDiff, Nat.le_refl, Nat.reduceEqDiff, ↓reduceIte, beq_self_eq_true, bne_self_eq_false, Int.reduceBEq, Int.reduceBNe, or_self, true_or, or_true, Option.map_some, Option.map_none, List.length_map, List.append_nil]) | (refine AW.seq_k fun K hK => ?_) | (refine AW.exit ?_; simp only [go_sem, ↓reduceIte]) | (refine AW.condF rfl (by first | rfl | (simp; omega) | (simp [*]; done) | fail) ?_) | (refine hK _ ?_; clear hK K))
    exact Fin.one rfl rfl ⟨_, rfl, by simp [go_sem]⟩ rfl (by simp [go_sem]) rfl
theorem pdqsort_Ar (lt : Ar → Ar → Bool) (cv : Ar → Ar → Int) (hlt : ∀ x y, lt x y = decide (cv x y < 0)) (c : Nat) (hc : ∀ x y, Does Tryz.prog c [.d (arD x), .d (arD y)] [] (I (cv x y)) []) (xs : List Ar) (hl : xs.length ≤ 12) (m : Int) :
    Does Tryz.prog 71 [.slr 0 0 xs.length, I 0, I xs.length, I m, .fn c []] [.vec 37 5 (dv (xs.map arD))] (.tup []) [.vec 37 5 (dv ((isort lt xs).map arD))] := by
  refine Does.of_AW (n := 148) Tryz.func71 rfl rfl rfl fun cx hcx => ?_
  repeat' (first | (refine AW.sreg rfl fun K hK => ?_; simp only [go_sem, Nat.reduceAdd, Nat.reduceMul, Int.reduceToNat, Nat.reduceLT, Nat.reduceLeDiff, Nat.le_refl, Nat.reduceEqDiff, ↓reduceIte, beq_self_eq_true, bne_self_eq_false, Int.reduceBEq, Int.reduceBNe, or_self, true_or, or_true, Option.map_some, Option.map_none, List.length_map]) | (refine AW.block ?_) | (refine hK _ ?_; clear hK K))
  refine AW.loopF (ι := Unit) [0, 4] (fun p => [(1, I 0), (2, I xs.length), (3, I m), (10, B true), (11, B true)]) (fun p => [(0, some (O.vec 37 5 (dv (xs.map arD))))]) 1 (fun p => True) (fun p => 0) () trivial (Weak.auto hcx rfl rfl (Nat.le_of_ble_eq_true rfl) (by simp [go_sem, gL, kL, renOf, V.obj, lk, Nat.blt, Nat.ble, List.map_append, dv_push]) (by simp [go_sem, gL, kL, renOf, V.obj, lk, Nat.blt, Nat.ble, List.map_append, dv_push]) (by first | (intro i hi; exact absurd hi (Nat.not_lt_zero _)) | (intro i0 hi0; match i0, hi0 with | 0, _ => exact ⟨_, rfl⟩ | n0+1, h0 => exact absurd h0 (Nat.not_lt.2 (Nat.le_add_left 1 n0))) | (intro i0 hi0; match i0, hi0 with | 0, _ => exact ⟨_, rfl⟩ | 1, _ => exact ⟨_, rfl⟩ | n0+2, h0 => exact absurd h0 (Nat.not_lt.2 (Nat.le_add_left 2 n0))) | (intro i0 hi0; match i0, hi0 with | 0, _ => exact ⟨_, rfl⟩ | 1, _ => exact ⟨_, rfl⟩ | 2, _ => exact ⟨_, rfl⟩ | n0+3, h0 => exact absurd h0 (Nat.not_lt.2 (Nat.le_add_left 3 n0))) | (intro i0 hi0; match i0, hi0 with | 0, _ => exact ⟨_, rfl⟩ | 1, _ => exact ⟨_, rfl⟩ | 2, _ => exact ⟨_, rfl⟩ | 3, _ => exact ⟨_, rfl⟩ | n0+4, h0 => exact absurd h0 (Nat.not_lt.2 (Nat.le_add_left 4 n0)))) (by simp [go_sem, gL, kL, lk, renOf, V.obj, Nat.blt, Nat.ble])) ?_; simp only [St.at_nil, St.at_cons, lk, Nat.reduceEqDiff, ↓reduceIte, Option.getD_some, Option.getD_none, List.cons_append, List.nil_append, List.append_nil]
  rintro ⟨⟩ _
  repeat' (first | (refine AW.sreg rfl fun K hK => ?_; simp only [go_sem, Nat.reduceAdd, Nat.reduceMul, Int.reduceToNat, Nat.reduceLT, Nat.reduceLeDiff, Nat.le_refl, Nat.reduceEqDiff, ↓reduceIte, beq_self_eq_true, bne_self_eq_false, Int.reduceBEq, Int.reduceBNe, or_self, true_or, or_true, Option.map_some, Option.map_none, List.length_map, Int.sub_zero]) | (refine AW.seq_k fun K hK => ?_) | (refine AW.block ?_) | (refine AW.condT rfl (by first | rfl | (simp; omega) | (simp [*]; done) | fail) ?_) | (refine hK _ ?_; clear hK K) | (refine run_call _ _ _ ((insertionSort_Ar lt cv hlt c hc xs (by omega)).objs [0] ⟨rfl, trivial⟩ rfl (by decide) (by simp [go_sem, renOs]) (by simp) (by simp) (by simp [go_sem]) (by simp [go_sem]) (by simp [go_sem]) (by simp [go_sem])) rfl rfl (dstOk_of rfl) rfl rfl rfl ?_; simp only [go_sem, Nat.reduceAdd, Nat.reduceMul, Int.reduceToNat, Nat.reduceLT, Nat.reduceLeDiff, Nat.le_refl, Nat.reduceEqDiff, ↓reduceIte, beq_self_eq_true, bne_self_eq_false, Int.reduceBEq, Int.reduceBNe, or_self, true_or, or_true, Option.map_some, Option.map_none, List.length_map, Int.sub_zero]) | (with_reducible refine And.intro ?_ ?_; first | omega | assumption | (focus (decide)) | (focus (simp; done)) | (focus (simp; omega)) | (focus (constructor <;> omega)) | fail))
  exact AW.ret (Fin.one rfl rfl ⟨_, rfl, by simp [go_sem]⟩ rfl (by simp [go_sem]) rfl)
theorem sortFunc_Ar (lt : Ar → Ar → Bool) (cv : Ar → Ar → Int) (hlt : ∀ x y, lt x y = decide (cv x y < 0)) (c : Nat) (hc : ∀ x y, Does Tryz.prog c [.d (arD x), .d (arD y)] [] (I (cv x y)) []) (xs : List Ar) (hl : xs.length ≤ 12) :
    Does Tryz.prog 48 [.slr 0 0 xs.length, .fn c []] [.vec 37 5 (dv (xs.map arD))] (.tup []) [.vec 37 5 (dv ((isort lt xs).map arD))] := by
  refine Does.of_AW (n := 14) Tryz.func48 rfl rfl rfl fun cx hcx => ?_
  have hw := wrap_small xs.length (by omega)
  repeat' (first | (refine AW.sreg rfl fun K hK => ?_; simp only [go_sem, Nat.reduceAdd, Nat.reduceMul, Int.reduceToNat, Nat.reduceLT, Nat.reduceLeDiff, Nat.le_refl, Nat.reduceEqDiff, ↓reduceIte, beq_self_eq_true, bne_self_eq_false, Int.reduceBEq, Int.reduceBNe, or_self, true_or, or_true, Option.map_some, Option.map_none, List.length_map, hw]) | (refine AW.reg rfl ?_; simp only [go_sem, Nat.reduceAdd, Nat.reduceMul, Int.reduceToNat, Nat.reduceLT, Nat.reduceLeDiff, Nat.le_refl, Nat.reduceEqDiff, ↓reduceIte, beq_self_eq_true, bne_self_eq_false, Int.reduceBEq, Int.reduceBNe, or_self, true_or, or_true, Option.map_some, Option.map_none, List.length_map, hw]) | (refine hK _ ?_; clear hK K) | (refine run_call _ _ _ ((len_ok xs.length hl).pure rfl rfl _ _) rfl rfl (dstOk_of rfl) rfl rfl rfl ?_; simp only [go_sem, Nat.reduceAdd, Nat.reduceMul, Int.reduceToNat, Nat.reduceLT, Nat.reduceLeDiff, Nat.le_refl, Nat.reduceEqDiff, ↓reduceIte, beq_self_eq_true, bne_self_eq_false, Int.reduceBEq, Int.reduceBNe, or_self, true_or, or_true, Option.map_some, Option.map_none, List.length_map, hw]) | (refine run_call _ _ _ ((pdqsort_Ar lt cv hlt c hc xs hl _).objs [0] ⟨rfl, trivial⟩ rfl (by decide) (by simp [go_sem, renOs]) (by simp) (by simp) (by simp [go_sem]) (by simp [go_sem]) (by simp [go_sem]) (by simp [go_sem])) rfl rfl (dstOk_of rfl) rfl rfl rfl ?_; simp only [go_sem, Nat.reduceAdd, Nat.reduceMul, Int.reduceToNat, Nat.reduceLT, Nat.reduceLeDiff, Nat.le_refl, Nat.reduceEqDiff, ↓reduceIte, beq_self_eq_true, bne_self_eq_false, Int.reduceBEq, Int.reduceBNe, or_self, true_or, or_true, Option.map_some, Option.map_none, List.length_map, hw]))
  exact Fin.one rfl rfl ⟨_, rfl, by simp [go_sem]⟩ rfl (by simp [go_sem]) rfl

theorem all_ok_Ar (xs : List Ar) : (dv (xs.map arD)).all (elemOk 5) = true := by
  simp only [dv, List.map_map, List.all_eq_true, List.mem_map, Function.comp_apply, forall_exists_index, and_imp, forall_apply_eq_imp_iff₂]
  intro x _
  rfl
theorem clone_Ar (xs : List Ar) (hl : xs.length ≤ 1000) : Does Tryz.prog 16 [.d (.sl (xs.map arD))] [] (.slr 0 0 xs.length) [.vec 37 5 (dv (xs.map arD))] := by
  refine Does.of_AW (n := 8) Tryz.func16 rfl rfl rfl fun cx hcx => ?_
  refine AW.sreg rfl fun K hK => ?_; simp only [go_sem, Nat.reduceAdd, Nat.reduceMul, Int.reduceToNat, Nat.reduceLT, Nat.reduceLeDiff, Nat.le_refl, Nat.reduceEqDiff, ↓reduceIte, beq_self_eq_true, bne_self_eq_false, Int.reduceBEq, Int.reduceBNe, or_self, true_or, or_true, Option.map_some, Option.map_none]
  refine hK _ ?_; (try clear hK K)
  refine AW.seq_k fun K1 hK1 => ?_
  refine AW.seq_k fun K2 hK2 => ?_
  refine AW.nilCmp rfl rfl rfl rfl rfl rfl (by simp only [go_sem]; rfl) (by simp) (by simp) rfl (fun b hb => ?_)
  refine hK2 _ ?_
  refine AW.cond rfl (fun h => ?_) (fun h => ?_)
  · have h0 : xs = [] := by simpa using hb h
    subst h0
    repeat' (first | (refine AW.sreg rfl fun K hK => ?_; simp only [go_sem, Nat.reduceAdd, Nat.reduceMul, Int.reduceToNat, Nat.reduceLT, Nat.reduceLeDiff, Nat.le_refl, Nat.reduceEqDiff, ↓reduceIte, beq_self_eq_true, bne_self_eq_false, Int.reduceBEq, Int.reduceBNe, or_self, true_or, or_true, Option.map_some, Option.map_none, List.length_map]) | (refine hK _ ?_; clear hK K))
    refine AW.weak (Weak.nil 2 37 5 rfl) ?_
    exact AW.ret (Fin.objs [256] rfl (by simp [go_sem, inI, gI]) ⟨⟨_, rfl, by simp [go_sem, inI, gI]⟩, trivial⟩ (by simp) rfl (by simp [go_sem]) (by simp [go_sem]) rfl)
  · refine AW.skip (hK1 _ ?_)
    repeat' (first | (refine AW.sreg rfl fun K hK => ?_; simp only [go_sem, Nat.reduceAdd, Nat.reduceMul, Int.reduceToNat, Nat.reduceLT, Nat.reduceLeDiff, Nat.le_refl, Nat.reduceEqDiff, ↓reduceIte, beq_self_eq_true, bne_self_eq_false, Int.reduceBEq, Int.reduceBNe, or_self, true_or, or_true, Option.map_some, Option.map_none, List.length_map, all_ok_Ar]) | (refine hK _ ?_; clear hK K) | (with_reducible refine And.intro ?_ ?_; first | omega | assumption | (focus (decide)) | (focus (simp; done)) | (focus (simp; omega)) | (focus (constructor <;> omega)) | fail))
    exact AW.ret (Fin.objs [320] rfl (by simp [go_sem, inI, gI]) ⟨⟨_, rfl, by simp [go_sem, inI, gI]⟩, trivial⟩ (by simp) rfl (by simp [go_sem]) (by simp [go_sem]) rfl)

theorem compact_Ar (xs : List (Ar)) (hl : xs.length ≤ 1000) :
    Does Tryz.prog 49 [.slr 0 0 xs.length] [.vec 37 5 (dv (xs.map arD))] (.slr 0 0 (compactM xs).length) [.vec 37 5 (dv ((compactM xs).map arD ++ List.replicate (xs.length - (compactM xs).length) (arD ([], 0, 0, [], []))))] := by
  cases xs with
  | nil =>
    refine Does.of_AW (n := 61) Tryz.func49 rfl rfl rfl fun cx hcx => ?_
    repeat' (first | (refine AW.sreg rfl fun K hK => ?_; simp only [go_sem, Nat.reduceAdd, Nat.reduceMul, Int.reduceToNat, Nat.reduceLT, Nat.reduceLeDiff, Nat.le_refl, Nat.reduceEqDiff, ↓reduceIte, beq_self_eq_true, bne_self_eq_false, Int.reduceBEq, Int.reduceBNe, or_self, true_or, or_true, Option.map_some, Option.map_none]) | (refine AW.seq_k fun K hK => ?_) | (refine AW.condT rfl (by first | rfl | (simp; omega) | (simp [*]; done) | fail) ?_) | (refine hK _ ?_; clear hK K))
    exact AW.ret (Fin.one rfl (by simp [go_sem, compactM]) ⟨_, rfl, by simp [go_sem, compactM]⟩ rfl (by simp [go_sem]) rfl)
  | cons x0 r0 =>
  generalize hxs : x0 :: r0 = xs at *
  refine Does.of_AW (n := 61) Tryz.func49 rfl rfl rfl fun cx hcx => ?_
  repeat' (first | (refine AW.sreg rfl fun K hK => ?_; simp only [go_sem, Nat.reduceAdd, Nat.reduceMul, Int.reduceToNat, Nat.reduceLT, Nat.reduceLeDiff, Nat.le_refl, Nat.reduceEqDiff, ↓reduceIte, beq_self_eq_true, bne_self_eq_false, Int.reduceBEq, Int.reduceBNe, or_self, true_or, or_true, Option.map_some, Option.map_none, List.length_map]) | (refine AW.seq_k fun K hK => ?_) | (refine AW.block ?_) | (refine AW.skip ?_; simp only [Then, InBlock]) | (refine AW.cond rfl (fun h => ?_) (fun h => ?_) <;> (try simp only [decide_eq_true_eq, decide_eq_false_iff_not, Bool.not_eq_true', Bool.not_eq_false', Bool.not_eq_eq_eq_not, Bool.not_true, Bool.not_false, beq_iff_eq, bne_iff_ne, beq_eq_false_iff_ne, ne_eq, Bool.and_eq_true, Bool.or_eq_true, Bool.or_eq_false_iff] at h)) | (refine hK _ ?_; clear hK K))
  · have : r0 = [] := by
      rw [← hxs] at h; cases r0 with
      | nil => rfl
      | cons => simp at h; omega
    subst this
    subst hxs
    exact AW.ret (Fin.one rfl (by simp [go_sem, compactM, ctM]) ⟨_, rfl, by simp [go_sem, compactM, ctM]⟩ rfl (by simp [go_sem]) rfl)
  refine AW.loopF (ι := Nat) [0] (fun p => [(3, I p)]) (fun p => [(0, some (O.vec 37 5 (dv (xs.map arD))))]) 1 (fun p => 1 ≤ p ∧ p ≤ xs.length ∧ ∀ y, xs[p - 1]? = some y → xs.take p ++ ctM y (xs.drop p) = compactM xs) (fun p => xs.length - p) 1 ⟨by simp, by omega, by rw [← hxs]; intro y hy; simp at hy; subst hy; simp [compactM]⟩ (Weak.auto hcx rfl rfl (Nat.le_of_ble_eq_true rfl) (by simp [go_sem, gL, kL, renOf, V.obj, lk, Nat.blt, Nat.ble, List.map_append, dv_push]) (by simp [go_sem, gL, kL, renOf, V.obj, lk, Nat.blt, Nat.ble, List.map_append, dv_push]) (by first | (intro i hi; exact absurd hi (Nat.not_lt_zero _)) | (intro i0 hi0; match i0, hi0 with | 0, _ => exact ⟨_, rfl⟩ | n0+1, h0 => exact absurd h0 (Nat.not_lt.2 (Nat.le_add_left 1 n0))) | (intro i0 hi0; match i0, hi0 with | 0, _ => exact ⟨_, rfl⟩ | 1, _ => exact ⟨_, rfl⟩ | n0+2, h0 => exact absurd h0 (Nat.not_lt.2 (Nat.le_add_left 2 n0))) | (intro i0 hi0; match i0, hi0 with | 0, _ => exact ⟨_, rfl⟩ | 1, _ => exact ⟨_, rfl⟩ | 2, _ => exact ⟨_, rfl⟩ | n0+3, h0 => exact absurd h0 (Nat.not_lt.2 (Nat.le_add_left 3 n0))) | (intro i0 hi0; match i0, hi0 with | 0, _ => exact ⟨_, rfl⟩ | 1, _ => exact ⟨_, rfl⟩ | 2, _ => exact ⟨_, rfl⟩ | 3, _ => exact ⟨_, rfl⟩ | n0+4, h0 => exact absurd h0 (Nat.not_lt.2 (Nat.le_add_left 4 n0)))) (by simp [go_sem, gL, kL, lk, renOf, V.obj, Nat.blt, Nat.ble])) ?_; simp only [St.at_nil, St.at_cons, lk, Nat.reduceEqDiff, ↓reduceIte, Option.getD_some, Option.getD_none, List.cons_append, List.nil_append, List.append_nil]
  rintro k ⟨h1, h2, h3⟩
  by_cases hi : k < xs.length
  · obtain ⟨x, hx, hxm, hxd⟩ := get_some hi
    obtain ⟨y, hy, hym, hyd⟩ := get_some (show k - 1 < xs.length by omega)
    have hget : (dv (xs.map arD))[0 + k]? = some (.d (arD x)) := by simp only [dv, Nat.zero_add, List.getElem?_map, hx, Option.map_some]
    have hget2 : (dv (xs.map arD))[0 + ((k : Int) - 1).toNat]? = some (.d (arD y)) := by
      rw [show ((k : Int) - 1).toNat = k - 1 by omega]
      simp only [dv, Nat.zero_add, List.getElem?_map, hy, Option.map_some]
    have h3 := h3 y hy
    rw [hxd, ctM] at h3
    have heq : ((fun (x y : Ar) => x.1 == y.1 && (x.2.1 == y.2.1 && (x.2.2.1 == y.2.2.1 && (x.2.2.2.1 == y.2.2.2.1 && x.2.2.2.2 == y.2.2.2.2)))) x y) = (x == y) := rfl
    dsimp only at heq
    cases hb : (x == y) with
    | false =>
      rw [hb] at heq h3
      simp only [Bool.false_eq_true, if_false] at h3
      repeat' (first | (refine AW.sreg rfl fun K hK => ?_; simp only [go_sem, Nat.reduceAdd, Nat.reduceMul, Int.reduceToNat, Nat.reduceLT, Nat.reduceLeDiff, Nat.le_refl, Nat.reduceEqDiff, ↓reduceIte, beq_self_eq_true, bne_self_eq_false, Int.reduceBEq, Int.reduceBNe, or_self, true_or, or_true, Option.map_some, Option.map_none, List.length_map, hget, hget2, heq]) | (refine AW.sregD hmix rfl fun K hK => ?_; simp only [go_sem, Nat.reduceAdd, Nat.reduceMul, Int.reduceToNat, Nat.reduceLT, Nat.reduceLeDiff, Nat.le_refl, Nat.reduceEqDiff, ↓reduceIte, beq_self_eq_true, bne_self_eq_false, Int.reduceBEq, Int.reduceBNe, or_self, true_or, or_true, Option.map_some, Option.map_none, List.length_map, hget, hget2, heq]) | (refine AW.reg rfl ?_; simp only [go_sem, Nat.reduceAdd, Nat.reduceMul, Int.reduceToNat, Nat.reduceLT, Nat.reduceLeDiff, Nat.le_refl, Nat.reduceEqDiff, ↓reduceIte, beq_self_eq_true, bne_self_eq_false, Int.reduceBEq, Int.reduceBNe, or_self, true_or, or_true, Option.map_some, Option.map_none, List.length_map, hget, hget2, heq]) | (refine AW.seq_k fun K hK => ?_) | (refine AW.block ?_) | (refine AW.skip ?_; simp only [Then, InBlock]) | (refine AW.condT rfl (by first | rfl | (simp; omega) | (simp [*]; done) | fail) ?_) | (refine AW.condF rfl (by first | rfl | (simp; omega) | (simp [*]; done) | fail) ?_) | (refine hK _ ?_; clear hK K) | (with_reducible refine And.intro (?_ : regOk _ _ = true) ?_; kernel_rfl) | (with_reducible refine And.intro ?_ ?_; first | omega | assumption | (focus (decide)) | (focus (simp; done)) | (focus (simp; omega)) | (focus (constructor <;> omega)) | fail))
      refine ⟨k + 1, ⟨by omega, hi, fun z hz => ?_⟩, by omega, (Weak.auto hcx rfl rfl (Nat.le_of_ble_eq_true rfl) (by simp [go_sem, gL, kL, renOf, V.obj, lk, Nat.blt, Nat.ble, List.map_append, dv_push]) (by simp [go_sem, gL, kL, renOf, V.obj, lk, Nat.blt, Nat.ble, List.map_append, dv_push]) (by first | (intro i hi; exact absurd hi (Nat.not_lt_zero _)) | (intro i0 hi0; match i0, hi0 with | 0, _ => exact ⟨_, rfl⟩ | n0+1, h0 => exact absurd h0 (Nat.not_lt.2 (Nat.le_add_left 1 n0))) | (intro i0 hi0; match i0, hi0 with | 0, _ => exact ⟨_, rfl⟩ | 1, _ => exact ⟨_, rfl⟩ | n0+2, h0 => exact absurd h0 (Nat.not_lt.2 (Nat.le_add_left 2 n0))) | (intro i0 hi0; match i0, hi0 with | 0, _ => exact ⟨_, rfl⟩ | 1, _ => exact ⟨_, rfl⟩ | 2, _ => exact ⟨_, rfl⟩ | n0+3, h0 => exact absurd h0 (Nat.not_lt.2 (Nat.le_add_left 3 n0))) | (intro i0 hi0; match i0, hi0 with | 0, _ => exact ⟨_, rfl⟩ | 1, _ => exact ⟨_, rfl⟩ | 2, _ => exact ⟨_, rfl⟩ | 3, _ => exact ⟨_, rfl⟩ | n0+4, h0 => exact absurd h0 (Nat.not_lt.2 (Nat.le_add_left 4 n0)))) (by simp [go_sem, gL, kL, lk, renOf, V.obj, Nat.blt, Nat.ble]))⟩
      rw [Nat.add_sub_cancel, hx] at hz
      cases hz
      rw [← h3, List.take_add_one, hx]
      simp
    | true =>
      rw [hb] at heq h3
      simp only [if_true] at h3
      obtain rfl : x = y := by simpa using hb
      repeat' (first | (refine AW.sreg rfl fun K hK => ?_; simp only [go_sem, Nat.reduceAdd, Nat.reduceMul, Int.reduceToNat, Nat.reduceLT, Nat.reduceLeDiff, Nat.le_refl, Nat.reduceEqDiff, ↓reduceIte, beq_self_eq_true, bne_self_eq_false, Int.reduceBEq, Int.reduceBNe, or_self, true_or, or_true, Option.map_some, Option.map_none, List.length_map, hget, hget2, heq]) | (refine AW.sregD hmix rfl fun K hK => ?_; simp only [go_sem, Nat.reduceAdd, Nat.reduceMul, Int.reduceToNat, Nat.reduceLT, Nat.reduceLeDiff, Nat.le_refl, Nat.reduceEqDiff, ↓reduceIte, beq_self_eq_true, bne_self_eq_false, Int.reduceBEq, Int.reduceBNe, or_self, true_or, or_true, Option.map_some, Option.map_none, List.length_map, hget, hget2, heq]) | (refine AW.seq_k fun K hK => ?_) | (refine AW.block ?_) | (refine AW.skip ?_; simp only [Then, InBlock]) | (refine AW.condT rfl (by first | rfl | (simp; omega) | (simp [*]; done) | fail) ?_) | (refine hK _ ?_; clear hK K) | (with_reducible refine And.intro (?_ : regOk _ _ = true) ?_; kernel_rfl) | (with_reducible refine And.intro ?_ ?_; first | omega | assumption | (focus (decide)) | (focus (simp; done)) | (focus (simp; omega)) | (focus (constructor <;> omega)) | fail))
      refine AW.loopF (ι := Nat × List (Ar) × List (Ar) × Ar) [0, 4] (fun p => [(3, I p.2.1.length), (5, I p.1)]) (fun p => [(0, some (O.vec 37 5 (dv ((p.2.1 ++ (p.2.2.1 ++ p.2.2.2 :: xs.drop (k + p.1))).map arD))))]) 1 (fun p => 1 ≤ p.1 ∧ k + p.1 ≤ xs.length ∧ p.2.1.length + p.2.2.1.length + 1 = k + p.1 ∧ p.2.1 ++ ctM p.2.2.2 (xs.drop (k + p.1)) = compactM xs) (fun p => xs.length - p.1) (1, xs.take k, [], x) ⟨by simp, by simp only; omega, by simp; omega, h3⟩ (Weak.auto hcx rfl rfl (Nat.le_of_ble_eq_true rfl) (by simp [go_sem, gL, kL, renOf, V.obj, lk, Nat.blt, Nat.ble, List.map_append, dv_push, ← hxd, List.take_append_drop, Nat.min_eq_left (Nat.le_of_lt hi)]) (by simp [go_sem, gL, kL, renOf, V.obj, lk, Nat.blt, Nat.ble, List.map_append, dv_push, ← hxd, List.take_append_drop, Nat.min_eq_left (Nat.le_of_lt hi)]) (by first | (intro i hi; exact absurd hi (Nat.not_lt_zero _)) | (intro i0 hi0; match i0, hi0 with | 0, _ => exact ⟨_, rfl⟩ | n0+1, h0 => exact absurd h0 (Nat.not_lt.2 (Nat.le_add_left 1 n0))) | (intro i0 hi0; match i0, hi0 with | 0, _ => exact ⟨_, rfl⟩ | 1, _ => exact ⟨_, rfl⟩ | n0+2, h0 => exact absurd h0 (Nat.not_lt.2 (Nat.le_add_left 2 n0))) | (intro i0 hi0; match i0, hi0 with | 0, _ => exact ⟨_, rfl⟩ | 1, _ => exact ⟨_, rfl⟩ | 2, _ => exact ⟨_, rfl⟩ | n0+3, h0 => exact absurd h0 (Nat.not_lt.2 (Nat.le_add_left 3 n0))) | (intro i0 hi0; match i0, hi0 with | 0, _ => exact ⟨_, rfl⟩ | 1, _ => exact ⟨_, rfl⟩ | 2, _ => exact ⟨_, rfl⟩ | 3, _ => exact ⟨_, rfl⟩ | n0+4, h0 => exact absurd h0 (Nat.not_lt.2 (Nat.le_add_left 4 n0)))) (by simp [go_sem, gL, kL, lk, renOf, V.obj, Nat.blt, Nat.ble, ← hxd, List.take_append_drop, Nat.min_eq_left (Nat.le_of_lt hi)])) ?_; simp only [St.at_nil, St.at_cons, lk, Nat.reduceEqDiff, ↓reduceIte, Option.getD_some, Option.getD_none, List.cons_append, List.nil_append, List.append_nil]
      rintro ⟨k2, A, G, y⟩ ⟨g1, g2, g3, g4⟩
      simp only at g1 g2 g3 g4 ⊢
      by_cases hj : k + k2 < xs.length
      · obtain ⟨z, hz, hzm, hzd⟩ := get_some hj
        have e1 : (dv ((A ++ (G ++ y :: xs.drop (k + k2))).map arD))[0 + k + k2]? = some (.d (arD z)) := by
          have : (A ++ (G ++ y :: xs.drop (k + k2)))[k + k2]? = some z := by
            rw [show A ++ (G ++ y :: xs.drop (k + k2)) = (A ++ (G ++ [y])) ++ xs.drop (k + k2) by simp, List.getElem?_append_right (by simp; omega), show k + k2 - (A ++ (G ++ [y])).length = 0 by simp; omega, hzd]
            rfl
          simp only [dv, Nat.zero_add, List.getElem?_map, this, Option.map_some]
        have e2 : (dv ((A ++ (G ++ y :: xs.drop (k + k2))).map arD))[0 + k + ((k2 : Int) - 1).toNat]? = some (.d (arD y)) := by
          have : (A ++ (G ++ y :: xs.drop (k + k2)))[k + ((k2 : Int) - 1).toNat]? = some y := by
            rw [show A ++ (G ++ y :: xs.drop (k + k2)) = (A ++ G) ++ (y :: xs.drop (k + k2)) by simp, List.getElem?_append_right (by simp; omega), show k + ((k2 : Int) - 1).toNat - (A ++ G).length = 0 by simp; omega]
            rfl
          simp only [dv, Nat.zero_add, List.getElem?_map, this, Option.map_some]
        have hlen : (A ++ (G ++ y :: xs.drop (k + k2))).length = xs.length := by simp; omega
        have heq2 : ((fun (x y : Ar) => x.1 == y.1 && (x.2.1 == y.2.1 && (x.2.2.1 == y.2.2.1 && (x.2.2.2.1 == y.2.2.2.1 && x.2.2.2.2 == y.2.2.2.2)))) z y) = (z == y) := rfl
        dsimp only at heq2
        rw [hzd, ctM] at g4
        cases hb2 : (z == y) with
        | true =>
          rw [hb2] at heq2 g4
          simp only [if_true] at g4
          obtain rfl : z = y := by simpa using hb2
          repeat' (first | (refine AW.sreg rfl fun K hK => ?_; simp only [go_sem, Nat.reduceAdd, Nat.reduceMul, Int.reduceToNat, Nat.reduceLT, Nat.reduceLeDiff, Nat.le_refl, Nat.reduceEqDiff, ↓reduceIte, beq_self_eq_true, bne_self_eq_false, Int.reduceBEq, Int.reduceBNe, or_self, true_or, or_true, Option.map_some, Option.map_none, List.length_map, e1, e2, heq2]) | (refine AW.sregD hmix rfl fun K hK => ?_; simp only [go_sem, Nat.reduceAdd, Nat.reduceMul, Int.reduceToNat, Nat.reduceLT, Nat.reduceLeDiff, Nat.le_refl, Nat.reduceEqDiff, ↓reduceIte, beq_self_eq_true, bne_self_eq_false, Int.reduceBEq, Int.reduceBNe, or_self, true_or, or_true, Option.map_some, Option.map_none, List.length_map, e1, e2, heq2]) | (refine AW.reg rfl ?_; simp only [go_sem, Nat.reduceAdd, Nat.reduceMul, Int.reduceToNat, Nat.reduceLT, Nat.reduceLeDiff, Nat.le_refl, Nat.reduceEqDiff, ↓reduceIte, beq_self_eq_true, bne_self_eq_false, Int.reduceBEq, Int.reduceBNe, or_self, true_or, or_true, Option.map_some, Option.map_none, List.length_map, e1, e2, heq2]) | (refine AW.seq_k fun K hK => ?_) | (refine AW.block ?_) | (refine AW.skip ?_; simp only [Then, InBlock]) | (refine AW.condT rfl (by first | rfl | (simp; omega) | (simp [*]; done) | fail) ?_) | (refine AW.condF rfl (by first | rfl | (simp; omega) | (simp [*]; done) | fail) ?_) | (refine hK _ ?_; clear hK K) | (with_reducible refine And.intro (?_ : regOk _ _ = true) ?_; kernel_rfl) | (with_reducible refine And.intro ?_ ?_; first | omega | assumption | (focus (decide)) | (focus (simp; done)) | (focus (simp; omega)) | (focus (constructor <;> omega)) | fail))
          refine ⟨(k2 + 1, A, G ++ [z], z), ⟨by simp only; omega, by simp only; omega, by simp; omega, by simpa [Nat.add_assoc] using g4⟩, by simp only; omega, (Weak.auto hcx rfl rfl (Nat.le_of_ble_eq_true rfl) (by simp [go_sem, gL, kL, renOf, V.obj, lk, Nat.blt, Nat.ble, List.map_append, dv_push, hzd, Nat.add_assoc]) (by simp [go_sem, gL, kL, renOf, V.obj, lk, Nat.blt, Nat.ble, List.map_append, dv_push, hzd, Nat.add_assoc]) (by first | (intro i hi; exact absurd hi (Nat.not_lt_zero _)) | (intro i0 hi0; match i0, hi0 with | 0, _ => exact ⟨_, rfl⟩ | n0+1, h0 => exact absurd h0 (Nat.not_lt.2 (Nat.le_add_left 1 n0))) | (intro i0 hi0; match i0, hi0 with | 0, _ => exact ⟨_, rfl⟩ | 1, _ => exact ⟨_, rfl⟩ | n0+2, h0 => exact absurd h0 (Nat.not_lt.2 (Nat.le_add_left 2 n0))) | (intro i0 hi0; match i0, hi0 with | 0, _ => exact ⟨_, rfl⟩ | 1, _ => exact ⟨_, rfl⟩ | 2, _ => exact ⟨_, rfl⟩ | n0+3, h0 => exact absurd h0 (Nat.not_lt.2 (Nat.le_add_left 3 n0))) | (intro i0 hi0; match i0, hi0 with | 0, _ => exact ⟨_, rfl⟩ | 1, _ => exact ⟨_, rfl⟩ | 2, _ => exact ⟨_, rfl⟩ | 3, _ => exact ⟨_, rfl⟩ | n0+4, h0 => exact absurd h0 (Nat.not_lt.2 (Nat.le_add_left 4 n0)))) (by simp [go_sem, gL, kL, lk, renOf, V.obj, Nat.blt, Nat.ble, hzd, Nat.add_assoc]))⟩
        | false =>
          rw [hb2] at heq2 g4
          simp only [Bool.false_eq_true, if_false] at g4
          rcases G with _ | ⟨g0, G⟩
          · have hset : (dv ((A ++ ([] ++ y :: xs.drop (k + k2))).map arD)).set (0 + A.length) (.d (arD z)) = dv (((A ++ [z]) ++ xs.drop (k + k2)).map arD) := by
              have := set_mid (dv (A.map arD)) (V.d (arD y)) (dv ((xs.drop (k + k2)).map arD)) (V.d (arD z))
              simpa [dv] using this
            simp only [List.nil_append, List.cons_append] at e1 e2 hset hlen
            have e3 : (dv ((A ++ y :: xs.drop (k + k2)).map arD))[0 + A.length]? = some (.d (arD y)) := by
              have := get_mid A y (xs.drop (k + k2))
              simp only [dv, Nat.zero_add, List.getElem?_map, this, Option.map_some]
            repeat' (first | (refine AW.sreg rfl fun K hK => ?_; simp only [go_sem, Nat.reduceAdd, Nat.reduceMul, Int.reduceToNat, Nat.reduceLT, Nat.reduceLeDiff, Nat.le_refl, Nat.reduceEqDiff, ↓reduceIte, beq_self_eq_true, bne_self_eq_false, Int.reduceBEq, Int.reduceBNe, or_self, true_or, or_true, Option.map_some, Option.map_none, List.length_map, e1, e2, e3, heq2, hset]) | (refine AW.sregD hmix rfl fun K hK => ?_; simp only [go_sem, Nat.reduceAdd, Nat.reduceMul, Int.reduceToNat, Nat.reduceLT, Nat.reduceLeDiff, Nat.le_refl, Nat.reduceEqDiff, ↓reduceIte, beq_self_eq_true, bne_self_eq_false, Int.reduceBEq, Int.reduceBNe, or_self, true_or, or_true, Option.map_some, Option.map_none, List.length_map, e1, e2, e3, heq2, hset]) | (refine AW.reg rfl ?_; simp only [go_sem, Nat.reduceAdd, Nat.reduceMul, Int.reduceToNat, Nat.reduceLT, Nat.reduceLeDiff, Nat.le_refl, Nat.reduceEqDiff, ↓reduceIte, beq_self_eq_true, bne_self_eq_false, Int.reduceBEq, Int.reduceBNe, or_self, true_or, or_true, Option.map_some, Option.map_none, List.length_map, e1, e2, e3, heq2, hset]) | (refine AW.seq_k fun K hK => ?_) | (refine AW.block ?_) | (refine AW.skip ?_; simp only [Then, InBlock]) | (refine AW.condT rfl (by first | rfl | (simp; omega) | (simp [*]; done) | fail) ?_) | (refine hK _ ?_; clear hK K) | (with_reducible refine And.intro (?_ : regOk _ _ = true) ?_; kernel_rfl) | (with_reducible refine And.intro ?_ ?_; first | omega | assumption | (focus (decide)) | (focus (simp; done)) | (focus (simp; omega)) | (focus (constructor <;> omega)) | fail))
            refine ⟨(k2 + 1, A ++ [z], [], z), ⟨by simp only; omega, by simp only; omega, by simp at g3 ⊢; omega, by simpa [Nat.add_assoc] using g4⟩, by simp only; omega, (Weak.auto hcx rfl rfl (Nat.le_of_ble_eq_true rfl) (by simp [go_sem, gL, kL, renOf, V.obj, lk, Nat.blt, Nat.ble, List.map_append, dv_push, hzd, Nat.add_assoc]) (by simp [go_sem, gL, kL, renOf, V.obj, lk, Nat.blt, Nat.ble, List.map_append, dv_push, hzd, Nat.add_assoc]) (by first | (intro i hi; exact absurd hi (Nat.not_lt_zero _)) | (intro i0 hi0; match i0, hi0 with | 0, _ => exact ⟨_, rfl⟩ | n0+1, h0 => exact absurd h0 (Nat.not_lt.2 (Nat.le_add_left 1 n0))) | (intro i0 hi0; match i0, hi0 with | 0, _ => exact ⟨_, rfl⟩ | 1, _ => exact ⟨_, rfl⟩ | n0+2, h0 => exact absurd h0 (Nat.not_lt.2 (Nat.le_add_left 2 n0))) | (intro i0 hi0; match i0, hi0 with | 0, _ => exact ⟨_, rfl⟩ | 1, _ => exact ⟨_, rfl⟩ | 2, _ => exact ⟨_, rfl⟩ | n0+3, h0 => exact absurd h0 (Nat.not_lt.2 (Nat.le_add_left 3 n0))) | (intro i0 hi0; match i0, hi0 with | 0, _ => exact ⟨_, rfl⟩ | 1, _ => exact ⟨_, rfl⟩ | 2, _ => exact ⟨_, rfl⟩ | 3, _ => exact ⟨_, rfl⟩ | n0+4, h0 => exact absurd h0 (Nat.not_lt.2 (Nat.le_add_left 4 n0)))) (by simp [go_sem, gL, kL, lk, renOf, V.obj, Nat.blt, Nat.ble, hzd, Nat.add_assoc]))⟩
          · have hset : (dv ((A ++ ((g0 :: G) ++ y :: xs.drop (k + k2))).map arD)).set (0 + A.length) (.d (arD z)) = dv (((A ++ [z]) ++ (G ++ y :: xs.drop (k + k2))).map arD) := by
              have := set_mid (dv (A.map arD)) (V.d (arD g0)) (dv ((G ++ y :: xs.drop (k + k2)).map arD)) (V.d (arD z))
              simpa [dv] using this
            simp only [List.nil_append, List.cons_append] at e1 e2 hset hlen
            have e3 : (dv ((A ++ g0 :: (G ++ y :: xs.drop (k + k2))).map arD))[0 + A.length]? = some (.d (arD g0)) := by
              have := get_mid A g0 (G ++ y :: xs.drop (k + k2))
              simp only [dv, Nat.zero_add, List.getElem?_map, this, Option.map_some]
            repeat' (first | (refine AW.sreg rfl fun K hK => ?_; simp only [go_sem, Nat.reduceAdd, Nat.reduceMul, Int.reduceToNat, Nat.reduceLT, Nat.reduceLeDiff, Nat.le_refl, Nat.reduceEqDiff, ↓reduceIte, beq_self_eq_true, bne_self_eq_false, Int.reduceBEq, Int.reduceBNe, or_self, true_or, or_true, Option.map_some, Option.map_none, List.length_map, e1, e2, e3, heq2, hset]) | (refine AW.sregD hmix rfl fun K hK => ?_; simp only [go_sem, Nat.reduceAdd, Nat.reduceMul, Int.reduceToNat, Nat.reduceLT, Nat.reduceLeDiff, Nat.le_refl, Nat.reduceEqDiff, ↓reduceIte, beq_self_eq_true, bne_self_eq_false, Int.reduceBEq, Int.reduceBNe, or_self, true_or, or_true, Option.map_some, Option.map_none, List.length_map, e1, e2, e3, heq2, hset]) | (refine AW.reg rfl ?_; simp only [go_sem, Nat.reduceAdd, Nat.reduceMul, Int.reduceToNat, Nat.reduceLT, Nat.reduceLeDiff, Nat.le_refl, Nat.reduceEqDiff, ↓reduceIte, beq_self_eq_true, bne_self_eq_false, Int.reduceBEq, Int.reduceBNe, or_self, true_or, or_true, Option.map_some, Option.map_none, List.length_map, e1, e2, e3, heq2, hset]) | (refine AW.seq_k fun K hK => ?_) | (refine AW.block ?_) | (refine AW.skip ?_; simp only [Then, InBlock]) | (refine AW.condT rfl (by first | rfl | (simp; omega) | (simp [*]; done) | fail) ?_) | (refine hK _ ?_; clear hK K) | (with_reducible refine And.intro (?_ : regOk _ _ = true) ?_; kernel_rfl) | (with_reducible refine And.intro ?_ ?_; first | omega | assumption | (focus (decide)) | (focus (simp; done)) | (focus (simp; omega)) | (focus (constructor <;> omega)) | fail))
            refine ⟨(k2 + 1, A ++ [z], G ++ [y], z), ⟨by simp only; omega, by simp only; omega, by simp at g3 ⊢; omega, by simpa [Nat.add_assoc] using g4⟩, by simp only; omega, (Weak.auto hcx rfl rfl (Nat.le_of_ble_eq_true rfl) (by simp [go_sem, gL, kL, renOf, V.obj, lk, Nat.blt, Nat.ble, List.map_append, dv_push, hzd, Nat.add_assoc]) (by simp [go_sem, gL, kL, renOf, V.obj, lk, Nat.blt, Nat.ble, List.map_append, dv_push, hzd, Nat.add_assoc]) (by first | (intro i hi; exact absurd hi (Nat.not_lt_zero _)) | (intro i0 hi0; match i0, hi0 with | 0, _ => exact ⟨_, rfl⟩ | n0+1, h0 => exact absurd h0 (Nat.not_lt.2 (Nat.le_add_left 1 n0))) | (intro i0 hi0; match i0, hi0 with | 0, _ => exact ⟨_, rfl⟩ | 1, _ => exact ⟨_, rfl⟩ | n0+2, h0 => exact absurd h0 (Nat.not_lt.2 (Nat.le_add_left 2 n0))) | (intro i0 hi0; match i0, hi0 with | 0, _ => exact ⟨_, rfl⟩ | 1, _ => exact ⟨_, rfl⟩ | 2, _ => exact ⟨_, rfl⟩ | n0+3, h0 => exact absurd h0 (Nat.not_lt.2 (Nat.le_add_left 3 n0))) | (intro i0 hi0; match i0, hi0 with | 0, _ => exact ⟨_, rfl⟩ | 1, _ => exact ⟨_, rfl⟩ | 2, _ => exact ⟨_, rfl⟩ | 3, _ => exact ⟨_, rfl⟩ | n0+4, h0 => exact absurd h0 (Nat.not_lt.2 (Nat.le_add_left 4 n0)))) (by simp [go_sem, gL, kL, lk, renOf, V.obj, Nat.blt, Nat.ble, hzd, Nat.add_assoc]))⟩
      · have hn : k + k2 = xs.length := by omega
        rw [hn, List.drop_length, ctM, List.append_nil] at g4
        subst g4
        have hcl : (dv ((compactM xs ++ (G ++ [y])).map arD)).take (0 + (compactM xs).length) ++ List.replicate (xs.length - (compactM xs).length) (V.d (arD ([], 0, 0, [], []))) ++ (dv ((compactM xs ++ (G ++ [y])).map arD)).drop (0 + (compactM xs).length + (xs.length - (compactM xs).length)) = dv ((compactM xs).map arD ++ List.replicate (xs.length - (compactM xs).length) (arD ([], 0, 0, [], []))) := by
          rw [List.drop_eq_nil_of_le (by simp [dv]; omega), List.append_nil]
          simp [dv]
        repeat' (first | (refine AW.sreg rfl fun K hK => ?_; simp only [go_sem, Nat.reduceAdd, Nat.reduceMul, Int.reduceToNat, Nat.reduceLT, Nat.reduceLeDiff, Nat.le_refl, Nat.reduceEqDiff, ↓reduceIte, beq_self_eq_true, bne_self_eq_false, Int.reduceBEq, Int.reduceBNe, or_self, true_or, or_true, Option.map_some, Option.map_none, List.length_map, hn, List.drop_length, hcl]) | (refine AW.seq_k fun K hK => ?_) | (refine AW.exit ?_; simp only [go_sem, ↓reduceIte]) | (refine AW.condF rfl (by first | rfl | (simp; omega) | (simp [*]; done) | fail) ?_) | (refine hK _ ?_; clear hK K) | (clear hK K; refine hK _ ?_; clear hK K) | (with_reducible refine And.intro ?_ ?_; first | omega | assumption | (focus (decide)) | (focus (simp; done)) | (focus (simp; omega)) | (focus (constructor <;> omega)) | fail))
        exact AW.ret (Fin.one rfl (by simp [go_sem]) ⟨_, rfl, by simp [go_sem]⟩ rfl (by simp [go_sem]) rfl)
  · obtain rfl : k = xs.length := by omega
    obtain ⟨y, hy, -, -⟩ := get_some (show xs.length - 1 < xs.length by omega)
    replace h3 := h3 y hy
    simp only [List.take_length, List.drop_length, ctM, List.append_nil] at h3
    replace h3 := h3.symm
    clear hxs hy h1 h2
    repeat' (first | (refine AW.sreg rfl fun K hK => ?_; simp only [go_sem, Nat.reduceAdd, Nat.reduceMul, Int.reduceToNat, Nat.reduceLT, Nat.reduceLeDiff, Nat.le_refl, Nat.reduceEqDiff, ↓reduceIte, beq_self_eq_true, bne_self_eq_false, Int.reduceBEq, Int.reduceBNe, or_self, true_or, or_true, Option.map_some, Option.map_none, List.length_map]) | (refine AW.seq_k fun K hK => ?_) | (refine AW.exit ?_; simp only [go_sem, ↓reduceIte]) | (refine AW.condF rfl (by first | rfl | (simp; omega) | (simp [*]; done) | fail) ?_) | (refine hK _ ?_; clear hK K) | (clear hK K; refine hK _ ?_; clear hK K))
    exact AW.ret (Fin.one rfl (by simp [go_sem, h3]) ⟨_, rfl, by simp [go_sem, h3]⟩ rfl (by simp [go_sem]) rfl)

end Go.AX

namespace Go.AX
open Go Go.Proofs Go.RowKit Go.Maps Go.Sort Go.Shelf
open Go.WideElems (rd rg Fit)
open Go.MapKept (Stamped)
/-- How any value reads: the relation that the keys' contract leaves free. -/
def anyR (_ : Value) : Option (DataW Unit × List MemPlace) := some (.lit (.bool true), [])
theorem RDcs_at {w : World} {ok : Nat → Prop} {c : Array Value} : ∀ (xs : List D) (p i : Nat) (x : D), RDcs w ok c p xs → xs[i]? = some x → ∃ v, c[p + i]? = some v ∧ RD w ok x v
  | [], _, i, _, _, h => by simp at h
  | y :: ys, p, i, x, h, hi => by
    simp only [RDcs] at h
    cases i with
    | zero => simp at hi; subst hi; exact h.1
    | succ i =>
      obtain ⟨v, h1, h2⟩ := RDcs_at ys (p + 1) i x h.2 (by simpa using hi)
      exact ⟨v, by rw [← h1]; congr 1; omega, h2⟩
theorem keys_read {w : World} {ok : Nat → Prop} {es : Array MapEntry} {ks : List (List UInt8)} (hs : es.size = ks.length) (h : RDcs w ok (es.map (·.key)) 0 (ks.map D.str)) : es.toList.map (·.key) = ks.map fun s => Value.string ⟨s.toArray⟩ := by
  refine List.ext_getElem? fun i => ?_
  by_cases hi : i < ks.length
  · obtain ⟨v, h1, h2⟩ := RDcs_at (ks.map D.str) 0 i (.str ks[i]) h (by rw [List.getElem?_map, List.getElem?_eq_getElem hi]; rfl)
    simp only [RD] at h2
    subst h2
    rw [Nat.zero_add, Array.getElem?_map] at h1
    rw [List.getElem?_map, List.getElem?_map, List.getElem?_eq_getElem hi, Array.getElem?_toList]
    exact h1
  · rw [List.getElem?_eq_none (by simp; omega), List.getElem?_eq_none (by simp; omega)]
theorem strV_inj {a b : List UInt8} (h : Value.string ⟨a.toArray⟩ = Value.string ⟨b.toArray⟩) : a = b := by
  injection h with h
  injection h with h
  simpa using h
/-- A map that reads so is one of the kit's. -/
theorem own_of {P : Program} {kt : TypeId} (hk : P.underlying kt = some .string) {w : World} {ok : Nat → Prop} {b : Nat} {es : Array MapEntry} {clock : Nat} {ks : List (List UInt8)} (hb : w.heap[b]? = some (.map es clock)) (hB : Births es clock) (hs : es.size = ks.length)
    (hr : RDcs w ok (es.map (·.key)) 0 (ks.map D.str)) (hl : ks.length ≤ 1000) (hkl : ∀ k ∈ ks, k.length ≤ 1000000) (hnd : ks.Nodup) :
    ∃ D0 : DataW Unit, w.ownsMap P kt anyR b ks.length D0 ∧ ks.Perm (strKeys D0) ∧ Maps.size D0 = ks.length := by
  have hkeys := keys_read hs hr
  have hrd : ∀ x ∈ es.toList, ∃ s, s ∈ ks ∧ x.key = .string ⟨s.toArray⟩ ∧ rd P kt anyR x = some (.string s, .lit (.bool true)) := by
    intro x hx
    have : x.key ∈ es.toList.map (·.key) := List.mem_map_of_mem hx
    rw [hkeys] at this
    obtain ⟨s, hsm, he⟩ := List.mem_map.1 this
    have hsl := hkl s hsm
    refine ⟨s, hsm, he.symm, ?_⟩
    have hko : keyOf P kt x.key = some (.string s) := by
      rw [← he]
      simp [keyOf, hk, mapKey, ByteArray.size, maxLen]
      omega
    simp [Go.WideElems.rd, hko, anyR]
  refine ⟨_, ⟨es, clock, hb, ⟨?_, ⟨?_, ?_, ?_⟩, ?_⟩, Nat.le_of_eq hs, rfl⟩, ?_, ?_⟩
  · rw [hs]; simp [maxLen]; omega
  · intro x hx
    obtain ⟨i, hi⟩ := List.mem_iff_getElem?.1 hx
    rw [Array.getElem?_toList] at hi
    have h1 := hB.2 i x hi
    have h2 : i < es.size := by
      rcases Nat.lt_or_ge i es.size with h' | h'
      · exact h'
      · simp [Array.getElem?_eq_none h'] at hi
    rw [h1, hB.1]; exact h2
  · rw [List.nodup_iff_pairwise_ne, List.pairwise_map, List.pairwise_iff_getElem]
    intro i j hi hj hij e
    have h1 := hB.2 i _ (by rw [← Array.getElem?_toList]; exact List.getElem?_eq_getElem hi)
    have h2 := hB.2 j _ (by rw [← Array.getElem?_toList]; exact List.getElem?_eq_getElem hj)
    omega
  · rw [hkeys]
    rw [List.nodup_iff_pairwise_ne, List.pairwise_map]
    exact (List.nodup_iff_pairwise_ne.1 hnd).imp fun h e => h (strV_inj e)
  · intro x hx
    obtain ⟨s, _, _, h⟩ := hrd x hx
    exact ⟨_, h⟩
  · have hperm : ∀ l : List (Lit × DataW Unit), (l.foldr DataW.insert []).Perm l := by
      intro l
      induction l with
      | nil => exact List.Perm.nil
      | cons x r ih => exact (Go.WideShapes.insert_perm x _).trans (List.Perm.cons x ih)
    have hp := (hperm (es.toList.map (rg P kt anyR))).map fun p => Go.strOf p.1
    have e : (es.toList.map (rg P kt anyR)).map (fun p => Go.strOf p.1) = ks := by
      rw [List.map_map]
      have : ks = (es.toList.map (·.key)).map fun v => match v with | .string b => b.data.toList | _ => [] := by
        rw [hkeys, List.map_map]
        simp [Function.comp_def]
      rw [this, List.map_map]
      refine List.map_congr_left fun x hx => ?_
      obtain ⟨s, _, h1, h2⟩ := hrd x hx
      simp only [Function.comp_apply, Go.WideElems.rg, h2, Option.getD_some, Go.strOf, h1]
    rw [e] at hp
    exact hp.symm
  · show ((es.toList.map (rg P kt anyR)).foldr DataW.insert []).length = ks.length
    have : ∀ l : List (Lit × DataW Unit), (l.foldr DataW.insert []).length = l.length := by
      intro l
      induction l with
      | nil => rfl
      | cons x r ih => simp [DataW.length_insert, ih]
    rw [this]
    simp [hs]
/-- slices.Sort's two contracts. -/
theorem sortsIn (m : Nat) : AnyZ.SortsIn Tryz.prog Tryz.sorted38_ren Fence.wide m :=
  ⟨fun blk off cap ss W hH hblk hsz => callsIn_wide.2 (AnyM.slices_Sort_string Tryz.sort64 blk off cap ss W hH hblk hsz),
   fun p cap W => callsIn_wide.2 (AnyM.slices_Sort_string_none Tryz.sort64 p cap W)⟩
/-- The keys of a map, sorted. -/
theorem sortedKeys_does (ks : List (List UInt8)) (ds : List D) (hl : ks.length ≤ 1000) (hkl : ∀ k ∈ ks, k.length ≤ 1000000) (hnd : ks.Nodup) :
    Does Tryz.prog 38 [.fn 65 [.ptr 0 0]] [.box 75 [.d (.map (ks.map D.str) ds)]] (.d (.sl ((ks.mergeSort fun x y => decide (x ≤ y)).map D.str))) [.dead] := by
  refine ⟨⟨Tryz.f38, Tryz.func38, rfl, by kernel_rfl⟩, fun cx σ w vs hgl hr hfr hp1 hp2 hpb hargs => ?_⟩
  have ho := hr.own 0 _ rfl
  obtain ⟨bx, K, s, c, fr, hσ, hbx, -, hvl⟩ := ho
  simp only [RVl, RV, hσ] at hvl hargs
  obtain ⟨mv, us, hc, hmv, hus⟩ := hvl
  obtain ⟨fv, us2, hvs, ⟨c2, rfl, pv, us3, hc2, ⟨b', K', s', hb', rfl⟩, hus3⟩, hus2⟩ := hargs
  cases hb'
  subst hus2 hus3 hus
  obtain rfl : vs = #[.func (.func 65) #[] #[.pointer (some ⟨bx, 0, none⟩)]] := by
    obtain rfl : c2 = #[.pointer (some ⟨bx, 0, none⟩)] := by cases c2; simp_all
    cases vs; simp_all
  have hlt : bx < w.heap.size := by
    rcases Nat.lt_or_ge bx w.heap.size with h' | h'
    · exact h'
    · simp [Array.getElem?_eq_none h'] at hbx
  have hcell : w.cell? ⟨bx, 0, none⟩ = some mv := by
    have : c[0]? = some mv := by
      have := congrArg (·[0]?) hc
      simpa using this
    simpa [World.cell?, hbx] using this
  simp only [RD] at hmv
  have hend : ∀ (e : Ending) (w' : World), (∃ (v : Value) (ss : List (List UInt8)), e = .returned v ∧ ss.Perm ks ∧ w'.ownsRow w.heap.size 9 1 v ss.length ((ss.mergeSort (fun x y => decide (x ≤ y))).map encStr) ∧ Below w.heap.size w w') →
      ∃ v, e = .returned v ∧ ∃ σ', HR cx (hvL [O.dead]) σ' w' ∧ (∀ i l, i < 1 → σ i = some l → σ' i = some l) ∧ (∀ i, 1 ≤ i → σ' i = none) ∧ RV w' (okB cx w' (hvL [O.dead]) σ') σ' (.d (.sl ((ks.mergeSort fun x y => decide (x ≤ y)).map D.str))) v := by
    rintro e w' ⟨v, ss, rfl, hp, hrow, hb⟩
    refine ⟨v, rfl, σ, ?_, fun i l _ h => h, hfr, ?_⟩
    · constructor
      · rw [hb.os]; exact hr.os
      · rw [hb.tape]; exact hr.tape
      · rw [hb.output]; exact hr.output
      · exact Nat.le_trans hr.size hb.size
      · intro b h1 h2; rw [hb.block b (Nat.lt_of_lt_of_le h1 hr.size)]; exact hr.frame b h1 h2
      · intro i o ho
        exfalso
        rcases i with _ | i
        · simp [hvL, O.lv] at ho
        · simp [hvL, O.lv] at ho
      · intro i o b K s ho
        exfalso
        rcases i with _ | i
        · simp [hvL, O.lv] at ho
        · simp [hvL, O.lv] at ho
      · intro i j o o' b K s K' s' ho
        exfalso
        rcases i with _ | i
        · simp [hvL, O.lv] at ho
        · simp [hvL, O.lv] at ho
    · have hms := mergeSort_of_perm hp
      rw [show (ss.mergeSort fun x y => decide (x ≤ y)) = ks.mergeSort fun x y => decide (x ≤ y) from hms] at hrow
      simp only [RV, RD]
      rcases hrow.2 with ⟨rfl, hz⟩ | ⟨g, cap, cur, rfl, hbase, hgb, r1, r2, r3, r4⟩
      · have h0 : ks = [] := by
          have := hp.length_eq
          rw [hz] at this
          exact List.eq_nil_of_length_eq_zero this.symm
        subst h0
        exact ⟨none, 0, 0, rfl, by simp, by omega, .inl (by simp)⟩
      · refine ⟨_, _, _, rfl, by simp [hp.length_eq], r1, .inr ⟨g, 0, cur, _, _, 1, rfl, ⟨.inr (Nat.le_trans hr.size hbase), ?_, ?_⟩, hgb, ?_⟩⟩
        · rcases Nat.lt_or_ge g w'.heap.size with h' | h'
          · exact h'
          · simp [Array.getElem?_eq_none h'] at hgb
        · intro id o K s ho
          rcases id with _ | id
          · simp [hvL, O.lv] at ho
          · simp [hvL, O.lv] at ho
        · have hq : ∀ (zs : List (List UInt8)) (pre : List Value) (cu : Array Value), cu.toList.take (pre.length + zs.length) = pre ++ zs.map encStr → RDels w' (okB cx w' (hvL [O.dead]) σ) cu 1 pre.length (zs.map D.str) := by
            intro zs
            induction zs with
            | nil => intro pre cu _; simp [RDels]
            | cons z zs ih =>
              intro pre cu h
              have h2 := ih (pre ++ [encStr z]) cu (by simpa [Nat.add_assoc, Nat.add_comm 1] using h)
              simp only [List.length_append, List.length_cons, List.length_nil] at h2
              simp only [List.map_cons, RDels]
              refine ⟨⟨encStr z, ?_, by simp only [RD, encStr]⟩, h2⟩
              have h3 : cu[pre.length]? = some (encStr z) := by
                have := congrArg (·[pre.length]?) h
                rw [List.getElem?_take] at this
                simpa using this
              exact ⟨rfl, h3⟩
          have hl2 : (ks.mergeSort fun x y => decide (x ≤ y)).length = ss.length := by rw [List.length_mergeSort, hp.length_eq]
          refine hq _ [] cur ?_
          rw [List.length_nil, Nat.zero_add, hl2]
          simpa using r4
  have hfin : ∀ (S : List (List UInt8) → Prop) (N : Nat), (∀ ss, S ss → ss.Perm ks) → N ≤ maxLen → N * 16 ≤ 140737488355328 → SeqGives Fence.wide 2 Tryz.prog 65 #[.pointer (some ⟨bx, 0, none⟩)] encStr S N w →
      Calls Tryz.prog 38 #[.func (.func 65) #[] #[.pointer (some ⟨bx, 0, none⟩)]] w fun e w' => ∃ v, e = .returned v ∧ ∃ σ', HR cx (hvL [O.dead]) σ' w' ∧ (∀ i l, i < 1 → σ i = some l → σ' i = some l) ∧ (∀ i, 1 ≤ i → σ' i = none) ∧ RV w' (okB cx w' (hvL [O.dead]) σ') σ' (.d (.sl ((ks.mergeSort fun x y => decide (x ≤ y)).map D.str))) v := by
    intro S N hS hN hN2 hseq
    refine (callsIn_wide (n := 5)).1 ?_
    refine (AnyZ.sorted_in Tryz.sorted38 Fence.wide 5 trivial trivial trivial trivial rfl (by omega) (sortsIn _) (enters_of Tryz.func64 (by kernel_rfl) rfl) 65 #[.pointer (some ⟨bx, 0, none⟩)] trivial (enters_of Tryz.func65 (by kernel_rfl) rfl) S N hN hN2 w hseq).mono ?_
    rintro e w' ⟨v, ss, rfl, hSs, hrow, _, hb⟩
    exact hend _ _ ⟨v, ss, rfl, hS _ hSs, hrow, hb⟩
  obtain ⟨r, rfl, hmap⟩ := hmv
  rcases hmap with ⟨rfl, hks, -⟩ | ⟨b, es, clock, rfl, hokb, hbm, hB, hsz, -, hk, -⟩
  · have h0 : ks = [] := by simpa using hks
    subst h0
    refine hfin (fun ss => ss = []) 0 (fun ss h => by rw [h]) (Nat.zero_le _) (by omega) ?_
    exact AnyZ.keys_gives_nil (ρ := Tryz.keys39_ren) { Tryz.keys39 with } Fence.wide _ trivial rfl bx _ hlt hcell
  · obtain ⟨D0, hown, hperm, hsize⟩ := own_of (P := Tryz.prog) (kt := 9) Tryz.underlying9 hbm hB (by simpa using hsz) hk hl hkl hnd
    refine hfin (fun ss => ss.Perm (strKeys D0)) (Maps.size D0) (fun ss h => h.trans hperm.symm) (by rw [hsize]; simp [maxLen]; omega) (by rw [hsize]; omega) ?_
    exact AnyZ.keys_gives (ρ := Tryz.keys39_ren) { Tryz.keys39 with } Fence.wide _ trivial rfl (by omega) bx b ks.length D0 _ hlt hcell hown
theorem mapsKeys_any (ks vs : List D) : Does Tryz.prog 39 [.d (.map ks vs)] [] (.fn 65 [.ptr 0 0]) [.box 75 [.d (.map ks vs)]] := by
  refine Does.of_AW (n := 4) Tryz.func39 rfl rfl rfl fun cx hcx => ?_
  repeat' (first | (refine AW.sreg rfl fun K hK => ?_; simp only [go_sem, Nat.reduceAdd, Nat.reduceMul, Int.reduceToNat, Nat.reduceLT, Nat.reduceLeDiff, Nat.le_refl, Nat.reduceEqDiff, ↓reduceIte, beq_self_eq_true, bne_self_eq_false, Int.reduceBEq, Int.reduceBNe, or_self, true_or, or_true, Option.map_some, Option.map_none]) | (refine hK _ ?_; clear hK K))
  exact AW.ret (Fin.objs [0] rfl (by simp [go_sem, inI, gI]) ⟨⟨_, rfl, by simp [go_sem, inI, gI]⟩, trivial⟩ (by simp) rfl (by simp [go_sem]) (by simp [go_sem]) rfl)
theorem ltS_lt : ∀ {x y : List UInt8}, ltS x y = true → x < y
  | [], [], h => by simp [ltS, Op.bytesLess] at h
  | [], b :: y, _ => List.nil_lt_cons b y
  | a :: x, [], h => by simp [ltS, Op.bytesLess] at h
  | a :: x, b :: y, h => by
    rw [ltS_cons] at h
    rw [List.cons_lt_cons_iff]
    rcases h with h | ⟨rfl, h⟩
    · exact .inl (UInt8.lt_iff_toNat_lt.2 h)
    · exact .inr ⟨rfl, ltS_lt h⟩
/-- What rises is sorted. -/
theorem mergeSort_rise {l : List (List UInt8)} (h : l.Pairwise fun a b => ltS a b = true) : (l.mergeSort fun x y => decide (x ≤ y)) = l :=
  List.mergeSort_of_pairwise (h.imp fun h => decide_eq_true (List.le_of_lt (ltS_lt h)))
end Go.AX
