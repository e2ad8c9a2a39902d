/- Agreement: the walk. -/
import Derived.Test.YtmcchfkclhpbhaaGreatDoorUD
import Derived.Test.YtmcchfkclhpbhaaGreatDoorUE
import Derived.Test.YtmcchfkclhpbhaaGreatDoorUB
set_option linter.unusedSimpArgs false
set_option linter.unusedVariables false
set_option linter.unnecessarySimpa false
set_option maxRecDepth 1000000
set_option maxHeartbeats 4000000
namespace Go.AX
open Go Go.Proofs Go.RowKit
theorem scs_snoc {ms : List Mk} {i : Nat} {x : Mk} (hx : ms[i]? = some x) : scs (ms.take (i + 1)) = scs (ms.take i) ++ [x.2.2] := by
  rw [List.take_add_one, hx, Option.toList_some, scs_app]
  rfl
theorem take_in {ms : List Mk} (h : In10 (scs ms)) (i : Nat) : In10 (scs (ms.take i)) := by
  intro x hx
  obtain ⟨m, hm, rfl⟩ := List.mem_map.1 hx
  exact h _ (List.mem_map_of_mem (List.mem_of_mem_take hm))
theorem sums_any (ms : List Mk) (hl : ms.length ≤ 1000) (h : In10 (scs ms)) : Does Tryz.prog 79 [.d (.sl (ms.map mkD))] [] (.tup [I (sm (scs ms)), I (sq (scs ms))]) [] := by
  refine Does.of_AW (n := 26) Tryz.func79 rfl rfl rfl fun cx hcx => ?_
  repeat' (first | (refine AW.sreg rfl fun K hK => ?_; simp only [go_sem, Nat.reduceAdd, Nat.reduceMul, Int.reduceToNat, Nat.reduceLT, Nat.reduceLeDiff, Nat.le_refl, Nat.reduceEqDiff, ↓reduceIte, beq_self_eq_true, bne_self_eq_false, Int.reduceBEq, Int.reduceBNe, or_self, true_or, or_true, Option.map_some, Option.map_none, List.length_map]) | (refine AW.seq_k fun K hK => ?_) | (refine AW.block ?_) | (refine hK _ ?_; clear hK K))
  refine AW.loopF (ι := Nat) [6, 7] (fun p => [(2, I (sm (scs (ms.take p)))), (3, I (sq (scs (ms.take p)))), (8, I p)]) (fun p => []) 5 (fun p => p ≤ ms.length) (fun p => ms.length - p) 0 (Nat.zero_le _) (Weak.auto hcx rfl rfl (Nat.le_of_ble_eq_true rfl) (by simp [go_sem, gL, kL, renOf, V.obj, lk, Nat.blt, Nat.ble, List.map_append, dv_push, scs, sm, sq, List.take_zero, List.map_nil]) (by simp [go_sem, gL, kL, renOf, V.obj, lk, Nat.blt, Nat.ble, List.map_append, dv_push, scs, sm, sq, List.take_zero, List.map_nil]) (by first | (intro i hi; exact absurd hi (Nat.not_lt_zero _)) | (intro i0 hi0; match i0, hi0 with | 0, _ => exact ⟨_, rfl⟩ | n0+1, h0 => exact absurd h0 (Nat.not_lt.2 (Nat.le_add_left 1 n0))) | (intro i0 hi0; match i0, hi0 with | 0, _ => exact ⟨_, rfl⟩ | 1, _ => exact ⟨_, rfl⟩ | n0+2, h0 => exact absurd h0 (Nat.not_lt.2 (Nat.le_add_left 2 n0))) | (intro i0 hi0; match i0, hi0 with | 0, _ => exact ⟨_, rfl⟩ | 1, _ => exact ⟨_, rfl⟩ | 2, _ => exact ⟨_, rfl⟩ | n0+3, h0 => exact absurd h0 (Nat.not_lt.2 (Nat.le_add_left 3 n0))) | (intro i0 hi0; match i0, hi0 with | 0, _ => exact ⟨_, rfl⟩ | 1, _ => exact ⟨_, rfl⟩ | 2, _ => exact ⟨_, rfl⟩ | 3, _ => exact ⟨_, rfl⟩ | n0+4, h0 => exact absurd h0 (Nat.not_lt.2 (Nat.le_add_left 4 n0)))) (by simp [go_sem, gL, kL, lk, renOf, V.obj, Nat.blt, Nat.ble, scs, sm, sq, List.take_zero, List.map_nil])) ?_; simp only [St.at_nil, St.at_cons, lk, Nat.reduceEqDiff, ↓reduceIte, Option.getD_some, Option.getD_none, List.cons_append, List.nil_append, List.append_nil]
  intro i h1
  by_cases hi : i < ms.length
  · obtain ⟨x, hx, hxm, -⟩ := get_some hi
    have hget : (ms.map mkD)[i]? = some (mkD x) := by simp only [List.getElem?_map, hx, Option.map_some]
    have hs := scs_snoc hx
    have h2 := take_in h i
    have r1 := sm_range h2
    have r2 := sq_range h2
    rw [scs_len, List.length_take] at r1 r2
    have hxs := h x.2.2 (List.mem_map_of_mem hxm)
    have e1 := sm_snoc (scs (ms.take i)) x.2.2
    have e2 := sq_snoc (scs (ms.take i)) x.2.2
    rw [← hs] at e1 e2
    have r3 : 0 ≤ x.2.2 * x.2.2 ∧ x.2.2 * x.2.2 ≤ 10 * 10 := ⟨sq_pos _, Int.mul_le_mul hxs.2 hxs.2 hxs.1 (by omega)⟩
    generalize sm (scs (ms.take i)) = a at *
    generalize sq (scs (ms.take i)) = b at *
    repeat' (first | ((first | refine AW.sreg rfl fun K hK => ?_ | refine AW.reg rfl ?_ | refine AW.regD hmix rfl ?_); simp only [go_sem, Nat.reduceAdd, Nat.reduceMul, Int.reduceToNat, Nat.reduceLT, Nat.reduceLeDiff, Nat.le_refl, Nat.reduceEqDiff, ↓reduceIte, beq_self_eq_true, bne_self_eq_false, Int.reduceBEq, Int.reduceBNe, or_self, true_or, or_true, Option.map_some, Option.map_none, List.length_map, hget]) | (refine AW.seq_k fun K hK => ?_) | (refine AW.block ?_) | (refine AW.skip ?_; simp only [Then, InBlock]) | (refine AW.condT rfl (by first | rfl | (simp; omega) | (simp [*]; done) | fail) ?_) | (refine hK _ ?_; clear hK K) | (with_reducible refine And.intro (?_ : regOk _ _ = true) ?_; kernel_rfl) | (with_reducible refine And.intro ?_ ?_; first | omega | assumption | (focus (decide)) | (focus (simp; done)) | (focus (simp; omega)) | (focus (constructor <;> omega)) | fail))
    exact ⟨i + 1, hi, by omega, (Weak.auto hcx rfl rfl (Nat.le_of_ble_eq_true rfl) (by simp [go_sem, gL, kL, renOf, V.obj, lk, Nat.blt, Nat.ble, List.map_append, dv_push, e1, e2]) (by simp [go_sem, gL, kL, renOf, V.obj, lk, Nat.blt, Nat.ble, List.map_append, dv_push, e1, e2]) (by first | (intro i hi; exact absurd hi (Nat.not_lt_zero _)) | (intro i0 hi0; match i0, hi0 with | 0, _ => exact ⟨_, rfl⟩ | n0+1, h0 => exact absurd h0 (Nat.not_lt.2 (Nat.le_add_left 1 n0))) | (intro i0 hi0; match i0, hi0 with | 0, _ => exact ⟨_, rfl⟩ | 1, _ => exact ⟨_, rfl⟩ | n0+2, h0 => exact absurd h0 (Nat.not_lt.2 (Nat.le_add_left 2 n0))) | (intro i0 hi0; match i0, hi0 with | 0, _ => exact ⟨_, rfl⟩ | 1, _ => exact ⟨_, rfl⟩ | 2, _ => exact ⟨_, rfl⟩ | n0+3, h0 => exact absurd h0 (Nat.not_lt.2 (Nat.le_add_left 3 n0))) | (intro i0 hi0; match i0, hi0 with | 0, _ => exact ⟨_, rfl⟩ | 1, _ => exact ⟨_, rfl⟩ | 2, _ => exact ⟨_, rfl⟩ | 3, _ => exact ⟨_, rfl⟩ | n0+4, h0 => exact absurd h0 (Nat.not_lt.2 (Nat.le_add_left 4 n0)))) (by simp [go_sem, gL, kL, lk, renOf, V.obj, Nat.blt, Nat.ble, e1, e2]))⟩
  · obtain rfl : i = ms.length := by omega
    rw [List.take_length]
    repeat' (first | (refine AW.sreg rfl fun K hK => ?_; simp only [go_sem, Nat.reduceAdd, Nat.reduceMul, Int.reduceToNat, Nat.reduceLT, Nat.reduceLeDiff, Nat.le_refl, Nat.reduceEqDiff, ↓reduceIte, beq_self_eq_true, bne_self_eq_false, Int.reduceBEq, Int.reduceBNe, or_self, true_or, or_true, Option.map_some, Option.map_none, List.length_map]) | (refine AW.seq_k fun K hK => ?_) | (refine AW.exit ?_; simp only [go_sem, ↓reduceIte]) | (refine AW.condF rfl (by first | rfl | (simp; omega) | (simp [*]; done) | fail) ?_) | (refine hK _ ?_; clear hK K) | (clear hK K; refine hK _ ?_; clear hK K) | (refine AW.ret (Fin.data rfl (by first | (simp only [go_sem]; done) | (simp [go_sem, *]; done) | (simp [go_sem]; omega) | rfl) rfl)))
theorem apart_any (ms : List Mk) (hl : ms.length ≤ 1000) (h : In10 (scs ms)) : Does Tryz.prog 40 [.d (.sl (ms.map mkD))] [] (I (2 * apA (scs ms))) [] := by
  have hs := sums_any ms hl h
  have r1 := sm_range h
  have r2 := sq_range h
  have r0 := apA_pos (scs ms)
  have r4 := apA_le h
  unfold apA at *
  rw [scs_len] at *
  generalize sm (scs ms) = a at *
  generalize sq (scs ms) = b at *
  have m1 : 0 ≤ (ms.length : Int) * b ∧ (ms.length : Int) * b ≤ 1000 * (100 * 1000) := ⟨Int.mul_nonneg (by omega) r2.1, Int.mul_le_mul (by omega) (by omega) r2.1 (by omega)⟩
  have m2 : 0 ≤ a * a ∧ a * a ≤ (10 * 1000) * (10 * 1000) := ⟨sq_pos _, Int.mul_le_mul (by omega) (by omega) r1.1 (by omega)⟩
  clear r4
  refine Does.of_AW (n := 19) Tryz.func40 rfl rfl rfl fun cx hcx => ?_
  repeat' (first | ((first | refine AW.sreg rfl fun K hK => ?_ | refine run_call _ _ _ ((hs).pure rfl rfl _ _) rfl rfl (dstOk_of rfl) rfl rfl rfl ?_); simp only [go_sem, Nat.reduceAdd, Nat.reduceMul, Int.reduceToNat, Nat.reduceLT, Nat.reduceLeDiff, Nat.le_refl, Nat.reduceEqDiff, ↓reduceIte, beq_self_eq_true, bne_self_eq_false, Int.reduceBEq, Int.reduceBNe, or_self, true_or, or_true, Option.map_some, Option.map_none, List.length_map]) | (refine hK _ ?_; clear hK K) | (with_reducible refine And.intro ?_ ?_; first | omega | assumption | (focus (decide)) | (focus (simp; done)) | (focus (simp; omega)) | (focus (constructor <;> omega)) | fail) | (refine AW.ret (Fin.data rfl (by first | (simp only [go_sem]; done) | (simp [go_sem, *]; done) | (simp [go_sem]; omega) | rfl) rfl)))
theorem plus_any (a b c d : Int) (ha : 0 ≤ a ∧ a ≤ 10000000000) (hb : 1 ≤ b ∧ b ≤ 1000000) (hc : 0 ≤ c ∧ c ≤ 1000000) (hd : 1 ≤ d ∧ d ≤ 1000000) :
    Does Tryz.prog 38 [.d (Fr a b), .d (Fr c d)] [] (.d (Fr (low (a * d + c * b) (b * d)).1 (low (a * d + c * b) (b * d)).2)) [] := by
  have m1 : 0 ≤ a * d ∧ a * d ≤ 10000000000 * 1000000 := ⟨Int.mul_nonneg (by omega) (by omega), Int.mul_le_mul (by omega) (by omega) (by omega) (by omega)⟩
  have m2 : 0 ≤ c * b ∧ c * b ≤ 1000000 * 1000000 := ⟨Int.mul_nonneg (by omega) (by omega), Int.mul_le_mul (by omega) (by omega) (by omega) (by omega)⟩
  have m3 : 1 ≤ b * d ∧ b * d ≤ 1000000 * 1000000 := ⟨by have := Int.mul_le_mul hb.1 hd.1 (by omega) (by omega); omega, Int.mul_le_mul (by omega) (by omega) (by omega) (by omega)⟩
  have hlw := lowest_any (a * d + c * b) (b * d) (by omega) (by omega)
  generalize low (a * d + c * b) (b * d) = r at *
  refine Does.of_AW (n := 22) Tryz.func38 rfl rfl rfl fun cx hcx => ?_
  repeat' (first | ((first | refine AW.sreg rfl fun K hK => ?_ | refine run_call _ _ _ ((hlw).pure rfl rfl _ _) rfl rfl (dstOk_of rfl) rfl rfl rfl ?_); simp only [go_sem, Nat.reduceAdd, Nat.reduceMul, Int.reduceToNat, Nat.reduceLT, Nat.reduceLeDiff, Nat.le_refl, Nat.reduceEqDiff, ↓reduceIte, beq_self_eq_true, bne_self_eq_false, Int.reduceBEq, Int.reduceBNe, or_self, true_or, or_true, Option.map_some, Option.map_none]) | (refine hK _ ?_; clear hK K) | (with_reducible refine And.intro ?_ ?_; first | omega | assumption | (focus (decide)) | (focus (simp; done)) | (focus (simp; omega)) | (focus (constructor <;> omega)) | fail))
  all_goals exact AW.ret (Fin.data rfl (by simp [go_sem, fr_size]) rfl)
theorem zero_ok : Does Tryz.prog 36 [] [] (.d (Fr 0 1)) [] := evalsTo_ok CS_ok hmix (by kernel_rfl)
theorem one_ok : Does Tryz.prog 41 [] [] (.d (Fr 1 1)) [] := evalsTo_ok CS_ok hmix (by kernel_rfl)
theorem scores_ok : Does Tryz.prog 9 [] [] (B true) [] := evalsTo_ok CS_ok hmix (by kernel_rfl)
theorem keys_any (ks : List Str) (vs : List D) (hl : ks.length ≤ 1000) (hkl : ∀ k ∈ ks, k.length ≤ 1000000) (hr : ks.Pairwise (fun a b => ltS a b = true)) : Does Tryz.prog 37 [.d (.map (ks.map D.str) vs)] [] (.d (.sl (ks.map D.str))) [] := by
  have hsk := sortedKeys_does ks vs hl hkl (rise_nodupS hr)
  rw [mergeSort_rise hr] at hsk
  refine Does.of_AW (n := 6) Tryz.func37 rfl rfl rfl fun cx hcx => ?_
  repeat' (first | ((first | refine AW.sreg rfl fun K hK => ?_ | refine run_call _ _ _ ((mapsKeys_any _ _).objs [] trivial rfl (by decide) (by simp [go_sem, renOs]) (by simp) (by simp) (by simp [go_sem]) (by simp [go_sem]) (by simp [go_sem]) (by simp [go_sem])) rfl rfl (dstOk_of rfl) rfl rfl rfl ?_ | refine run_call _ _ _ ((hsk).robjs [_] ⟨(by first | rfl | (simp [go_sem]; done) | (simp [go_sem]; rfl)), trivial⟩ rfl (by decide) (by simp) (by simp) (by simp [go_sem]) (by simp [go_sem]) (by simp [go_sem]) (by simp [go_sem])) rfl rfl (dstOk_of rfl) rfl rfl rfl ?_); simp only [go_sem, Nat.reduceAdd, Nat.reduceMul, Int.reduceToNat, Nat.reduceLT, Nat.reduceLeDiff, Nat.le_refl, Nat.reduceEqDiff, ↓reduceIte, beq_self_eq_true, bne_self_eq_false, Int.reduceBEq, Int.reduceBNe, or_self, true_or, or_true, Option.map_some, Option.map_none, Nat.reduceSub, Nat.add_zero]) | (refine hK _ ?_; clear hK K) | (refine AW.ret (Fin.data rfl (by first | (simp only [go_sem]; done) | (simp [go_sem, *]; done) | (simp [go_sem]; omega) | rfl) rfl)))
/-- What every run of the checks needs of marks. -/
structure MkOk (ms : List Mk) (H : List Str) : Prop where
  len : ms.length ≤ 16
  good : GoodM ms
  hH : H.length ≤ 5
  pe : ∀ m ∈ ms, m.2.1 ∈ H
  sh : ∀ m ∈ ms, m.1.length ≤ 1000 ∧ m.2.1.length ≤ 1000
theorem MkOk.i {ms : List Mk} {H : List Str} (h : MkOk ms H) : In10 (scs ms) := by
  intro x hx
  obtain ⟨m, hm, rfl⟩ := List.mem_map.1 hx
  exact h.good.sc m hm
theorem checkedI (ms : List Mk) (H : List Str) (h : MkOk ms H) : DoesI Tryz.prog 35 [.d (.sl (ms.map mkD))] [] (ShOk ms) (fun q => .tup [.d (.ptr [.sl (ms.map mkD), .map (q.1.1.map D.str) q.1.2, .map (q.2.1.map D.str) q.2.2] 0), I 0]) (fun _ => []) := by
  have hc := checkMarks_any ms (by have := h.len; omega) h.sh
  rw [goodP h.good] at hc
  have hs := sheetOfI ms (by have := h.len; omega) h.good H h.hH h.pe
  refine DoesI.of_AW (n := 12) Tryz.func35 rfl rfl rfl fun cx hcx => ?_
  repeat' (first | ((first | refine AW.sreg rfl fun K hK => ?_ | refine run_call _ _ _ ((hc).pure rfl rfl _ _) rfl rfl (dstOk_of rfl) rfl rfl rfl ?_); simp only [go_sem, Nat.reduceAdd, Nat.reduceMul, Int.reduceToNat, Nat.reduceLT, Nat.reduceLeDiff, Nat.le_refl, Nat.reduceEqDiff, ↓reduceIte, beq_self_eq_true, bne_self_eq_false, Int.reduceBEq, Int.reduceBNe, or_self, true_or, or_true, Option.map_some, Option.map_none]) | (refine AW.seq_k fun K hK => ?_) | (refine AW.skip ?_; simp only [Then, InBlock]) | (refine AW.condF rfl (by first | rfl | (simp; omega) | (simp [*]; done) | fail) ?_) | (refine hK _ ?_; clear hK K) | (refine run_callI _ _ _ ((hs).pure rfl (fun _ => rfl) _ _) rfl rfl (dstOk_of rfl) rfl rfl rfl ?_; rintro q hq; (try dsimp only at q); (try dsimp only at hq); simp only [go_sem, Nat.reduceAdd, Nat.reduceMul, Int.reduceToNat, Nat.reduceLT, Nat.reduceLeDiff, Nat.le_refl, Nat.reduceEqDiff, ↓reduceIte, beq_self_eq_true, bne_self_eq_false, Int.reduceBEq, Int.reduceBNe, or_self, true_or, or_true, Option.map_some, Option.map_none]))
  exact AW.ret ⟨q, hq, Fin.data rfl (by simp [go_sem]) rfl⟩
end Go.AX

namespace Go.AX
open Go Go.Proofs Go.RowKit
theorem p16 {t : Nat} (h : t ≤ 16) : (2 : Int) ^ t ≤ 65536 := by
  have h1 := Nat.pow_le_pow_right (n := 2) (by omega) h
  have e : ((2 ^ t : Nat) : Int) = (2 : Int) ^ t := by simp
  rw [← e]
  have : (2 : Nat) ^ 16 = 65536 := rfl
  omega
theorem WOk.b {w : Int × Int} {t : Nat} (h : WOk w t) (ht : t ≤ 16) : 1 ≤ w.2 ∧ w.2 ≤ 65536 ∧ 0 ≤ w.1 ∧ w.1 ≤ 25600 * 65536 := by
  have h1 := p16 ht
  have h2 := h.d2
  have h3 : (t : Int) * t ≤ 16 * 16 := Int.mul_le_mul (by omega) (by omega) (by omega) (by omega)
  have h4 : 100 * ((t : Int) * t) * w.2 ≤ 25600 * 65536 := Int.mul_le_mul (by omega) (by omega) (by have := h.d1; omega) (by omega)
  exact ⟨h.d1, by omega, h.n1, Int.le_trans h.n2 h4⟩
theorem agreementI (ms : List Mk) (H : List Str) (h : MkOk ms H) : DoesI Tryz.prog 10 [.d (.sl (ms.map mkD))] [] (AgOk ms) (fun r => .tup [.d (Fr r.1 r.2), I 0]) (fun _ => []) := by
  have hchk := checkedI ms H h
  have hin := h.i
  have hl := h.len
  refine DoesI.of_AW (n := 74) Tryz.func10 rfl rfl rfl fun cx hcx => ?_
  repeat' (first | ((first | refine AW.sreg rfl fun K hK => ?_ | refine run_call _ _ _ ((zero_ok).pure rfl rfl _ _) rfl rfl (dstOk_of rfl) rfl rfl rfl ?_); simp only [go_sem, Nat.reduceAdd, Nat.reduceMul, Int.reduceToNat, Nat.reduceLT, Nat.reduceLeDiff, Nat.le_refl, Nat.reduceEqDiff, ↓reduceIte, beq_self_eq_true, bne_self_eq_false, Int.reduceBEq, Int.reduceBNe, or_self, true_or, or_true, Option.map_some, Option.map_none]) | (refine AW.seq_k fun K hK => ?_) | (refine AW.skip ?_; simp only [Then, InBlock]) | (refine AW.condF rfl (by first | rfl | (simp; omega) | (simp [*]; done) | fail) ?_) | (refine hK _ ?_; clear hK K) | (refine run_callI _ _ _ ((hchk).pure rfl (fun _ => rfl) _ _) rfl rfl (dstOk_of rfl) rfl rfl rfl ?_; rintro ⟨⟨pk, pv⟩, ⟨hk, hv⟩⟩ hq; (try dsimp only at pk); (try dsimp only at pv); (try dsimp only at hk); (try dsimp only at hv); (try dsimp only at hq); simp only [go_sem, Nat.reduceAdd, Nat.reduceMul, Int.reduceToNat, Nat.reduceLT, Nat.reduceLeDiff, Nat.le_refl, Nat.reduceEqDiff, ↓reduceIte, beq_self_eq_true, bne_self_eq_false, Int.reduceBEq, Int.reduceBNe, or_self, true_or, or_true, Option.map_some, Option.map_none]))
  have hmap := hq.pa
  have hrise := hq.rise
  simp only at hmap hrise
  have hsub : ∀ p ∈ pk, p ∈ ms.map (·.1) := by
    intro p hp
    obtain ⟨m, hm⟩ := List.exists_mem_of_ne_nil _ ((hmap.mem p).1 hp)
    obtain ⟨h1, h2⟩ := mem_gP.1 hm
    rw [← h2]
    exact List.mem_map_of_mem h1
  have hpl : pk.length ≤ 16 := by
    have := hmap.nd.length_le_of_subset hsub
    rw [List.length_map] at this
    omega
  have hkl : ∀ k ∈ pk, k.length ≤ 1000000 := by
    intro k hk
    obtain ⟨m, hm, rfl⟩ := List.mem_map.1 (hsub k hk)
    have := (h.sh m hm).1
    omega
  have hks := keys_any pk pv (by omega) hkl hrise
  repeat' (first | (refine AW.block ?_) | (refine hK _ ?_; clear hK K) | (refine run_call _ _ _ ((hks).pure rfl rfl _ _) rfl rfl (dstOk_of rfl) rfl rfl rfl ?_; simp only [go_sem, Nat.reduceAdd, Nat.reduceMul, Int.reduceToNat, Nat.reduceLT, Nat.reduceLeDiff, Nat.le_refl, Nat.reduceEqDiff, ↓reduceIte, beq_self_eq_true, bne_self_eq_false, Int.reduceBEq, Int.reduceBNe, or_self, true_or, or_true, Option.map_some, Option.map_none, List.length_map]))
  refine AW.weak (Weak.nil 7 39 3 rfl) ?_
  refine AW.loopF (ι := Nat) [2, 4, 6, 26, 27] (fun p => [(7, .slr 1408 0 (agZ (gP ms) (pk.take p)).2.length), (28, I p)]) (fun p => [(0, some (O.box 32 [I 0, I 0])), (768, some (O.box 32 [I (agZ (gP ms) (pk.take p)).1.1, I (agZ (gP ms) (pk.take p)).1.2])), (1408, some (O.vec 39 3 (dv ((agZ (gP ms) (pk.take p)).2.map mkD))))]) 23 (fun p => p ≤ pk.length) (fun p => pk.length - p) 0 (Nat.zero_le _) (Weak.auto hcx rfl rfl (Nat.le_of_ble_eq_true rfl) (by simp [go_sem, gL, kL, renOf, V.obj, lk, Nat.blt, Nat.ble, List.map_append, dv_push, agZ, dvz, List.take_zero, List.foldl_nil, List.map_nil, List.length_nil]) (by simp [go_sem, gL, kL, renOf, V.obj, lk, Nat.blt, Nat.ble, List.map_append, dv_push, agZ, dvz, List.take_zero, List.foldl_nil, List.map_nil, List.length_nil]) (by first | (intro i hi; exact absurd hi (Nat.not_lt_zero _)) | (intro i0 hi0; match i0, hi0 with | 0, _ => exact ⟨_, rfl⟩ | n0+1, h0 => exact absurd h0 (Nat.not_lt.2 (Nat.le_add_left 1 n0))) | (intro i0 hi0; match i0, hi0 with | 0, _ => exact ⟨_, rfl⟩ | 1, _ => exact ⟨_, rfl⟩ | n0+2, h0 => exact absurd h0 (Nat.not_lt.2 (Nat.le_add_left 2 n0))) | (intro i0 hi0; match i0, hi0 with | 0, _ => exact ⟨_, rfl⟩ | 1, _ => exact ⟨_, rfl⟩ | 2, _ => exact ⟨_, rfl⟩ | n0+3, h0 => exact absurd h0 (Nat.not_lt.2 (Nat.le_add_left 3 n0))) | (intro i0 hi0; match i0, hi0 with | 0, _ => exact ⟨_, rfl⟩ | 1, _ => exact ⟨_, rfl⟩ | 2, _ => exact ⟨_, rfl⟩ | 3, _ => exact ⟨_, rfl⟩ | n0+4, h0 => exact absurd h0 (Nat.not_lt.2 (Nat.le_add_left 4 n0)))) (by simp [go_sem, gL, kL, lk, renOf, V.obj, Nat.blt, Nat.ble, agZ, dvz, List.take_zero, List.foldl_nil, List.map_nil, List.length_nil])) ?_; simp only [St.at_nil, St.at_cons, lk, Nat.reduceEqDiff, ↓reduceIte, Option.getD_some, Option.getD_none, List.cons_append, List.nil_append, List.append_nil]
  intro i h1
  have hzl := agZ_le (ms := ms) hmap.nd i
  have hzi := agI ms hin (pk.take i)
  by_cases hi : i < pk.length
  · obtain ⟨p, hp, hpm, -⟩ := get_some hi
    have hget : (pk.map D.str)[i]? = some (.str p) := by simp only [List.getElem?_map, hp, Option.map_some]
    have hsn : agZ (gP ms) (pk.take (i + 1)) = agS (gP ms) (agZ (gP ms) (pk.take i)) p := by
      rw [List.take_add_one, hp]
      exact agZ_snoc _ _ _
    have hzl2 := agZ_le (ms := ms) hmap.nd (i + 1)
    rw [hsn] at hzl2
    have hfi := hmap.find p
    have hne := (hmap.mem p).1 hpm
    have hoi := gP_in hin p
    have hol : (gP ms p).length ≤ ms.length := List.length_filter_le _ _
    unfold agS at hsn hzl2
    generalize agZ (gP ms) (pk.take i) = z at *
    generalize gP ms p = ow at *
    rcases hfi with ⟨-, h0⟩ | ⟨j, hf, hvj⟩
    · exact absurd h0 hne
    obtain ⟨⟨w1, w2⟩, al⟩ := z
    have hwb := hzi.w.b (by simp only; simp only at hzl; omega)
    simp only at hwb hzl hsn hzl2 ⊢
    obtain ⟨b1, b2, b3, b4⟩ := hwb
    have htl : List.take al.length (dv (al.map mkD)) = dv (al.map mkD) := List.take_of_length_le (by simp [dv])
    by_cases h2 : 2 ≤ ow.length
    · rw [if_pos h2] at hsn hzl2
      have ha := apart_any ow (by omega) hoi
      have ha0 := apA_pos (scs ow)
      have ha1 := apA_le hoi
      rw [scs_len] at ha1
      have hsq : (ow.length : Int) * ow.length ≤ 16 * 16 := Int.mul_le_mul (by omega) (by omega) (by omega) (by omega)
      have hlw := lowest_any (2 * apA (scs ow)) ((ow.length : Int) - 1) (by omega) (by omega)
      have hd := low_den (a := 2 * apA (scs ow)) (b := (ow.length : Int) - 1) (by omega)
      have hn0 := low_nonneg (a := 2 * apA (scs ow)) (b := (ow.length : Int) - 1) (by omega) (by omega)
      have hn1 := low_le (a := 2 * apA (scs ow)) (b := (ow.length : Int) - 1) (c := 2 * apA (scs ow)) (by omega) (by
        have := Int.mul_le_mul_of_nonneg_left (show (1 : Int) ≤ (ow.length : Int) - 1 by omega) (show 0 ≤ 2 * apA (scs ow) by omega)
        omega)
      unfold wStep at hsn
      rw [scs_len] at hsn
      simp only at hsn
      have hap : 0 ≤ 2 * apA (scs ow) ∧ 2 * apA (scs ow) ≤ 25600 := by omega
      have hall : (dv (ow.map mkD)).all (elemOk 3) = true := by
        simp only [dv, List.map_map, List.all_eq_true, List.mem_map, Function.comp_apply, forall_exists_index, and_imp, forall_apply_eq_imp_iff₂]
        intro x _
        rfl
      generalize 2 * apA (scs ow) = ap at *
      generalize low ap ((ow.length : Int) - 1) = q at *
      obtain ⟨q1, q2⟩ := q
      simp only at hd hn0 hn1 hlw hsn
      have hq1 : q1 ≤ 1000000 := by
        have : ap * q2 ≤ 25600 * 16 := Int.mul_le_mul (by omega) (by omega) (by omega) (by omega)
        omega
      have hpls := plus_any w1 w2 q1 q2 (by omega) (by omega) ⟨hn0, hq1⟩ (by omega)
      generalize low (w1 * q2 + q1 * w2) (w2 * q2) = u at *
      obtain ⟨u1, u2⟩ := u
      simp only at hpls hsn
      have hlt : (1 : Int) < (ow.length : Int) := by omega
      repeat' (first | ((first | refine AW.sreg rfl fun K hK => ?_ | refine AW.sregD hmix rfl fun K hK => ?_ | refine AW.reg rfl ?_ | refine runT_call _ _ [] (fun hv _ => (ha).pure rfl rfl hv _) rfl rfl (dstOk_of rfl) rfl rfl ?_ | refine runT_call _ _ [] (fun hv _ => (hlw).pure rfl rfl hv _) rfl rfl (dstOk_of rfl) rfl rfl ?_ | refine runT_call _ _ [] (fun hv _ => (hpls).pure rfl rfl hv _) rfl rfl (dstOk_of rfl) rfl rfl ?_); simp only [go_sem, Nat.reduceAdd, Nat.reduceMul, Int.reduceToNat, Nat.reduceLT, Nat.reduceLeDiff, Nat.le_refl, Nat.reduceEqDiff, ↓reduceIte, beq_self_eq_true, bne_self_eq_false, Int.reduceBEq, Int.reduceBNe, or_self, true_or, or_true, Option.map_some, Option.map_none, List.length_map, hget, hf, hvj, htl, hlt, dv_length, hall, true_and]) | (refine AW.seq_k fun K hK => ?_) | (refine AW.block ?_) | (refine AW.skip ?_; simp only [Then, InBlock]) | (refine AW.condT rfl (by first | rfl | (simp; omega) | (simp [*]; done) | fail) ?_) | (refine hK _ ?_; clear hK K) | (with_reducible refine And.intro (?_ : regOk _ _ = true) ?_; kernel_rfl) | (with_reducible refine And.intro ?_ ?_; first | omega | assumption | (focus (decide)) | (focus (simp; done)) | (focus (simp; omega)) | (focus (constructor <;> omega)) | fail))
      exact ⟨i + 1, hi, by omega, (Weak.auto hcx rfl rfl (Nat.le_of_ble_eq_true rfl) (by simp [go_sem, gL, kL, renOf, V.obj, lk, Nat.blt, Nat.ble, List.map_append, dv_push, hsn, ← dv_appV, List.map_append]) (by simp [go_sem, gL, kL, renOf, V.obj, lk, Nat.blt, Nat.ble, List.map_append, dv_push, hsn, ← dv_appV, List.map_append]) (by first | (intro i hi; exact absurd hi (Nat.not_lt_zero _)) | (intro i0 hi0; match i0, hi0 with | 0, _ => exact ⟨_, rfl⟩ | n0+1, h0 => exact absurd h0 (Nat.not_lt.2 (Nat.le_add_left 1 n0))) | (intro i0 hi0; match i0, hi0 with | 0, _ => exact ⟨_, rfl⟩ | 1, _ => exact ⟨_, rfl⟩ | n0+2, h0 => exact absurd h0 (Nat.not_lt.2 (Nat.le_add_left 2 n0))) | (intro i0 hi0; match i0, hi0 with | 0, _ => exact ⟨_, rfl⟩ | 1, _ => exact ⟨_, rfl⟩ | 2, _ => exact ⟨_, rfl⟩ | n0+3, h0 => exact absurd h0 (Nat.not_lt.2 (Nat.le_add_left 3 n0))) | (intro i0 hi0; match i0, hi0 with | 0, _ => exact ⟨_, rfl⟩ | 1, _ => exact ⟨_, rfl⟩ | 2, _ => exact ⟨_, rfl⟩ | 3, _ => exact ⟨_, rfl⟩ | n0+4, h0 => exact absurd h0 (Nat.not_lt.2 (Nat.le_add_left 4 n0)))) (by simp [go_sem, gL, kL, lk, renOf, V.obj, Nat.blt, Nat.ble, hsn, ← dv_appV, List.map_append]))⟩
    · rw [if_neg h2] at hsn
      have hlt : ¬ (1 : Int) < (ow.length : Int) := by omega
      repeat' (first | ((first | refine AW.sreg rfl fun K hK => ?_ | refine AW.reg rfl ?_); simp only [go_sem, Nat.reduceAdd, Nat.reduceMul, Int.reduceToNat, Nat.reduceLT, Nat.reduceLeDiff, Nat.le_refl, Nat.reduceEqDiff, ↓reduceIte, beq_self_eq_true, bne_self_eq_false, Int.reduceBEq, Int.reduceBNe, or_self, true_or, or_true, Option.map_some, Option.map_none, List.length_map, hget, hf, hvj, hlt]) | (refine AW.seq_k fun K hK => ?_) | (refine AW.block ?_) | (refine AW.skip ?_; simp only [Then, InBlock]) | (refine AW.condT rfl (by first | rfl | (simp; omega) | (simp [*]; done) | fail) ?_) | (refine AW.condF rfl (by first | rfl | (simp; omega) | (simp [*]; done) | fail) ?_) | (refine hK _ ?_; clear hK K) | (with_reducible refine And.intro ?_ ?_; first | omega | assumption | (focus (decide)) | (focus (simp; done)) | (focus (simp; omega)) | (focus (constructor <;> omega)) | fail))
      exact ⟨i + 1, hi, by omega, (Weak.auto hcx rfl rfl (Nat.le_of_ble_eq_true rfl) (by simp [go_sem, gL, kL, renOf, V.obj, lk, Nat.blt, Nat.ble, List.map_append, dv_push, hsn]) (by simp [go_sem, gL, kL, renOf, V.obj, lk, Nat.blt, Nat.ble, List.map_append, dv_push, hsn]) (by first | (intro i hi; exact absurd hi (Nat.not_lt_zero _)) | (intro i0 hi0; match i0, hi0 with | 0, _ => exact ⟨_, rfl⟩ | n0+1, h0 => exact absurd h0 (Nat.not_lt.2 (Nat.le_add_left 1 n0))) | (intro i0 hi0; match i0, hi0 with | 0, _ => exact ⟨_, rfl⟩ | 1, _ => exact ⟨_, rfl⟩ | n0+2, h0 => exact absurd h0 (Nat.not_lt.2 (Nat.le_add_left 2 n0))) | (intro i0 hi0; match i0, hi0 with | 0, _ => exact ⟨_, rfl⟩ | 1, _ => exact ⟨_, rfl⟩ | 2, _ => exact ⟨_, rfl⟩ | n0+3, h0 => exact absurd h0 (Nat.not_lt.2 (Nat.le_add_left 3 n0))) | (intro i0 hi0; match i0, hi0 with | 0, _ => exact ⟨_, rfl⟩ | 1, _ => exact ⟨_, rfl⟩ | 2, _ => exact ⟨_, rfl⟩ | 3, _ => exact ⟨_, rfl⟩ | n0+4, h0 => exact absurd h0 (Nat.not_lt.2 (Nat.le_add_left 4 n0)))) (by simp [go_sem, gL, kL, lk, renOf, V.obj, Nat.blt, Nat.ble, hsn]))⟩
  · obtain rfl : i = pk.length := by omega
    rw [List.take_length] at *
    have hok := agOk hin (fun p => hmap.mem p)
    generalize agZ (gP ms) pk = z at *
    obtain ⟨⟨w1, w2⟩, al⟩ := z
    have hwb := hzi.w.b (by simp only; simp only at hzl; omega)
    have hali := hzi.i
    simp only at hwb hzl hali ⊢
    obtain ⟨b1, b2, b3, b4⟩ := hwb
    have ha := apart_any al (by omega) hali
    have ha0 := apA_pos (scs al)
    have ha1 := apA_le hali
    rw [scs_len] at ha1
    have hsq : (al.length : Int) * al.length ≤ 16 * 16 := Int.mul_le_mul (by omega) (by omega) (by omega) (by omega)
    unfold agR at hok
    simp only at hok
    have hap : 0 ≤ 2 * apA (scs al) ∧ 2 * apA (scs al) ≤ 25600 := by omega
    generalize 2 * apA (scs al) = ap at *
    by_cases h0 : ap = 0
    · subst h0
      rw [if_pos rfl] at hok
      repeat' (first | ((first | refine AW.sreg rfl fun K hK => ?_ | refine run_call _ _ _ ((ha).lend (by repeat' (first | exact frzL_nil | refine frzL_cons (by first | exact frz_d | exact frz_slr rfl rfl (by first | (simp; done) | (simp; omega) | (simp [*]; done) | fail) | rfl) ?_)) rfl rfl rfl) rfl rfl (dstOk_of rfl) rfl rfl rfl ?_ | refine run_call _ _ _ ((one_ok).pure rfl rfl _ _) rfl rfl (dstOk_of rfl) rfl rfl rfl ?_); simp only [go_sem, Nat.reduceAdd, Nat.reduceMul, Int.reduceToNat, Nat.reduceLT, Nat.reduceLeDiff, Nat.le_refl, Nat.reduceEqDiff, ↓reduceIte, beq_self_eq_true, bne_self_eq_false, Int.reduceBEq, Int.reduceBNe, or_self, true_or, or_true, Option.map_some, Option.map_none, List.length_map]) | (refine AW.seq_k fun K hK => ?_) | (refine AW.exit ?_; simp only [go_sem, ↓reduceIte]) | (refine AW.condT rfl (by first | rfl | (simp; omega) | (simp [*]; done) | fail) ?_) | (refine AW.condF rfl (by first | rfl | (simp; omega) | (simp [*]; done) | fail) ?_) | (refine hK _ ?_; clear hK K) | (clear hK K; refine hK _ ?_; clear hK K))
      exact AW.ret ⟨(1, 1), hok, Fin.data rfl (by simp [go_sem, fr_size]) rfl⟩
    · rw [if_neg h0] at hok
      have h0b : (ap == 0) = false := by simpa using h0
      have m1 : 1 ≤ w2 * ap ∧ w2 * ap ≤ 65536 * 25600 := ⟨by have := Int.mul_le_mul b1 (show (1 : Int) ≤ ap by omega) (by omega) (by omega); omega, Int.mul_le_mul (by omega) (by omega) (by omega) (by omega)⟩
      have m2 : 0 ≤ ((al.length : Int) - 1) * w1 + w1 ∧ ((al.length : Int) - 1) * w1 ≤ 16 * (25600 * 65536) := by
        refine ⟨?_, Int.mul_le_mul (by omega) (by omega) (by omega) (by omega)⟩
        have e : ((al.length : Int) - 1) * w1 + w1 = (al.length : Int) * w1 := by grind
        rw [e]
        exact Int.mul_nonneg (by omega) (by omega)
      have hlw := lowest_any (w2 * ap - ((al.length : Int) - 1) * w1) (w2 * ap) (by omega) (by omega)
      generalize low (w2 * ap - ((al.length : Int) - 1) * w1) (w2 * ap) = u at *
      repeat' (first | ((first | refine AW.sreg rfl fun K hK => ?_ | refine run_call _ _ _ ((ha).lend (by repeat' (first | exact frzL_nil | refine frzL_cons (by first | exact frz_d | exact frz_slr rfl rfl (by first | (simp; done) | (simp; omega) | (simp [*]; done) | fail) | rfl) ?_)) rfl rfl rfl) rfl rfl (dstOk_of rfl) rfl rfl rfl ?_ | refine run_call _ _ _ ((hlw).pure rfl rfl _ _) rfl rfl (dstOk_of rfl) rfl rfl rfl ?_); simp only [go_sem, Nat.reduceAdd, Nat.reduceMul, Int.reduceToNat, Nat.reduceLT, Nat.reduceLeDiff, Nat.le_refl, Nat.reduceEqDiff, ↓reduceIte, beq_self_eq_true, bne_self_eq_false, Int.reduceBEq, Int.reduceBNe, or_self, true_or, or_true, Option.map_some, Option.map_none, List.length_map, h0b]) | (refine AW.seq_k fun K hK => ?_) | (refine AW.skip ?_; simp only [Then, InBlock]) | (refine AW.exit ?_; simp only [go_sem, ↓reduceIte]) | (refine AW.condF rfl (by first | rfl | (simp; omega) | (simp [*]; done) | fail) ?_) | (refine hK _ ?_; clear hK K) | (clear hK K; refine hK _ ?_; clear hK K) | (with_reducible refine And.intro ?_ ?_; first | omega | assumption | (focus (decide)) | (focus (simp; done)) | (focus (simp; omega)) | (focus (constructor <;> omega)) | fail))
      exact AW.ret ⟨u, hok, Fin.data rfl (by simp [go_sem, fr_size]) rfl⟩
end Go.AX
