/- The judge of two persons: homes. -/
import Derived.Test.YtcjdlbdoffchfaaGreatDoorCC
import Derived.Test.YtcjdlbdoffchfaaGreatDoorCB
import Derived.Test.YtcjdlbdoffchfaaGreatDoorCD
set_option linter.unusedSimpArgs false
set_option linter.unusedVariables false
set_option linter.unnecessarySimpa false
set_option maxRecDepth 1000000
set_option maxHeartbeats 4000000
namespace Go.AX
open Go Go.Proofs Go.RowKit
/-- A judge: the world, the terms, the numbers of persons, the places above. -/
abbrev jgC (w : Wo) (th tw : Int) : List D := [.sl (w.pls.map plD), .sl (w.pes.map peD), .sl (w.wks.map wkD), .sl (w.bos.map boD), .int .i64 th, .int .i64 tw, kyD w.pes, upD w.pls]
abbrev jgD (w : Wo) (th tw : Int) : D := .ptr (jgC w th tw) 0
structure HmB (l : List Hm) : Prop where
  len : l.length ≤ 1000
  hm : ∀ h ∈ l, 0 ≤ h.2.1 ∧ h.2.1 ≤ 4001 ∧ 0 ≤ h.2.2 ∧ h.2.2 ≤ 4001
theorem any_take {α : Type} {f : α → Bool} {l : List α} {i : Nat} {x : α} (hx : l[i]? = some x) (h : (l.take i).any f = false) (hf : f x = false) : (l.take (i + 1)).any f = false := by
  rw [List.take_add_one, hx, List.any_append, h]
  simp [hf]
theorem sameHome_any {w : Wo} (hp : OkPl w.pls) (th tw day : Int) (ht : 0 ≤ th ∧ th ≤ 4000) (hd : 0 ≤ day ∧ day ≤ 4000) (a b : Pe) (ha : HmB a.homes) (hb : HmB b.homes) :
    Does Tryz.prog 121 [.d (jgD w th tw), .d (peD a), .d (peD b), I day] [] (B (homeB w.pls th day a.homes b.homes)) [] := by
  obtain ⟨pls, pes, wks, bos⟩ := w
  obtain ⟨ak, an, ah, am, aa⟩ := a
  obtain ⟨bk, bn, bh, bm, ba⟩ := b
  simp only at hp ha hb ⊢
  obtain ⟨al, ab⟩ := ha
  obtain ⟨bl, bb⟩ := hb
  refine Does.of_AW (n := 75) Tryz.func121 rfl rfl rfl fun cx hcx => ?_
  generalize hR : homeB pls th day ah bh = R
  repeat' (first | (refine AW.sreg rfl fun K hK => ?_; simp only [go_sem, Nat.reduceAdd, Nat.reduceMul, Int.reduceToNat, Nat.reduceLT, Nat.reduceLeDiff, Nat.le_refl, Nat.reduceEqDiff, ↓reduceIte, beq_self_eq_true, bne_self_eq_false, Int.reduceBEq, Int.reduceBNe, or_self, true_or, or_true, Option.map_some, Option.map_none, List.length_map]) | (refine AW.seq_k fun K hK => ?_) | (refine AW.block ?_) | (refine hK _ ?_; clear hK K))
  refine AW.loopF (ι := Nat) [0, 3, 6, 16, 17] (fun p => [(18, I p)]) (fun p => [(64, some (O.box 50 [S bk, .d (.sl (bn.map nmD)), .d (.sl (bh.map hmD)), .d (.sl (bm.map D.str)), .d (.sl (ba.map D.str))]))]) 20 (fun p => p ≤ ah.length ∧ (ah.take p).any (fun g => bh.any fun h => meetB pls th day g h) = false) (fun p => ah.length - p) 0 ⟨Nat.zero_le _, by simp⟩ (Weak.auto hcx rfl rfl (Nat.le_of_ble_eq_true rfl) (by simp [go_sem, gL, kL, renOf, V.obj, lk, Nat.blt, Nat.ble, List.map_append, dv_push]) (by simp [go_sem, gL, kL, renOf, V.obj, lk, Nat.blt, Nat.ble, List.map_append, dv_push]) (by first | exact pk0 | exact pk1 ⟨_, rfl⟩ | exact pk2 ⟨_, rfl⟩ ⟨_, rfl⟩ | exact pk3 ⟨_, rfl⟩ ⟨_, rfl⟩ ⟨_, rfl⟩ | exact pk4 ⟨_, rfl⟩ ⟨_, rfl⟩ ⟨_, rfl⟩ ⟨_, rfl⟩) (by simp [go_sem, gL, kL, lk, renOf, V.obj, Nat.blt, Nat.ble])) ?_; simp only [St.at_nil, St.at_cons, lk, Nat.reduceEqDiff, ↓reduceIte, Option.getD_some, Option.getD_none, List.cons_append, List.nil_append, List.append_nil]
  rintro i ⟨h1, h2⟩
  by_cases hi : i < ah.length
  · obtain ⟨g, hg, hgm, hgd⟩ := get_some hi
    have hget : (ah.map hmD)[i]? = some (hmD g) := by simp [hg]
    repeat' (first | (refine AW.sreg rfl fun K hK => ?_; simp only [go_sem, Nat.reduceAdd, Nat.reduceMul, Int.reduceToNat, Nat.reduceLT, Nat.reduceLeDiff, Nat.le_refl, Nat.reduceEqDiff, ↓reduceIte, beq_self_eq_true, bne_self_eq_false, Int.reduceBEq, Int.reduceBNe, or_self, true_or, or_true, Option.map_some, Option.map_none, List.length_map, hget]) | (refine AW.seq_k fun K hK => ?_) | (refine AW.block ?_) | (refine AW.skip ?_; simp only [Then, InBlock]) | (refine AW.condT rfl (by first | rfl | (simp; omega) | (simp [*]; done) | fail) ?_) | (refine hK _ ?_; clear hK K) | (with_reducible refine And.intro ?_ ?_; first | omega | assumption | (focus (decide)) | (focus (simp; done)) | (focus (simp; omega)) | (focus (constructor <;> omega)) | fail))
    refine AW.loopF (ι := Nat) [0, 3, 6, 10, 16, 17, 18, 23, 24] (fun p => [(25, I p)]) (fun p => [(64, some (O.box 50 [S bk, .d (.sl (bn.map nmD)), .d (.sl (bh.map hmD)), .d (.sl (bm.map D.str)), .d (.sl (ba.map D.str))])), (1472, some (O.box 98 [S g.1, I g.2.1, I g.2.2]))]) 60 (fun p => p ≤ bh.length ∧ (bh.take p).any (fun h => meetB pls th day g h) = false) (fun p => bh.length - p) 0 ⟨Nat.zero_le _, by simp⟩ (Weak.auto hcx rfl rfl (Nat.le_of_ble_eq_true rfl) (by simp [go_sem, gL, kL, renOf, V.obj, lk, Nat.blt, Nat.ble, List.map_append, dv_push]) (by simp [go_sem, gL, kL, renOf, V.obj, lk, Nat.blt, Nat.ble, List.map_append, dv_push]) (by first | exact pk0 | exact pk1 ⟨_, rfl⟩ | exact pk2 ⟨_, rfl⟩ ⟨_, rfl⟩ | exact pk3 ⟨_, rfl⟩ ⟨_, rfl⟩ ⟨_, rfl⟩ | exact pk4 ⟨_, rfl⟩ ⟨_, rfl⟩ ⟨_, rfl⟩ ⟨_, rfl⟩) (by simp [go_sem, gL, kL, lk, renOf, V.obj, Nat.blt, Nat.ble])) ?_; simp only [St.at_nil, St.at_cons, lk, Nat.reduceEqDiff, ↓reduceIte, Option.getD_some, Option.getD_none, List.cons_append, List.nil_append, List.append_nil]
    rintro k ⟨g1, g2⟩
    by_cases hk : k < bh.length
    · obtain ⟨q, hh, hhm, hhd⟩ := get_some hk
      have hgeth : (bh.map hmD)[k]? = some (hmD q) := by simp [hh]
      have i1 := inside_any hp g.1 q.1
      have i2 := inside_any hp q.1 g.1
      have b1 := ab g hgm
      have b2 := bb q hhm
      obtain ⟨M, hM⟩ : ∃ M, M = max g.2.1 (max q.2.1 (day - th)) := ⟨_, rfl⟩
      obtain ⟨N, hN⟩ : ∃ N, N = min g.2.2 (min q.2.2 (day + 1)) := ⟨_, rfl⟩
      have hX : (if day - th > (if q.2.1 > g.2.1 then q.2.1 else g.2.1) then day - th else (if q.2.1 > g.2.1 then q.2.1 else g.2.1)) = M := by
        rw [hM]
        (repeat' split) <;> omega
      have hY : (if day + 1 < (if q.2.2 < g.2.2 then q.2.2 else g.2.2) then day + 1 else (if q.2.2 < g.2.2 then q.2.2 else g.2.2)) = N := by
        rw [hN]
        (repeat' split) <;> omega
      have hmt : meetB pls th day g q = (decide (M < N) && (insB pls g.1 q.1 || insB pls q.1 g.1)) := by
        unfold meetB
        rw [← hM, ← hN]
      have htrue : meetB pls th day g q = true → R = true := fun hm => by
        rw [← hR]
        exact List.any_eq_true.2 ⟨g, hgm, List.any_eq_true.2 ⟨q, hhm, hm⟩⟩
      clear hM hN
      by_cases hc : M < N
      · cases e1 : insB pls g.1 q.1 <;> cases e2 : insB pls q.1 g.1
        all_goals
          rw [e1] at i1
          rw [e2] at i2
          rw [e1, e2, decide_eq_true hc] at hmt
          repeat' (first | ((first | refine AW.sreg rfl fun K hK => ?_ | refine AW.sregD hmix rfl fun K hK => ?_ | refine AW.reg rfl ?_ | refine runT_call _ _ [] (fun hv _ => (i1).pure rfl rfl hv _) rfl rfl (dstOk_of rfl) rfl rfl ?_ | refine runT_call _ _ [] (fun hv _ => (i2).pure rfl rfl hv _) rfl rfl (dstOk_of rfl) rfl rfl ?_); simp only [go_sem, Nat.reduceAdd, Nat.reduceMul, Int.reduceToNat, Nat.reduceLT, Nat.reduceLeDiff, Nat.le_refl, Nat.reduceEqDiff, ↓reduceIte, beq_self_eq_true, bne_self_eq_false, Int.reduceBEq, Int.reduceBNe, or_self, true_or, or_true, Option.map_some, Option.map_none, List.length_map, hgeth, hX, hY, hc]) | (refine AW.seq_k fun K hK => ?_) | (refine AW.block ?_) | (refine AW.skip ?_; simp only [Then, InBlock]) | (refine AW.condT rfl (by first | rfl | (simp; omega) | (simp [*]; done) | fail) ?_) | (refine AW.condF rfl (by first | rfl | (simp; omega) | (simp [*]; done) | fail) ?_) | (refine hK _ ?_; clear hK K) | (with_reducible refine And.intro (?_ : regOk _ _ = true) ?_; kernel_rfl) | (with_reducible refine And.intro ?_ ?_; first | omega | assumption | (focus (decide)) | (focus (simp; done)) | (focus (simp; omega)) | (focus (constructor <;> omega)) | fail))
          all_goals first | exact ⟨k + 1, ⟨hk, any_take hh g2 hmt⟩, by omega, (Weak.auto hcx rfl rfl (Nat.le_of_ble_eq_true rfl) (by simp [go_sem, gL, kL, renOf, V.obj, lk, Nat.blt, Nat.ble, List.map_append, dv_push]) (by simp [go_sem, gL, kL, renOf, V.obj, lk, Nat.blt, Nat.ble, List.map_append, dv_push]) (by first | exact pk0 | exact pk1 ⟨_, rfl⟩ | exact pk2 ⟨_, rfl⟩ ⟨_, rfl⟩ | exact pk3 ⟨_, rfl⟩ ⟨_, rfl⟩ ⟨_, rfl⟩ | exact pk4 ⟨_, rfl⟩ ⟨_, rfl⟩ ⟨_, rfl⟩ ⟨_, rfl⟩) (by simp [go_sem, gL, kL, lk, renOf, V.obj, Nat.blt, Nat.ble]))⟩ | (have hRt := htrue hmt; subst hRt; exact AW.ret (Fin.data rfl (by simp [go_sem]) rfl)) | trace_state
      · rw [decide_eq_false hc, Bool.false_and] at hmt
        repeat' (first | ((first | refine AW.sreg rfl fun K hK => ?_ | refine AW.sregD hmix rfl fun K hK => ?_ | refine AW.reg rfl ?_); simp only [go_sem, Nat.reduceAdd, Nat.reduceMul, Int.reduceToNat, Nat.reduceLT, Nat.reduceLeDiff, Nat.le_refl, Nat.reduceEqDiff, ↓reduceIte, beq_self_eq_true, bne_self_eq_false, Int.reduceBEq, Int.reduceBNe, or_self, true_or, or_true, Option.map_some, Option.map_none, List.length_map, hgeth, hX, hY, hc]) | (refine AW.seq_k fun K hK => ?_) | (refine AW.block ?_) | (refine AW.skip ?_; simp only [Then, InBlock]) | (refine AW.condT rfl (by first | rfl | (simp; omega) | (simp [*]; done) | fail) ?_) | (refine AW.condF rfl (by first | rfl | (simp; omega) | (simp [*]; done) | fail) ?_) | (refine hK _ ?_; clear hK K) | (refine stepBT_split (fun h => ?_) (fun h => ?_) <;> (have hb0 := h) <;> (try simp only [Bool.not_eq_true', Bool.not_eq_false'] at hb0) <;> (try simp only [decide_eq_true_eq, decide_eq_false_iff_not, Bool.not_eq_true', Bool.not_eq_false', Bool.not_eq_eq_eq_not, Bool.not_true, Bool.not_false, beq_iff_eq, bne_iff_ne, beq_eq_false_iff_ne, ne_eq, Bool.and_eq_true, Bool.or_eq_true, Bool.or_eq_false_iff] at h) <;> simp only [go_sem, Nat.reduceAdd, Nat.reduceMul, Int.reduceToNat, Nat.reduceLT, Nat.reduceLeDiff, Nat.le_refl, Nat.reduceEqDiff, ↓reduceIte, beq_self_eq_true, bne_self_eq_false, Int.reduceBEq, Int.reduceBNe, or_self, true_or, or_true, Option.map_some, Option.map_none, hb0, h, decide_true, decide_false, List.length_map, hgeth, hX, hY, hc] <;> (try clear hb0)) | (with_reducible refine And.intro (?_ : regOk _ _ = true) ?_; kernel_rfl) | (with_reducible refine And.intro ?_ ?_; first | omega | assumption | (focus (decide)) | (focus (simp; done)) | (focus (simp; omega)) | (focus (constructor <;> omega)) | fail))
        all_goals first | exact ⟨k + 1, ⟨hk, any_take hh g2 hmt⟩, by omega, (Weak.auto hcx rfl rfl (Nat.le_of_ble_eq_true rfl) (by simp [go_sem, gL, kL, renOf, V.obj, lk, Nat.blt, Nat.ble, List.map_append, dv_push]) (by simp [go_sem, gL, kL, renOf, V.obj, lk, Nat.blt, Nat.ble, List.map_append, dv_push]) (by first | exact pk0 | exact pk1 ⟨_, rfl⟩ | exact pk2 ⟨_, rfl⟩ ⟨_, rfl⟩ | exact pk3 ⟨_, rfl⟩ ⟨_, rfl⟩ ⟨_, rfl⟩ | exact pk4 ⟨_, rfl⟩ ⟨_, rfl⟩ ⟨_, rfl⟩ ⟨_, rfl⟩) (by simp [go_sem, gL, kL, lk, renOf, V.obj, Nat.blt, Nat.ble]))⟩ | trace_state
    · obtain rfl : k = bh.length := by omega
      rw [List.take_length] at g2
      repeat' (first | ((first | refine AW.sreg rfl fun K hK => ?_ | refine AW.reg rfl ?_); simp only [go_sem, Nat.reduceAdd, Nat.reduceMul, Int.reduceToNat, Nat.reduceLT, Nat.reduceLeDiff, Nat.le_refl, Nat.reduceEqDiff, ↓reduceIte, beq_self_eq_true, bne_self_eq_false, Int.reduceBEq, Int.reduceBNe, or_self, true_or, or_true, Option.map_some, Option.map_none, List.length_map]) | (refine AW.seq_k fun K hK => ?_) | (refine AW.exit ?_; simp only [go_sem, ↓reduceIte]) | (refine AW.condF rfl (by first | rfl | (simp; omega) | (simp [*]; done) | fail) ?_) | (refine hK _ ?_; clear hK K) | (clear hK K; refine hK _ ?_; clear hK K) | (with_reducible refine And.intro ?_ ?_; first | omega | assumption | (focus (decide)) | (focus (simp; done)) | (focus (simp; omega)) | (focus (constructor <;> omega)) | fail))
      exact ⟨i + 1, ⟨hi, any_take hg h2 g2⟩, by omega, (Weak.auto hcx rfl rfl (Nat.le_of_ble_eq_true rfl) (by simp [go_sem, gL, kL, renOf, V.obj, lk, Nat.blt, Nat.ble, List.map_append, dv_push]) (by simp [go_sem, gL, kL, renOf, V.obj, lk, Nat.blt, Nat.ble, List.map_append, dv_push]) (by first | exact pk0 | exact pk1 ⟨_, rfl⟩ | exact pk2 ⟨_, rfl⟩ ⟨_, rfl⟩ | exact pk3 ⟨_, rfl⟩ ⟨_, rfl⟩ ⟨_, rfl⟩ | exact pk4 ⟨_, rfl⟩ ⟨_, rfl⟩ ⟨_, rfl⟩ ⟨_, rfl⟩) (by simp [go_sem, gL, kL, lk, renOf, V.obj, Nat.blt, Nat.ble]))⟩
  · obtain rfl : i = ah.length := by omega
    rw [List.take_length] at h2
    have : R = false := by rw [← hR]; exact h2
    subst this
    repeat' (first | (refine AW.sreg rfl fun K hK => ?_; simp only [go_sem, Nat.reduceAdd, Nat.reduceMul, Int.reduceToNat, Nat.reduceLT, Nat.reduceLeDiff, Nat.le_refl, Nat.reduceEqDiff, ↓reduceIte, beq_self_eq_true, bne_self_eq_false, Int.reduceBEq, Int.reduceBNe, or_self, true_or, or_true, Option.map_some, Option.map_none, List.length_map]) | (refine AW.seq_k fun K hK => ?_) | (refine AW.exit ?_; simp only [go_sem, ↓reduceIte]) | (refine AW.condF rfl (by first | rfl | (simp; omega) | (simp [*]; done) | fail) ?_) | (refine hK _ ?_; clear hK K) | (clear hK K; refine hK _ ?_; clear hK K) | (refine AW.ret (Fin.data rfl (by first | (simp only [go_sem]; done) | (simp [go_sem, *]; done) | (simp [go_sem]; omega) | rfl) rfl)))
end Go.AX

namespace Go.AX
open Go Go.Proofs Go.RowKit
theorem indexFunc4_Wk (xs : List Wk) (hl : xs.length ≤ 1000) (c : Nat) (c1 c2 c3 c4 : D) (q : Wk → Bool) (hc : ∀ x ∈ xs, Does Tryz.prog c [.d (wkD x), .d c1, .d c2, .d c3, .d c4] [] (B (q x)) []) :
    Does Tryz.prog 143 [.d (.sl (xs.map wkD)), .fn c [.d c1, .d c2, .d c3, .d c4]] [] (I (idxG q xs 0)) [] := by
  refine Does.of_AW (n := 19) Tryz.func143 rfl rfl rfl fun cx hcx => ?_
  generalize hR : idxG q xs 0 = R
  repeat' (first | (refine AW.sreg rfl fun K hK => ?_; simp only [go_sem, Nat.reduceAdd, Nat.reduceMul, Int.reduceToNat, Nat.reduceLT, Nat.reduceLeDiff, Nat.le_refl, Nat.reduceEqDiff, ↓reduceIte, beq_self_eq_true, bne_self_eq_false, Int.reduceBEq, Int.reduceBNe, or_self, true_or, or_true, Option.map_some, Option.map_none, List.length_map]) | (refine AW.seq_k fun K hK => ?_) | (refine AW.block ?_) | (refine hK _ ?_; clear hK K))
  refine AW.loopF (ι := Nat) [0, 1, 7] (fun p => [(8, I p)]) (fun p => []) 1 (fun p => p ≤ xs.length ∧ idxG q (xs.drop p) p = R) (fun p => xs.length - p) 0 ⟨by simp, hR⟩ (Weak.auto hcx rfl rfl (Nat.le_of_ble_eq_true rfl) (by simp [go_sem, gL, kL, renOf, V.obj, lk, Nat.blt, Nat.ble, List.map_append, dv_push]) (by simp [go_sem, gL, kL, renOf, V.obj, lk, Nat.blt, Nat.ble, List.map_append, dv_push]) (by first | exact pk0 | exact pk1 ⟨_, rfl⟩ | exact pk2 ⟨_, rfl⟩ ⟨_, rfl⟩ | exact pk3 ⟨_, rfl⟩ ⟨_, rfl⟩ ⟨_, rfl⟩ | exact pk4 ⟨_, rfl⟩ ⟨_, rfl⟩ ⟨_, rfl⟩ ⟨_, rfl⟩) (by simp [go_sem, gL, kL, lk, renOf, V.obj, Nat.blt, Nat.ble])) ?_; simp only [St.at_nil, St.at_cons, lk, Nat.reduceEqDiff, ↓reduceIte, Option.getD_some, Option.getD_none, List.cons_append, List.nil_append, List.append_nil]
  rintro i ⟨h1, h2⟩
  by_cases hi : i < xs.length
  · obtain ⟨x, hx, hxm, hxd⟩ := get_some hi
    have hget : (xs.map wkD)[i]? = some (wkD x) := by simp [hx]
    rw [hxd, idxG] at h2
    repeat' (first | ((first | refine AW.sreg rfl fun K hK => ?_ | refine AW.reg rfl ?_ | refine run_call _ _ _ ((hc x hxm).pure rfl rfl _ _) rfl rfl (dstOk_of rfl) rfl rfl rfl ?_); simp only [go_sem, Nat.reduceAdd, Nat.reduceMul, Int.reduceToNat, Nat.reduceLT, Nat.reduceLeDiff, Nat.le_refl, Nat.reduceEqDiff, ↓reduceIte, beq_self_eq_true, bne_self_eq_false, Int.reduceBEq, Int.reduceBNe, or_self, true_or, or_true, Option.map_some, Option.map_none, List.length_map, hget]) | (refine AW.seq_k fun K hK => ?_) | (refine AW.block ?_) | (refine AW.skip ?_; simp only [Then, InBlock]) | (refine AW.condT rfl (by first | rfl | (simp; omega) | (simp [*]; done) | fail) ?_) | (refine AW.cond rfl (fun h => ?_) (fun h => ?_) <;> (try simp only [decide_eq_true_eq, decide_eq_false_iff_not, Bool.not_eq_true', Bool.not_eq_false', Bool.not_eq_eq_eq_not, Bool.not_true, Bool.not_false, beq_iff_eq, bne_iff_ne, beq_eq_false_iff_ne, ne_eq, Bool.and_eq_true, Bool.or_eq_true, Bool.or_eq_false_iff] at h)) | (refine hK _ ?_; clear hK K) | (with_reducible refine And.intro ?_ ?_; first | omega | assumption | (focus (decide)) | (focus (simp; done)) | (focus (simp; omega)) | (focus (constructor <;> omega)) | fail) | (refine AW.ret (Fin.data rfl (by first | (simp only [go_sem]; done) | ((rw [if_pos h] at h2; subst h2; simp [go_sem]); done) | (simp [go_sem]; omega) | rfl) rfl)))
    rw [if_neg (by simp [h])] at h2
    exact ⟨i + 1, ⟨hi, h2⟩, by omega, (Weak.auto hcx rfl rfl (Nat.le_of_ble_eq_true rfl) (by simp [go_sem, gL, kL, renOf, V.obj, lk, Nat.blt, Nat.ble, List.map_append, dv_push]) (by simp [go_sem, gL, kL, renOf, V.obj, lk, Nat.blt, Nat.ble, List.map_append, dv_push]) (by first | exact pk0 | exact pk1 ⟨_, rfl⟩ | exact pk2 ⟨_, rfl⟩ ⟨_, rfl⟩ | exact pk3 ⟨_, rfl⟩ ⟨_, rfl⟩ ⟨_, rfl⟩ | exact pk4 ⟨_, rfl⟩ ⟨_, rfl⟩ ⟨_, rfl⟩ ⟨_, rfl⟩) (by simp [go_sem, gL, kL, lk, renOf, V.obj, Nat.blt, Nat.ble]))⟩
  · obtain rfl : i = xs.length := by omega
    simp only [List.drop_length, idxG] at h2
    subst h2
    repeat' (first | (refine AW.sreg rfl fun K hK => ?_; simp only [go_sem, Nat.reduceAdd, Nat.reduceMul, Int.reduceToNat, Nat.reduceLT, Nat.reduceLeDiff, Nat.le_refl, Nat.reduceEqDiff, ↓reduceIte, beq_self_eq_true, bne_self_eq_false, Int.reduceBEq, Int.reduceBNe, or_self, true_or, or_true, Option.map_some, Option.map_none, List.length_map]) | (refine AW.seq_k fun K hK => ?_) | (refine AW.exit ?_; simp only [go_sem, ↓reduceIte]) | (refine AW.condF rfl (by first | rfl | (simp; omega) | (simp [*]; done) | fail) ?_) | (refine hK _ ?_; clear hK K) | (clear hK K; refine hK _ ?_; clear hK K) | (refine AW.ret (Fin.data rfl (by first | (simp only [go_sem]; done) | (simp [go_sem, *]; done) | (simp [go_sem]; omega) | rfl) rfl)))
theorem containsFunc4_Wk (xs : List Wk) (hl : xs.length ≤ 1000) (c : Nat) (c1 c2 c3 c4 : D) (q : Wk → Bool) (hc : ∀ x ∈ xs, Does Tryz.prog c [.d (wkD x), .d c1, .d c2, .d c3, .d c4] [] (B (q x)) []) :
    Does Tryz.prog 195 [.d (.sl (xs.map wkD)), .fn c [.d c1, .d c2, .d c3, .d c4]] [] (B (xs.any q)) [] := by
  rw [← idxG_any q xs 0]
  refine Does.of_AW (n := 9) Tryz.func195 rfl rfl rfl fun cx hcx => ?_
  repeat' (first | ((first | refine AW.sreg rfl fun K hK => ?_ | refine run_call _ _ _ ((indexFunc4_Wk xs hl c c1 c2 c3 c4 q hc).pure rfl rfl _ _) rfl rfl (dstOk_of rfl) rfl rfl rfl ?_); simp only [go_sem, Nat.reduceAdd, Nat.reduceMul, Int.reduceToNat, Nat.reduceLT, Nat.reduceLeDiff, Nat.le_refl, Nat.reduceEqDiff, ↓reduceIte, beq_self_eq_true, bne_self_eq_false, Int.reduceBEq, Int.reduceBNe, or_self, true_or, or_true, Option.map_some, Option.map_none]) | (refine hK _ ?_; clear hK K) | (refine AW.ret (Fin.data rfl (by first | (simp only [go_sem]; done) | (simp [go_sem, *]; done) | (simp [go_sem]; omega) | rfl) rfl)))

def wkQ (tw day : Int) (a b : Str) (x : Wk) : Bool := decide (day - tw ≤ x.1) && (decide (x.1 ≤ day) && ((x.2.any fun y => a == y) && (x.2.any fun y => b == y)))
theorem worked1_any {w : Wo} (th tw day : Int) (ht : 0 ≤ tw ∧ tw ≤ 4000) (hd : 0 ≤ day ∧ day ≤ 4000) (a b : Str) (x : Wk) (hx : x.2.length ≤ 1000) :
    Does Tryz.prog 196 [.d (wkD x), .d (.ptr [.int .i64 day] 0), .d (.ptr [jgD w th tw] 0), .d (.ptr [.str a] 0), .d (.ptr [.str b] 0)] [] (B (wkQ tw day a b x)) [] := by
  obtain ⟨pls, pes, wks, bos⟩ := w
  obtain ⟨xd, xa⟩ := x
  simp only at hx
  have c1 := contains_St xa (by omega) a
  have c2 := contains_St xa (by omega) b
  unfold wkQ
  simp only
  generalize (xa.any fun y => a == y) = v1 at *
  generalize (xa.any fun y => b == y) = v2 at *
  refine Does.of_AW (n := 35) Tryz.func196 rfl rfl rfl fun cx hcx => ?_
  by_cases e1 : day - tw ≤ xd
  · by_cases e2 : xd ≤ day
    · have z1 : xd ≥ day - tw := e1
      cases v1 <;> cases v2
      all_goals
        repeat' (first | ((first | refine AW.sreg rfl fun K hK => ?_ | refine AW.sregD hmix rfl fun K hK => ?_ | refine runT_call _ _ [] (fun hv _ => (c1).pure rfl rfl hv _) rfl rfl (dstOk_of rfl) rfl rfl ?_ | refine runT_call _ _ [] (fun hv _ => (c2).pure rfl rfl hv _) rfl rfl (dstOk_of rfl) rfl rfl ?_); simp only [go_sem, Nat.reduceAdd, Nat.reduceMul, Int.reduceToNat, Nat.reduceLT, Nat.reduceLeDiff, Nat.le_refl, Nat.reduceEqDiff, ↓reduceIte, beq_self_eq_true, bne_self_eq_false, Int.reduceBEq, Int.reduceBNe, or_self, true_or, or_true, Option.map_some, Option.map_none, e1, e2, z1]) | (refine hK _ ?_; clear hK K) | (with_reducible refine And.intro (?_ : regOk _ _ = true) ?_; kernel_rfl) | (with_reducible refine And.intro ?_ ?_; first | omega | assumption | (focus (decide)) | (focus (simp; done)) | (focus (simp; omega)) | (focus (constructor <;> omega)) | fail))
        all_goals first | exact AW.ret (Fin.data rfl (by simp [go_sem, e1, e2]) rfl) | trace_state
    · have z1 : xd ≥ day - tw := e1
      repeat' (first | ((first | refine AW.sreg rfl fun K hK => ?_ | refine AW.sregD hmix rfl fun K hK => ?_); simp only [go_sem, Nat.reduceAdd, Nat.reduceMul, Int.reduceToNat, Nat.reduceLT, Nat.reduceLeDiff, Nat.le_refl, Nat.reduceEqDiff, ↓reduceIte, beq_self_eq_true, bne_self_eq_false, Int.reduceBEq, Int.reduceBNe, or_self, true_or, or_true, Option.map_some, Option.map_none, e1, e2, z1]) | (refine hK _ ?_; clear hK K) | (refine stepBT_split (fun h => ?_) (fun h => ?_) <;> (have hb0 := h) <;> (try simp only [Bool.not_eq_true', Bool.not_eq_false'] at hb0) <;> (try simp only [decide_eq_true_eq, decide_eq_false_iff_not, Bool.not_eq_true', Bool.not_eq_false', Bool.not_eq_eq_eq_not, Bool.not_true, Bool.not_false, beq_iff_eq, bne_iff_ne, beq_eq_false_iff_ne, ne_eq, Bool.and_eq_true, Bool.or_eq_true, Bool.or_eq_false_iff] at h) <;> simp only [go_sem, Nat.reduceAdd, Nat.reduceMul, Int.reduceToNat, Nat.reduceLT, Nat.reduceLeDiff, Nat.le_refl, Nat.reduceEqDiff, ↓reduceIte, beq_self_eq_true, bne_self_eq_false, Int.reduceBEq, Int.reduceBNe, or_self, true_or, or_true, Option.map_some, Option.map_none, hb0, h, decide_true, decide_false, e1, e2, z1] <;> (try clear hb0)) | (with_reducible refine And.intro (?_ : regOk _ _ = true) ?_; kernel_rfl) | (with_reducible refine And.intro ?_ ?_; first | omega | assumption | (focus (decide)) | (focus (simp; done)) | (focus (simp; omega)) | (focus (constructor <;> omega)) | fail))
      all_goals first | exact AW.ret (Fin.data rfl (by simp [go_sem, e1, e2]) rfl) | trace_state
  · have z1 : ¬ xd ≥ day - tw := e1
    repeat' (first | ((first | refine AW.sreg rfl fun K hK => ?_ | refine AW.sregD hmix rfl fun K hK => ?_); simp only [go_sem, Nat.reduceAdd, Nat.reduceMul, Int.reduceToNat, Nat.reduceLT, Nat.reduceLeDiff, Nat.le_refl, Nat.reduceEqDiff, ↓reduceIte, beq_self_eq_true, bne_self_eq_false, Int.reduceBEq, Int.reduceBNe, or_self, true_or, or_true, Option.map_some, Option.map_none, e1, z1]) | (refine hK _ ?_; clear hK K) | (refine stepBT_split (fun h => ?_) (fun h => ?_) <;> (have hb0 := h) <;> (try simp only [Bool.not_eq_true', Bool.not_eq_false'] at hb0) <;> (try simp only [decide_eq_true_eq, decide_eq_false_iff_not, Bool.not_eq_true', Bool.not_eq_false', Bool.not_eq_eq_eq_not, Bool.not_true, Bool.not_false, beq_iff_eq, bne_iff_ne, beq_eq_false_iff_ne, ne_eq, Bool.and_eq_true, Bool.or_eq_true, Bool.or_eq_false_iff] at h) <;> simp only [go_sem, Nat.reduceAdd, Nat.reduceMul, Int.reduceToNat, Nat.reduceLT, Nat.reduceLeDiff, Nat.le_refl, Nat.reduceEqDiff, ↓reduceIte, beq_self_eq_true, bne_self_eq_false, Int.reduceBEq, Int.reduceBNe, or_self, true_or, or_true, Option.map_some, Option.map_none, hb0, h, decide_true, decide_false, e1, z1] <;> (try clear hb0)) | (with_reducible refine And.intro (?_ : regOk _ _ = true) ?_; kernel_rfl) | (with_reducible refine And.intro ?_ ?_; first | omega | assumption | (focus (decide)) | (focus (simp; done)) | (focus (simp; omega)) | (focus (constructor <;> omega)) | fail))
    all_goals first | exact AW.ret (Fin.data rfl (by simp [go_sem, e1]) rfl) | trace_state
theorem worked_any {w : Wo} (hw : w.wks.length ≤ 1000) (hwl : ∀ x ∈ w.wks, x.2.length ≤ 1000) (th tw day : Int) (ht : 0 ≤ tw ∧ tw ≤ 4000) (hd : 0 ≤ day ∧ day ≤ 4000) (a b : Str) :
    Does Tryz.prog 122 [.d (jgD w th tw), S a, S b, I day] [] (B (workB w.wks tw day a b)) [] := by
  have hc := containsFunc4_Wk w.wks hw 196 (.ptr [.int .i64 day] 0) (.ptr [jgD w th tw] 0) (.ptr [.str a] 0) (.ptr [.str b] 0) (wkQ tw day a b) (fun x hx => worked1_any th tw day ht hd a b x (hwl x hx))
  have e : workB w.wks tw day a b = w.wks.any (wkQ tw day a b) := rfl
  rw [e]
  generalize w.wks.any (wkQ tw day a b) = v at *
  obtain ⟨pls, pes, wks, bos⟩ := w
  refine Does.of_AW (n := 16) Tryz.func122 rfl rfl rfl fun cx hcx => ?_
  repeat' (first | ((first | refine AW.sreg rfl fun K hK => ?_ | refine run_call _ _ _ ((hc).borrow rfl rfl rfl) rfl rfl (dstOk_of rfl) rfl rfl rfl ?_); simp only [go_sem, Nat.reduceAdd, Nat.reduceMul, Int.reduceToNat, Nat.reduceLT, Nat.reduceLeDiff, Nat.le_refl, Nat.reduceEqDiff, ↓reduceIte, beq_self_eq_true, bne_self_eq_false, Int.reduceBEq, Int.reduceBNe, or_self, true_or, or_true, Option.map_some, Option.map_none]) | (refine hK _ ?_; clear hK K))
  all_goals first | exact AW.ret (Fin.data rfl (by simp [go_sem]) rfl) | trace_state
theorem gt_lt (a b : Str) : (!Op.bytesLess a b && !(a == b)) = Op.bytesLess b a := by
  by_cases h1 : ltS b a = true
  · have h2 : Op.bytesLess a b = false := ltS_asymm h1
    have h3 : (a == b) = false := by
      rw [beq_eq_false_iff_ne]; exact fun e => ltS_ne h1 e.symm
    have h1 : Op.bytesLess b a = true := h1
    rw [h1, h2, h3]; rfl
  · have h1 : Op.bytesLess b a = false := by simpa using h1
    rw [h1]
    by_cases h2 : ltS a b = true
    · have h2 : Op.bytesLess a b = true := h2
      rw [h2]; rfl
    · have h2 : ltS a b = false := by simpa using h2
      have : a = b := by
        by_cases e : a = b
        · exact e
        · have := ltS_total h2 e
          rw [show ltS b a = false from h1] at this
          cases this
      rw [this]; simp
theorem bondOf_any (a b : Str) : Does Tryz.prog 194 [S a, S b] [] (.d (boD (bondOf a b))) [] := by
  unfold bondOf
  have hg := gt_lt a b
  refine Does.of_AW (n := 13) Tryz.func194 rfl rfl rfl fun cx hcx => ?_
  by_cases h : Op.bytesLess b a = true
  · rw [if_pos h]
    rw [h] at hg
    repeat' (first | ((first | refine AW.sreg rfl fun K hK => ?_ | refine AW.reg rfl ?_); simp only [go_sem, Nat.reduceAdd, Nat.reduceMul, Int.reduceToNat, Nat.reduceLT, Nat.reduceLeDiff, Nat.le_refl, Nat.reduceEqDiff, ↓reduceIte, beq_self_eq_true, bne_self_eq_false, Int.reduceBEq, Int.reduceBNe, or_self, true_or, or_true, Option.map_some, Option.map_none, hg]) | (refine AW.seq_k fun K hK => ?_) | (refine AW.condT rfl (by first | rfl | (simp; omega) | (simp [*]; done) | fail) ?_) | (refine hK _ ?_; clear hK K))
    all_goals first | exact AW.ret (Fin.data rfl rfl rfl) | trace_state
  · rw [if_neg h]
    have h : Op.bytesLess b a = false := by simpa using h
    rw [h] at hg
    repeat' (first | (refine AW.sreg rfl fun K hK => ?_; simp only [go_sem, Nat.reduceAdd, Nat.reduceMul, Int.reduceToNat, Nat.reduceLT, Nat.reduceLeDiff, Nat.le_refl, Nat.reduceEqDiff, ↓reduceIte, beq_self_eq_true, bne_self_eq_false, Int.reduceBEq, Int.reduceBNe, or_self, true_or, or_true, Option.map_some, Option.map_none, hg]) | (refine AW.seq_k fun K hK => ?_) | (refine AW.skip ?_; simp only [Then, InBlock]) | (refine AW.condF rfl (by first | rfl | (simp; omega) | (simp [*]; done) | fail) ?_) | (refine hK _ ?_; clear hK K))
    all_goals first | exact AW.ret (Fin.data rfl rfl rfl) | trace_state
/-- The reasons that no day changes. -/
def alwL (w : Wo) (a b : Pe) : List Int := ifL (a.key == b.key) 1 ++ (ifL (advB a b) 2 ++ ifL (bondB w.bos a.key b.key) 5)
theorem always_any {w : Wo} (hb : w.bos.length ≤ 1000) (hr : w.bos.Pairwise fun a b => cpB a b < 0) (th tw : Int) (a b : Pe) (ha : a.advs.length ≤ 1000) (hbb : b.advs.length ≤ 1000) :
    Does Tryz.prog 120 [.d (jgD w th tw), .d (peD a), .d (peD b)] [] (.slr 0 0 (alwL w a b).length) [.vec 3 1 (dv ((alwL w a b).map (D.int .i64)))] := by
  obtain ⟨bi, hbs⟩ := bsearchB_any w.bos hb hr (bondOf a.key b.key)
  have hbo := bondOf_any a.key b.key
  have c1 := contains_St a.advs (by omega) b.key
  have c2 := contains_St b.advs (by omega) a.key
  have hL : alwL w a b = ifL (a.key == b.key) 1 ++ (ifL (advB a b) 2 ++ ifL (decide (bondOf a.key b.key ∈ w.bos)) 5) := rfl
  unfold advB at hL
  generalize alwL w a b = L at *
  generalize decide (bondOf a.key b.key ∈ w.bos) = v3 at *
  generalize (a.advs.any fun x => b.key == x) = v1 at *
  generalize (b.advs.any fun x => a.key == x) = v2 at *
  obtain ⟨pls, pes, wks, bos⟩ := w
  obtain ⟨ak, an, ah, am, aa⟩ := a
  obtain ⟨bk, bn, bh, bm, ba⟩ := b
  simp only at *
  refine Does.of_AW (n := 52) Tryz.func120 rfl rfl rfl fun cx hcx => ?_
  refine AW.sreg rfl fun K hK => ?_; simp only [go_sem, Nat.reduceAdd, Nat.reduceMul, Int.reduceToNat, Nat.reduceLT, Nat.reduceLeDiff, Nat.le_refl, Nat.reduceEqDiff, ↓reduceIte, beq_self_eq_true, bne_self_eq_false, Int.reduceBEq, Int.reduceBNe, or_self, true_or, or_true, Option.map_some, Option.map_none]
  refine hK _ ?_; (try clear hK K)
  refine AW.sreg rfl fun K hK => ?_; simp only [go_sem, Nat.reduceAdd, Nat.reduceMul, Int.reduceToNat, Nat.reduceLT, Nat.reduceLeDiff, Nat.le_refl, Nat.reduceEqDiff, ↓reduceIte, beq_self_eq_true, bne_self_eq_false, Int.reduceBEq, Int.reduceBNe, or_self, true_or, or_true, Option.map_some, Option.map_none]
  refine hK _ ?_; (try clear hK K)
  refine AW.weak (Weak.nil 7 3 1 rfl) ?_
  obtain ⟨b1, hb1⟩ : ∃ b, (ak == bk) = b := ⟨_, rfl⟩
  rw [hb1] at hL
  have c3 : b1 = false ∨ b1 = true := by cases b1 <;> simp
  have c4 : v3 = false ∨ v3 = true := by cases v3 <;> simp
  have c5 : v1 = true ∨ (v1 = false ∧ v2 = true) ∨ (v1 = false ∧ v2 = false) := by cases v1 <;> cases v2 <;> simp
  rcases c3 with rfl | rfl <;> rcases c4 with rfl | rfl <;> rcases c5 with rfl | ⟨rfl, rfl⟩ | ⟨rfl, rfl⟩
  all_goals
    simp only [ifL, Bool.true_or, Bool.false_or, Bool.or_false, if_true, Bool.false_eq_true, if_false, List.nil_append, List.cons_append] at hL
    subst hL
    repeat' (first | ((first | refine AW.sreg rfl fun K hK => ?_ | refine AW.sregD hmix rfl fun K hK => ?_ | refine AW.reg rfl ?_ | refine run_call _ _ _ ((c1).pure rfl rfl _ _) rfl rfl (dstOk_of rfl) rfl rfl rfl ?_ | refine run_call _ _ _ ((c2).pure rfl rfl _ _) rfl rfl (dstOk_of rfl) rfl rfl rfl ?_ | refine runT_call _ _ [] (fun hv _ => (hbo).pure rfl rfl hv _) rfl rfl (dstOk_of rfl) rfl rfl ?_ | refine runT_call _ _ [] (fun hv _ => (hbs).pure rfl rfl hv _) rfl rfl (dstOk_of rfl) rfl rfl ?_); simp only [go_sem, Nat.reduceAdd, Nat.reduceMul, Int.reduceToNat, Nat.reduceLT, Nat.reduceLeDiff, Nat.le_refl, Nat.reduceEqDiff, ↓reduceIte, beq_self_eq_true, bne_self_eq_false, Int.reduceBEq, Int.reduceBNe, or_self, true_or, or_true, Option.map_some, Option.map_none, hb1]) | (refine AW.seq_k fun K hK => ?_) | (refine AW.skip ?_; simp only [Then, InBlock]) | (refine AW.condT rfl (by first | rfl | (simp; omega) | (simp [*]; done) | fail) ?_) | (refine AW.condF rfl (by first | rfl | (simp; omega) | (simp [*]; done) | fail) ?_) | (refine hK _ ?_; clear hK K) | (with_reducible refine And.intro (?_ : regOk _ _ = true) ?_; kernel_rfl))
  all_goals first | (refine AW.ret (Fin.objs [256] rfl ?_ ⟨⟨_, rfl, ?_⟩, trivial⟩ (by simp) rfl ?_ ?_ rfl) <;> (simp [go_sem, inI, gI, dv]; done)) | (refine AW.ret (Fin.objs [768] rfl ?_ ⟨⟨_, rfl, ?_⟩, trivial⟩ (by simp) rfl ?_ ?_ rfl) <;> (simp [go_sem, inI, gI, dv]; done)) | (refine AW.ret (Fin.objs [1536] rfl ?_ ⟨⟨_, rfl, ?_⟩, trivial⟩ (by simp) rfl ?_ ?_ rfl) <;> (simp [go_sem, inI, gI, dv]; done)) | (refine AW.ret (Fin.objs [1792] rfl ?_ ⟨⟨_, rfl, ?_⟩, trivial⟩ (by simp) rfl ?_ ?_ rfl) <;> (simp [go_sem, inI, gI, dv]; done)) | (refine AW.ret (Fin.objs [2624] rfl ?_ ⟨⟨_, rfl, ?_⟩, trivial⟩ (by simp) rfl ?_ ?_ rfl) <;> (simp [go_sem, inI, gI, dv]; done)) | (refine AW.ret (Fin.objs [2880] rfl ?_ ⟨⟨_, rfl, ?_⟩, trivial⟩ (by simp) rfl ?_ ?_ rfl) <;> (simp [go_sem, inI, gI, dv]; done)) | (refine AW.ret (Fin.objs [3136] rfl ?_ ⟨⟨_, rfl, ?_⟩, trivial⟩ (by simp) rfl ?_ ?_ rfl) <;> (simp [go_sem, inI, gI, dv]; done)) | trace_state
end Go.AX

namespace Go.AX
open Go Go.Proofs Go.RowKit
def evalsO1 (P : Program) (C : Orc) (f : Nat) (xs : List V) (o : O) (x : V) (o' : O) : Bool := match bodyE P C (fun _ => false) 10000 f xs [o] with
  | some (y, [z]) => eqVb y x && eqOb z o'
  | _ => false
theorem evalsO1_ok {P : Program} {C : Orc} (hC : OrcOk P C) (hm : P.follows .mixedOrders = true) {f : Nat} {xs : List V} {o o' : O} {x : V} (h : evalsO1 P C f xs o x o' = true) : Does P f xs [o] x [o'] := by
  unfold evalsO1 at h
  split at h
  · rename_i y z hy
    simp only [Bool.and_eq_true] at h
    have e1 := eqVb_ok _ _ h.1
    have e2 := eqOb_ok _ _ h.2
    subst e1 e2
    exact bodyE_does hC hm hy
  · cases h
abbrev IWv (l : List Int) : O := .vec 3 1 (dv (l.map (D.int .i64)))
abbrev unL (b1 b2 b3 b4 b5 : Bool) : List Int := (ifL b1 1 ++ (ifL b2 2 ++ ifL b5 5)) ++ (ifL b3 3 ++ ifL b4 4)
abbrev soL (b1 b2 b3 b4 b5 : Bool) : List Int := ifL b1 1 ++ (ifL b2 2 ++ (ifL b3 3 ++ (ifL b4 4 ++ ifL b5 5)))
theorem sort5 (b1 b2 b3 b4 b5 : Bool) : Does Tryz.prog 123 [.slr 0 0 (unL b1 b2 b3 b4 b5).length] [IWv (unL b1 b2 b3 b4 b5)] (.tup []) [IWv (soL b1 b2 b3 b4 b5)] := by
  have h : ([false, true].all fun b1 => [false, true].all fun b2 => [false, true].all fun b3 => [false, true].all fun b4 => [false, true].all fun b5 => evalsO1 Tryz.prog (CP Tryz.prog) 123 [.slr 0 0 (unL b1 b2 b3 b4 b5).length] (IWv (unL b1 b2 b3 b4 b5)) (.tup []) (IWv (soL b1 b2 b3 b4 b5))) = true := by kernel_rfl
  have hb : ∀ b : Bool, b ∈ [false, true] := by decide
  exact evalsO1_ok CP_ok hmix (List.all_eq_true.1 (List.all_eq_true.1 (List.all_eq_true.1 (List.all_eq_true.1 (List.all_eq_true.1 h b1 (hb _)) b2 (hb _)) b3 (hb _)) b4 (hb _)) b5 (hb _))
theorem soL_len : ∀ b1 b2 b3 b4 b5 : Bool, (soL b1 b2 b3 b4 b5).length = (unL b1 b2 b3 b4 b5).length := by decide
theorem why_any {w : Wo} (ho : OkW w) (th tw day : Int) (h1 : 0 ≤ th ∧ th ≤ 4000) (h2 : 0 ≤ tw ∧ tw ≤ 4000) (hd : 0 ≤ day ∧ day ≤ 4000) (a b : Pe) (ha : HmB a.homes) (hb : HmB b.homes) (haa : a.advs.length ≤ 1000) (hbb : b.advs.length ≤ 1000) :
    Does Tryz.prog 56 [.d (jgD w th tw), .d (peD a), .d (peD b), I day] [] (.d (.sl ((whyF w th tw day a b).map (D.int .i64)))) [] := by
  have c1 := always_any (by have := ho.bo.len; omega) ho.bo.ris th tw a b haa hbb
  have c2 := sameHome_any ho.pl th tw day h1 hd a b ha hb
  have c3 := worked_any (w := w) (by have := ho.wk.len; omega) (fun x hx => by have := (ho.wk.wk x hx).len.2; omega) th tw day h2 hd a.key b.key
  have hs := sort5 (a.key == b.key) (advB a b) (homeB w.pls th day a.homes b.homes) (workB w.wks tw day a.key b.key) (bondB w.bos a.key b.key)
  have e : whyF w th tw day a b = soL (a.key == b.key) (advB a b) (homeB w.pls th day a.homes b.homes) (workB w.wks tw day a.key b.key) (bondB w.bos a.key b.key) := rfl
  have e2 : unL (a.key == b.key) (advB a b) (homeB w.pls th day a.homes b.homes) (workB w.wks tw day a.key b.key) (bondB w.bos a.key b.key) = alwL w a b ++ (ifL (homeB w.pls th day a.homes b.homes) 3 ++ ifL (workB w.wks tw day a.key b.key) 4) := rfl
  have hlen : (whyF w th tw day a b).length = (alwL w a b ++ (ifL (homeB w.pls th day a.homes b.homes) 3 ++ ifL (workB w.wks tw day a.key b.key) 4)).length := by
    rw [e, ← e2]
    exact soL_len _ _ _ _ _
  rw [← e, e2] at hs
  have hL3 : (alwL w a b).length ≤ 1000 := by
    have : ∀ b1 b2 b3 : Bool, (ifL b1 1 ++ (ifL b2 2 ++ ifL b3 5)).length ≤ 3 := by decide
    have := this (a.key == b.key) (advB a b) (bondB w.bos a.key b.key)
    unfold alwL
    omega
  clear e e2
  generalize whyF w th tw day a b = R at *
  generalize alwL w a b = L at *
  generalize homeB w.pls th day a.homes b.homes = v3 at *
  generalize workB w.wks tw day a.key b.key = v4 at *
  obtain ⟨pls, pes, wks, bos⟩ := w
  obtain ⟨ak, an, ah, am, aa⟩ := a
  obtain ⟨bk, bn, bh, bm, ba⟩ := b
  have htk : List.take L.length (dv (L.map (D.int .i64))) = dv (L.map (D.int .i64)) := List.take_of_length_le (by simp [dv])
  have htk2 : ∀ x : D, List.take (L.length + 1) (dv (L.map (D.int .i64) ++ [x])) = dv (L.map (D.int .i64) ++ [x]) := fun x => List.take_of_length_le (by simp [dv])
  refine Does.of_AW (n := 35) Tryz.func56 rfl rfl rfl fun cx hcx => ?_
  cases v3 <;> cases v4
  all_goals
    simp only [ifL, if_true, Bool.false_eq_true, if_false, List.append_nil, List.nil_append, List.cons_append, IWv, List.map_append, List.map_cons, List.map_nil, List.length_append, List.length_cons, List.length_nil, Nat.zero_add, Nat.reduceAdd] at hs hlen
    repeat' (first | ((first | refine AW.sreg rfl fun K hK => ?_ | refine AW.reg rfl ?_ | refine run_call _ _ _ ((c1).objs [] trivial rfl (by decide) (by simp [go_sem, renOs]) (by simp) (by simp) (by simp [go_sem]) (by simp [go_sem]) (by simp [go_sem]) (by simp [go_sem])) rfl rfl (dstOk_of rfl) rfl rfl rfl ?_ | refine run_call _ _ _ ((c2).pure rfl rfl _ _) rfl rfl (dstOk_of rfl) rfl rfl rfl ?_ | refine run_call _ _ _ ((c3).pure rfl rfl _ _) rfl rfl (dstOk_of rfl) rfl rfl rfl ?_ | refine run_call _ _ _ ((hs).objs [_] ⟨rfl, trivial⟩ rfl (by decide) (by simp [go_sem, renOs]) (by simp) (by simp) (by simp [go_sem]) (by simp [go_sem]) (by simp [go_sem]) (by simp [go_sem])) rfl rfl (dstOk_of rfl) rfl rfl rfl ?_); simp only [go_sem, Nat.reduceAdd, Nat.reduceMul, Int.reduceToNat, Nat.reduceLT, Nat.reduceLeDiff, Nat.le_refl, Nat.reduceEqDiff, ↓reduceIte, beq_self_eq_true, bne_self_eq_false, Int.reduceBEq, Int.reduceBNe, or_self, true_or, or_true, Option.map_some, Option.map_none, htk, htk2, Nat.reduceSub, Nat.add_zero, List.length_map, dv_push, List.append_assoc, List.cons_append, List.nil_append, Nat.add_assoc, Nat.zero_add]) | (refine AW.seq_k fun K hK => ?_) | (refine AW.skip ?_; simp only [Then, InBlock]) | (refine AW.condT rfl (by first | rfl | (simp; omega) | (simp [*]; done) | fail) ?_) | (refine AW.condF rfl (by first | rfl | (simp; omega) | (simp [*]; done) | fail) ?_) | (refine hK _ ?_; clear hK K) | (with_reducible refine And.intro ?_ ?_; first | omega | assumption | (focus (decide)) | (focus (simp; done)) | (focus (simp; omega)) | (focus (constructor <;> omega)) | fail))
    all_goals first | exact AW.ret (Fin.data rfl ((frz_slr (e := 3) (s := 1) (xs := R.map (D.int .i64)) rfl rfl (by simp at hlen ⊢; omega)).trans (by simp [go_sem])) rfl) | trace_state
end Go.AX

namespace Go.AX
open Go Go.Proofs Go.RowKit
theorem key_inj {α β : Type} {f : α → β} {l : List α} (h : (l.map f).Nodup) {p q : α} (hp : p ∈ l) (hq : q ∈ l) (e : f p = f q) : p = q := by
  induction l with
  | nil => cases hp
  | cons x l ih =>
    simp only [List.map_cons, List.nodup_cons] at h
    rcases List.mem_cons.1 hp with e1 | hp1
    · rcases List.mem_cons.1 hq with e2 | hq1
      · rw [e1, e2]
      · exact absurd (by rw [← e1, e]; exact List.mem_map_of_mem hq1) h.1
    · rcases List.mem_cons.1 hq with e2 | hq1
      · exact absurd (by rw [← e2, ← e]; exact List.mem_map_of_mem hp1) h.1
      · exact ih h.2 hp1 hq1
theorem newJudge_ok {w : Wo} (ho : OkW w) (th tw : Int) : Does Tryz.prog 118 [.d (woD w), .d (.agg [.int .i64 th, .int .i64 tw])] [] (.d (jgD w th tw)) [] := by
  have h1 := keysOf_any w (by have := ho.len; omega) ho.nd
  have h2 := parentsOf_any w.pls (by have := ho.pl.len; omega) ho.pl.nd
  obtain ⟨pls, pes, wks, bos⟩ := w
  simp only at h1 h2 ⊢
  refine Does.of_AW (n := 14) Tryz.func118 rfl rfl rfl fun cx hcx => ?_
  repeat' (first | ((first | refine AW.sreg rfl fun K hK => ?_ | refine AW.sregD hmix rfl fun K hK => ?_ | refine runT_call _ _ [] (fun hv _ => (h1).pure rfl rfl hv _) rfl rfl (dstOk_of rfl) rfl rfl ?_ | refine runT_call _ _ [] (fun hv _ => (h2).pure rfl rfl hv _) rfl rfl (dstOk_of rfl) rfl rfl ?_); simp only [go_sem, Nat.reduceAdd, Nat.reduceMul, Int.reduceToNat, Nat.reduceLT, Nat.reduceLeDiff, Nat.le_refl, Nat.reduceEqDiff, ↓reduceIte, beq_self_eq_true, bne_self_eq_false, Int.reduceBEq, Int.reduceBNe, or_self, true_or, or_true, Option.map_some, Option.map_none]) | (refine hK _ ?_; clear hK K) | (with_reducible refine And.intro (?_ : regOk _ _ = true) ?_; kernel_rfl))
  exact AW.ret (Fin.data rfl (by simp [go_sem, frz, toD, toDL]) rfl)
theorem checkTerms_ok (th tw : Int) (h1 : 0 ≤ th ∧ th ≤ 4000) (h2 : 0 ≤ tw ∧ tw ≤ 4000) : Does Tryz.prog 117 [.d (.agg [.int .i64 th, .int .i64 tw])] [] (I 0) [] := by
  have d1 := isDay_any th h1
  have d2 := isDay_any tw h2
  refine Does.of_AW (n := 13) Tryz.func117 rfl rfl rfl fun cx hcx => ?_
  repeat' (first | ((first | refine AW.sreg rfl fun K hK => ?_ | refine run_call _ _ _ ((d1).pure rfl rfl _ _) rfl rfl (dstOk_of rfl) rfl rfl rfl ?_ | refine run_call _ _ _ ((d2).pure rfl rfl _ _) rfl rfl (dstOk_of rfl) rfl rfl rfl ?_); simp only [go_sem, Nat.reduceAdd, Nat.reduceMul, Int.reduceToNat, Nat.reduceLT, Nat.reduceLeDiff, Nat.le_refl, Nat.reduceEqDiff, ↓reduceIte, beq_self_eq_true, bne_self_eq_false, Int.reduceBEq, Int.reduceBNe, or_self, true_or, or_true, Option.map_some, Option.map_none]) | (refine AW.seq_k fun K hK => ?_) | (refine AW.skip ?_; simp only [Then, InBlock]) | (refine AW.condF rfl (by first | rfl | (simp; omega) | (simp [*]; done) | fail) ?_) | (refine hK _ ?_; clear hK K) | (refine AW.ret (Fin.data rfl (by first | (simp only [go_sem]; done) | (simp [go_sem, *]; done) | (simp [go_sem]; omega) | rfl) rfl)))
theorem two_ok {w : Wo} (ho : OkW w) (th tw day : Int) (h1 : 0 ≤ th ∧ th ≤ 4000) (h2 : 0 ≤ tw ∧ tw ≤ 4000) (hd : 0 ≤ day ∧ day ≤ 4000) (a b : Pe) (ha : a ∈ w.pes) (hb : b ∈ w.pes) :
    Does Tryz.prog 55 [.d (woD w), .d (.agg [.int .i64 th, .int .i64 tw]), S a.key, S b.key, I day] [] (.tup [.d (jgD w th tw), .d (peD a), .d (peD b), I 0]) [] := by
  have c1 := check_ok ho
  have c2 := checkTerms_ok th tw h1 h2
  have c3 := newJudge_ok ho th tw
  have c4 := isDay_any day hd
  have hnd := ho.nd
  have huq : ∀ {p q : Pe}, p ∈ w.pes → q ∈ w.pes → p.key = q.key → p = q := fun hp hq e => key_inj hnd hp hq e
  rcases ky_find hnd a.key with ⟨u1, u2⟩ | ⟨i, p, u1, u2, u3, u4⟩
  · exact absurd (List.mem_map_of_mem ha) u1
  rcases ky_find hnd b.key with ⟨v1, v2⟩ | ⟨k, q, v1, v2, v3, v4⟩
  · exact absurd (List.mem_map_of_mem hb) v1
  obtain rfl : p = a := huq (List.mem_of_getElem? u1) ha u2
  obtain rfl : q = b := huq (List.mem_of_getElem? v1) hb v2
  have hi : i < w.pes.length := (List.getElem?_eq_some_iff.1 u1).1
  have hk : k < w.pes.length := (List.getElem?_eq_some_iff.1 v1).1
  have g1 : (w.pes.map peD)[i]? = some (peD p) := by simp [u1]
  have g2 : (w.pes.map peD)[k]? = some (peD q) := by simp [v1]
  have hpl := ho.len
  obtain ⟨pls, pes, wks, bos⟩ := w
  simp only at *
  refine Does.of_AW (n := 82) Tryz.func55 rfl rfl rfl fun cx hcx => ?_
  repeat' (first | ((first | refine AW.sreg rfl fun K hK => ?_ | refine AW.sregD hmix rfl fun K hK => ?_ | refine run_call _ _ _ ((c1).pure rfl rfl _ _) rfl rfl (dstOk_of rfl) rfl rfl rfl ?_ | refine run_call _ _ _ ((c2).pure rfl rfl _ _) rfl rfl (dstOk_of rfl) rfl rfl rfl ?_ | refine run_call _ _ _ ((c3).pure rfl rfl _ _) rfl rfl (dstOk_of rfl) rfl rfl rfl ?_ | refine run_call _ _ _ ((c4).pure rfl rfl _ _) rfl rfl (dstOk_of rfl) rfl rfl rfl ?_); simp only [go_sem, Nat.reduceAdd, Nat.reduceMul, Int.reduceToNat, Nat.reduceLT, Nat.reduceLeDiff, Nat.le_refl, Nat.reduceEqDiff, ↓reduceIte, beq_self_eq_true, bne_self_eq_false, Int.reduceBEq, Int.reduceBNe, or_self, true_or, or_true, Option.map_some, Option.map_none, u3, u4, v3, v4, g1, g2, List.length_map]) | (refine AW.seq_k fun K hK => ?_) | (refine AW.skip ?_; simp only [Then, InBlock]) | (refine AW.condF rfl (by first | rfl | (simp; omega) | (simp [*]; done) | fail) ?_) | (refine hK _ ?_; clear hK K) | (with_reducible refine And.intro (?_ : regOk _ _ = true) ?_; kernel_rfl) | (with_reducible refine And.intro ?_ ?_; first | omega | assumption | (focus (decide)) | (focus (simp; done)) | (focus (simp; omega)) | (focus (constructor <;> omega)) | fail))
  all_goals first | exact AW.ret (Fin.data rfl rfl rfl) | trace_state
theorem HmB_of {ps : List Pl} {l : List Hm} (h : OkHm ps l) : HmB l := ⟨by have := h.len; omega, fun x hx => by have := h.hm x hx; omega⟩
theorem Why_ok {w : Wo} (ho : OkW w) (th tw day : Int) (h1 : 0 ≤ th ∧ th ≤ 4000) (h2 : 0 ≤ tw ∧ tw ≤ 4000) (hd : 0 ≤ day ∧ day ≤ 4000) (a b : Pe) (ha : a ∈ w.pes) (hb : b ∈ w.pes) :
    Does Tryz.prog 15 [.d (woD w), .d (.agg [.int .i64 th, .int .i64 tw]), S a.key, S b.key, I day] [] (.tup [.d (.sl ((whyF w th tw day a b).map (D.int .i64))), I 0]) [] := by
  have c1 := two_ok ho th tw day h1 h2 hd a b ha hb
  have hA := ho.pe a ha
  have hB := ho.pe b hb
  have c2 := why_any ho th tw day h1 h2 hd a b (HmB_of hA.hm) (HmB_of hB.hm) (by have := hA.ad.len; omega) (by have := hB.ad.len; omega)
  generalize whyF w th tw day a b = R at *
  obtain ⟨pls, pes, wks, bos⟩ := w
  obtain ⟨ak, an, ah, am, aa⟩ := a
  obtain ⟨bk, bn, bh, bm, ba⟩ := b
  simp only at c1 c2 ⊢
  refine Does.of_AW (n := 35) Tryz.func15 rfl rfl rfl fun cx hcx => ?_
  repeat' (first | ((first | refine AW.sreg rfl fun K hK => ?_ | refine run_call _ _ _ ((c1).pure rfl rfl _ _) rfl rfl (dstOk_of rfl) rfl rfl rfl ?_ | refine run_call _ _ _ ((c2).pure rfl rfl _ _) rfl rfl (dstOk_of rfl) rfl rfl rfl ?_); simp only [go_sem, Nat.reduceAdd, Nat.reduceMul, Int.reduceToNat, Nat.reduceLT, Nat.reduceLeDiff, Nat.le_refl, Nat.reduceEqDiff, ↓reduceIte, beq_self_eq_true, bne_self_eq_false, Int.reduceBEq, Int.reduceBNe, or_self, true_or, or_true, Option.map_some, Option.map_none]) | (refine AW.seq_k fun K hK => ?_) | (refine AW.skip ?_; simp only [Then, InBlock]) | (refine AW.condF rfl (by first | rfl | (simp; omega) | (simp [*]; done) | fail) ?_) | (refine hK _ ?_; clear hK K))
  all_goals first | exact AW.ret (Fin.data rfl (by simp [go_sem]) rfl) | trace_state
end Go.AX

namespace Go.AX
open Go Go.Proofs Go.RowKit
abbrev InD (n : Int) : D := .int .i64 n
theorem indexFunc_In (xs : List Int) (hl : xs.length ≤ 1000) (c : Nat) (cap : D) (q : Int → Bool) (hc : ∀ x ∈ xs, Does Tryz.prog c [.d (InD x), .d cap] [] (B (q x)) []) :
    Does Tryz.prog 124 [.d (.sl (xs.map InD)), .fn c [.d cap]] [] (I (idxG q xs 0)) [] := by
  refine Does.of_AW (n := 19) Tryz.func124 rfl rfl rfl fun cx hcx => ?_
  generalize hR : idxG q xs 0 = R
  repeat' (first | (refine AW.sreg rfl fun K hK => ?_; simp only [go_sem, Nat.reduceAdd, Nat.reduceMul, Int.reduceToNat, Nat.reduceLT, Nat.reduceLeDiff, Nat.le_refl, Nat.reduceEqDiff, ↓reduceIte, beq_self_eq_true, bne_self_eq_false, Int.reduceBEq, Int.reduceBNe, or_self, true_or, or_true, Option.map_some, Option.map_none, List.length_map]) | (refine AW.seq_k fun K hK => ?_) | (refine AW.block ?_) | (refine hK _ ?_; clear hK K))
  refine AW.loopF (ι := Nat) [0, 1, 7] (fun p => [(8, I p)]) (fun p => []) 1 (fun p => p ≤ xs.length ∧ idxG q (xs.drop p) p = R) (fun p => xs.length - p) 0 ⟨by simp, hR⟩ (Weak.auto hcx rfl rfl (Nat.le_of_ble_eq_true rfl) (by simp [go_sem, gL, kL, renOf, V.obj, lk, Nat.blt, Nat.ble, List.map_append, dv_push]) (by simp [go_sem, gL, kL, renOf, V.obj, lk, Nat.blt, Nat.ble, List.map_append, dv_push]) (by first | exact pk0 | exact pk1 ⟨_, rfl⟩ | exact pk2 ⟨_, rfl⟩ ⟨_, rfl⟩ | exact pk3 ⟨_, rfl⟩ ⟨_, rfl⟩ ⟨_, rfl⟩ | exact pk4 ⟨_, rfl⟩ ⟨_, rfl⟩ ⟨_, rfl⟩ ⟨_, rfl⟩) (by simp [go_sem, gL, kL, lk, renOf, V.obj, Nat.blt, Nat.ble])) ?_; simp only [St.at_nil, St.at_cons, lk, Nat.reduceEqDiff, ↓reduceIte, Option.getD_some, Option.getD_none, List.cons_append, List.nil_append, List.append_nil]
  rintro i ⟨h1, h2⟩
  by_cases hi : i < xs.length
  · obtain ⟨x, hx, hxm, hxd⟩ := get_some hi
    have hget : (xs.map InD)[i]? = some (InD x) := by simp [hx]
    rw [hxd, idxG] at h2
    repeat' (first | ((first | refine AW.sreg rfl fun K hK => ?_ | refine AW.reg rfl ?_ | refine run_call _ _ _ ((hc x hxm).pure rfl rfl _ _) rfl rfl (dstOk_of rfl) rfl rfl rfl ?_); simp only [go_sem, Nat.reduceAdd, Nat.reduceMul, Int.reduceToNat, Nat.reduceLT, Nat.reduceLeDiff, Nat.le_refl, Nat.reduceEqDiff, ↓reduceIte, beq_self_eq_true, bne_self_eq_false, Int.reduceBEq, Int.reduceBNe, or_self, true_or, or_true, Option.map_some, Option.map_none, List.length_map, hget]) | (refine AW.seq_k fun K hK => ?_) | (refine AW.block ?_) | (refine AW.skip ?_; simp only [Then, InBlock]) | (refine AW.condT rfl (by first | rfl | (simp; omega) | (simp [*]; done) | fail) ?_) | (refine AW.cond rfl (fun h => ?_) (fun h => ?_) <;> (try simp only [decide_eq_true_eq, decide_eq_false_iff_not, Bool.not_eq_true', Bool.not_eq_false', Bool.not_eq_eq_eq_not, Bool.not_true, Bool.not_false, beq_iff_eq, bne_iff_ne, beq_eq_false_iff_ne, ne_eq, Bool.and_eq_true, Bool.or_eq_true, Bool.or_eq_false_iff] at h)) | (refine hK _ ?_; clear hK K) | (with_reducible refine And.intro ?_ ?_; first | omega | assumption | (focus (decide)) | (focus (simp; done)) | (focus (simp; omega)) | (focus (constructor <;> omega)) | fail) | (refine AW.ret (Fin.data rfl (by first | (simp only [go_sem]; done) | ((rw [if_pos h] at h2; subst h2; simp [go_sem]); done) | (simp [go_sem]; omega) | rfl) rfl)))
    rw [if_neg (by simp [h])] at h2
    exact ⟨i + 1, ⟨hi, h2⟩, by omega, (Weak.auto hcx rfl rfl (Nat.le_of_ble_eq_true rfl) (by simp [go_sem, gL, kL, renOf, V.obj, lk, Nat.blt, Nat.ble, List.map_append, dv_push]) (by simp [go_sem, gL, kL, renOf, V.obj, lk, Nat.blt, Nat.ble, List.map_append, dv_push]) (by first | exact pk0 | exact pk1 ⟨_, rfl⟩ | exact pk2 ⟨_, rfl⟩ ⟨_, rfl⟩ | exact pk3 ⟨_, rfl⟩ ⟨_, rfl⟩ ⟨_, rfl⟩ | exact pk4 ⟨_, rfl⟩ ⟨_, rfl⟩ ⟨_, rfl⟩ ⟨_, rfl⟩) (by simp [go_sem, gL, kL, lk, renOf, V.obj, Nat.blt, Nat.ble]))⟩
  · obtain rfl : i = xs.length := by omega
    simp only [List.drop_length, idxG] at h2
    subst h2
    repeat' (first | (refine AW.sreg rfl fun K hK => ?_; simp only [go_sem, Nat.reduceAdd, Nat.reduceMul, Int.reduceToNat, Nat.reduceLT, Nat.reduceLeDiff, Nat.le_refl, Nat.reduceEqDiff, ↓reduceIte, beq_self_eq_true, bne_self_eq_false, Int.reduceBEq, Int.reduceBNe, or_self, true_or, or_true, Option.map_some, Option.map_none, List.length_map]) | (refine AW.seq_k fun K hK => ?_) | (refine AW.exit ?_; simp only [go_sem, ↓reduceIte]) | (refine AW.condF rfl (by first | rfl | (simp; omega) | (simp [*]; done) | fail) ?_) | (refine hK _ ?_; clear hK K) | (clear hK K; refine hK _ ?_; clear hK K) | (refine AW.ret (Fin.data rfl (by first | (simp only [go_sem]; done) | (simp [go_sem, *]; done) | (simp [go_sem]; omega) | rfl) rfl)))
theorem containsFunc_In (xs : List Int) (hl : xs.length ≤ 1000) (c : Nat) (cap : D) (q : Int → Bool) (hc : ∀ x ∈ xs, Does Tryz.prog c [.d (InD x), .d cap] [] (B (q x)) []) :
    Does Tryz.prog 57 [.d (.sl (xs.map InD)), .fn c [.d cap]] [] (B (xs.any q)) [] := by
  rw [← idxG_any q xs 0]
  refine Does.of_AW (n := 9) Tryz.func57 rfl rfl rfl fun cx hcx => ?_
  repeat' (first | ((first | refine AW.sreg rfl fun K hK => ?_ | refine run_call _ _ _ ((indexFunc_In xs hl c cap q hc).pure rfl rfl _ _) rfl rfl (dstOk_of rfl) rfl rfl rfl ?_); simp only [go_sem, Nat.reduceAdd, Nat.reduceMul, Int.reduceToNat, Nat.reduceLT, Nat.reduceLeDiff, Nat.le_refl, Nat.reduceEqDiff, ↓reduceIte, beq_self_eq_true, bne_self_eq_false, Int.reduceBEq, Int.reduceBNe, or_self, true_or, or_true, Option.map_some, Option.map_none]) | (refine hK _ ?_; clear hK K) | (refine AW.ret (Fin.data rfl (by first | (simp only [go_sem]; done) | (simp [go_sem, *]; done) | (simp [go_sem]; omega) | rfl) rfl)))

theorem index_In (xs : List Int) (hl : xs.length ≤ 100000) (v : Int) :
    Does Tryz.prog 125 [.d (.sl (xs.map InD)), I v] [] (I (idxG (fun x => v == x) xs 0)) [] := by
  refine Does.of_AW (n := 19) Tryz.func125 rfl rfl rfl fun cx hcx => ?_
  generalize hR : idxG (fun x => v == x) xs 0 = R
  repeat' (first | (refine AW.sreg rfl fun K hK => ?_; simp only [go_sem, Nat.reduceAdd, Nat.reduceMul, Int.reduceToNat, Nat.reduceLT, Nat.reduceLeDiff, Nat.le_refl, Nat.reduceEqDiff, ↓reduceIte, beq_self_eq_true, bne_self_eq_false, Int.reduceBEq, Int.reduceBNe, or_self, true_or, or_true, Option.map_some, Option.map_none, List.length_map]) | (refine AW.seq_k fun K hK => ?_) | (refine AW.block ?_) | (refine hK _ ?_; clear hK K))
  refine AW.loopF (ι := Nat) [0, 1, 7] (fun p => [(8, I p)]) (fun p => []) 1 (fun p => p ≤ xs.length ∧ idxG (fun x => v == x) (xs.drop p) p = R) (fun p => xs.length - p) 0 ⟨by simp, hR⟩ (Weak.auto hcx rfl rfl (Nat.le_of_ble_eq_true rfl) (by simp [go_sem, gL, kL, renOf, V.obj, lk, Nat.blt, Nat.ble, List.map_append, dv_push]) (by simp [go_sem, gL, kL, renOf, V.obj, lk, Nat.blt, Nat.ble, List.map_append, dv_push]) (by first | exact pk0 | exact pk1 ⟨_, rfl⟩ | exact pk2 ⟨_, rfl⟩ ⟨_, rfl⟩ | exact pk3 ⟨_, rfl⟩ ⟨_, rfl⟩ ⟨_, rfl⟩ | exact pk4 ⟨_, rfl⟩ ⟨_, rfl⟩ ⟨_, rfl⟩ ⟨_, rfl⟩) (by simp [go_sem, gL, kL, lk, renOf, V.obj, Nat.blt, Nat.ble])) ?_; simp only [St.at_nil, St.at_cons, lk, Nat.reduceEqDiff, ↓reduceIte, Option.getD_some, Option.getD_none, List.cons_append, List.nil_append, List.append_nil]
  rintro i ⟨h1, h2⟩
  by_cases hi : i < xs.length
  · obtain ⟨x, hx, hxm, hxd⟩ := get_some hi
    have hget : (xs.map InD)[i]? = some (InD x) := by simp [hx]
    rw [hxd, idxG] at h2
    repeat' (first | ((first | refine AW.sreg rfl fun K hK => ?_ | refine AW.reg rfl ?_); simp only [go_sem, Nat.reduceAdd, Nat.reduceMul, Int.reduceToNat, Nat.reduceLT, Nat.reduceLeDiff, Nat.le_refl, Nat.reduceEqDiff, ↓reduceIte, beq_self_eq_true, bne_self_eq_false, Int.reduceBEq, Int.reduceBNe, or_self, true_or, or_true, Option.map_some, Option.map_none, List.length_map, hget]) | (refine AW.seq_k fun K hK => ?_) | (refine AW.block ?_) | (refine AW.skip ?_; simp only [Then, InBlock]) | (refine AW.condT rfl (by first | rfl | (simp; omega) | (simp [*]; done) | fail) ?_) | (refine AW.cond rfl (fun h => ?_) (fun h => ?_) <;> (try simp only [decide_eq_true_eq, decide_eq_false_iff_not, Bool.not_eq_true', Bool.not_eq_false', Bool.not_eq_eq_eq_not, Bool.not_true, Bool.not_false, beq_iff_eq, bne_iff_ne, beq_eq_false_iff_ne, ne_eq, Bool.and_eq_true, Bool.or_eq_true, Bool.or_eq_false_iff] at h)) | (refine hK _ ?_; clear hK K) | (with_reducible refine And.intro ?_ ?_; first | omega | assumption | (focus (decide)) | (focus (simp; done)) | (focus (simp; omega)) | (focus (constructor <;> omega)) | fail) | (refine AW.ret (Fin.data rfl (by first | (simp only [go_sem]; done) | ((rw [if_pos (by simpa using h)] at h2; subst h2; simp [go_sem]); done) | (simp [go_sem]; omega) | rfl) rfl)))
    rw [if_neg (by simpa using h)] at h2
    exact ⟨i + 1, ⟨hi, h2⟩, by omega, (Weak.auto hcx rfl rfl (Nat.le_of_ble_eq_true rfl) (by simp [go_sem, gL, kL, renOf, V.obj, lk, Nat.blt, Nat.ble, List.map_append, dv_push]) (by simp [go_sem, gL, kL, renOf, V.obj, lk, Nat.blt, Nat.ble, List.map_append, dv_push]) (by first | exact pk0 | exact pk1 ⟨_, rfl⟩ | exact pk2 ⟨_, rfl⟩ ⟨_, rfl⟩ | exact pk3 ⟨_, rfl⟩ ⟨_, rfl⟩ ⟨_, rfl⟩ | exact pk4 ⟨_, rfl⟩ ⟨_, rfl⟩ ⟨_, rfl⟩ ⟨_, rfl⟩) (by simp [go_sem, gL, kL, lk, renOf, V.obj, Nat.blt, Nat.ble]))⟩
  · obtain rfl : i = xs.length := by omega
    simp only [List.drop_length, idxG] at h2
    subst h2
    repeat' (first | (refine AW.sreg rfl fun K hK => ?_; simp only [go_sem, Nat.reduceAdd, Nat.reduceMul, Int.reduceToNat, Nat.reduceLT, Nat.reduceLeDiff, Nat.le_refl, Nat.reduceEqDiff, ↓reduceIte, beq_self_eq_true, bne_self_eq_false, Int.reduceBEq, Int.reduceBNe, or_self, true_or, or_true, Option.map_some, Option.map_none, List.length_map]) | (refine AW.seq_k fun K hK => ?_) | (refine AW.exit ?_; simp only [go_sem, ↓reduceIte]) | (refine AW.condF rfl (by first | rfl | (simp; omega) | (simp [*]; done) | fail) ?_) | (refine hK _ ?_; clear hK K) | (clear hK K; refine hK _ ?_; clear hK K) | (refine AW.ret (Fin.data rfl (by first | (simp only [go_sem]; done) | (simp [go_sem, *]; done) | (simp [go_sem]; omega) | rfl) rfl)))
theorem contains_In (xs : List Int) (hl : xs.length ≤ 100000) (v : Int) :
    Does Tryz.prog 59 [.d (.sl (xs.map InD)), I v] [] (B (xs.any fun x => v == x)) [] := by
  rw [← idxG_any (fun x => v == x) xs 0]
  refine Does.of_AW (n := 9) Tryz.func59 rfl rfl rfl fun cx hcx => ?_
  repeat' (first | ((first | refine AW.sreg rfl fun K hK => ?_ | refine run_call _ _ _ ((index_In xs hl v).pure rfl rfl _ _) rfl rfl (dstOk_of rfl) rfl rfl rfl ?_); simp only [go_sem, Nat.reduceAdd, Nat.reduceMul, Int.reduceToNat, Nat.reduceLT, Nat.reduceLeDiff, Nat.le_refl, Nat.reduceEqDiff, ↓reduceIte, beq_self_eq_true, bne_self_eq_false, Int.reduceBEq, Int.reduceBNe, or_self, true_or, or_true, Option.map_some, Option.map_none]) | (refine hK _ ?_; clear hK K) | (refine AW.ret (Fin.data rfl (by first | (simp only [go_sem]; done) | (simp [go_sem, *]; done) | (simp [go_sem]; omega) | rfl) rfl)))
theorem within1_any (b : List Int) (hb : b.length ≤ 100000) (n : Int) : Does Tryz.prog 58 [I n, .d (.ptr [.sl (b.map InD)] 0)] [] (B (!b.any fun x => n == x)) [] := by
  have hc := contains_In b hb n
  generalize (b.any fun x => n == x) = v at *
  refine Does.of_AW (n := 8) Tryz.func58 rfl rfl rfl fun cx hcx => ?_
  repeat' (first | ((first | refine AW.sreg rfl fun K hK => ?_ | refine run_call _ _ _ ((hc).pure rfl rfl _ _) rfl rfl (dstOk_of rfl) rfl rfl rfl ?_); simp only [go_sem, Nat.reduceAdd, Nat.reduceMul, Int.reduceToNat, Nat.reduceLT, Nat.reduceLeDiff, Nat.le_refl, Nat.reduceEqDiff, ↓reduceIte, beq_self_eq_true, bne_self_eq_false, Int.reduceBEq, Int.reduceBNe, or_self, true_or, or_true, Option.map_some, Option.map_none]) | (refine hK _ ?_; clear hK K))
  exact AW.ret (Fin.data rfl (by simp [go_sem]) rfl)
theorem within_ok {a b : List Int} (ha : a.length ≤ 1000) (hb : b.length ≤ 1000) (h : SubI a b) : Does Tryz.prog 17 [.d (.sl (a.map InD)), .d (.sl (b.map InD))] [] (B true) [] := by
  have hcf := containsFunc_In a ha 58 (.ptr [.sl (b.map InD)] 0) (fun n => !b.any fun x => n == x) (fun n _ => within1_any b (by omega) n)
  have e : (a.any fun n => !b.any fun x => n == x) = false := by
    rw [List.any_eq_false]
    intro x hx
    have := h x hx
    simp only [Bool.not_eq_true', Bool.not_eq_false, List.any_eq_true, beq_iff_eq]
    exact ⟨x, this, rfl⟩
  rw [e] at hcf
  refine Does.of_AW (n := 9) Tryz.func17 rfl rfl rfl fun cx hcx => ?_
  repeat' (first | ((first | refine AW.sreg rfl fun K hK => ?_ | refine run_call _ _ _ ((hcf).borrow rfl rfl rfl) rfl rfl (dstOk_of rfl) rfl rfl rfl ?_); simp only [go_sem, Nat.reduceAdd, Nat.reduceMul, Int.reduceToNat, Nat.reduceLT, Nat.reduceLeDiff, Nat.le_refl, Nat.reduceEqDiff, ↓reduceIte, beq_self_eq_true, bne_self_eq_false, Int.reduceBEq, Int.reduceBNe, or_self, true_or, or_true, Option.map_some, Option.map_none]) | (refine hK _ ?_; clear hK K))
  exact AW.ret (Fin.data rfl (by simp [go_sem]) rfl)
theorem equalI_refl (a : List Int) (ha : a.length ≤ 100000) : Does Tryz.prog 16 [.d (.sl (a.map InD)), .d (.sl (a.map InD))] [] (B true) [] := by
  refine Does.of_AW (n := 26) Tryz.func16 rfl rfl rfl fun cx hcx => ?_
  repeat' (first | (refine AW.sreg rfl fun K hK => ?_; simp only [go_sem, Nat.reduceAdd, Nat.reduceMul, Int.reduceToNat, Nat.reduceLT, Nat.reduceLeDiff, Nat.le_refl, Nat.reduceEqDiff, ↓reduceIte, beq_self_eq_true, bne_self_eq_false, Int.reduceBEq, Int.reduceBNe, or_self, true_or, or_true, Option.map_some, Option.map_none, List.length_map]) | (refine AW.seq_k fun K hK => ?_) | (refine AW.block ?_) | (refine AW.skip ?_; simp only [Then, InBlock]) | (refine AW.condF rfl (by first | rfl | (simp; omega) | (simp [*]; done) | fail) ?_) | (refine hK _ ?_; clear hK K))
  refine AW.loopF (ι := Nat) [0, 1, 12] (fun p => [(13, I p)]) (fun p => []) 20 (fun p => p ≤ a.length) (fun p => a.length - p) 0 (Nat.zero_le _) (Weak.auto hcx rfl rfl (Nat.le_of_ble_eq_true rfl) (by simp [go_sem, gL, kL, renOf, V.obj, lk, Nat.blt, Nat.ble, List.map_append, dv_push]) (by simp [go_sem, gL, kL, renOf, V.obj, lk, Nat.blt, Nat.ble, List.map_append, dv_push]) (by first | exact pk0 | exact pk1 ⟨_, rfl⟩ | exact pk2 ⟨_, rfl⟩ ⟨_, rfl⟩ | exact pk3 ⟨_, rfl⟩ ⟨_, rfl⟩ ⟨_, rfl⟩ | exact pk4 ⟨_, rfl⟩ ⟨_, rfl⟩ ⟨_, rfl⟩ ⟨_, rfl⟩) (by simp [go_sem, gL, kL, lk, renOf, V.obj, Nat.blt, Nat.ble])) ?_; simp only [St.at_nil, St.at_cons, lk, Nat.reduceEqDiff, ↓reduceIte, Option.getD_some, Option.getD_none, List.cons_append, List.nil_append, List.append_nil]
  intro i h1
  by_cases hi : i < a.length
  · obtain ⟨x, hx, hxm, hxd⟩ := get_some hi
    have hget : (a.map InD)[i]? = some (InD x) := by simp [hx]
    repeat' (first | ((first | refine AW.sreg rfl fun K hK => ?_ | refine AW.sregD hmix rfl fun K hK => ?_ | refine AW.reg rfl ?_); simp only [go_sem, Nat.reduceAdd, Nat.reduceMul, Int.reduceToNat, Nat.reduceLT, Nat.reduceLeDiff, Nat.le_refl, Nat.reduceEqDiff, ↓reduceIte, beq_self_eq_true, bne_self_eq_false, Int.reduceBEq, Int.reduceBNe, or_self, true_or, or_true, Option.map_some, Option.map_none, List.length_map, hget]) | (refine AW.seq_k fun K hK => ?_) | (refine AW.block ?_) | (refine AW.skip ?_; simp only [Then, InBlock]) | (refine AW.condT rfl (by first | rfl | (simp; omega) | (simp [*]; done) | fail) ?_) | (refine AW.condF rfl (by first | rfl | (simp; omega) | (simp [*]; done) | fail) ?_) | (refine hK _ ?_; clear hK K) | (with_reducible refine And.intro (?_ : regOk _ _ = true) ?_; kernel_rfl) | (with_reducible refine And.intro ?_ ?_; first | omega | assumption | (focus (decide)) | (focus (simp; done)) | (focus (simp; omega)) | (focus (constructor <;> omega)) | fail))
    all_goals first | (exfalso; simp_all; done) | exact ⟨i + 1, hi, by omega, (Weak.auto hcx rfl rfl (Nat.le_of_ble_eq_true rfl) (by simp [go_sem, gL, kL, renOf, V.obj, lk, Nat.blt, Nat.ble, List.map_append, dv_push]) (by simp [go_sem, gL, kL, renOf, V.obj, lk, Nat.blt, Nat.ble, List.map_append, dv_push]) (by first | exact pk0 | exact pk1 ⟨_, rfl⟩ | exact pk2 ⟨_, rfl⟩ ⟨_, rfl⟩ | exact pk3 ⟨_, rfl⟩ ⟨_, rfl⟩ ⟨_, rfl⟩ | exact pk4 ⟨_, rfl⟩ ⟨_, rfl⟩ ⟨_, rfl⟩ ⟨_, rfl⟩) (by simp [go_sem, gL, kL, lk, renOf, V.obj, Nat.blt, Nat.ble]))⟩ | trace_state
  · obtain rfl : i = a.length := by omega
    repeat' (first | (refine AW.sreg rfl fun K hK => ?_; simp only [go_sem, Nat.reduceAdd, Nat.reduceMul, Int.reduceToNat, Nat.reduceLT, Nat.reduceLeDiff, Nat.le_refl, Nat.reduceEqDiff, ↓reduceIte, beq_self_eq_true, bne_self_eq_false, Int.reduceBEq, Int.reduceBNe, or_self, true_or, or_true, Option.map_some, Option.map_none, List.length_map]) | (refine AW.seq_k fun K hK => ?_) | (refine AW.exit ?_; simp only [go_sem, ↓reduceIte]) | (refine AW.condF rfl (by first | rfl | (simp; omega) | (simp [*]; done) | fail) ?_) | (refine hK _ ?_; clear hK K) | (clear hK K; refine hK _ ?_; clear hK K) | (refine AW.ret (Fin.data rfl (by first | (simp only [go_sem]; done) | (simp [go_sem, *]; done) | (simp [go_sem]; omega) | rfl) rfl)))
theorem whyF_len (w : Wo) (th tw day : Int) (a b : Pe) : (whyF w th tw day a b).length ≤ 5 := by
  have : ∀ b1 b2 b3 b4 b5 : Bool, (soL b1 b2 b3 b4 b5).length ≤ 5 := by decide
  exact this _ _ _ _ _
theorem termsI (l : List Int) (hl2 : l.length ≤ 9223372036854775807) (at_ : Int) (ha : 0 ≤ at_) (hb : at_ ≤ 100000) :
    DoesI Tryz.prog 13 [.ptr 0 0] [Stm l at_] (fun q : Int × Int => (0 ≤ q.1 ∧ q.1 ≤ 4000) ∧ (0 ≤ q.2 ∧ q.2 ≤ 4000)) (fun q => .d (.agg [.int .i64 q.1, .int .i64 q.2])) (fun _ => [Stm l (at_ + 1 + 1)]) := by
  refine DoesI.of_AW (n := 10) Tryz.func13 rfl rfl rfl fun cx hcx => ?_
  repeat' (first | (refine AW.sreg rfl fun K hK => ?_; simp only [go_sem, Nat.reduceAdd, Nat.reduceMul, Int.reduceToNat, Nat.reduceLT, Nat.reduceLeDiff, Nat.le_refl, Nat.reduceEqDiff, ↓reduceIte, beq_self_eq_true, bne_self_eq_false, Int.reduceBEq, Int.reduceBNe, or_self, true_or, or_true, Option.map_some, Option.map_none]) | (refine hK _ ?_; clear hK K) | (refine run_callI _ _ _ ((pickB l hl2 at_ (by omega) (by omega) [0, 30, 100, 4000] 0 4000 (by simp) (by simp) (by decide)).objs [0, _] ⟨rfl, rfl, trivial⟩ rfl (by decide) (by simp [go_sem, renOs]) (by simp [go_sem]) (by simp [go_sem]) (fun j hj => ⟨by simp, by simp, by simp [go_sem], by simp [go_sem]⟩)) rfl rfl (dstOk_of rfl) rfl rfl rfl ?_; rintro p hp; (try dsimp only at p); (try dsimp only at hp); simp only [go_sem, Nat.reduceAdd, Nat.reduceMul, Int.reduceToNat, Nat.reduceLT, Nat.reduceLeDiff, Nat.le_refl, Nat.reduceEqDiff, ↓reduceIte, beq_self_eq_true, bne_self_eq_false, Int.reduceBEq, Int.reduceBNe, or_self, true_or, or_true, Option.map_some, Option.map_none]) | (refine run_callI _ _ _ ((pickB l hl2 (at_ + 1) (by omega) (by omega) [0, 10, 50, 4000] 0 4000 (by simp) (by simp) (by decide)).objs [0, _] ⟨rfl, rfl, trivial⟩ rfl (by decide) (by simp [go_sem, renOs]) (by simp [go_sem]) (by simp [go_sem]) (fun j hj => ⟨by simp, by simp, by simp [go_sem], by simp [go_sem]⟩)) rfl rfl (dstOk_of rfl) rfl rfl rfl ?_; rintro q hq; (try dsimp only at q); (try dsimp only at hq); simp only [go_sem, Nat.reduceAdd, Nat.reduceMul, Int.reduceToNat, Nat.reduceLT, Nat.reduceLeDiff, Nat.le_refl, Nat.reduceEqDiff, ↓reduceIte, beq_self_eq_true, bne_self_eq_false, Int.reduceBEq, Int.reduceBNe, or_self, true_or, or_true, Option.map_some, Option.map_none]))
  exact AW.ret ⟨(p, q), ⟨hp, hq⟩, Fin.one rfl rfl ⟨_, rfl, by simp [go_sem]⟩ rfl rfl rfl⟩
end Go.AX

namespace Go.AX
open Go Go.Proofs Go.RowKit
theorem law_ok (l : List Int) (hl : l.length ≤ 9223372036854775807) : Does Tryz.prog 4 [Ls l] [] (B true) [] := by
  have hrw := rightWorldI l hl 0 (by omega) (by omega) 5 (by omega)
  rw [show ((5 : Nat) : Int) = 5 from rfl] at hrw
  refine Does.of_AW (n := 115) Tryz.func4 rfl rfl rfl fun cx hcx => ?_
  repeat' (first | (refine AW.sreg rfl fun K hK => ?_; simp only [go_sem, Nat.reduceAdd, Nat.reduceMul, Int.reduceToNat, Nat.reduceLT, Nat.reduceLeDiff, Nat.le_refl, Nat.reduceEqDiff, ↓reduceIte, beq_self_eq_true, bne_self_eq_false, Int.reduceBEq, Int.reduceBNe, or_self, true_or, or_true, Option.map_some, Option.map_none]) | (refine hK _ ?_; clear hK K) | (refine run_callI _ _ _ ((hrw).objs [_] ⟨rfl, trivial⟩ rfl (by decide) (by simp [go_sem, renOs]) (by simp [go_sem]) (by simp [go_sem]) (fun j hj => ⟨by simp, by simp, by simp [go_sem], by simp [go_sem]⟩)) rfl rfl (dstOk_of rfl) rfl rfl rfl ?_; rintro ⟨w, p1⟩ ⟨hw, a2, a3⟩; (try dsimp only at w); (try dsimp only at p1); (try dsimp only at hw); (try dsimp only at a2); (try dsimp only at a3); simp only [go_sem, Nat.reduceAdd, Nat.reduceMul, Int.reduceToNat, Nat.reduceLT, Nat.reduceLeDiff, Nat.le_refl, Nat.reduceEqDiff, ↓reduceIte, beq_self_eq_true, bne_self_eq_false, Int.reduceBEq, Int.reduceBNe, or_self, true_or, or_true, Option.map_some, Option.map_none]))
  repeat' (first | (refine AW.sregD hmix rfl fun K hK => ?_; simp only [go_sem, Nat.reduceAdd, Nat.reduceMul, Int.reduceToNat, Nat.reduceLT, Nat.reduceLeDiff, Nat.le_refl, Nat.reduceEqDiff, ↓reduceIte, beq_self_eq_true, bne_self_eq_false, Int.reduceBEq, Int.reduceBNe, or_self, true_or, or_true, Option.map_some, Option.map_none]) | (refine hK _ ?_; clear hK K) | (refine run_callI _ _ _ ((termsI l hl p1 (by omega) (by omega)).objs [_] ⟨rfl, trivial⟩ rfl (by decide) (by simp [go_sem, renOs]) (by simp [go_sem]) (by simp [go_sem]) (fun j hj => ⟨by simp, by simp, by simp [go_sem], by simp [go_sem]⟩)) rfl rfl (dstOk_of rfl) rfl rfl rfl ?_; rintro ⟨th, tw⟩ ⟨hth, htw⟩; (try dsimp only at th); (try dsimp only at tw); (try dsimp only at hth); (try dsimp only at htw); simp only [go_sem, Nat.reduceAdd, Nat.reduceMul, Int.reduceToNat, Nat.reduceLT, Nat.reduceLeDiff, Nat.le_refl, Nat.reduceEqDiff, ↓reduceIte, beq_self_eq_true, bne_self_eq_false, Int.reduceBEq, Int.reduceBNe, or_self, true_or, or_true, Option.map_some, Option.map_none]))
  have hp1 := pick_any l hl (p1 + 1 + 1) (by omega) (by omega) [0, 10, 100] (by simp) (by simp)
  have hd1 := pick_mem l (p1 + 1 + 1) [0, 10, 100] (by simp)
  generalize ([0, 10, 100] : List Int).getD (nextV l (p1 + 1 + 1) ([0, 10, 100] : List Int).length).toNat 0 = d1 at hp1 hd1
  have hp2 := pick_any l hl (p1 + 1 + 1 + 1) (by omega) (by omega) [0, 10, 100] (by simp) (by simp)
  have hd2 := pick_mem l (p1 + 1 + 1 + 1) [0, 10, 100] (by simp)
  generalize ([0, 10, 100] : List Int).getD (nextV l (p1 + 1 + 1 + 1) ([0, 10, 100] : List Int).length).toNat 0 = d2 at hp2 hd2
  have he1 : 0 ≤ d1 ∧ d1 ≤ 100 := by
    simp only [List.mem_cons, List.not_mem_nil, or_false] at hd1
    omega
  have he2 : 0 ≤ d2 ∧ d2 ≤ 100 := by
    simp only [List.mem_cons, List.not_mem_nil, or_false] at hd2
    omega
  obtain ⟨m1, hm1⟩ : ∃ m, (if (4000 : Int) < th + d1 then 4000 else th + d1) = m := ⟨_, rfl⟩
  obtain ⟨m2, hm2⟩ : ∃ m, (if (4000 : Int) < tw + d2 then 4000 else tw + d2) = m := ⟨_, rfl⟩
  have hM1 : th ≤ m1 ∧ 0 ≤ m1 ∧ m1 ≤ 4000 := by subst hm1; split <;> omega
  have hM2 : tw ≤ m2 ∧ 0 ≤ m2 ∧ m2 ≤ 4000 := by subst hm2; split <;> omega
  repeat' (first | ((first | refine AW.sreg rfl fun K hK => ?_ | refine runT_call _ _ [192, 1024] (fun hv hag => (hp1).objs [192, 1024] ⟨((hag 192 (by simp)).trans rfl), ((hag 1024 (by simp)).trans rfl), trivial⟩ rfl (by decide) (by simp [go_sem, renOs]) (by simp) (by simp) (by simp [go_sem]) (by simp [go_sem]) (by simp [go_sem]) (by simp [go_sem])) rfl rfl (dstOk_of rfl) rfl rfl ?_ | refine runT_call _ _ [192, 1472] (fun hv hag => (hp2).objs [192, 1472] ⟨((hag 192 (by simp)).trans rfl), ((hag 1472 (by simp)).trans rfl), trivial⟩ rfl (by decide) (by simp [go_sem, renOs]) (by simp) (by simp) (by simp [go_sem]) (by simp [go_sem]) (by simp [go_sem]) (by simp [go_sem])) rfl rfl (dstOk_of rfl) rfl rfl ?_); simp only [go_sem, Nat.reduceAdd, Nat.reduceMul, Int.reduceToNat, Nat.reduceLT, Nat.reduceLeDiff, Nat.le_refl, Nat.reduceEqDiff, ↓reduceIte, beq_self_eq_true, bne_self_eq_false, Int.reduceBEq, Int.reduceBNe, or_self, true_or, or_true, Option.map_some, Option.map_none, hm1, hm2]) | (refine AW.seq_k fun K hK => ?_) | (refine AW.block ?_) | (refine hK _ ?_; clear hK K) | (with_reducible refine And.intro (?_ : regOk _ _ = true) ?_; kernel_rfl) | (refine run_callI _ _ _ ((pickB l hl (p1 + 1 + 1 + 1 + 1) (by omega) (by omega) [0, 30, 50, 99, 130, 4000] 0 4000 (by simp) (by simp) (by decide)).objs [_, _] ⟨rfl, rfl, trivial⟩ rfl (by decide) (by simp [go_sem, renOs]) (by simp [go_sem]) (by simp [go_sem]) (fun j hj => ⟨by simp, by simp, by simp [go_sem], by simp [go_sem]⟩)) rfl rfl (dstOk_of rfl) rfl rfl rfl ?_; rintro day hday; (try dsimp only at day); (try dsimp only at hday); simp only [go_sem, Nat.reduceAdd, Nat.reduceMul, Int.reduceToNat, Nat.reduceLT, Nat.reduceLeDiff, Nat.le_refl, Nat.reduceEqDiff, ↓reduceIte, beq_self_eq_true, bne_self_eq_false, Int.reduceBEq, Int.reduceBNe, or_self, true_or, or_true, Option.map_some, Option.map_none, hm1, hm2]) | (with_reducible refine And.intro ?_ ?_; first | omega | assumption | (focus (decide)) | (focus (simp; done)) | (focus (simp; omega)) | (focus (constructor <;> omega)) | fail))
  have hok := hw.ok
  have hl300 := hok.len
  refine AW.loopF (ι := Nat) [4, 5, 6, 7, 44, 45] (fun p => [(46, I p)]) (fun p => [(576, some (O.box 31 [.d (.sl (w.pls.map plD)), .d (.sl (w.pes.map peD)), .d (.sl (w.wks.map wkD)), .d (.sl (w.bos.map boD))])), (640, some (O.box 43 [I th, I tw])), (1792, some (O.box 43 [I m1, I m2]))]) 60 (fun p => p ≤ w.pes.length) (fun p => w.pes.length - p) 0 (Nat.zero_le _) (Weak.auto hcx rfl rfl (Nat.le_of_ble_eq_true rfl) (by simp [go_sem, gL, kL, renOf, V.obj, lk, Nat.blt, Nat.ble, List.map_append, dv_push, woD]) (by simp [go_sem, gL, kL, renOf, V.obj, lk, Nat.blt, Nat.ble, List.map_append, dv_push, woD]) (by first | exact pk0 | exact pk1 ⟨_, rfl⟩ | exact pk2 ⟨_, rfl⟩ ⟨_, rfl⟩ | exact pk3 ⟨_, rfl⟩ ⟨_, rfl⟩ ⟨_, rfl⟩ | exact pk4 ⟨_, rfl⟩ ⟨_, rfl⟩ ⟨_, rfl⟩ ⟨_, rfl⟩) (by simp [go_sem, gL, kL, lk, renOf, V.obj, Nat.blt, Nat.ble, woD])) ?_; simp only [St.at_nil, St.at_cons, lk, Nat.reduceEqDiff, ↓reduceIte, Option.getD_some, Option.getD_none, List.cons_append, List.nil_append, List.append_nil]
  intro i h1
  by_cases hi : i < w.pes.length
  · obtain ⟨a, hA, ham, -⟩ := get_some hi
    have hgA : (w.pes.map peD)[i]? = some (peD a) := by simp [hA]
    repeat' (first | (refine AW.sreg rfl fun K hK => ?_; simp only [go_sem, Nat.reduceAdd, Nat.reduceMul, Int.reduceToNat, Nat.reduceLT, Nat.reduceLeDiff, Nat.le_refl, Nat.reduceEqDiff, ↓reduceIte, beq_self_eq_true, bne_self_eq_false, Int.reduceBEq, Int.reduceBNe, or_self, true_or, or_true, Option.map_some, Option.map_none, List.length_map, hgA]) | (refine AW.seq_k fun K hK => ?_) | (refine AW.block ?_) | (refine AW.skip ?_; simp only [Then, InBlock]) | (refine AW.condT rfl (by first | rfl | (simp; omega) | (simp [*]; done) | fail) ?_) | (refine hK _ ?_; clear hK K) | (with_reducible refine And.intro ?_ ?_; first | omega | assumption | (focus (decide)) | (focus (simp; done)) | (focus (simp; omega)) | (focus (constructor <;> omega)) | fail))
    refine AW.loopF (ι := Nat) [4, 5, 6, 7, 9, 44, 45, 46, 51, 52] (fun p => [(53, I p)]) (fun p => [(576, some (O.box 31 [.d (.sl (w.pls.map plD)), .d (.sl (w.pes.map peD)), .d (.sl (w.wks.map wkD)), .d (.sl (w.bos.map boD))])), (640, some (O.box 43 [I th, I tw])), (1792, some (O.box 43 [I m1, I m2])), (4032, some (O.box 50 [S a.key, .d (.sl (a.names.map nmD)), .d (.sl (a.homes.map hmD)), .d (.sl (a.mails.map D.str)), .d (.sl (a.advs.map D.str))]))]) 100 (fun p => p ≤ w.pes.length) (fun p => w.pes.length - p) 0 (Nat.zero_le _) (Weak.auto hcx rfl rfl (Nat.le_of_ble_eq_true rfl) (by simp [go_sem, gL, kL, renOf, V.obj, lk, Nat.blt, Nat.ble, List.map_append, dv_push]) (by simp [go_sem, gL, kL, renOf, V.obj, lk, Nat.blt, Nat.ble, List.map_append, dv_push]) (by first | exact pk0 | exact pk1 ⟨_, rfl⟩ | exact pk2 ⟨_, rfl⟩ ⟨_, rfl⟩ | exact pk3 ⟨_, rfl⟩ ⟨_, rfl⟩ ⟨_, rfl⟩ | exact pk4 ⟨_, rfl⟩ ⟨_, rfl⟩ ⟨_, rfl⟩ ⟨_, rfl⟩) (by simp [go_sem, gL, kL, lk, renOf, V.obj, Nat.blt, Nat.ble])) ?_; simp only [St.at_nil, St.at_cons, lk, Nat.reduceEqDiff, ↓reduceIte, Option.getD_some, Option.getD_none, List.cons_append, List.nil_append, List.append_nil]
    intro k g1
    by_cases hk : k < w.pes.length
    · obtain ⟨b, hB, hbm, -⟩ := get_some hk
      have hgB : (w.pes.map peD)[k]? = some (peD b) := by simp [hB]
      have y1 := Why_ok hok th tw day hth htw hday a b ham hbm
      have y2 := Why_ok hok th tw day hth htw hday b a hbm ham
      have y3 := Why_ok hok m1 m2 day hM1.2 hM2.2 hday a b ham hbm
      rw [← whyF_comm] at y2
      have q1 := equalI_refl (whyF w th tw day a b) (by have := whyF_len w th tw day a b; omega)
      have q2 := within_ok (by have := whyF_len w th tw day a b; omega) (by have := whyF_len w m1 m2 day a b; omega) (whyF_grow w hM1.1 hM2.1 day a b)
      generalize whyF w th tw day a b = X at y1 y2 q1 q2
      generalize whyF w m1 m2 day a b = Z at y3 q2
      repeat' (first | ((first | refine AW.sreg rfl fun K hK => ?_ | refine AW.reg rfl ?_ | refine run_call _ _ _ ((y1).pure rfl rfl _ _) rfl rfl (dstOk_of rfl) rfl rfl rfl ?_ | refine run_call _ _ _ ((y2).pure rfl rfl _ _) rfl rfl (dstOk_of rfl) rfl rfl rfl ?_ | refine run_call _ _ _ ((y3).pure rfl rfl _ _) rfl rfl (dstOk_of rfl) rfl rfl rfl ?_ | refine run_call _ _ _ ((q1).pure rfl rfl _ _) rfl rfl (dstOk_of rfl) rfl rfl rfl ?_ | refine run_call _ _ _ ((q2).pure rfl rfl _ _) rfl rfl (dstOk_of rfl) rfl rfl rfl ?_); simp only [go_sem, Nat.reduceAdd, Nat.reduceMul, Int.reduceToNat, Nat.reduceLT, Nat.reduceLeDiff, Nat.le_refl, Nat.reduceEqDiff, ↓reduceIte, beq_self_eq_true, bne_self_eq_false, Int.reduceBEq, Int.reduceBNe, or_self, true_or, or_true, Option.map_some, Option.map_none, List.length_map, hgB]) | (refine AW.seq_k fun K hK => ?_) | (refine AW.block ?_) | (refine AW.skip ?_; simp only [Then, InBlock]) | (refine AW.condT rfl (by first | rfl | (simp; omega) | (simp [*]; done) | fail) ?_) | (refine AW.condF rfl (by first | rfl | (simp; omega) | (simp [*]; done) | fail) ?_) | (refine hK _ ?_; clear hK K) | (with_reducible refine And.intro ?_ ?_; first | omega | assumption | (focus (decide)) | (focus (simp; done)) | (focus (simp; omega)) | (focus (constructor <;> omega)) | fail))
      all_goals first | exact ⟨k + 1, hk, by omega, (Weak.auto hcx rfl rfl (Nat.le_of_ble_eq_true rfl) (by simp [go_sem, gL, kL, renOf, V.obj, lk, Nat.blt, Nat.ble, List.map_append, dv_push]) (by simp [go_sem, gL, kL, renOf, V.obj, lk, Nat.blt, Nat.ble, List.map_append, dv_push]) (by first | exact pk0 | exact pk1 ⟨_, rfl⟩ | exact pk2 ⟨_, rfl⟩ ⟨_, rfl⟩ | exact pk3 ⟨_, rfl⟩ ⟨_, rfl⟩ ⟨_, rfl⟩ | exact pk4 ⟨_, rfl⟩ ⟨_, rfl⟩ ⟨_, rfl⟩ ⟨_, rfl⟩) (by simp [go_sem, gL, kL, lk, renOf, V.obj, Nat.blt, Nat.ble]))⟩ | trace_state
    · obtain rfl : k = w.pes.length := by omega
      repeat' (first | ((first | refine AW.sreg rfl fun K hK => ?_ | refine AW.reg rfl ?_); simp only [go_sem, Nat.reduceAdd, Nat.reduceMul, Int.reduceToNat, Nat.reduceLT, Nat.reduceLeDiff, Nat.le_refl, Nat.reduceEqDiff, ↓reduceIte, beq_self_eq_true, bne_self_eq_false, Int.reduceBEq, Int.reduceBNe, or_self, true_or, or_true, Option.map_some, Option.map_none, List.length_map]) | (refine AW.seq_k fun K hK => ?_) | (refine AW.exit ?_; simp only [go_sem, ↓reduceIte]) | (refine AW.condF rfl (by first | rfl | (simp; omega) | (simp [*]; done) | fail) ?_) | (refine hK _ ?_; clear hK K) | (clear hK K; refine hK _ ?_; clear hK K) | (with_reducible refine And.intro ?_ ?_; first | omega | assumption | (focus (decide)) | (focus (simp; done)) | (focus (simp; omega)) | (focus (constructor <;> omega)) | fail))
      exact ⟨i + 1, hi, by omega, (Weak.auto hcx rfl rfl (Nat.le_of_ble_eq_true rfl) (by simp [go_sem, gL, kL, renOf, V.obj, lk, Nat.blt, Nat.ble, List.map_append, dv_push]) (by simp [go_sem, gL, kL, renOf, V.obj, lk, Nat.blt, Nat.ble, List.map_append, dv_push]) (by first | exact pk0 | exact pk1 ⟨_, rfl⟩ | exact pk2 ⟨_, rfl⟩ ⟨_, rfl⟩ | exact pk3 ⟨_, rfl⟩ ⟨_, rfl⟩ ⟨_, rfl⟩ | exact pk4 ⟨_, rfl⟩ ⟨_, rfl⟩ ⟨_, rfl⟩ ⟨_, rfl⟩) (by simp [go_sem, gL, kL, lk, renOf, V.obj, Nat.blt, Nat.ble]))⟩
  · obtain rfl : i = w.pes.length := by omega
    repeat' (first | ((first | refine AW.sreg rfl fun K hK => ?_ | refine run_call _ _ _ ((stands_ok).pure rfl rfl _ _) rfl rfl (dstOk_of rfl) rfl rfl rfl ?_); simp only [go_sem, Nat.reduceAdd, Nat.reduceMul, Int.reduceToNat, Nat.reduceLT, Nat.reduceLeDiff, Nat.le_refl, Nat.reduceEqDiff, ↓reduceIte, beq_self_eq_true, bne_self_eq_false, Int.reduceBEq, Int.reduceBNe, or_self, true_or, or_true, Option.map_some, Option.map_none, List.length_map]) | (refine AW.seq_k fun K hK => ?_) | (refine AW.exit ?_; simp only [go_sem, ↓reduceIte]) | (refine AW.condF rfl (by first | rfl | (simp; omega) | (simp [*]; done) | fail) ?_) | (refine hK _ ?_; clear hK K) | (clear hK K; refine hK _ ?_; clear hK K) | (refine AW.ret (Fin.data rfl (by first | (simp only [go_sem]; done) | (simp [go_sem, *]; done) | (simp [go_sem]; omega) | rfl) rfl)))
end Go.AX
