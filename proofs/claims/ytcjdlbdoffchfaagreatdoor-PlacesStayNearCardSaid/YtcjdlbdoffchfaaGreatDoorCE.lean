/- The judge of two persons: homes. -/
import Derived.Test.YtcjdlbdoffchfaaGreatDoorCC
import Derived.Test.YtcjdlbdoffchfaaGreatDoorCB
import Derived.Test.YtcjdlbdoffchfaaGreatDoorCD
set_option linter.unusedSimpArgs false
set_option linter.unusedVariables false
set_option linter.unnecessarySimpa false
set_option maxRecDepth 1000000
set_option maxHeartbeats 4000000
namespace Go.AX
open Go Go.Proofs Go.RowKit
/-- A judge: the world, the terms, the numbers of persons, the places above. -/
abbrev jgC (w : Wo) (th tw : Int) : List D := [.sl (w.pls.map plD), .sl (w.pes.map peD), .sl (w.wks.map wkD), .sl (w.bos.map boD), .int .i64 th, .int .i64 tw, kyD w.pes, upD w.pls]
abbrev jgD (w : Wo) (th tw : Int) : D := .ptr (jgC w th tw) 0
structure HmB (l : List Hm) : Prop where
  len : l.length ≤ 1000
  hm : ∀ h ∈ l, 0 ≤ h.2.1 ∧ h.2.1 ≤ 4001 ∧ 0 ≤ h.2.2 ∧ h.2.2 ≤ 4001
theorem any_take {α : Type} {f : α → Bool} {l : List α} {i : Nat} {x : α} (hx : l[i]? = some x) (h : (l.take i).any f = false) (hf : f x = false) : (l.take (i + 1)).any f = false := by
  rw [List.take_add_one, hx, List.any_append, h]
  simp [hf]
theorem sameHome_any {w : Wo} (hp : OkPl w.pls) (th tw day : Int) (ht : 0 ≤ th ∧ th ≤ 4000) (hd : 0 ≤ day ∧ day ≤ 4000) (a b : Pe) (ha : HmB a.homes) (hb : HmB b.homes) :
    Does Tryz.prog 121 [.d (jgD w th tw), .d (peD a), .d (peD b), I day] [] (B (homeB w.pls th day a.homes b.homes)) [] := by
  obtain ⟨pls, pes, wks, bos⟩ := w
  obtain ⟨ak, an, ah, am, aa⟩ := a
  obtain ⟨bk, bn, bh, bm, ba⟩ := b
  simp only at hp ha hb ⊢
  obtain ⟨al, ab⟩ := ha
  obtain ⟨bl, bb⟩ := hb
  refine Does.of_AW (n := 75) Tryz.func121 rfl rfl rfl fun cx hcx => ?_
  generalize hR : homeB pls th day ah bh = R
  repeat' (first | (refine AW.sreg rfl fun K hK => ?_; simp only [go_sem, ↓reduceIte, List.length_map]) | (refine AW.seq_k fun K hK => ?_) | (refine AW.block ?_) | (refine hK _ ?_; clear hK K))
  refine AW.loopF (ι := Nat) [0, 3, 6, 16, 17] (fun p => [(18, I p)]) (fun p => [(64, some (O.box 50 [S bk, .d (.sl (bn.map nmD)), .d (.sl (bh.map hmD)), .d (.sl (bm.map D.str)), .d (.sl (ba.map D.str))]))]) 20 (fun p => p ≤ ah.length ∧ (ah.take p).any (fun g => bh.any fun h => meetB pls th day g h) = false) (fun p => ah.length - p) 0 ⟨Nat.zero_le _, by simp⟩ (Weak.aC hcx (by refine ⟨?_, ?_, ?_⟩ <;> simp [go_sem, gL, kL, renOf, V.obj, Nat.blt, Nat.ble, List.map_append, dv_push])) ?_; simp only [St.at_nil, St.at_cons, lk, Nat.reduceEqDiff, ↓reduceIte, Option.getD_some, Option.getD_none, List.cons_append, List.nil_append, List.append_nil]
  rintro i ⟨h1, h2⟩
  by_cases hi : i < ah.length
  · obtain ⟨g, hg, hgm, hgd⟩ := get_some hi
    have hget : (ah.map hmD)[i]? = some (hmD g) := by simp [hg]
    repeat' (first | (refine AW.sreg rfl fun K hK => ?_; simp only [go_sem, ↓reduceIte, List.length_map, hget]) | (refine AW.seq_k fun K hK => ?_) | (refine AW.block ?_) | (refine AW.skip ?_; simp only [Then, InBlock]) | (refine AW.cT ?_) | (refine hK _ ?_; clear hK K) | (with_reducible refine andI ?_))
    refine AW.loopF (ι := Nat) [0, 3, 6, 10, 16, 17, 18, 23, 24] (fun p => [(25, I p)]) (fun p => [(64, some (O.box 50 [S bk, .d (.sl (bn.map nmD)), .d (.sl (bh.map hmD)), .d (.sl (bm.map D.str)), .d (.sl (ba.map D.str))])), (1472, some (O.box 98 [S g.1, I g.2.1, I g.2.2]))]) 60 (fun p => p ≤ bh.length ∧ (bh.take p).any (fun h => meetB pls th day g h) = false) (fun p => bh.length - p) 0 ⟨Nat.zero_le _, by simp⟩ (Weak.aC hcx (by refine ⟨?_, ?_, ?_⟩ <;> simp [go_sem, gL, kL, renOf, V.obj, Nat.blt, Nat.ble, List.map_append, dv_push])) ?_; simp only [St.at_nil, St.at_cons, lk, Nat.reduceEqDiff, ↓reduceIte, Option.getD_some, Option.getD_none, List.cons_append, List.nil_append, List.append_nil]
    rintro k ⟨g1, g2⟩
    by_cases hk : k < bh.length
    · obtain ⟨q, hh, hhm, hhd⟩ := get_some hk
      have hgeth : (bh.map hmD)[k]? = some (hmD q) := by simp [hh]
      have i1 := inside_any hp g.1 q.1
      have i2 := inside_any hp q.1 g.1
      have b1 := ab g hgm
      have b2 := bb q hhm
      obtain ⟨M, hM⟩ : ∃ M, M = max g.2.1 (max q.2.1 (day - th)) := ⟨_, rfl⟩
      obtain ⟨N, hN⟩ : ∃ N, N = min g.2.2 (min q.2.2 (day + 1)) := ⟨_, rfl⟩
      have hX : (if day - th > (if q.2.1 > g.2.1 then q.2.1 else g.2.1) then day - th else (if q.2.1 > g.2.1 then q.2.1 else g.2.1)) = M := by
        rw [hM]
        (repeat' split) <;> omega
      have hY : (if day + 1 < (if q.2.2 < g.2.2 then q.2.2 else g.2.2) then day + 1 else (if q.2.2 < g.2.2 then q.2.2 else g.2.2)) = N := by
        rw [hN]
        (repeat' split) <;> omega
      have hmt : meetB pls th day g q = (decide (M < N) && (insB pls g.1 q.1 || insB pls q.1 g.1)) := by
        unfold meetB
        rw [← hM, ← hN]
      have htrue : meetB pls th day g q = true → R = true := fun hm => by
        rw [← hR]
        exact List.any_eq_true.2 ⟨g, hgm, List.any_eq_true.2 ⟨q, hhm, hm⟩⟩
      clear hM hN
      by_cases hc : M < N
      · cases e1 : insB pls g.1 q.1 <;> cases e2 : insB pls q.1 g.1
        all_goals
          rw [e1] at i1
          rw [e2] at i2
          rw [e1, e2, decide_eq_true hc] at hmt
          repeat' (first | ((first | refine AW.sreg rfl fun K hK => ?_ | refine AW.sregD hmix rfl fun K hK => ?_ | refine AW.reg rfl ?_ | refine runT_call _ _ [] (fun hv _ => (i1).pure rfl rfl hv _) rfl rfl (dstOk_of rfl) rfl rfl ?_ | refine runT_call _ _ [] (fun hv _ => (i2).pure rfl rfl hv _) rfl rfl (dstOk_of rfl) rfl rfl ?_); simp only [go_sem, ↓reduceIte, List.length_map, hgeth, hX, hY, hc]) | (refine AW.seq_k fun K hK => ?_) | (refine AW.block ?_) | (refine AW.skip ?_; simp only [Then, InBlock]) | (refine AW.cT ?_) | (refine AW.cF ?_) | (refine hK _ ?_; clear hK K) | (with_reducible refine And.intro (?_ : regOk _ _ = true) ?_; kernel_rfl) | (with_reducible refine andI ?_))
          all_goals first | exact ⟨k + 1, ⟨hk, any_take hh g2 hmt⟩, by omega, (Weak.aC hcx (by refine ⟨?_, ?_, ?_⟩ <;> simp [go_sem, gL, kL, renOf, V.obj, Nat.blt, Nat.ble, List.map_append, dv_push]))⟩ | (have hRt := htrue hmt; subst hRt; exact AW.ret (Fin.data rfl (by simp [go_sem]) rfl)) | trace_state
      · rw [decide_eq_false hc, Bool.false_and] at hmt
        repeat' (first | ((first | refine AW.sreg rfl fun K hK => ?_ | refine AW.sregD hmix rfl fun K hK => ?_ | refine AW.reg rfl ?_); simp only [go_sem, ↓reduceIte, List.length_map, hgeth, hX, hY, hc]) | (refine AW.seq_k fun K hK => ?_) | (refine AW.block ?_) | (refine AW.skip ?_; simp only [Then, InBlock]) | (refine AW.cT ?_) | (refine AW.cF ?_) | (refine hK _ ?_; clear hK K) | (refine stepBT_split (fun h => ?_) (fun h => ?_) <;> (have hb0 := h) <;> (try simp only [Bool.not_eq_true', Bool.not_eq_false'] at hb0) <;> (try simp only [decide_eq_true_eq, decide_eq_false_iff_not, Bool.not_eq_true', Bool.not_eq_false', Bool.not_eq_eq_eq_not, Bool.not_true, Bool.not_false, beq_iff_eq, bne_iff_ne, beq_eq_false_iff_ne, ne_eq, Bool.and_eq_true, Bool.or_eq_true, Bool.or_eq_false_iff] at h) <;> simp only [go_sem, ↓reduceIte, hb0, h, decide_true, decide_false, List.length_map, hgeth, hX, hY, hc] <;> (try clear hb0)) | (with_reducible refine And.intro (?_ : regOk _ _ = true) ?_; kernel_rfl) | (with_reducible refine andI ?_))
        all_goals first | exact ⟨k + 1, ⟨hk, any_take hh g2 hmt⟩, by omega, (Weak.aC hcx (by refine ⟨?_, ?_, ?_⟩ <;> simp [go_sem, gL, kL, renOf, V.obj, Nat.blt, Nat.ble, List.map_append, dv_push]))⟩ | trace_state
    · obtain rfl : k = bh.length := by omega
      rw [List.take_length] at g2
      repeat' (first | ((first | refine AW.sreg rfl fun K hK => ?_ | refine AW.reg rfl ?_); simp only [go_sem, ↓reduceIte, List.length_map]) | (refine AW.seq_k fun K hK => ?_) | (refine AW.exit ?_; simp only [go_sem, ↓reduceIte]) | (refine AW.cF ?_) | (refine hK _ ?_; clear hK K) | (clear hK K; refine hK _ ?_; clear hK K) | (with_reducible refine andI ?_))
      exact ⟨i + 1, ⟨hi, any_take hg h2 g2⟩, by omega, (Weak.aC hcx (by refine ⟨?_, ?_, ?_⟩ <;> simp [go_sem, gL, kL, renOf, V.obj, Nat.blt, Nat.ble, List.map_append, dv_push]))⟩
  · obtain rfl : i = ah.length := by omega
    rw [List.take_length] at h2
    have : R = false := by rw [← hR]; exact h2
    subst this
    repeat' (first | (refine AW.sreg rfl fun K hK => ?_; simp only [go_sem, ↓reduceIte, List.length_map]) | (refine AW.seq_k fun K hK => ?_) | (refine AW.exit ?_; simp only [go_sem, ↓reduceIte]) | (refine AW.cF ?_) | (refine hK _ ?_; clear hK K) | (clear hK K; refine hK _ ?_; clear hK K) | (refine AW.ret (Fin.data rfl (by first | (simp only [go_sem]; done) | (simp [go_sem, *]; done) | (simp [go_sem]; omega) | rfl) rfl)))
end Go.AX

namespace Go.AX
open Go Go.Proofs Go.RowKit
theorem indexFunc4_Wk (xs : List Wk) (hl : xs.length ≤ 1000) (c : Nat) (c1 c2 c3 c4 : D) (q : Wk → Bool) (hc : ∀ x ∈ xs, Does Tryz.prog c [.d (wkD x), .d c1, .d c2, .d c3, .d c4] [] (B (q x)) []) :
    Does Tryz.prog 143 [.d (.sl (xs.map wkD)), .fn c [.d c1, .d c2, .d c3, .d c4]] [] (I (idxG q xs 0)) [] := by
  refine Does.of_AW (n := 19) Tryz.func143 rfl rfl rfl fun cx hcx => ?_
  generalize hR : idxG q xs 0 = R
  repeat' (first | (refine AW.sreg rfl fun K hK => ?_; simp only [go_sem, ↓reduceIte, List.length_map]) | (refine AW.seq_k fun K hK => ?_) | (refine AW.block ?_) | (refine hK _ ?_; clear hK K))
  refine AW.loopF (ι := Nat) [0, 1, 7] (fun p => [(8, I p)]) (fun p => []) 1 (fun p => p ≤ xs.length ∧ idxG q (xs.drop p) p = R) (fun p => xs.length - p) 0 ⟨by simp, hR⟩ (Weak.aC hcx (by refine ⟨?_, ?_, ?_⟩ <;> simp [go_sem, gL, kL, renOf, V.obj, Nat.blt, Nat.ble, List.map_append, dv_push])) ?_; simp only [St.at_nil, St.at_cons, lk, Nat.reduceEqDiff, ↓reduceIte, Option.getD_some, Option.getD_none, List.cons_append, List.nil_append, List.append_nil]
  rintro i ⟨h1, h2⟩
  by_cases hi : i < xs.length
  · obtain ⟨x, hx, hxm, hxd⟩ := get_some hi
    have hget : (xs.map wkD)[i]? = some (wkD x) := by simp [hx]
    rw [hxd, idxG] at h2
    repeat' (first | ((first | refine AW.sreg rfl fun K hK => ?_ | refine AW.reg rfl ?_ | refine run_call _ _ _ ((hc x hxm).pure rfl rfl _ _) rfl rfl (dstOk_of rfl) rfl rfl rfl ?_); simp only [go_sem, ↓reduceIte, List.length_map, hget]) | (refine AW.seq_k fun K hK => ?_) | (refine AW.block ?_) | (refine AW.skip ?_; simp only [Then, InBlock]) | (refine AW.cT ?_) | (refine AW.cond rfl (fun h => ?_) (fun h => ?_) <;> (try simp only [decide_eq_true_eq, decide_eq_false_iff_not, Bool.not_eq_true', Bool.not_eq_false', Bool.not_eq_eq_eq_not, Bool.not_true, Bool.not_false, beq_iff_eq, bne_iff_ne, beq_eq_false_iff_ne, ne_eq, Bool.and_eq_true, Bool.or_eq_true, Bool.or_eq_false_iff] at h)) | (refine hK _ ?_; clear hK K) | (with_reducible refine andI ?_) | (refine AW.ret (Fin.data rfl (by first | (simp only [go_sem]; done) | ((rw [if_pos h] at h2; subst h2; simp [go_sem]); done) | (simp [go_sem]; omega) | rfl) rfl)))
    rw [if_neg (by simp [h])] at h2
    exact ⟨i + 1, ⟨hi, h2⟩, by omega, (Weak.aC hcx (by refine ⟨?_, ?_, ?_⟩ <;> simp [go_sem, gL, kL, renOf, V.obj, Nat.blt, Nat.ble, List.map_append, dv_push]))⟩
  · obtain rfl : i = xs.length := by omega
    simp only [List.drop_length, idxG] at h2
    subst h2
    repeat' (first | (refine AW.sreg rfl fun K hK => ?_; simp only [go_sem, ↓reduceIte, List.length_map]) | (refine AW.seq_k fun K hK => ?_) | (refine AW.exit ?_; simp only [go_sem, ↓reduceIte]) | (refine AW.cF ?_) | (refine hK _ ?_; clear hK K) | (clear hK K; refine hK _ ?_; clear hK K) | (refine AW.ret (Fin.data rfl (by first | (simp only [go_sem]; done) | (simp [go_sem, *]; done) | (simp [go_sem]; omega) | rfl) rfl)))
theorem containsFunc4_Wk (xs : List Wk) (hl : xs.length ≤ 1000) (c : Nat) (c1 c2 c3 c4 : D) (q : Wk → Bool) (hc : ∀ x ∈ xs, Does Tryz.prog c [.d (wkD x), .d c1, .d c2, .d c3, .d c4] [] (B (q x)) []) :
    Does Tryz.prog 195 [.d (.sl (xs.map wkD)), .fn c [.d c1, .d c2, .d c3, .d c4]] [] (B (xs.any q)) [] := by
  rw [← idxG_any q xs 0]
  refine Does.of_AW (n := 9) Tryz.func195 rfl rfl rfl fun cx hcx => ?_
  repeat' (first | ((first | refine AW.sreg rfl fun K hK => ?_ | refine run_call _ _ _ ((indexFunc4_Wk xs hl c c1 c2 c3 c4 q hc).pure rfl rfl _ _) rfl rfl (dstOk_of rfl) rfl rfl rfl ?_); simp only [go_sem, ↓reduceIte]) | (refine hK _ ?_; clear hK K) | (refine AW.ret (Fin.data rfl (by first | (simp only [go_sem]; done) | (simp [go_sem, *]; done) | (simp [go_sem]; omega) | rfl) rfl)))

def wkQ (tw day : Int) (a b : Str) (x : Wk) : Bool := decide (day - tw ≤ x.1) && (decide (x.1 ≤ day) && ((x.2.any fun y => a == y) && (x.2.any fun y => b == y)))
theorem worked1_any {w : Wo} (th tw day : Int) (ht : 0 ≤ tw ∧ tw ≤ 4000) (hd : 0 ≤ day ∧ day ≤ 4000) (a b : Str) (x : Wk) (hx : x.2.length ≤ 1000) :
    Does Tryz.prog 196 [.d (wkD x), .d (.ptr [.int .i64 day] 0), .d (.ptr [jgD w th tw] 0), .d (.ptr [.str a] 0), .d (.ptr [.str b] 0)] [] (B (wkQ tw day a b x)) [] := by
  obtain ⟨pls, pes, wks, bos⟩ := w
  obtain ⟨xd, xa⟩ := x
  simp only at hx
  have c1 := contains_St xa (by omega) a
  have c2 := contains_St xa (by omega) b
  unfold wkQ
  simp only
  generalize (xa.any fun y => a == y) = v1 at *
  generalize (xa.any fun y => b == y) = v2 at *
  refine Does.of_AW (n := 35) Tryz.func196 rfl rfl rfl fun cx hcx => ?_
  by_cases e1 : day - tw ≤ xd
  · by_cases e2 : xd ≤ day
    · have z1 : xd ≥ day - tw := e1
      cases v1 <;> cases v2
      all_goals
        repeat' (first | ((first | refine AW.sreg rfl fun K hK => ?_ | refine AW.sregD hmix rfl fun K hK => ?_ | refine runT_call _ _ [] (fun hv _ => (c1).pure rfl rfl hv _) rfl rfl (dstOk_of rfl) rfl rfl ?_ | refine runT_call _ _ [] (fun hv _ => (c2).pure rfl rfl hv _) rfl rfl (dstOk_of rfl) rfl rfl ?_); simp only [go_sem, ↓reduceIte, e1, e2, z1]) | (refine hK _ ?_; clear hK K) | (with_reducible refine And.intro (?_ : regOk _ _ = true) ?_; kernel_rfl) | (with_reducible refine andI ?_))
        all_goals first | exact AW.ret (Fin.data rfl (by simp [go_sem, e1, e2]) rfl) | trace_state
    · have z1 : xd ≥ day - tw := e1
      repeat' (first | ((first | refine AW.sreg rfl fun K hK => ?_ | refine AW.sregD hmix rfl fun K hK => ?_); simp only [go_sem, ↓reduceIte, e1, e2, z1]) | (refine hK _ ?_; clear hK K) | (refine stepBT_split (fun h => ?_) (fun h => ?_) <;> (have hb0 := h) <;> (try simp only [Bool.not_eq_true', Bool.not_eq_false'] at hb0) <;> (try simp only [decide_eq_true_eq, decide_eq_false_iff_not, Bool.not_eq_true', Bool.not_eq_false', Bool.not_eq_eq_eq_not, Bool.not_true, Bool.not_false, beq_iff_eq, bne_iff_ne, beq_eq_false_iff_ne, ne_eq, Bool.and_eq_true, Bool.or_eq_true, Bool.or_eq_false_iff] at h) <;> simp only [go_sem, ↓reduceIte, hb0, h, decide_true, decide_false, e1, e2, z1] <;> (try clear hb0)) | (with_reducible refine And.intro (?_ : regOk _ _ = true) ?_; kernel_rfl) | (with_reducible refine andI ?_))
      all_goals first | exact AW.ret (Fin.data rfl (by simp [go_sem, e1, e2]) rfl) | trace_state
  · have z1 : ¬ xd ≥ day - tw := e1
    repeat' (first | ((first | refine AW.sreg rfl fun K hK => ?_ | refine AW.sregD hmix rfl fun K hK => ?_); simp only [go_sem, ↓reduceIte, e1, z1]) | (refine hK _ ?_; clear hK K) | (refine stepBT_split (fun h => ?_) (fun h => ?_) <;> (have hb0 := h) <;> (try simp only [Bool.not_eq_true', Bool.not_eq_false'] at hb0) <;> (try simp only [decide_eq_true_eq, decide_eq_false_iff_not, Bool.not_eq_true', Bool.not_eq_false', Bool.not_eq_eq_eq_not, Bool.not_true, Bool.not_false, beq_iff_eq, bne_iff_ne, beq_eq_false_iff_ne, ne_eq, Bool.and_eq_true, Bool.or_eq_true, Bool.or_eq_false_iff] at h) <;> simp only [go_sem, ↓reduceIte, hb0, h, decide_true, decide_false, e1, z1] <;> (try clear hb0)) | (with_reducible refine And.intro (?_ : regOk _ _ = true) ?_; kernel_rfl) | (with_reducible refine andI ?_))
    all_goals first | exact AW.ret (Fin.data rfl (by simp [go_sem, e1]) rfl) | trace_state
theorem worked_any {w : Wo} (hw : w.wks.length ≤ 1000) (hwl : ∀ x ∈ w.wks, x.2.length ≤ 1000) (th tw day : Int) (ht : 0 ≤ tw ∧ tw ≤ 4000) (hd : 0 ≤ day ∧ day ≤ 4000) (a b : Str) :
    Does Tryz.prog 122 [.d (jgD w th tw), S a, S b, I day] [] (B (workB w.wks tw day a b)) [] := by
  have hc := containsFunc4_Wk w.wks hw 196 (.ptr [.int .i64 day] 0) (.ptr [jgD w th tw] 0) (.ptr [.str a] 0) (.ptr [.str b] 0) (wkQ tw day a b) (fun x hx => worked1_any th tw day ht hd a b x (hwl x hx))
  have e : workB w.wks tw day a b = w.wks.any (wkQ tw day a b) := rfl
  rw [e]
  generalize w.wks.any (wkQ tw day a b) = v at *
  obtain ⟨pls, pes, wks, bos⟩ := w
  refine Does.of_AW (n := 16) Tryz.func122 rfl rfl rfl fun cx hcx => ?_
  repeat' (first | ((first | refine AW.sreg rfl fun K hK => ?_ | refine run_call _ _ _ ((hc).borrow rfl rfl rfl) rfl rfl (dstOk_of rfl) rfl rfl rfl ?_); simp only [go_sem, ↓reduceIte]) | (refine hK _ ?_; clear hK K))
  all_goals first | exact AW.ret (Fin.data rfl (by simp [go_sem]) rfl) | trace_state
theorem gt_lt (a b : Str) : (!Op.bytesLess a b && !(a == b)) = Op.bytesLess b a := by
  by_cases h1 : ltS b a = true
  · have h2 : Op.bytesLess a b = false := ltS_asymm h1
    have h3 : (a == b) = false := by
      rw [beq_eq_false_iff_ne]; exact fun e => ltS_ne h1 e.symm
    have h1 : Op.bytesLess b a = true := h1
    rw [h1, h2, h3]; rfl
  · have h1 : Op.bytesLess b a = false := by simpa using h1
    rw [h1]
    by_cases h2 : ltS a b = true
    · have h2 : Op.bytesLess a b = true := h2
      rw [h2]; rfl
    · have h2 : ltS a b = false := by simpa using h2
      have : a = b := by
        by_cases e : a = b
        · exact e
        · have := ltS_total h2 e
          rw [show ltS b a = false from h1] at this
          cases this
      rw [this]; simp
theorem bondOf_any (a b : Str) : Does Tryz.prog 194 [S a, S b] [] (.d (boD (bondOf a b))) [] := by
  unfold bondOf
  have hg := gt_lt a b
  refine Does.of_AW (n := 13) Tryz.func194 rfl rfl rfl fun cx hcx => ?_
  by_cases h : Op.bytesLess b a = true
  · rw [if_pos h]
    rw [h] at hg
    repeat' (first | ((first | refine AW.sreg rfl fun K hK => ?_ | refine AW.reg rfl ?_); simp only [go_sem, ↓reduceIte, hg]) | (refine AW.seq_k fun K hK => ?_) | (refine AW.cT ?_) | (refine hK _ ?_; clear hK K))
    all_goals first | exact AW.ret (Fin.data rfl rfl rfl) | trace_state
  · rw [if_neg h]
    have h : Op.bytesLess b a = false := by simpa using h
    rw [h] at hg
    repeat' (first | (refine AW.sreg rfl fun K hK => ?_; simp only [go_sem, ↓reduceIte, hg]) | (refine AW.seq_k fun K hK => ?_) | (refine AW.skip ?_; simp only [Then, InBlock]) | (refine AW.cF ?_) | (refine hK _ ?_; clear hK K))
    all_goals first | exact AW.ret (Fin.data rfl rfl rfl) | trace_state
/-- The reasons that no day changes. -/
def alwL (w : Wo) (a b : Pe) : List Int := ifL (a.key == b.key) 1 ++ (ifL (advB a b) 2 ++ ifL (bondB w.bos a.key b.key) 5)
theorem always_any {w : Wo} (hb : w.bos.length ≤ 1000) (hr : w.bos.Pairwise fun a b => cpB a b < 0) (th tw : Int) (a b : Pe) (ha : a.advs.length ≤ 1000) (hbb : b.advs.length ≤ 1000) :
    Does Tryz.prog 120 [.d (jgD w th tw), .d (peD a), .d (peD b)] [] (.slr 0 0 (alwL w a b).length) [.vec 3 1 (dv ((alwL w a b).map (D.int .i64)))] := by
  obtain ⟨bi, hbs⟩ := bsearchB_any w.bos hb hr (bondOf a.key b.key)
  have hbo := bondOf_any a.key b.key
  have c1 := contains_St a.advs (by omega) b.key
  have c2 := contains_St b.advs (by omega) a.key
  have hL : alwL w a b = ifL (a.key == b.key) 1 ++ (ifL (advB a b) 2 ++ ifL (decide (bondOf a.key b.key ∈ w.bos)) 5) := rfl
  unfold advB at hL
  generalize alwL w a b = L at *
  generalize decide (bondOf a.key b.key ∈ w.bos) = v3 at *
  generalize (a.advs.any fun x => b.key == x) = v1 at *
  generalize (b.advs.any fun x => a.key == x) = v2 at *
  obtain ⟨pls, pes, wks, bos⟩ := w
  obtain ⟨ak, an, ah, am, aa⟩ := a
  obtain ⟨bk, bn, bh, bm, ba⟩ := b
  simp only at *
  refine Does.of_AW (n := 52) Tryz.func120 rfl rfl rfl fun cx hcx => ?_
  refine AW.sreg rfl fun K hK => ?_; simp only [go_sem, ↓reduceIte]
  refine hK _ ?_; (try clear hK K)
  refine AW.sreg rfl fun K hK => ?_; simp only [go_sem, ↓reduceIte]
  refine hK _ ?_; (try clear hK K)
  refine AW.weak (Weak.nil 7 3 1 rfl) ?_
  obtain ⟨b1, hb1⟩ : ∃ b, (ak == bk) = b := ⟨_, rfl⟩
  rw [hb1] at hL
  have c3 : b1 = false ∨ b1 = true := by cases b1 <;> simp
  have c4 : v3 = false ∨ v3 = true := by cases v3 <;> simp
  have c5 : v1 = true ∨ (v1 = false ∧ v2 = true) ∨ (v1 = false ∧ v2 = false) := by cases v1 <;> cases v2 <;> simp
  rcases c3 with rfl | rfl <;> rcases c4 with rfl | rfl <;> rcases c5 with rfl | ⟨rfl, rfl⟩ | ⟨rfl, rfl⟩
  all_goals
    simp only [ifL, Bool.true_or, Bool.false_or, Bool.or_false, if_true, Bool.false_eq_true, if_false, List.nil_append, List.cons_append] at hL
    subst hL
    repeat' (first | ((first | refine AW.sreg rfl fun K hK => ?_ | refine AW.sregD hmix rfl fun K hK => ?_ | refine AW.reg rfl ?_ | refine run_call _ _ _ ((c1).pure rfl rfl _ _) rfl rfl (dstOk_of rfl) rfl rfl rfl ?_ | refine run_call _ _ _ ((c2).pure rfl rfl _ _) rfl rfl (dstOk_of rfl) rfl rfl rfl ?_ | refine runT_call _ _ [] (fun hv _ => (hbo).pure rfl rfl hv _) rfl rfl (dstOk_of rfl) rfl rfl ?_ | refine runT_call _ _ [] (fun hv _ => (hbs).pure rfl rfl hv _) rfl rfl (dstOk_of rfl) rfl rfl ?_); simp only [go_sem, ↓reduceIte, hb1]) | (refine AW.seq_k fun K hK => ?_) | (refine AW.skip ?_; simp only [Then, InBlock]) | (refine AW.cT ?_) | (refine AW.cF ?_) | (refine hK _ ?_; clear hK K) | (with_reducible refine And.intro (?_ : regOk _ _ = true) ?_; kernel_rfl))
  all_goals first | (refine AW.ret (Fin.objs [256] rfl ?_ ⟨⟨_, rfl, ?_⟩, trivial⟩ (by simp) rfl ?_ ?_ rfl) <;> (simp [go_sem, inI, gI, dv]; done)) | (refine AW.ret (Fin.objs [768] rfl ?_ ⟨⟨_, rfl, ?_⟩, trivial⟩ (by simp) rfl ?_ ?_ rfl) <;> (simp [go_sem, inI, gI, dv]; done)) | (refine AW.ret (Fin.objs [1536] rfl ?_ ⟨⟨_, rfl, ?_⟩, trivial⟩ (by simp) rfl ?_ ?_ rfl) <;> (simp [go_sem, inI, gI, dv]; done)) | (refine AW.ret (Fin.objs [1792] rfl ?_ ⟨⟨_, rfl, ?_⟩, trivial⟩ (by simp) rfl ?_ ?_ rfl) <;> (simp [go_sem, inI, gI, dv]; done)) | (refine AW.ret (Fin.objs [2624] rfl ?_ ⟨⟨_, rfl, ?_⟩, trivial⟩ (by simp) rfl ?_ ?_ rfl) <;> (simp [go_sem, inI, gI, dv]; done)) | (refine AW.ret (Fin.objs [2880] rfl ?_ ⟨⟨_, rfl, ?_⟩, trivial⟩ (by simp) rfl ?_ ?_ rfl) <;> (simp [go_sem, inI, gI, dv]; done)) | (refine AW.ret (Fin.objs [3136] rfl ?_ ⟨⟨_, rfl, ?_⟩, trivial⟩ (by simp) rfl ?_ ?_ rfl) <;> (simp [go_sem, inI, gI, dv]; done)) | trace_state
end Go.AX

namespace Go.AX
open Go Go.Proofs Go.RowKit
def evalsO1 (P : Program) (C : Orc) (f : Nat) (xs : List V) (o : O) (x : V) (o' : O) : Bool := match bodyE P C (fun _ => false) 10000 f xs [o] with
  | some (y, [z]) => eqVb y x && eqOb z o'
  | _ => false
theorem evalsO1_ok {P : Program} {C : Orc} (hC : OrcOk P C) (hm : P.follows .mixedOrders = true) {f : Nat} {xs : List V} {o o' : O} {x : V} (h : evalsO1 P C f xs o x o' = true) : Does P f xs [o] x [o'] := by
  unfold evalsO1 at h
  split at h
  · rename_i y z hy
    simp only [Bool.and_eq_true] at h
    have e1 := eqVb_ok _ _ h.1
    have e2 := eqOb_ok _ _ h.2
    subst e1 e2
    exact bodyE_does hC hm hy
  · cases h
abbrev IWv (l : List Int) : O := .vec 3 1 (dv (l.map (D.int .i64)))
abbrev unL (b1 b2 b3 b4 b5 : Bool) : List Int := (ifL b1 1 ++ (ifL b2 2 ++ ifL b5 5)) ++ (ifL b3 3 ++ ifL b4 4)
abbrev soL (b1 b2 b3 b4 b5 : Bool) : List Int := ifL b1 1 ++ (ifL b2 2 ++ (ifL b3 3 ++ (ifL b4 4 ++ ifL b5 5)))
theorem sort5 (b1 b2 b3 b4 b5 : Bool) : Does Tryz.prog 123 [.slr 0 0 (unL b1 b2 b3 b4 b5).length] [IWv (unL b1 b2 b3 b4 b5)] (.tup []) [IWv (soL b1 b2 b3 b4 b5)] := by
  have h : ([false, true].all fun b1 => [false, true].all fun b2 => [false, true].all fun b3 => [false, true].all fun b4 => [false, true].all fun b5 => evalsO1 Tryz.prog (CP Tryz.prog) 123 [.slr 0 0 (unL b1 b2 b3 b4 b5).length] (IWv (unL b1 b2 b3 b4 b5)) (.tup []) (IWv (soL b1 b2 b3 b4 b5))) = true := by kernel_rfl
  have hb : ∀ b : Bool, b ∈ [false, true] := by decide
  exact evalsO1_ok CP_ok hmix (List.all_eq_true.1 (List.all_eq_true.1 (List.all_eq_true.1 (List.all_eq_true.1 (List.all_eq_true.1 h b1 (hb _)) b2 (hb _)) b3 (hb _)) b4 (hb _)) b5 (hb _))
theorem soL_len : ∀ b1 b2 b3 b4 b5 : Bool, (soL b1 b2 b3 b4 b5).length = (unL b1 b2 b3 b4 b5).length := by decide
theorem why_any {w : Wo} (ho : OkW w) (th tw day : Int) (h1 : 0 ≤ th ∧ th ≤ 4000) (h2 : 0 ≤ tw ∧ tw ≤ 4000) (hd : 0 ≤ day ∧ day ≤ 4000) (a b : Pe) (ha : HmB a.homes) (hb : HmB b.homes) (haa : a.advs.length ≤ 1000) (hbb : b.advs.length ≤ 1000) :
    Does Tryz.prog 56 [.d (jgD w th tw), .d (peD a), .d (peD b), I day] [] (.d (.sl ((whyF w th tw day a b).map (D.int .i64)))) [] := by
  have c1 := always_any (by have := ho.bo.len; omega) ho.bo.ris th tw a b haa hbb
  have c2 := sameHome_any ho.pl th tw day h1 hd a b ha hb
  have c3 := worked_any (w := w) (by have := ho.wk.len; omega) (fun x hx => by have := (ho.wk.wk x hx).len.2; omega) th tw day h2 hd a.key b.key
  have hs := sort5 (a.key == b.key) (advB a b) (homeB w.pls th day a.homes b.homes) (workB w.wks tw day a.key b.key) (bondB w.bos a.key b.key)
  have e : whyF w th tw day a b = soL (a.key == b.key) (advB a b) (homeB w.pls th day a.homes b.homes) (workB w.wks tw day a.key b.key) (bondB w.bos a.key b.key) := rfl
  have e2 : unL (a.key == b.key) (advB a b) (homeB w.pls th day a.homes b.homes) (workB w.wks tw day a.key b.key) (bondB w.bos a.key b.key) = alwL w a b ++ (ifL (homeB w.pls th day a.homes b.homes) 3 ++ ifL (workB w.wks tw day a.key b.key) 4) := rfl
  have hlen : (whyF w th tw day a b).length = (alwL w a b ++ (ifL (homeB w.pls th day a.homes b.homes) 3 ++ ifL (workB w.wks tw day a.key b.key) 4)).length := by
    rw [e, ← e2]
    exact soL_len _ _ _ _ _
  rw [← e, e2] at hs
  have hL3 : (alwL w a b).length ≤ 1000 := by
    have : ∀ b1 b2 b3 : Bool, (ifL b1 1 ++ (ifL b2 2 ++ ifL b3 5)).length ≤ 3 := by decide
    have := this (a.key == b.key) (advB a b) (bondB w.bos a.key b.key)
    unfold alwL
    omega
  clear e e2
  generalize whyF w th tw day a b = R at *
  generalize alwL w a b = L at *
  generalize homeB w.pls th day a.homes b.homes = v3 at *
  generalize workB w.wks tw day a.key b.key = v4 at *
  obtain ⟨pls, pes, wks, bos⟩ := w
  obtain ⟨ak, an, ah, am, aa⟩ := a
  obtain ⟨bk, bn, bh, bm, ba⟩ := b
  have htk : List.take L.length (dv (L.map (D.int .i64))) = dv (L.map (D.int .i64)) := List.take_of_length_le (by simp [dv])
  have htk2 : ∀ x : D, List.take (L.length + 1) (dv (L.map (D.int .i64) ++ [x])) = dv (L.map (D.int .i64) ++ [x]) := fun x => List.take_of_length_le (by simp [dv])
  refine Does.of_AW (n := 35) Tryz.func56 rfl rfl rfl fun cx hcx => ?_
  cases v3 <;> cases v4
  all_goals
    simp only [ifL, if_true, Bool.false_eq_true, if_false, List.append_nil, List.nil_append, List.cons_append, IWv, List.map_append, List.map_cons, List.map_nil, List.length_append, List.length_cons, List.length_nil, Nat.zero_add, Nat.reduceAdd] at hs hlen
    repeat' (first | ((first | refine AW.sreg rfl fun K hK => ?_ | refine AW.reg rfl ?_ | refine run_call _ _ _ ((c1).objA []) rfl rfl (dstOk_of rfl) rfl rfl rfl ?_ | refine run_call _ _ _ ((c2).pure rfl rfl _ _) rfl rfl (dstOk_of rfl) rfl rfl rfl ?_ | refine run_call _ _ _ ((c3).pure rfl rfl _ _) rfl rfl (dstOk_of rfl) rfl rfl rfl ?_ | refine run_call _ _ _ ((hs).objA [_]) rfl rfl (dstOk_of rfl) rfl rfl rfl ?_); simp only [go_sem, ↓reduceIte, htk, htk2, Nat.reduceSub, Nat.add_zero, List.length_map, dv_push, List.append_assoc, List.cons_append, List.nil_append, Nat.add_assoc, Nat.zero_add]) | (refine AW.seq_k fun K hK => ?_) | (refine AW.skip ?_; simp only [Then, InBlock]) | (refine AW.cT ?_) | (refine AW.cF ?_) | (refine hK _ ?_; clear hK K) | (with_reducible refine andI ?_))
    all_goals first | exact AW.ret (Fin.data rfl ((frz_slr (e := 3) (s := 1) (xs := R.map (D.int .i64)) rfl rfl (by simp at hlen ⊢; omega)).trans (by simp [go_sem])) rfl) | trace_state
end Go.AX

namespace Go.AX
open Go Go.Proofs Go.RowKit
theorem key_inj {α β : Type} {f : α → β} {l : List α} (h : (l.map f).Nodup) {p q : α} (hp : p ∈ l) (hq : q ∈ l) (e : f p = f q) : p = q := by
  induction l with
  | nil => cases hp
  | cons x l ih =>
    simp only [List.map_cons, List.nodup_cons] at h
    rcases List.mem_cons.1 hp with e1 | hp1
    · rcases List.mem_cons.1 hq with e2 | hq1
      · rw [e1, e2]
      · exact absurd (by rw [← e1, e]; exact List.mem_map_of_mem hq1) h.1
    · rcases List.mem_cons.1 hq with e2 | hq1
      · exact absurd (by rw [← e2, ← e]; exact List.mem_map_of_mem hp1) h.1
      · exact ih h.2 hp1 hq1
theorem newJudge_ok {w : Wo} (ho : OkW w) (th tw : Int) : Does Tryz.prog 118 [.d (woD w), .d (.agg [.int .i64 th, .int .i64 tw])] [] (.d (jgD w th tw)) [] := by
  have h1 := keysOf_any w (by have := ho.len; omega) ho.nd
  have h2 := parentsOf_any w.pls (by have := ho.pl.len; omega) ho.pl.nd
  obtain ⟨pls, pes, wks, bos⟩ := w
  simp only at h1 h2 ⊢
  refine Does.of_AW (n := 14) Tryz.func118 rfl rfl rfl fun cx hcx => ?_
  repeat' (first | ((first | refine AW.sreg rfl fun K hK => ?_ | refine AW.sregD hmix rfl fun K hK => ?_ | refine runT_call _ _ [] (fun hv _ => (h1).pure rfl rfl hv _) rfl rfl (dstOk_of rfl) rfl rfl ?_ | refine runT_call _ _ [] (fun hv _ => (h2).pure rfl rfl hv _) rfl rfl (dstOk_of rfl) rfl rfl ?_); simp only [go_sem, ↓reduceIte]) | (refine hK _ ?_; clear hK K) | (with_reducible refine And.intro (?_ : regOk _ _ = true) ?_; kernel_rfl))
  exact AW.ret (Fin.data rfl (by simp [go_sem, frz, toD, toDL]) rfl)
theorem checkTerms_ok (th tw : Int) (h1 : 0 ≤ th ∧ th ≤ 4000) (h2 : 0 ≤ tw ∧ tw ≤ 4000) : Does Tryz.prog 117 [.d (.agg [.int .i64 th, .int .i64 tw])] [] (I 0) [] := by
  have d1 := isDay_any th h1
  have d2 := isDay_any tw h2
  refine Does.of_AW (n := 13) Tryz.func117 rfl rfl rfl fun cx hcx => ?_
  repeat' (first | ((first | refine AW.sreg rfl fun K hK => ?_ | refine run_call _ _ _ ((d1).pure rfl rfl _ _) rfl rfl (dstOk_of rfl) rfl rfl rfl ?_ | refine run_call _ _ _ ((d2).pure rfl rfl _ _) rfl rfl (dstOk_of rfl) rfl rfl rfl ?_); simp only [go_sem, ↓reduceIte]) | (refine AW.seq_k fun K hK => ?_) | (refine AW.skip ?_; simp only [Then, InBlock]) | (refine AW.cF ?_) | (refine hK _ ?_; clear hK K) | (refine AW.ret (Fin.data rfl (by first | (simp only [go_sem]; done) | (simp [go_sem, *]; done) | (simp [go_sem]; omega) | rfl) rfl)))
theorem two_ok {w : Wo} (ho : OkW w) (th tw day : Int) (h1 : 0 ≤ th ∧ th ≤ 4000) (h2 : 0 ≤ tw ∧ tw ≤ 4000) (hd : 0 ≤ day ∧ day ≤ 4000) (a b : Pe) (ha : a ∈ w.pes) (hb : b ∈ w.pes) :
    Does Tryz.prog 55 [.d (woD w), .d (.agg [.int .i64 th, .int .i64 tw]), S a.key, S b.key, I day] [] (.tup [.d (jgD w th tw), .d (peD a), .d (peD b), I 0]) [] := by
  have c1 := check_ok ho
  have c2 := checkTerms_ok th tw h1 h2
  have c3 := newJudge_ok ho th tw
  have c4 := isDay_any day hd
  have hnd := ho.nd
  have huq : ∀ {p q : Pe}, p ∈ w.pes → q ∈ w.pes → p.key = q.key → p = q := fun hp hq e => key_inj hnd hp hq e
  rcases ky_find hnd a.key with ⟨u1, u2⟩ | ⟨i, p, u1, u2, u3, u4⟩
  · exact absurd (List.mem_map_of_mem ha) u1
  rcases ky_find hnd b.key with ⟨v1, v2⟩ | ⟨k, q, v1, v2, v3, v4⟩
  · exact absurd (List.mem_map_of_mem hb) v1
  obtain rfl : p = a := huq (List.mem_of_getElem? u1) ha u2
  obtain rfl : q = b := huq (List.mem_of_getElem? v1) hb v2
  have hi : i < w.pes.length := (List.getElem?_eq_some_iff.1 u1).1
  have hk : k < w.pes.length := (List.getElem?_eq_some_iff.1 v1).1
  have g1 : (w.pes.map peD)[i]? = some (peD p) := by simp [u1]
  have g2 : (w.pes.map peD)[k]? = some (peD q) := by simp [v1]
  have hpl := ho.len
  obtain ⟨pls, pes, wks, bos⟩ := w
  simp only at *
  refine Does.of_AW (n := 82) Tryz.func55 rfl rfl rfl fun cx hcx => ?_
  repeat' (first | ((first | refine AW.sreg rfl fun K hK => ?_ | refine AW.sregD hmix rfl fun K hK => ?_ | refine run_call _ _ _ ((c1).pure rfl rfl _ _) rfl rfl (dstOk_of rfl) rfl rfl rfl ?_ | refine run_call _ _ _ ((c2).pure rfl rfl _ _) rfl rfl (dstOk_of rfl) rfl rfl rfl ?_ | refine run_call _ _ _ ((c3).pure rfl rfl _ _) rfl rfl (dstOk_of rfl) rfl rfl rfl ?_ | refine run_call _ _ _ ((c4).pure rfl rfl _ _) rfl rfl (dstOk_of rfl) rfl rfl rfl ?_); simp only [go_sem, ↓reduceIte, u3, u4, v3, v4, g1, g2, List.length_map]) | (refine AW.seq_k fun K hK => ?_) | (refine AW.skip ?_; simp only [Then, InBlock]) | (refine AW.cF ?_) | (refine hK _ ?_; clear hK K) | (with_reducible refine And.intro (?_ : regOk _ _ = true) ?_; kernel_rfl) | (with_reducible refine andI ?_))
  all_goals first | exact AW.ret (Fin.data rfl rfl rfl) | trace_state
theorem HmB_of {ps : List Pl} {l : List Hm} (h : OkHm ps l) : HmB l := ⟨by have := h.len; omega, fun x hx => by have := h.hm x hx; omega⟩
theorem Why_ok {w : Wo} (ho : OkW w) (th tw day : Int) (h1 : 0 ≤ th ∧ th ≤ 4000) (h2 : 0 ≤ tw ∧ tw ≤ 4000) (hd : 0 ≤ day ∧ day ≤ 4000) (a b : Pe) (ha : a ∈ w.pes) (hb : b ∈ w.pes) :
    Does Tryz.prog 15 [.d (woD w), .d (.agg [.int .i64 th, .int .i64 tw]), S a.key, S b.key, I day] [] (.tup [.d (.sl ((whyF w th tw day a b).map (D.int .i64))), I 0]) [] := by
  have c1 := two_ok ho th tw day h1 h2 hd a b ha hb
  have hA := ho.pe a ha
  have hB := ho.pe b hb
  have c2 := why_any ho th tw day h1 h2 hd a b (HmB_of hA.hm) (HmB_of hB.hm) (by have := hA.ad.len; omega) (by have := hB.ad.len; omega)
  generalize whyF w th tw day a b = R at *
  obtain ⟨pls, pes, wks, bos⟩ := w
  obtain ⟨ak, an, ah, am, aa⟩ := a
  obtain ⟨bk, bn, bh, bm, ba⟩ := b
  simp only at c1 c2 ⊢
  refine Does.of_AW (n := 35) Tryz.func15 rfl rfl rfl fun cx hcx => ?_
  repeat' (first | ((first | refine AW.sreg rfl fun K hK => ?_ | refine run_call _ _ _ ((c1).pure rfl rfl _ _) rfl rfl (dstOk_of rfl) rfl rfl rfl ?_ | refine run_call _ _ _ ((c2).pure rfl rfl _ _) rfl rfl (dstOk_of rfl) rfl rfl rfl ?_); simp only [go_sem, ↓reduceIte]) | (refine AW.seq_k fun K hK => ?_) | (refine AW.skip ?_; simp only [Then, InBlock]) | (refine AW.cF ?_) | (refine hK _ ?_; clear hK K))
  all_goals first | exact AW.ret (Fin.data rfl (by simp [go_sem]) rfl) | trace_state
end Go.AX

namespace Go.AX
open Go Go.Proofs Go.RowKit
abbrev InD (n : Int) : D := .int .i64 n
theorem indexFunc_In (xs : List Int) (hl : xs.length ≤ 1000) (c : Nat) (cap : D) (q : Int → Bool) (hc : ∀ x ∈ xs, Does Tryz.prog c [.d (InD x), .d cap] [] (B (q x)) []) :
    Does Tryz.prog 124 [.d (.sl (xs.map InD)), .fn c [.d cap]] [] (I (idxG q xs 0)) [] := by
  refine Does.of_AW (n := 19) Tryz.func124 rfl rfl rfl fun cx hcx => ?_
  generalize hR : idxG q xs 0 = R
  repeat' (first | (refine AW.sreg rfl fun K hK => ?_; simp only [go_sem, ↓reduceIte, List.length_map]) | (refine AW.seq_k fun K hK => ?_) | (refine AW.block ?_) | (refine hK _ ?_; clear hK K))
  refine AW.loopF (ι := Nat) [0, 1, 7] (fun p => [(8, I p)]) (fun p => []) 1 (fun p => p ≤ xs.length ∧ idxG q (xs.drop p) p = R) (fun p => xs.length - p) 0 ⟨by simp, hR⟩ (Weak.aC hcx (by refine ⟨?_, ?_, ?_⟩ <;> simp [go_sem, gL, kL, renOf, V.obj, Nat.blt, Nat.ble, List.map_append, dv_push])) ?_; simp only [St.at_nil, St.at_cons, lk, Nat.reduceEqDiff, ↓reduceIte, Option.getD_some, Option.getD_none, List.cons_append, List.nil_append, List.append_nil]
  rintro i ⟨h1, h2⟩
  by_cases hi : i < xs.length
  · obtain ⟨x, hx, hxm, hxd⟩ := get_some hi
    have hget : (xs.map InD)[i]? = some (InD x) := by simp [hx]
    rw [hxd, idxG] at h2
    repeat' (first | ((first | refine AW.sreg rfl fun K hK => ?_ | refine AW.reg rfl ?_ | refine run_call _ _ _ ((hc x hxm).pure rfl rfl _ _) rfl rfl (dstOk_of rfl) rfl rfl rfl ?_); simp only [go_sem, ↓reduceIte, List.length_map, hget]) | (refine AW.seq_k fun K hK => ?_) | (refine AW.block ?_) | (refine AW.skip ?_; simp only [Then, InBlock]) | (refine AW.cT ?_) | (refine AW.cond rfl (fun h => ?_) (fun h => ?_) <;> (try simp only [decide_eq_true_eq, decide_eq_false_iff_not, Bool.not_eq_true', Bool.not_eq_false', Bool.not_eq_eq_eq_not, Bool.not_true, Bool.not_false, beq_iff_eq, bne_iff_ne, beq_eq_false_iff_ne, ne_eq, Bool.and_eq_true, Bool.or_eq_true, Bool.or_eq_false_iff] at h)) | (refine hK _ ?_; clear hK K) | (with_reducible refine andI ?_) | (refine AW.ret (Fin.data rfl (by first | (simp only [go_sem]; done) | ((rw [if_pos h] at h2; subst h2; simp [go_sem]); done) | (simp [go_sem]; omega) | rfl) rfl)))
    rw [if_neg (by simp [h])] at h2
    exact ⟨i + 1, ⟨hi, h2⟩, by omega, (Weak.aC hcx (by refine ⟨?_, ?_, ?_⟩ <;> simp [go_sem, gL, kL, renOf, V.obj, Nat.blt, Nat.ble, List.map_append, dv_push]))⟩
  · obtain rfl : i = xs.length := by omega
    simp only [List.drop_length, idxG] at h2
    subst h2
    repeat' (first | (refine AW.sreg rfl fun K hK => ?_; simp only [go_sem, ↓reduceIte, List.length_map]) | (refine AW.seq_k fun K hK => ?_) | (refine AW.exit ?_; simp only [go_sem, ↓reduceIte]) | (refine AW.cF ?_) | (refine hK _ ?_; clear hK K) | (clear hK K; refine hK _ ?_; clear hK K) | (refine AW.ret (Fin.data rfl (by first | (simp only [go_sem]; done) | (simp [go_sem, *]; done) | (simp [go_sem]; omega) | rfl) rfl)))
theorem containsFunc_In (xs : List Int) (hl : xs.length ≤ 1000) (c : Nat) (cap : D) (q : Int → Bool) (hc : ∀ x ∈ xs, Does Tryz.prog c [.d (InD x), .d cap] [] (B (q x)) []) :
    Does Tryz.prog 57 [.d (.sl (xs.map InD)), .fn c [.d cap]] [] (B (xs.any q)) [] := by
  rw [← idxG_any q xs 0]
  refine Does.of_AW (n := 9) Tryz.func57 rfl rfl rfl fun cx hcx => ?_
  repeat' (first | ((first | refine AW.sreg rfl fun K hK => ?_ | refine run_call _ _ _ ((indexFunc_In xs hl c cap q hc).pure rfl rfl _ _) rfl rfl (dstOk_of rfl) rfl rfl rfl ?_); simp only [go_sem, ↓reduceIte]) | (refine hK _ ?_; clear hK K) | (refine AW.ret (Fin.data rfl (by first | (simp only [go_sem]; done) | (simp [go_sem, *]; done) | (simp [go_sem]; omega) | rfl) rfl)))

theorem index_In (xs : List Int) (hl : xs.length ≤ 100000) (v : Int) :
    Does Tryz.prog 125 [.d (.sl (xs.map InD)), I v] [] (I (idxG (fun x => v == x) xs 0)) [] := by
  refine Does.of_AW (n := 19) Tryz.func125 rfl rfl rfl fun cx hcx => ?_
  generalize hR : idxG (fun x => v == x) xs 0 = R
  repeat' (first | (refine AW.sreg rfl fun K hK => ?_; simp only [go_sem, ↓reduceIte, List.length_map]) | (refine AW.seq_k fun K hK => ?_) | (refine AW.block ?_) | (refine hK _ ?_; clear hK K))
  refine AW.loopF (ι := Nat) [0, 1, 7] (fun p => [(8, I p)]) (fun p => []) 1 (fun p => p ≤ xs.length ∧ idxG (fun x => v == x) (xs.drop p) p = R) (fun p => xs.length - p) 0 ⟨by simp, hR⟩ (Weak.aC hcx (by refine ⟨?_, ?_, ?_⟩ <;> simp [go_sem, gL, kL, renOf, V.obj, Nat.blt, Nat.ble, List.map_append, dv_push])) ?_; simp only [St.at_nil, St.at_cons, lk, Nat.reduceEqDiff, ↓reduceIte, Option.getD_some, Option.getD_none, List.cons_append, List.nil_append, List.append_nil]
  rintro i ⟨h1, h2⟩
  by_cases hi : i < xs.length
  · obtain ⟨x, hx, hxm, hxd⟩ := get_some hi
    have hget : (xs.map InD)[i]? = some (InD x) := by simp [hx]
    rw [hxd, idxG] at h2
    repeat' (first | ((first | refine AW.sreg rfl fun K hK => ?_ | refine AW.reg rfl ?_); simp only [go_sem, ↓reduceIte, List.length_map, hget]) | (refine AW.seq_k fun K hK => ?_) | (refine AW.block ?_) | (refine AW.skip ?_; simp only [Then, InBlock]) | (refine AW.cT ?_) | (refine AW.cond rfl (fun h => ?_) (fun h => ?_) <;> (try simp only [decide_eq_true_eq, decide_eq_false_iff_not, Bool.not_eq_true', Bool.not_eq_false', Bool.not_eq_eq_eq_not, Bool.not_true, Bool.not_false, beq_iff_eq, bne_iff_ne, beq_eq_false_iff_ne, ne_eq, Bool.and_eq_true, Bool.or_eq_true, Bool.or_eq_false_iff] at h)) | (refine hK _ ?_; clear hK K) | (with_reducible refine andI ?_) | (refine AW.ret (Fin.data rfl (by first | (simp only [go_sem]; done) | ((rw [if_pos (by simpa using h)] at h2; subst h2; simp [go_sem]); done) | (simp [go_sem]; omega) | rfl) rfl)))
    rw [if_neg (by simpa using h)] at h2
    exact ⟨i + 1, ⟨hi, h2⟩, by omega, (Weak.aC hcx (by refine ⟨?_, ?_, ?_⟩ <;> simp [go_sem, gL, kL, renOf, V.obj, Nat.blt, Nat.ble, List.map_append, dv_push]))⟩
  · obtain rfl : i = xs.length := by omega
    simp only [List.drop_length, idxG] at h2
    subst h2
    repeat' (first | (refine AW.sreg rfl fun K hK => ?_; simp only [go_sem, ↓reduceIte, List.length_map]) | (refine AW.seq_k fun K hK => ?_) | (refine AW.exit ?_; simp only [go_sem, ↓reduceIte]) | (refine AW.cF ?_) | (refine hK _ ?_; clear hK K) | (clear hK K; refine hK _ ?_; clear hK K) | (refine AW.ret (Fin.data rfl (by first | (simp only [go_sem]; done) | (simp [go_sem, *]; done) | (simp [go_sem]; omega) | rfl) rfl)))
theorem contains_In (xs : List Int) (hl : xs.length ≤ 100000) (v : Int) :
    Does Tryz.prog 59 [.d (.sl (xs.map InD)), I v] [] (B (xs.any fun x => v == x)) [] := by
  rw [← idxG_any (fun x => v == x) xs 0]
  refine Does.of_AW (n := 9) Tryz.func59 rfl rfl rfl fun cx hcx => ?_
  repeat' (first | ((first | refine AW.sreg rfl fun K hK => ?_ | refine run_call _ _ _ ((index_In xs hl v).pure rfl rfl _ _) rfl rfl (dstOk_of rfl) rfl rfl rfl ?_); simp only [go_sem, ↓reduceIte]) | (refine hK _ ?_; clear hK K) | (refine AW.ret (Fin.data rfl (by first | (simp only [go_sem]; done) | (simp [go_sem, *]; done) | (simp [go_sem]; omega) | rfl) rfl)))
theorem within1_any (b : List Int) (hb : b.length ≤ 100000) (n : Int) : Does Tryz.prog 58 [I n, .d (.ptr [.sl (b.map InD)] 0)] [] (B (!b.any fun x => n == x)) [] := by
  have hc := contains_In b hb n
  generalize (b.any fun x => n == x) = v at *
  refine Does.of_AW (n := 8) Tryz.func58 rfl rfl rfl fun cx hcx => ?_
  repeat' (first | ((first | refine AW.sreg rfl fun K hK => ?_ | refine run_call _ _ _ ((hc).pure rfl rfl _ _) rfl rfl (dstOk_of rfl) rfl rfl rfl ?_); simp only [go_sem, ↓reduceIte]) | (refine hK _ ?_; clear hK K))
  exact AW.ret (Fin.data rfl (by simp [go_sem]) rfl)
theorem within_ok {a b : List Int} (ha : a.length ≤ 1000) (hb : b.length ≤ 1000) (h : SubI a b) : Does Tryz.prog 17 [.d (.sl (a.map InD)), .d (.sl (b.map InD))] [] (B true) [] := by
  have hcf := containsFunc_In a ha 58 (.ptr [.sl (b.map InD)] 0) (fun n => !b.any fun x => n == x) (fun n _ => within1_any b (by omega) n)
  have e : (a.any fun n => !b.any fun x => n == x) = false := by
    rw [List.any_eq_false]
    intro x hx
    have := h x hx
    simp only [Bool.not_eq_true', Bool.not_eq_false, List.any_eq_true, beq_iff_eq]
    exact ⟨x, this, rfl⟩
  rw [e] at hcf
  refine Does.of_AW (n := 9) Tryz.func17 rfl rfl rfl fun cx hcx => ?_
  repeat' (first | ((first | refine AW.sreg rfl fun K hK => ?_ | refine run_call _ _ _ ((hcf).borrow rfl rfl rfl) rfl rfl (dstOk_of rfl) rfl rfl rfl ?_); simp only [go_sem, ↓reduceIte]) | (refine hK _ ?_; clear hK K))
  exact AW.ret (Fin.data rfl (by simp [go_sem]) rfl)
theorem whyF_len (w : Wo) (th tw day : Int) (a b : Pe) : (whyF w th tw day a b).length ≤ 5 := by
  have : ∀ b1 b2 b3 b4 b5 : Bool, (soL b1 b2 b3 b4 b5).length ≤ 5 := by decide
  exact this _ _ _ _ _
theorem termsI (l : List Int) (hl2 : l.length ≤ 9223372036854775807) (at_ : Int) (ha : 0 ≤ at_) (hb : at_ ≤ 100000) :
    DoesI Tryz.prog 13 [.ptr 0 0] [Stm l at_] (fun q : Int × Int => (0 ≤ q.1 ∧ q.1 ≤ 4000) ∧ (0 ≤ q.2 ∧ q.2 ≤ 4000)) (fun q => .d (.agg [.int .i64 q.1, .int .i64 q.2])) (fun _ => [Stm l (at_ + 1 + 1)]) := by
  refine DoesI.of_AW (n := 10) Tryz.func13 rfl rfl rfl fun cx hcx => ?_
  repeat' (first | (refine AW.sreg rfl fun K hK => ?_; simp only [go_sem, ↓reduceIte]) | (refine hK _ ?_; clear hK K) | (refine run_callI _ _ _ ((pickB l hl2 at_ (by omega) (by omega) [0, 30, 100, 4000] 0 4000 (by simp) (by simp) (by decide)).objs [0, _] ⟨rfl, rfl, trivial⟩ rfl (by decide) (by simp [go_sem, renOs]) (by simp [go_sem]) (by simp [go_sem]) (fun j hj => ⟨by simp, by simp, by simp [go_sem], by simp [go_sem]⟩)) rfl rfl (dstOk_of rfl) rfl rfl rfl ?_; rintro p hp; (try dsimp only at p); (try dsimp only at hp); simp only [go_sem, ↓reduceIte]) | (refine run_callI _ _ _ ((pickB l hl2 (at_ + 1) (by omega) (by omega) [0, 10, 50, 4000] 0 4000 (by simp) (by simp) (by decide)).objs [0, _] ⟨rfl, rfl, trivial⟩ rfl (by decide) (by simp [go_sem, renOs]) (by simp [go_sem]) (by simp [go_sem]) (fun j hj => ⟨by simp, by simp, by simp [go_sem], by simp [go_sem]⟩)) rfl rfl (dstOk_of rfl) rfl rfl rfl ?_; rintro q hq; (try dsimp only at q); (try dsimp only at hq); simp only [go_sem, ↓reduceIte]))
  exact AW.ret ⟨(p, q), ⟨hp, hq⟩, Fin.one rfl rfl ⟨_, rfl, by simp [go_sem]⟩ rfl rfl rfl⟩
end Go.AX

namespace Go.AX
open Go Go.Proofs Go.RowKit
theorem all_ok_Nm (xs : List Nm) : (dv (xs.map nmD)).all (elemOk 2) = true := by
  simp only [dv, List.map_map, List.all_eq_true, List.mem_map, Function.comp_apply, forall_exists_index, and_imp, forall_apply_eq_imp_iff₂]
  intro x _
  rfl
theorem clone_Nm (xs : List Nm) (hl : xs.length ≤ 1000) : Does Tryz.prog 199 [.d (.sl (xs.map nmD))] [] (.slr 0 0 xs.length) [.vec 63 2 (dv (xs.map nmD))] := by
  refine Does.of_AW (n := 8) Tryz.func199 rfl rfl rfl fun cx hcx => ?_
  refine AW.sreg rfl fun K hK => ?_; simp only [go_sem, ↓reduceIte]
  refine hK _ ?_; (try clear hK K)
  refine AW.seq_k fun K1 hK1 => ?_
  refine AW.seq_k fun K2 hK2 => ?_
  refine AW.nilCmp rfl rfl rfl rfl rfl rfl (by simp only [go_sem]; rfl) (by simp) (by simp) rfl (fun b hb => ?_)
  refine hK2 _ ?_
  refine AW.cond rfl (fun h => ?_) (fun h => ?_)
  · have h0 : xs = [] := by simpa using hb h
    subst h0
    repeat' (first | (refine AW.sreg rfl fun K hK => ?_; simp only [go_sem, ↓reduceIte, List.length_map]) | (refine hK _ ?_; clear hK K))
    refine AW.weak (Weak.nil 2 63 2 rfl) ?_
    exact AW.ret (Fin.objs [256] rfl (by simp [go_sem, inI, gI]) ⟨⟨_, rfl, by simp [go_sem, inI, gI]⟩, trivial⟩ (by simp) rfl (by simp [go_sem]) (by simp [go_sem]) rfl)
  · refine AW.skip (hK1 _ ?_)
    repeat' (first | (refine AW.sreg rfl fun K hK => ?_; simp only [go_sem, ↓reduceIte, List.length_map, all_ok_Nm]) | (refine hK _ ?_; clear hK K) | (with_reducible refine andI ?_))
    exact AW.ret (Fin.objs [320] rfl (by simp [go_sem, inI, gI]) ⟨⟨_, rfl, by simp [go_sem, inI, gI]⟩, trivial⟩ (by simp) rfl (by simp [go_sem]) (by simp [go_sem]) rfl)

theorem all_ok_Hm (xs : List Hm) : (dv (xs.map hmD)).all (elemOk 3) = true := by
  simp only [dv, List.map_map, List.all_eq_true, List.mem_map, Function.comp_apply, forall_exists_index, and_imp, forall_apply_eq_imp_iff₂]
  intro x _
  rfl
theorem clone_Hm (xs : List Hm) (hl : xs.length ≤ 1000) : Does Tryz.prog 134 [.d (.sl (xs.map hmD))] [] (.slr 0 0 xs.length) [.vec 98 3 (dv (xs.map hmD))] := by
  refine Does.of_AW (n := 8) Tryz.func134 rfl rfl rfl fun cx hcx => ?_
  refine AW.sreg rfl fun K hK => ?_; simp only [go_sem, ↓reduceIte]
  refine hK _ ?_; (try clear hK K)
  refine AW.seq_k fun K1 hK1 => ?_
  refine AW.seq_k fun K2 hK2 => ?_
  refine AW.nilCmp rfl rfl rfl rfl rfl rfl (by simp only [go_sem]; rfl) (by simp) (by simp) rfl (fun b hb => ?_)
  refine hK2 _ ?_
  refine AW.cond rfl (fun h => ?_) (fun h => ?_)
  · have h0 : xs = [] := by simpa using hb h
    subst h0
    repeat' (first | (refine AW.sreg rfl fun K hK => ?_; simp only [go_sem, ↓reduceIte, List.length_map]) | (refine hK _ ?_; clear hK K))
    refine AW.weak (Weak.nil 2 98 3 rfl) ?_
    exact AW.ret (Fin.objs [256] rfl (by simp [go_sem, inI, gI]) ⟨⟨_, rfl, by simp [go_sem, inI, gI]⟩, trivial⟩ (by simp) rfl (by simp [go_sem]) (by simp [go_sem]) rfl)
  · refine AW.skip (hK1 _ ?_)
    repeat' (first | (refine AW.sreg rfl fun K hK => ?_; simp only [go_sem, ↓reduceIte, List.length_map, all_ok_Hm]) | (refine hK _ ?_; clear hK K) | (with_reducible refine andI ?_))
    exact AW.ret (Fin.objs [320] rfl (by simp [go_sem, inI, gI]) ⟨⟨_, rfl, by simp [go_sem, inI, gI]⟩, trivial⟩ (by simp) rfl (by simp [go_sem]) (by simp [go_sem]) rfl)

theorem insertionSort_HmP (lt : Hm → Hm → Bool) (cv : Hm → Hm → Int) (hlt : ∀ x y, lt x y = decide (cv x y < 0)) (c : Nat) (hc : ∀ x y, Does Tryz.prog c [.d (hmD x), .d (hmD y)] [] (I (cv x y)) []) (xs : List Hm) (hl : xs.length ≤ 1000) :
    Does Tryz.prog 204 [.slr 0 0 xs.length, I 0, I xs.length, .fn c []] [.vec 98 3 (dv (xs.map hmD))] (.tup []) [.vec 98 3 (dv ((isort lt xs).map hmD))] := by
  refine Does.of_AW (n := 53) Tryz.func204 rfl rfl rfl fun cx hcx => ?_
  generalize hR : isort lt xs = R
  repeat' (first | (refine AW.sreg rfl fun K hK => ?_; simp only [go_sem, ↓reduceIte, List.length_map]) | (refine AW.block ?_) | (refine hK _ ?_; clear hK K) | (with_reducible refine andI ?_))
  refine AW.loopF (ι := Nat × List Hm × List Hm) [0, 1, 2, 3] (fun p => [(8, I p.1)]) (fun p => [(0, some (O.vec 98 3 (dv ((p.2.1 ++ p.2.2).map hmD))))]) 1 (fun p => 1 ≤ p.1 ∧ p.2.1.length + p.2.2.length = xs.length ∧ (p.2.1.length = p.1 ∨ xs.length = 0) ∧ isGo lt p.2.1 p.2.2 = R) (fun p => xs.length - p.1) (1, xs.take 1, xs.drop 1) ⟨by simp, by simp only [List.length_take, List.length_drop]; omega, by simp only [List.length_take]; omega, hR⟩ (Weak.aC hcx (by refine ⟨?_, ?_, ?_⟩ <;> simp [go_sem, gL, kL, renOf, V.obj, Nat.blt, Nat.ble, List.map_append, dv_push, take1_tail])) ?_; simp only [St.at_nil, St.at_cons, lk, Nat.reduceEqDiff, ↓reduceIte, Option.getD_some, Option.getD_none, List.cons_append, List.nil_append, List.append_nil]
  rintro ⟨i, d, r⟩ ⟨h1, h2, h3, h4⟩
  simp only at h1 h2 h3 h4 ⊢
  by_cases hi : i < xs.length
  · obtain ⟨x, r, rfl⟩ : ∃ x r', r = x :: r' := by
      cases r with
      | nil => simp at h2; omega
      | cons x r' => exact ⟨x, r', rfl⟩
    obtain rfl : i = d.length := by omega
    simp only [isGo] at h4
    repeat' (first | (refine AW.sreg rfl fun K hK => ?_; simp only [go_sem, ↓reduceIte, List.length_map]) | (refine AW.seq_k fun K hK => ?_) | (refine AW.block ?_) | (refine AW.skip ?_; simp only [Then, InBlock]) | (refine AW.cT ?_) | (refine hK _ ?_; clear hK K))
    generalize hR2 : insP lt d.reverse x [] = R2 at h4
    refine AW.loopF (ι := List Hm × List Hm) [0, 1, 2, 3, 8] (fun p => [(9, I p.1.length)]) (fun p => [(0, some (O.vec 98 3 (dv ((p.1.reverse ++ x :: (p.2 ++ r)).map hmD))))]) 1 (fun p => p.1.length + p.2.length = d.length ∧ insP lt p.1 x p.2 = R2) (fun p => p.1.length) (d.reverse, []) ⟨by simp, hR2⟩ (Weak.aC hcx (by refine ⟨?_, ?_, ?_⟩ <;> simp [go_sem, gL, kL, renOf, V.obj, Nat.blt, Nat.ble, List.map_append, dv_push])) ?_; simp only [St.at_nil, St.at_cons, lk, Nat.reduceEqDiff, ↓reduceIte, Option.getD_some, Option.getD_none, List.cons_append, List.nil_append, List.append_nil]
    rintro ⟨pr, q⟩ ⟨g1, g2⟩
    simp only at g1 g2 ⊢
    rcases pr with _ | ⟨y, pr⟩
    · simp only [insP] at g2
      subst g2
      simp only [List.length_cons, List.length_nil] at g1 h2
      repeat' (first | ((first | refine AW.sregD hmix rfl fun K hK => ?_ | refine AW.reg rfl ?_); simp only [go_sem, ↓reduceIte, List.length_map]) | (refine AW.seq_k fun K hK => ?_) | (refine AW.exit ?_; simp only [go_sem, ↓reduceIte]) | (refine AW.cF ?_) | (refine hK _ ?_; clear hK K) | (clear hK K; refine hK _ ?_; clear hK K) | (refine stepBT_split (fun h => ?_) (fun h => ?_) <;> (have hb0 := h) <;> (try simp only [Bool.not_eq_true', Bool.not_eq_false'] at hb0) <;> (try simp only [decide_eq_true_eq, decide_eq_false_iff_not, Bool.not_eq_true', Bool.not_eq_false', Bool.not_eq_eq_eq_not, Bool.not_true, Bool.not_false, beq_iff_eq, bne_iff_ne, beq_eq_false_iff_ne, ne_eq, Bool.and_eq_true, Bool.or_eq_true, Bool.or_eq_false_iff] at h) <;> simp only [go_sem, ↓reduceIte, hb0, h, decide_true, decide_false, List.length_map] <;> (try clear hb0)) | (with_reducible refine And.intro (?_ : regOk _ _ = true) ?_; kernel_rfl) | (with_reducible refine andI ?_) | (exfalso; omega))
      exact ⟨(d.length + 1, x :: q, r), ⟨by simp only; omega, by simp only [List.length_cons]; omega, .inl (by simp only [List.length_cons]; omega), h4⟩, by simp only; omega, (Weak.aC hcx (by refine ⟨?_, ?_, ?_⟩ <;> simp [go_sem, gL, kL, renOf, V.obj, Nat.blt, Nat.ble, List.map_append, dv_push]))⟩
    · have e1 : (dv ((List.reverse (y :: pr) ++ x :: (q ++ r)).map hmD))[0 + (pr.length + 1)]? = some (.d (hmD x)) := by
        have := get_mid (List.reverse (y :: pr)) x (q ++ r)
        simp only [List.length_reverse, List.length_cons] at this
        simp only [dv, Nat.zero_add, List.getElem?_map, this, Option.map_some]
      have e2 : (dv ((List.reverse (y :: pr) ++ x :: (q ++ r)).map hmD))[0 + pr.length]? = some (.d (hmD y)) := by
        have := get_mid (List.reverse pr) y (x :: (q ++ r))
        simp only [List.length_reverse] at this
        simp only [dv, Nat.zero_add, List.getElem?_map, List.reverse_cons, List.append_assoc, List.cons_append, List.nil_append, this, Option.map_some]
      have e3 : (((pr.length + 1 : Nat) : Int) - 1).toNat = pr.length := by omega
      simp only [List.length_cons] at g1 h2
      simp only [insP, hlt] at g2
      have e4 : (((dv ((List.reverse (y :: pr) ++ x :: (q ++ r)).map hmD)).set (0 + (pr.length + 1)) (.d (hmD y))).set (0 + pr.length) (.d (hmD x))) = dv ((pr.reverse ++ x :: ((y :: q) ++ r)).map hmD) := by
        have := swap_mid (dv (pr.reverse.map hmD)) (V.d (hmD x)) (V.d (hmD y)) (dv ((q ++ r).map hmD))
        simp only [dv, List.length_map, List.length_reverse, List.map_append, List.map_cons, List.reverse_cons, List.append_assoc, List.cons_append, List.nil_append, List.map_nil] at this ⊢
        exact this
      have e5 : ((dv ((List.reverse (y :: pr) ++ x :: (q ++ r)).map hmD)).set (0 + (pr.length + 1)) (.d (hmD y)))[0 + pr.length]? = some (.d (hmD y)) := by
        rw [List.getElem?_set_ne (by omega)]
        exact e2
      repeat' (first | ((first | refine AW.sregD hmix rfl fun K hK => ?_ | refine AW.reg rfl ?_ | refine AW.regD hmix rfl ?_ | refine runT_call _ _ [] (fun hv _ => (hc x y).pure rfl rfl hv _) rfl rfl (dstOk_of rfl) rfl rfl ?_); simp only [go_sem, ↓reduceIte, List.length_map, e1, e2, e3, e4, e5, List.length_cons, or_self, true_or, or_true]) | (refine AW.seq_k fun K hK => ?_) | (refine AW.block ?_) | (refine AW.skip ?_; simp only [Then, InBlock]) | (refine AW.exit ?_; simp only [go_sem, ↓reduceIte]) | (refine AW.cT ?_) | (refine AW.cond rfl (fun h => ?_) (fun h => ?_) <;> (try simp only [decide_eq_true_eq, decide_eq_false_iff_not, Bool.not_eq_true', Bool.not_eq_false', Bool.not_eq_eq_eq_not, Bool.not_true, Bool.not_false, beq_iff_eq, bne_iff_ne, beq_eq_false_iff_ne, ne_eq, Bool.and_eq_true, Bool.or_eq_true, Bool.or_eq_false_iff] at h)) | (refine hK _ ?_; clear hK K) | (clear hK K; refine hK _ ?_; clear hK K) | (refine stepBT_split (fun h => ?_) (fun h => ?_) <;> (have hb0 := h) <;> (try simp only [Bool.not_eq_true', Bool.not_eq_false'] at hb0) <;> (try simp only [decide_eq_true_eq, decide_eq_false_iff_not, Bool.not_eq_true', Bool.not_eq_false', Bool.not_eq_eq_eq_not, Bool.not_true, Bool.not_false, beq_iff_eq, bne_iff_ne, beq_eq_false_iff_ne, ne_eq, Bool.and_eq_true, Bool.or_eq_true, Bool.or_eq_false_iff] at h) <;> simp only [go_sem, ↓reduceIte, hb0, h, decide_true, decide_false, List.length_map, e1, e2, e3, e4, e5, List.length_cons, or_self, true_or, or_true] <;> (try clear hb0)) | (with_reducible refine And.intro (?_ : regOk _ _ = true) ?_; kernel_rfl) | (with_reducible refine andI ?_) | (exfalso; omega))
      · rw [if_pos (by simpa using h)] at g2
        exact ⟨(pr, y :: q), ⟨by simp only [List.length_cons]; omega, g2⟩, by simp only [List.length_cons]; omega, (Weak.aC hcx (by refine ⟨?_, ?_, ?_⟩ <;> simp [go_sem, gL, kL, renOf, V.obj, Nat.blt, Nat.ble, List.map_append, dv_push]))⟩
      · rw [if_neg (by simpa using h)] at g2
        subst g2
        exact ⟨(d.length + 1, (y :: pr).reverse ++ x :: q, r), ⟨by simp only; omega, by simp only [List.length_append, List.length_reverse, List.length_cons]; omega, .inl (by simp only [List.length_append, List.length_reverse, List.length_cons]; omega), h4⟩, by simp only; omega, (Weak.aC hcx (by refine ⟨?_, ?_, ?_⟩ <;> simp [go_sem, gL, kL, renOf, V.obj, Nat.blt, Nat.ble, List.map_append, dv_push]))⟩
  · have hr : r = [] := by
      cases r with
      | nil => rfl
      | cons x r => simp only [List.length_cons] at h2; omega
    subst hr
    simp only [isGo] at h4
    subst h4
    repeat' (first | (refine AW.sreg rfl fun K hK => ?_; simp only [go_sem, ↓reduceIte, List.length_map, List.append_nil]) | (refine AW.seq_k fun K hK => ?_) | (refine AW.exit ?_; simp only [go_sem, ↓reduceIte]) | (refine AW.cF ?_) | (refine hK _ ?_; clear hK K))
    exact Fin.one rfl rfl ⟨_, rfl, by simp [go_sem]⟩ rfl (by simp [go_sem]) rfl
theorem pdqsort_HmP (lt : Hm → Hm → Bool) (cv : Hm → Hm → Int) (hlt : ∀ x y, lt x y = decide (cv x y < 0)) (c : Nat) (hc : ∀ x y, Does Tryz.prog c [.d (hmD x), .d (hmD y)] [] (I (cv x y)) []) (xs : List Hm) (hl : xs.length ≤ 12) (m : Int) :
    Does Tryz.prog 147 [.slr 0 0 xs.length, I 0, I xs.length, I m, .fn c []] [.vec 98 3 (dv (xs.map hmD))] (.tup []) [.vec 98 3 (dv ((isort lt xs).map hmD))] := by
  refine Does.of_AW (n := 148) Tryz.func147 rfl rfl rfl fun cx hcx => ?_
  repeat' (first | (refine AW.sreg rfl fun K hK => ?_; simp only [go_sem, ↓reduceIte, List.length_map]) | (refine AW.block ?_) | (refine hK _ ?_; clear hK K))
  refine AW.loopF (ι := Unit) [0, 4] (fun p => [(1, I 0), (2, I xs.length), (3, I m), (10, B true), (11, B true)]) (fun p => [(0, some (O.vec 98 3 (dv (xs.map hmD))))]) 1 (fun p => True) (fun p => 0) () trivial (Weak.aC hcx (by refine ⟨?_, ?_, ?_⟩ <;> simp [go_sem, gL, kL, renOf, V.obj, Nat.blt, Nat.ble, List.map_append, dv_push])) ?_; simp only [St.at_nil, St.at_cons, lk, Nat.reduceEqDiff, ↓reduceIte, Option.getD_some, Option.getD_none, List.cons_append, List.nil_append, List.append_nil]
  rintro ⟨⟩ _
  repeat' (first | ((first | refine AW.sreg rfl fun K hK => ?_ | refine run_call _ _ _ ((insertionSort_HmP lt cv hlt c hc xs (by omega)).objA [0]) rfl rfl (dstOk_of rfl) rfl rfl rfl ?_); simp only [go_sem, ↓reduceIte, List.length_map, Int.sub_zero]) | (refine AW.seq_k fun K hK => ?_) | (refine AW.block ?_) | (refine AW.cT ?_) | (refine hK _ ?_; clear hK K) | (with_reducible refine andI ?_))
  exact AW.ret (Fin.one rfl rfl ⟨_, rfl, by simp [go_sem]⟩ rfl (by simp [go_sem]) rfl)
theorem sortFunc_HmP (lt : Hm → Hm → Bool) (cv : Hm → Hm → Int) (hlt : ∀ x y, lt x y = decide (cv x y < 0)) (c : Nat) (hc : ∀ x y, Does Tryz.prog c [.d (hmD x), .d (hmD y)] [] (I (cv x y)) []) (xs : List Hm) (hl : xs.length ≤ 12) :
    Does Tryz.prog 84 [.slr 0 0 xs.length, .fn c []] [.vec 98 3 (dv (xs.map hmD))] (.tup []) [.vec 98 3 (dv ((isort lt xs).map hmD))] := by
  refine Does.of_AW (n := 14) Tryz.func84 rfl rfl rfl fun cx hcx => ?_
  have hw := wrap_small xs.length (by omega)
  repeat' (first | ((first | refine AW.sreg rfl fun K hK => ?_ | refine AW.reg rfl ?_ | refine run_call _ _ _ ((len_ok xs.length hl).pure rfl rfl _ _) rfl rfl (dstOk_of rfl) rfl rfl rfl ?_ | refine run_call _ _ _ ((pdqsort_HmP lt cv hlt c hc xs hl _).objA [0]) rfl rfl (dstOk_of rfl) rfl rfl rfl ?_); simp only [go_sem, ↓reduceIte, List.length_map, hw]) | (refine hK _ ?_; clear hK K))
  exact Fin.one rfl rfl ⟨_, rfl, by simp [go_sem]⟩ rfl (by simp [go_sem]) rfl

theorem cloneO_Hm (xs : List (Hm)) (hl : xs.length ≤ 1000) : Does Tryz.prog 134 [.slr 0 0 xs.length] [.vec 98 3 (dv (xs.map hmD))] (.slr 1 0 xs.length) [.vec 98 3 (dv (xs.map hmD)), .vec 98 3 (dv (xs.map hmD))] := by
  refine Does.of_AW (n := 8) Tryz.func134 rfl rfl rfl fun cx hcx => ?_
  refine AW.sreg rfl fun K hK => ?_; simp only [go_sem, ↓reduceIte]
  refine hK _ ?_; (try clear hK K)
  refine AW.seq_k fun K1 hK1 => ?_
  refine AW.seq_k fun K2 hK2 => ?_
  refine AW.nilCmpO rfl rfl rfl rfl rfl rfl (by simp only [go_sem]; rfl) (by simp) (by simp) rfl (fun b hb => ?_)
  refine hK2 _ ?_
  refine AW.cond rfl (fun h => ?_) (fun h => ?_)
  · have h0 : xs = [] := by simpa using hb h
    subst h0
    repeat' (first | (refine AW.sreg rfl fun K hK => ?_; simp only [go_sem, ↓reduceIte, List.length_map]) | (refine hK _ ?_; clear hK K))
    refine AW.weak (Weak.nil 2 98 3 rfl) ?_
    exact AW.ret (Fin.objs [0, 320] rfl (by simp [go_sem, inI, gI]) ⟨⟨_, rfl, by simp [go_sem, inI, gI]⟩, ⟨_, rfl, by simp [go_sem, inI, gI]⟩, trivial⟩ (by simp) rfl (by simp [go_sem]) (by simp [go_sem]) rfl)
  · refine AW.skip (hK1 _ ?_)
    repeat' (first | (refine AW.sreg rfl fun K hK => ?_; simp only [go_sem, ↓reduceIte, List.length_map, all_ok_Hm]) | (refine hK _ ?_; clear hK K) | (with_reducible refine andI ?_))
    exact AW.ret (Fin.objs [0, 384] rfl (by simp [go_sem, inI, gI]) ⟨⟨_, rfl, by simp [go_sem, inI, gI]⟩, ⟨_, rfl, by simp [go_sem, inI, gI]⟩, trivial⟩ (by simp) rfl (by simp [go_sem]) (by simp [go_sem]) rfl)

theorem all_ok_St (xs : List Str) : (dv (xs.map D.str)).all (elemOk 1) = true := by
  simp only [dv, List.map_map, List.all_eq_true, List.mem_map, Function.comp_apply, forall_exists_index, and_imp, forall_apply_eq_imp_iff₂]
  intro x _
  rfl
theorem clone_St (xs : List Str) (hl : xs.length ≤ 1000) : Does Tryz.prog 133 [.d (.sl (xs.map D.str))] [] (.slr 0 0 xs.length) [.vec 9 1 (dv (xs.map D.str))] := by
  refine Does.of_AW (n := 8) Tryz.func133 rfl rfl rfl fun cx hcx => ?_
  refine AW.sreg rfl fun K hK => ?_; simp only [go_sem, ↓reduceIte]
  refine hK _ ?_; (try clear hK K)
  refine AW.seq_k fun K1 hK1 => ?_
  refine AW.seq_k fun K2 hK2 => ?_
  refine AW.nilCmp rfl rfl rfl rfl rfl rfl (by simp only [go_sem]; rfl) (by simp) (by simp) rfl (fun b hb => ?_)
  refine hK2 _ ?_
  refine AW.cond rfl (fun h => ?_) (fun h => ?_)
  · have h0 : xs = [] := by simpa using hb h
    subst h0
    repeat' (first | (refine AW.sreg rfl fun K hK => ?_; simp only [go_sem, ↓reduceIte, List.length_map]) | (refine hK _ ?_; clear hK K))
    refine AW.weak (Weak.nil 2 9 1 rfl) ?_
    exact AW.ret (Fin.objs [256] rfl (by simp [go_sem, inI, gI]) ⟨⟨_, rfl, by simp [go_sem, inI, gI]⟩, trivial⟩ (by simp) rfl (by simp [go_sem]) (by simp [go_sem]) rfl)
  · refine AW.skip (hK1 _ ?_)
    repeat' (first | (refine AW.sreg rfl fun K hK => ?_; simp only [go_sem, ↓reduceIte, List.length_map, all_ok_St]) | (refine hK _ ?_; clear hK K) | (with_reducible refine andI ?_))
    exact AW.ret (Fin.objs [320] rfl (by simp [go_sem, inI, gI]) ⟨⟨_, rfl, by simp [go_sem, inI, gI]⟩, trivial⟩ (by simp) rfl (by simp [go_sem]) (by simp [go_sem]) rfl)

theorem all_ok_Pe (xs : List Pe) : (dv (xs.map peD)).all (elemOk 5) = true := by
  simp only [dv, List.map_map, List.all_eq_true, List.mem_map, Function.comp_apply, forall_exists_index, and_imp, forall_apply_eq_imp_iff₂]
  intro x _
  rfl
theorem clone_Pe (xs : List Pe) (hl : xs.length ≤ 1000) : Does Tryz.prog 129 [.d (.sl (xs.map peD))] [] (.slr 0 0 xs.length) [.vec 50 5 (dv (xs.map peD))] := by
  refine Does.of_AW (n := 8) Tryz.func129 rfl rfl rfl fun cx hcx => ?_
  refine AW.sreg rfl fun K hK => ?_; simp only [go_sem, ↓reduceIte]
  refine hK _ ?_; (try clear hK K)
  refine AW.seq_k fun K1 hK1 => ?_
  refine AW.seq_k fun K2 hK2 => ?_
  refine AW.nilCmp rfl rfl rfl rfl rfl rfl (by simp only [go_sem]; rfl) (by simp) (by simp) rfl (fun b hb => ?_)
  refine hK2 _ ?_
  refine AW.cond rfl (fun h => ?_) (fun h => ?_)
  · have h0 : xs = [] := by simpa using hb h
    subst h0
    repeat' (first | (refine AW.sreg rfl fun K hK => ?_; simp only [go_sem, ↓reduceIte, List.length_map]) | (refine hK _ ?_; clear hK K))
    refine AW.weak (Weak.nil 2 50 5 rfl) ?_
    exact AW.ret (Fin.objs [256] rfl (by simp [go_sem, inI, gI]) ⟨⟨_, rfl, by simp [go_sem, inI, gI]⟩, trivial⟩ (by simp) rfl (by simp [go_sem]) (by simp [go_sem]) rfl)
  · refine AW.skip (hK1 _ ?_)
    repeat' (first | (refine AW.sreg rfl fun K hK => ?_; simp only [go_sem, ↓reduceIte, List.length_map, all_ok_Pe]) | (refine hK _ ?_; clear hK K) | (with_reducible refine andI ?_))
    exact AW.ret (Fin.objs [320] rfl (by simp [go_sem, inI, gI]) ⟨⟨_, rfl, by simp [go_sem, inI, gI]⟩, trivial⟩ (by simp) rfl (by simp [go_sem]) (by simp [go_sem]) rfl)

theorem all_ok_Wk (xs : List Wk) : (dv (xs.map wkD)).all (elemOk 2) = true := by
  simp only [dv, List.map_map, List.all_eq_true, List.mem_map, Function.comp_apply, forall_exists_index, and_imp, forall_apply_eq_imp_iff₂]
  intro x _
  rfl
theorem clone_Wk (xs : List Wk) (hl : xs.length ≤ 1000) : Does Tryz.prog 130 [.d (.sl (xs.map wkD))] [] (.slr 0 0 xs.length) [.vec 68 2 (dv (xs.map wkD))] := by
  refine Does.of_AW (n := 8) Tryz.func130 rfl rfl rfl fun cx hcx => ?_
  refine AW.sreg rfl fun K hK => ?_; simp only [go_sem, ↓reduceIte]
  refine hK _ ?_; (try clear hK K)
  refine AW.seq_k fun K1 hK1 => ?_
  refine AW.seq_k fun K2 hK2 => ?_
  refine AW.nilCmp rfl rfl rfl rfl rfl rfl (by simp only [go_sem]; rfl) (by simp) (by simp) rfl (fun b hb => ?_)
  refine hK2 _ ?_
  refine AW.cond rfl (fun h => ?_) (fun h => ?_)
  · have h0 : xs = [] := by simpa using hb h
    subst h0
    repeat' (first | (refine AW.sreg rfl fun K hK => ?_; simp only [go_sem, ↓reduceIte, List.length_map]) | (refine hK _ ?_; clear hK K))
    refine AW.weak (Weak.nil 2 68 2 rfl) ?_
    exact AW.ret (Fin.objs [256] rfl (by simp [go_sem, inI, gI]) ⟨⟨_, rfl, by simp [go_sem, inI, gI]⟩, trivial⟩ (by simp) rfl (by simp [go_sem]) (by simp [go_sem]) rfl)
  · refine AW.skip (hK1 _ ?_)
    repeat' (first | (refine AW.sreg rfl fun K hK => ?_; simp only [go_sem, ↓reduceIte, List.length_map, all_ok_Wk]) | (refine hK _ ?_; clear hK K) | (with_reducible refine andI ?_))
    exact AW.ret (Fin.objs [320] rfl (by simp [go_sem, inI, gI]) ⟨⟨_, rfl, by simp [go_sem, inI, gI]⟩, trivial⟩ (by simp) rfl (by simp [go_sem]) (by simp [go_sem]) rfl)

theorem all_ok_Bo (xs : List Bo) : (dv (xs.map boD)).all (elemOk 2) = true := by
  simp only [dv, List.map_map, List.all_eq_true, List.mem_map, Function.comp_apply, forall_exists_index, and_imp, forall_apply_eq_imp_iff₂]
  intro x _
  rfl
theorem clone_Bo (xs : List Bo) (hl : xs.length ≤ 1000) : Does Tryz.prog 131 [.d (.sl (xs.map boD))] [] (.slr 0 0 xs.length) [.vec 70 2 (dv (xs.map boD))] := by
  refine Does.of_AW (n := 8) Tryz.func131 rfl rfl rfl fun cx hcx => ?_
  refine AW.sreg rfl fun K hK => ?_; simp only [go_sem, ↓reduceIte]
  refine hK _ ?_; (try clear hK K)
  refine AW.seq_k fun K1 hK1 => ?_
  refine AW.seq_k fun K2 hK2 => ?_
  refine AW.nilCmp rfl rfl rfl rfl rfl rfl (by simp only [go_sem]; rfl) (by simp) (by simp) rfl (fun b hb => ?_)
  refine hK2 _ ?_
  refine AW.cond rfl (fun h => ?_) (fun h => ?_)
  · have h0 : xs = [] := by simpa using hb h
    subst h0
    repeat' (first | (refine AW.sreg rfl fun K hK => ?_; simp only [go_sem, ↓reduceIte, List.length_map]) | (refine hK _ ?_; clear hK K))
    refine AW.weak (Weak.nil 2 70 2 rfl) ?_
    exact AW.ret (Fin.objs [256] rfl (by simp [go_sem, inI, gI]) ⟨⟨_, rfl, by simp [go_sem, inI, gI]⟩, trivial⟩ (by simp) rfl (by simp [go_sem]) (by simp [go_sem]) rfl)
  · refine AW.skip (hK1 _ ?_)
    repeat' (first | (refine AW.sreg rfl fun K hK => ?_; simp only [go_sem, ↓reduceIte, List.length_map, all_ok_Bo]) | (refine hK _ ?_; clear hK K) | (with_reducible refine andI ?_))
    exact AW.ret (Fin.objs [320] rfl (by simp [go_sem, inI, gI]) ⟨⟨_, rfl, by simp [go_sem, inI, gI]⟩, trivial⟩ (by simp) rfl (by simp [go_sem]) (by simp [go_sem]) rfl)

theorem all_ok_Pl (xs : List Pl) : (dv (xs.map plD)).all (elemOk 2) = true := by
  simp only [dv, List.map_map, List.all_eq_true, List.mem_map, Function.comp_apply, forall_exists_index, and_imp, forall_apply_eq_imp_iff₂]
  intro x _
  rfl
theorem clone_Pl (xs : List Pl) (hl : xs.length ≤ 1000) : Does Tryz.prog 128 [.d (.sl (xs.map plD))] [] (.slr 0 0 xs.length) [.vec 60 2 (dv (xs.map plD))] := by
  refine Does.of_AW (n := 8) Tryz.func128 rfl rfl rfl fun cx hcx => ?_
  refine AW.sreg rfl fun K hK => ?_; simp only [go_sem, ↓reduceIte]
  refine hK _ ?_; (try clear hK K)
  refine AW.seq_k fun K1 hK1 => ?_
  refine AW.seq_k fun K2 hK2 => ?_
  refine AW.nilCmp rfl rfl rfl rfl rfl rfl (by simp only [go_sem]; rfl) (by simp) (by simp) rfl (fun b hb => ?_)
  refine hK2 _ ?_
  refine AW.cond rfl (fun h => ?_) (fun h => ?_)
  · have h0 : xs = [] := by simpa using hb h
    subst h0
    repeat' (first | (refine AW.sreg rfl fun K hK => ?_; simp only [go_sem, ↓reduceIte, List.length_map]) | (refine hK _ ?_; clear hK K))
    refine AW.weak (Weak.nil 2 60 2 rfl) ?_
    exact AW.ret (Fin.objs [256] rfl (by simp [go_sem, inI, gI]) ⟨⟨_, rfl, by simp [go_sem, inI, gI]⟩, trivial⟩ (by simp) rfl (by simp [go_sem]) (by simp [go_sem]) rfl)
  · refine AW.skip (hK1 _ ?_)
    repeat' (first | (refine AW.sreg rfl fun K hK => ?_; simp only [go_sem, ↓reduceIte, List.length_map, all_ok_Pl]) | (refine hK _ ?_; clear hK K) | (with_reducible refine andI ?_))
    exact AW.ret (Fin.objs [320] rfl (by simp [go_sem, inI, gI]) ⟨⟨_, rfl, by simp [go_sem, inI, gI]⟩, trivial⟩ (by simp) rfl (by simp [go_sem]) (by simp [go_sem]) rfl)

end Go.AX

namespace Go.AX
open Go Go.Proofs Go.RowKit
theorem sortHmP (xs : List Hm) (hl : xs.length ≤ 12) :
    Does Tryz.prog 84 [.slr 0 0 xs.length, .fn 135 []] [.vec 98 3 (dv (xs.map hmD))] (.tup []) [.vec 98 3 (dv ((isort (fun a b => decide (cpH a b < 0)) xs).map hmD))] := by
  obtain ⟨ys, hy, hyl⟩ := exists_sub (p := fun _ : Hm => True) xs (fun _ _ => trivial)
  exact sortFunc_HmP (fun a b => decide (cpH a b < 0)) cpH (fun _ _ => rfl) 135 compareHomes_any xs hl
theorem homesOf_own (xs : List Hm) (hl : xs.length ≤ 12) : Does Tryz.prog 67 [.slr 0 0 xs.length] [.vec 98 3 (dv (xs.map hmD))] (.slr 1 0 (srtC cpH xs).length) [.vec 98 3 (dv (xs.map hmD)), .vec 98 3 (dv ((srtC cpH xs).map hmD ++ List.replicate (xs.length - (srtC cpH xs).length) (hmD ([], 0, 0))))] := by
  have c1 := cloneO_Hm xs (by omega)
  have c2 := sortHmP xs hl
  have hil := (isort_perm (fun a b => decide (cpH a b < 0)) xs).length_eq
  have c3 := compact_Hm (isort (fun a b => decide (cpH a b < 0)) xs) (by omega)
  rw [hil] at c3
  refine Does.of_AW (n := 9) Tryz.func67 rfl rfl rfl fun cx hcx => ?_
  repeat' (first | ((first | refine AW.sreg rfl fun K hK => ?_ | refine run_call _ _ _ ((c1).objA [_]) rfl rfl (dstOk_of rfl) rfl rfl rfl ?_ | refine run_call _ _ _ ((c2).objA [_]) rfl rfl (dstOk_of rfl) rfl rfl rfl ?_ | refine run_call _ _ _ ((c3).objA [_]) rfl rfl (dstOk_of rfl) rfl rfl rfl ?_); simp only [go_sem, ↓reduceIte, Nat.reduceSub, Nat.add_zero]) | (refine hK _ ?_; clear hK K))
  exact AW.ret (Fin.objs [0, 192] rfl (by simp [go_sem, inI, gI, srtC]) ⟨⟨_, rfl, by simp [go_sem, inI, gI]⟩, ⟨_, rfl, by simp [go_sem, inI, gI, srtC]⟩, trivial⟩ (by simp) rfl (by simp [go_sem]) (by simp [go_sem]) rfl)
/-- A person is copied: four lists of one's own. -/
theorem clonePerson_own (p : Pe) (h : p.names.length ≤ 1000 ∧ p.homes.length ≤ 1000 ∧ p.mails.length ≤ 1000 ∧ p.advs.length ≤ 1000) :
    Does Tryz.prog 132 [.d (peD p)] [] (.agg [S p.key, .slr 0 0 p.names.length, .slr 1 0 p.homes.length, .slr 2 0 p.mails.length, .slr 3 0 p.advs.length]) [.vec 63 2 (dv (p.names.map nmD)), .vec 98 3 (dv (p.homes.map hmD)), .vec 9 1 (dv (p.mails.map D.str)), .vec 9 1 (dv (p.advs.map D.str))] := by
  have c1 := clone_Nm p.names h.1
  have c2 := clone_Hm p.homes h.2.1
  have c3 := clone_St p.mails h.2.2.1
  have c4 := clone_St p.advs h.2.2.2
  obtain ⟨key, ns, hs, ms, ads⟩ := p
  simp only at c1 c2 c3 c4 ⊢
  refine Does.of_AW (n := 20) Tryz.func132 rfl rfl rfl fun cx hcx => ?_
  repeat' (first | ((first | refine AW.sreg rfl fun K hK => ?_ | refine AW.sregD hmix rfl fun K hK => ?_ | refine runT_call _ _ [] (fun hv _ => (c1).objs [] trivial rfl (by decide) (by simp [go_sem, renOs]) (by simp) (by simp) (by simp [go_sem]) (by simp [go_sem]) (by simp [go_sem]) (by simp [go_sem])) rfl rfl (dstOk_of rfl) rfl rfl ?_ | refine runT_call _ _ [] (fun hv _ => (c2).objs [] trivial rfl (by decide) (by simp [go_sem, renOs]) (by simp) (by simp) (by simp [go_sem]) (by simp [go_sem]) (by simp [go_sem]) (by simp [go_sem])) rfl rfl (dstOk_of rfl) rfl rfl ?_ | refine runT_call _ _ [] (fun hv _ => (c3).objs [] trivial rfl (by decide) (by simp [go_sem, renOs]) (by simp) (by simp) (by simp [go_sem]) (by simp [go_sem]) (by simp [go_sem]) (by simp [go_sem])) rfl rfl (dstOk_of rfl) rfl rfl ?_ | refine runT_call _ _ [] (fun hv _ => (c4).objs [] trivial rfl (by decide) (by simp [go_sem, renOs]) (by simp) (by simp) (by simp [go_sem]) (by simp [go_sem]) (by simp [go_sem]) (by simp [go_sem])) rfl rfl (dstOk_of rfl) rfl rfl ?_); simp only [go_sem, ↓reduceIte, Nat.reduceSub, Nat.add_zero]) | (refine hK _ ?_; clear hK K) | (with_reducible refine And.intro (?_ : regOk _ _ = true) ?_; kernel_rfl))
  exact AW.ret (Fin.objs [256, 448, 640, 832] rfl rfl ⟨⟨_, rfl, by simp [go_sem, inI, gI]⟩, ⟨_, rfl, by simp [go_sem, inI, gI]⟩, ⟨_, rfl, by simp [go_sem, inI, gI]⟩, ⟨_, rfl, by simp [go_sem, inI, gI]⟩, trivial⟩ (by simp) rfl (by simp [go_sem]) (by simp [go_sem]) rfl)
theorem set_same {α : Type} {l : List α} {i : Nat} {x : α} (h : l[i]? = some x) : l.set i x = l := by
  obtain ⟨h4, h5⟩ := List.getElem?_eq_some_iff.1 h
  rw [← h5]
  exact List.set_getElem_self h4
end Go.AX

namespace Go.AX
open Go Go.Proofs Go.RowKit
end Go.AX
