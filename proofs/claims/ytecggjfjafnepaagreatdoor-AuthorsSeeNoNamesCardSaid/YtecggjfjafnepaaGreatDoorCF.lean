/- Reviews: the reference's faults of answers. -/
import Derived.Test.YtecggjfjafnepaaGreatDoorCE
set_option linter.unusedSimpArgs false
set_option linter.unusedVariables false
set_option linter.unnecessarySimpa false
set_option maxRecDepth 1000000
set_option maxHeartbeats 4000000
namespace Go.AX
open Go Go.Proofs Go.RowKit
theorem textR_eq (s : Str) : textR s = textB s := by
 unfold textR textB
 congr 2
 rcases List.eq_nil_or_concat s with rfl | ⟨r, c, rfl⟩
 ·rfl
 ·rw [List.concat_eq_append]
  have e : endN (r ++ [c]) = sufN (r ++ [c]) := by
   unfold endN sufN
   by_cases h : c = 10
   ·subst h; simp
   ·have h2 : ¬ c.toNat = 10 := fun e => h (UInt8.toNat_inj.1 e)
    simp [h, h2]
    rw [beq_eq_false_iff_ne.2 h2, beq_eq_false_iff_ne.2 h]
  rw [e]
theorem answerFaultR_any {q : Qu} (hq : QuOk q) {a : An} (hb : AnB a) : Does Tryz.prog 204 [.d (quD q), .d (anD a)] [] (I (anF q a)) [] := by
 obtain ⟨k, kd, mo, op, nd, sc⟩ := q
 obtain ⟨ak, an, ao, aw⟩ := a
 obtain ⟨b1, b2, b3⟩ := hb
 unfold QuOk at hq
 dsimp only at hq b1 b2 b3
 have ht := isTextR_any aw (by omega)
 rw [textR_eq] at ht
 refine Does.of_AW (n := 73) Tryz.func204 rfl rfl rfl fun cx hcx => ?_
 generalize hF : anF (k, kd, mo, op, nd, sc) (ak, an, ao, aw) = F
 have eo : ∀ s : Str, (([] : Str) == s) = (s == []) := fun s => by cases s <;> rfl
 have en : (0 == an) = (an == 0) := by
  by_cases h : an = 0
  ·subst h; rfl
  ·rw [beq_eq_false_iff_ne.2 h, beq_eq_false_iff_ne.2 (fun e => h e.symm)]
 rcases hq with ⟨rfl, ⟨h1, h2⟩, rfl⟩ | ⟨rfl, ⟨h1, h2⟩, rfl⟩ | ⟨rfl, rfl, rfl⟩
 ·have ho := inR_any an 0 mo
  have e : (decide (an < 0) || decide (mo < an)) = !(decide (0 ≤ an) && decide (an ≤ mo)) := by
   rw [Bool.eq_iff_iff]; simp
  simp only [anF, reduceIte, e, eo, en] at hF
  generalize (decide (0 ≤ an) && decide (an ≤ mo)) = o at hF ho
  repeat' (first | ((first | refine AW.sreg rfl fun K hK => ?_ | refine AW.reg rfl ?_ | refine run_call _ _ _ ((ho).pure rfl rfl _ _) rfl rfl (dstOk_of rfl) rfl rfl rfl ?_); simp only [go_sem, ↓reduceIte]) | (refine AW.seq_k fun K hK => ?_) | (refine AW.block ?_) | (refine AW.skip ?_; simp only [Then, InBlock]) | (refine AW.cT ?_) | (refine AW.cF ?_) | (refine AW.cond rfl (fun h => ?_) (fun h => ?_) <;> (try simp only [decide_eq_true_eq, decide_eq_false_iff_not, Bool.not_eq_true', Bool.not_eq_false', Bool.not_eq_eq_eq_not, Bool.not_true, Bool.not_false, beq_iff_eq, bne_iff_ne, beq_eq_false_iff_ne, ne_eq, Bool.and_eq_true, Bool.or_eq_true, Bool.or_eq_false_iff] at h)) | (refine hK _ ?_; clear hK K) | (refine AW.ret (Fin.data rfl (by first | (simp only [go_sem]; done) | ((simp only [go_sem]; simp_all); done) | (simp [go_sem]; omega) | rfl) rfl)))
 ·simp only [anF, Int.reduceEq, reduceIte, eo, en] at hF
  generalize textB aw = b at hF ht
  repeat' (first | ((first | refine AW.sreg rfl fun K hK => ?_ | refine AW.reg rfl ?_ | refine run_call _ _ _ ((ht).pure rfl rfl _ _) rfl rfl (dstOk_of rfl) rfl rfl rfl ?_); simp only [go_sem, ↓reduceIte]) | (refine AW.seq_k fun K hK => ?_) | (refine AW.block ?_) | (refine AW.skip ?_; simp only [Then, InBlock]) | (refine AW.cT ?_) | (refine AW.cF ?_) | (refine AW.cond rfl (fun h => ?_) (fun h => ?_) <;> (try simp only [decide_eq_true_eq, decide_eq_false_iff_not, Bool.not_eq_true', Bool.not_eq_false', Bool.not_eq_eq_eq_not, Bool.not_true, Bool.not_false, beq_iff_eq, bne_iff_ne, beq_eq_false_iff_ne, ne_eq, Bool.and_eq_true, Bool.or_eq_true, Bool.or_eq_false_iff] at h)) | (refine hK _ ?_; clear hK K) | (refine stepB_split (fun h => ?_) (fun h => ?_) <;> (have hb0 := h) <;> (try simp only [Bool.not_eq_true', Bool.not_eq_false'] at hb0) <;> (try simp only [decide_eq_true_eq, decide_eq_false_iff_not, Bool.not_eq_true', Bool.not_eq_false', Bool.not_eq_eq_eq_not, Bool.not_true, Bool.not_false, beq_iff_eq, bne_iff_ne, beq_eq_false_iff_ne, ne_eq, Bool.and_eq_true, Bool.or_eq_true, Bool.or_eq_false_iff] at h) <;> simp only [go_sem, ↓reduceIte, hb0, h, decide_true, decide_false] <;> (try clear hb0)) | (refine AW.ret (Fin.data rfl (by first | (simp only [go_sem]; done) | ((simp only [go_sem]; simp_all); done) | (simp [go_sem]; omega) | rfl) rfl)))
 ·simp only [anF, Int.reduceEq, reduceIte, eo, en] at hF
  have hc := contains_St O3 (by decide) ao
  generalize (O3.any fun x => ao == x) = b at hF hc
  repeat' (first | ((first | refine AW.sreg rfl fun K hK => ?_ | refine AW.reg rfl ?_ | refine run_call _ _ _ ((hc).pure rfl rfl _ _) rfl rfl (dstOk_of rfl) rfl rfl rfl ?_); simp only [go_sem, ↓reduceIte, O3]) | (refine AW.seq_k fun K hK => ?_) | (refine AW.block ?_) | (refine AW.skip ?_; simp only [Then, InBlock]) | (refine AW.cT ?_) | (refine AW.cF ?_) | (refine AW.cond rfl (fun h => ?_) (fun h => ?_) <;> (try simp only [decide_eq_true_eq, decide_eq_false_iff_not, Bool.not_eq_true', Bool.not_eq_false', Bool.not_eq_eq_eq_not, Bool.not_true, Bool.not_false, beq_iff_eq, bne_iff_ne, beq_eq_false_iff_ne, ne_eq, Bool.and_eq_true, Bool.or_eq_true, Bool.or_eq_false_iff] at h)) | (refine hK _ ?_; clear hK K) | (refine AW.ret (Fin.data rfl (by first | (simp only [go_sem]; done) | ((simp only [go_sem]; simp_all); done) | (simp [go_sem]; omega) | rfl) rfl)))
theorem answersFaultR_any {sh : List Qu} (h : ShR sh) (l : List An) (hl : l.length ≤ 30) (hb : ∀ a ∈ l, AnB a) :
  Does Tryz.prog 151 [.d (.sl (sh.map quD)), .d (.sl (l.map anD))] [] (I (asF sh (-1) l)) [] := by
 have hsl := h.len
 refine Does.of_AW (n := 41) Tryz.func151 rfl rfl rfl fun cx hcx => ?_
 generalize hR : asF sh (-1) l = R
 have h30 : decide ((30 : Int) < (l.length : Int)) = false := by simp; omega
 repeat' (first | (refine AW.sreg rfl fun K hK => ?_; simp only [go_sem, ↓reduceIte, List.length_map, h30]) | (refine AW.seq_k fun K hK => ?_) | (refine AW.block ?_) | (refine AW.skip ?_; simp only [Then, InBlock]) | (refine AW.cF ?_) | (refine hK _ ?_; clear hK K))
 refine AW.loopF (ι := Nat × Int) [0, 13, 14] (fun p => [(15, I p.1), (5, I p.2)]) (fun p => []) 10 (fun p => p.1 ≤ l.length ∧ asF sh p.2 (l.drop p.1) = R) (fun p => l.length - p.1) (0, -1) ⟨by simp, hR⟩ (Weak.aC hcx (by refine ⟨?_, ?_, ?_⟩ <;> simp [go_sem, gL, kL, renOf, V.obj, Nat.blt, Nat.ble, List.map_append, dv_push])) ?_; simp only [St.at_nil, St.at_cons, lk, Nat.reduceEqDiff, ↓reduceIte, Option.getD_some, Option.getD_none, List.cons_append, List.nil_append, List.append_nil]
 rintro ⟨i, la⟩ ⟨h1, h2⟩
 dsimp only at h1 h2 ⊢
 by_cases hi : i < l.length
 ·obtain ⟨x, hx, hxm, hxd⟩ := get_some hi
  have hget : (l.map anD)[i]? = some (anD x) := by simp only [List.getElem?_map, hx, Option.map_some]
  have hpl := qAt_any sh (by omega) x.1
  rw [hxd, asF] at h2
  by_cases c1 : plF sh x.1 < 0
  ·rw [if_pos c1] at h2
   subst h2
   repeat' (first | ((first | refine AW.sreg rfl fun K hK => ?_ | refine run_call _ _ _ ((hpl).pure rfl rfl _ _) rfl rfl (dstOk_of rfl) rfl rfl rfl ?_); simp only [go_sem, ↓reduceIte, List.length_map, hget, c1]) | (refine AW.seq_k fun K hK => ?_) | (refine AW.block ?_) | (refine AW.skip ?_; simp only [Then, InBlock]) | (refine AW.cT ?_) | (refine hK _ ?_; clear hK K) | (with_reducible refine andI ?_) | (refine AW.ret (Fin.data rfl (by first | (simp only [go_sem]; done) | (simp [go_sem, *]; done) | (simp [go_sem]; omega) | rfl) rfl)))
  ·rw [if_neg c1] at h2
   by_cases c2 : plF sh x.1 ≤ la
   ·rw [if_pos c2] at h2
    subst h2
    repeat' (first | ((first | refine AW.sreg rfl fun K hK => ?_ | refine run_call _ _ _ ((hpl).pure rfl rfl _ _) rfl rfl (dstOk_of rfl) rfl rfl rfl ?_); simp only [go_sem, ↓reduceIte, List.length_map, hget, c1, c2]) | (refine AW.seq_k fun K hK => ?_) | (refine AW.block ?_) | (refine AW.skip ?_; simp only [Then, InBlock]) | (refine AW.cT ?_) | (refine AW.cF ?_) | (refine hK _ ?_; clear hK K) | (with_reducible refine andI ?_) | (refine AW.ret (Fin.data rfl (by first | (simp only [go_sem]; done) | (simp [go_sem, *]; done) | (simp [go_sem]; omega) | rfl) rfl)))
   ·rw [if_neg c2] at h2
    obtain ⟨q, hq, hqm, -⟩ := plF_get c1
    rw [hq] at h2
    dsimp only at h2
    have hq2 : (sh.map quD)[(plF sh x.1).toNat]? = some (quD q) := by simp only [List.getElem?_map, hq, Option.map_some]
    have ha := answerFaultR_any (h.ok q hqm) (hb x hxm)
    have hnn : 0 ≤ plF sh x.1 := by omega
    generalize plF sh x.1 = k at *
    generalize anF q x = F at *
    by_cases c3 : F = 0
    ·subst c3
     rw [if_neg (by simp)] at h2
     repeat' (first | ((first | refine AW.sreg rfl fun K hK => ?_ | refine AW.sregD hmix rfl fun K hK => ?_ | refine AW.reg rfl ?_ | refine run_call _ _ _ ((hpl).pure rfl rfl _ _) rfl rfl (dstOk_of rfl) rfl rfl rfl ?_ | refine runT_call _ _ [] (fun hv _ => (ha).pure rfl rfl hv _) rfl rfl (dstOk_of rfl) rfl rfl ?_); simp only [go_sem, ↓reduceIte, List.length_map, hget, c1, c2, hq2]) | (refine AW.seq_k fun K hK => ?_) | (refine AW.block ?_) | (refine AW.skip ?_; simp only [Then, InBlock]) | (refine AW.cT ?_) | (refine AW.cF ?_) | (refine hK _ ?_; clear hK K) | (with_reducible refine And.intro (?_ : regOk _ _ = true) ?_; kernel_rfl) | (with_reducible refine andI ?_))
     exact ⟨(i + 1, k), ⟨hi, h2⟩, by simp only; omega, (Weak.aC hcx (by refine ⟨?_, ?_, ?_⟩ <;> simp [go_sem, gL, kL, renOf, V.obj, Nat.blt, Nat.ble, List.map_append, dv_push]))⟩
    ·rw [if_pos c3] at h2
     subst h2
     have c4 : (F != 0) = true := by simpa using c3
     repeat' (first | ((first | refine AW.sreg rfl fun K hK => ?_ | refine AW.sregD hmix rfl fun K hK => ?_ | refine run_call _ _ _ ((hpl).pure rfl rfl _ _) rfl rfl (dstOk_of rfl) rfl rfl rfl ?_ | refine runT_call _ _ [] (fun hv _ => (ha).pure rfl rfl hv _) rfl rfl (dstOk_of rfl) rfl rfl ?_); simp only [go_sem, ↓reduceIte, List.length_map, hget, c1, c2, hq2, c4]) | (refine AW.seq_k fun K hK => ?_) | (refine AW.block ?_) | (refine AW.skip ?_; simp only [Then, InBlock]) | (refine AW.cT ?_) | (refine AW.cF ?_) | (refine hK _ ?_; clear hK K) | (with_reducible refine And.intro (?_ : regOk _ _ = true) ?_; kernel_rfl) | (with_reducible refine andI ?_) | (refine AW.ret (Fin.data rfl (by first | (simp only [go_sem]; done) | (simp [go_sem, *]; done) | (simp [go_sem]; omega) | rfl) rfl)))
 ·obtain rfl : i = l.length := by omega
  simp only [List.drop_length, asF] at h2
  subst h2
  repeat' (first | (refine AW.sreg rfl fun K hK => ?_; simp only [go_sem, ↓reduceIte, List.length_map]) | (refine AW.seq_k fun K hK => ?_) | (refine AW.exit ?_; simp only [go_sem, ↓reduceIte]) | (refine AW.cF ?_) | (refine hK _ ?_; clear hK K) | (clear hK K; refine hK _ ?_; clear hK K) | (refine AW.ret (Fin.data rfl (by first | (simp only [go_sem]; done) | (simp [go_sem, *]; done) | (simp [go_sem]; omega) | rfl) rfl)))
theorem answered1_any (x : An) (k : Str) : Does Tryz.prog 250 [.d (anD x), .d (.ptr [.str k] 0)] [] (B (x.1 == k)) [] := by
 refine Does.of_AW (n := 8) Tryz.func250 rfl rfl rfl fun cx hcx => ?_
 repeat' (first | (refine AW.sreg rfl fun K hK => ?_; simp only [go_sem, ↓reduceIte]) | (refine hK _ ?_; clear hK K) | (refine AW.ret (Fin.data rfl (by first | (simp only [go_sem]; done) | (simp [go_sem, *]; done) | (simp [go_sem]; omega) | rfl) rfl)))
theorem answered_any (l : List An) (hl : l.length ≤ 1000) (k : Str) : Does Tryz.prog 205 [.d (.sl (l.map anD)), S k] [] (B (hasF l k)) [] := by
 have hx := containsFunc_An l hl 250 (.ptr [.str k] 0) (fun x => x.1 == k) (fun x _ => answered1_any x k)
 refine Does.of_AW (n := 8) Tryz.func205 rfl rfl rfl fun cx hcx => ?_
 repeat' (first | ((first | refine AW.sreg rfl fun K hK => ?_ | refine run_call _ _ _ ((hx).lend (by repeat' (first | exact frzL_nil | refine frzL_cons (by first | exact frz_d | exact frz_slr rfl rfl (by first | (simp; done) | (simp; omega) | (simp [*]; done) | fail) | rfl) ?_)) rfl rfl rfl) rfl rfl (dstOk_of rfl) rfl rfl rfl ?_); simp only [go_sem, ↓reduceIte]) | (refine hK _ ?_; clear hK K) | (refine AW.ret (Fin.data rfl (by first | (simp only [go_sem]; done) | (simp [go_sem, *]; done) | (simp [go_sem]; omega) | rfl) rfl)))
theorem missingOf_any (sh : List Qu) (hs : sh.length ≤ 1000) (l : List An) (hl : l.length ≤ 1000) :
  Does Tryz.prog 152 [.d (.sl (sh.map quD)), .d (.sl (l.map anD))] [] (.d (.sl ((miF sh l).map D.str))) [] := by
 refine Does.of_AW (n := 30) Tryz.func152 rfl rfl rfl fun cx hcx => ?_
 repeat' (first | (refine AW.sreg rfl fun K hK => ?_; simp only [go_sem, ↓reduceIte, List.length_map]) | (refine AW.seq_k fun K hK => ?_) | (refine AW.block ?_) | (refine hK _ ?_; clear hK K))
 refine AW.weak (Weak.nil 5 9 1 rfl) ?_
 refine AW.loopF (ι := Nat) [1, 8, 9] (fun p => [(10, I p), (5, .slr 192 0 (miF (sh.take p) l).length)]) (fun p => [(192, some (O.vec 9 1 (dv ((miF (sh.take p) l).map D.str))))]) 12 (fun p => p ≤ sh.length) (fun p => sh.length - p) 0 (Nat.zero_le _) (Weak.aC hcx (by refine ⟨?_, ?_, ?_⟩ <;> simp [go_sem, gL, kL, renOf, V.obj, Nat.blt, Nat.ble, List.map_append, dv_push, miF, dv])) ?_; simp only [St.at_nil, St.at_cons, lk, Nat.reduceEqDiff, ↓reduceIte, Option.getD_some, Option.getD_none, List.cons_append, List.nil_append, List.append_nil]
 intro i h1
 by_cases hi : i < sh.length
 ·obtain ⟨x, hx, hxm, hxd⟩ := get_some hi
  have hget : (sh.map quD)[i]? = some (quD x) := by simp only [List.getElem?_map, hx, Option.map_some]
  have hh := answered_any l hl x.1
  have ht : sh.take (i + 1) = sh.take i ++ [x] := by rw [List.take_add_one, hx]; rfl
  have hm : (miF (sh.take i) l).length ≤ 1000 := by
   simp only [miF, List.length_map]
   exact Nat.le_trans (List.length_filter_le _ _) (by simp; omega)
  cases hn : x.2.2.2.2.1 with
  | false =>
   have e : miF (sh.take (i + 1)) l = miF (sh.take i) l := by rw [ht]; simp [miF, List.filter_append, hn]
   repeat' (first | ((first | refine AW.sreg rfl fun K hK => ?_ | refine AW.reg rfl ?_); simp only [go_sem, ↓reduceIte, List.length_map, hget, hn]) | (refine AW.seq_k fun K hK => ?_) | (refine AW.block ?_) | (refine AW.skip ?_; simp only [Then, InBlock]) | (refine AW.cT ?_) | (refine AW.cF ?_) | (refine hK _ ?_; clear hK K) | (with_reducible refine andI ?_))
   exact ⟨i + 1, hi, by omega, (Weak.aC hcx (by refine ⟨?_, ?_, ?_⟩ <;> simp [go_sem, gL, kL, renOf, V.obj, Nat.blt, Nat.ble, List.map_append, dv_push, e]))⟩
  | true =>
   generalize hH : hasF l x.1 = H at hh
   cases H with
   | true =>
    have e : miF (sh.take (i + 1)) l = miF (sh.take i) l := by rw [ht]; simp [miF, List.filter_append, hn, hH]
    repeat' (first | ((first | refine AW.sreg rfl fun K hK => ?_ | refine AW.reg rfl ?_ | refine run_call _ _ _ ((hh).pure rfl rfl _ _) rfl rfl (dstOk_of rfl) rfl rfl rfl ?_); simp only [go_sem, ↓reduceIte, List.length_map, hget, hn]) | (refine AW.seq_k fun K hK => ?_) | (refine AW.block ?_) | (refine AW.skip ?_; simp only [Then, InBlock]) | (refine AW.cT ?_) | (refine AW.cF ?_) | (refine hK _ ?_; clear hK K) | (with_reducible refine andI ?_))
    exact ⟨i + 1, hi, by omega, (Weak.aC hcx (by refine ⟨?_, ?_, ?_⟩ <;> simp [go_sem, gL, kL, renOf, V.obj, Nat.blt, Nat.ble, List.map_append, dv_push, e]))⟩
   | false =>
    have e : miF (sh.take (i + 1)) l = miF (sh.take i) l ++ [x.1] := by rw [ht]; simp [miF, List.filter_append, hn, hH]
    repeat' (first | ((first | refine AW.sreg rfl fun K hK => ?_ | refine AW.reg rfl ?_ | refine run_call _ _ _ ((hh).pure rfl rfl _ _) rfl rfl (dstOk_of rfl) rfl rfl rfl ?_); simp only [go_sem, ↓reduceIte, List.length_map, hget, hn]) | (refine AW.seq_k fun K hK => ?_) | (refine AW.block ?_) | (refine AW.skip ?_; simp only [Then, InBlock]) | (refine AW.cT ?_) | (refine hK _ ?_; clear hK K) | (with_reducible refine andI ?_))
    exact ⟨i + 1, hi, by omega, (Weak.aC hcx (by refine ⟨?_, ?_, ?_⟩ <;> simp [go_sem, gL, kL, renOf, V.obj, Nat.blt, Nat.ble, List.map_append, dv_push, e]))⟩
 ·obtain rfl : i = sh.length := by omega
  rw [List.take_length]
  repeat' (first | (refine AW.sreg rfl fun K hK => ?_; simp only [go_sem, ↓reduceIte, List.length_map]) | (refine AW.seq_k fun K hK => ?_) | (refine AW.exit ?_; simp only [go_sem, ↓reduceIte]) | (refine AW.cF ?_) | (refine hK _ ?_; clear hK K) | (clear hK K; refine hK _ ?_; clear hK K))
  exact AW.ret (Fin.data rfl ((frz_slr rfl rfl (by simp)).trans (by simp [go_sem])) rfl)
end Go.AX

namespace Go.AX
open Go Go.Proofs Go.RowKit
theorem indexFunc_Pa (xs : List Pa) (hl : xs.length ≤ 1000) (c : Nat) (cap : D) (q : Pa → Bool) (hc : ∀ x ∈ xs, Does Tryz.prog c [.d (paD x), .d cap] [] (B (q x)) []) :
  Does Tryz.prog 202 [.d (.sl (xs.map paD)), .fn c [.d cap]] [] (I (idxG q xs 0)) [] := by
 refine Does.of_AW (n := 19) Tryz.func202 rfl rfl rfl fun cx hcx => ?_
 generalize hR : idxG q xs 0 = R
 repeat' (first | (refine AW.sreg rfl fun K hK => ?_; simp only [go_sem, ↓reduceIte, List.length_map]) | (refine AW.seq_k fun K hK => ?_) | (refine AW.block ?_) | (refine hK _ ?_; clear hK K))
 refine AW.loopF (ι := Nat) [0, 1, 7] (fun p => [(8, I p)]) (fun p => []) 1 (fun p => p ≤ xs.length ∧ idxG q (xs.drop p) p = R) (fun p => xs.length - p) 0 ⟨by simp, hR⟩ (Weak.aC hcx (by refine ⟨?_, ?_, ?_⟩ <;> simp [go_sem, gL, kL, renOf, V.obj, Nat.blt, Nat.ble, List.map_append, dv_push])) ?_; simp only [St.at_nil, St.at_cons, lk, Nat.reduceEqDiff, ↓reduceIte, Option.getD_some, Option.getD_none, List.cons_append, List.nil_append, List.append_nil]
 rintro i ⟨h1, h2⟩
 by_cases hi : i < xs.length
 ·obtain ⟨x, hx, hxm, hxd⟩ := get_some hi
  have hget : (xs.map paD)[i]? = some (paD x) := by simp [hx]
  rw [hxd, idxG] at h2
  repeat' (first | ((first | refine AW.sreg rfl fun K hK => ?_ | refine AW.reg rfl ?_ | refine run_call _ _ _ ((hc x hxm).pure rfl rfl _ _) rfl rfl (dstOk_of rfl) rfl rfl rfl ?_); simp only [go_sem, ↓reduceIte, List.length_map, hget]) | (refine AW.seq_k fun K hK => ?_) | (refine AW.block ?_) | (refine AW.skip ?_; simp only [Then, InBlock]) | (refine AW.cT ?_) | (refine AW.cond rfl (fun h => ?_) (fun h => ?_) <;> (try simp only [decide_eq_true_eq, decide_eq_false_iff_not, Bool.not_eq_true', Bool.not_eq_false', Bool.not_eq_eq_eq_not, Bool.not_true, Bool.not_false, beq_iff_eq, bne_iff_ne, beq_eq_false_iff_ne, ne_eq, Bool.and_eq_true, Bool.or_eq_true, Bool.or_eq_false_iff] at h)) | (refine hK _ ?_; clear hK K) | (with_reducible refine andI ?_) | (refine AW.ret (Fin.data rfl (by first | (simp only [go_sem]; done) | ((rw [if_pos h] at h2; subst h2; simp [go_sem]); done) | (simp [go_sem]; omega) | rfl) rfl)))
  rw [if_neg (by simp [h])] at h2
  exact ⟨i + 1, ⟨hi, h2⟩, by omega, (Weak.aC hcx (by refine ⟨?_, ?_, ?_⟩ <;> simp [go_sem, gL, kL, renOf, V.obj, Nat.blt, Nat.ble, List.map_append, dv_push]))⟩
 ·obtain rfl : i = xs.length := by omega
  simp only [List.drop_length, idxG] at h2
  subst h2
  repeat' (first | (refine AW.sreg rfl fun K hK => ?_; simp only [go_sem, ↓reduceIte, List.length_map]) | (refine AW.seq_k fun K hK => ?_) | (refine AW.exit ?_; simp only [go_sem, ↓reduceIte]) | (refine AW.cF ?_) | (refine hK _ ?_; clear hK K) | (clear hK K; refine hK _ ?_; clear hK K) | (refine AW.ret (Fin.data rfl (by first | (simp only [go_sem]; done) | (simp [go_sem, *]; done) | (simp [go_sem]; omega) | rfl) rfl)))
theorem paperAt1_any (x : Pa) (k : Str) : Does Tryz.prog 203 [.d (paD x), .d (.ptr [.str k] 0)] [] (B (x.1 == k)) [] := by
 refine Does.of_AW (n := 8) Tryz.func203 rfl rfl rfl fun cx hcx => ?_
 repeat' (first | (refine AW.sreg rfl fun K hK => ?_; simp only [go_sem, ↓reduceIte]) | (refine hK _ ?_; clear hK K) | (refine AW.ret (Fin.data rfl (by first | (simp only [go_sem]; done) | (simp [go_sem, *]; done) | (simp [go_sem]; omega) | rfl) rfl)))
/-- Where a paper is. -/
def paAt (l : List Pa) (k : Str) : Int := idxG (fun p => p.1 == k) l 0
theorem paperAt_any (l : List Pa) (hl : l.length ≤ 1000) (k : Str) : Does Tryz.prog 148 [.d (.sl (l.map paD)), S k] [] (I (paAt l k)) [] := by
 have hx := indexFunc_Pa l hl 203 (.ptr [.str k] 0) (fun x => x.1 == k) (fun x _ => paperAt1_any x k)
 refine Does.of_AW (n := 8) Tryz.func148 rfl rfl rfl fun cx hcx => ?_
 repeat' (first | ((first | refine AW.sreg rfl fun K hK => ?_ | refine run_call _ _ _ ((hx).lend (by repeat' (first | exact frzL_nil | refine frzL_cons (by first | exact frz_d | exact frz_slr rfl rfl (by first | (simp; done) | (simp; omega) | (simp [*]; done) | fail) | rfl) ?_)) rfl rfl rfl) rfl rfl (dstOk_of rfl) rfl rfl rfl ?_); simp only [go_sem, ↓reduceIte]) | (refine hK _ ?_; clear hK K) | (refine AW.ret (Fin.data rfl (by first | (simp only [go_sem]; done) | (simp [go_sem, *]; done) | (simp [go_sem]; omega) | rfl) rfl)))
theorem paAt_cases (l : List Pa) (k : Str) : (paAt l k = -1 ∧ pOf l k = none) ∨ ∃ (j : Nat) (p : Pa), paAt l k = (j : Int) ∧ l[j]? = some p ∧ pOf l k = some p := by
 cases ha : l.any (fun p => p.1 == k) with
 | false =>
  refine .inl ⟨idxG_none 0 ha, ?_⟩
  unfold pOf
  rw [List.find?_eq_none]
  intro x hx
  have := List.any_eq_false.1 ha x hx
  simpa using this
 | true =>
  obtain ⟨j, c, e, hj, hc, hn⟩ := idxG_at (q := fun p : Pa => p.1 == k) (l := l) 0 ha
  refine .inr ⟨j, c, by unfold paAt; rw [e, Nat.zero_add], hj, ?_⟩
  unfold pOf
  have hd : l = l.take j ++ c :: l.drop (j + 1) := by
   have hjl : j < l.length := (List.getElem?_eq_some_iff.1 hj).1
   rw [List.getElem?_eq_getElem hjl] at hj
   cases hj
   rw [← List.drop_eq_getElem_cons hjl, List.take_append_drop]
  rw [hd, List.find?_append]
  have h0 : (l.take j).find? (fun p => p.1 == k) = none := by
   rw [List.find?_eq_none]
   intro x hx
   simp [hn x hx]
  rw [h0]
  have hc2 : c.1 = k := by simpa using hc
  simp [hc2]
theorem author_any (l : List Pa) (hl : l.length ≤ 1000) (ha : ∀ p ∈ l, p.2.2.2.1.length ≤ 1000) (p : Pr) : Does Tryz.prog 149 [.d (.sl (l.map paD)), .d (prD p)] [] (B (auF l p.1 p.2)) [] := by
 have h1 := paperAt_any l hl p.1
 refine Does.of_AW (n := 22) Tryz.func149 rfl rfl rfl fun cx hcx => ?_
 unfold auF
 rcases paAt_cases l p.1 with ⟨e1, e2⟩ | ⟨j, q, e1, hj, e2⟩
 ·rw [e1] at h1
  rw [e2]
  repeat' (first | ((first | refine AW.sreg rfl fun K hK => ?_ | refine AW.sregD hmix rfl fun K hK => ?_ | refine run_call _ _ _ ((h1).pure rfl rfl _ _) rfl rfl (dstOk_of rfl) rfl rfl rfl ?_); simp only [go_sem, ↓reduceIte]) | (refine hK _ ?_; clear hK K) | (refine stepBT_split (fun h => ?_) (fun h => ?_) <;> (have hb0 := h) <;> (try simp only [Bool.not_eq_true', Bool.not_eq_false'] at hb0) <;> (try simp only [decide_eq_true_eq, decide_eq_false_iff_not, Bool.not_eq_true', Bool.not_eq_false', Bool.not_eq_eq_eq_not, Bool.not_true, Bool.not_false, beq_iff_eq, bne_iff_ne, beq_eq_false_iff_ne, ne_eq, Bool.and_eq_true, Bool.or_eq_true, Bool.or_eq_false_iff] at h) <;> simp only [go_sem, ↓reduceIte, hb0, h, decide_true, decide_false] <;> (try clear hb0)) | (with_reducible refine And.intro (?_ : regOk _ _ = true) ?_; kernel_rfl) | (refine AW.ret (Fin.data rfl (by first | (simp only [go_sem]; done) | (simp [go_sem, *]; done) | (simp [go_sem]; omega) | rfl) rfl)) | (exfalso; omega))
 ·rw [e1] at h1
  rw [e2]
  have h2 := contains_St q.2.2.2.1 (by have := ha q (List.mem_of_getElem? hj); omega) p.2
  have hget : (l.map paD)[j]? = some (paD q) := by simp only [List.getElem?_map, hj, Option.map_some]
  repeat' (first | ((first | refine AW.sreg rfl fun K hK => ?_ | refine AW.sregD hmix rfl fun K hK => ?_ | refine run_call _ _ _ ((h1).pure rfl rfl _ _) rfl rfl (dstOk_of rfl) rfl rfl rfl ?_ | refine runT_call _ _ [] (fun hv _ => (h2).pure rfl rfl hv _) rfl rfl (dstOk_of rfl) rfl rfl ?_); simp only [go_sem, ↓reduceIte, hget, Option.getD_some]) | (refine hK _ ?_; clear hK K) | (refine stepBT_split (fun h => ?_) (fun h => ?_) <;> (have hb0 := h) <;> (try simp only [Bool.not_eq_true', Bool.not_eq_false'] at hb0) <;> (try simp only [decide_eq_true_eq, decide_eq_false_iff_not, Bool.not_eq_true', Bool.not_eq_false', Bool.not_eq_eq_eq_not, Bool.not_true, Bool.not_false, beq_iff_eq, bne_iff_ne, beq_eq_false_iff_ne, ne_eq, Bool.and_eq_true, Bool.or_eq_true, Bool.or_eq_false_iff] at h) <;> simp only [go_sem, ↓reduceIte, hb0, h, decide_true, decide_false, hget, Option.getD_some] <;> (try clear hb0)) | (with_reducible refine And.intro (?_ : regOk _ _ = true) ?_; kernel_rfl) | (refine AW.ret (Fin.data rfl (by first | (simp only [go_sem]; done) | (simp [go_sem, *]; done) | (simp [go_sem]; omega) | rfl) rfl)))
abbrev suC (x : Su) : List D := [.sl (x.sheet.map quD), .sl (x.papers.map paD), .sl (x.pairs.map prD), .sl (x.barred.map prD), .sl (x.chairs.map .str), .int .i64 x.due, .int .i64 x.reply]
theorem sf1_any {x : Su} (h : SuR x) : Does Tryz.prog 144 [.d (.ptr (suC x) 0)] [] (I 0) [] := by
 have h := sheetFault_ok h.sheet
 refine Does.of_AW (n := 5) Tryz.func144 rfl rfl rfl fun cx hcx => ?_
 repeat' (first | ((first | refine AW.sreg rfl fun K hK => ?_ | refine run_call _ _ _ ((h).pure rfl rfl _ _) rfl rfl (dstOk_of rfl) rfl rfl rfl ?_); simp only [go_sem, ↓reduceIte]) | (refine hK _ ?_; clear hK K) | (refine AW.ret (Fin.data rfl (by first | (simp only [go_sem]; done) | (simp [go_sem, *]; done) | (simp [go_sem]; omega) | rfl) rfl)))
theorem sf2_any {x : Su} (h : SuR x) : Does Tryz.prog 146 [.d (.ptr (suC x) 0)] [] (I (goF pasF [] x.papers)) [] := by
 have h := paperForms_any x.papers (by have := h.plen; omega) h.papers
 refine Does.of_AW (n := 5) Tryz.func146 rfl rfl rfl fun cx hcx => ?_
 repeat' (first | ((first | refine AW.sreg rfl fun K hK => ?_ | refine run_call _ _ _ ((h).pure rfl rfl _ _) rfl rfl (dstOk_of rfl) rfl rfl rfl ?_); simp only [go_sem, ↓reduceIte]) | (refine hK _ ?_; clear hK K) | (refine AW.ret (Fin.data rfl (by first | (simp only [go_sem]; done) | (simp [go_sem, *]; done) | (simp [go_sem]; omega) | rfl) rfl)))
theorem first_su {x : Su} (h : SuR x) : Does Tryz.prog 143 [.slr 1 0 2] [.box 31 (suV x), .vec 211 1 [.fn 144 [.ptr 0 0], .fn 146 [.ptr 0 0]]] (I (goF pasF [] x.papers)) [.box 31 (suV x), .vec 211 1 [.fn 144 [.ptr 0 0], .fn 146 [.ptr 0 0]]] := by
 have h1 := sf1_any h
 have h2 := sf2_any h
 generalize goF pasF [] x.papers = e2 at *
 refine Does.of_AW (n := 18) Tryz.func143 rfl rfl rfl fun cx hcx => ?_
 repeat' (first | ((first | refine AW.sreg rfl fun K hK => ?_ | refine AW.reg rfl ?_ | refine run_call _ _ _ ((h1).borrow rfl rfl rfl) rfl rfl (dstOk_of rfl) rfl rfl rfl ?_ | refine run_call _ _ _ ((h2).borrow rfl rfl rfl) rfl rfl (dstOk_of rfl) rfl rfl rfl ?_); simp only [go_sem, ↓reduceIte, Int.zero_add, Int.reduceAdd]) | (refine AW.seq_k fun K hK => ?_) | (refine AW.block ?_) | (refine AW.skip ?_; simp only [Then, InBlock]) | (refine AW.exit ?_; simp only [go_sem, ↓reduceIte]) | (refine AW.cT ?_) | (refine AW.cF ?_) | (refine AW.cond rfl (fun h => ?_) (fun h => ?_) <;> (try simp only [decide_eq_true_eq, decide_eq_false_iff_not, Bool.not_eq_true', Bool.not_eq_false', Bool.not_eq_eq_eq_not, Bool.not_true, Bool.not_false, beq_iff_eq, bne_iff_ne, beq_eq_false_iff_ne, ne_eq, Bool.and_eq_true, Bool.or_eq_true, Bool.or_eq_false_iff] at h)) | (refine hK _ ?_; clear hK K) | (clear hK K; refine hK _ ?_; clear hK K) | (refine AW.unroll 3 ?_; simp only [AWr]) | (with_reducible refine andI ?_))
 all_goals first
  | exact AW.ret (Fin.two rfl (by simp_all [go_sem]; done) ⟨_, rfl, by simp [go_sem]⟩ ⟨_, rfl, by simp [go_sem]⟩ rfl rfl rfl rfl rfl)
  | trace_state
theorem keyR_Wh : ∀ s ∈ Wh4, KeyR s := by
 have h : Wh4.all (fun s => evalsTo Tryz.prog (CS Tryz.prog) 81 [S s] (B (keyB s))) = true := by kernel_rfl
 exact fun s hs => evalsTo_ok CS_ok hmix (List.all_eq_true.1 h s hs)
theorem risingR_Ch3 : ∀ l ∈ Ch3, Does Tryz.prog 134 [.d (.sl (l.map .str)), .fn 81 [], I 5] [] (I 0) [] := by
 have h : Ch3.all (fun l => evalsTo Tryz.prog (CS Tryz.prog) 134 [.d (.sl (l.map .str)), .fn 81 [], I 5] (I 0)) = true := by kernel_rfl
 exact fun s hs => evalsTo_ok CS_ok hmix (List.all_eq_true.1 h s hs)
theorem setupFault_any {x : Su} (h : SuR x) : Does Tryz.prog 96 [.d (suD x)] [] (I (csF x)) [] := by
 have hfi := first_su h
 have hri := risingR_Ch3 _ h.chairs
 have hcl := len_Ch _ h.chairs
 have hd1 := inR_any x.due 0 5761440
 have hd2 := inR_any x.reply 0 5761440
 rw [show (decide (0 ≤ x.due) && decide (x.due ≤ 5761440)) = true by have := h.due; simp; omega] at hd1
 rw [show (decide (0 ≤ x.reply) && decide (x.reply ≤ 5761440)) = true by have := h.reply; simp; omega] at hd2
 have hpl := h.plen
 have hql := h.qlen
 have hbl := h.blen
 refine Does.of_AW (n := 86) Tryz.func96 rfl rfl rfl fun cx hcx => ?_
 generalize hR : csF x = R
 unfold csF at hR
 by_cases hp : goF pasF [] x.papers = 0
 rotate_left
 ·rw [if_pos hp] at hR
  have hb : (goF pasF [] x.papers != 0) = true := by simpa using hp
  subst hR
  repeat' (first | ((first | refine AW.sreg rfl fun K hK => ?_ | refine run_call _ _ _ ((hfi).robjs [0, _] ⟨(by first | rfl | (simp [go_sem]; done) | (simp [go_sem]; rfl)), (by first | rfl | (simp [go_sem]; done) | (simp [go_sem]; rfl)), trivial⟩ rfl (by decide) (by simp) (by simp) (by simp [go_sem]) (by simp [go_sem]) (by simp [go_sem]) (by simp [go_sem])) rfl rfl (dstOk_of rfl) rfl rfl rfl ?_); simp only [go_sem, ↓reduceIte, hb]) | (refine AW.seq_k fun K hK => ?_) | (refine AW.cT ?_) | (refine hK _ ?_; clear hK K) | (refine AW.ret (Fin.data rfl (by first | (simp only [go_sem]; done) | (simp [go_sem, *]; done) | (simp [go_sem]; omega) | rfl) rfl)))
 rw [if_neg (by simpa using hp)] at hR
 rw [hp] at hfi
 repeat' (first | ((first | refine AW.sreg rfl fun K hK => ?_ | refine run_call _ _ _ ((hfi).robjs [0, _] ⟨(by first | rfl | (simp [go_sem]; done) | (simp [go_sem]; rfl)), (by first | rfl | (simp [go_sem]; done) | (simp [go_sem]; rfl)), trivial⟩ rfl (by decide) (by simp) (by simp) (by simp [go_sem]) (by simp [go_sem]) (by simp [go_sem]) (by simp [go_sem])) rfl rfl (dstOk_of rfl) rfl rfl rfl ?_); simp only [go_sem, ↓reduceIte]) | (refine AW.seq_k fun K hK => ?_) | (refine AW.block ?_) | (refine AW.skip ?_; simp only [Then, InBlock]) | (refine AW.cF ?_) | (refine hK _ ?_; clear hK K))
 refine AW.loopF (ι := Nat) [1, 23, 24] (fun p => [(25, I p)]) (fun p => [(832, some (O.vec 28 1 [V.d (D.sl (x.pairs.map prD)), V.d (D.sl (x.barred.map prD))])), (0, some (O.box 31 (suV x)))]) 60 (fun p => p ≤ 2 ∧ csL x.papers (cfF x.papers x.barred x.pairs) ([x.pairs, x.barred].drop p) = R ∧ (1 < p → RiseP x.barred)) (fun p => 2 - p) 0 ⟨by simp, hR, by simp⟩ (Weak.aC hcx (by refine ⟨?_, ?_, ?_⟩ <;> simp [go_sem, gL, kL, renOf, V.obj, Nat.blt, Nat.ble, List.map_append, dv_push])) ?_; simp only [St.at_nil, St.at_cons, lk, Nat.reduceEqDiff, ↓reduceIte, Option.getD_some, Option.getD_none, List.cons_append, List.nil_append, List.append_nil]
 rintro i ⟨h1, h2, h3⟩
 by_cases hi : i < 2
 ·obtain ⟨L, hL, hLm, hLd⟩ := get_some (l := [x.pairs, x.barred]) (i := i) (by simpa using hi)
  have hget : ([V.d (D.sl (x.pairs.map prD)), V.d (D.sl (x.barred.map prD))] : List V)[0 + i]? = some (.d (.sl (L.map prD))) := by
   have := congrArg (Option.map fun l : List Pr => V.d (D.sl (l.map prD))) hL
   rw [← List.getElem?_map] at this
   rw [Nat.zero_add]
   exact this
  have hLl : L.length ≤ 12 := by
   simp only [List.mem_cons, List.not_mem_nil, or_false] at hLm
   rcases hLm with rfl | rfl <;> assumption
  have hLp : ∀ p ∈ L, p.1 ∈ IdS ∧ p.2 ∈ Wh4 := by
   simp only [List.mem_cons, List.not_mem_nil, or_false] at hLm
   rcases hLm with rfl | rfl
   ·exact h.pairs
   ·exact h.barred
  have hcp := pairsFault_any L (by omega) fun c hc => ⟨keyR_all c.1 (mem_keys (.inl (hLp c hc).1)), keyR_Wh c.2 (hLp c hc).2⟩
  rw [hLd, csL] at h2
  by_cases c1 : prsF none L = 0
  rotate_left
  ·rw [if_pos c1] at h2
   have hb : (prsF none L != 0) = true := by simpa using c1
   subst h2
   repeat' (first | ((first | refine AW.sreg rfl fun K hK => ?_ | refine run_call _ _ _ ((hcp).pure rfl rfl _ _) rfl rfl (dstOk_of rfl) rfl rfl rfl ?_); simp only [go_sem, ↓reduceIte, hget, Nat.mul_one, hb]) | (refine AW.seq_k fun K hK => ?_) | (refine AW.block ?_) | (refine AW.skip ?_; simp only [Then, InBlock]) | (refine AW.cT ?_) | (refine hK _ ?_; clear hK K) | (with_reducible refine andI ?_) | (refine AW.ret (Fin.data rfl (by first | (simp only [go_sem]; done) | (simp [go_sem, *]; done) | (simp [go_sem]; omega) | rfl) rfl)))
  rw [if_neg (by simpa using c1)] at h2
  rw [c1] at hcp
  have hrise := (prsF_zero L none c1).2.1
  generalize hT : csL x.papers (cfF x.papers x.barred x.pairs) ([x.pairs, x.barred].drop (i + 1)) = T at h2
  have h4 : 1 < i + 1 → RiseP x.barred := by
   intro h5
   obtain rfl : i = 1 := by omega
   simp at hL
   subst hL
   exact hrise
  repeat' (first | ((first | refine AW.sreg rfl fun K hK => ?_ | refine run_call _ _ _ ((hcp).pure rfl rfl _ _) rfl rfl (dstOk_of rfl) rfl rfl rfl ?_); simp only [go_sem, ↓reduceIte, hget, Nat.mul_one, List.length_map]) | (refine AW.seq_k fun K hK => ?_) | (refine AW.block ?_) | (refine AW.skip ?_; simp only [Then, InBlock]) | (refine AW.cT ?_) | (refine AW.cF ?_) | (refine hK _ ?_; clear hK K) | (with_reducible refine andI ?_))
  refine AW.loopF (ι := Nat) [1, 23, 24, 25, 34, 35] (fun p => [(36, I p)]) (fun p => [(832, some (O.vec 28 1 [V.d (D.sl (x.pairs.map prD)), V.d (D.sl (x.barred.map prD))])), (0, some (O.box 31 (suV x)))]) 80 (fun p => p ≤ L.length ∧ (if prOk x.papers (L.drop p) ≠ 0 then prOk x.papers (L.drop p) else T) = R) (fun p => L.length - p) 0 ⟨by simp, h2⟩ (Weak.aC hcx (by refine ⟨?_, ?_, ?_⟩ <;> simp [go_sem, gL, kL, renOf, V.obj, Nat.blt, Nat.ble, List.map_append, dv_push])) ?_; simp only [St.at_nil, St.at_cons, lk, Nat.reduceEqDiff, ↓reduceIte, Option.getD_some, Option.getD_none, List.cons_append, List.nil_append, List.append_nil]
  rintro j ⟨g1, g2⟩
  by_cases hj : j < L.length
  ·obtain ⟨c, hc, hcm, hcd⟩ := get_some hj
   have hgc : (L.map prD)[j]? = some (prD c) := by simp only [List.getElem?_map, hc, Option.map_some]
   have hpo := paperAt_any x.papers (by omega) c.1
   rw [hcd, show prOk x.papers (c :: L.drop (j + 1)) = if (pOf x.papers c.1).isSome = false then 8 else prOk x.papers (L.drop (j + 1)) from rfl] at g2
   cases hs : (pOf x.papers c.1).isSome with
   | false =>
    have e : paAt x.papers c.1 = -1 := by
     rcases paAt_cases x.papers c.1 with ⟨e1, -⟩ | ⟨j, p, -, -, e2⟩
     ·exact e1
     ·rw [e2] at hs; cases hs
    rw [e] at hpo
    rw [hs, if_pos rfl, if_pos (by decide)] at g2
    subst g2
    repeat' (first | ((first | refine AW.sreg rfl fun K hK => ?_ | refine run_call _ _ _ ((hpo).pure rfl rfl _ _) rfl rfl (dstOk_of rfl) rfl rfl rfl ?_); simp only [go_sem, ↓reduceIte, hgc, List.length_map]) | (refine AW.seq_k fun K hK => ?_) | (refine AW.block ?_) | (refine AW.skip ?_; simp only [Then, InBlock]) | (refine AW.cT ?_) | (refine hK _ ?_; clear hK K) | (with_reducible refine andI ?_) | (refine AW.ret (Fin.data rfl (by first | (simp only [go_sem]; done) | (simp [go_sem, *]; done) | (simp [go_sem]; omega) | rfl) rfl)))
   | true =>
    obtain ⟨pj, e⟩ : ∃ pj : Nat, paAt x.papers c.1 = (pj : Int) := by
     rcases paAt_cases x.papers c.1 with ⟨-, e2⟩ | ⟨pj, p, e1, -, -⟩
     ·rw [e2] at hs; cases hs
     ·exact ⟨pj, e1⟩
    rw [e] at hpo
    have hpj : decide ((pj : Int) < 0) = false := decide_eq_false (by omega)
    rw [hs] at g2
    simp only [Bool.true_eq_false, if_false] at g2
    repeat' (first | ((first | refine AW.sreg rfl fun K hK => ?_ | refine AW.reg rfl ?_ | refine run_call _ _ _ ((hpo).pure rfl rfl _ _) rfl rfl (dstOk_of rfl) rfl rfl rfl ?_); simp only [go_sem, ↓reduceIte, hgc, List.length_map, hpj]) | (refine AW.seq_k fun K hK => ?_) | (refine AW.block ?_) | (refine AW.skip ?_; simp only [Then, InBlock]) | (refine AW.cT ?_) | (refine AW.cF ?_) | (refine hK _ ?_; clear hK K) | (with_reducible refine andI ?_))
    exact ⟨j + 1, ⟨hj, g2⟩, by omega, (Weak.aC hcx (by refine ⟨?_, ?_, ?_⟩ <;> simp [go_sem, gL, kL, renOf, V.obj, Nat.blt, Nat.ble, List.map_append, dv_push]))⟩
  ·obtain rfl : j = L.length := by omega
   simp only [List.drop_length, prOk, ne_eq, not_true_eq_false, if_false] at g2
   repeat' (first | ((first | refine AW.sreg rfl fun K hK => ?_ | refine AW.reg rfl ?_); simp only [go_sem, ↓reduceIte, List.length_map]) | (refine AW.seq_k fun K hK => ?_) | (refine AW.exit ?_; simp only [go_sem, ↓reduceIte]) | (refine AW.cF ?_) | (refine hK _ ?_; clear hK K) | (clear hK K; refine hK _ ?_; clear hK K) | (with_reducible refine andI ?_))
   exact ⟨i + 1, ⟨hi, by rw [hT]; exact g2, h4⟩, by omega, (Weak.aC hcx (by refine ⟨?_, ?_, ?_⟩ <;> simp [go_sem, gL, kL, renOf, V.obj, Nat.blt, Nat.ble, List.map_append, dv_push]))⟩
 ·obtain rfl : i = 2 := by omega
  have hrise := h3 (by omega)
  simp only [List.drop_succ_cons, List.drop_zero, csL] at h2
  repeat' (first | (refine AW.sreg rfl fun K hK => ?_; simp only [go_sem, ↓reduceIte, List.length_map]) | (refine AW.seq_k fun K hK => ?_) | (refine AW.block ?_) | (refine AW.exit ?_; simp only [go_sem, ↓reduceIte]) | (refine AW.cF ?_) | (refine hK _ ?_; clear hK K) | (clear hK K; refine hK _ ?_; clear hK K))
  refine AW.loopF (ι := Nat) [1, 49, 50] (fun p => [(51, I p)]) (fun p => [(0, some (O.box 31 (suV x)))]) 90 (fun p => p ≤ x.pairs.length ∧ cfF x.papers x.barred (x.pairs.drop p) = R) (fun p => x.pairs.length - p) 0 ⟨by simp, h2⟩ (Weak.aC hcx (by refine ⟨?_, ?_, ?_⟩ <;> simp [go_sem, gL, kL, renOf, V.obj, Nat.blt, Nat.ble, List.map_append, dv_push])) ?_; simp only [St.at_nil, St.at_cons, lk, Nat.reduceEqDiff, ↓reduceIte, Option.getD_some, Option.getD_none, List.cons_append, List.nil_append, List.append_nil]
  rintro j ⟨g1, g2⟩
  by_cases hj : j < x.pairs.length
  ·obtain ⟨c, hc, hcm, hcd⟩ := get_some hj
   have hgc : (x.pairs.map prD)[j]? = some (prD c) := by simp only [List.getElem?_map, hc, Option.map_some]
   have hin := contains_Pr x.barred (by omega) c
   have hau := author_any x.papers (by omega) (fun p hp => by have := (h.papers p hp).1.aul; omega) c
   rw [hcd, cfF] at g2
   generalize decide (c ∈ x.barred) = b1 at hin g2
   generalize auF x.papers c.1 c.2 = b2 at hau g2
   cases b1 with
   | true =>
    rw [if_pos (by simp)] at g2
    subst g2
    repeat' (first | ((first | refine AW.sreg rfl fun K hK => ?_ | refine run_call _ _ _ ((hin).pure rfl rfl _ _) rfl rfl (dstOk_of rfl) rfl rfl rfl ?_); simp only [go_sem, ↓reduceIte, hgc, List.length_map]) | (refine AW.seq_k fun K hK => ?_) | (refine AW.block ?_) | (refine AW.skip ?_; simp only [Then, InBlock]) | (refine AW.cT ?_) | (refine hK _ ?_; clear hK K) | (with_reducible refine andI ?_) | (refine AW.ret (Fin.data rfl (by first | (simp only [go_sem]; done) | (simp [go_sem, *]; done) | (simp [go_sem]; omega) | rfl) rfl)))
   | false =>
    cases b2 with
    | true =>
     rw [if_pos (by simp)] at g2
     subst g2
     repeat' (first | ((first | refine AW.sreg rfl fun K hK => ?_ | refine run_call _ _ _ ((hin).pure rfl rfl _ _) rfl rfl (dstOk_of rfl) rfl rfl rfl ?_ | refine run_call _ _ _ ((hau).pure rfl rfl _ _) rfl rfl (dstOk_of rfl) rfl rfl rfl ?_); simp only [go_sem, ↓reduceIte, hgc, List.length_map]) | (refine AW.seq_k fun K hK => ?_) | (refine AW.block ?_) | (refine AW.skip ?_; simp only [Then, InBlock]) | (refine AW.cT ?_) | (refine hK _ ?_; clear hK K) | (with_reducible refine andI ?_) | (refine AW.ret (Fin.data rfl (by first | (simp only [go_sem]; done) | (simp [go_sem, *]; done) | (simp [go_sem]; omega) | rfl) rfl)))
    | false =>
     rw [if_neg (by simp)] at g2
     repeat' (first | ((first | refine AW.sreg rfl fun K hK => ?_ | refine AW.reg rfl ?_ | refine run_call _ _ _ ((hin).pure rfl rfl _ _) rfl rfl (dstOk_of rfl) rfl rfl rfl ?_ | refine run_call _ _ _ ((hau).pure rfl rfl _ _) rfl rfl (dstOk_of rfl) rfl rfl rfl ?_); simp only [go_sem, ↓reduceIte, hgc, List.length_map]) | (refine AW.seq_k fun K hK => ?_) | (refine AW.block ?_) | (refine AW.skip ?_; simp only [Then, InBlock]) | (refine AW.cT ?_) | (refine AW.cF ?_) | (refine hK _ ?_; clear hK K) | (with_reducible refine andI ?_))
     exact ⟨j + 1, ⟨hj, g2⟩, by omega, (Weak.aC hcx (by refine ⟨?_, ?_, ?_⟩ <;> simp [go_sem, gL, kL, renOf, V.obj, Nat.blt, Nat.ble, List.map_append, dv_push]))⟩
  ·obtain rfl : j = x.pairs.length := by omega
   simp only [List.drop_length, cfF] at g2
   subst g2
   have hc20 : decide ((20 : Int) < (x.chairs.length : Int)) = false := by simp; omega
   repeat' (first | ((first | refine AW.sreg rfl fun K hK => ?_ | refine run_call _ _ _ ((hri).pure rfl rfl _ _) rfl rfl (dstOk_of rfl) rfl rfl rfl ?_ | refine run_call _ _ _ ((hd1).pure rfl rfl _ _) rfl rfl (dstOk_of rfl) rfl rfl rfl ?_ | refine run_call _ _ _ ((hd2).pure rfl rfl _ _) rfl rfl (dstOk_of rfl) rfl rfl rfl ?_); simp only [go_sem, ↓reduceIte, List.length_map, hc20]) | (refine AW.seq_k fun K hK => ?_) | (refine AW.skip ?_; simp only [Then, InBlock]) | (refine AW.exit ?_; simp only [go_sem, ↓reduceIte]) | (refine AW.cF ?_) | (refine hK _ ?_; clear hK K) | (clear hK K; refine hK _ ?_; clear hK K) | (refine AW.ret (Fin.data rfl (by first | (simp only [go_sem]; done) | (simp [go_sem, *]; done) | (simp [go_sem]; omega) | rfl) rfl)))
end Go.AX

namespace Go.AX
open Go Go.Proofs Go.RowKit
/-- The reference's fault of a review. -/
def rvG (x : Su) (no la : Int) (r : Rv) : Int :=
 if (r.1 == no && momB r.2.1) = false then 1
 else if decide (r.2.1 < la) = true then 7
 else if decide ((r.2.2.1, r.2.2.2.1) ∈ x.pairs) = false then 8
 else if (!(r.2.2.2.2.1 == []) && !keyB r.2.2.2.2.1) = true then 5
 else if (r.2.2.2.2.1 == r.2.2.2.1) = true then 14
 else if asF x.sheet (-1) r.2.2.2.2.2.2 ≠ 0 then asF x.sheet (-1) r.2.2.2.2.2.2
 else if (r.2.2.2.2.2.1 && decide (0 < (miF x.sheet r.2.2.2.2.2.2).length)) = true then 3 else 0
theorem reviewFaultR_any {x : Su} (h : SuR x) {r : Rv} (hb : RvB r) (hk : KeyR r.2.2.2.2.1) (no la : Int) :
  Does Tryz.prog 97 [.d (suD x), .d (rvD r), I no, I la] [] (I (rvG x no la r)) [] := by
 have hm := momR_any r.2.1
 have hin := contains_Pr x.pairs (by have := h.qlen; omega) (r.2.2.1, r.2.2.2.1)
 have has_ := answersFaultR_any h.sheet r.2.2.2.2.2.2 hb.al hb.an
 have hmi := missingOf_any x.sheet (by have := h.sheet.len; omega) r.2.2.2.2.2.2 (by have := hb.al; omega)
 refine Does.of_AW (n := 71) Tryz.func97 rfl rfl rfl fun cx hcx => ?_
 generalize hR : rvG x no la r = R
 obtain ⟨rn, ra, rp, rq, rb, rd, rl⟩ := r
 unfold rvG at hR
 dsimp only at hR hm hin hk has_ hmi
 by_cases c1 : (rn == no && momB ra) = false
 ·rw [if_pos c1] at hR
  subst hR
  generalize momB ra = m at hm c1
  by_cases c0 : rn = no
  ·have c2 : m = false := by simpa [c0] using c1
   subst c2 c0
   repeat' (first | ((first | refine AW.sreg rfl fun K hK => ?_ | refine run_call _ _ _ ((hm).pure rfl rfl _ _) rfl rfl (dstOk_of rfl) rfl rfl rfl ?_); simp only [go_sem, ↓reduceIte, List.length_map, bne_self_eq_false]) | (refine AW.seq_k fun K hK => ?_) | (refine AW.block ?_) | (refine AW.cT ?_) | (refine hK _ ?_; clear hK K) | (refine AW.ret (Fin.data rfl (by first | (simp only [go_sem]; done) | (simp [go_sem, *]; done) | (simp [go_sem]; omega) | rfl) rfl)))
  ·have c2 : (rn != no) = true := by simpa using c0
   repeat' (first | (refine AW.sreg rfl fun K hK => ?_; simp only [go_sem, ↓reduceIte, List.length_map, c2]) | (refine AW.seq_k fun K hK => ?_) | (refine AW.block ?_) | (refine AW.cT ?_) | (refine hK _ ?_; clear hK K) | (refine AW.ret (Fin.data rfl (by first | (simp only [go_sem]; done) | (simp [go_sem, *]; done) | (simp [go_sem]; omega) | rfl) rfl)))
 rw [if_neg c1] at hR
 have c1 : rn = no ∧ momB ra = true := by simpa using c1
 obtain ⟨rfl, c2⟩ := c1
 rw [c2] at hm
 by_cases c3 : ra < la
 ·rw [if_pos (decide_eq_true c3)] at hR
  subst hR
  repeat' (first | ((first | refine AW.sreg rfl fun K hK => ?_ | refine run_call _ _ _ ((hm).pure rfl rfl _ _) rfl rfl (dstOk_of rfl) rfl rfl rfl ?_); simp only [go_sem, ↓reduceIte, List.length_map, bne_self_eq_false, c3]) | (refine AW.seq_k fun K hK => ?_) | (refine AW.block ?_) | (refine AW.cT ?_) | (refine AW.cF ?_) | (refine hK _ ?_; clear hK K) | (refine AW.ret (Fin.data rfl (by first | (simp only [go_sem]; done) | (simp [go_sem, *]; done) | (simp [go_sem]; omega) | rfl) rfl)))
 have hlt : decide (ra < la) = false := decide_eq_false c3
 rw [if_neg (by simp [hlt])] at hR
 generalize decide ((rp, rq) ∈ x.pairs) = b1 at hin hR
 cases b1 with
 | false =>
  rw [if_pos rfl] at hR
  subst hR
  repeat' (first | ((first | refine AW.sreg rfl fun K hK => ?_ | refine run_call _ _ _ ((hm).pure rfl rfl _ _) rfl rfl (dstOk_of rfl) rfl rfl rfl ?_ | refine run_call _ _ _ ((hin).pure rfl rfl _ _) rfl rfl (dstOk_of rfl) rfl rfl rfl ?_); simp only [go_sem, ↓reduceIte, List.length_map, hlt, bne_self_eq_false, Bool.not_false]) | (refine AW.seq_k fun K hK => ?_) | (refine AW.block ?_) | (refine AW.cT ?_) | (refine AW.cF ?_) | (refine hK _ ?_; clear hK K) | (refine AW.ret (Fin.data rfl (by first | (simp only [go_sem]; done) | (simp [go_sem, *]; done) | (simp [go_sem]; omega) | rfl) rfl)))
 | true =>
 rw [if_neg (by simp)] at hR
 generalize asF x.sheet (-1) rl = ae at hR has_
 generalize (miF x.sheet rl) = ml at hR hmi
 unfold KeyR at hk
 generalize keyB rb = kb at hR hk
 have hbk : (rb ≠ [] ∧ kb = false) ∨ (rb = []) ∨ (rb ≠ [] ∧ kb = true) := by
  by_cases e : rb = []
  ·exact .inr (.inl e)
  ·cases kb
   ·exact .inl ⟨e, rfl⟩
   ·exact .inr (.inr ⟨e, rfl⟩)
 rcases hbk with ⟨e1, rfl⟩ | hbk
 ·have e2 : (rb == ([] : Str)) = false := by simpa using e1
  rw [if_pos (by simp [e2])] at hR
  subst hR
  repeat' (first | ((first | refine AW.sreg rfl fun K hK => ?_ | refine run_call _ _ _ ((hm).pure rfl rfl _ _) rfl rfl (dstOk_of rfl) rfl rfl rfl ?_ | refine run_call _ _ _ ((hin).pure rfl rfl _ _) rfl rfl (dstOk_of rfl) rfl rfl rfl ?_ | refine run_call _ _ _ ((hk).pure rfl rfl _ _) rfl rfl (dstOk_of rfl) rfl rfl rfl ?_); simp only [go_sem, ↓reduceIte, List.length_map, hlt, bne_self_eq_false, bne, e2]) | (refine AW.seq_k fun K hK => ?_) | (refine AW.block ?_) | (refine AW.cT ?_) | (refine AW.cF ?_) | (refine hK _ ?_; clear hK K) | (refine AW.ret (Fin.data rfl (by first | (simp only [go_sem]; done) | (simp [go_sem, *]; done) | (simp [go_sem]; omega) | rfl) rfl)))
 rw [if_neg (by rcases hbk with rfl | ⟨-, rfl⟩ <;> simp)] at hR
 cases e3 : (rb == rq) with
 | true =>
  rw [e3, if_pos rfl] at hR
  subst hR
  rcases hbk with rfl | ⟨e1, rfl⟩
  ·have e2 : (([] : Str) == ([] : Str)) = true := rfl
   repeat' (first | ((first | refine AW.sreg rfl fun K hK => ?_ | refine run_call _ _ _ ((hm).pure rfl rfl _ _) rfl rfl (dstOk_of rfl) rfl rfl rfl ?_ | refine run_call _ _ _ ((hin).pure rfl rfl _ _) rfl rfl (dstOk_of rfl) rfl rfl rfl ?_); simp only [go_sem, ↓reduceIte, List.length_map, hlt, bne_self_eq_false, bne, e2, e3]) | (refine AW.seq_k fun K hK => ?_) | (refine AW.block ?_) | (refine AW.cT ?_) | (refine AW.cF ?_) | (refine hK _ ?_; clear hK K) | (refine AW.ret (Fin.data rfl (by first | (simp only [go_sem]; done) | (simp [go_sem, *]; done) | (simp [go_sem]; omega) | rfl) rfl)))
  ·have e2 : (rb == ([] : Str)) = false := by simpa using e1
   repeat' (first | ((first | refine AW.sreg rfl fun K hK => ?_ | refine run_call _ _ _ ((hm).pure rfl rfl _ _) rfl rfl (dstOk_of rfl) rfl rfl rfl ?_ | refine run_call _ _ _ ((hin).pure rfl rfl _ _) rfl rfl (dstOk_of rfl) rfl rfl rfl ?_ | refine run_call _ _ _ ((hk).pure rfl rfl _ _) rfl rfl (dstOk_of rfl) rfl rfl rfl ?_); simp only [go_sem, ↓reduceIte, List.length_map, hlt, bne_self_eq_false, bne, e2, e3]) | (refine AW.seq_k fun K hK => ?_) | (refine AW.block ?_) | (refine AW.cT ?_) | (refine AW.cF ?_) | (refine hK _ ?_; clear hK K) | (refine AW.ret (Fin.data rfl (by first | (simp only [go_sem]; done) | (simp [go_sem, *]; done) | (simp [go_sem]; omega) | rfl) rfl)))
 | false =>
 rw [e3, if_neg (by simp)] at hR
 by_cases c5 : ae = 0
 rotate_left
 ·rw [if_pos c5] at hR
  subst hR
  have e5 : (ae == 0) = false := by simpa using c5
  rcases hbk with rfl | ⟨e1, rfl⟩
  ·have e2 : (([] : Str) == ([] : Str)) = true := rfl
   repeat' (first | ((first | refine AW.sreg rfl fun K hK => ?_ | refine run_call _ _ _ ((hm).pure rfl rfl _ _) rfl rfl (dstOk_of rfl) rfl rfl rfl ?_ | refine run_call _ _ _ ((hin).pure rfl rfl _ _) rfl rfl (dstOk_of rfl) rfl rfl rfl ?_ | refine run_call _ _ _ ((has_).pure rfl rfl _ _) rfl rfl (dstOk_of rfl) rfl rfl rfl ?_); simp only [go_sem, ↓reduceIte, List.length_map, hlt, bne_self_eq_false, bne, e2, e3, e5]) | (refine AW.seq_k fun K hK => ?_) | (refine AW.block ?_) | (refine AW.skip ?_; simp only [Then, InBlock]) | (refine AW.cT ?_) | (refine AW.cF ?_) | (refine hK _ ?_; clear hK K) | (refine AW.ret (Fin.data rfl (by first | (simp only [go_sem]; done) | (simp [go_sem, *]; done) | (simp [go_sem]; omega) | rfl) rfl)))
  ·have e2 : (rb == ([] : Str)) = false := by simpa using e1
   repeat' (first | ((first | refine AW.sreg rfl fun K hK => ?_ | refine run_call _ _ _ ((hm).pure rfl rfl _ _) rfl rfl (dstOk_of rfl) rfl rfl rfl ?_ | refine run_call _ _ _ ((hin).pure rfl rfl _ _) rfl rfl (dstOk_of rfl) rfl rfl rfl ?_ | refine run_call _ _ _ ((has_).pure rfl rfl _ _) rfl rfl (dstOk_of rfl) rfl rfl rfl ?_ | refine run_call _ _ _ ((hk).pure rfl rfl _ _) rfl rfl (dstOk_of rfl) rfl rfl rfl ?_); simp only [go_sem, ↓reduceIte, List.length_map, hlt, bne_self_eq_false, bne, e2, e3, e5]) | (refine AW.seq_k fun K hK => ?_) | (refine AW.block ?_) | (refine AW.skip ?_; simp only [Then, InBlock]) | (refine AW.cT ?_) | (refine AW.cF ?_) | (refine hK _ ?_; clear hK K) | (refine AW.ret (Fin.data rfl (by first | (simp only [go_sem]; done) | (simp [go_sem, *]; done) | (simp [go_sem]; omega) | rfl) rfl)))
 subst c5
 rw [if_neg (by simp)] at hR
 cases rd with
 | false =>
  rw [Bool.false_and, if_neg (by simp)] at hR
  subst hR
  rcases hbk with rfl | ⟨e1, rfl⟩
  ·have e2 : (([] : Str) == ([] : Str)) = true := rfl
   repeat' (first | ((first | refine AW.sreg rfl fun K hK => ?_ | refine run_call _ _ _ ((hm).pure rfl rfl _ _) rfl rfl (dstOk_of rfl) rfl rfl rfl ?_ | refine run_call _ _ _ ((hin).pure rfl rfl _ _) rfl rfl (dstOk_of rfl) rfl rfl rfl ?_ | refine run_call _ _ _ ((has_).pure rfl rfl _ _) rfl rfl (dstOk_of rfl) rfl rfl rfl ?_); simp only [go_sem, ↓reduceIte, List.length_map, hlt, bne_self_eq_false, bne, e2, e3]) | (refine AW.seq_k fun K hK => ?_) | (refine AW.block ?_) | (refine AW.skip ?_; simp only [Then, InBlock]) | (refine AW.cF ?_) | (refine hK _ ?_; clear hK K) | (refine AW.ret (Fin.data rfl (by first | (simp only [go_sem]; done) | (simp [go_sem, *]; done) | (simp [go_sem]; omega) | rfl) rfl)))
  ·have e2 : (rb == ([] : Str)) = false := by simpa using e1
   repeat' (first | ((first | refine AW.sreg rfl fun K hK => ?_ | refine run_call _ _ _ ((hm).pure rfl rfl _ _) rfl rfl (dstOk_of rfl) rfl rfl rfl ?_ | refine run_call _ _ _ ((hin).pure rfl rfl _ _) rfl rfl (dstOk_of rfl) rfl rfl rfl ?_ | refine run_call _ _ _ ((has_).pure rfl rfl _ _) rfl rfl (dstOk_of rfl) rfl rfl rfl ?_ | refine run_call _ _ _ ((hk).pure rfl rfl _ _) rfl rfl (dstOk_of rfl) rfl rfl rfl ?_); simp only [go_sem, ↓reduceIte, List.length_map, hlt, bne_self_eq_false, bne, e2, e3]) | (refine AW.seq_k fun K hK => ?_) | (refine AW.block ?_) | (refine AW.skip ?_; simp only [Then, InBlock]) | (refine AW.cF ?_) | (refine hK _ ?_; clear hK K) | (refine AW.ret (Fin.data rfl (by first | (simp only [go_sem]; done) | (simp [go_sem, *]; done) | (simp [go_sem]; omega) | rfl) rfl)))
 | true =>
  rw [Bool.true_and] at hR
  have e6 : decide ((0 : Int) < (ml.length : Int)) = decide (0 < ml.length) := decide_eq_decide.2 (by omega)
  generalize decide (0 < ml.length) = b6 at hR e6
  cases b6 with
  | true =>
   rw [if_pos rfl] at hR
   subst hR
   rcases hbk with rfl | ⟨e1, rfl⟩
   ·have e2 : (([] : Str) == ([] : Str)) = true := rfl
    repeat' (first | ((first | refine AW.sreg rfl fun K hK => ?_ | refine run_call _ _ _ ((hm).pure rfl rfl _ _) rfl rfl (dstOk_of rfl) rfl rfl rfl ?_ | refine run_call _ _ _ ((hin).pure rfl rfl _ _) rfl rfl (dstOk_of rfl) rfl rfl rfl ?_ | refine run_call _ _ _ ((has_).pure rfl rfl _ _) rfl rfl (dstOk_of rfl) rfl rfl rfl ?_ | refine run_call _ _ _ ((hmi).pure rfl rfl _ _) rfl rfl (dstOk_of rfl) rfl rfl rfl ?_); simp only [go_sem, ↓reduceIte, List.length_map, hlt, bne_self_eq_false, bne, e2, e3, e6]) | (refine AW.seq_k fun K hK => ?_) | (refine AW.block ?_) | (refine AW.skip ?_; simp only [Then, InBlock]) | (refine AW.cT ?_) | (refine AW.cF ?_) | (refine hK _ ?_; clear hK K) | (refine AW.ret (Fin.data rfl (by first | (simp only [go_sem]; done) | (simp [go_sem, *]; done) | (simp [go_sem]; omega) | rfl) rfl)))
   ·have e2 : (rb == ([] : Str)) = false := by simpa using e1
    repeat' (first | ((first | refine AW.sreg rfl fun K hK => ?_ | refine run_call _ _ _ ((hm).pure rfl rfl _ _) rfl rfl (dstOk_of rfl) rfl rfl rfl ?_ | refine run_call _ _ _ ((hin).pure rfl rfl _ _) rfl rfl (dstOk_of rfl) rfl rfl rfl ?_ | refine run_call _ _ _ ((has_).pure rfl rfl _ _) rfl rfl (dstOk_of rfl) rfl rfl rfl ?_ | refine run_call _ _ _ ((hmi).pure rfl rfl _ _) rfl rfl (dstOk_of rfl) rfl rfl rfl ?_ | refine run_call _ _ _ ((hk).pure rfl rfl _ _) rfl rfl (dstOk_of rfl) rfl rfl rfl ?_); simp only [go_sem, ↓reduceIte, List.length_map, hlt, bne_self_eq_false, bne, e2, e3, e6]) | (refine AW.seq_k fun K hK => ?_) | (refine AW.block ?_) | (refine AW.skip ?_; simp only [Then, InBlock]) | (refine AW.cT ?_) | (refine AW.cF ?_) | (refine hK _ ?_; clear hK K) | (refine AW.ret (Fin.data rfl (by first | (simp only [go_sem]; done) | (simp [go_sem, *]; done) | (simp [go_sem]; omega) | rfl) rfl)))
  | false =>
   rw [if_neg (by simp)] at hR
   subst hR
   rcases hbk with rfl | ⟨e1, rfl⟩
   ·have e2 : (([] : Str) == ([] : Str)) = true := rfl
    repeat' (first | ((first | refine AW.sreg rfl fun K hK => ?_ | refine run_call _ _ _ ((hm).pure rfl rfl _ _) rfl rfl (dstOk_of rfl) rfl rfl rfl ?_ | refine run_call _ _ _ ((hin).pure rfl rfl _ _) rfl rfl (dstOk_of rfl) rfl rfl rfl ?_ | refine run_call _ _ _ ((has_).pure rfl rfl _ _) rfl rfl (dstOk_of rfl) rfl rfl rfl ?_ | refine run_call _ _ _ ((hmi).pure rfl rfl _ _) rfl rfl (dstOk_of rfl) rfl rfl rfl ?_); simp only [go_sem, ↓reduceIte, List.length_map, hlt, bne_self_eq_false, bne, e2, e3, e6]) | (refine AW.seq_k fun K hK => ?_) | (refine AW.block ?_) | (refine AW.skip ?_; simp only [Then, InBlock]) | (refine AW.cF ?_) | (refine hK _ ?_; clear hK K) | (refine AW.ret (Fin.data rfl (by first | (simp only [go_sem]; done) | (simp [go_sem, *]; done) | (simp [go_sem]; omega) | rfl) rfl)))
   ·have e2 : (rb == ([] : Str)) = false := by simpa using e1
    repeat' (first | ((first | refine AW.sreg rfl fun K hK => ?_ | refine run_call _ _ _ ((hm).pure rfl rfl _ _) rfl rfl (dstOk_of rfl) rfl rfl rfl ?_ | refine run_call _ _ _ ((hin).pure rfl rfl _ _) rfl rfl (dstOk_of rfl) rfl rfl rfl ?_ | refine run_call _ _ _ ((has_).pure rfl rfl _ _) rfl rfl (dstOk_of rfl) rfl rfl rfl ?_ | refine run_call _ _ _ ((hmi).pure rfl rfl _ _) rfl rfl (dstOk_of rfl) rfl rfl rfl ?_ | refine run_call _ _ _ ((hk).pure rfl rfl _ _) rfl rfl (dstOk_of rfl) rfl rfl rfl ?_); simp only [go_sem, ↓reduceIte, List.length_map, hlt, bne_self_eq_false, bne, e2, e3, e6]) | (refine AW.seq_k fun K hK => ?_) | (refine AW.block ?_) | (refine AW.skip ?_; simp only [Then, InBlock]) | (refine AW.cF ?_) | (refine hK _ ?_; clear hK K) | (refine AW.ret (Fin.data rfl (by first | (simp only [go_sem]; done) | (simp [go_sem, *]; done) | (simp [go_sem]; omega) | rfl) rfl)))
def rsG (x : Su) : Int → Int → List Rv → Int
 | _, _, [] => 0
 | no, la, r :: t => if rvG x (no + 1) la r ≠ 0 then rvG x (no + 1) la r else rsG x (no + 1) r.2.1 t
def rfG (x : Su) (l : List Rv) : Int := if csF x ≠ 0 then csF x else rsG x 0 0 l
theorem reviewsFault_any {x : Su} (h : SuR x) (l : List Rv) (hl : l.length ≤ 1000) (hb : ∀ r ∈ l, RvB r ∧ KeyR r.2.2.2.2.1) : Does Tryz.prog 46 [.d (suD x), .d (.sl (l.map rvD))] [] (I (rfG x l)) [] := by
 have hs := setupFault_any h
 refine Does.of_AW (n := 37) Tryz.func46 rfl rfl rfl fun cx hcx => ?_
 generalize hR : rfG x l = R
 unfold rfG at hR
 by_cases h0 : csF x = 0
 rotate_left
 ·rw [if_pos h0] at hR
  subst hR
  have e0 : (csF x != 0) = true := by simpa using h0
  repeat' (first | ((first | refine AW.sreg rfl fun K hK => ?_ | refine run_call _ _ _ ((hs).pure rfl rfl _ _) rfl rfl (dstOk_of rfl) rfl rfl rfl ?_); simp only [go_sem, ↓reduceIte, e0]) | (refine AW.seq_k fun K hK => ?_) | (refine AW.cT ?_) | (refine hK _ ?_; clear hK K) | (refine AW.ret (Fin.data rfl (by first | (simp only [go_sem]; done) | (simp [go_sem, *]; done) | (simp [go_sem]; omega) | rfl) rfl)))
 rw [if_neg (by simpa using h0)] at hR
 rw [h0] at hs
 have h3000 : decide ((3000 : Int) < (l.length : Int)) = false := decide_eq_false (by omega)
 repeat' (first | ((first | refine AW.sreg rfl fun K hK => ?_ | refine run_call _ _ _ ((hs).pure rfl rfl _ _) rfl rfl (dstOk_of rfl) rfl rfl rfl ?_); simp only [go_sem, ↓reduceIte, List.length_map, h3000]) | (refine AW.seq_k fun K hK => ?_) | (refine AW.block ?_) | (refine AW.skip ?_; simp only [Then, InBlock]) | (refine AW.cF ?_) | (refine hK _ ?_; clear hK K))
 refine AW.loopF (ι := Nat × Int) [2, 18, 19] (fun p => [(20, I p.1), (6, I p.2)]) (fun p => [(0, some (O.box 31 (suV x)))]) 40 (fun p => p.1 ≤ l.length ∧ rsG x p.1 p.2 (l.drop p.1) = R) (fun p => l.length - p.1) (0, 0) ⟨by simp, hR⟩ (Weak.aC hcx (by refine ⟨?_, ?_, ?_⟩ <;> simp [go_sem, gL, kL, renOf, V.obj, Nat.blt, Nat.ble, List.map_append, dv_push])) ?_; simp only [St.at_nil, St.at_cons, lk, Nat.reduceEqDiff, ↓reduceIte, Option.getD_some, Option.getD_none, List.cons_append, List.nil_append, List.append_nil]
 rintro ⟨i, la⟩ ⟨h1, h2⟩
 dsimp only at h1 h2 ⊢
 by_cases hi : i < l.length
 ·obtain ⟨r, hr, hrm, hrd⟩ := get_some hi
  have hget : (l.map rvD)[i]? = some (rvD r) := by simp only [List.getElem?_map, hr, Option.map_some]
  have hf := reviewFaultR_any h (hb r hrm).1 (hb r hrm).2 ((i : Int) + 1) la
  rw [hrd, rsG] at h2
  generalize rvG x ((i : Int) + 1) la r = F at h2 hf
  by_cases hF : F = 0
  ·subst hF
   rw [if_neg (by simp)] at h2
   repeat' (first | ((first | refine AW.sreg rfl fun K hK => ?_ | refine AW.reg rfl ?_ | refine run_call _ _ _ ((hf).pure rfl rfl _ _) rfl rfl (dstOk_of rfl) rfl rfl rfl ?_); simp only [go_sem, ↓reduceIte, List.length_map, hget]) | (refine AW.seq_k fun K hK => ?_) | (refine AW.block ?_) | (refine AW.skip ?_; simp only [Then, InBlock]) | (refine AW.cT ?_) | (refine AW.cF ?_) | (refine hK _ ?_; clear hK K) | (with_reducible refine andI ?_))
   exact ⟨(i + 1, r.2.1), ⟨hi, by push_cast; exact h2⟩, by simp only; omega, (Weak.aC hcx (by refine ⟨?_, ?_, ?_⟩ <;> simp [go_sem, gL, kL, renOf, V.obj, Nat.blt, Nat.ble, List.map_append, dv_push]))⟩
  ·rw [if_pos hF] at h2
   subst h2
   have e1 : (F != 0) = true := by simpa using hF
   repeat' (first | ((first | refine AW.sreg rfl fun K hK => ?_ | refine run_call _ _ _ ((hf).pure rfl rfl _ _) rfl rfl (dstOk_of rfl) rfl rfl rfl ?_); simp only [go_sem, ↓reduceIte, List.length_map, hget, e1]) | (refine AW.seq_k fun K hK => ?_) | (refine AW.block ?_) | (refine AW.skip ?_; simp only [Then, InBlock]) | (refine AW.cT ?_) | (refine hK _ ?_; clear hK K) | (with_reducible refine andI ?_) | (refine AW.ret (Fin.data rfl (by first | (simp only [go_sem]; done) | (simp [go_sem, *]; done) | (simp [go_sem]; omega) | rfl) rfl)))
 ·obtain rfl : i = l.length := by omega
  simp only [List.drop_length, rsG] at h2
  subst h2
  repeat' (first | (refine AW.sreg rfl fun K hK => ?_; simp only [go_sem, ↓reduceIte, List.length_map]) | (refine AW.seq_k fun K hK => ?_) | (refine AW.exit ?_; simp only [go_sem, ↓reduceIte]) | (refine AW.cF ?_) | (refine hK _ ?_; clear hK K) | (clear hK K; refine hK _ ?_; clear hK K) | (refine AW.ret (Fin.data rfl (by first | (simp only [go_sem]; done) | (simp [go_sem, *]; done) | (simp [go_sem]; omega) | rfl) rfl)))
end Go.AX
