/- Works and bonds: their orders; sorting. -/
import Derived.Test.YtcjdlbdoffchfaaGreatDoorCC
import Derived.Test.YtcjdlbdoffchfaaGreatDoorAx22
set_option linter.unusedSimpArgs false
set_option linter.unusedVariables false
set_option linter.unnecessarySimpa false
set_option maxRecDepth 1000000
set_option maxHeartbeats 4000000
namespace Go.AX
open Go Go.Proofs Go.RowKit
theorem frzL_rep {hv : Nat → Option O} {keep : Nat → Bool} {v : V} (h : frz hv keep v = v) : ∀ {n : Nat}, frzL hv keep (List.replicate n v) = List.replicate n v
  | 0 => rfl
  | n + 1 => by rw [List.replicate_succ, frzL, h, frzL_rep h]
theorem renL_rep {f : Nat → Nat} {v : V} (h : v.ren f = v) {n : Nat} : renL f (List.replicate n v) = List.replicate n v := by
  rw [renL_eq, List.map_replicate, h]
@[go_sem] theorem renL_app2 (f : Nat → Nat) (xs ys : List V) : renL f (xs ++ ys) = renL f xs ++ renL f ys := by
  rw [renL_eq, renL_eq, renL_eq, List.map_append]
@[go_sem] theorem belL_app2 (n : Nat) (xs ys : List V) : belL n (xs ++ ys) = (belL n xs && belL n ys) := by
  rw [belL_eq, belL_eq, belL_eq, List.all_append]
theorem belL_rep {m : Nat} {v : V} (h : v.bel m = true) {n : Nat} : belL m (List.replicate n v) = true := by
  rw [belL_eq, List.all_replicate, h]; simp
@[go_sem] theorem renL_rep2 (f : Nat → Nat) (v : V) (n : Nat) : renL f (List.replicate n v) = List.replicate n (v.ren f) := by
  rw [renL_eq, List.map_replicate]
@[go_sem] theorem belL_rep2 (m n : Nat) (v : V) : belL m (List.replicate n v) = (decide (n = 0) || v.bel m) := by
  rw [belL_eq, List.all_replicate]
  cases n <;> simp
abbrev wkB (w : Wk) : Prop := -1000000 ≤ w.1 ∧ w.1 ≤ 1000000 ∧ w.2.length ≤ 1000
abbrev WkS := {w : Wk // wkB w}
abbrev wkS (w : WkS) : D := wkD w.1
theorem workOrder_any (a b : WkS) : Does Tryz.prog 29 [.d (wkS a), .d (wkS b)] [] (I (cpW a.1 b.1)) [] := by
  obtain ⟨⟨ad, au⟩, ha⟩ := a
  obtain ⟨⟨bd, bu⟩, hb⟩ := b
  simp only [wkB] at ha hb
  have hs : ∀ x y : Int, cmpZ (x - y) 0 = cmpZ x y := fun x y => by unfold cmpZ; (repeat' split) <;> first | rfl | omega
  have s1 := signR (ad - bd)
  rw [hs] at s1
  have hcl := compareL_any au bu ha.2.2 hb.2.2
  simp only [wkS]
  rw [cpW_lex]
  by_cases e1 : ad = bd
  · subst e1
    have z1 : cmpZ ad ad = 0 := (cp_int.eq _ _).2 rfl
    have e : lexC cmpZ cmpL (ad, au) (ad, bu) = cmpL au bu := by simp [lexC, z1]
    rw [e]
    generalize cmpL au bu = v at *
    refine Does.of_AW (n := 21) Tryz.func29 rfl rfl rfl fun cx hcx => ?_
    repeat' (first | ((first | refine AW.sreg rfl fun K hK => ?_ | refine run_call _ _ _ ((hcl).pure rfl rfl _ _) rfl rfl (dstOk_of rfl) rfl rfl rfl ?_); simp only [go_sem, ↓reduceIte, bne_self_eq_false, beq_self_eq_true]) | (refine AW.seq_k fun K hK => ?_) | (refine AW.skip ?_; simp only [Then, InBlock]) | (refine AW.cF ?_) | (refine hK _ ?_; clear hK K))
    all_goals first | exact AW.ret (Fin.data rfl (by simp [go_sem]) rfl) | trace_state
  · have z1 : cmpZ ad bd ≠ 0 := fun h => e1 ((cp_int.eq _ _).1 h)
    have e : lexC cmpZ cmpL (ad, au) (bd, bu) = cmpZ ad bd := by simp [lexC, z1]
    rw [e]
    have e3 : (ad != bd) = true := by simp [e1]
    generalize cmpZ ad bd = v at *
    refine Does.of_AW (n := 21) Tryz.func29 rfl rfl rfl fun cx hcx => ?_
    repeat' (first | ((first | refine AW.sreg rfl fun K hK => ?_ | refine run_call _ _ _ ((s1).pure rfl rfl _ _) rfl rfl (dstOk_of rfl) rfl rfl rfl ?_); simp only [go_sem, ↓reduceIte, e3]) | (refine AW.seq_k fun K hK => ?_) | (refine AW.cT ?_) | (refine hK _ ?_; clear hK K) | (with_reducible refine andI ?_))
    all_goals first | exact AW.ret (Fin.data rfl (by simp [go_sem]) rfl) | trace_state
theorem bondOrder_any (a b : Bo) : Does Tryz.prog 33 [.d (boD a), .d (boD b)] [] (I (cpB a b)) [] := by
  obtain ⟨a1, a2⟩ := a
  obtain ⟨b1, b2⟩ := b
  have hcl := compareL_any [a1, a2] [b1, b2] (by simp) (by simp)
  have e : cmpL [a1, a2] [b1, b2] = cpB (a1, a2) (b1, b2) := by
    simp only [cmpL, cpB, orI]
    repeat' split
    all_goals first | rfl | simp_all
  rw [e] at hcl
  generalize cpB (a1, a2) (b1, b2) = v at *
  refine Does.of_AW (n := 16) Tryz.func33 rfl rfl rfl fun cx hcx => ?_
  repeat' (first | ((first | refine AW.sreg rfl fun K hK => ?_ | refine run_call _ _ _ ((hcl).lend (by repeat' (first | exact frzL_nil | refine frzL_cons (by first | exact frz_d | exact frz_slr rfl rfl (by first | (simp; done) | (simp; omega) | (simp [*]; done) | fail) | rfl) ?_)) rfl rfl rfl) rfl rfl (dstOk_of rfl) rfl rfl rfl ?_); simp only [go_sem, ↓reduceIte]) | (refine hK _ ?_; clear hK K))
  all_goals first | exact AW.ret (Fin.data rfl (by simp [go_sem]) rfl) | trace_state
theorem insertionSort_Wk (lt : WkS → WkS → Bool) (cv : WkS → WkS → Int) (hlt : ∀ x y, lt x y = decide (cv x y < 0)) (c : Nat) (hc : ∀ x y, Does Tryz.prog c [.d (wkS x), .d (wkS y)] [] (I (cv x y)) []) (xs : List WkS) (hl : xs.length ≤ 1000) :
    Does Tryz.prog 163 [.slr 0 0 xs.length, I 0, I xs.length, .fn c []] [.vec 68 2 (dv (xs.map wkS))] (.tup []) [.vec 68 2 (dv ((isort lt xs).map wkS))] := by
  refine Does.of_AW (n := 53) Tryz.func163 rfl rfl rfl fun cx hcx => ?_
  generalize hR : isort lt xs = R
  repeat' (first | (refine AW.sreg rfl fun K hK => ?_; simp only [go_sem, ↓reduceIte, List.length_map]) | (refine AW.block ?_) | (refine hK _ ?_; clear hK K) | (with_reducible refine andI ?_))
  refine AW.loopF (ι := Nat × List WkS × List WkS) [0, 1, 2, 3] (fun p => [(8, I p.1)]) (fun p => [(0, some (O.vec 68 2 (dv ((p.2.1 ++ p.2.2).map wkS))))]) 1 (fun p => 1 ≤ p.1 ∧ p.2.1.length + p.2.2.length = xs.length ∧ (p.2.1.length = p.1 ∨ xs.length = 0) ∧ isGo lt p.2.1 p.2.2 = R) (fun p => xs.length - p.1) (1, xs.take 1, xs.drop 1) ⟨by simp, by simp only [List.length_take, List.length_drop]; omega, by simp only [List.length_take]; omega, hR⟩ (Weak.aC hcx (by refine ⟨?_, ?_, ?_⟩ <;> simp [go_sem, gL, kL, renOf, V.obj, Nat.blt, Nat.ble, List.map_append, dv_push, take1_tail])) ?_; simp only [St.at_nil, St.at_cons, lk, Nat.reduceEqDiff, ↓reduceIte, Option.getD_some, Option.getD_none, List.cons_append, List.nil_append, List.append_nil]
  rintro ⟨i, d, r⟩ ⟨h1, h2, h3, h4⟩
  simp only at h1 h2 h3 h4 ⊢
  by_cases hi : i < xs.length
  · obtain ⟨x, r, rfl⟩ : ∃ x r', r = x :: r' := by
      cases r with
      | nil => simp at h2; omega
      | cons x r' => exact ⟨x, r', rfl⟩
    obtain rfl : i = d.length := by omega
    simp only [isGo] at h4
    repeat' (first | (refine AW.sreg rfl fun K hK => ?_; simp only [go_sem, ↓reduceIte, List.length_map]) | (refine AW.seq_k fun K hK => ?_) | (refine AW.block ?_) | (refine AW.skip ?_; simp only [Then, InBlock]) | (refine AW.cT ?_) | (refine hK _ ?_; clear hK K))
    generalize hR2 : insP lt d.reverse x [] = R2 at h4
    refine AW.loopF (ι := List WkS × List WkS) [0, 1, 2, 3, 8] (fun p => [(9, I p.1.length)]) (fun p => [(0, some (O.vec 68 2 (dv ((p.1.reverse ++ x :: (p.2 ++ r)).map wkS))))]) 1 (fun p => p.1.length + p.2.length = d.length ∧ insP lt p.1 x p.2 = R2) (fun p => p.1.length) (d.reverse, []) ⟨by simp, hR2⟩ (Weak.aC hcx (by refine ⟨?_, ?_, ?_⟩ <;> simp [go_sem, gL, kL, renOf, V.obj, Nat.blt, Nat.ble, List.map_append, dv_push])) ?_; simp only [St.at_nil, St.at_cons, lk, Nat.reduceEqDiff, ↓reduceIte, Option.getD_some, Option.getD_none, List.cons_append, List.nil_append, List.append_nil]
    rintro ⟨pr, q⟩ ⟨g1, g2⟩
    simp only at g1 g2 ⊢
    rcases pr with _ | ⟨y, pr⟩
    · simp only [insP] at g2
      subst g2
      simp only [List.length_cons, List.length_nil] at g1 h2
      repeat' (first | ((first | refine AW.sregD hmix rfl fun K hK => ?_ | refine AW.reg rfl ?_); simp only [go_sem, ↓reduceIte, List.length_map]) | (refine AW.seq_k fun K hK => ?_) | (refine AW.exit ?_; simp only [go_sem, ↓reduceIte]) | (refine AW.cF ?_) | (refine hK _ ?_; clear hK K) | (clear hK K; refine hK _ ?_; clear hK K) | (refine stepBT_split (fun h => ?_) (fun h => ?_) <;> (have hb0 := h) <;> (try simp only [Bool.not_eq_true', Bool.not_eq_false'] at hb0) <;> (try simp only [decide_eq_true_eq, decide_eq_false_iff_not, Bool.not_eq_true', Bool.not_eq_false', Bool.not_eq_eq_eq_not, Bool.not_true, Bool.not_false, beq_iff_eq, bne_iff_ne, beq_eq_false_iff_ne, ne_eq, Bool.and_eq_true, Bool.or_eq_true, Bool.or_eq_false_iff] at h) <;> simp only [go_sem, ↓reduceIte, hb0, h, decide_true, decide_false, List.length_map] <;> (try clear hb0)) | (with_reducible refine And.intro (?_ : regOk _ _ = true) ?_; kernel_rfl) | (with_reducible refine andI ?_) | (exfalso; omega))
      exact ⟨(d.length + 1, x :: q, r), ⟨by simp only; omega, by simp only [List.length_cons]; omega, .inl (by simp only [List.length_cons]; omega), h4⟩, by simp only; omega, (Weak.aC hcx (by refine ⟨?_, ?_, ?_⟩ <;> simp [go_sem, gL, kL, renOf, V.obj, Nat.blt, Nat.ble, List.map_append, dv_push]))⟩
    · have e1 : (dv ((List.reverse (y :: pr) ++ x :: (q ++ r)).map wkS))[0 + (pr.length + 1)]? = some (.d (wkS x)) := by
        have := get_mid (List.reverse (y :: pr)) x (q ++ r)
        simp only [List.length_reverse, List.length_cons] at this
        simp only [dv, Nat.zero_add, List.getElem?_map, this, Option.map_some]
      have e2 : (dv ((List.reverse (y :: pr) ++ x :: (q ++ r)).map wkS))[0 + pr.length]? = some (.d (wkS y)) := by
        have := get_mid (List.reverse pr) y (x :: (q ++ r))
        simp only [List.length_reverse] at this
        simp only [dv, Nat.zero_add, List.getElem?_map, List.reverse_cons, List.append_assoc, List.cons_append, List.nil_append, this, Option.map_some]
      have e3 : (((pr.length + 1 : Nat) : Int) - 1).toNat = pr.length := by omega
      simp only [List.length_cons] at g1 h2
      simp only [insP, hlt] at g2
      have e4 : (((dv ((List.reverse (y :: pr) ++ x :: (q ++ r)).map wkS)).set (0 + (pr.length + 1)) (.d (wkS y))).set (0 + pr.length) (.d (wkS x))) = dv ((pr.reverse ++ x :: ((y :: q) ++ r)).map wkS) := by
        have := swap_mid (dv (pr.reverse.map wkS)) (V.d (wkS x)) (V.d (wkS y)) (dv ((q ++ r).map wkS))
        simp only [dv, List.length_map, List.length_reverse, List.map_append, List.map_cons, List.reverse_cons, List.append_assoc, List.cons_append, List.nil_append, List.map_nil] at this ⊢
        exact this
      have e5 : ((dv ((List.reverse (y :: pr) ++ x :: (q ++ r)).map wkS)).set (0 + (pr.length + 1)) (.d (wkS y)))[0 + pr.length]? = some (.d (wkS y)) := by
        rw [List.getElem?_set_ne (by omega)]
        exact e2
      repeat' (first | ((first | refine AW.sregD hmix rfl fun K hK => ?_ | refine AW.reg rfl ?_ | refine AW.regD hmix rfl ?_ | refine runT_call _ _ [] (fun hv _ => (hc x y).pure rfl rfl hv _) rfl rfl (dstOk_of rfl) rfl rfl ?_); simp only [go_sem, ↓reduceIte, List.length_map, e1, e2, e3, e4, e5, List.length_cons, or_self, true_or, or_true]) | (refine AW.seq_k fun K hK => ?_) | (refine AW.block ?_) | (refine AW.skip ?_; simp only [Then, InBlock]) | (refine AW.exit ?_; simp only [go_sem, ↓reduceIte]) | (refine AW.cT ?_) | (refine AW.cond rfl (fun h => ?_) (fun h => ?_) <;> (try simp only [decide_eq_true_eq, decide_eq_false_iff_not, Bool.not_eq_true', Bool.not_eq_false', Bool.not_eq_eq_eq_not, Bool.not_true, Bool.not_false, beq_iff_eq, bne_iff_ne, beq_eq_false_iff_ne, ne_eq, Bool.and_eq_true, Bool.or_eq_true, Bool.or_eq_false_iff] at h)) | (refine hK _ ?_; clear hK K) | (clear hK K; refine hK _ ?_; clear hK K) | (refine stepBT_split (fun h => ?_) (fun h => ?_) <;> (have hb0 := h) <;> (try simp only [Bool.not_eq_true', Bool.not_eq_false'] at hb0) <;> (try simp only [decide_eq_true_eq, decide_eq_false_iff_not, Bool.not_eq_true', Bool.not_eq_false', Bool.not_eq_eq_eq_not, Bool.not_true, Bool.not_false, beq_iff_eq, bne_iff_ne, beq_eq_false_iff_ne, ne_eq, Bool.and_eq_true, Bool.or_eq_true, Bool.or_eq_false_iff] at h) <;> simp only [go_sem, ↓reduceIte, hb0, h, decide_true, decide_false, List.length_map, e1, e2, e3, e4, e5, List.length_cons, or_self, true_or, or_true] <;> (try clear hb0)) | (with_reducible refine And.intro (?_ : regOk _ _ = true) ?_; kernel_rfl) | (with_reducible refine andI ?_) | (exfalso; omega))
      · rw [if_pos (by simpa using h)] at g2
        exact ⟨(pr, y :: q), ⟨by simp only [List.length_cons]; omega, g2⟩, by simp only [List.length_cons]; omega, (Weak.aC hcx (by refine ⟨?_, ?_, ?_⟩ <;> simp [go_sem, gL, kL, renOf, V.obj, Nat.blt, Nat.ble, List.map_append, dv_push]))⟩
      · rw [if_neg (by simpa using h)] at g2
        subst g2
        exact ⟨(d.length + 1, (y :: pr).reverse ++ x :: q, r), ⟨by simp only; omega, by simp only [List.length_append, List.length_reverse, List.length_cons]; omega, .inl (by simp only [List.length_append, List.length_reverse, List.length_cons]; omega), h4⟩, by simp only; omega, (Weak.aC hcx (by refine ⟨?_, ?_, ?_⟩ <;> simp [go_sem, gL, kL, renOf, V.obj, Nat.blt, Nat.ble, List.map_append, dv_push]))⟩
  · have hr : r = [] := by
      cases r with
      | nil => rfl
      | cons x r => simp only [List.length_cons] at h2; omega
    subst hr
    simp only [isGo] at h4
    subst h4
    repeat' (first | (refine AW.sreg rfl fun K hK => ?_; simp only [go_sem, ↓reduceIte, List.length_map, List.append_nil]) | (refine AW.seq_k fun K hK => ?_) | (refine AW.exit ?_; simp only [go_sem, ↓reduceIte]) | (refine AW.cF ?_) | (refine hK _ ?_; clear hK K))
    exact Fin.one rfl rfl ⟨_, rfl, by simp [go_sem]⟩ rfl (by simp [go_sem]) rfl
theorem pdqsort_Wk (lt : WkS → WkS → Bool) (cv : WkS → WkS → Int) (hlt : ∀ x y, lt x y = decide (cv x y < 0)) (c : Nat) (hc : ∀ x y, Does Tryz.prog c [.d (wkS x), .d (wkS y)] [] (I (cv x y)) []) (xs : List WkS) (hl : xs.length ≤ 12) (m : Int) :
    Does Tryz.prog 96 [.slr 0 0 xs.length, I 0, I xs.length, I m, .fn c []] [.vec 68 2 (dv (xs.map wkS))] (.tup []) [.vec 68 2 (dv ((isort lt xs).map wkS))] := by
  refine Does.of_AW (n := 148) Tryz.func96 rfl rfl rfl fun cx hcx => ?_
  repeat' (first | (refine AW.sreg rfl fun K hK => ?_; simp only [go_sem, ↓reduceIte, List.length_map]) | (refine AW.block ?_) | (refine hK _ ?_; clear hK K))
  refine AW.loopF (ι := Unit) [0, 4] (fun p => [(1, I 0), (2, I xs.length), (3, I m), (10, B true), (11, B true)]) (fun p => [(0, some (O.vec 68 2 (dv (xs.map wkS))))]) 1 (fun p => True) (fun p => 0) () trivial (Weak.aC hcx (by refine ⟨?_, ?_, ?_⟩ <;> simp [go_sem, gL, kL, renOf, V.obj, Nat.blt, Nat.ble, List.map_append, dv_push])) ?_; simp only [St.at_nil, St.at_cons, lk, Nat.reduceEqDiff, ↓reduceIte, Option.getD_some, Option.getD_none, List.cons_append, List.nil_append, List.append_nil]
  rintro ⟨⟩ _
  repeat' (first | ((first | refine AW.sreg rfl fun K hK => ?_ | refine run_call _ _ _ ((insertionSort_Wk lt cv hlt c hc xs (by omega)).objA [0]) rfl rfl (dstOk_of rfl) rfl rfl rfl ?_); simp only [go_sem, ↓reduceIte, List.length_map, Int.sub_zero]) | (refine AW.seq_k fun K hK => ?_) | (refine AW.block ?_) | (refine AW.cT ?_) | (refine hK _ ?_; clear hK K) | (with_reducible refine andI ?_))
  exact AW.ret (Fin.one rfl rfl ⟨_, rfl, by simp [go_sem]⟩ rfl (by simp [go_sem]) rfl)
theorem sortFunc_Wk (lt : WkS → WkS → Bool) (cv : WkS → WkS → Int) (hlt : ∀ x y, lt x y = decide (cv x y < 0)) (c : Nat) (hc : ∀ x y, Does Tryz.prog c [.d (wkS x), .d (wkS y)] [] (I (cv x y)) []) (xs : List WkS) (hl : xs.length ≤ 12) :
    Does Tryz.prog 28 [.slr 0 0 xs.length, .fn c []] [.vec 68 2 (dv (xs.map wkS))] (.tup []) [.vec 68 2 (dv ((isort lt xs).map wkS))] := by
  refine Does.of_AW (n := 14) Tryz.func28 rfl rfl rfl fun cx hcx => ?_
  have hw := wrap_small xs.length (by omega)
  repeat' (first | ((first | refine AW.sreg rfl fun K hK => ?_ | refine AW.reg rfl ?_ | refine run_call _ _ _ ((len_ok xs.length hl).pure rfl rfl _ _) rfl rfl (dstOk_of rfl) rfl rfl rfl ?_ | refine run_call _ _ _ ((pdqsort_Wk lt cv hlt c hc xs hl _).objA [0]) rfl rfl (dstOk_of rfl) rfl rfl rfl ?_); simp only [go_sem, ↓reduceIte, List.length_map, hw]) | (refine hK _ ?_; clear hK K))
  exact Fin.one rfl rfl ⟨_, rfl, by simp [go_sem]⟩ rfl (by simp [go_sem]) rfl

theorem insertionSort_Bo (lt : Bo → Bo → Bool) (cv : Bo → Bo → Int) (hlt : ∀ x y, lt x y = decide (cv x y < 0)) (c : Nat) (hc : ∀ x y, Does Tryz.prog c [.d (boD x), .d (boD y)] [] (I (cv x y)) []) (xs : List Bo) (hl : xs.length ≤ 1000) :
    Does Tryz.prog 174 [.slr 0 0 xs.length, I 0, I xs.length, .fn c []] [.vec 70 2 (dv (xs.map boD))] (.tup []) [.vec 70 2 (dv ((isort lt xs).map boD))] := by
  refine Does.of_AW (n := 53) Tryz.func174 rfl rfl rfl fun cx hcx => ?_
  generalize hR : isort lt xs = R
  repeat' (first | (refine AW.sreg rfl fun K hK => ?_; simp only [go_sem, ↓reduceIte, List.length_map]) | (refine AW.block ?_) | (refine hK _ ?_; clear hK K) | (with_reducible refine andI ?_))
  refine AW.loopF (ι := Nat × List Bo × List Bo) [0, 1, 2, 3] (fun p => [(8, I p.1)]) (fun p => [(0, some (O.vec 70 2 (dv ((p.2.1 ++ p.2.2).map boD))))]) 1 (fun p => 1 ≤ p.1 ∧ p.2.1.length + p.2.2.length = xs.length ∧ (p.2.1.length = p.1 ∨ xs.length = 0) ∧ isGo lt p.2.1 p.2.2 = R) (fun p => xs.length - p.1) (1, xs.take 1, xs.drop 1) ⟨by simp, by simp only [List.length_take, List.length_drop]; omega, by simp only [List.length_take]; omega, hR⟩ (Weak.aC hcx (by refine ⟨?_, ?_, ?_⟩ <;> simp [go_sem, gL, kL, renOf, V.obj, Nat.blt, Nat.ble, List.map_append, dv_push, take1_tail])) ?_; simp only [St.at_nil, St.at_cons, lk, Nat.reduceEqDiff, ↓reduceIte, Option.getD_some, Option.getD_none, List.cons_append, List.nil_append, List.append_nil]
  rintro ⟨i, d, r⟩ ⟨h1, h2, h3, h4⟩
  simp only at h1 h2 h3 h4 ⊢
  by_cases hi : i < xs.length
  · obtain ⟨x, r, rfl⟩ : ∃ x r', r = x :: r' := by
      cases r with
      | nil => simp at h2; omega
      | cons x r' => exact ⟨x, r', rfl⟩
    obtain rfl : i = d.length := by omega
    simp only [isGo] at h4
    repeat' (first | (refine AW.sreg rfl fun K hK => ?_; simp only [go_sem, ↓reduceIte, List.length_map]) | (refine AW.seq_k fun K hK => ?_) | (refine AW.block ?_) | (refine AW.skip ?_; simp only [Then, InBlock]) | (refine AW.cT ?_) | (refine hK _ ?_; clear hK K))
    generalize hR2 : insP lt d.reverse x [] = R2 at h4
    refine AW.loopF (ι := List Bo × List Bo) [0, 1, 2, 3, 8] (fun p => [(9, I p.1.length)]) (fun p => [(0, some (O.vec 70 2 (dv ((p.1.reverse ++ x :: (p.2 ++ r)).map boD))))]) 1 (fun p => p.1.length + p.2.length = d.length ∧ insP lt p.1 x p.2 = R2) (fun p => p.1.length) (d.reverse, []) ⟨by simp, hR2⟩ (Weak.aC hcx (by refine ⟨?_, ?_, ?_⟩ <;> simp [go_sem, gL, kL, renOf, V.obj, Nat.blt, Nat.ble, List.map_append, dv_push])) ?_; simp only [St.at_nil, St.at_cons, lk, Nat.reduceEqDiff, ↓reduceIte, Option.getD_some, Option.getD_none, List.cons_append, List.nil_append, List.append_nil]
    rintro ⟨pr, q⟩ ⟨g1, g2⟩
    simp only at g1 g2 ⊢
    rcases pr with _ | ⟨y, pr⟩
    · simp only [insP] at g2
      subst g2
      simp only [List.length_cons, List.length_nil] at g1 h2
      repeat' (first | ((first | refine AW.sregD hmix rfl fun K hK => ?_ | refine AW.reg rfl ?_); simp only [go_sem, ↓reduceIte, List.length_map]) | (refine AW.seq_k fun K hK => ?_) | (refine AW.exit ?_; simp only [go_sem, ↓reduceIte]) | (refine AW.cF ?_) | (refine hK _ ?_; clear hK K) | (clear hK K; refine hK _ ?_; clear hK K) | (refine stepBT_split (fun h => ?_) (fun h => ?_) <;> (have hb0 := h) <;> (try simp only [Bool.not_eq_true', Bool.not_eq_false'] at hb0) <;> (try simp only [decide_eq_true_eq, decide_eq_false_iff_not, Bool.not_eq_true', Bool.not_eq_false', Bool.not_eq_eq_eq_not, Bool.not_true, Bool.not_false, beq_iff_eq, bne_iff_ne, beq_eq_false_iff_ne, ne_eq, Bool.and_eq_true, Bool.or_eq_true, Bool.or_eq_false_iff] at h) <;> simp only [go_sem, ↓reduceIte, hb0, h, decide_true, decide_false, List.length_map] <;> (try clear hb0)) | (with_reducible refine And.intro (?_ : regOk _ _ = true) ?_; kernel_rfl) | (with_reducible refine andI ?_) | (exfalso; omega))
      exact ⟨(d.length + 1, x :: q, r), ⟨by simp only; omega, by simp only [List.length_cons]; omega, .inl (by simp only [List.length_cons]; omega), h4⟩, by simp only; omega, (Weak.aC hcx (by refine ⟨?_, ?_, ?_⟩ <;> simp [go_sem, gL, kL, renOf, V.obj, Nat.blt, Nat.ble, List.map_append, dv_push]))⟩
    · have e1 : (dv ((List.reverse (y :: pr) ++ x :: (q ++ r)).map boD))[0 + (pr.length + 1)]? = some (.d (boD x)) := by
        have := get_mid (List.reverse (y :: pr)) x (q ++ r)
        simp only [List.length_reverse, List.length_cons] at this
        simp only [dv, Nat.zero_add, List.getElem?_map, this, Option.map_some]
      have e2 : (dv ((List.reverse (y :: pr) ++ x :: (q ++ r)).map boD))[0 + pr.length]? = some (.d (boD y)) := by
        have := get_mid (List.reverse pr) y (x :: (q ++ r))
        simp only [List.length_reverse] at this
        simp only [dv, Nat.zero_add, List.getElem?_map, List.reverse_cons, List.append_assoc, List.cons_append, List.nil_append, this, Option.map_some]
      have e3 : (((pr.length + 1 : Nat) : Int) - 1).toNat = pr.length := by omega
      simp only [List.length_cons] at g1 h2
      simp only [insP, hlt] at g2
      have e4 : (((dv ((List.reverse (y :: pr) ++ x :: (q ++ r)).map boD)).set (0 + (pr.length + 1)) (.d (boD y))).set (0 + pr.length) (.d (boD x))) = dv ((pr.reverse ++ x :: ((y :: q) ++ r)).map boD) := by
        have := swap_mid (dv (pr.reverse.map boD)) (V.d (boD x)) (V.d (boD y)) (dv ((q ++ r).map boD))
        simp only [dv, List.length_map, List.length_reverse, List.map_append, List.map_cons, List.reverse_cons, List.append_assoc, List.cons_append, List.nil_append, List.map_nil] at this ⊢
        exact this
      have e5 : ((dv ((List.reverse (y :: pr) ++ x :: (q ++ r)).map boD)).set (0 + (pr.length + 1)) (.d (boD y)))[0 + pr.length]? = some (.d (boD y)) := by
        rw [List.getElem?_set_ne (by omega)]
        exact e2
      repeat' (first | ((first | refine AW.sregD hmix rfl fun K hK => ?_ | refine AW.reg rfl ?_ | refine AW.regD hmix rfl ?_ | refine runT_call _ _ [] (fun hv _ => (hc x y).pure rfl rfl hv _) rfl rfl (dstOk_of rfl) rfl rfl ?_); simp only [go_sem, ↓reduceIte, List.length_map, e1, e2, e3, e4, e5, List.length_cons, or_self, true_or, or_true]) | (refine AW.seq_k fun K hK => ?_) | (refine AW.block ?_) | (refine AW.skip ?_; simp only [Then, InBlock]) | (refine AW.exit ?_; simp only [go_sem, ↓reduceIte]) | (refine AW.cT ?_) | (refine AW.cond rfl (fun h => ?_) (fun h => ?_) <;> (try simp only [decide_eq_true_eq, decide_eq_false_iff_not, Bool.not_eq_true', Bool.not_eq_false', Bool.not_eq_eq_eq_not, Bool.not_true, Bool.not_false, beq_iff_eq, bne_iff_ne, beq_eq_false_iff_ne, ne_eq, Bool.and_eq_true, Bool.or_eq_true, Bool.or_eq_false_iff] at h)) | (refine hK _ ?_; clear hK K) | (clear hK K; refine hK _ ?_; clear hK K) | (refine stepBT_split (fun h => ?_) (fun h => ?_) <;> (have hb0 := h) <;> (try simp only [Bool.not_eq_true', Bool.not_eq_false'] at hb0) <;> (try simp only [decide_eq_true_eq, decide_eq_false_iff_not, Bool.not_eq_true', Bool.not_eq_false', Bool.not_eq_eq_eq_not, Bool.not_true, Bool.not_false, beq_iff_eq, bne_iff_ne, beq_eq_false_iff_ne, ne_eq, Bool.and_eq_true, Bool.or_eq_true, Bool.or_eq_false_iff] at h) <;> simp only [go_sem, ↓reduceIte, hb0, h, decide_true, decide_false, List.length_map, e1, e2, e3, e4, e5, List.length_cons, or_self, true_or, or_true] <;> (try clear hb0)) | (with_reducible refine And.intro (?_ : regOk _ _ = true) ?_; kernel_rfl) | (with_reducible refine andI ?_) | (exfalso; omega))
      · rw [if_pos (by simpa using h)] at g2
        exact ⟨(pr, y :: q), ⟨by simp only [List.length_cons]; omega, g2⟩, by simp only [List.length_cons]; omega, (Weak.aC hcx (by refine ⟨?_, ?_, ?_⟩ <;> simp [go_sem, gL, kL, renOf, V.obj, Nat.blt, Nat.ble, List.map_append, dv_push]))⟩
      · rw [if_neg (by simpa using h)] at g2
        subst g2
        exact ⟨(d.length + 1, (y :: pr).reverse ++ x :: q, r), ⟨by simp only; omega, by simp only [List.length_append, List.length_reverse, List.length_cons]; omega, .inl (by simp only [List.length_append, List.length_reverse, List.length_cons]; omega), h4⟩, by simp only; omega, (Weak.aC hcx (by refine ⟨?_, ?_, ?_⟩ <;> simp [go_sem, gL, kL, renOf, V.obj, Nat.blt, Nat.ble, List.map_append, dv_push]))⟩
  · have hr : r = [] := by
      cases r with
      | nil => rfl
      | cons x r => simp only [List.length_cons] at h2; omega
    subst hr
    simp only [isGo] at h4
    subst h4
    repeat' (first | (refine AW.sreg rfl fun K hK => ?_; simp only [go_sem, ↓reduceIte, List.length_map, List.append_nil]) | (refine AW.seq_k fun K hK => ?_) | (refine AW.exit ?_; simp only [go_sem, ↓reduceIte]) | (refine AW.cF ?_) | (refine hK _ ?_; clear hK K))
    exact Fin.one rfl rfl ⟨_, rfl, by simp [go_sem]⟩ rfl (by simp [go_sem]) rfl
theorem pdqsort_Bo (lt : Bo → Bo → Bool) (cv : Bo → Bo → Int) (hlt : ∀ x y, lt x y = decide (cv x y < 0)) (c : Nat) (hc : ∀ x y, Does Tryz.prog c [.d (boD x), .d (boD y)] [] (I (cv x y)) []) (xs : List Bo) (hl : xs.length ≤ 12) (m : Int) :
    Does Tryz.prog 100 [.slr 0 0 xs.length, I 0, I xs.length, I m, .fn c []] [.vec 70 2 (dv (xs.map boD))] (.tup []) [.vec 70 2 (dv ((isort lt xs).map boD))] := by
  refine Does.of_AW (n := 148) Tryz.func100 rfl rfl rfl fun cx hcx => ?_
  repeat' (first | (refine AW.sreg rfl fun K hK => ?_; simp only [go_sem, ↓reduceIte, List.length_map]) | (refine AW.block ?_) | (refine hK _ ?_; clear hK K))
  refine AW.loopF (ι := Unit) [0, 4] (fun p => [(1, I 0), (2, I xs.length), (3, I m), (10, B true), (11, B true)]) (fun p => [(0, some (O.vec 70 2 (dv (xs.map boD))))]) 1 (fun p => True) (fun p => 0) () trivial (Weak.aC hcx (by refine ⟨?_, ?_, ?_⟩ <;> simp [go_sem, gL, kL, renOf, V.obj, Nat.blt, Nat.ble, List.map_append, dv_push])) ?_; simp only [St.at_nil, St.at_cons, lk, Nat.reduceEqDiff, ↓reduceIte, Option.getD_some, Option.getD_none, List.cons_append, List.nil_append, List.append_nil]
  rintro ⟨⟩ _
  repeat' (first | ((first | refine AW.sreg rfl fun K hK => ?_ | refine run_call _ _ _ ((insertionSort_Bo lt cv hlt c hc xs (by omega)).objA [0]) rfl rfl (dstOk_of rfl) rfl rfl rfl ?_); simp only [go_sem, ↓reduceIte, List.length_map, Int.sub_zero]) | (refine AW.seq_k fun K hK => ?_) | (refine AW.block ?_) | (refine AW.cT ?_) | (refine hK _ ?_; clear hK K) | (with_reducible refine andI ?_))
  exact AW.ret (Fin.one rfl rfl ⟨_, rfl, by simp [go_sem]⟩ rfl (by simp [go_sem]) rfl)
theorem sortFunc_Bo (lt : Bo → Bo → Bool) (cv : Bo → Bo → Int) (hlt : ∀ x y, lt x y = decide (cv x y < 0)) (c : Nat) (hc : ∀ x y, Does Tryz.prog c [.d (boD x), .d (boD y)] [] (I (cv x y)) []) (xs : List Bo) (hl : xs.length ≤ 12) :
    Does Tryz.prog 32 [.slr 0 0 xs.length, .fn c []] [.vec 70 2 (dv (xs.map boD))] (.tup []) [.vec 70 2 (dv ((isort lt xs).map boD))] := by
  refine Does.of_AW (n := 14) Tryz.func32 rfl rfl rfl fun cx hcx => ?_
  have hw := wrap_small xs.length (by omega)
  repeat' (first | ((first | refine AW.sreg rfl fun K hK => ?_ | refine AW.reg rfl ?_ | refine run_call _ _ _ ((len_ok xs.length hl).pure rfl rfl _ _) rfl rfl (dstOk_of rfl) rfl rfl rfl ?_ | refine run_call _ _ _ ((pdqsort_Bo lt cv hlt c hc xs hl _).objA [0]) rfl rfl (dstOk_of rfl) rfl rfl rfl ?_); simp only [go_sem, ↓reduceIte, List.length_map, hw]) | (refine hK _ ?_; clear hK K))
  exact Fin.one rfl rfl ⟨_, rfl, by simp [go_sem]⟩ rfl (by simp [go_sem]) rfl

theorem compactF_Wk (c : Nat) (xs : List (Wk)) (hl : xs.length ≤ 1000) (hc : ∀ x ∈ xs, ∀ y ∈ xs, Does Tryz.prog c [.d (wkD x), .d (wkD y)] [] (B (x == y)) []) :
    Does Tryz.prog 30 [.slr 0 0 xs.length, .fn c []] [.vec 68 2 (dv (xs.map wkD))] (.slr 0 0 (compactM xs).length) [.vec 68 2 (dv ((compactM xs).map wkD) ++ List.replicate (xs.length - (compactM xs).length) (V.agg [I 0, V.nils]))] := by
  cases xs with
  | nil =>
    refine Does.of_AW (n := 66) Tryz.func30 rfl rfl rfl fun cx hcx => ?_
    repeat' (first | (refine AW.sreg rfl fun K hK => ?_; simp only [go_sem, ↓reduceIte]) | (refine AW.seq_k fun K hK => ?_) | (refine AW.cT ?_) | (refine hK _ ?_; clear hK K))
    exact AW.ret (Fin.one rfl (by simp [go_sem, compactM]) ⟨_, rfl, by simp [go_sem, compactM]⟩ rfl (by simp [go_sem, belL_app2, belL_rep (show V.bel 1 (V.agg [I 0, V.nils]) = true from rfl)]) rfl)
  | cons x0 r0 =>
  generalize hxs : x0 :: r0 = xs at *
  refine Does.of_AW (n := 66) Tryz.func30 rfl rfl rfl fun cx hcx => ?_
  repeat' (first | (refine AW.sreg rfl fun K hK => ?_; simp only [go_sem, ↓reduceIte, List.length_map]) | (refine AW.seq_k fun K hK => ?_) | (refine AW.block ?_) | (refine AW.skip ?_; simp only [Then, InBlock]) | (refine AW.cond rfl (fun h => ?_) (fun h => ?_) <;> (try simp only [decide_eq_true_eq, decide_eq_false_iff_not, Bool.not_eq_true', Bool.not_eq_false', Bool.not_eq_eq_eq_not, Bool.not_true, Bool.not_false, beq_iff_eq, bne_iff_ne, beq_eq_false_iff_ne, ne_eq, Bool.and_eq_true, Bool.or_eq_true, Bool.or_eq_false_iff] at h)) | (refine hK _ ?_; clear hK K))
  · have : r0 = [] := by
      rw [← hxs] at h; cases r0 with
      | nil => rfl
      | cons => simp at h; omega
    subst this
    subst hxs
    exact AW.ret (Fin.one rfl (by simp [go_sem, compactM, ctM]) ⟨_, rfl, by simp [go_sem, compactM, ctM]⟩ rfl (by simp [go_sem, belL_app2, belL_rep (show V.bel 1 (V.agg [I 0, V.nils]) = true from rfl)]) rfl)
  refine AW.loopF (ι := Nat) [0, 1] (fun p => [(5, I p)]) (fun p => [(0, some (O.vec 68 2 (dv (xs.map wkD))))]) 1 (fun p => 1 ≤ p ∧ p ≤ xs.length ∧ ∀ y, xs[p - 1]? = some y → xs.take p ++ ctM y (xs.drop p) = compactM xs) (fun p => xs.length - p) 1 ⟨by simp, by omega, by rw [← hxs]; intro y hy; simp at hy; subst hy; simp [compactM]⟩ (Weak.aC hcx (by refine ⟨?_, ?_, ?_⟩ <;> simp [go_sem, gL, kL, renOf, V.obj, Nat.blt, Nat.ble, List.map_append, dv_push])) ?_; simp only [St.at_nil, St.at_cons, lk, Nat.reduceEqDiff, ↓reduceIte, Option.getD_some, Option.getD_none, List.cons_append, List.nil_append, List.append_nil]
  rintro k ⟨h1, h2, h3⟩
  by_cases hi : k < xs.length
  · obtain ⟨x, hx, hxm, hxd⟩ := get_some hi
    obtain ⟨y, hy, hym, hyd⟩ := get_some (show k - 1 < xs.length by omega)
    have hget : (dv (xs.map wkD))[0 + k]? = some (.d (wkD x)) := by simp only [dv, Nat.zero_add, List.getElem?_map, hx, Option.map_some]
    have hget2 : (dv (xs.map wkD))[0 + ((k : Int) - 1).toNat]? = some (.d (wkD y)) := by
      rw [show ((k : Int) - 1).toNat = k - 1 by omega]
      simp only [dv, Nat.zero_add, List.getElem?_map, hy, Option.map_some]
    have h3 := h3 y hy
    rw [hxd, ctM] at h3
    have heq := hc x hxm y hym
    cases hb : (x == y) with
    | false =>
      rw [hb] at heq h3
      simp only [Bool.false_eq_true, if_false] at h3
      repeat' (first | ((first | refine AW.sreg rfl fun K hK => ?_ | refine AW.sregD hmix rfl fun K hK => ?_ | refine AW.reg rfl ?_ | refine runT_call _ _ [] (fun hv _ => (heq).pure rfl rfl hv _) rfl rfl (dstOk_of rfl) rfl rfl ?_); simp only [go_sem, ↓reduceIte, List.length_map, hget, hget2]) | (refine AW.seq_k fun K hK => ?_) | (refine AW.block ?_) | (refine AW.skip ?_; simp only [Then, InBlock]) | (refine AW.cT ?_) | (refine AW.cF ?_) | (refine hK _ ?_; clear hK K) | (with_reducible refine And.intro (?_ : regOk _ _ = true) ?_; kernel_rfl) | (with_reducible refine andI ?_))
      refine ⟨k + 1, ⟨by omega, hi, fun z hz => ?_⟩, by omega, (Weak.aC hcx (by refine ⟨?_, ?_, ?_⟩ <;> simp [go_sem, gL, kL, renOf, V.obj, Nat.blt, Nat.ble, List.map_append, dv_push]))⟩
      rw [Nat.add_sub_cancel, hx] at hz
      cases hz
      rw [← h3, List.take_add_one, hx]
      simp
    | true =>
      rw [hb] at heq h3
      simp only [if_true] at h3
      obtain rfl : x = y := by simpa using hb
      repeat' (first | ((first | refine AW.sreg rfl fun K hK => ?_ | refine AW.sregD hmix rfl fun K hK => ?_ | refine runT_call _ _ [] (fun hv _ => (heq).pure rfl rfl hv _) rfl rfl (dstOk_of rfl) rfl rfl ?_); simp only [go_sem, ↓reduceIte, List.length_map, hget, hget2]) | (refine AW.seq_k fun K hK => ?_) | (refine AW.block ?_) | (refine AW.skip ?_; simp only [Then, InBlock]) | (refine AW.cT ?_) | (refine hK _ ?_; clear hK K) | (with_reducible refine And.intro (?_ : regOk _ _ = true) ?_; kernel_rfl) | (with_reducible refine andI ?_))
      refine AW.loopF (ι := Nat × List (Wk) × List (Wk) × Wk) [0, 1, 6] (fun p => [(5, I p.2.1.length), (7, I p.1)]) (fun p => [(0, some (O.vec 68 2 (dv ((p.2.1 ++ (p.2.2.1 ++ p.2.2.2 :: xs.drop (k + p.1))).map wkD))))]) 1 (fun p => 1 ≤ p.1 ∧ k + p.1 ≤ xs.length ∧ p.2.1.length + p.2.2.1.length + 1 = k + p.1 ∧ p.2.1 ++ ctM p.2.2.2 (xs.drop (k + p.1)) = compactM xs ∧ p.2.2.2 ∈ xs) (fun p => xs.length - p.1) (1, xs.take k, [], x) ⟨by simp, by simp only; omega, by simp; omega, h3, hxm⟩ (Weak.aC hcx (by refine ⟨?_, ?_, ?_⟩ <;> simp [go_sem, gL, kL, renOf, V.obj, Nat.blt, Nat.ble, List.map_append, dv_push, ← hxd, List.take_append_drop, Nat.min_eq_left (Nat.le_of_lt hi)])) ?_; simp only [St.at_nil, St.at_cons, lk, Nat.reduceEqDiff, ↓reduceIte, Option.getD_some, Option.getD_none, List.cons_append, List.nil_append, List.append_nil]
      rintro ⟨k2, A, G, y⟩ ⟨g1, g2, g3, g4, hyq⟩
      simp only at g1 g2 g3 g4 hyq ⊢
      by_cases hj : k + k2 < xs.length
      · obtain ⟨z, hz, hzm, hzd⟩ := get_some hj
        have e1 : (dv ((A ++ (G ++ y :: xs.drop (k + k2))).map wkD))[0 + k + k2]? = some (.d (wkD z)) := by
          have : (A ++ (G ++ y :: xs.drop (k + k2)))[k + k2]? = some z := by
            rw [show A ++ (G ++ y :: xs.drop (k + k2)) = (A ++ (G ++ [y])) ++ xs.drop (k + k2) by simp, List.getElem?_append_right (by simp; omega), show k + k2 - (A ++ (G ++ [y])).length = 0 by simp; omega, hzd]
            rfl
          simp only [dv, Nat.zero_add, List.getElem?_map, this, Option.map_some]
        have e2 : (dv ((A ++ (G ++ y :: xs.drop (k + k2))).map wkD))[0 + k + ((k2 : Int) - 1).toNat]? = some (.d (wkD y)) := by
          have : (A ++ (G ++ y :: xs.drop (k + k2)))[k + ((k2 : Int) - 1).toNat]? = some y := by
            rw [show A ++ (G ++ y :: xs.drop (k + k2)) = (A ++ G) ++ (y :: xs.drop (k + k2)) by simp, List.getElem?_append_right (by simp; omega), show k + ((k2 : Int) - 1).toNat - (A ++ G).length = 0 by simp; omega]
            rfl
          simp only [dv, Nat.zero_add, List.getElem?_map, this, Option.map_some]
        have hlen : (A ++ (G ++ y :: xs.drop (k + k2))).length = xs.length := by simp; omega
        have heq2 := hc z hzm y hyq
        rw [hzd, ctM] at g4
        cases hb2 : (z == y) with
        | true =>
          rw [hb2] at heq2 g4
          simp only [if_true] at g4
          obtain rfl : z = y := by simpa using hb2
          repeat' (first | ((first | refine AW.sreg rfl fun K hK => ?_ | refine AW.sregD hmix rfl fun K hK => ?_ | refine AW.reg rfl ?_ | refine runT_call _ _ [] (fun hv _ => (heq2).pure rfl rfl hv _) rfl rfl (dstOk_of rfl) rfl rfl ?_); simp only [go_sem, ↓reduceIte, List.length_map, e1, e2]) | (refine AW.seq_k fun K hK => ?_) | (refine AW.block ?_) | (refine AW.skip ?_; simp only [Then, InBlock]) | (refine AW.cT ?_) | (refine AW.cF ?_) | (refine hK _ ?_; clear hK K) | (with_reducible refine And.intro (?_ : regOk _ _ = true) ?_; kernel_rfl) | (with_reducible refine andI ?_))
          refine ⟨(k2 + 1, A, G ++ [z], z), ⟨by simp only; omega, by simp only; omega, by simp; omega, by simpa [Nat.add_assoc] using g4, hzm⟩, by simp only; omega, (Weak.aC hcx (by refine ⟨?_, ?_, ?_⟩ <;> simp [go_sem, gL, kL, renOf, V.obj, Nat.blt, Nat.ble, List.map_append, dv_push, hzd, Nat.add_assoc]))⟩
        | false =>
          rw [hb2] at heq2 g4
          simp only [Bool.false_eq_true, if_false] at g4
          rcases G with _ | ⟨g0, G⟩
          · have hset : (dv ((A ++ ([] ++ y :: xs.drop (k + k2))).map wkD)).set (0 + A.length) (.d (wkD z)) = dv (((A ++ [z]) ++ xs.drop (k + k2)).map wkD) := by
              have := set_mid (dv (A.map wkD)) (V.d (wkD y)) (dv ((xs.drop (k + k2)).map wkD)) (V.d (wkD z))
              simpa [dv] using this
            simp only [List.nil_append, List.cons_append] at e1 e2 hset hlen
            have e3 : (dv ((A ++ y :: xs.drop (k + k2)).map wkD))[0 + A.length]? = some (.d (wkD y)) := by
              have := get_mid A y (xs.drop (k + k2))
              simp only [dv, Nat.zero_add, List.getElem?_map, this, Option.map_some]
            repeat' (first | ((first | refine AW.sreg rfl fun K hK => ?_ | refine AW.sregD hmix rfl fun K hK => ?_ | refine AW.reg rfl ?_ | refine runT_call _ _ [] (fun hv _ => (heq2).pure rfl rfl hv _) rfl rfl (dstOk_of rfl) rfl rfl ?_); simp only [go_sem, ↓reduceIte, List.length_map, e1, e2, e3, hset]) | (refine AW.seq_k fun K hK => ?_) | (refine AW.block ?_) | (refine AW.skip ?_; simp only [Then, InBlock]) | (refine AW.cT ?_) | (refine hK _ ?_; clear hK K) | (with_reducible refine And.intro (?_ : regOk _ _ = true) ?_; kernel_rfl) | (with_reducible refine andI ?_))
            refine ⟨(k2 + 1, A ++ [z], [], z), ⟨by simp only; omega, by simp only; omega, by simp at g3 ⊢; omega, by simpa [Nat.add_assoc] using g4, hzm⟩, by simp only; omega, (Weak.aC hcx (by refine ⟨?_, ?_, ?_⟩ <;> simp [go_sem, gL, kL, renOf, V.obj, Nat.blt, Nat.ble, List.map_append, dv_push, hzd, Nat.add_assoc]))⟩
          · have hset : (dv ((A ++ ((g0 :: G) ++ y :: xs.drop (k + k2))).map wkD)).set (0 + A.length) (.d (wkD z)) = dv (((A ++ [z]) ++ (G ++ y :: xs.drop (k + k2))).map wkD) := by
              have := set_mid (dv (A.map wkD)) (V.d (wkD g0)) (dv ((G ++ y :: xs.drop (k + k2)).map wkD)) (V.d (wkD z))
              simpa [dv] using this
            simp only [List.nil_append, List.cons_append] at e1 e2 hset hlen
            have e3 : (dv ((A ++ g0 :: (G ++ y :: xs.drop (k + k2))).map wkD))[0 + A.length]? = some (.d (wkD g0)) := by
              have := get_mid A g0 (G ++ y :: xs.drop (k + k2))
              simp only [dv, Nat.zero_add, List.getElem?_map, this, Option.map_some]
            repeat' (first | ((first | refine AW.sreg rfl fun K hK => ?_ | refine AW.sregD hmix rfl fun K hK => ?_ | refine AW.reg rfl ?_ | refine runT_call _ _ [] (fun hv _ => (heq2).pure rfl rfl hv _) rfl rfl (dstOk_of rfl) rfl rfl ?_); simp only [go_sem, ↓reduceIte, List.length_map, e1, e2, e3, hset]) | (refine AW.seq_k fun K hK => ?_) | (refine AW.block ?_) | (refine AW.skip ?_; simp only [Then, InBlock]) | (refine AW.cT ?_) | (refine hK _ ?_; clear hK K) | (with_reducible refine And.intro (?_ : regOk _ _ = true) ?_; kernel_rfl) | (with_reducible refine andI ?_))
            refine ⟨(k2 + 1, A ++ [z], G ++ [y], z), ⟨by simp only; omega, by simp only; omega, by simp at g3 ⊢; omega, by simpa [Nat.add_assoc] using g4, hzm⟩, by simp only; omega, (Weak.aC hcx (by refine ⟨?_, ?_, ?_⟩ <;> simp [go_sem, gL, kL, renOf, V.obj, Nat.blt, Nat.ble, List.map_append, dv_push, hzd, Nat.add_assoc]))⟩
      · have hn : k + k2 = xs.length := by omega
        rw [hn, List.drop_length, ctM, List.append_nil] at g4
        subst g4
        have hcl : (dv ((compactM xs ++ (G ++ [y])).map wkD)).take (0 + (compactM xs).length) ++ List.replicate (xs.length - (compactM xs).length) (V.agg [I 0, V.nils]) ++ (dv ((compactM xs ++ (G ++ [y])).map wkD)).drop (0 + (compactM xs).length + (xs.length - (compactM xs).length)) = dv ((compactM xs).map wkD) ++ List.replicate (xs.length - (compactM xs).length) (V.agg [I 0, V.nils]) := by
          rw [List.drop_eq_nil_of_le (by simp [dv]; omega), List.append_nil]
          simp [dv]
        repeat' (first | (refine AW.sreg rfl fun K hK => ?_; simp only [go_sem, ↓reduceIte, List.length_map, hn, List.drop_length, hcl]) | (refine AW.seq_k fun K hK => ?_) | (refine AW.exit ?_; simp only [go_sem, ↓reduceIte]) | (refine AW.cF ?_) | (refine hK _ ?_; clear hK K) | (clear hK K; refine hK _ ?_; clear hK K) | (with_reducible refine andI ?_))
        exact AW.ret (Fin.one rfl (by simp [go_sem]) ⟨_, rfl, by simp only [O.frz, O.ren]; rw [frzL_app2, frzL_rep rfl, renL_app2, renL_rep rfl]; simp [go_sem]⟩ rfl (by simp only [O.bel, List.all_cons, List.all_nil, Bool.and_true]; rw [belL_app2, belL_rep rfl]; simp [go_sem]) rfl)
  · obtain rfl : k = xs.length := by omega
    obtain ⟨y, hy, -, -⟩ := get_some (show xs.length - 1 < xs.length by omega)
    replace h3 := h3 y hy
    simp only [List.take_length, List.drop_length, ctM, List.append_nil] at h3
    replace h3 := h3.symm
    clear hxs hy h1 h2
    repeat' (first | (refine AW.sreg rfl fun K hK => ?_; simp only [go_sem, ↓reduceIte, List.length_map]) | (refine AW.seq_k fun K hK => ?_) | (refine AW.exit ?_; simp only [go_sem, ↓reduceIte]) | (refine AW.cF ?_) | (refine hK _ ?_; clear hK K) | (clear hK K; refine hK _ ?_; clear hK K))
    exact AW.ret (Fin.one rfl (by simp [go_sem, h3]) ⟨_, rfl, by simp [go_sem, h3]⟩ rfl (by simp [go_sem, belL_app2, belL_rep (show V.bel 1 (V.agg [I 0, V.nils]) = true from rfl)]) rfl)

theorem compact_Bo (xs : List (Bo)) (hl : xs.length ≤ 1000) :
    Does Tryz.prog 34 [.slr 0 0 xs.length] [.vec 70 2 (dv (xs.map boD))] (.slr 0 0 (compactM xs).length) [.vec 70 2 (dv ((compactM xs).map boD ++ List.replicate (xs.length - (compactM xs).length) (boD ([], []))))] := by
  cases xs with
  | nil =>
    refine Does.of_AW (n := 61) Tryz.func34 rfl rfl rfl fun cx hcx => ?_
    repeat' (first | (refine AW.sreg rfl fun K hK => ?_; simp only [go_sem, ↓reduceIte]) | (refine AW.seq_k fun K hK => ?_) | (refine AW.cT ?_) | (refine hK _ ?_; clear hK K))
    exact AW.ret (Fin.one rfl (by simp [go_sem, compactM]) ⟨_, rfl, by simp [go_sem, compactM]⟩ rfl (by simp [go_sem]) rfl)
  | cons x0 r0 =>
  generalize hxs : x0 :: r0 = xs at *
  refine Does.of_AW (n := 61) Tryz.func34 rfl rfl rfl fun cx hcx => ?_
  repeat' (first | (refine AW.sreg rfl fun K hK => ?_; simp only [go_sem, ↓reduceIte, List.length_map]) | (refine AW.seq_k fun K hK => ?_) | (refine AW.block ?_) | (refine AW.skip ?_; simp only [Then, InBlock]) | (refine AW.cond rfl (fun h => ?_) (fun h => ?_) <;> (try simp only [decide_eq_true_eq, decide_eq_false_iff_not, Bool.not_eq_true', Bool.not_eq_false', Bool.not_eq_eq_eq_not, Bool.not_true, Bool.not_false, beq_iff_eq, bne_iff_ne, beq_eq_false_iff_ne, ne_eq, Bool.and_eq_true, Bool.or_eq_true, Bool.or_eq_false_iff] at h)) | (refine hK _ ?_; clear hK K))
  · have : r0 = [] := by
      rw [← hxs] at h; cases r0 with
      | nil => rfl
      | cons => simp at h; omega
    subst this
    subst hxs
    exact AW.ret (Fin.one rfl (by simp [go_sem, compactM, ctM]) ⟨_, rfl, by simp [go_sem, compactM, ctM]⟩ rfl (by simp [go_sem]) rfl)
  refine AW.loopF (ι := Nat) [0] (fun p => [(3, I p)]) (fun p => [(0, some (O.vec 70 2 (dv (xs.map boD))))]) 1 (fun p => 1 ≤ p ∧ p ≤ xs.length ∧ ∀ y, xs[p - 1]? = some y → xs.take p ++ ctM y (xs.drop p) = compactM xs) (fun p => xs.length - p) 1 ⟨by simp, by omega, by rw [← hxs]; intro y hy; simp at hy; subst hy; simp [compactM]⟩ (Weak.aC hcx (by refine ⟨?_, ?_, ?_⟩ <;> simp [go_sem, gL, kL, renOf, V.obj, Nat.blt, Nat.ble, List.map_append, dv_push])) ?_; simp only [St.at_nil, St.at_cons, lk, Nat.reduceEqDiff, ↓reduceIte, Option.getD_some, Option.getD_none, List.cons_append, List.nil_append, List.append_nil]
  rintro k ⟨h1, h2, h3⟩
  by_cases hi : k < xs.length
  · obtain ⟨x, hx, hxm, hxd⟩ := get_some hi
    obtain ⟨y, hy, hym, hyd⟩ := get_some (show k - 1 < xs.length by omega)
    have hget : (dv (xs.map boD))[0 + k]? = some (.d (boD x)) := by simp only [dv, Nat.zero_add, List.getElem?_map, hx, Option.map_some]
    have hget2 : (dv (xs.map boD))[0 + ((k : Int) - 1).toNat]? = some (.d (boD y)) := by
      rw [show ((k : Int) - 1).toNat = k - 1 by omega]
      simp only [dv, Nat.zero_add, List.getElem?_map, hy, Option.map_some]
    have h3 := h3 y hy
    rw [hxd, ctM] at h3
    have heq : ((fun (x y : Bo) => x.1 == y.1 && x.2 == y.2) x y) = (x == y) := rfl
    dsimp only at heq
    cases hb : (x == y) with
    | false =>
      rw [hb] at heq h3
      simp only [Bool.false_eq_true, if_false] at h3
      repeat' (first | ((first | refine AW.sreg rfl fun K hK => ?_ | refine AW.sregD hmix rfl fun K hK => ?_ | refine AW.reg rfl ?_); simp only [go_sem, ↓reduceIte, List.length_map, hget, hget2, heq]) | (refine AW.seq_k fun K hK => ?_) | (refine AW.block ?_) | (refine AW.skip ?_; simp only [Then, InBlock]) | (refine AW.cT ?_) | (refine AW.cF ?_) | (refine hK _ ?_; clear hK K) | (with_reducible refine And.intro (?_ : regOk _ _ = true) ?_; kernel_rfl) | (with_reducible refine andI ?_))
      refine ⟨k + 1, ⟨by omega, hi, fun z hz => ?_⟩, by omega, (Weak.aC hcx (by refine ⟨?_, ?_, ?_⟩ <;> simp [go_sem, gL, kL, renOf, V.obj, Nat.blt, Nat.ble, List.map_append, dv_push]))⟩
      rw [Nat.add_sub_cancel, hx] at hz
      cases hz
      rw [← h3, List.take_add_one, hx]
      simp
    | true =>
      rw [hb] at heq h3
      simp only [if_true] at h3
      obtain rfl : x = y := by simpa using hb
      repeat' (first | ((first | refine AW.sreg rfl fun K hK => ?_ | refine AW.sregD hmix rfl fun K hK => ?_); simp only [go_sem, ↓reduceIte, List.length_map, hget, hget2, heq]) | (refine AW.seq_k fun K hK => ?_) | (refine AW.block ?_) | (refine AW.skip ?_; simp only [Then, InBlock]) | (refine AW.cT ?_) | (refine hK _ ?_; clear hK K) | (with_reducible refine And.intro (?_ : regOk _ _ = true) ?_; kernel_rfl) | (with_reducible refine andI ?_))
      refine AW.loopF (ι := Nat × List (Bo) × List (Bo) × Bo) [0, 4] (fun p => [(3, I p.2.1.length), (5, I p.1)]) (fun p => [(0, some (O.vec 70 2 (dv ((p.2.1 ++ (p.2.2.1 ++ p.2.2.2 :: xs.drop (k + p.1))).map boD))))]) 1 (fun p => 1 ≤ p.1 ∧ k + p.1 ≤ xs.length ∧ p.2.1.length + p.2.2.1.length + 1 = k + p.1 ∧ p.2.1 ++ ctM p.2.2.2 (xs.drop (k + p.1)) = compactM xs) (fun p => xs.length - p.1) (1, xs.take k, [], x) ⟨by simp, by simp only; omega, by simp; omega, h3⟩ (Weak.aC hcx (by refine ⟨?_, ?_, ?_⟩ <;> simp [go_sem, gL, kL, renOf, V.obj, Nat.blt, Nat.ble, List.map_append, dv_push, ← hxd, List.take_append_drop, Nat.min_eq_left (Nat.le_of_lt hi)])) ?_; simp only [St.at_nil, St.at_cons, lk, Nat.reduceEqDiff, ↓reduceIte, Option.getD_some, Option.getD_none, List.cons_append, List.nil_append, List.append_nil]
      rintro ⟨k2, A, G, y⟩ ⟨g1, g2, g3, g4⟩
      simp only at g1 g2 g3 g4 ⊢
      by_cases hj : k + k2 < xs.length
      · obtain ⟨z, hz, hzm, hzd⟩ := get_some hj
        have e1 : (dv ((A ++ (G ++ y :: xs.drop (k + k2))).map boD))[0 + k + k2]? = some (.d (boD z)) := by
          have : (A ++ (G ++ y :: xs.drop (k + k2)))[k + k2]? = some z := by
            rw [show A ++ (G ++ y :: xs.drop (k + k2)) = (A ++ (G ++ [y])) ++ xs.drop (k + k2) by simp, List.getElem?_append_right (by simp; omega), show k + k2 - (A ++ (G ++ [y])).length = 0 by simp; omega, hzd]
            rfl
          simp only [dv, Nat.zero_add, List.getElem?_map, this, Option.map_some]
        have e2 : (dv ((A ++ (G ++ y :: xs.drop (k + k2))).map boD))[0 + k + ((k2 : Int) - 1).toNat]? = some (.d (boD y)) := by
          have : (A ++ (G ++ y :: xs.drop (k + k2)))[k + ((k2 : Int) - 1).toNat]? = some y := by
            rw [show A ++ (G ++ y :: xs.drop (k + k2)) = (A ++ G) ++ (y :: xs.drop (k + k2)) by simp, List.getElem?_append_right (by simp; omega), show k + ((k2 : Int) - 1).toNat - (A ++ G).length = 0 by simp; omega]
            rfl
          simp only [dv, Nat.zero_add, List.getElem?_map, this, Option.map_some]
        have hlen : (A ++ (G ++ y :: xs.drop (k + k2))).length = xs.length := by simp; omega
        have heq2 : ((fun (x y : Bo) => x.1 == y.1 && x.2 == y.2) z y) = (z == y) := rfl
        dsimp only at heq2
        rw [hzd, ctM] at g4
        cases hb2 : (z == y) with
        | true =>
          rw [hb2] at heq2 g4
          simp only [if_true] at g4
          obtain rfl : z = y := by simpa using hb2
          repeat' (first | ((first | refine AW.sreg rfl fun K hK => ?_ | refine AW.sregD hmix rfl fun K hK => ?_ | refine AW.reg rfl ?_); simp only [go_sem, ↓reduceIte, List.length_map, e1, e2, heq2]) | (refine AW.seq_k fun K hK => ?_) | (refine AW.block ?_) | (refine AW.skip ?_; simp only [Then, InBlock]) | (refine AW.cT ?_) | (refine AW.cF ?_) | (refine hK _ ?_; clear hK K) | (with_reducible refine And.intro (?_ : regOk _ _ = true) ?_; kernel_rfl) | (with_reducible refine andI ?_))
          refine ⟨(k2 + 1, A, G ++ [z], z), ⟨by simp only; omega, by simp only; omega, by simp; omega, by simpa [Nat.add_assoc] using g4⟩, by simp only; omega, (Weak.aC hcx (by refine ⟨?_, ?_, ?_⟩ <;> simp [go_sem, gL, kL, renOf, V.obj, Nat.blt, Nat.ble, List.map_append, dv_push, hzd, Nat.add_assoc]))⟩
        | false =>
          rw [hb2] at heq2 g4
          simp only [Bool.false_eq_true, if_false] at g4
          rcases G with _ | ⟨g0, G⟩
          · have hset : (dv ((A ++ ([] ++ y :: xs.drop (k + k2))).map boD)).set (0 + A.length) (.d (boD z)) = dv (((A ++ [z]) ++ xs.drop (k + k2)).map boD) := by
              have := set_mid (dv (A.map boD)) (V.d (boD y)) (dv ((xs.drop (k + k2)).map boD)) (V.d (boD z))
              simpa [dv] using this
            simp only [List.nil_append, List.cons_append] at e1 e2 hset hlen
            have e3 : (dv ((A ++ y :: xs.drop (k + k2)).map boD))[0 + A.length]? = some (.d (boD y)) := by
              have := get_mid A y (xs.drop (k + k2))
              simp only [dv, Nat.zero_add, List.getElem?_map, this, Option.map_some]
            repeat' (first | ((first | refine AW.sreg rfl fun K hK => ?_ | refine AW.sregD hmix rfl fun K hK => ?_ | refine AW.reg rfl ?_); simp only [go_sem, ↓reduceIte, List.length_map, e1, e2, e3, heq2, hset]) | (refine AW.seq_k fun K hK => ?_) | (refine AW.block ?_) | (refine AW.skip ?_; simp only [Then, InBlock]) | (refine AW.cT ?_) | (refine hK _ ?_; clear hK K) | (with_reducible refine And.intro (?_ : regOk _ _ = true) ?_; kernel_rfl) | (with_reducible refine andI ?_))
            refine ⟨(k2 + 1, A ++ [z], [], z), ⟨by simp only; omega, by simp only; omega, by simp at g3 ⊢; omega, by simpa [Nat.add_assoc] using g4⟩, by simp only; omega, (Weak.aC hcx (by refine ⟨?_, ?_, ?_⟩ <;> simp [go_sem, gL, kL, renOf, V.obj, Nat.blt, Nat.ble, List.map_append, dv_push, hzd, Nat.add_assoc]))⟩
          · have hset : (dv ((A ++ ((g0 :: G) ++ y :: xs.drop (k + k2))).map boD)).set (0 + A.length) (.d (boD z)) = dv (((A ++ [z]) ++ (G ++ y :: xs.drop (k + k2))).map boD) := by
              have := set_mid (dv (A.map boD)) (V.d (boD g0)) (dv ((G ++ y :: xs.drop (k + k2)).map boD)) (V.d (boD z))
              simpa [dv] using this
            simp only [List.nil_append, List.cons_append] at e1 e2 hset hlen
            have e3 : (dv ((A ++ g0 :: (G ++ y :: xs.drop (k + k2))).map boD))[0 + A.length]? = some (.d (boD g0)) := by
              have := get_mid A g0 (G ++ y :: xs.drop (k + k2))
              simp only [dv, Nat.zero_add, List.getElem?_map, this, Option.map_some]
            repeat' (first | ((first | refine AW.sreg rfl fun K hK => ?_ | refine AW.sregD hmix rfl fun K hK => ?_ | refine AW.reg rfl ?_); simp only [go_sem, ↓reduceIte, List.length_map, e1, e2, e3, heq2, hset]) | (refine AW.seq_k fun K hK => ?_) | (refine AW.block ?_) | (refine AW.skip ?_; simp only [Then, InBlock]) | (refine AW.cT ?_) | (refine hK _ ?_; clear hK K) | (with_reducible refine And.intro (?_ : regOk _ _ = true) ?_; kernel_rfl) | (with_reducible refine andI ?_))
            refine ⟨(k2 + 1, A ++ [z], G ++ [y], z), ⟨by simp only; omega, by simp only; omega, by simp at g3 ⊢; omega, by simpa [Nat.add_assoc] using g4⟩, by simp only; omega, (Weak.aC hcx (by refine ⟨?_, ?_, ?_⟩ <;> simp [go_sem, gL, kL, renOf, V.obj, Nat.blt, Nat.ble, List.map_append, dv_push, hzd, Nat.add_assoc]))⟩
      · have hn : k + k2 = xs.length := by omega
        rw [hn, List.drop_length, ctM, List.append_nil] at g4
        subst g4
        have hcl : (dv ((compactM xs ++ (G ++ [y])).map boD)).take (0 + (compactM xs).length) ++ List.replicate (xs.length - (compactM xs).length) (V.d (boD ([], []))) ++ (dv ((compactM xs ++ (G ++ [y])).map boD)).drop (0 + (compactM xs).length + (xs.length - (compactM xs).length)) = dv ((compactM xs).map boD ++ List.replicate (xs.length - (compactM xs).length) (boD ([], []))) := by
          rw [List.drop_eq_nil_of_le (by simp [dv]; omega), List.append_nil]
          simp [dv]
        repeat' (first | (refine AW.sreg rfl fun K hK => ?_; simp only [go_sem, ↓reduceIte, List.length_map, hn, List.drop_length, hcl]) | (refine AW.seq_k fun K hK => ?_) | (refine AW.exit ?_; simp only [go_sem, ↓reduceIte]) | (refine AW.cF ?_) | (refine hK _ ?_; clear hK K) | (clear hK K; refine hK _ ?_; clear hK K) | (with_reducible refine andI ?_))
        exact AW.ret (Fin.one rfl (by simp [go_sem]) ⟨_, rfl, by simp [go_sem]⟩ rfl (by simp [go_sem]) rfl)
  · obtain rfl : k = xs.length := by omega
    obtain ⟨y, hy, -, -⟩ := get_some (show xs.length - 1 < xs.length by omega)
    replace h3 := h3 y hy
    simp only [List.take_length, List.drop_length, ctM, List.append_nil] at h3
    replace h3 := h3.symm
    clear hxs hy h1 h2
    repeat' (first | (refine AW.sreg rfl fun K hK => ?_; simp only [go_sem, ↓reduceIte, List.length_map]) | (refine AW.seq_k fun K hK => ?_) | (refine AW.exit ?_; simp only [go_sem, ↓reduceIte]) | (refine AW.cF ?_) | (refine hK _ ?_; clear hK K) | (clear hK K; refine hK _ ?_; clear hK K))
    exact AW.ret (Fin.one rfl (by simp [go_sem, h3]) ⟨_, rfl, by simp [go_sem, h3]⟩ rfl (by simp [go_sem]) rfl)

theorem sortWkR (xs : List Wk) (hb : ∀ x ∈ xs, wkB x) (hl : xs.length ≤ 12) :
    Does Tryz.prog 28 [.slr 0 0 xs.length, .fn 29 []] [.vec 68 2 (dv (xs.map wkD))] (.tup []) [.vec 68 2 (dv ((isort (fun a b => decide (cpW a b < 0)) xs).map wkD))] := by
  obtain ⟨ys, hy, hyl⟩ := exists_sub xs hb
  have h := sortFunc_Wk (fun a b => decide (cpW a.1 b.1 < 0)) (fun a b => cpW a.1 b.1) (fun _ _ => rfl) 29 workOrder_any ys (by omega)
  have e1 : ys.map wkS = xs.map wkD := by rw [← hy, List.map_map]; rfl
  have e2 : (isort (fun a b : WkS => decide (cpW a.1 b.1 < 0)) ys).map wkS = (isort (fun a b => decide (cpW a b < 0)) xs).map wkD := by
    rw [← hy, ← isort_map (fun y : WkS => y.1) (fun a b => decide (cpW a b < 0)) ys, List.map_map]
    rfl
  rw [e1, e2, hyl] at h
  exact h
theorem sortBoR (xs : List Bo) (hl : xs.length ≤ 12) :
    Does Tryz.prog 32 [.slr 0 0 xs.length, .fn 33 []] [.vec 70 2 (dv (xs.map boD))] (.tup []) [.vec 70 2 (dv ((isort (fun a b => decide (cpB a b < 0)) xs).map boD))] :=
  sortFunc_Bo (fun a b => decide (cpB a b < 0)) cpB (fun _ _ => rfl) 33 bondOrder_any xs hl
theorem sameWork (x y : Wk) (hx : wkB x) (hy : wkB y) : Does Tryz.prog 31 [.d (wkD x), .d (wkD y)] [] (B (x == y)) [] := by
  have ho := workOrder_any ⟨x, hx⟩ ⟨y, hy⟩
  simp only [wkS] at ho
  have e : (x == y) = (cpW x y == 0) := by
    rw [Bool.eq_iff_iff, beq_iff_eq, beq_iff_eq]
    exact (cp_work.eq x y).symm
  rw [e]
  generalize cpW x y = v at *
  refine Does.of_AW (n := 9) Tryz.func31 rfl rfl rfl fun cx hcx => ?_
  repeat' (first | ((first | refine AW.sreg rfl fun K hK => ?_ | refine run_call _ _ _ ((ho).pure rfl rfl _ _) rfl rfl (dstOk_of rfl) rfl rfl rfl ?_); simp only [go_sem, ↓reduceIte]) | (refine hK _ ?_; clear hK K))
  all_goals first | exact AW.ret (Fin.data rfl (by simp [go_sem]) rfl) | trace_state
end Go.AX

namespace Go.AX
open Go Go.Proofs Go.RowKit
theorem frz_slrQ {hv : Nat → Option O} {keep : Nat → Bool} {id e s n : Nat} {xs : List D} {vs : List V} (hk : keep id = false) (h : hv id = some (.vec e s (dv xs ++ vs))) (hn : n = xs.length) : frz hv keep (.slr id 0 n) = .d (.sl xs) := by
  subst hn
  have hle : xs.length ≤ xs.length + vs.length := Nat.le_add_right _ _
  have ht : (dv xs ++ vs).take xs.length = dv xs := by
    have := List.take_left' (l₁ := dv xs) (l₂ := vs) (i := xs.length) (by simp [dv])
    exact this
  have e : toD hv keep 8 (.slr id 0 xs.length) = some (.sl xs) := by
    rw [toD]
    simp only [hk, Bool.false_eq_true, if_false, h, dv_length, List.length_append, Nat.zero_add, hle, if_true, List.drop_zero]
    rw [ht, show toDL (toD hv keep 7) (dv xs) = some xs from toDL_dv hv keep 6 xs]
  simp only [frz, hk, Bool.false_eq_true, if_false, e]
theorem frz_agg4 {hv : Nat → Option O} {keep : Nat → Bool} {a b c d : V} {w x y z : D} (h1 : frz hv keep a = .d w) (h2 : frz hv keep b = .d x) (h3 : frz hv keep c = .d y) (h4 : frz hv keep d = .d z) : frz hv keep (.agg [a, b, c, d]) = .d (.agg [w, x, y, z]) := by
  simp only [frz, frzL, h1, h2, h3, h4]
  rfl
abbrev wo0 : O := .box 31 [.nils, .nils, .nils, .nils]
abbrev K7V : O := .vec 9 1 (dv (K7.map D.str))
/-- A person with few names, homes, mails, advisers. -/
abbrev SmP (p : Pe) : Prop := p.names.length ≤ 2 ∧ p.homes.length ≤ 3 ∧ p.mails.length ≤ 2 ∧ p.advs.length ≤ 1
/-- What RightWorld returns. -/
structure RWR (n : Nat) (w : Wo) : Prop where
  ok : OkW w
  pl : PlC w.pls
  ky : w.pes.map (·.key) = K7.take n
  sm : ∀ p ∈ w.pes, SmP p
  wl : w.wks.length ≤ 4
  wa : ∀ x ∈ w.wks, x.2.length ≤ 2
  bl : w.bos.length ≤ 4
abbrev RWQ (l : List Int) (at_ : Int) (n : Nat) : Exit → St → Prop := RetI Tryz.prog Tryz.f7 1 (fun q : Wo × Int => RWR n q.1 ∧ at_ ≤ q.2 ∧ q.2 ≤ at_ + 1000) (fun q => .d (woD q.1)) (fun q => [Stm l q.2])
abbrev RWb (f : Func) (k : Nat) : Code := dropSeq k (f.body.getD .skip)
/-- Persons that are drawn. -/
structure PesR (ps : List Pl) (n : Nat) (pes : List Pe) : Prop where
  ky : pes.map (·.key) = K7.take n
  pe : ∀ p ∈ pes, OkPe ps p
  adv : ∀ p ∈ pes, ∀ a ∈ p.advs, a ∈ K7.take n
  sm : ∀ p ∈ pes, SmP p
theorem K7_ris : K7.Pairwise fun a b => ltS a b = true := by decide
theorem K7_lt {i j : Nat} {a b : Str} (hi : K7[i]? = some a) (hj : K7[j]? = some b) (h : i < j) : ltS a b = true := pw_at K7_ris hi hj h
/-- Works and bonds that are drawn. -/
structure WksR (n : Nat) (ws : List Wk) : Prop where
  len : ws.length ≤ 4
  wk : ∀ x ∈ ws, 0 ≤ x.1 ∧ x.1 ≤ 200 ∧ x.1 ∈ DY ∧ ∃ a b, x.2 = [a, b] ∧ a ∈ K7.take n ∧ b ∈ K7.take n ∧ ltS a b = true
structure BosR (n : Nat) (bs : List Bo) : Prop where
  len : bs.length ≤ 4
  bo : ∀ b ∈ bs, b.1 ∈ K7.take n ∧ b.2 ∈ K7.take n ∧ ltS b.1 b.2 = true
theorem WksR.ok {n : Nat} {ws : List Wk} (h : WksR n ws) : OkWs (K7.take n) (srtC cpW ws) := by
  have h1 := srtC_len cpW ws
  have h2 := h.len
  refine ⟨by omega, ?_, srtC_rise cp_work ws⟩
  intro x hx
  obtain ⟨a1, a2, a3, a, b, e, ha, hb, hab⟩ := h.wk x ((srtC_mem cpW ws x).1 hx)
  refine ⟨by omega, a3, by rw [e]; simp, ?_, ?_⟩
  · rw [e]; intro y hy
    simp only [List.mem_cons, List.not_mem_nil, or_false] at hy
    rcases hy with rfl | rfl
    · exact ha
    · exact hb
  · rw [e]; simpa using hab
theorem BosR.ok {n : Nat} {bs : List Bo} (h : BosR n bs) : OkBs (K7.take n) (srtC cpB bs) := by
  have h1 := srtC_len cpB bs
  have h2 := h.len
  refine ⟨by omega, ?_, srtC_rise cp_bond bs⟩
  intro x hx
  exact h.bo x ((srtC_mem cpB bs x).1 hx)
theorem WksR.wkB {n : Nat} {ws : List Wk} (h : WksR n ws) : ∀ x ∈ ws, wkB x := fun x hx => by
  obtain ⟨a1, a2, -, a, b, e, -⟩ := h.wk x hx
  refine ⟨by omega, by omega, by rw [e]; simp⟩
theorem WksR.app {n : Nat} {ws : List Wk} (h : WksR n ws) (hl : ws.length < 4) {d : Int} (hd : 0 ≤ d ∧ d ≤ 200) (hy : d ∈ DY) {a b : Str} (ha : a ∈ K7.take n) (hb : b ∈ K7.take n) (hab : ltS a b = true) : WksR n (ws ++ [(d, [a, b])]) where
  len := by simp; omega
  wk x hx := by
    rcases List.mem_append.1 hx with hx | hx
    · exact h.wk x hx
    · obtain rfl := List.mem_singleton.1 hx
      exact ⟨hd.1, hd.2, hy, a, b, rfl, ha, hb, hab⟩
theorem BosR.app {n : Nat} {bs : List Bo} (h : BosR n bs) (hl : bs.length < 4) {a b : Str} (ha : a ∈ K7.take n) (hb : b ∈ K7.take n) (hab : ltS a b = true) : BosR n (bs ++ [(a, b)]) where
  len := by simp; omega
  bo x hx := by
    rcases List.mem_append.1 hx with hx | hx
    · exact h.bo x hx
    · obtain rfl := List.mem_singleton.1 hx
      exact ⟨ha, hb, hab⟩
theorem K7_get {n j : Nat} (hn : n ≤ 7) (hj : j < n) : ∃ k, K7[j]? = some k ∧ k ∈ K7.take n := by
  have h7 : K7.length = 7 := rfl
  obtain ⟨k, hk, -, -⟩ := get_some (l := K7) (i := j) (by omega)
  refine ⟨k, hk, List.mem_of_getElem? (i := j) ?_⟩
  rw [List.getElem?_take_of_lt hj, hk]
theorem rwr_of {ps : List Pl} {n : Nat} {pes : List Pe} {ws : List Wk} {bs : List Bo} (hn : n ≤ 7) (hc : PlC ps) (hp : PesR ps n pes) (hw : WksR n ws) (hb : BosR n bs) : RWR n ⟨ps, pes, srtC cpW ws, srtC cpB bs⟩ := by
  have hl : pes.length ≤ 7 := by
    have := congrArg List.length hp.ky
    simp only [List.length_map, List.length_take] at this
    omega
  refine ⟨⟨hc.ok, by simp only; omega, ?_, ?_, hp.pe, ?_, ?_, ?_⟩, hc, hp.ky, hp.sm, by have h1 := srtC_len cpW ws; have h2 := hw.len; simp only; omega, fun x hx => by obtain ⟨_, _, _, u, v, e, _⟩ := hw.wk x ((srtC_mem cpW ws x).1 hx); rw [e]; simp, by have h1 := srtC_len cpB bs; have h2 := hb.len; simp only; omega⟩
  · have : (pes.map (·.key)).Pairwise fun a b => ltS a b = true := by rw [hp.ky]; exact K7_ris.sublist (List.take_sublist _ _)
    exact List.pairwise_map.1 this
  · intro p hpp
    have : p.key ∈ pes.map (·.key) := List.mem_map_of_mem hpp
    rw [hp.ky] at this
    exact List.mem_of_mem_take this
  · intro p hpp a ha
    simp only
    rw [hp.ky]
    exact hp.adv p hpp a ha
  · simp only
    rw [hp.ky]
    exact hw.ok
  · simp only
    rw [hp.ky]
    exact hb.ok
theorem rwC {cx : Cx} (hcx : CxOk cx 1) (l : List Int) (hl2 : l.length ≤ 9223372036854775807) (at_ a0 : Int) (ha : 0 ≤ at_) (hb : at_ ≤ 1000) (ha0 : at_ ≤ a0) (hb0 : a0 ≤ at_ + 500) (n : Nat) (hn : n ≤ 7) (ps : List Pl) (hc : PlC ps) (pes : List Pe) (hp : PesR ps n pes) :
    AW Tryz.prog cx (RWb Tryz.f7 6) (RWQ l at_ n) ⟨264, [(0, .ptr 0 0), (4, .ptr 64 0), (5, .ptr 128 0), (11, .slr 192 0 n)], [(0, some (Stm l a0)), (64, some wo0), (128, some (O.box 31 [.d (.sl (ps.map plD)), .d (.sl (pes.map peD)), .nils, .nils])), (192, some K7V)], 100⟩ := by
  refine AW.weak (Weak.nilB 128 2 31 68 2 rfl rfl) ?_
  refine AW.weak (Weak.nilB 128 3 31 70 2 rfl rfl) ?_
  simp only [List.set_cons_zero, List.set_cons_succ, Nat.reduceMul, Nat.reduceAdd]
  repeat' (first | (refine AW.sreg rfl fun K hK => ?_; simp only [go_sem, ↓reduceIte]) | (refine AW.seq_k fun K hK => ?_) | (refine AW.block ?_) | (refine AW.skip ?_; simp only [Then, InBlock]) | (refine AW.cond rfl (fun h => ?_) (fun h => ?_) <;> (try simp only [decide_eq_true_eq, decide_eq_false_iff_not, Bool.not_eq_true', Bool.not_eq_false', Bool.not_eq_eq_eq_not, Bool.not_true, Bool.not_false, beq_iff_eq, bne_iff_ne, beq_eq_false_iff_ne, ne_eq, Bool.and_eq_true, Bool.or_eq_true, Bool.or_eq_false_iff] at h)) | (refine hK _ ?_; clear hK K) | (refine run_callI _ _ _ ((rangeI l hl2 a0 0 4 (by omega) (by omega) (by omega) (by omega) (by omega)).objs [0] ⟨rfl, trivial⟩ rfl (by decide) (by simp [go_sem, renOs]) (by simp [go_sem]) (by simp [go_sem]) (fun j hj => ⟨by simp, by simp, by simp [go_sem], by simp [go_sem]⟩)) rfl rfl (dstOk_of rfl) rfl rfl rfl ?_; rintro m hm; (try dsimp only at m); (try dsimp only at hm); simp only [go_sem, ↓reduceIte]))
  · have hr := rwr_of hn hc hp (ws := []) (bs := []) ⟨by simp, by simp⟩ ⟨by simp, by simp⟩
    exact AW.ret ⟨(⟨ps, pes, srtC cpW [], srtC cpB []⟩, a0), ⟨hr, ha0, by simp only; omega⟩, Fin.one rfl rfl ⟨_, rfl, rfl⟩ rfl rfl rfl⟩
  have hn2 : 2 ≤ n := by omega
  obtain ⟨mm, rfl⟩ := Int.eq_ofNat_of_zero_le hm.1
  refine AW.loopF (ι := Nat × List Wk × List Bo × Int) [0, 4, 5, 11, 195] (fun p => [(196, I p.1)]) (fun p => [(0, some (Stm l p.2.2.2)), (64, some wo0), (128, some (O.box 31 [.d (.sl (ps.map plD)), .d (.sl (pes.map peD)), .slr 6400 0 p.2.1.length, .slr 6464 0 p.2.2.1.length])), (192, some K7V), (6400, some (O.vec 68 2 (dv (p.2.1.map wkD)))), (6464, some (O.vec 70 2 (dv (p.2.2.1.map boD))))]) 120 (fun p => p.1 ≤ mm ∧ (p.2.1.length ≤ p.1 ∧ p.2.2.1.length ≤ p.1 ∧ WksR n p.2.1 ∧ BosR n p.2.2.1) ∧ at_ ≤ p.2.2.2 ∧ p.2.2.2 ≤ a0 + 1 + 4 * p.1) (fun p => mm - p.1) (0, [], [], a0 + 1) ⟨Nat.zero_le _, ⟨by simp, by simp, ⟨by simp, by simp⟩, ⟨by simp, by simp⟩⟩, by simp only; omega, by simp only; omega⟩ (Weak.oC hcx [(64, 64), (128, 128), (192, 192), (6400, 6400), (6464, 6464)] (by refine ⟨?_, ?_, ?_⟩ <;> simp [go_sem, gL, kL, List.map_append, dv_push, wo0, K7V])) ?_; simp only [St.at_nil, St.at_cons, lk, Nat.reduceEqDiff, ↓reduceIte, Option.getD_some, Option.getD_none, List.cons_append, List.nil_append, List.append_nil]
  rintro ⟨i, ws, bs, a⟩ ⟨h1, ⟨h2, h3, hw, hbo⟩, h4, h5⟩
  dsimp only at h1 h2 h3 hw hbo h4 h5 ⊢
  have htw : List.take ws.length (dv (ws.map wkD)) = dv (ws.map wkD) := List.take_of_length_le (by simp [dv])
  have htb : List.take bs.length (dv (bs.map boD)) = dv (bs.map boD) := List.take_of_length_le (by simp [dv])
  by_cases hi : i < mm
  · have hn1 := next_any l hl2 a n (by omega) (by omega) (by omega) (by omega)
    have hr1 := nextV_range l a n (by omega)
    generalize nextV l a n = j at hn1 hr1
    have hn3 := next_any l hl2 (a + 1) n (by omega) (by omega) (by omega) (by omega)
    have hr3 := nextV_range l (a + 1) n (by omega)
    generalize nextV l (a + 1) n = k at hn3 hr3
    have hf := flip_any l hl2 (a + 1 + 1) 2 (by omega) (by omega) (by omega) (by omega)
    obtain ⟨kj, hkj, hkjm⟩ := K7_get hn (show j.toNat < n by omega)
    obtain ⟨kk, hkk, hkkm⟩ := K7_get hn (show k.toNat < n by omega)
    have hgj : (dv (K7.map D.str))[j.toNat]? = some (S kj) := by simp [dv, hkj]
    have hgk : (dv (K7.map D.str))[k.toNat]? = some (S kk) := by simp [dv, hkk]
    have hK7 : (dv (K7.map D.str)).length = 7 := by simp [dv, K7]
    rcases Int.lt_trichotomy j k with hjk | hjk | hjk
    · have hk1 := hkjm
      have hk2 := hkkm
      have hkl := K7_lt hkj hkk (by omega)
      cases hfb : (nextV l (a + 1 + 1) 2 == 0) with
      | true =>
        rw [hfb] at hf
        have hp2 := pick_any l hl2 (a + 1 + 1 + 1) (by omega) (by omega) [0, 30, 30, 100, 200] (by simp) (by simp)
        have hd2 := pick_mem l (a + 1 + 1 + 1) [0, 30, 30, 100, 200] (by simp)
        generalize ([0, 30, 30, 100, 200] : List Int).getD (nextV l (a + 1 + 1 + 1) ([0, 30, 30, 100, 200] : List Int).length).toNat 0 = d at hp2 hd2
        have hd4 : d ∈ DY := (show ∀ x ∈ ([0, 30, 30, 100, 200] : List Int), x ∈ DY by decide) d hd2
        have hd3 : 0 ≤ d ∧ d ≤ 200 := by
          simp only [List.mem_cons, List.not_mem_nil, or_false] at hd2
          omega
        repeat' (first | ((first | refine AW.sreg rfl fun K hK => ?_ | refine AW.reg rfl ?_ | refine AW.regD hmix rfl ?_ | refine run_call _ _ _ ((hn1).objA [0]) rfl rfl (dstOk_of rfl) rfl rfl rfl ?_ | refine run_call _ _ _ ((hn3).objA [0]) rfl rfl (dstOk_of rfl) rfl rfl rfl ?_ | refine run_call _ _ _ ((hf).objA [0]) rfl rfl (dstOk_of rfl) rfl rfl rfl ?_ | refine runT_call _ _ [0, 9088] (fun hv hag => (hp2).objs [0, 9088] ⟨((hag 0 (by simp)).trans rfl), ((hag 9088 (by simp)).trans rfl), trivial⟩ rfl (by decide) (by simp [go_sem, renOs]) (by simp) (by simp) (by simp [go_sem]) (by simp [go_sem]) (by simp [go_sem]) (by simp [go_sem])) rfl rfl (dstOk_of rfl) rfl rfl ?_); simp only [go_sem, ↓reduceIte, List.length_map, htw, htb, hgj, hgk, Nat.zero_add]) | (refine AW.seq_k fun K hK => ?_) | (refine AW.block ?_) | (refine AW.skip ?_; simp only [Then, InBlock]) | (refine AW.cT ?_) | (refine AW.cF ?_) | (refine hK _ ?_; clear hK K) | (with_reducible refine And.intro (?_ : regOk _ _ = true) ?_; kernel_rfl) | (with_reducible refine andI ?_))
        exact ⟨(i + 1, ws ++ [(d, [kj, kk])], bs, a + 1 + 1 + 1 + 1), ⟨hi, ⟨by simp; omega, by simp only; omega, hw.app (by omega) hd3 hd4 hk1 hk2 hkl, hbo⟩, by simp only; omega, by simp only; omega⟩, by simp only; omega, (Weak.oC hcx [(64, 64), (128, 128), (192, 192), (6400, 9920), (6464, 6464)] (by refine ⟨?_, ?_, ?_⟩ <;> simp [go_sem, gL, kL, List.map_append, dv_push, wo0, K7V, frzL_app2, frz, frzL, mkAgg, wkD]))⟩
      | false =>
        rw [hfb] at hf
        repeat' (first | ((first | refine AW.sreg rfl fun K hK => ?_ | refine AW.reg rfl ?_ | refine AW.regD hmix rfl ?_ | refine run_call _ _ _ ((hn1).objA [0]) rfl rfl (dstOk_of rfl) rfl rfl rfl ?_ | refine run_call _ _ _ ((hn3).objA [0]) rfl rfl (dstOk_of rfl) rfl rfl rfl ?_ | refine run_call _ _ _ ((hf).objA [0]) rfl rfl (dstOk_of rfl) rfl rfl rfl ?_); simp only [go_sem, ↓reduceIte, List.length_map, htw, htb, hgj, hgk, Nat.zero_add]) | (refine AW.seq_k fun K hK => ?_) | (refine AW.block ?_) | (refine AW.skip ?_; simp only [Then, InBlock]) | (refine AW.cT ?_) | (refine AW.cF ?_) | (refine hK _ ?_; clear hK K) | (with_reducible refine And.intro (?_ : regOk _ _ = true) ?_; kernel_rfl) | (with_reducible refine andI ?_))
        exact ⟨(i + 1, ws, bs ++ [(kj, kk)], a + 1 + 1 + 1), ⟨hi, ⟨by simp only; omega, by simp; omega, hw, hbo.app (by omega) hk1 hk2 hkl⟩, by simp only; omega, by simp only; omega⟩, by simp only; omega, (Weak.oC hcx [(64, 64), (128, 128), (192, 192), (6400, 6400), (6464, 9664)] (by refine ⟨?_, ?_, ?_⟩ <;> simp [go_sem, gL, kL, List.map_append, dv_push, wo0, K7V]))⟩
    · subst hjk
      repeat' (first | ((first | refine AW.sreg rfl fun K hK => ?_ | refine AW.reg rfl ?_ | refine run_call _ _ _ ((hn1).objA [0]) rfl rfl (dstOk_of rfl) rfl rfl rfl ?_ | refine run_call _ _ _ ((hn3).objA [0]) rfl rfl (dstOk_of rfl) rfl rfl rfl ?_); simp only [go_sem, ↓reduceIte, List.length_map, htw, htb]) | (refine AW.seq_k fun K hK => ?_) | (refine AW.block ?_) | (refine AW.skip ?_; simp only [Then, InBlock]) | (refine AW.exit ?_; simp only [go_sem, ↓reduceIte]) | (refine AW.cT ?_) | (refine AW.cF ?_) | (refine hK _ ?_; clear hK K) | (clear hK K; refine hK _ ?_; clear hK K) | (with_reducible refine andI ?_))
      exact ⟨(i + 1, ws, bs, a + 1 + 1), ⟨hi, ⟨by simp only; omega, by simp only; omega, hw, hbo⟩, by simp only; omega, by simp only; omega⟩, by simp only; omega, (Weak.oC hcx [(64, 64), (128, 128), (192, 192), (6400, 6400), (6464, 6464)] (by refine ⟨?_, ?_, ?_⟩ <;> simp [go_sem, gL, kL, List.map_append, dv_push, wo0, K7V]))⟩
    · have hk1 := hkkm
      have hk2 := hkjm
      have hkl := K7_lt hkk hkj (by omega)
      cases hfb : (nextV l (a + 1 + 1) 2 == 0) with
      | true =>
        rw [hfb] at hf
        have hp2 := pick_any l hl2 (a + 1 + 1 + 1) (by omega) (by omega) [0, 30, 30, 100, 200] (by simp) (by simp)
        have hd2 := pick_mem l (a + 1 + 1 + 1) [0, 30, 30, 100, 200] (by simp)
        generalize ([0, 30, 30, 100, 200] : List Int).getD (nextV l (a + 1 + 1 + 1) ([0, 30, 30, 100, 200] : List Int).length).toNat 0 = d at hp2 hd2
        have hd4 : d ∈ DY := (show ∀ x ∈ ([0, 30, 30, 100, 200] : List Int), x ∈ DY by decide) d hd2
        have hd3 : 0 ≤ d ∧ d ≤ 200 := by
          simp only [List.mem_cons, List.not_mem_nil, or_false] at hd2
          omega
        repeat' (first | ((first | refine AW.sreg rfl fun K hK => ?_ | refine AW.reg rfl ?_ | refine AW.regD hmix rfl ?_ | refine run_call _ _ _ ((hn1).objA [0]) rfl rfl (dstOk_of rfl) rfl rfl rfl ?_ | refine run_call _ _ _ ((hn3).objA [0]) rfl rfl (dstOk_of rfl) rfl rfl rfl ?_ | refine run_call _ _ _ ((hf).objA [0]) rfl rfl (dstOk_of rfl) rfl rfl rfl ?_ | refine runT_call _ _ [0, 9344] (fun hv hag => (hp2).objs [0, 9344] ⟨((hag 0 (by simp)).trans rfl), ((hag 9344 (by simp)).trans rfl), trivial⟩ rfl (by decide) (by simp [go_sem, renOs]) (by simp) (by simp) (by simp [go_sem]) (by simp [go_sem]) (by simp [go_sem]) (by simp [go_sem])) rfl rfl (dstOk_of rfl) rfl rfl ?_); simp only [go_sem, ↓reduceIte, List.length_map, htw, htb, hgj, hgk, Nat.zero_add]) | (refine AW.seq_k fun K hK => ?_) | (refine AW.block ?_) | (refine AW.skip ?_; simp only [Then, InBlock]) | (refine AW.cT ?_) | (refine AW.cF ?_) | (refine hK _ ?_; clear hK K) | (with_reducible refine And.intro (?_ : regOk _ _ = true) ?_; kernel_rfl) | (with_reducible refine andI ?_))
        exact ⟨(i + 1, ws ++ [(d, [kk, kj])], bs, a + 1 + 1 + 1 + 1), ⟨hi, ⟨by simp; omega, by simp only; omega, hw.app (by omega) hd3 hd4 hk1 hk2 hkl, hbo⟩, by simp only; omega, by simp only; omega⟩, by simp only; omega, (Weak.oC hcx [(64, 64), (128, 128), (192, 192), (6400, 10176), (6464, 6464)] (by refine ⟨?_, ?_, ?_⟩ <;> simp [go_sem, gL, kL, List.map_append, dv_push, wo0, K7V, frzL_app2, frz, frzL, mkAgg, wkD]))⟩
      | false =>
        rw [hfb] at hf
        repeat' (first | ((first | refine AW.sreg rfl fun K hK => ?_ | refine AW.reg rfl ?_ | refine AW.regD hmix rfl ?_ | refine run_call _ _ _ ((hn1).objA [0]) rfl rfl (dstOk_of rfl) rfl rfl rfl ?_ | refine run_call _ _ _ ((hn3).objA [0]) rfl rfl (dstOk_of rfl) rfl rfl rfl ?_ | refine run_call _ _ _ ((hf).objA [0]) rfl rfl (dstOk_of rfl) rfl rfl rfl ?_); simp only [go_sem, ↓reduceIte, List.length_map, htw, htb, hgj, hgk, Nat.zero_add]) | (refine AW.seq_k fun K hK => ?_) | (refine AW.block ?_) | (refine AW.skip ?_; simp only [Then, InBlock]) | (refine AW.cT ?_) | (refine AW.cF ?_) | (refine hK _ ?_; clear hK K) | (with_reducible refine And.intro (?_ : regOk _ _ = true) ?_; kernel_rfl) | (with_reducible refine andI ?_))
        exact ⟨(i + 1, ws, bs ++ [(kk, kj)], a + 1 + 1 + 1), ⟨hi, ⟨by simp only; omega, by simp; omega, hw, hbo.app (by omega) hk1 hk2 hkl⟩, by simp only; omega, by simp only; omega⟩, by simp only; omega, (Weak.oC hcx [(64, 64), (128, 128), (192, 192), (6400, 6400), (6464, 9920)] (by refine ⟨?_, ?_, ?_⟩ <;> simp [go_sem, gL, kL, List.map_append, dv_push, wo0, K7V]))⟩
  · obtain rfl : i = mm := by omega
    have hil := (isort_perm (fun a b => decide (cpW a b < 0)) ws).length_eq
    have hjl := (isort_perm (fun a b => decide (cpB a b < 0)) bs).length_eq
    have hwl := hw.len
    have hbl := hbo.len
    have s1 := sortWkR ws hw.wkB (by omega)
    have s2 := sortBoR bs (by omega)
    have hmw : ∀ x ∈ isort (fun a b => decide (cpW a b < 0)) ws, wkB x := fun x hx => hw.wkB x ((isort_perm _ _).mem_iff.1 hx)
    have c1 := compactF_Wk 31 (isort (fun a b => decide (cpW a b < 0)) ws) (by omega) (fun x hx y hy => sameWork x y (hmw x hx) (hmw y hy))
    have c2 := compact_Bo (isort (fun a b => decide (cpB a b < 0)) bs) (by omega)
    rw [hil] at c1
    rw [hjl] at c2
    have hr := rwr_of hn hc hp hw hbo
    repeat' (first | ((first | refine AW.sreg rfl fun K hK => ?_ | refine run_call _ _ _ ((s1).objA [_]) rfl rfl (dstOk_of rfl) rfl rfl rfl ?_ | refine run_call _ _ _ ((c1).objA [_]) rfl rfl (dstOk_of rfl) rfl rfl rfl ?_ | refine run_call _ _ _ ((s2).objA [_]) rfl rfl (dstOk_of rfl) rfl rfl rfl ?_ | refine run_call _ _ _ ((c2).objA [_]) rfl rfl (dstOk_of rfl) rfl rfl rfl ?_); simp only [go_sem, ↓reduceIte, List.length_map]) | (refine AW.seq_k fun K hK => ?_) | (refine AW.exit ?_; simp only [go_sem, ↓reduceIte]) | (refine AW.cF ?_) | (refine hK _ ?_; clear hK K) | (clear hK K; refine hK _ ?_; clear hK K))
    exact AW.ret ⟨(⟨ps, pes, srtC cpW ws, srtC cpB bs⟩, a), ⟨hr, by simp only; omega, by simp only; omega⟩, Fin.one rfl (frz_agg4 rfl rfl (frz_slrQ rfl rfl (by simp [srtC])) (frz_slrP rfl rfl (by simp [srtC]))) ⟨_, rfl, by simp [go_sem]⟩ rfl rfl rfl⟩
end Go.AX

namespace Go.AX
open Go Go.Proofs Go.RowKit
theorem toDL_dvF {F : V → Option D} (h : ∀ x : D, F (.d x) = some x) : ∀ xs : List D, toDL F (dv xs) = some xs
  | [] => rfl
  | x :: xs => by
    have := toDL_dvF h xs
    simp only [dv, List.map_cons] at this ⊢
    simp only [toDL, h, this]
/-- Names that are drawn. -/
structure NmR (ns : List Nm) : Prop where
  pos : ns ≠ []
  len : ns.length ≤ 2
  nm : ∀ x ∈ ns, x.1 ∈ SNm ∧ x.2 ≤ 4000 ∧ x.2 ∈ DY
  fst : ∀ x, ns[0]? = some x → x.2 = 0
  ris : ns.Pairwise fun a b => a.2 < b.2
theorem NmR.one {t : Str} (h : t ∈ SNm) : NmR [(t, 0)] where
  pos := by simp
  len := by simp
  nm x hx := by
    obtain rfl := List.mem_singleton.1 hx
    exact ⟨h, by simp, by simp⟩
  fst x hx := by simp at hx; subst hx; rfl
  ris := by simp
theorem NmR.two {t u : Str} {d : Int} (h : t ∈ SNm) (h2 : u ∈ SNm) (hd : 1 ≤ d ∧ d ≤ 200) (hy : d ∈ DY) : NmR [(t, 0), (u, d)] where
  pos := by simp
  len := by simp
  nm x hx := by
    simp only [List.mem_cons, List.not_mem_nil, or_false] at hx
    rcases hx with rfl | rfl
    · exact ⟨h, by simp, by simp⟩
    · exact ⟨h2, by simp only; omega, hy⟩
  fst x hx := by simp at hx; subst hx; rfl
  ris := by simp; omega
theorem NmR.ok {ns : List Nm} (h : NmR ns) (hg : ∀ x ∈ ns, x.1 ∈ NG) : OkNm ns := ⟨h.pos, by have := h.len; omega, fun x hx => ⟨hg x hx, (h.nm x hx).2⟩, h.fst, h.ris⟩
abbrev CidMoe : Str := [67, 105, 100, 32, 77, 111, 101]
theorem cidMoe_ok : OkNm [(CidMoe, 0)] := ⟨by simp, by simp, fun x hx => by obtain rfl := List.mem_singleton.1 hx; exact ⟨by simp [NG], by simp, by simp⟩, fun x hx => by simp at hx; subst hx; rfl, by simp⟩
theorem dv_one (x : D) : dv [x] = [V.d x] := rfl
abbrev AnnLee : Str := [65, 110, 110, 32, 76, 101, 101]
theorem mls_ok0 {key : Str} (hk : key ∈ K7) {ms : List Str} (h : ms = [] ∨ ms = [key ++ [64, 120]]) : OkMl ms := by
  rcases h with rfl | rfl
  · exact ⟨by simp, by simp, by simp⟩
  · refine ⟨by simp, fun m hm => ?_, by simp⟩
    obtain rfl := List.mem_singleton.1 hm
    exact List.mem_append_left _ (List.mem_map_of_mem hk)
theorem K7_ZS : ∀ k ∈ K7, ltS (k ++ [64, 120]) ZS = true := by decide
theorem mls_ok {key : Str} (hk : key ∈ K7) {ms : List Str} (h : ms = [] ∨ ms = [key ++ [64, 120]]) : OkMl (ms ++ [ZS]) := by
  rcases h with rfl | rfl
  · refine ⟨by simp, fun m hm => ?_, by simp⟩
    obtain rfl : m = ZS := by simpa using hm
    exact List.mem_append_right _ (by simp)
  · refine ⟨by simp, fun m hm => ?_, ?_⟩
    · simp only [List.cons_append, List.nil_append, List.mem_cons, List.not_mem_nil, or_false] at hm
      rcases hm with rfl | rfl
      · exact List.mem_append_left _ (List.mem_map_of_mem hk)
      · exact List.mem_append_right _ (by simp)
    · have := K7_ZS key hk
      simpa using this
theorem ads_one {key oth : Str} {n : Nat} (h : oth ∈ K7.take n) (hne : ¬ oth = key) : OkAd key [oth] ∧ ∀ y ∈ [oth], y ∈ K7.take n :=
  ⟨⟨by simp, fun a ha => by obtain rfl := List.mem_singleton.1 ha; exact ⟨List.mem_of_mem_take h, hne⟩, by simp⟩, fun y hy => by obtain rfl := List.mem_singleton.1 hy; exact h⟩
theorem rwB {cx : Cx} (hcx : CxOk cx 1) (l : List Int) (hl2 : l.length ≤ 9223372036854775807) (at_ a0 : Int) (ha : 0 ≤ at_) (hb : at_ ≤ 1000) (ha0 : at_ ≤ a0) (hb0 : a0 ≤ at_ + 50) (n : Nat) (hn : n ≤ 7) (ps : List Pl) (hc : PlC ps) :
    AW Tryz.prog cx (RWb Tryz.f7 4) (RWQ l at_ n) ⟨264, [(0, .ptr 0 0), (1, I n), (4, .ptr 64 0), (5, .ptr 128 0)], [(0, some (Stm l a0)), (64, some wo0), (128, some (O.box 31 [.d (.sl (ps.map plD)), .nils, .nils, .nils]))], 60⟩ := by
  refine AW.weak (Weak.nilB 128 1 31 50 5 rfl rfl) ?_
  simp only [List.set_cons_zero, List.set_cons_succ, Nat.reduceMul, Nat.reduceAdd]
  have hmin : (if (7 : Int) < (n : Int) then 7 else (n : Int)) = n := if_neg (by omega)
  refine AW.sreg rfl fun K hK => ?_; simp only [go_sem, ↓reduceIte, hmin, Int.toNat_natCast, Nat.zero_add, Nat.sub_zero]
  refine ⟨by omega, ?_⟩
  refine hK _ ?_; (try clear hK K)
  refine AW.seq_k fun K hK => ?_
  refine AW.joinK (ι := List Pe × Int) (fun p => PesR ps n p.1 ∧ at_ ≤ p.2 ∧ p.2 ≤ at_ + 500) (fun p => ⟨264, [(0, .ptr 0 0), (4, .ptr 64 0), (5, .ptr 128 0), (11, .slr 192 0 n)], [(0, some (Stm l p.2)), (64, some wo0), (128, some (O.box 31 [.d (.sl (ps.map plD)), .d (.sl (p.1.map peD)), .nils, .nils])), (192, some K7V)], 100⟩) ?_ (fun s2 p hp2 hw2 => hK s2 (AW.weak hw2 (rwC hcx l hl2 at_ p.2 ha hb hp2.2.1 hp2.2.2 n hn ps hc p.1 hp2.1)))
  clear hK K
  repeat' (first | (refine AW.sreg rfl fun K hK => ?_; simp only [go_sem, ↓reduceIte]) | (refine AW.block ?_) | (refine hK _ ?_; clear hK K))
  refine AW.loopF (ι := Nat × List Pe × Int) [0, 4, 5, 11, 80, 81] (fun p => [(82, I p.1)]) (fun p => [(0, some (Stm l p.2.2)), (64, some wo0), (128, some (O.box 31 [.d (.sl (ps.map plD)), .slr 3840 0 p.2.1.length, .nils, .nils])), (3904, some K7V), (3840, some (O.vec 50 5 (dv (p.2.1.map peD))))]) 80 (fun p => p.1 ≤ n ∧ (p.2.1.map (·.key) = K7.take p.1 ∧ (∀ x ∈ p.2.1, OkPe ps x ∧ SmP x) ∧ ∀ x ∈ p.2.1, ∀ y ∈ x.advs, y ∈ K7.take n) ∧ at_ ≤ p.2.2 ∧ p.2.2 ≤ a0 + 40 * p.1) (fun p => n - p.1) (0, [], a0) ⟨Nat.zero_le _, ⟨by simp, by simp, by simp⟩, by simp only; omega, by simp only; omega⟩ (Weak.oC hcx [(64, 64), (128, 128), (3840, 3840), (3904, 3904)] (by refine ⟨?_, ?_, ?_⟩ <;> simp [go_sem, gL, kL, List.map_append, dv_push, wo0, K7V, K7, dv])) ?_; simp only [St.at_nil, St.at_cons, lk, Nat.reduceEqDiff, ↓reduceIte, Option.getD_some, Option.getD_none, List.cons_append, List.nil_append, List.append_nil]
  rintro ⟨i, pes, a⟩ ⟨h1, ⟨hk, hpe, hadv⟩, h4, h5⟩
  dsimp only at h1 hk hpe hadv h4 h5 ⊢
  have hlen : pes.length = i := by
    have := congrArg List.length hk
    simp only [List.length_map, List.length_take] at this
    have h7 : K7.length = 7 := rfl
    omega
  have htp : List.take pes.length (dv (pes.map peD)) = dv (pes.map peD) := List.take_of_length_le (by simp [dv])
  by_cases hi : i < n
  · obtain ⟨key, hkey, hkm⟩ := K7_get hn hi
    have hgk : (dv (K7.map D.str))[0 + i]? = some (S key) := by simp [dv, hkey]
    have hkk7 : key ∈ K7 := List.mem_of_mem_take hkm
    have hkln := (K7_key key hkk7).2
    have hK7 : (dv (K7.map D.str)).length = 7 := by simp [dv, K7]
    repeat' (first | ((first | refine AW.sreg rfl fun K hK => ?_ | refine AW.sregD hmix rfl fun K hK => ?_); simp only [go_sem, ↓reduceIte, hgk]) | (refine AW.seq_k fun K hK => ?_) | (refine AW.block ?_) | (refine AW.skip ?_; simp only [Then, InBlock]) | (refine AW.cT ?_) | (refine hK _ ?_; clear hK K) | (refine run_callI _ _ _ ((homesI l hl2 a (by omega) (by omega) ps hc.len).objs [0] ⟨rfl, trivial⟩ rfl (by decide) (by simp [go_sem, renOs]) (by simp [go_sem]) (by simp [go_sem]) (fun j hj => ⟨by simp, by simp, by simp [go_sem], by simp [go_sem]⟩)) rfl rfl (dstOk_of rfl) rfl rfl rfl ?_; rintro q hq; (try dsimp only at q); (try dsimp only at hq); simp only [go_sem, ↓reduceIte, hgk]) | (with_reducible refine andI ?_))
    obtain ⟨hs, a1⟩ := q
    obtain ⟨⟨hh3, hhm⟩, ha1, ha2⟩ := hq
    dsimp only at hh3 hhm ha1 ha2 ⊢
    obtain ⟨t, a2, ht, ha3, ha4, hsn⟩ := someName_any l hl2 a1 (by omega) (by omega)
    repeat' (first | (refine AW.block ?_) | (refine hK _ ?_; clear hK K) | (with_reducible refine And.intro (?_ : regOk _ _ = true) ?_; kernel_rfl) | (refine runT_call _ _ [0] (fun hv hag => (hsn).objs [0] ⟨((hag 0 (by simp)).trans rfl), trivial⟩ rfl (by decide) (by simp [go_sem, renOs]) (by simp) (by simp) (by simp [go_sem]) (by simp [go_sem]) (by simp [go_sem]) (by simp [go_sem])) rfl rfl (dstOk_of rfl) rfl rfl ?_; simp only [go_sem, ↓reduceIte, List.set_cons_zero]) | (with_reducible refine andI ?_))
    refine AW.loopF (ι := Str) [0, 4, 5, 11, 13, 14, 80, 81, 82] (fun p => []) (fun p => [(0, some (Stm l a2)), (64, some wo0), (128, some (O.box 31 [.d (.sl (ps.map plD)), .slr 3840 0 pes.length, .nils, .nils])), (3904, some K7V), (3840, some (O.vec 50 5 (dv (pes.map peD)))), (5504, some (O.vec 63 2 [.d (nmD (p, 0))])), (5888, some (O.box 50 [S key, .slr 5504 0 1, .d (.sl (hs.map hmD)), .nils, .nils]))]) 110 (fun p => p ∈ SNm) (fun p => if p = [] then 1 else 0) t ht (Weak.oC hcx [(64, 64), (128, 128), (3840, 3840), (3904, 3904), (5504, 5504), (5888, 5888)] (by refine ⟨?_, ?_, ?_⟩ <;> simp [go_sem, gL, kL, List.map_append, dv_push, wo0, K7V])) ?_; simp only [St.at_nil, St.at_cons, lk, Nat.reduceEqDiff, ↓reduceIte, Option.getD_some, Option.getD_none, List.cons_append, List.nil_append, List.append_nil]
    intro nm hnm
    by_cases hne : nm = []
    · subst hne
      repeat' (first | ((first | refine AW.sreg rfl fun K hK => ?_ | refine AW.reg rfl ?_); simp only [go_sem, ↓reduceIte, List.set_cons_zero]) | (refine AW.seq_k fun K hK => ?_) | (refine AW.block ?_) | (refine AW.skip ?_; simp only [Then, InBlock]) | (refine AW.cT ?_) | (refine hK _ ?_; clear hK K) | (with_reducible refine andI ?_))
      exact ⟨AnnLee, annLee, by simp, (Weak.oC hcx [(64, 64), (128, 128), (3840, 3840), (3904, 3904), (5504, 5504), (5888, 5888)] (by refine ⟨?_, ?_, ?_⟩ <;> simp [go_sem, gL, kL, List.map_append, dv_push, wo0, K7V]))⟩
    · have e0 : (nm == []) = false := by simp [hne]
      obtain ⟨hsm, hsm2⟩ := simpleN hnm hne
      repeat' (first | ((first | refine AW.sreg rfl fun K hK => ?_ | refine run_call _ _ _ ((hsm).pure rfl rfl _ _) rfl rfl (dstOk_of rfl) rfl rfl rfl ?_); simp only [go_sem, ↓reduceIte, List.set_cons_zero, e0, hsm2]) | (refine AW.seq_k fun K hK => ?_) | (refine AW.exit ?_; simp only [go_sem, ↓reduceIte]) | (refine AW.cF ?_) | (refine hK _ ?_; clear hK K) | (clear hK K; refine hK _ ?_; clear hK K) | (with_reducible refine andI ?_))
      first | (refine run_callI _ _ _ ((flipI l hl2 a2 3 (by omega) (by omega) (by omega) (by omega)).objs [0] ⟨rfl, trivial⟩ rfl (by decide) (by simp [go_sem, renOs]) (by simp [go_sem]) (by simp [go_sem]) (fun j hj => ⟨by simp, by simp, by simp [go_sem], by simp [go_sem]⟩)) rfl rfl (dstOk_of rfl) rfl rfl rfl ?_; rintro r1 hr1; (try dsimp only at r1); (try dsimp only at hr1); simp only [go_sem, ↓reduceIte])
      refine hK _ ?_; (try clear hK K)
      refine AW.joinK (ι := List Nm × Int) (fun p => NmR p.1 ∧ a ≤ p.2 ∧ p.2 ≤ a + 28) (fun p => ⟨264, [(0, .ptr 0 0), (4, .ptr 64 0), (5, .ptr 128 0), (11, .slr 3904 0 n), (13, S key), (14, .ptr 5888 0), (80, .slr 3904 0 n), (81, I n), (82, I i)], [(0, some (Stm l p.2)), (64, some wo0), (128, some (O.box 31 [.d (.sl (ps.map plD)), .slr 3840 0 pes.length, .nils, .nils])), (3904, some K7V), (3840, some (O.vec 50 5 (dv (pes.map peD)))), (5888, some (O.box 50 [S key, .d (.sl (p.1.map nmD)), .d (.sl (hs.map hmD)), .nils, .nils]))], 200⟩) ?_ ?_
      · obtain ⟨t2, a3, ht2, ha5, ha6, hsn2⟩ := someName_any l hl2 (a2 + 1) (by omega) (by omega)
        have hp2 := pick_any l hl2 a3 (by omega) (by omega) [1, 50, 200] (by simp) (by simp)
        have hd2 := pick_mem l a3 [1, 50, 200] (by simp)
        generalize ([1, 50, 200] : List Int).getD (nextV l a3 ([1, 50, 200] : List Int).length).toNat 0 = d at hp2 hd2
        have hd4 : d ∈ DY := (show ∀ x ∈ ([1, 50, 200] : List Int), x ∈ DY by decide) d hd2
        have hd3 : 1 ≤ d ∧ d ≤ 200 := by
          simp only [List.mem_cons, List.not_mem_nil, or_false] at hd2
          omega
        repeat' (first | ((first | refine AW.regD hmix rfl ?_ | refine runT_call _ _ [0] (fun hv hag => (hsn2).objs [0] ⟨((hag 0 (by simp)).trans rfl), trivial⟩ rfl (by decide) (by simp [go_sem, renOs]) (by simp) (by simp) (by simp [go_sem]) (by simp [go_sem]) (by simp [go_sem]) (by simp [go_sem])) rfl rfl (dstOk_of rfl) rfl rfl ?_ | refine runT_call _ _ [0, 8448] (fun hv hag => (hp2).objs [0, 8448] ⟨((hag 0 (by simp)).trans rfl), ((hag 8448 (by simp)).trans rfl), trivial⟩ rfl (by decide) (by simp [go_sem, renOs]) (by simp) (by simp) (by simp [go_sem]) (by simp [go_sem]) (by simp [go_sem]) (by simp [go_sem])) rfl rfl (dstOk_of rfl) rfl rfl ?_); simp only [go_sem, ↓reduceIte, List.set_cons_zero]) | (refine AW.skip ?_; simp only [Then, InBlock]) | (refine AW.cond rfl (fun h => ?_) (fun h => ?_) <;> (try simp only [decide_eq_true_eq, decide_eq_false_iff_not, Bool.not_eq_true', Bool.not_eq_false', Bool.not_eq_eq_eq_not, Bool.not_true, Bool.not_false, beq_iff_eq, bne_iff_ne, beq_eq_false_iff_ne, ne_eq, Bool.and_eq_true, Bool.or_eq_true, Bool.or_eq_false_iff] at h)) | (with_reducible refine And.intro (?_ : regOk _ _ = true) ?_; kernel_rfl))
        · exact ⟨([(nm, 0), (t2, d)], a3 + 1), ⟨NmR.two hnm ht2 hd3 hd4, by simp only; omega, by simp only; omega⟩, (Weak.oC hcx [(64, 64), (128, 128), (3840, 3840), (3904, 3904), (5888, 5888)] (by refine ⟨?_, ?_, ?_⟩ <;> simp [go_sem, gL, kL, List.map_append, dv_push, wo0, K7V, toDL_dvF, frz, frzL, toD, mkAgg, nmD]))⟩
        · exact ⟨([(nm, 0)], a2 + 1), ⟨NmR.one hnm, by simp only; omega, by simp only; omega⟩, (Weak.oC hcx [(64, 64), (128, 128), (3840, 3840), (3904, 3904), (5888, 5888)] (by refine ⟨?_, ?_, ?_⟩ <;> simp [go_sem, gL, kL, List.map_append, dv_push, wo0, K7V, toDL_dvF, frz, frzL, toD, mkAgg, nmD]))⟩
      rintro s2 ⟨ns, b1⟩ ⟨hns, hb1, hb2⟩ hw2
      dsimp only at hns hb1 hb2 hw2
      refine hK s2 (AW.weak hw2 ?_)
      clear hw2 hK K
      refine AW.weak (Weak.nilB 5888 3 50 9 1 rfl rfl) ?_
      simp only [List.set_cons_zero, List.set_cons_succ, Nat.reduceMul, Nat.reduceAdd]
      refine AW.seq_k fun K hK => ?_
      refine AW.joinK (ι := List Str × Int) (fun p => (p.1 = [] ∨ p.1 = [key ++ [64, 120]]) ∧ a ≤ p.2 ∧ p.2 ≤ a + 29) (fun p => ⟨264, [(0, .ptr 0 0), (4, .ptr 64 0), (5, .ptr 128 0), (11, .slr 3904 0 n), (13, S key), (14, .ptr 5888 0), (80, .slr 3904 0 n), (81, I n), (82, I i)], [(0, some (Stm l p.2)), (64, some wo0), (128, some (O.box 31 [.d (.sl (ps.map plD)), .slr 3840 0 pes.length, .nils, .nils])), (3904, some K7V), (3840, some (O.vec 50 5 (dv (pes.map peD)))), (12800, some (O.vec 9 1 (dv (p.1.map D.str)))), (5888, some (O.box 50 [S key, .d (.sl (ns.map nmD)), .d (.sl (hs.map hmD)), .slr 12800 0 p.1.length, .nils]))], 300⟩) ?_ ?_
      · repeat' (first | ((first | refine AW.sreg rfl fun K hK => ?_ | refine AW.reg rfl ?_); simp only [go_sem, ↓reduceIte, List.set_cons_zero]) | (refine AW.skip ?_; simp only [Then, InBlock]) | (refine AW.cond rfl (fun h => ?_) (fun h => ?_) <;> (try simp only [decide_eq_true_eq, decide_eq_false_iff_not, Bool.not_eq_true', Bool.not_eq_false', Bool.not_eq_eq_eq_not, Bool.not_true, Bool.not_false, beq_iff_eq, bne_iff_ne, beq_eq_false_iff_ne, ne_eq, Bool.and_eq_true, Bool.or_eq_true, Bool.or_eq_false_iff] at h)) | (refine hK _ ?_; clear hK K) | (refine run_callI _ _ _ ((flipI l hl2 b1 3 (by omega) (by omega) (by omega) (by omega)).objs [0] ⟨rfl, trivial⟩ rfl (by decide) (by simp [go_sem, renOs]) (by simp [go_sem]) (by simp [go_sem]) (fun j hj => ⟨by simp, by simp, by simp [go_sem], by simp [go_sem]⟩)) rfl rfl (dstOk_of rfl) rfl rfl rfl ?_; rintro r1 hr1; (try dsimp only at r1); (try dsimp only at hr1); simp only [go_sem, ↓reduceIte, List.set_cons_zero]) | (with_reducible refine andI ?_))
        · exact ⟨([key ++ [64, 120]], b1 + 1), ⟨.inr rfl, by simp only; omega, by simp only; omega⟩, (Weak.oC hcx [(64, 64), (128, 128), (3840, 3840), (3904, 3904), (5888, 5888), (12800, 13312)] (by refine ⟨?_, ?_, ?_⟩ <;> simp [go_sem, gL, kL, List.map_append, dv_push, wo0, K7V, toDL_dvF, frz, frzL, toD, mkAgg, nmD, dv_one]))⟩
        · exact ⟨([], b1 + 1), ⟨.inl rfl, by simp only; omega, by simp only; omega⟩, (Weak.oC hcx [(64, 64), (128, 128), (3840, 3840), (3904, 3904), (5888, 5888), (12800, 12800)] (by refine ⟨?_, ?_, ?_⟩ <;> simp [go_sem, gL, kL, List.map_append, dv_push, wo0, K7V, toDL_dvF, frz, frzL, toD, mkAgg, nmD]))⟩
      rintro s2 ⟨ms1, b2⟩ ⟨hms1, hb3, hb4⟩ hw2
      dsimp only at hms1 hb3 hb4 hw2
      refine hK s2 (AW.weak hw2 ?_)
      clear hw2 hK K
      have htm : List.take ms1.length (dv (ms1.map D.str)) = dv (ms1.map D.str) := List.take_of_length_le (by simp [dv])
      have htm2 : List.take (ms1.length + 1) (dv (ms1.map D.str ++ [D.str [122, 64, 115, 104, 97, 114, 101, 100]])) = dv (ms1.map D.str ++ [D.str [122, 64, 115, 104, 97, 114, 101, 100]]) := List.take_of_length_le (by simp [dv])
      have hml : ms1.length ≤ 1 := by rcases hms1 with rfl | rfl <;> simp
      refine AW.seq_k fun K hK => ?_
      refine AW.joinK (ι := List Str × Int) (fun p => (OkMl p.1 ∧ p.1.length ≤ 2) ∧ a ≤ p.2 ∧ p.2 ≤ a + 30) (fun p => ⟨264, [(0, .ptr 0 0), (4, .ptr 64 0), (5, .ptr 128 0), (11, .slr 3904 0 n), (13, S key), (14, .ptr 5888 0), (80, .slr 3904 0 n), (81, I n), (82, I i)], [(0, some (Stm l p.2)), (64, some wo0), (128, some (O.box 31 [.d (.sl (ps.map plD)), .slr 3840 0 pes.length, .nils, .nils])), (3904, some K7V), (3840, some (O.vec 50 5 (dv (pes.map peD)))), (5888, some (O.box 50 [S key, .d (.sl (ns.map nmD)), .d (.sl (hs.map hmD)), .d (.sl (p.1.map D.str)), .nils]))], 400⟩) ?_ ?_
      · repeat' (first | ((first | refine AW.sreg rfl fun K hK => ?_ | refine AW.reg rfl ?_); simp only [go_sem, ↓reduceIte, List.set_cons_zero, htm, List.length_map]) | (refine AW.skip ?_; simp only [Then, InBlock]) | (refine AW.cond rfl (fun h => ?_) (fun h => ?_) <;> (try simp only [decide_eq_true_eq, decide_eq_false_iff_not, Bool.not_eq_true', Bool.not_eq_false', Bool.not_eq_eq_eq_not, Bool.not_true, Bool.not_false, beq_iff_eq, bne_iff_ne, beq_eq_false_iff_ne, ne_eq, Bool.and_eq_true, Bool.or_eq_true, Bool.or_eq_false_iff] at h)) | (refine hK _ ?_; clear hK K) | (refine run_callI _ _ _ ((flipI l hl2 b2 4 (by omega) (by omega) (by omega) (by omega)).objs [0] ⟨rfl, trivial⟩ rfl (by decide) (by simp [go_sem, renOs]) (by simp [go_sem]) (by simp [go_sem]) (fun j hj => ⟨by simp, by simp, by simp [go_sem], by simp [go_sem]⟩)) rfl rfl (dstOk_of rfl) rfl rfl rfl ?_; rintro r1 hr1; (try dsimp only at r1); (try dsimp only at hr1); simp only [go_sem, ↓reduceIte, List.set_cons_zero, htm, List.length_map]) | (with_reducible refine andI ?_))
        · exact ⟨(ms1 ++ [ZS], b2 + 1), ⟨⟨mls_ok hkk7 hms1, by simp; omega⟩, by simp only; omega, by simp only; omega⟩, (Weak.oC hcx [(64, 64), (128, 128), (3840, 3840), (3904, 3904), (5888, 5888)] (by refine ⟨?_, ?_, ?_⟩ <;> simp [go_sem, gL, kL, List.map_append, dv_push, wo0, K7V, toDL_dvF, frz, frzL, toD, mkAgg, nmD, ZS, htm2]))⟩
        · exact ⟨(ms1, b2 + 1), ⟨⟨mls_ok0 hkk7 hms1, by simp only; omega⟩, by simp only; omega, by simp only; omega⟩, (Weak.oC hcx [(64, 64), (128, 128), (3840, 3840), (3904, 3904), (5888, 5888)] (by refine ⟨?_, ?_, ?_⟩ <;> simp [go_sem, gL, kL, List.map_append, dv_push, wo0, K7V, toDL_dvF, frz, frzL, toD, mkAgg, nmD]))⟩
      rintro s2 ⟨ms, b3⟩ ⟨⟨hms, hms2⟩, hb5, hb6⟩ hw2
      dsimp only at hms hms2 hb5 hb6 hw2
      refine hK s2 (AW.weak hw2 ?_)
      clear hw2 hK K hms1 htm hml
      refine AW.weak (Weak.nilB 5888 4 50 9 1 rfl rfl) ?_
      simp only [List.set_cons_zero, List.set_cons_succ, Nat.reduceMul, Nat.reduceAdd]
      have hn1 := next_any l hl2 b3 n (by omega) (by omega) (by omega) (by omega)
      have hr1 := nextV_range l b3 n (by omega)
      generalize nextV l b3 n = jj at hn1 hr1
      obtain ⟨oth, hoth, hothm⟩ := K7_get hn (show jj.toNat < n by omega)
      have hgo : (dv (K7.map D.str))[jj.toNat]? = some (S oth) := by simp [dv, hoth]
      have hflp := flipI l hl2 (b3 + 1) 3 (by omega) (by omega) (by omega) (by omega)
      refine AW.seq_k fun K hK => ?_
      refine AW.joinK (ι := List Str × Int) (fun p => ((OkAd key p.1 ∧ ∀ y ∈ p.1, y ∈ K7.take n) ∧ p.1.length ≤ 1) ∧ a ≤ p.2 ∧ p.2 ≤ a + 32) (fun p => ⟨264, [(0, .ptr 0 0), (4, .ptr 64 0), (5, .ptr 128 0), (11, .slr 3904 0 n), (13, S key), (14, .ptr 5888 0), (80, .slr 3904 0 n), (81, I n), (82, I i)], [(0, some (Stm l p.2)), (64, some wo0), (128, some (O.box 31 [.d (.sl (ps.map plD)), .slr 3840 0 pes.length, .nils, .nils])), (3904, some K7V), (3840, some (O.vec 50 5 (dv (pes.map peD)))), (5888, some (O.box 50 [S key, .d (.sl (ns.map nmD)), .d (.sl (hs.map hmD)), .d (.sl (ms.map D.str)), .d (.sl (p.1.map D.str))]))], 500⟩) ?_ ?_
      · by_cases ho : oth = key
        · have e1 : (oth == key) = true := by simp [ho]
          repeat' (first | ((first | refine AW.sreg rfl fun K hK => ?_ | refine run_call _ _ _ ((hn1).objA [0]) rfl rfl (dstOk_of rfl) rfl rfl rfl ?_); simp only [go_sem, ↓reduceIte, List.set_cons_zero, List.length_map, hgo, Nat.zero_add, e1, Bool.not_true, Bool.not_false]) | (refine AW.skip ?_; simp only [Then, InBlock]) | (refine AW.cF ?_) | (refine hK _ ?_; clear hK K) | (with_reducible refine andI ?_))
          exact ⟨([], b3 + 1), ⟨⟨⟨⟨by simp, by simp, by simp⟩, by simp⟩, by simp⟩, by simp only; omega, by simp only; omega⟩, (Weak.oC hcx [(64, 64), (128, 128), (3840, 3840), (3904, 3904), (5888, 5888)] (by refine ⟨?_, ?_, ?_⟩ <;> simp [go_sem, gL, kL, List.map_append, dv_push, wo0, K7V, toDL_dvF, frz, frzL, toD, mkAgg, nmD]))⟩
        · have e1 : (oth == key) = false := by simp [ho]
          repeat' (first | ((first | refine AW.sreg rfl fun K hK => ?_ | refine AW.reg rfl ?_ | refine run_call _ _ _ ((hn1).objA [0]) rfl rfl (dstOk_of rfl) rfl rfl rfl ?_); simp only [go_sem, ↓reduceIte, List.set_cons_zero, List.length_map, hgo, Nat.zero_add, e1, Bool.not_true, Bool.not_false]) | (refine AW.skip ?_; simp only [Then, InBlock]) | (refine AW.cond rfl (fun h => ?_) (fun h => ?_) <;> (try simp only [decide_eq_true_eq, decide_eq_false_iff_not, Bool.not_eq_true', Bool.not_eq_false', Bool.not_eq_eq_eq_not, Bool.not_true, Bool.not_false, beq_iff_eq, bne_iff_ne, beq_eq_false_iff_ne, ne_eq, Bool.and_eq_true, Bool.or_eq_true, Bool.or_eq_false_iff] at h)) | (refine hK _ ?_; clear hK K) | (refine run_callI _ _ _ ((hflp).objs [0] ⟨rfl, trivial⟩ rfl (by decide) (by simp [go_sem, renOs]) (by simp [go_sem]) (by simp [go_sem]) (fun j hj => ⟨by simp, by simp, by simp [go_sem], by simp [go_sem]⟩)) rfl rfl (dstOk_of rfl) rfl rfl rfl ?_; rintro r1 hr1; (try dsimp only at r1); (try dsimp only at hr1); simp only [go_sem, ↓reduceIte, List.set_cons_zero, List.length_map, hgo, Nat.zero_add, e1, Bool.not_true, Bool.not_false]) | (with_reducible refine andI ?_))
          · exact ⟨([oth], b3 + 1 + 1), ⟨⟨ads_one hothm ho, by simp⟩, by simp only; omega, by simp only; omega⟩, (Weak.oC hcx [(64, 64), (128, 128), (3840, 3840), (3904, 3904), (5888, 5888)] (by refine ⟨?_, ?_, ?_⟩ <;> simp [go_sem, gL, kL, List.map_append, dv_push, wo0, K7V, toDL_dvF, frz, frzL, toD, mkAgg, nmD]))⟩
          · exact ⟨([], b3 + 1 + 1), ⟨⟨⟨⟨by simp, by simp, by simp⟩, by simp⟩, by simp⟩, by simp only; omega, by simp only; omega⟩, (Weak.oC hcx [(64, 64), (128, 128), (3840, 3840), (3904, 3904), (5888, 5888)] (by refine ⟨?_, ?_, ?_⟩ <;> simp [go_sem, gL, kL, List.map_append, dv_push, wo0, K7V, toDL_dvF, frz, frzL, toD, mkAgg, nmD]))⟩
      rintro s2 ⟨ads, b4⟩ ⟨⟨⟨had, hadm⟩, had1⟩, hb7, hb8⟩ hw2
      dsimp only at had hadm had1 hb7 hb8 hw2
      refine hK s2 (AW.weak hw2 ?_)
      clear hw2 hK K hn1 hflp
      refine AW.seq_k fun K hK => ?_
      refine AW.joinK (ι := List Nm) (fun p => OkNm p ∧ p.length ≤ 2) (fun p => ⟨264, [(0, .ptr 0 0), (4, .ptr 64 0), (5, .ptr 128 0), (11, .slr 3904 0 n), (13, S key), (14, .ptr 5888 0), (80, .slr 3904 0 n), (81, I n), (82, I i)], [(0, some (Stm l b4)), (64, some wo0), (128, some (O.box 31 [.d (.sl (ps.map plD)), .slr 3840 0 pes.length, .nils, .nils])), (3904, some K7V), (3840, some (O.vec 50 5 (dv (pes.map peD)))), (5888, some (O.box 50 [S key, .d (.sl (p.map nmD)), .d (.sl (hs.map hmD)), .d (.sl (ms.map D.str)), .d (.sl (ads.map D.str))]))], 600⟩) ?_ ?_
      · have hwf := worldFaultR ps hc key hkk7 ns ⟨by have := hns.len; omega, fun x hx => (hns.nm x hx).1⟩ hs hhm ms ⟨hms.len, hms.ml⟩
        repeat' (first | (refine AW.sreg rfl fun K hK => ?_; simp only [go_sem, ↓reduceIte]))
        refine run_callI _ _ _ (hwf.lend (frzL_cons ?_ frzL_nil) rfl rfl (fun _ => rfl)) rfl rfl (dstOk_of rfl) rfl rfl rfl ?_
        · rfl
        rintro e he
        simp only [go_sem, ↓reduceIte]
        repeat' (first | (refine AW.reg rfl ?_; simp only [go_sem, ↓reduceIte, List.set_cons_zero]) | (refine AW.skip ?_; simp only [Then, InBlock]) | (refine AW.cond rfl (fun h => ?_) (fun h => ?_) <;> (try simp only [decide_eq_true_eq, decide_eq_false_iff_not, Bool.not_eq_true', Bool.not_eq_false', Bool.not_eq_eq_eq_not, Bool.not_true, Bool.not_false, beq_iff_eq, bne_iff_ne, beq_eq_false_iff_ne, ne_eq, Bool.and_eq_true, Bool.or_eq_true, Bool.or_eq_false_iff] at h)) | (refine hK _ ?_; clear hK K))
        · exact ⟨[(CidMoe, 0)], ⟨cidMoe_ok, by simp⟩, (Weak.oC hcx [(64, 64), (128, 128), (3840, 3840), (3904, 3904), (5888, 5888)] (by refine ⟨?_, ?_, ?_⟩ <;> simp [go_sem, gL, kL, List.map_append, dv_push, wo0, K7V, toDL_dvF, frz, frzL, toD, mkAgg, nmD, dv_one]))⟩
        · exact ⟨ns, ⟨hns.ok (he (by simpa using h)), hns.len⟩, (Weak.oC hcx [(64, 64), (128, 128), (3840, 3840), (3904, 3904), (5888, 5888)] (by refine ⟨?_, ?_, ?_⟩ <;> simp [go_sem, gL, kL, List.map_append, dv_push, wo0, K7V, toDL_dvF, frz, frzL, toD, mkAgg, nmD]))⟩
      rintro s2 ns2 ⟨hns2, hns3⟩ hw2
      (try dsimp only at hw2)
      refine hK s2 (AW.weak hw2 ?_)
      clear hw2 hK K
      have htk : K7.take (i + 1) = K7.take i ++ [key] := by rw [List.take_add_one, hkey]; rfl
      repeat' (first | (refine AW.reg rfl ?_; simp only [go_sem, ↓reduceIte, htp, List.length_map]) | (refine hK _ ?_; clear hK K) | (with_reducible refine andI ?_))
      refine ⟨(i + 1, pes ++ [⟨key, ns2, hs, ms, ads⟩], b4), ⟨hi, ⟨by rw [List.map_append, hk, htk]; rfl, ?_, ?_⟩, by simp only; omega, by simp only; omega⟩, by simp only; omega, (Weak.oC hcx [(64, 64), (128, 128), (3840, 38656), (3904, 3904)] (by refine ⟨?_, ?_, ?_⟩ <;> simp [go_sem, gL, kL, List.map_append, dv_push, wo0, K7V, toDL_dvF, frz, frzL, toD, mkAgg, nmD]))⟩
      · intro x hx
        rcases List.mem_append.1 hx with hx | hx
        · exact hpe x hx
        · obtain rfl := List.mem_singleton.1 hx
          exact ⟨⟨hns2, hhm, hms, had⟩, hns3, hh3, hms2, had1⟩
      · intro x hx
        rcases List.mem_append.1 hx with hx | hx
        · exact hadv x hx
        · obtain rfl := List.mem_singleton.1 hx
          exact hadm
  · obtain rfl : i = n := by omega
    repeat' (first | ((first | refine AW.sreg rfl fun K hK => ?_ | refine AW.exit ?_); simp only [go_sem, ↓reduceIte]) | (refine AW.seq_k fun K hK => ?_) | (refine AW.cF ?_) | (refine hK _ ?_; clear hK K))
    exact ⟨(pes, a), ⟨⟨hk, fun x hx => (hpe x hx).1, hadv, fun x hx => (hpe x hx).2⟩, by simp only; omega, by simp only; omega⟩, (Weak.oC hcx [(64, 64), (128, 128), (192, 3904)] (by refine ⟨?_, ?_, ?_⟩ <;> simp [go_sem, gL, kL, List.map_append, dv_push, wo0, K7V, toDL_dvF, frz, frzL, toD, mkAgg]))⟩
end Go.AX

namespace Go.AX
open Go Go.Proofs Go.RowKit
abbrev K4V : O := .vec 9 1 [S [100, 101, 112, 116], S [105, 110, 115, 116], S [108, 97, 98], S [117, 110, 105]]
theorem PlR.nil : PlR 0 [] := ⟨by simp, by simp, by simp, by simp⟩
/-- The places when the first ones were cleaned. -/
def clnT (ps : List Pl) (i : Nat) : List Pl := (ps.take i).map (cln (ps.map (·.1))) ++ ps.drop i
theorem clnT_keys (ps : List Pl) (i : Nat) : (clnT ps i).map (·.1) = ps.map (·.1) := by
  unfold clnT
  rw [List.map_append, cln_keys, ← List.map_append, List.take_append_drop]
theorem clnT_len (ps : List Pl) (i : Nat) : (clnT ps i).length = ps.length := by
  have := congrArg List.length (clnT_keys ps i)
  simpa using this
theorem clnT_get {ps : List Pl} {i : Nat} {x : Pl} (hx : ps[i]? = some x) : (clnT ps i)[i]? = some x := by
  have hi : i < ps.length := (List.getElem?_eq_some_iff.1 hx).1
  unfold clnT
  rw [List.getElem?_append_right (by simp; omega)]
  simp only [List.length_map, List.length_take, Nat.min_eq_left (Nat.le_of_lt hi), Nat.sub_self, List.getElem?_drop, Nat.add_zero]
  exact hx
theorem clnT_set {ps : List Pl} {i : Nat} {x : Pl} (hx : ps[i]? = some x) : (clnT ps i).set i (cln (ps.map (·.1)) x) = clnT ps (i + 1) := by
  have hi : i < ps.length := (List.getElem?_eq_some_iff.1 hx).1
  have hd : ps.drop i = x :: ps.drop (i + 1) := by rw [List.drop_eq_getElem_cons hi]; congr 1; exact (List.getElem?_eq_some_iff.1 hx).2
  unfold clnT
  rw [hd, List.take_add_one, hx, List.map_append]
  have hl : ((ps.take i).map (cln (ps.map (·.1)))).length = i := by simp; omega
  have := set_mid ((ps.take i).map (cln (ps.map (·.1)))) x (ps.drop (i + 1)) (cln (ps.map (·.1)) x)
  rw [hl] at this
  rw [this]
  simp
theorem cln_C {ps : List Pl} (h : PlR 4 ps) : PlC (ps.map (cln (ps.map (·.1)))) := by
  refine ⟨cln_ok h, by have := h.len; simp; omega, ?_⟩
  intro p hp
  obtain ⟨q, hq, rfl⟩ := List.mem_map.1 hp
  rw [cln_key]
  refine ⟨List.mem_of_mem_take (h.key q hq), ?_⟩
  unfold cln
  split
  · rcases h.par q hq with e | e
    · exact .inl e
    · exact .inr e.1
  · exact .inl rfl
theorem rwA {cx : Cx} (hcx : CxOk cx 1) (l : List Int) (hl2 : l.length ≤ 9223372036854775807) (at_ a0 : Int) (ha : 0 ≤ at_) (hb : at_ ≤ 1000) (ha0 : at_ ≤ a0) (hb0 : a0 ≤ at_ + 50) (n : Nat) (hn : n ≤ 7) (ps : List Pl) (hp : PlR 4 ps) :
    AW Tryz.prog cx (RWb Tryz.f7 3) (RWQ l at_ n) ⟨264, [(0, .ptr 0 0), (1, I n), (4, .ptr 64 0), (5, .ptr 128 0)], [(0, some (Stm l a0)), (64, some wo0), (128, some (O.box 31 [.slr 384 0 ps.length, .nils, .nils, .nils])), (384, some (O.vec 60 2 (dv (ps.map plD))))], 30⟩ := by
  have hpc : PlC (ps.map (cln (ps.map (·.1)))) := cln_C hp
  refine AW.seq_k fun K hK => ?_
  refine AW.joinK (ι := Unit) (fun _ => True) (fun _ => ⟨264, [(0, .ptr 0 0), (1, I n), (4, .ptr 64 0), (5, .ptr 128 0)], [(0, some (Stm l a0)), (64, some wo0), (128, some (O.box 31 [.d (.sl ((ps.map (cln (ps.map (·.1)))).map plD)), .nils, .nils, .nils]))], 60⟩) ?_ (fun s2 _ _ hw2 => hK s2 (AW.weak hw2 (rwB hcx l hl2 at_ a0 ha hb ha0 hb0 n hn _ hpc)))
  clear hK K
  have hpl := hp.len
  repeat' (first | (refine AW.sreg rfl fun K hK => ?_; simp only [go_sem, ↓reduceIte]) | (refine AW.block ?_) | (refine hK _ ?_; clear hK K))
  refine AW.loopF (ι := Nat) [0, 1, 4, 5, 56] (fun p => [(57, I p)]) (fun p => [(0, some (Stm l a0)), (64, some wo0), (128, some (O.box 31 [.slr 384 0 ps.length, .nils, .nils, .nils])), (384, some (O.vec 60 2 (dv ((clnT ps p).map plD))))]) 60 (fun p => p ≤ ps.length) (fun p => ps.length - p) 0 (Nat.zero_le _) (Weak.oC hcx [(64, 64), (128, 128), (384, 384)] (by refine ⟨?_, ?_, ?_⟩ <;> simp [go_sem, gL, kL, List.map_append, dv_push, wo0, clnT])) ?_; simp only [St.at_nil, St.at_cons, lk, Nat.reduceEqDiff, ↓reduceIte, Option.getD_some, Option.getD_none, List.cons_append, List.nil_append, List.append_nil]
  intro i h1
  have hcl := clnT_len ps i
  by_cases hi : i < ps.length
  · obtain ⟨x, hx, hxm, hxd⟩ := get_some hi
    have hget : (dv ((clnT ps i).map plD))[i]? = some (.d (plD x)) := by simp [dv, clnT_get hx]
    have hpa := placeAt_any (clnT ps i) (by omega) x.2
    have hset := clnT_set hx
    rcases ixP_cases (clnT ps i) x.2 with ⟨e1, e2⟩ | ⟨j, p, e1, e2, e3⟩
    · rw [clnT_keys] at e2
      rw [e1] at hpa
      have hc : cln (ps.map (·.1)) x = (x.1, []) := if_neg e2
      rw [hc] at hset
      have hset2 : (dv ((clnT ps i).map plD)).set i (.d (.agg [.str x.1, .str []])) = dv ((clnT ps (i + 1)).map plD) := by
        rw [← hset]; simp [dv, List.map_set]
      repeat' (first | ((first | refine AW.sreg rfl fun K hK => ?_ | refine AW.sregD hmix rfl fun K hK => ?_ | refine AW.reg rfl ?_ | refine runT_call _ _ [384] (fun hv hag => (hpa).lend (by repeat' (first | exact frzL_nil | refine frzL_cons (by first | exact frz_d | exact frz_slr rfl ((hag 384 (by simp)).trans rfl) (by first | (simp; done) | (simp; omega) | (simp [*]; done) | fail) | rfl) ?_)) rfl rfl rfl) rfl rfl (dstOk_of rfl) rfl rfl ?_); simp only [go_sem, ↓reduceIte, List.length_map, hget, hcl, hset2, Nat.zero_add]) | (refine AW.seq_k fun K hK => ?_) | (refine AW.block ?_) | (refine AW.skip ?_; simp only [Then, InBlock]) | (refine AW.cT ?_) | (refine hK _ ?_; clear hK K) | (with_reducible refine And.intro (?_ : regOk _ _ = true) ?_; kernel_rfl) | (with_reducible refine andI ?_))
      all_goals first | exact ⟨i + 1, hi, by omega, (Weak.oC hcx [(64, 64), (128, 128), (384, 384)] (by refine ⟨?_, ?_, ?_⟩ <;> simp [go_sem, gL, kL, List.map_append, dv_push, wo0]))⟩ | trace_state
    · have hm : x.2 ∈ ps.map (·.1) := by rw [← clnT_keys ps i, ← e3]; exact List.mem_map_of_mem (List.mem_of_getElem? e2)
      rw [e1] at hpa
      have hc : cln (ps.map (·.1)) x = x := if_pos hm
      rw [hc] at hset
      have hset3 : clnT ps (i + 1) = clnT ps i := by
        rw [← hset]
        have h4 := clnT_get hx
        obtain ⟨h5, h6⟩ := List.getElem?_eq_some_iff.1 h4
        rw [← h6]
        exact List.set_getElem_self h5
      repeat' (first | ((first | refine AW.sreg rfl fun K hK => ?_ | refine AW.sregD hmix rfl fun K hK => ?_ | refine AW.reg rfl ?_ | refine runT_call _ _ [384] (fun hv hag => (hpa).lend (by repeat' (first | exact frzL_nil | refine frzL_cons (by first | exact frz_d | exact frz_slr rfl ((hag 384 (by simp)).trans rfl) (by first | (simp; done) | (simp; omega) | (simp [*]; done) | fail) | rfl) ?_)) rfl rfl rfl) rfl rfl (dstOk_of rfl) rfl rfl ?_); simp only [go_sem, ↓reduceIte, List.length_map, hget, hcl, Nat.zero_add]) | (refine AW.seq_k fun K hK => ?_) | (refine AW.block ?_) | (refine AW.skip ?_; simp only [Then, InBlock]) | (refine AW.cT ?_) | (refine AW.cF ?_) | (refine hK _ ?_; clear hK K) | (with_reducible refine And.intro (?_ : regOk _ _ = true) ?_; kernel_rfl) | (with_reducible refine andI ?_))
      all_goals first | exact ⟨i + 1, hi, by omega, (Weak.oC hcx [(64, 64), (128, 128), (384, 384)] (by refine ⟨?_, ?_, ?_⟩ <;> simp [go_sem, gL, kL, List.map_append, dv_push, wo0, hset3]))⟩ | trace_state
  · obtain rfl : i = ps.length := by omega
    have hfin : clnT ps ps.length = ps.map (cln (ps.map (·.1))) := by simp [clnT]
    rw [hfin]
    repeat' (first | (refine AW.sreg rfl fun K hK => ?_; simp only [go_sem, ↓reduceIte, List.length_map]) | (refine AW.seq_k fun K hK => ?_) | (refine AW.exit ?_; simp only [go_sem, ↓reduceIte]) | (refine AW.cF ?_) | (refine hK _ ?_; clear hK K))
    exact ⟨(), (Weak.oC hcx [(64, 64), (128, 128)] (by refine ⟨?_, ?_, ?_⟩ <;> simp [go_sem, gL, kL, List.map_append, dv_push, wo0, toDL_dvF, frz, frzL, toD, mkAgg]))⟩
theorem rightWorldI (l : List Int) (hl2 : l.length ≤ 9223372036854775807) (at_ : Int) (ha : 0 ≤ at_) (hb : at_ ≤ 1000) (n : Nat) (hn : n ≤ 7) :
    DoesI Tryz.prog 7 [.ptr 0 0, I n] [Stm l at_] (fun q : Wo × Int => RWR n q.1 ∧ at_ ≤ q.2 ∧ q.2 ≤ at_ + 1000) (fun q => .d (woD q.1)) (fun q => [Stm l q.2]) := by
  refine DoesI.of_AW (n := 264) Tryz.func7 rfl rfl rfl fun cx hcx => ?_
  refine AW.sreg rfl fun K hK => ?_; simp only [go_sem, ↓reduceIte]
  refine hK _ ?_; (try clear hK K)
  refine AW.sreg rfl fun K hK => ?_; simp only [go_sem, ↓reduceIte]
  refine hK _ ?_; (try clear hK K)
  refine AW.seq_k fun K hK => ?_
  refine AW.joinK (ι := List Pl × Int) (fun p => PlR 4 p.1 ∧ at_ ≤ p.2 ∧ p.2 ≤ at_ + 50) (fun p => ⟨264, [(0, .ptr 0 0), (1, I n), (4, .ptr 64 0), (5, .ptr 128 0)], [(0, some (Stm l p.2)), (64, some wo0), (128, some (O.box 31 [.slr 384 0 p.1.length, .nils, .nils, .nils])), (384, some (O.vec 60 2 (dv (p.1.map plD))))], 30⟩) ?_ (fun s2 p hp2 hw2 => hK s2 (AW.weak hw2 (rwA hcx l hl2 at_ p.2 ha hb hp2.2.1 hp2.2.2 n hn p.1 hp2.1)))
  clear hK K
  repeat' (first | (refine AW.sreg rfl fun K hK => ?_; simp only [go_sem, ↓reduceIte]) | (refine AW.block ?_) | (refine hK _ ?_; clear hK K))
  refine AW.weak (Weak.nilB 128 0 31 60 2 rfl rfl) ?_
  refine AW.loopF (ι := Nat × List Pl × Int) [0, 1, 4, 5, 18, 19] (fun p => [(20, I p.1)]) (fun p => [(0, some (Stm l p.2.2)), (64, some wo0), (128, some (O.box 31 [.slr 384 0 p.2.1.length, .nils, .nils, .nils])), (192, some K4V), (384, some (O.vec 60 2 (dv (p.2.1.map plD))))]) 20 (fun p => p.1 ≤ 4 ∧ PlR p.1 p.2.1 ∧ at_ ≤ p.2.2 ∧ p.2.2 ≤ at_ + 3 * p.1) (fun p => 4 - p.1) (0, [], at_) ⟨by omega, PlR.nil, by simp only; omega, by simp only; omega⟩ (Weak.oC hcx [(64, 64), (128, 128), (192, 192), (384, 384)] (by refine ⟨?_, ?_, ?_⟩ <;> simp [go_sem, gL, kL, List.map_append, dv_push, K4V, wo0])) ?_; simp only [St.at_nil, St.at_cons, lk, Nat.reduceEqDiff, ↓reduceIte, Option.getD_some, Option.getD_none, List.cons_append, List.nil_append, List.append_nil]
  rintro ⟨i, ps, a⟩ ⟨h1, hp, h3, h4⟩
  dsimp only at h1 hp h3 h4 ⊢
  have htk : List.take ps.length (dv (ps.map plD)) = dv (ps.map plD) := List.take_of_length_le (by simp [dv])
  have hpl := hp.len
  have z0 : ((0 : Nat) : Int) = 0 := rfl
  have z1 : ((0 + 1 : Nat) : Int) = 1 := rfl
  have z2 : ((0 + 1 + 1 : Nat) : Int) = 2 := rfl
  have z3 : ((0 + 1 + 1 + 1 : Nat) : Int) = 3 := rfl
  have z4 : ((4 : Nat) : Int) = 4 := rfl
  have hnx := fun m : Int => next_any l hl2 (a + 1 + 1) m
  rcases i with _ | _ | _ | _ | i
  · have hn1 := hnx 3 (by omega) (by omega) (by omega) (by omega)
    have hn2 := nextV_range l (a + 1 + 1) 3 (by omega)
    generalize nextV l (a + 1 + 1) 3 = j at hn1 hn2
    obtain ⟨q, hq, hqm⟩ : ∃ q, ([S [105, 110, 115, 116], S [108, 97, 98], S [117, 110, 105]] : List V)[j.toNat]? = some (S q) ∧ (q ∈ K4 ∧ ltS [100, 101, 112, 116] q = true) := by
      obtain rfl | rfl | rfl : j = 0 ∨ j = 1 ∨ j = 2 := by omega
      all_goals exact ⟨_, rfl, by decide⟩
    repeat' (first | ((first | refine AW.sreg rfl fun K hK => ?_ | refine AW.reg rfl ?_ | refine run_call _ _ _ ((hn1).objA [0]) rfl rfl (dstOk_of rfl) rfl rfl rfl ?_); simp only [go_sem, ↓reduceIte, List.length_map, htk, z0, z1, z2, z3, z4, Int.reduceLT, Int.reduceToNat, Nat.reduceSub, Nat.add_zero, Nat.zero_add, hq]) | (refine AW.seq_k fun K hK => ?_) | (refine AW.block ?_) | (refine AW.skip ?_; simp only [Then, InBlock]) | (refine AW.exit ?_; simp only [go_sem, ↓reduceIte]) | (refine AW.cT ?_) | (refine AW.cond rfl (fun h => ?_) (fun h => ?_) <;> (try simp only [decide_eq_true_eq, decide_eq_false_iff_not, Bool.not_eq_true', Bool.not_eq_false', Bool.not_eq_eq_eq_not, Bool.not_true, Bool.not_false, beq_iff_eq, bne_iff_ne, beq_eq_false_iff_ne, ne_eq, Bool.and_eq_true, Bool.or_eq_true, Bool.or_eq_false_iff] at h)) | (refine hK _ ?_; clear hK K) | (clear hK K; refine hK _ ?_; clear hK K) | (refine run_callI _ _ _ ((flipI l hl2 a 4 (by omega) (by omega) (by omega) (by omega)).objs [0] ⟨rfl, trivial⟩ rfl (by decide) (by simp [go_sem, renOs]) (by simp [go_sem]) (by simp [go_sem]) (fun j hj => ⟨by simp, by simp, by simp [go_sem], by simp [go_sem]⟩)) rfl rfl (dstOk_of rfl) rfl rfl rfl ?_; rintro r hr; (try dsimp only at r); (try dsimp only at hr); simp only [go_sem, ↓reduceIte, List.length_map, htk, z0, z1, z2, z3, z4, Int.reduceLT, Int.reduceToNat, Nat.reduceSub, Nat.add_zero, Nat.zero_add, hq]) | (refine run_callI _ _ _ ((flipI l hl2 (a + 1) 2 (by omega) (by omega) (by omega) (by omega)).objs [0] ⟨rfl, trivial⟩ rfl (by decide) (by simp [go_sem, renOs]) (by simp [go_sem]) (by simp [go_sem]) (fun j hj => ⟨by simp, by simp, by simp [go_sem], by simp [go_sem]⟩)) rfl rfl (dstOk_of rfl) rfl rfl rfl ?_; rintro r hr; (try dsimp only at r); (try dsimp only at hr); simp only [go_sem, ↓reduceIte, List.length_map, htk, z0, z1, z2, z3, z4, Int.reduceLT, Int.reduceToNat, Nat.reduceSub, Nat.add_zero, Nat.zero_add, hq]) | (with_reducible refine andI ?_))
    · exact ⟨(0 + 1, ps, a + 1), ⟨by simp only; omega, hp.skip, by simp only; omega, by simp only; omega⟩, by simp only; omega, (Weak.oC hcx [(64, 64), (128, 128), (192, 192), (384, 384)] (by refine ⟨?_, ?_, ?_⟩ <;> simp [go_sem, gL, kL, List.map_append, dv_push, K4V, wo0]))⟩
    · exact ⟨(0 + 1, ps ++ [([100, 101, 112, 116], q)], a + 1 + 1 + 1), ⟨by simp only; omega, hp.app rfl (.inr hqm), by simp only; omega, by simp only; omega⟩, by simp only; omega, (Weak.oC hcx [(64, 64), (128, 128), (192, 192), (384, 3584)] (by refine ⟨?_, ?_, ?_⟩ <;> simp [go_sem, gL, kL, List.map_append, dv_push, K4V, wo0]))⟩
    · exact ⟨(0 + 1, ps ++ [([100, 101, 112, 116], [])], a + 1 + 1), ⟨by simp only; omega, hp.app rfl (.inl rfl), by simp only; omega, by simp only; omega⟩, by simp only; omega, (Weak.oC hcx [(64, 64), (128, 128), (192, 192), (384, 3008)] (by refine ⟨?_, ?_, ?_⟩ <;> simp [go_sem, gL, kL, List.map_append, dv_push, K4V, wo0]))⟩
  · have hn1 := hnx 2 (by omega) (by omega) (by omega) (by omega)
    have hn2 := nextV_range l (a + 1 + 1) 2 (by omega)
    generalize nextV l (a + 1 + 1) 2 = j at hn1 hn2
    obtain ⟨q, hq, hqm⟩ : ∃ q, ([S [105, 110, 115, 116], S [108, 97, 98], S [117, 110, 105]] : List V)[1 + j.toNat]? = some (S q) ∧ (q ∈ K4 ∧ ltS [105, 110, 115, 116] q = true) := by
      obtain rfl | rfl : j = 0 ∨ j = 1 := by omega
      all_goals exact ⟨_, rfl, by decide⟩
    repeat' (first | ((first | refine AW.sreg rfl fun K hK => ?_ | refine AW.reg rfl ?_ | refine run_call _ _ _ ((hn1).objA [0]) rfl rfl (dstOk_of rfl) rfl rfl rfl ?_); simp only [go_sem, ↓reduceIte, List.length_map, htk, z0, z1, z2, z3, z4, Int.reduceLT, Int.reduceToNat, Nat.reduceSub, Nat.add_zero, Nat.zero_add, hq]) | (refine AW.seq_k fun K hK => ?_) | (refine AW.block ?_) | (refine AW.skip ?_; simp only [Then, InBlock]) | (refine AW.exit ?_; simp only [go_sem, ↓reduceIte]) | (refine AW.cT ?_) | (refine AW.cond rfl (fun h => ?_) (fun h => ?_) <;> (try simp only [decide_eq_true_eq, decide_eq_false_iff_not, Bool.not_eq_true', Bool.not_eq_false', Bool.not_eq_eq_eq_not, Bool.not_true, Bool.not_false, beq_iff_eq, bne_iff_ne, beq_eq_false_iff_ne, ne_eq, Bool.and_eq_true, Bool.or_eq_true, Bool.or_eq_false_iff] at h)) | (refine hK _ ?_; clear hK K) | (clear hK K; refine hK _ ?_; clear hK K) | (refine run_callI _ _ _ ((flipI l hl2 a 4 (by omega) (by omega) (by omega) (by omega)).objs [0] ⟨rfl, trivial⟩ rfl (by decide) (by simp [go_sem, renOs]) (by simp [go_sem]) (by simp [go_sem]) (fun j hj => ⟨by simp, by simp, by simp [go_sem], by simp [go_sem]⟩)) rfl rfl (dstOk_of rfl) rfl rfl rfl ?_; rintro r hr; (try dsimp only at r); (try dsimp only at hr); simp only [go_sem, ↓reduceIte, List.length_map, htk, z0, z1, z2, z3, z4, Int.reduceLT, Int.reduceToNat, Nat.reduceSub, Nat.add_zero, Nat.zero_add, hq]) | (refine run_callI _ _ _ ((flipI l hl2 (a + 1) 2 (by omega) (by omega) (by omega) (by omega)).objs [0] ⟨rfl, trivial⟩ rfl (by decide) (by simp [go_sem, renOs]) (by simp [go_sem]) (by simp [go_sem]) (fun j hj => ⟨by simp, by simp, by simp [go_sem], by simp [go_sem]⟩)) rfl rfl (dstOk_of rfl) rfl rfl rfl ?_; rintro r hr; (try dsimp only at r); (try dsimp only at hr); simp only [go_sem, ↓reduceIte, List.length_map, htk, z0, z1, z2, z3, z4, Int.reduceLT, Int.reduceToNat, Nat.reduceSub, Nat.add_zero, Nat.zero_add, hq]) | (with_reducible refine andI ?_))
    · exact ⟨(1 + 1, ps, a + 1), ⟨by simp only; omega, hp.skip, by simp only; omega, by simp only; omega⟩, by simp only; omega, (Weak.oC hcx [(64, 64), (128, 128), (192, 192), (384, 384)] (by refine ⟨?_, ?_, ?_⟩ <;> simp [go_sem, gL, kL, List.map_append, dv_push, K4V, wo0]))⟩
    · exact ⟨(1 + 1, ps ++ [([105, 110, 115, 116], q)], a + 1 + 1 + 1), ⟨by simp only; omega, hp.app rfl (.inr hqm), by simp only; omega, by simp only; omega⟩, by simp only; omega, (Weak.oC hcx [(64, 64), (128, 128), (192, 192), (384, 3584)] (by refine ⟨?_, ?_, ?_⟩ <;> simp [go_sem, gL, kL, List.map_append, dv_push, K4V, wo0]))⟩
    · exact ⟨(1 + 1, ps ++ [([105, 110, 115, 116], [])], a + 1 + 1), ⟨by simp only; omega, hp.app rfl (.inl rfl), by simp only; omega, by simp only; omega⟩, by simp only; omega, (Weak.oC hcx [(64, 64), (128, 128), (192, 192), (384, 3008)] (by refine ⟨?_, ?_, ?_⟩ <;> simp [go_sem, gL, kL, List.map_append, dv_push, K4V, wo0]))⟩
  · have hn1 := hnx 1 (by omega) (by omega) (by omega) (by omega)
    have hn2 := nextV_range l (a + 1 + 1) 1 (by omega)
    generalize nextV l (a + 1 + 1) 1 = j at hn1 hn2
    obtain ⟨q, hq, hqm⟩ : ∃ q, ([S [105, 110, 115, 116], S [108, 97, 98], S [117, 110, 105]] : List V)[2 + j.toNat]? = some (S q) ∧ (q ∈ K4 ∧ ltS [108, 97, 98] q = true) := by
      obtain rfl : j = 0 := by omega
      all_goals exact ⟨_, rfl, by decide⟩
    repeat' (first | ((first | refine AW.sreg rfl fun K hK => ?_ | refine AW.reg rfl ?_ | refine run_call _ _ _ ((hn1).objA [0]) rfl rfl (dstOk_of rfl) rfl rfl rfl ?_); simp only [go_sem, ↓reduceIte, List.length_map, htk, z0, z1, z2, z3, z4, Int.reduceLT, Int.reduceToNat, Nat.reduceSub, Nat.add_zero, Nat.zero_add, hq]) | (refine AW.seq_k fun K hK => ?_) | (refine AW.block ?_) | (refine AW.skip ?_; simp only [Then, InBlock]) | (refine AW.exit ?_; simp only [go_sem, ↓reduceIte]) | (refine AW.cT ?_) | (refine AW.cond rfl (fun h => ?_) (fun h => ?_) <;> (try simp only [decide_eq_true_eq, decide_eq_false_iff_not, Bool.not_eq_true', Bool.not_eq_false', Bool.not_eq_eq_eq_not, Bool.not_true, Bool.not_false, beq_iff_eq, bne_iff_ne, beq_eq_false_iff_ne, ne_eq, Bool.and_eq_true, Bool.or_eq_true, Bool.or_eq_false_iff] at h)) | (refine hK _ ?_; clear hK K) | (clear hK K; refine hK _ ?_; clear hK K) | (refine run_callI _ _ _ ((flipI l hl2 a 4 (by omega) (by omega) (by omega) (by omega)).objs [0] ⟨rfl, trivial⟩ rfl (by decide) (by simp [go_sem, renOs]) (by simp [go_sem]) (by simp [go_sem]) (fun j hj => ⟨by simp, by simp, by simp [go_sem], by simp [go_sem]⟩)) rfl rfl (dstOk_of rfl) rfl rfl rfl ?_; rintro r hr; (try dsimp only at r); (try dsimp only at hr); simp only [go_sem, ↓reduceIte, List.length_map, htk, z0, z1, z2, z3, z4, Int.reduceLT, Int.reduceToNat, Nat.reduceSub, Nat.add_zero, Nat.zero_add, hq]) | (refine run_callI _ _ _ ((flipI l hl2 (a + 1) 2 (by omega) (by omega) (by omega) (by omega)).objs [0] ⟨rfl, trivial⟩ rfl (by decide) (by simp [go_sem, renOs]) (by simp [go_sem]) (by simp [go_sem]) (fun j hj => ⟨by simp, by simp, by simp [go_sem], by simp [go_sem]⟩)) rfl rfl (dstOk_of rfl) rfl rfl rfl ?_; rintro r hr; (try dsimp only at r); (try dsimp only at hr); simp only [go_sem, ↓reduceIte, List.length_map, htk, z0, z1, z2, z3, z4, Int.reduceLT, Int.reduceToNat, Nat.reduceSub, Nat.add_zero, Nat.zero_add, hq]) | (with_reducible refine andI ?_))
    · exact ⟨(2 + 1, ps, a + 1), ⟨by simp only; omega, hp.skip, by simp only; omega, by simp only; omega⟩, by simp only; omega, (Weak.oC hcx [(64, 64), (128, 128), (192, 192), (384, 384)] (by refine ⟨?_, ?_, ?_⟩ <;> simp [go_sem, gL, kL, List.map_append, dv_push, K4V, wo0]))⟩
    · exact ⟨(2 + 1, ps ++ [([108, 97, 98], q)], a + 1 + 1 + 1), ⟨by simp only; omega, hp.app rfl (.inr hqm), by simp only; omega, by simp only; omega⟩, by simp only; omega, (Weak.oC hcx [(64, 64), (128, 128), (192, 192), (384, 3584)] (by refine ⟨?_, ?_, ?_⟩ <;> simp [go_sem, gL, kL, List.map_append, dv_push, K4V, wo0]))⟩
    · exact ⟨(2 + 1, ps ++ [([108, 97, 98], [])], a + 1 + 1), ⟨by simp only; omega, hp.app rfl (.inl rfl), by simp only; omega, by simp only; omega⟩, by simp only; omega, (Weak.oC hcx [(64, 64), (128, 128), (192, 192), (384, 3008)] (by refine ⟨?_, ?_, ?_⟩ <;> simp [go_sem, gL, kL, List.map_append, dv_push, K4V, wo0]))⟩
  · repeat' (first | ((first | refine AW.sreg rfl fun K hK => ?_ | refine AW.reg rfl ?_); simp only [go_sem, ↓reduceIte, List.length_map, htk, z0, z1, z2, z3, z4, Int.reduceLT, Int.reduceToNat, Nat.reduceSub, Nat.add_zero, Nat.zero_add]) | (refine AW.seq_k fun K hK => ?_) | (refine AW.block ?_) | (refine AW.skip ?_; simp only [Then, InBlock]) | (refine AW.exit ?_; simp only [go_sem, ↓reduceIte]) | (refine AW.cT ?_) | (refine AW.cF ?_) | (refine AW.cond rfl (fun h => ?_) (fun h => ?_) <;> (try simp only [decide_eq_true_eq, decide_eq_false_iff_not, Bool.not_eq_true', Bool.not_eq_false', Bool.not_eq_eq_eq_not, Bool.not_true, Bool.not_false, beq_iff_eq, bne_iff_ne, beq_eq_false_iff_ne, ne_eq, Bool.and_eq_true, Bool.or_eq_true, Bool.or_eq_false_iff] at h)) | (refine hK _ ?_; clear hK K) | (clear hK K; refine hK _ ?_; clear hK K) | (refine stepB_split (fun h => ?_) (fun h => ?_) <;> (have hb0 := h) <;> (try simp only [Bool.not_eq_true', Bool.not_eq_false'] at hb0) <;> (try simp only [decide_eq_true_eq, decide_eq_false_iff_not, Bool.not_eq_true', Bool.not_eq_false', Bool.not_eq_eq_eq_not, Bool.not_true, Bool.not_false, beq_iff_eq, bne_iff_ne, beq_eq_false_iff_ne, ne_eq, Bool.and_eq_true, Bool.or_eq_true, Bool.or_eq_false_iff] at h) <;> simp only [go_sem, ↓reduceIte, hb0, h, decide_true, decide_false, List.length_map, htk, z0, z1, z2, z3, z4, Int.reduceLT, Int.reduceToNat, Nat.reduceSub, Nat.add_zero, Nat.zero_add] <;> (try clear hb0)) | (refine run_callI _ _ _ ((flipI l hl2 a 4 (by omega) (by omega) (by omega) (by omega)).objs [0] ⟨rfl, trivial⟩ rfl (by decide) (by simp [go_sem, renOs]) (by simp [go_sem]) (by simp [go_sem]) (fun j hj => ⟨by simp, by simp, by simp [go_sem], by simp [go_sem]⟩)) rfl rfl (dstOk_of rfl) rfl rfl rfl ?_; rintro r hr; (try dsimp only at r); (try dsimp only at hr); simp only [go_sem, ↓reduceIte, List.length_map, htk, z0, z1, z2, z3, z4, Int.reduceLT, Int.reduceToNat, Nat.reduceSub, Nat.add_zero, Nat.zero_add]) | (with_reducible refine andI ?_))
    · exact ⟨(3 + 1, ps, a + 1), ⟨by simp only; omega, hp.skip, by simp only; omega, by simp only; omega⟩, by simp only; omega, (Weak.oC hcx [(64, 64), (128, 128), (192, 192), (384, 384)] (by refine ⟨?_, ?_, ?_⟩ <;> simp [go_sem, gL, kL, List.map_append, dv_push, K4V, wo0]))⟩
    · exact ⟨(3 + 1, ps ++ [([117, 110, 105], [])], a + 1), ⟨by simp only; omega, hp.app rfl (.inl rfl), by simp only; omega, by simp only; omega⟩, by simp only; omega, (Weak.oC hcx [(64, 64), (128, 128), (192, 192), (384, 3008)] (by refine ⟨?_, ?_, ?_⟩ <;> simp [go_sem, gL, kL, List.map_append, dv_push, K4V, wo0]))⟩
  · obtain rfl : i = 0 := by omega
    clear hnx
    repeat' (first | (refine AW.sreg rfl fun K hK => ?_; simp only [go_sem, ↓reduceIte, List.length_map, z4, Int.reduceLT]) | (refine AW.seq_k fun K hK => ?_) | (refine AW.exit ?_; simp only [go_sem, ↓reduceIte]) | (refine AW.cF ?_) | (refine hK _ ?_; clear hK K))
    exact ⟨(ps, a), ⟨hp, h3, by simp only; omega⟩, (Weak.oC hcx [(64, 64), (128, 128), (384, 384)] (by refine ⟨?_, ?_, ?_⟩ <;> simp [go_sem, gL, kL, List.map_append, dv_push, wo0]))⟩
end Go.AX
