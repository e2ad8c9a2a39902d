/- Reading a world: the reader's own lists. -/
import Derived.Test.YtcjdlbdoffchfaaGreatDoorCE
import Derived.Test.YtcjdlbdoffchfaaGreatDoorAx45
set_option linter.unusedSimpArgs false
set_option linter.unusedVariables false
set_option linter.unnecessarySimpa false
set_option maxRecDepth 1000000
set_option maxHeartbeats 4000000
namespace Go.AX
open Go Go.Proofs Go.RowKit
@[go_sem] theorem frzL_appR (hv : Nat → Option O) (keep : Nat → Bool) (xs ys : List V) : frzL hv keep (xs ++ ys) = frzL hv keep xs ++ frzL hv keep ys := by
  induction xs with
  | nil => rfl
  | cons x xs ih => simp only [List.cons_append, frzL, ih]
abbrev RdB (a b c d : V) (rk : Int) : O := .box 91 [a, b, c, d, I rk]
abbrev oPl (X : List D) : O := .vec 60 2 (dv X)
abbrev oWk (X : List D) : O := .vec 68 2 (dv X)
abbrev oBo (X : List D) : O := .vec 70 2 (dv X)
abbrev oNm (X : List D) : O := .vec 63 2 (dv X)
abbrev oHm (X : List D) : O := .vec 98 3 (dv X)
abbrev oSt (X : List D) : O := .vec 9 1 (dv X)
abbrev oPe (X : List D) (key : Str) (a b c d : V) : O := .vec 50 5 (dv X ++ [.agg [S key, a, b, c, d]])
/-- The reader's objects while a person is read. -/
abbrev rdO (key : Str) (rk : Int) (X1 X2 X3 X4 X5 X6 X7 X8 : List D) : List O :=
  [RdB (.slr 1 0 X1.length) (.slr 2 0 (X2.length + 1)) (.slr 3 0 X3.length) (.slr 4 0 X4.length) rk, oPl X1, oPe X2 key (.slr 5 0 X5.length) (.slr 6 0 X6.length) (.slr 7 0 X7.length) (.slr 8 0 X8.length), oWk X3, oBo X4, oNm X5, oHm X6, oSt X7, oSt X8]
theorem get_snoc (X : List D) (x : V) : (dv X ++ [x])[X.length]? = some x := by
  rw [List.getElem?_append_right (by simp [dv])]
  simp [dv]
theorem set_snoc (X : List D) (x y : V) : (dv X ++ [x]).set X.length y = dv X ++ [y] := by
  rw [List.set_append_right _ _ (by simp [dv])]
  simp [dv]
theorem take_snoc (X : List D) (x : V) : (dv X ++ [x]).take (X.length + 1) = dv X ++ [x] := List.take_of_length_le (by simp [dv])
theorem get_snoc2 (X : List D) (x y : V) : (dv X ++ [x] ++ [y])[X.length + 1]? = some y := by
  rw [List.getElem?_append_right (by simp [dv])]
  simp [dv]
theorem set_snoc2 (X : List D) (x y z : V) : (dv X ++ [x] ++ [y]).set (X.length + 1) z = dv X ++ [x] ++ [z] := by
  rw [List.set_append_right _ _ (by simp [dv])]
  simp [dv]
/-- The reader's objects while places are read. -/
abbrev rdP (rk : Int) (X1 : List D) : List O := [RdB (.slr 1 0 X1.length) (.slr 2 0 0) (.slr 3 0 0) (.slr 4 0 0) rk, oPl X1, .vec 50 5 [], oWk [], oBo []]
theorem last_any (key : Str) (rk : Int) (X1 X2 X3 X4 X5 X6 X7 X8 : List D) (h2 : X2.length ≤ 100000) : Does Tryz.prog 111 [.ptr 0 0] (rdO key rk X1 X2 X3 X4 X5 X6 X7 X8) (.pe 2 X2.length 0) (rdO key rk X1 X2 X3 X4 X5 X6 X7 X8) := by
  refine Does.of_AW (n := 16) Tryz.func111 rfl rfl rfl fun cx hcx => ?_
  have hn : ((X2.length + 1 : Nat) : Int) - 1 = (X2.length : Int) := by omega
  repeat' (first | ((first | refine AW.sreg rfl fun K hK => ?_ | refine AW.sregD hmix rfl fun K hK => ?_); simp only [go_sem, ↓reduceIte, hn, List.length_append, dv_length, List.length_cons, List.length_nil, Nat.zero_add, Int.toNat_natCast]) | (refine hK _ ?_; clear hK K) | (with_reducible refine And.intro (?_ : regOk _ _ = true) ?_; kernel_rfl) | (with_reducible refine andI ?_))
  exact AW.ret (Fin.objsD [0, 1, 2, 3, 4, 5, 6, 7, 8] rfl (by simp [go_sem, gI]) ⟨Or.inr ⟨_, rfl, by simp [go_sem, gI]⟩, Or.inr ⟨_, rfl, by simp [go_sem, gI]⟩, Or.inr ⟨_, rfl, by simp [go_sem, gI]⟩, Or.inr ⟨_, rfl, by simp [go_sem, gI]⟩, Or.inr ⟨_, rfl, by simp [go_sem, gI]⟩, Or.inr ⟨_, rfl, by simp [go_sem, gI]⟩, Or.inr ⟨_, rfl, by simp [go_sem, gI]⟩, Or.inr ⟨_, rfl, by simp [go_sem, gI]⟩, Or.inr ⟨_, rfl, by simp [go_sem, gI]⟩, trivial⟩ (by simp) rfl (by simp [go_sem]) (by simp [go_sem]))
theorem enterP (key : Str) (rk k : Int) (X1 X2 X3 X4 X5 X6 X7 X8 : List D) (h1 : k = 1) (h2 : rk < 6) : Does Tryz.prog 110 [.ptr 0 0, I k] (rdO key rk X1 X2 X3 X4 X5 X6 X7 X8) (B true) (rdO key k X1 X2 X3 X4 X5 X6 X7 X8) := by
  refine Does.of_AW (n := 40) Tryz.func110 rfl rfl rfl fun cx hcx => ?_
  subst h1
  have e1 : decide (rk < 6) = true := by simp [h2]
  repeat' (first | ((first | refine AW.sreg rfl fun K hK => ?_ | refine AW.reg rfl ?_); simp only [go_sem, ↓reduceIte, e1]) | (refine AW.seq_k fun K hK => ?_) | (refine AW.block ?_) | (refine AW.cT ?_) | (refine hK _ ?_; clear hK K))
  all_goals exact AW.ret (Fin.objsD [0, 1, 2, 3, 4, 5, 6, 7, 8] rfl (by simp [go_sem, gI]) ⟨Or.inr ⟨_, rfl, by simp [go_sem, gI]⟩, Or.inr ⟨_, rfl, by simp [go_sem, gI]⟩, Or.inr ⟨_, rfl, by simp [go_sem, gI]⟩, Or.inr ⟨_, rfl, by simp [go_sem, gI]⟩, Or.inr ⟨_, rfl, by simp [go_sem, gI]⟩, Or.inr ⟨_, rfl, by simp [go_sem, gI]⟩, Or.inr ⟨_, rfl, by simp [go_sem, gI]⟩, Or.inr ⟨_, rfl, by simp [go_sem, gI]⟩, Or.inr ⟨_, rfl, by simp [go_sem, gI]⟩, trivial⟩ (by simp) rfl (by simp [go_sem]) (by simp [go_sem]))
theorem enterR (key : Str) (rk k : Int) (X1 X2 X3 X4 X5 X6 X7 X8 : List D) (h1 : 2 ≤ k) (h2 : k ≤ 5) (h3 : 1 ≤ rk) (h4 : rk ≤ k) : Does Tryz.prog 110 [.ptr 0 0, I k] (rdO key rk X1 X2 X3 X4 X5 X6 X7 X8) (B true) (rdO key k X1 X2 X3 X4 X5 X6 X7 X8) := by
  refine Does.of_AW (n := 40) Tryz.func110 rfl rfl rfl fun cx hcx => ?_
  have e1 : decide (k = 1) = false := by simp; omega
  have e2 : decide (1 < k) = true := by simp; omega
  have e3 : decide (k < 6) = true := by simp; omega
  have e4 : decide (rk ≤ k) = true := by simp; omega
  have e5 : decide (1 ≤ rk) = true := by simp; omega
  repeat' (first | ((first | refine AW.sreg rfl fun K hK => ?_ | refine AW.reg rfl ?_); simp only [go_sem, ↓reduceIte, e1, e2, e3, e4, e5]) | (refine AW.seq_k fun K hK => ?_) | (refine AW.block ?_) | (refine AW.cT ?_) | (refine AW.cF ?_) | (refine hK _ ?_; clear hK K))
  all_goals exact AW.ret (Fin.objsD [0, 1, 2, 3, 4, 5, 6, 7, 8] rfl (by simp [go_sem, gI]) ⟨Or.inr ⟨_, rfl, by simp [go_sem, gI]⟩, Or.inr ⟨_, rfl, by simp [go_sem, gI]⟩, Or.inr ⟨_, rfl, by simp [go_sem, gI]⟩, Or.inr ⟨_, rfl, by simp [go_sem, gI]⟩, Or.inr ⟨_, rfl, by simp [go_sem, gI]⟩, Or.inr ⟨_, rfl, by simp [go_sem, gI]⟩, Or.inr ⟨_, rfl, by simp [go_sem, gI]⟩, Or.inr ⟨_, rfl, by simp [go_sem, gI]⟩, Or.inr ⟨_, rfl, by simp [go_sem, gI]⟩, trivial⟩ (by simp) rfl (by simp [go_sem]) (by simp [go_sem]))
theorem enterW (key : Str) (rk k : Int) (X1 X2 X3 X4 X5 X6 X7 X8 : List D) (h1 : 6 ≤ k) (h4 : rk ≤ k) : Does Tryz.prog 110 [.ptr 0 0, I k] (rdO key rk X1 X2 X3 X4 X5 X6 X7 X8) (B true) (rdO key k X1 X2 X3 X4 X5 X6 X7 X8) := by
  refine Does.of_AW (n := 40) Tryz.func110 rfl rfl rfl fun cx hcx => ?_
  have e1 : decide (k = 1) = false := by simp; omega
  have e2 : decide (1 < k) = true := by simp; omega
  have e3 : decide (k < 6) = false := by simp; omega
  have e4 : decide (rk ≤ k) = true := by simp; omega
  repeat' (first | (refine AW.sreg rfl fun K hK => ?_; simp only [go_sem, ↓reduceIte, e1, e2, e3, e4]) | (refine AW.seq_k fun K hK => ?_) | (refine AW.block ?_) | (refine AW.skip ?_; simp only [Then, InBlock]) | (refine AW.cF ?_) | (refine hK _ ?_; clear hK K))
  all_goals exact AW.ret (Fin.objsD [0, 1, 2, 3, 4, 5, 6, 7, 8] rfl (by simp [go_sem, gI]) ⟨Or.inr ⟨_, rfl, by simp [go_sem, gI]⟩, Or.inr ⟨_, rfl, by simp [go_sem, gI]⟩, Or.inr ⟨_, rfl, by simp [go_sem, gI]⟩, Or.inr ⟨_, rfl, by simp [go_sem, gI]⟩, Or.inr ⟨_, rfl, by simp [go_sem, gI]⟩, Or.inr ⟨_, rfl, by simp [go_sem, gI]⟩, Or.inr ⟨_, rfl, by simp [go_sem, gI]⟩, Or.inr ⟨_, rfl, by simp [go_sem, gI]⟩, Or.inr ⟨_, rfl, by simp [go_sem, gI]⟩, trivial⟩ (by simp) rfl (by simp [go_sem]) (by simp [go_sem]))
theorem words_mail (m : Str) (key : Str) (rk : Int) (X1 X2 X3 X4 X5 X6 X7 X8 : List D) (h2 : X2.length ≤ 100000) (hx : X7.length ≤ 100000) (h3 : 1 ≤ rk) (h4 : rk ≤ 4) :
    Does Tryz.prog 113 [.ptr 0 0, S [109, 97, 105, 108], .d (.sl [.str m])] (rdO key rk X1 X2 X3 X4 X5 X6 X7 X8) (B true)
      [RdB (.slr 1 0 X1.length) (.slr 2 0 (X2.length + 1)) (.slr 3 0 X3.length) (.slr 4 0 X4.length) 4, oPl X1, oPe X2 key (.slr 5 0 X5.length) (.slr 6 0 X6.length) (.slr 9 0 (X7.length + 1)) (.slr 8 0 X8.length), oWk X3, oBo X4, oNm X5, oHm X6, .dead, oSt X8, oSt (X7 ++ [.str m])] := by
  have c1 := enterR key rk 4 X1 X2 X3 X4 X5 X6 X7 X8 (by omega) (by omega) h3 h4
  have c2 := last_any key 4 X1 X2 X3 X4 X5 X6 X7 X8 h2
  have qplace : (([109, 97, 105, 108] : Str) = [112, 108, 97, 99, 101]) = False := by decide
  have bplace : (([109, 97, 105, 108] : Str) == [112, 108, 97, 99, 101]) = false := by decide
  have qperson : (([109, 97, 105, 108] : Str) = [112, 101, 114, 115, 111, 110]) = False := by decide
  have bperson : (([109, 97, 105, 108] : Str) == [112, 101, 114, 115, 111, 110]) = false := by decide
  have qhome : (([109, 97, 105, 108] : Str) = [104, 111, 109, 101]) = False := by decide
  have bhome : (([109, 97, 105, 108] : Str) == [104, 111, 109, 101]) = false := by decide
  have qq : (([109, 97, 105, 108] : Str) == [109, 97, 105, 108]) = true := by decide
  refine Does.of_AW (n := 227) Tryz.func113 rfl rfl rfl fun cx hcx => ?_
  repeat' (first | ((first | refine AW.sreg rfl fun K hK => ?_ | refine AW.regD hmix rfl ?_ | refine run_call _ _ _ ((c1).robjs [0, 1, 2, 3, 4, 5, 6, 7, 8] ⟨(by first | rfl | (simp [go_sem]; done) | (simp [go_sem]; rfl)), (by first | rfl | (simp [go_sem]; done) | (simp [go_sem]; rfl)), (by first | rfl | (simp [go_sem]; done) | (simp [go_sem]; rfl)), (by first | rfl | (simp [go_sem]; done) | (simp [go_sem]; rfl)), (by first | rfl | (simp [go_sem]; done) | (simp [go_sem]; rfl)), (by first | rfl | (simp [go_sem]; done) | (simp [go_sem]; rfl)), (by first | rfl | (simp [go_sem]; done) | (simp [go_sem]; rfl)), (by first | rfl | (simp [go_sem]; done) | (simp [go_sem]; rfl)), (by first | rfl | (simp [go_sem]; done) | (simp [go_sem]; rfl)), trivial⟩ rfl (by decide) (by simp) (by simp) (by simp [go_sem]) (by simp [go_sem]) (by simp [go_sem]) (by simp [go_sem])) rfl rfl (dstOk_of rfl) rfl rfl rfl ?_ | refine runT_call _ _ [0, 1, 2, 3, 4, 5, 6, 7, 8] (fun hv hag => (c2).objs [0, 1, 2, 3, 4, 5, 6, 7, 8] ⟨((hag 0 (by simp)).trans rfl), ((hag 1 (by simp)).trans rfl), ((hag 2 (by simp)).trans rfl), ((hag 3 (by simp)).trans rfl), ((hag 4 (by simp)).trans rfl), ((hag 5 (by simp)).trans rfl), ((hag 6 (by simp)).trans rfl), ((hag 7 (by simp)).trans rfl), ((hag 8 (by simp)).trans rfl), trivial⟩ rfl (by decide) (by simp [go_sem, renOs]) (by simp) (by simp) (by simp [go_sem]) (by simp [go_sem]) (by simp [go_sem]) (by simp [go_sem])) rfl rfl (dstOk_of rfl) rfl rfl ?_); simp only [go_sem, ↓reduceIte, qplace, bplace, qperson, bperson, qhome, bhome, qq, get_snoc, set_snoc, List.length_append, dv_length, List.length_cons, List.length_nil, Nat.zero_add, Int.toNat_natCast, List.length_map]) | (refine AW.seq_k fun K hK => ?_) | (refine AW.block ?_) | (refine AW.cT ?_) | (refine AW.cF ?_) | (refine hK _ ?_; clear hK K) | (refine stepB_split (fun h => ?_) (fun h => ?_) <;> (have hb0 := h) <;> (try simp only [Bool.not_eq_true', Bool.not_eq_false'] at hb0) <;> (try simp only [decide_eq_true_eq, decide_eq_false_iff_not, Bool.not_eq_true', Bool.not_eq_false', Bool.not_eq_eq_eq_not, Bool.not_true, Bool.not_false, beq_iff_eq, bne_iff_ne, beq_eq_false_iff_ne, ne_eq, Bool.and_eq_true, Bool.or_eq_true, Bool.or_eq_false_iff] at h) <;> simp only [go_sem, ↓reduceIte, hb0, h, decide_true, decide_false, qplace, bplace, qperson, bperson, qhome, bhome, qq, get_snoc, set_snoc, List.length_append, dv_length, List.length_cons, List.length_nil, Nat.zero_add, Int.toNat_natCast, List.length_map] <;> (try clear hb0)) | (with_reducible refine And.intro (?_ : regOk _ _ = true) ?_; kernel_rfl) | (with_reducible refine andI ?_) | (exfalso; omega))
  exact AW.ret (Fin.objsD [0, 1, 2, 3, 4, 5, 6, 7, 8, 4416] rfl (by simp [go_sem, gI]) ⟨Or.inr ⟨_, rfl, by simp [go_sem, gI]⟩, Or.inr ⟨_, rfl, by simp [go_sem, gI]⟩, Or.inr ⟨_, rfl, by simp [go_sem, gI]⟩, Or.inr ⟨_, rfl, by simp [go_sem, gI]⟩, Or.inr ⟨_, rfl, by simp [go_sem, gI]⟩, Or.inr ⟨_, rfl, by simp [go_sem, gI]⟩, Or.inr ⟨_, rfl, by simp [go_sem, gI]⟩, Or.inl rfl, Or.inr ⟨_, rfl, by simp [go_sem, gI]⟩, Or.inr ⟨_, rfl, by simp only [dv_snoc]; simp [go_sem, gI]⟩, trivial⟩ (by simp) rfl (by simp [go_sem]) (by simp [go_sem]))
theorem words_adviser (m : Str) (key : Str) (rk : Int) (X1 X2 X3 X4 X5 X6 X7 X8 : List D) (h2 : X2.length ≤ 100000) (hx : X8.length ≤ 100000) (h3 : 1 ≤ rk) (h4 : rk ≤ 5) :
    Does Tryz.prog 113 [.ptr 0 0, S [97, 100, 118, 105, 115, 101, 114], .d (.sl [.str m])] (rdO key rk X1 X2 X3 X4 X5 X6 X7 X8) (B true)
      [RdB (.slr 1 0 X1.length) (.slr 2 0 (X2.length + 1)) (.slr 3 0 X3.length) (.slr 4 0 X4.length) 5, oPl X1, oPe X2 key (.slr 5 0 X5.length) (.slr 6 0 X6.length) (.slr 7 0 X7.length) (.slr 9 0 (X8.length + 1)), oWk X3, oBo X4, oNm X5, oHm X6, oSt X7, .dead, oSt (X8 ++ [.str m])] := by
  have c1 := enterR key rk 5 X1 X2 X3 X4 X5 X6 X7 X8 (by omega) (by omega) h3 h4
  have c2 := last_any key 5 X1 X2 X3 X4 X5 X6 X7 X8 h2
  have qplace : (([97, 100, 118, 105, 115, 101, 114] : Str) = [112, 108, 97, 99, 101]) = False := by decide
  have bplace : (([97, 100, 118, 105, 115, 101, 114] : Str) == [112, 108, 97, 99, 101]) = false := by decide
  have qperson : (([97, 100, 118, 105, 115, 101, 114] : Str) = [112, 101, 114, 115, 111, 110]) = False := by decide
  have bperson : (([97, 100, 118, 105, 115, 101, 114] : Str) == [112, 101, 114, 115, 111, 110]) = false := by decide
  have qhome : (([97, 100, 118, 105, 115, 101, 114] : Str) = [104, 111, 109, 101]) = False := by decide
  have bhome : (([97, 100, 118, 105, 115, 101, 114] : Str) == [104, 111, 109, 101]) = false := by decide
  have qmail : (([97, 100, 118, 105, 115, 101, 114] : Str) = [109, 97, 105, 108]) = False := by decide
  have bmail : (([97, 100, 118, 105, 115, 101, 114] : Str) == [109, 97, 105, 108]) = false := by decide
  have qq : (([97, 100, 118, 105, 115, 101, 114] : Str) == [97, 100, 118, 105, 115, 101, 114]) = true := by decide
  refine Does.of_AW (n := 227) Tryz.func113 rfl rfl rfl fun cx hcx => ?_
  repeat' (first | ((first | refine AW.sreg rfl fun K hK => ?_ | refine AW.regD hmix rfl ?_ | refine run_call _ _ _ ((c1).robjs [0, 1, 2, 3, 4, 5, 6, 7, 8] ⟨(by first | rfl | (simp [go_sem]; done) | (simp [go_sem]; rfl)), (by first | rfl | (simp [go_sem]; done) | (simp [go_sem]; rfl)), (by first | rfl | (simp [go_sem]; done) | (simp [go_sem]; rfl)), (by first | rfl | (simp [go_sem]; done) | (simp [go_sem]; rfl)), (by first | rfl | (simp [go_sem]; done) | (simp [go_sem]; rfl)), (by first | rfl | (simp [go_sem]; done) | (simp [go_sem]; rfl)), (by first | rfl | (simp [go_sem]; done) | (simp [go_sem]; rfl)), (by first | rfl | (simp [go_sem]; done) | (simp [go_sem]; rfl)), (by first | rfl | (simp [go_sem]; done) | (simp [go_sem]; rfl)), trivial⟩ rfl (by decide) (by simp) (by simp) (by simp [go_sem]) (by simp [go_sem]) (by simp [go_sem]) (by simp [go_sem])) rfl rfl (dstOk_of rfl) rfl rfl rfl ?_ | refine runT_call _ _ [0, 1, 2, 3, 4, 5, 6, 7, 8] (fun hv hag => (c2).objs [0, 1, 2, 3, 4, 5, 6, 7, 8] ⟨((hag 0 (by simp)).trans rfl), ((hag 1 (by simp)).trans rfl), ((hag 2 (by simp)).trans rfl), ((hag 3 (by simp)).trans rfl), ((hag 4 (by simp)).trans rfl), ((hag 5 (by simp)).trans rfl), ((hag 6 (by simp)).trans rfl), ((hag 7 (by simp)).trans rfl), ((hag 8 (by simp)).trans rfl), trivial⟩ rfl (by decide) (by simp [go_sem, renOs]) (by simp) (by simp) (by simp [go_sem]) (by simp [go_sem]) (by simp [go_sem]) (by simp [go_sem])) rfl rfl (dstOk_of rfl) rfl rfl ?_); simp only [go_sem, ↓reduceIte, qplace, bplace, qperson, bperson, qhome, bhome, qmail, bmail, qq, get_snoc, set_snoc, List.length_append, dv_length, List.length_cons, List.length_nil, Nat.zero_add, Int.toNat_natCast, List.length_map]) | (refine AW.seq_k fun K hK => ?_) | (refine AW.block ?_) | (refine AW.cT ?_) | (refine AW.cF ?_) | (refine hK _ ?_; clear hK K) | (refine stepB_split (fun h => ?_) (fun h => ?_) <;> (have hb0 := h) <;> (try simp only [Bool.not_eq_true', Bool.not_eq_false'] at hb0) <;> (try simp only [decide_eq_true_eq, decide_eq_false_iff_not, Bool.not_eq_true', Bool.not_eq_false', Bool.not_eq_eq_eq_not, Bool.not_true, Bool.not_false, beq_iff_eq, bne_iff_ne, beq_eq_false_iff_ne, ne_eq, Bool.and_eq_true, Bool.or_eq_true, Bool.or_eq_false_iff] at h) <;> simp only [go_sem, ↓reduceIte, hb0, h, decide_true, decide_false, qplace, bplace, qperson, bperson, qhome, bhome, qmail, bmail, qq, get_snoc, set_snoc, List.length_append, dv_length, List.length_cons, List.length_nil, Nat.zero_add, Int.toNat_natCast, List.length_map] <;> (try clear hb0)) | (with_reducible refine And.intro (?_ : regOk _ _ = true) ?_; kernel_rfl) | (with_reducible refine andI ?_) | (exfalso; omega))
  exact AW.ret (Fin.objsD [0, 1, 2, 3, 4, 5, 6, 7, 8, 5184] rfl (by simp [go_sem, gI]) ⟨Or.inr ⟨_, rfl, by simp [go_sem, gI]⟩, Or.inr ⟨_, rfl, by simp [go_sem, gI]⟩, Or.inr ⟨_, rfl, by simp [go_sem, gI]⟩, Or.inr ⟨_, rfl, by simp [go_sem, gI]⟩, Or.inr ⟨_, rfl, by simp [go_sem, gI]⟩, Or.inr ⟨_, rfl, by simp [go_sem, gI]⟩, Or.inr ⟨_, rfl, by simp [go_sem, gI]⟩, Or.inr ⟨_, rfl, by simp [go_sem, gI]⟩, Or.inl rfl, Or.inr ⟨_, rfl, by simp only [dv_snoc]; simp [go_sem, gI]⟩, trivial⟩ (by simp) rfl (by simp [go_sem]) (by simp [go_sem]))
theorem words_home (hh : Hm) (hd1 : hh.2.1 ∈ DY) (hd2 : hh.2.2 ∈ DY) (key : Str) (rk : Int) (X1 X2 X3 X4 X5 X6 X7 X8 : List D) (h2 : X2.length ≤ 100000) (hx : X6.length ≤ 100000) (h3 : 1 ≤ rk) (h4 : rk ≤ 3) :
    Does Tryz.prog 113 [.ptr 0 0, S [104, 111, 109, 101], .d (.sl [.str hh.1, .str (Lib.itoa hh.2.1), .str (Lib.itoa hh.2.2)])] (rdO key rk X1 X2 X3 X4 X5 X6 X7 X8) (B true)
      [RdB (.slr 1 0 X1.length) (.slr 2 0 (X2.length + 1)) (.slr 3 0 X3.length) (.slr 4 0 X4.length) 3, oPl X1, oPe X2 key (.slr 5 0 X5.length) (.slr 9 0 (X6.length + 1)) (.slr 7 0 X7.length) (.slr 8 0 X8.length), oWk X3, oBo X4, oNm X5, .dead, oSt X7, oSt X8, oHm (X6 ++ [hmD hh])] := by
  have c1 := enterR key rk 3 X1 X2 X3 X4 X5 X6 X7 X8 (by omega) (by omega) h3 h4
  have c2 := last_any key 3 X1 X2 X3 X4 X5 X6 X7 X8 h2
  have c3 := numbers2 hh.2.1 hh.2.2 hd1 hd2
  have qplace : (([104, 111, 109, 101] : Str) = [112, 108, 97, 99, 101]) = False := by decide
  have bplace : (([104, 111, 109, 101] : Str) == [112, 108, 97, 99, 101]) = false := by decide
  have qperson : (([104, 111, 109, 101] : Str) = [112, 101, 114, 115, 111, 110]) = False := by decide
  have bperson : (([104, 111, 109, 101] : Str) == [112, 101, 114, 115, 111, 110]) = false := by decide
  have qq : (([104, 111, 109, 101] : Str) == [104, 111, 109, 101]) = true := by decide
  refine Does.of_AW (n := 227) Tryz.func113 rfl rfl rfl fun cx hcx => ?_
  repeat' (first | ((first | refine AW.sreg rfl fun K hK => ?_ | refine AW.regD hmix rfl ?_ | refine run_call _ _ _ ((c1).robjs [0, 1, 2, 3, 4, 5, 6, 7, 8] ⟨(by first | rfl | (simp [go_sem]; done) | (simp [go_sem]; rfl)), (by first | rfl | (simp [go_sem]; done) | (simp [go_sem]; rfl)), (by first | rfl | (simp [go_sem]; done) | (simp [go_sem]; rfl)), (by first | rfl | (simp [go_sem]; done) | (simp [go_sem]; rfl)), (by first | rfl | (simp [go_sem]; done) | (simp [go_sem]; rfl)), (by first | rfl | (simp [go_sem]; done) | (simp [go_sem]; rfl)), (by first | rfl | (simp [go_sem]; done) | (simp [go_sem]; rfl)), (by first | rfl | (simp [go_sem]; done) | (simp [go_sem]; rfl)), (by first | rfl | (simp [go_sem]; done) | (simp [go_sem]; rfl)), trivial⟩ rfl (by decide) (by simp) (by simp) (by simp [go_sem]) (by simp [go_sem]) (by simp [go_sem]) (by simp [go_sem])) rfl rfl (dstOk_of rfl) rfl rfl rfl ?_ | refine runT_call _ _ [0, 1, 2, 3, 4, 5, 6, 7, 8] (fun hv hag => (c2).objs [0, 1, 2, 3, 4, 5, 6, 7, 8] ⟨((hag 0 (by simp)).trans rfl), ((hag 1 (by simp)).trans rfl), ((hag 2 (by simp)).trans rfl), ((hag 3 (by simp)).trans rfl), ((hag 4 (by simp)).trans rfl), ((hag 5 (by simp)).trans rfl), ((hag 6 (by simp)).trans rfl), ((hag 7 (by simp)).trans rfl), ((hag 8 (by simp)).trans rfl), trivial⟩ rfl (by decide) (by simp [go_sem, renOs]) (by simp) (by simp) (by simp [go_sem]) (by simp [go_sem]) (by simp [go_sem]) (by simp [go_sem])) rfl rfl (dstOk_of rfl) rfl rfl ?_ | refine run_call _ _ _ ((c3).pure rfl rfl _ _) rfl rfl (dstOk_of rfl) rfl rfl rfl ?_); simp only [go_sem, ↓reduceIte, qplace, bplace, qperson, bperson, qq, get_snoc, set_snoc, List.length_append, dv_length, List.length_cons, List.length_nil, Nat.zero_add, Int.toNat_natCast, List.length_map]) | (refine AW.seq_k fun K hK => ?_) | (refine AW.block ?_) | (refine AW.skip ?_; simp only [Then, InBlock]) | (refine AW.cT ?_) | (refine AW.cF ?_) | (refine hK _ ?_; clear hK K) | (refine stepB_split (fun h => ?_) (fun h => ?_) <;> (have hb0 := h) <;> (try simp only [Bool.not_eq_true', Bool.not_eq_false'] at hb0) <;> (try simp only [decide_eq_true_eq, decide_eq_false_iff_not, Bool.not_eq_true', Bool.not_eq_false', Bool.not_eq_eq_eq_not, Bool.not_true, Bool.not_false, beq_iff_eq, bne_iff_ne, beq_eq_false_iff_ne, ne_eq, Bool.and_eq_true, Bool.or_eq_true, Bool.or_eq_false_iff] at h) <;> simp only [go_sem, ↓reduceIte, hb0, h, decide_true, decide_false, qplace, bplace, qperson, bperson, qq, get_snoc, set_snoc, List.length_append, dv_length, List.length_cons, List.length_nil, Nat.zero_add, Int.toNat_natCast, List.length_map] <;> (try clear hb0)) | (with_reducible refine And.intro (?_ : regOk _ _ = true) ?_; kernel_rfl) | (with_reducible refine andI ?_) | (exfalso; omega))
  exact AW.ret (Fin.objsD [0, 1, 2, 3, 4, 5, 6, 7, 8, 4736] rfl (by simp [go_sem, gI]) ⟨Or.inr ⟨_, rfl, by simp [go_sem, gI]⟩, Or.inr ⟨_, rfl, by simp [go_sem, gI]⟩, Or.inr ⟨_, rfl, by simp [go_sem, gI]⟩, Or.inr ⟨_, rfl, by simp [go_sem, gI]⟩, Or.inr ⟨_, rfl, by simp [go_sem, gI]⟩, Or.inr ⟨_, rfl, by simp [go_sem, gI]⟩, Or.inl rfl, Or.inr ⟨_, rfl, by simp [go_sem, gI]⟩, Or.inr ⟨_, rfl, by simp [go_sem, gI]⟩, Or.inr ⟨_, rfl, by simp only [dv_snoc]; simp [go_sem, gI]⟩, trivial⟩ (by simp) rfl (by simp [go_sem]) (by simp [go_sem]))
theorem words_work (x : Wk) (hd : x.1 ∈ DY) (hl : x.2.length ≤ 1000) (key : Str) (rk : Int) (X1 X2 X3 X4 X5 X6 X7 X8 : List D) (h2 : X2.length ≤ 100000) (hx : X3.length ≤ 100000) (h4 : rk ≤ 6) :
    Does Tryz.prog 113 [.ptr 0 0, S [119, 111, 114, 107], .d (.sl (.str (Lib.itoa x.1) :: x.2.map D.str))] (rdO key rk X1 X2 X3 X4 X5 X6 X7 X8) (B true)
      [RdB (.slr 1 0 X1.length) (.slr 2 0 (X2.length + 1)) (.slr 9 0 (X3.length + 1)) (.slr 4 0 X4.length) 6, oPl X1, oPe X2 key (.slr 5 0 X5.length) (.slr 6 0 X6.length) (.slr 7 0 X7.length) (.slr 8 0 X8.length), .dead, oBo X4, oNm X5, oHm X6, oSt X7, oSt X8, oWk (X3 ++ [wkD x])] := by
  have c1 := enterW key rk 6 X1 X2 X3 X4 X5 X6 X7 X8 (by omega) h4
  have c2 := last_any key 6 X1 X2 X3 X4 X5 X6 X7 X8 h2
  have c3 := small_dy x.1 hd
  have hw1 : (1 : Int) ≤ ((x.2.length + 1 : Nat) : Int) := by omega
  have hwt : (x.2.map D.str).take (x.2.length + 1 - 1) = x.2.map D.str := List.take_of_length_le (by simp)
  have qplace : (([119, 111, 114, 107] : Str) = [112, 108, 97, 99, 101]) = False := by decide
  have bplace : (([119, 111, 114, 107] : Str) == [112, 108, 97, 99, 101]) = false := by decide
  have qperson : (([119, 111, 114, 107] : Str) = [112, 101, 114, 115, 111, 110]) = False := by decide
  have bperson : (([119, 111, 114, 107] : Str) == [112, 101, 114, 115, 111, 110]) = false := by decide
  have qhome : (([119, 111, 114, 107] : Str) = [104, 111, 109, 101]) = False := by decide
  have bhome : (([119, 111, 114, 107] : Str) == [104, 111, 109, 101]) = false := by decide
  have qmail : (([119, 111, 114, 107] : Str) = [109, 97, 105, 108]) = False := by decide
  have bmail : (([119, 111, 114, 107] : Str) == [109, 97, 105, 108]) = false := by decide
  have qadviser : (([119, 111, 114, 107] : Str) = [97, 100, 118, 105, 115, 101, 114]) = False := by decide
  have badviser : (([119, 111, 114, 107] : Str) == [97, 100, 118, 105, 115, 101, 114]) = false := by decide
  have qq : (([119, 111, 114, 107] : Str) == [119, 111, 114, 107]) = true := by decide
  refine Does.of_AW (n := 227) Tryz.func113 rfl rfl rfl fun cx hcx => ?_
  repeat' (first | ((first | refine AW.sreg rfl fun K hK => ?_ | refine AW.sregD hmix rfl fun K hK => ?_ | refine run_call _ _ _ ((c1).robjs [0, 1, 2, 3, 4, 5, 6, 7, 8] ⟨(by first | rfl | (simp [go_sem]; done) | (simp [go_sem]; rfl)), (by first | rfl | (simp [go_sem]; done) | (simp [go_sem]; rfl)), (by first | rfl | (simp [go_sem]; done) | (simp [go_sem]; rfl)), (by first | rfl | (simp [go_sem]; done) | (simp [go_sem]; rfl)), (by first | rfl | (simp [go_sem]; done) | (simp [go_sem]; rfl)), (by first | rfl | (simp [go_sem]; done) | (simp [go_sem]; rfl)), (by first | rfl | (simp [go_sem]; done) | (simp [go_sem]; rfl)), (by first | rfl | (simp [go_sem]; done) | (simp [go_sem]; rfl)), (by first | rfl | (simp [go_sem]; done) | (simp [go_sem]; rfl)), trivial⟩ rfl (by decide) (by simp) (by simp) (by simp [go_sem]) (by simp [go_sem]) (by simp [go_sem]) (by simp [go_sem])) rfl rfl (dstOk_of rfl) rfl rfl rfl ?_ | refine run_call _ _ _ ((c3).pure rfl rfl _ _) rfl rfl (dstOk_of rfl) rfl rfl rfl ?_); simp only [go_sem, ↓reduceIte, qplace, bplace, qperson, bperson, qhome, bhome, qmail, bmail, qadviser, badviser, qq, get_snoc, set_snoc, List.length_append, dv_length, List.length_cons, List.length_nil, Nat.zero_add, Int.toNat_natCast, List.length_map, hw1, hwt, all_ok_S, Int.le_refl, and_self, Int.zero_le_ofNat]) | (refine AW.seq_k fun K hK => ?_) | (refine AW.block ?_) | (refine AW.cT ?_) | (refine AW.cF ?_) | (refine hK _ ?_; clear hK K) | (with_reducible refine And.intro (?_ : regOk _ _ = true) ?_; kernel_rfl) | (with_reducible refine andI ?_))
  exact AW.ret (Fin.objsD [0, 1, 2, 3, 4, 5, 6, 7, 8, 6208] rfl (by simp [go_sem, gI]) ⟨Or.inr ⟨_, rfl, by simp [go_sem, gI]⟩, Or.inr ⟨_, rfl, by simp [go_sem, gI]⟩, Or.inr ⟨_, rfl, by simp [go_sem, gI]⟩, Or.inl rfl, Or.inr ⟨_, rfl, by simp [go_sem, gI]⟩, Or.inr ⟨_, rfl, by simp [go_sem, gI]⟩, Or.inr ⟨_, rfl, by simp [go_sem, gI]⟩, Or.inr ⟨_, rfl, by simp [go_sem, gI]⟩, Or.inr ⟨_, rfl, by simp [go_sem, gI]⟩, Or.inr ⟨_, rfl, by simp only [dv_snoc]; simp [go_sem, gI]⟩, trivial⟩ (by simp) rfl (by simp [go_sem]) (by simp [go_sem]))
theorem words_bond (b : Bo) (key : Str) (rk : Int) (X1 X2 X3 X4 X5 X6 X7 X8 : List D) (h2 : X2.length ≤ 100000) (hx : X4.length ≤ 100000) (h4 : rk ≤ 7) :
    Does Tryz.prog 113 [.ptr 0 0, S [98, 111, 110, 100], .d (.sl [.str b.1, .str b.2])] (rdO key rk X1 X2 X3 X4 X5 X6 X7 X8) (B true)
      [RdB (.slr 1 0 X1.length) (.slr 2 0 (X2.length + 1)) (.slr 3 0 X3.length) (.slr 9 0 (X4.length + 1)) 7, oPl X1, oPe X2 key (.slr 5 0 X5.length) (.slr 6 0 X6.length) (.slr 7 0 X7.length) (.slr 8 0 X8.length), oWk X3, .dead, oNm X5, oHm X6, oSt X7, oSt X8, oBo (X4 ++ [boD b])] := by
  have c1 := enterW key rk 7 X1 X2 X3 X4 X5 X6 X7 X8 (by omega) h4
  have c2 := last_any key 7 X1 X2 X3 X4 X5 X6 X7 X8 h2
  have qplace : (([98, 111, 110, 100] : Str) = [112, 108, 97, 99, 101]) = False := by decide
  have bplace : (([98, 111, 110, 100] : Str) == [112, 108, 97, 99, 101]) = false := by decide
  have qperson : (([98, 111, 110, 100] : Str) = [112, 101, 114, 115, 111, 110]) = False := by decide
  have bperson : (([98, 111, 110, 100] : Str) == [112, 101, 114, 115, 111, 110]) = false := by decide
  have qhome : (([98, 111, 110, 100] : Str) = [104, 111, 109, 101]) = False := by decide
  have bhome : (([98, 111, 110, 100] : Str) == [104, 111, 109, 101]) = false := by decide
  have qmail : (([98, 111, 110, 100] : Str) = [109, 97, 105, 108]) = False := by decide
  have bmail : (([98, 111, 110, 100] : Str) == [109, 97, 105, 108]) = false := by decide
  have qadviser : (([98, 111, 110, 100] : Str) = [97, 100, 118, 105, 115, 101, 114]) = False := by decide
  have badviser : (([98, 111, 110, 100] : Str) == [97, 100, 118, 105, 115, 101, 114]) = false := by decide
  have qwork : (([98, 111, 110, 100] : Str) = [119, 111, 114, 107]) = False := by decide
  have bwork : (([98, 111, 110, 100] : Str) == [119, 111, 114, 107]) = false := by decide
  have qq : (([98, 111, 110, 100] : Str) == [98, 111, 110, 100]) = true := by decide
  refine Does.of_AW (n := 227) Tryz.func113 rfl rfl rfl fun cx hcx => ?_
  repeat' (first | ((first | refine AW.sreg rfl fun K hK => ?_ | refine AW.regD hmix rfl ?_ | refine run_call _ _ _ ((c1).robjs [0, 1, 2, 3, 4, 5, 6, 7, 8] ⟨(by first | rfl | (simp [go_sem]; done) | (simp [go_sem]; rfl)), (by first | rfl | (simp [go_sem]; done) | (simp [go_sem]; rfl)), (by first | rfl | (simp [go_sem]; done) | (simp [go_sem]; rfl)), (by first | rfl | (simp [go_sem]; done) | (simp [go_sem]; rfl)), (by first | rfl | (simp [go_sem]; done) | (simp [go_sem]; rfl)), (by first | rfl | (simp [go_sem]; done) | (simp [go_sem]; rfl)), (by first | rfl | (simp [go_sem]; done) | (simp [go_sem]; rfl)), (by first | rfl | (simp [go_sem]; done) | (simp [go_sem]; rfl)), (by first | rfl | (simp [go_sem]; done) | (simp [go_sem]; rfl)), trivial⟩ rfl (by decide) (by simp) (by simp) (by simp [go_sem]) (by simp [go_sem]) (by simp [go_sem]) (by simp [go_sem])) rfl rfl (dstOk_of rfl) rfl rfl rfl ?_); simp only [go_sem, ↓reduceIte, qplace, bplace, qperson, bperson, qhome, bhome, qmail, bmail, qadviser, badviser, qwork, bwork, qq, get_snoc, set_snoc, List.length_append, dv_length, List.length_cons, List.length_nil, Nat.zero_add, Int.toNat_natCast, List.length_map]) | (refine AW.seq_k fun K hK => ?_) | (refine AW.block ?_) | (refine AW.cT ?_) | (refine AW.cF ?_) | (refine hK _ ?_; clear hK K) | (refine stepB_split (fun h => ?_) (fun h => ?_) <;> (have hb0 := h) <;> (try simp only [Bool.not_eq_true', Bool.not_eq_false'] at hb0) <;> (try simp only [decide_eq_true_eq, decide_eq_false_iff_not, Bool.not_eq_true', Bool.not_eq_false', Bool.not_eq_eq_eq_not, Bool.not_true, Bool.not_false, beq_iff_eq, bne_iff_ne, beq_eq_false_iff_ne, ne_eq, Bool.and_eq_true, Bool.or_eq_true, Bool.or_eq_false_iff] at h) <;> simp only [go_sem, ↓reduceIte, hb0, h, decide_true, decide_false, qplace, bplace, qperson, bperson, qhome, bhome, qmail, bmail, qadviser, badviser, qwork, bwork, qq, get_snoc, set_snoc, List.length_append, dv_length, List.length_cons, List.length_nil, Nat.zero_add, Int.toNat_natCast, List.length_map] <;> (try clear hb0)) | (with_reducible refine And.intro (?_ : regOk _ _ = true) ?_; kernel_rfl) | (with_reducible refine andI ?_) | (exfalso; omega))
  exact AW.ret (Fin.objsD [0, 1, 2, 3, 4, 5, 6, 7, 8, 6592] rfl (by simp [go_sem, gI]) ⟨Or.inr ⟨_, rfl, by simp [go_sem, gI]⟩, Or.inr ⟨_, rfl, by simp [go_sem, gI]⟩, Or.inr ⟨_, rfl, by simp [go_sem, gI]⟩, Or.inr ⟨_, rfl, by simp [go_sem, gI]⟩, Or.inl rfl, Or.inr ⟨_, rfl, by simp [go_sem, gI]⟩, Or.inr ⟨_, rfl, by simp [go_sem, gI]⟩, Or.inr ⟨_, rfl, by simp [go_sem, gI]⟩, Or.inr ⟨_, rfl, by simp [go_sem, gI]⟩, Or.inr ⟨_, rfl, by simp only [dv_snoc]; simp [go_sem, gI]⟩, trivial⟩ (by simp) rfl (by simp [go_sem]) (by simp [go_sem]))
theorem words_person (k2 key : Str) (rk : Int) (X1 X2 X3 X4 X5 X6 X7 X8 : List D) (h2 : X2.length ≤ 100000) (h3 : rk < 6) :
    Does Tryz.prog 113 [.ptr 0 0, S [112, 101, 114, 115, 111, 110], .d (.sl [.str k2])] (rdO key rk X1 X2 X3 X4 X5 X6 X7 X8) (B true)
      [RdB (.slr 1 0 X1.length) (.slr 9 0 (X2.length + 1 + 1)) (.slr 3 0 X3.length) (.slr 4 0 X4.length) 1, oPl X1, .dead, oWk X3, oBo X4, oNm X5, oHm X6, oSt X7, oSt X8,
        .vec 50 5 (dv X2 ++ [.agg [S key, .slr 5 0 X5.length, .slr 6 0 X6.length, .slr 7 0 X7.length, .slr 8 0 X8.length]] ++ [.agg [S k2, .slr 10 0 0, .slr 11 0 0, .slr 12 0 0, .slr 13 0 0]]), oNm [], oHm [], oSt [], oSt []] := by
  have c1 := enterP key rk 1 X1 X2 X3 X4 X5 X6 X7 X8 rfl h3
  have qplace : (([112, 101, 114, 115, 111, 110] : Str) = [112, 108, 97, 99, 101]) = False := by decide
  have bplace : (([112, 101, 114, 115, 111, 110] : Str) == [112, 108, 97, 99, 101]) = false := by decide
  have qq : (([112, 101, 114, 115, 111, 110] : Str) == [112, 101, 114, 115, 111, 110]) = true := by decide
  refine Does.of_AW (n := 227) Tryz.func113 rfl rfl rfl fun cx hcx => ?_
  repeat' (first | ((first | refine AW.sreg rfl fun K hK => ?_ | refine AW.regD hmix rfl ?_ | refine run_call _ _ _ ((c1).robjs [0, 1, 2, 3, 4, 5, 6, 7, 8] ⟨(by first | rfl | (simp [go_sem]; done) | (simp [go_sem]; rfl)), (by first | rfl | (simp [go_sem]; done) | (simp [go_sem]; rfl)), (by first | rfl | (simp [go_sem]; done) | (simp [go_sem]; rfl)), (by first | rfl | (simp [go_sem]; done) | (simp [go_sem]; rfl)), (by first | rfl | (simp [go_sem]; done) | (simp [go_sem]; rfl)), (by first | rfl | (simp [go_sem]; done) | (simp [go_sem]; rfl)), (by first | rfl | (simp [go_sem]; done) | (simp [go_sem]; rfl)), (by first | rfl | (simp [go_sem]; done) | (simp [go_sem]; rfl)), (by first | rfl | (simp [go_sem]; done) | (simp [go_sem]; rfl)), trivial⟩ rfl (by decide) (by simp) (by simp) (by simp [go_sem]) (by simp [go_sem]) (by simp [go_sem]) (by simp [go_sem])) rfl rfl (dstOk_of rfl) rfl rfl rfl ?_); simp only [go_sem, ↓reduceIte, qplace, bplace, qq, get_snoc, set_snoc, take_snoc, List.length_append, dv_length, List.length_cons, List.length_nil, Nat.zero_add, Int.toNat_natCast, List.length_map]) | (refine AW.seq_k fun K hK => ?_) | (refine AW.block ?_) | (refine AW.cT ?_) | (refine AW.cF ?_) | (refine hK _ ?_; clear hK K) | (refine stepB_split (fun h => ?_) (fun h => ?_) <;> (have hb0 := h) <;> (try simp only [Bool.not_eq_true', Bool.not_eq_false'] at hb0) <;> (try simp only [decide_eq_true_eq, decide_eq_false_iff_not, Bool.not_eq_true', Bool.not_eq_false', Bool.not_eq_eq_eq_not, Bool.not_true, Bool.not_false, beq_iff_eq, bne_iff_ne, beq_eq_false_iff_ne, ne_eq, Bool.and_eq_true, Bool.or_eq_true, Bool.or_eq_false_iff] at h) <;> simp only [go_sem, ↓reduceIte, hb0, h, decide_true, decide_false, qplace, bplace, qq, get_snoc, set_snoc, take_snoc, List.length_append, dv_length, List.length_cons, List.length_nil, Nat.zero_add, Int.toNat_natCast, List.length_map] <;> (try clear hb0)) | (with_reducible refine And.intro (?_ : regOk _ _ = true) ?_; kernel_rfl) | (with_reducible refine andI ?_) | (exfalso; omega))
  refine AW.weak (Weak.nilV 2880 (X2.length + 1) 1 50 5 63 2 rfl (get_snoc2 _ _ _) rfl) ?_
  simp only [set_snoc2, List.set_cons_zero, List.set_cons_succ, Nat.reduceMul, Nat.reduceAdd]
  refine AW.weak (Weak.nilV 2880 (X2.length + 1) 2 50 5 98 3 rfl (get_snoc2 _ _ _) rfl) ?_
  simp only [set_snoc2, List.set_cons_zero, List.set_cons_succ, Nat.reduceMul, Nat.reduceAdd]
  refine AW.weak (Weak.nilV 2880 (X2.length + 1) 3 50 5 9 1 rfl (get_snoc2 _ _ _) rfl) ?_
  simp only [set_snoc2, List.set_cons_zero, List.set_cons_succ, Nat.reduceMul, Nat.reduceAdd]
  refine AW.weak (Weak.nilV 2880 (X2.length + 1) 4 50 5 9 1 rfl (get_snoc2 _ _ _) rfl) ?_
  simp only [set_snoc2, List.set_cons_zero, List.set_cons_succ, Nat.reduceMul, Nat.reduceAdd]
  exact AW.ret (Fin.objsD [0, 1, 2, 3, 4, 5, 6, 7, 8, 2880, 3264, 3328, 3392, 3456] rfl (by simp [go_sem, gI]) ⟨Or.inr ⟨_, rfl, by simp [go_sem, gI]⟩, Or.inr ⟨_, rfl, by simp [go_sem, gI]⟩, Or.inl rfl, Or.inr ⟨_, rfl, by simp [go_sem, gI]⟩, Or.inr ⟨_, rfl, by simp [go_sem, gI]⟩, Or.inr ⟨_, rfl, by simp [go_sem, gI]⟩, Or.inr ⟨_, rfl, by simp [go_sem, gI]⟩, Or.inr ⟨_, rfl, by simp [go_sem, gI]⟩, Or.inr ⟨_, rfl, by simp [go_sem, gI]⟩, Or.inr ⟨_, rfl, by simp [go_sem, gI]⟩, Or.inr ⟨_, rfl, by simp [go_sem, gI]⟩, Or.inr ⟨_, rfl, by simp [go_sem, gI]⟩, Or.inr ⟨_, rfl, by simp [go_sem, gI]⟩, Or.inr ⟨_, rfl, by simp [go_sem, gI]⟩, trivial⟩ (by simp) rfl (by simp [go_sem]) (by simp [go_sem]))
theorem enterF0 (X1 : List D) : Does Tryz.prog 110 [.ptr 0 0, I 0] (rdP 0 X1) (B true) (rdP 0 X1) := by
  refine Does.of_AW (n := 40) Tryz.func110 rfl rfl rfl fun cx hcx => ?_
  repeat' (first | ((first | refine AW.sreg rfl fun K hK => ?_ | refine AW.reg rfl ?_); simp only [go_sem, ↓reduceIte]) | (refine AW.seq_k fun K hK => ?_) | (refine AW.block ?_) | (refine AW.skip ?_; simp only [Then, InBlock]) | (refine AW.cT ?_) | (refine AW.cF ?_) | (refine hK _ ?_; clear hK K) | (refine stepB_split (fun h => ?_) (fun h => ?_) <;> (have hb0 := h) <;> (try simp only [Bool.not_eq_true', Bool.not_eq_false'] at hb0) <;> (try simp only [decide_eq_true_eq, decide_eq_false_iff_not, Bool.not_eq_true', Bool.not_eq_false', Bool.not_eq_eq_eq_not, Bool.not_true, Bool.not_false, beq_iff_eq, bne_iff_ne, beq_eq_false_iff_ne, ne_eq, Bool.and_eq_true, Bool.or_eq_true, Bool.or_eq_false_iff] at h) <;> simp only [go_sem, ↓reduceIte, hb0, h, decide_true, decide_false] <;> (try clear hb0)) | (exfalso; omega))
  all_goals exact AW.ret (Fin.objsD [0, 1, 2, 3, 4] rfl (by simp [go_sem, gI]) ⟨Or.inr ⟨_, rfl, by simp [go_sem, gI]⟩, Or.inr ⟨_, rfl, by simp [go_sem, gI]⟩, Or.inr ⟨_, rfl, by simp [go_sem, gI]⟩, Or.inr ⟨_, rfl, by simp [go_sem, gI]⟩, Or.inr ⟨_, rfl, by simp [go_sem, gI]⟩, trivial⟩ (by simp) rfl (by simp [go_sem]) (by simp [go_sem]))
theorem enterF1 (X1 : List D) : Does Tryz.prog 110 [.ptr 0 0, I 1] (rdP 0 X1) (B true) (rdP 1 X1) := by
  refine Does.of_AW (n := 40) Tryz.func110 rfl rfl rfl fun cx hcx => ?_
  repeat' (first | ((first | refine AW.sreg rfl fun K hK => ?_ | refine AW.reg rfl ?_); simp only [go_sem, ↓reduceIte]) | (refine AW.seq_k fun K hK => ?_) | (refine AW.block ?_) | (refine AW.cT ?_) | (refine hK _ ?_; clear hK K))
  all_goals exact AW.ret (Fin.objsD [0, 1, 2, 3, 4] rfl (by simp [go_sem, gI]) ⟨Or.inr ⟨_, rfl, by simp [go_sem, gI]⟩, Or.inr ⟨_, rfl, by simp [go_sem, gI]⟩, Or.inr ⟨_, rfl, by simp [go_sem, gI]⟩, Or.inr ⟨_, rfl, by simp [go_sem, gI]⟩, Or.inr ⟨_, rfl, by simp [go_sem, gI]⟩, trivial⟩ (by simp) rfl (by simp [go_sem]) (by simp [go_sem]))
theorem words_person1 (k2 : Str) (X1 : List D) :
    Does Tryz.prog 113 [.ptr 0 0, S [112, 101, 114, 115, 111, 110], .d (.sl [.str k2])] (rdP 0 X1) (B true)
      [RdB (.slr 1 0 X1.length) (.slr 5 0 1) (.slr 3 0 0) (.slr 4 0 0) 1, oPl X1, .dead, oWk [], oBo [],
        .vec 50 5 [.agg [S k2, .slr 6 0 0, .slr 7 0 0, .slr 8 0 0, .slr 9 0 0]], oNm [], oHm [], oSt [], oSt []] := by
  have c1 := enterF1 X1
  have qplace : (([112, 101, 114, 115, 111, 110] : Str) = [112, 108, 97, 99, 101]) = False := by decide
  have bplace : (([112, 101, 114, 115, 111, 110] : Str) == [112, 108, 97, 99, 101]) = false := by decide
  have qq : (([112, 101, 114, 115, 111, 110] : Str) == [112, 101, 114, 115, 111, 110]) = true := by decide
  refine Does.of_AW (n := 227) Tryz.func113 rfl rfl rfl fun cx hcx => ?_
  repeat' (first | ((first | refine AW.sreg rfl fun K hK => ?_ | refine AW.regD hmix rfl ?_ | refine run_call _ _ _ ((c1).robjs [0, 1, 2, 3, 4] ⟨(by first | rfl | (simp [go_sem]; done) | (simp [go_sem]; rfl)), (by first | rfl | (simp [go_sem]; done) | (simp [go_sem]; rfl)), (by first | rfl | (simp [go_sem]; done) | (simp [go_sem]; rfl)), (by first | rfl | (simp [go_sem]; done) | (simp [go_sem]; rfl)), (by first | rfl | (simp [go_sem]; done) | (simp [go_sem]; rfl)), trivial⟩ rfl (by decide) (by simp) (by simp) (by simp [go_sem]) (by simp [go_sem]) (by simp [go_sem]) (by simp [go_sem])) rfl rfl (dstOk_of rfl) rfl rfl rfl ?_); simp only [go_sem, ↓reduceIte, qplace, bplace, qq, List.length_append, dv_length, List.length_cons, List.length_nil, Nat.zero_add, Int.toNat_natCast, List.length_map]) | (refine AW.seq_k fun K hK => ?_) | (refine AW.block ?_) | (refine AW.cT ?_) | (refine AW.cF ?_) | (refine hK _ ?_; clear hK K) | (refine stepB_split (fun h => ?_) (fun h => ?_) <;> (have hb0 := h) <;> (try simp only [Bool.not_eq_true', Bool.not_eq_false'] at hb0) <;> (try simp only [decide_eq_true_eq, decide_eq_false_iff_not, Bool.not_eq_true', Bool.not_eq_false', Bool.not_eq_eq_eq_not, Bool.not_true, Bool.not_false, beq_iff_eq, bne_iff_ne, beq_eq_false_iff_ne, ne_eq, Bool.and_eq_true, Bool.or_eq_true, Bool.or_eq_false_iff] at h) <;> simp only [go_sem, ↓reduceIte, hb0, h, decide_true, decide_false, qplace, bplace, qq, List.length_append, dv_length, List.length_cons, List.length_nil, Nat.zero_add, Int.toNat_natCast, List.length_map] <;> (try clear hb0)) | (with_reducible refine And.intro (?_ : regOk _ _ = true) ?_; kernel_rfl) | (with_reducible refine andI ?_) | (exfalso; omega))
  refine AW.weak (Weak.nilV 2624 0 1 50 5 63 2 rfl rfl rfl) ?_
  simp only [List.set_cons_zero, List.set_cons_succ, Nat.reduceMul, Nat.reduceAdd]
  refine AW.weak (Weak.nilV 2624 0 2 50 5 98 3 rfl rfl rfl) ?_
  simp only [List.set_cons_zero, List.set_cons_succ, Nat.reduceMul, Nat.reduceAdd]
  refine AW.weak (Weak.nilV 2624 0 3 50 5 9 1 rfl rfl rfl) ?_
  simp only [List.set_cons_zero, List.set_cons_succ, Nat.reduceMul, Nat.reduceAdd]
  refine AW.weak (Weak.nilV 2624 0 4 50 5 9 1 rfl rfl rfl) ?_
  simp only [List.set_cons_zero, List.set_cons_succ, Nat.reduceMul, Nat.reduceAdd]
  exact AW.ret (Fin.objsD [0, 1, 2, 3, 4, 2624, 3008, 3072, 3136, 3200] rfl (by simp [go_sem, gI]) ⟨Or.inr ⟨_, rfl, by simp [go_sem, gI]⟩, Or.inr ⟨_, rfl, by simp [go_sem, gI]⟩, Or.inl rfl, Or.inr ⟨_, rfl, by simp [go_sem, gI]⟩, Or.inr ⟨_, rfl, by simp [go_sem, gI]⟩, Or.inr ⟨_, rfl, by simp [go_sem, gI]⟩, Or.inr ⟨_, rfl, by simp [go_sem, gI]⟩, Or.inr ⟨_, rfl, by simp [go_sem, gI]⟩, Or.inr ⟨_, rfl, by simp [go_sem, gI]⟩, Or.inr ⟨_, rfl, by simp [go_sem, gI]⟩, trivial⟩ (by simp) rfl (by simp [go_sem]) (by simp [go_sem]))
theorem words_place (p : Pl) (hd : p.2 ≠ [45]) (X1 : List D) (hx : X1.length ≤ 100000) :
    Does Tryz.prog 113 [.ptr 0 0, S [112, 108, 97, 99, 101], .d (.sl [.str p.1, .str (dashS p.2)])] (rdP 0 X1) (B true)
      [RdB (.slr 5 0 (X1.length + 1)) (.slr 2 0 0) (.slr 3 0 0) (.slr 4 0 0) 0, .dead, .vec 50 5 [], oWk [], oBo [], oPl (X1 ++ [plD p])] := by
  have c1 := enterF0 X1
  have qq : (([112, 108, 97, 99, 101] : Str) == [112, 108, 97, 99, 101]) = true := by decide
  obtain ⟨a, b⟩ := p
  by_cases hb : b = []
  · subst hb
    have e1 : dashS [] = [45] := rfl
    simp only [e1]
    refine Does.of_AW (n := 227) Tryz.func113 rfl rfl rfl fun cx hcx => ?_
    repeat' (first | ((first | refine AW.sreg rfl fun K hK => ?_ | refine AW.sregD hmix rfl fun K hK => ?_ | refine AW.reg rfl ?_ | refine AW.regD hmix rfl ?_ | refine run_call _ _ _ ((c1).robjs [0, 1, 2, 3, 4] ⟨(by first | rfl | (simp [go_sem]; done) | (simp [go_sem]; rfl)), (by first | rfl | (simp [go_sem]; done) | (simp [go_sem]; rfl)), (by first | rfl | (simp [go_sem]; done) | (simp [go_sem]; rfl)), (by first | rfl | (simp [go_sem]; done) | (simp [go_sem]; rfl)), (by first | rfl | (simp [go_sem]; done) | (simp [go_sem]; rfl)), trivial⟩ rfl (by decide) (by simp) (by simp) (by simp [go_sem]) (by simp [go_sem]) (by simp [go_sem]) (by simp [go_sem])) rfl rfl (dstOk_of rfl) rfl rfl rfl ?_); simp only [go_sem, ↓reduceIte, qq, List.length_append, dv_length, List.length_cons, List.length_nil, Nat.zero_add, Int.toNat_natCast, List.length_map]) | (refine AW.seq_k fun K hK => ?_) | (refine AW.block ?_) | (refine AW.cT ?_) | (refine hK _ ?_; clear hK K) | (refine stepB_split (fun h => ?_) (fun h => ?_) <;> (have hb0 := h) <;> (try simp only [Bool.not_eq_true', Bool.not_eq_false'] at hb0) <;> (try simp only [decide_eq_true_eq, decide_eq_false_iff_not, Bool.not_eq_true', Bool.not_eq_false', Bool.not_eq_eq_eq_not, Bool.not_true, Bool.not_false, beq_iff_eq, bne_iff_ne, beq_eq_false_iff_ne, ne_eq, Bool.and_eq_true, Bool.or_eq_true, Bool.or_eq_false_iff] at h) <;> simp only [go_sem, ↓reduceIte, hb0, h, decide_true, decide_false, qq, List.length_append, dv_length, List.length_cons, List.length_nil, Nat.zero_add, Int.toNat_natCast, List.length_map] <;> (try clear hb0)) | (with_reducible refine And.intro (?_ : regOk _ _ = true) ?_; kernel_rfl) | (with_reducible refine andI ?_) | (exfalso; omega))
    exact AW.ret (Fin.objsD [0, 1, 2, 3, 4, 2560] rfl (by simp [go_sem, gI]) ⟨Or.inr ⟨_, rfl, by simp [go_sem, gI]⟩, Or.inl rfl, Or.inr ⟨_, rfl, by simp [go_sem, gI]⟩, Or.inr ⟨_, rfl, by simp [go_sem, gI]⟩, Or.inr ⟨_, rfl, by simp [go_sem, gI]⟩, Or.inr ⟨_, rfl, by simp only [dv_snoc]; simp [go_sem, gI]⟩, trivial⟩ (by simp) rfl (by simp [go_sem]) (by simp [go_sem]))
  · have e1 : dashS b = b := if_neg hb
    have e2 : (b = [45]) = False := by simpa using hd
    have e3 : (b == [45]) = false := by simpa using hd
    simp only [e1]
    refine Does.of_AW (n := 227) Tryz.func113 rfl rfl rfl fun cx hcx => ?_
    repeat' (first | ((first | refine AW.sreg rfl fun K hK => ?_ | refine AW.sregD hmix rfl fun K hK => ?_ | refine AW.reg rfl ?_ | refine AW.regD hmix rfl ?_ | refine run_call _ _ _ ((c1).robjs [0, 1, 2, 3, 4] ⟨(by first | rfl | (simp [go_sem]; done) | (simp [go_sem]; rfl)), (by first | rfl | (simp [go_sem]; done) | (simp [go_sem]; rfl)), (by first | rfl | (simp [go_sem]; done) | (simp [go_sem]; rfl)), (by first | rfl | (simp [go_sem]; done) | (simp [go_sem]; rfl)), (by first | rfl | (simp [go_sem]; done) | (simp [go_sem]; rfl)), trivial⟩ rfl (by decide) (by simp) (by simp) (by simp [go_sem]) (by simp [go_sem]) (by simp [go_sem]) (by simp [go_sem])) rfl rfl (dstOk_of rfl) rfl rfl rfl ?_); simp only [go_sem, ↓reduceIte, qq, e2, e3, List.length_append, dv_length, List.length_cons, List.length_nil, Nat.zero_add, Int.toNat_natCast, List.length_map]) | (refine AW.seq_k fun K hK => ?_) | (refine AW.block ?_) | (refine AW.skip ?_; simp only [Then, InBlock]) | (refine AW.cT ?_) | (refine AW.cF ?_) | (refine hK _ ?_; clear hK K) | (refine stepB_split (fun h => ?_) (fun h => ?_) <;> (have hb0 := h) <;> (try simp only [Bool.not_eq_true', Bool.not_eq_false'] at hb0) <;> (try simp only [decide_eq_true_eq, decide_eq_false_iff_not, Bool.not_eq_true', Bool.not_eq_false', Bool.not_eq_eq_eq_not, Bool.not_true, Bool.not_false, beq_iff_eq, bne_iff_ne, beq_eq_false_iff_ne, ne_eq, Bool.and_eq_true, Bool.or_eq_true, Bool.or_eq_false_iff] at h) <;> simp only [go_sem, ↓reduceIte, hb0, h, decide_true, decide_false, qq, e2, e3, List.length_append, dv_length, List.length_cons, List.length_nil, Nat.zero_add, Int.toNat_natCast, List.length_map] <;> (try clear hb0)) | (with_reducible refine And.intro (?_ : regOk _ _ = true) ?_; kernel_rfl) | (with_reducible refine andI ?_) | (exfalso; omega))
    exact AW.ret (Fin.objsD [0, 1, 2, 3, 4, 2432] rfl (by simp [go_sem, gI]) ⟨Or.inr ⟨_, rfl, by simp [go_sem, gI]⟩, Or.inl rfl, Or.inr ⟨_, rfl, by simp [go_sem, gI]⟩, Or.inr ⟨_, rfl, by simp [go_sem, gI]⟩, Or.inr ⟨_, rfl, by simp [go_sem, gI]⟩, Or.inr ⟨_, rfl, by simp only [dv_snoc]; simp [go_sem, gI]⟩, trivial⟩ (by simp) rfl (by simp [go_sem]) (by simp [go_sem]))
end Go.AX

namespace Go.AX
open Go Go.Proofs Go.RowKit
theorem joinS_cons (a b : Str) (r : List Str) : Lib.join (a :: b :: r) [32] = a ++ 32 :: Lib.join (b :: r) [32] := by
  rw [Lib.join_cons, Lib.join_cons]
  simp [Lib.joinTail]
theorem splitS_join : ∀ ws : List Str, ws ≠ [] → (∀ x ∈ ws, (32 : UInt8) ∉ x) → splitB 32 (Lib.join ws [32]) = ws
  | [], h, _ => absurd rfl h
  | [a], _, h => by rw [Lib.join_one]; exact splitB_none 32 a (h a (by simp))
  | a :: b :: r, _, h => by
    rw [joinS_cons, splitB_app 32 _ _ (h a (by simp)), splitS_join (b :: r) (by simp) fun x hx => h x (by simp [hx])]
/-- Words of a line, without the first. -/
def W1 (ws : List Str) : Prop := ws ≠ [] ∧ ws.length ≤ 1000 ∧ (∀ x ∈ ws, x ≠ [] ∧ (32 : UInt8) ∉ x) ∧ (Lib.join ws [32]).length ≤ 100000
theorem words_ln (ws : List Str) (h : W1 ws) : Does Tryz.prog 112 [S (Lib.join ws [32])] [] (.tup [.d (.sl (ws.map .str)), B true]) [] :=
  words_any _ (by have := h.2.2.2; omega) ws (splitS_join ws h.1 fun x hx => (h.2.2.1 x hx).2) (fun x hx => (h.2.2.1 x hx).1) h.2.1
theorem cut_ln (w : Str) (hw : (32 : UInt8) ∉ w) (hl : w.length ≤ 100) (ws : List Str) (h : W1 ws) : Does Tryz.prog 108 [S (w ++ 32 :: Lib.join ws [32]), S [32]] [] (.tup [S w, S (Lib.join ws [32]), B true]) [] :=
  cut_any w _ hw (by have := h.2.2.2; simp only [List.length_append, List.length_cons]; omega)
theorem line_mail (m : Str) (key : Str) (rk : Int) (X1 X2 X3 X4 X5 X6 X7 X8 : List D) (h2 : X2.length ≤ 100000) (hx : X7.length ≤ 100000) (h3 : 1 ≤ rk) (h4 : rk ≤ 4) (hW : W1 [m]) :
    Does Tryz.prog 43 [.ptr 0 0, S ([109, 97, 105, 108] ++ 32 :: Lib.join [m] [32])] (rdO key rk X1 X2 X3 X4 X5 X6 X7 X8) (B true)
      [RdB (.slr 1 0 X1.length) (.slr 2 0 (X2.length + 1)) (.slr 3 0 X3.length) (.slr 4 0 X4.length) 4, oPl X1, oPe X2 key (.slr 5 0 X5.length) (.slr 6 0 X6.length) (.slr 9 0 (X7.length + 1)) (.slr 8 0 X8.length), oWk X3, oBo X4, oNm X5, oHm X6, .dead, oSt X8, oSt (X7 ++ [.str m])] := by
  have c0 := words_ln _ hW
  have c1 := cut_ln [109, 97, 105, 108] (by decide) (by decide) _ hW
  have c2 := words_mail m key rk X1 X2 X3 X4 X5 X6 X7 X8 h2 hx h3 h4
  simp only [List.map_cons, List.map_nil] at c0
  have bn : (([109, 97, 105, 108] : Str) == [110, 97, 109, 101]) = false := by decide
  have qn : (([109, 97, 105, 108] : Str) = [110, 97, 109, 101]) = False := by decide
  clear hW
  generalize Lib.join [m] [32] = J at *
  generalize [109, 97, 105, 108] ++ 32 :: J = T at *
  refine Does.of_AW (n := 77) Tryz.func43 rfl rfl rfl fun cx hcx => ?_
  repeat' (first | ((first | refine AW.sreg rfl fun K hK => ?_ | refine run_call _ _ _ ((c1).pure rfl rfl _ _) rfl rfl (dstOk_of rfl) rfl rfl rfl ?_ | refine run_call _ _ _ ((c0).pure rfl rfl _ _) rfl rfl (dstOk_of rfl) rfl rfl rfl ?_ | refine run_call _ _ _ ((c2).robjs [0, 1, 2, 3, 4, 5, 6, 7, 8] ⟨(by first | rfl | (simp [go_sem]; done) | (simp [go_sem]; rfl)), (by first | rfl | (simp [go_sem]; done) | (simp [go_sem]; rfl)), (by first | rfl | (simp [go_sem]; done) | (simp [go_sem]; rfl)), (by first | rfl | (simp [go_sem]; done) | (simp [go_sem]; rfl)), (by first | rfl | (simp [go_sem]; done) | (simp [go_sem]; rfl)), (by first | rfl | (simp [go_sem]; done) | (simp [go_sem]; rfl)), (by first | rfl | (simp [go_sem]; done) | (simp [go_sem]; rfl)), (by first | rfl | (simp [go_sem]; done) | (simp [go_sem]; rfl)), (by first | rfl | (simp [go_sem]; done) | (simp [go_sem]; rfl)), trivial⟩ rfl (by decide) (by simp) (by simp) (by simp [go_sem]) (by simp [go_sem]) (by simp [go_sem]) (by simp [go_sem])) rfl rfl (dstOk_of rfl) rfl rfl rfl ?_); simp only [go_sem, ↓reduceIte, bn, qn, Nat.reduceSub, Nat.add_zero, Nat.reduceAdd]) | (refine AW.seq_k fun K hK => ?_) | (refine AW.skip ?_; simp only [Then, InBlock]) | (refine AW.cF ?_) | (refine hK _ ?_; clear hK K))
  exact AW.ret (Fin.objsD [0, 1, 2, 3, 4, 5, 6, 7, 8, 2240] rfl (by simp [go_sem, gI]) ⟨Or.inr ⟨_, rfl, by simp [go_sem, gI]⟩, Or.inr ⟨_, rfl, by simp [go_sem, gI]⟩, Or.inr ⟨_, rfl, by simp [go_sem, gI]⟩, Or.inr ⟨_, rfl, by simp [go_sem, gI]⟩, Or.inr ⟨_, rfl, by simp [go_sem, gI]⟩, Or.inr ⟨_, rfl, by simp [go_sem, gI]⟩, Or.inr ⟨_, rfl, by simp [go_sem, gI]⟩, Or.inl rfl, Or.inr ⟨_, rfl, by simp [go_sem, gI]⟩, Or.inr ⟨_, rfl, by simp [go_sem, gI]⟩, trivial⟩ (by simp) rfl (by simp [go_sem]) (by simp [go_sem]))
theorem line_adviser (m : Str) (key : Str) (rk : Int) (X1 X2 X3 X4 X5 X6 X7 X8 : List D) (h2 : X2.length ≤ 100000) (hx : X8.length ≤ 100000) (h3 : 1 ≤ rk) (h4 : rk ≤ 5) (hW : W1 [m]) :
    Does Tryz.prog 43 [.ptr 0 0, S ([97, 100, 118, 105, 115, 101, 114] ++ 32 :: Lib.join [m] [32])] (rdO key rk X1 X2 X3 X4 X5 X6 X7 X8) (B true)
      [RdB (.slr 1 0 X1.length) (.slr 2 0 (X2.length + 1)) (.slr 3 0 X3.length) (.slr 4 0 X4.length) 5, oPl X1, oPe X2 key (.slr 5 0 X5.length) (.slr 6 0 X6.length) (.slr 7 0 X7.length) (.slr 9 0 (X8.length + 1)), oWk X3, oBo X4, oNm X5, oHm X6, oSt X7, .dead, oSt (X8 ++ [.str m])] := by
  have c0 := words_ln _ hW
  have c1 := cut_ln [97, 100, 118, 105, 115, 101, 114] (by decide) (by decide) _ hW
  have c2 := words_adviser m key rk X1 X2 X3 X4 X5 X6 X7 X8 h2 hx h3 h4
  simp only [List.map_cons, List.map_nil] at c0
  have bn : (([97, 100, 118, 105, 115, 101, 114] : Str) == [110, 97, 109, 101]) = false := by decide
  have qn : (([97, 100, 118, 105, 115, 101, 114] : Str) = [110, 97, 109, 101]) = False := by decide
  clear hW
  generalize Lib.join [m] [32] = J at *
  generalize [97, 100, 118, 105, 115, 101, 114] ++ 32 :: J = T at *
  refine Does.of_AW (n := 77) Tryz.func43 rfl rfl rfl fun cx hcx => ?_
  repeat' (first | ((first | refine AW.sreg rfl fun K hK => ?_ | refine run_call _ _ _ ((c1).pure rfl rfl _ _) rfl rfl (dstOk_of rfl) rfl rfl rfl ?_ | refine run_call _ _ _ ((c0).pure rfl rfl _ _) rfl rfl (dstOk_of rfl) rfl rfl rfl ?_ | refine run_call _ _ _ ((c2).robjs [0, 1, 2, 3, 4, 5, 6, 7, 8] ⟨(by first | rfl | (simp [go_sem]; done) | (simp [go_sem]; rfl)), (by first | rfl | (simp [go_sem]; done) | (simp [go_sem]; rfl)), (by first | rfl | (simp [go_sem]; done) | (simp [go_sem]; rfl)), (by first | rfl | (simp [go_sem]; done) | (simp [go_sem]; rfl)), (by first | rfl | (simp [go_sem]; done) | (simp [go_sem]; rfl)), (by first | rfl | (simp [go_sem]; done) | (simp [go_sem]; rfl)), (by first | rfl | (simp [go_sem]; done) | (simp [go_sem]; rfl)), (by first | rfl | (simp [go_sem]; done) | (simp [go_sem]; rfl)), (by first | rfl | (simp [go_sem]; done) | (simp [go_sem]; rfl)), trivial⟩ rfl (by decide) (by simp) (by simp) (by simp [go_sem]) (by simp [go_sem]) (by simp [go_sem]) (by simp [go_sem])) rfl rfl (dstOk_of rfl) rfl rfl rfl ?_); simp only [go_sem, ↓reduceIte, bn, qn, Nat.reduceSub, Nat.add_zero, Nat.reduceAdd]) | (refine AW.seq_k fun K hK => ?_) | (refine AW.skip ?_; simp only [Then, InBlock]) | (refine AW.cF ?_) | (refine hK _ ?_; clear hK K))
  exact AW.ret (Fin.objsD [0, 1, 2, 3, 4, 5, 6, 7, 8, 2240] rfl (by simp [go_sem, gI]) ⟨Or.inr ⟨_, rfl, by simp [go_sem, gI]⟩, Or.inr ⟨_, rfl, by simp [go_sem, gI]⟩, Or.inr ⟨_, rfl, by simp [go_sem, gI]⟩, Or.inr ⟨_, rfl, by simp [go_sem, gI]⟩, Or.inr ⟨_, rfl, by simp [go_sem, gI]⟩, Or.inr ⟨_, rfl, by simp [go_sem, gI]⟩, Or.inr ⟨_, rfl, by simp [go_sem, gI]⟩, Or.inr ⟨_, rfl, by simp [go_sem, gI]⟩, Or.inl rfl, Or.inr ⟨_, rfl, by simp [go_sem, gI]⟩, trivial⟩ (by simp) rfl (by simp [go_sem]) (by simp [go_sem]))
theorem line_home (hh : Hm) (hd1 : hh.2.1 ∈ DY) (hd2 : hh.2.2 ∈ DY) (key : Str) (rk : Int) (X1 X2 X3 X4 X5 X6 X7 X8 : List D) (h2 : X2.length ≤ 100000) (hx : X6.length ≤ 100000) (h3 : 1 ≤ rk) (h4 : rk ≤ 3) (hW : W1 [hh.1, Lib.itoa hh.2.1, Lib.itoa hh.2.2]) :
    Does Tryz.prog 43 [.ptr 0 0, S ([104, 111, 109, 101] ++ 32 :: Lib.join [hh.1, Lib.itoa hh.2.1, Lib.itoa hh.2.2] [32])] (rdO key rk X1 X2 X3 X4 X5 X6 X7 X8) (B true)
      [RdB (.slr 1 0 X1.length) (.slr 2 0 (X2.length + 1)) (.slr 3 0 X3.length) (.slr 4 0 X4.length) 3, oPl X1, oPe X2 key (.slr 5 0 X5.length) (.slr 9 0 (X6.length + 1)) (.slr 7 0 X7.length) (.slr 8 0 X8.length), oWk X3, oBo X4, oNm X5, .dead, oSt X7, oSt X8, oHm (X6 ++ [hmD hh])] := by
  have c0 := words_ln _ hW
  have c1 := cut_ln [104, 111, 109, 101] (by decide) (by decide) _ hW
  have c2 := words_home hh hd1 hd2 key rk X1 X2 X3 X4 X5 X6 X7 X8 h2 hx h3 h4
  simp only [List.map_cons, List.map_nil] at c0
  have bn : (([104, 111, 109, 101] : Str) == [110, 97, 109, 101]) = false := by decide
  have qn : (([104, 111, 109, 101] : Str) = [110, 97, 109, 101]) = False := by decide
  clear hW
  generalize Lib.join [hh.1, Lib.itoa hh.2.1, Lib.itoa hh.2.2] [32] = J at *
  generalize [104, 111, 109, 101] ++ 32 :: J = T at *
  refine Does.of_AW (n := 77) Tryz.func43 rfl rfl rfl fun cx hcx => ?_
  repeat' (first | ((first | refine AW.sreg rfl fun K hK => ?_ | refine run_call _ _ _ ((c1).pure rfl rfl _ _) rfl rfl (dstOk_of rfl) rfl rfl rfl ?_ | refine run_call _ _ _ ((c0).pure rfl rfl _ _) rfl rfl (dstOk_of rfl) rfl rfl rfl ?_ | refine run_call _ _ _ ((c2).robjs [0, 1, 2, 3, 4, 5, 6, 7, 8] ⟨(by first | rfl | (simp [go_sem]; done) | (simp [go_sem]; rfl)), (by first | rfl | (simp [go_sem]; done) | (simp [go_sem]; rfl)), (by first | rfl | (simp [go_sem]; done) | (simp [go_sem]; rfl)), (by first | rfl | (simp [go_sem]; done) | (simp [go_sem]; rfl)), (by first | rfl | (simp [go_sem]; done) | (simp [go_sem]; rfl)), (by first | rfl | (simp [go_sem]; done) | (simp [go_sem]; rfl)), (by first | rfl | (simp [go_sem]; done) | (simp [go_sem]; rfl)), (by first | rfl | (simp [go_sem]; done) | (simp [go_sem]; rfl)), (by first | rfl | (simp [go_sem]; done) | (simp [go_sem]; rfl)), trivial⟩ rfl (by decide) (by simp) (by simp) (by simp [go_sem]) (by simp [go_sem]) (by simp [go_sem]) (by simp [go_sem])) rfl rfl (dstOk_of rfl) rfl rfl rfl ?_); simp only [go_sem, ↓reduceIte, bn, qn, Nat.reduceSub, Nat.add_zero, Nat.reduceAdd]) | (refine AW.seq_k fun K hK => ?_) | (refine AW.skip ?_; simp only [Then, InBlock]) | (refine AW.cF ?_) | (refine hK _ ?_; clear hK K))
  exact AW.ret (Fin.objsD [0, 1, 2, 3, 4, 5, 6, 7, 8, 2240] rfl (by simp [go_sem, gI]) ⟨Or.inr ⟨_, rfl, by simp [go_sem, gI]⟩, Or.inr ⟨_, rfl, by simp [go_sem, gI]⟩, Or.inr ⟨_, rfl, by simp [go_sem, gI]⟩, Or.inr ⟨_, rfl, by simp [go_sem, gI]⟩, Or.inr ⟨_, rfl, by simp [go_sem, gI]⟩, Or.inr ⟨_, rfl, by simp [go_sem, gI]⟩, Or.inl rfl, Or.inr ⟨_, rfl, by simp [go_sem, gI]⟩, Or.inr ⟨_, rfl, by simp [go_sem, gI]⟩, Or.inr ⟨_, rfl, by simp [go_sem, gI]⟩, trivial⟩ (by simp) rfl (by simp [go_sem]) (by simp [go_sem]))
theorem line_work (x : Wk) (hd : x.1 ∈ DY) (hl : x.2.length ≤ 1000) (key : Str) (rk : Int) (X1 X2 X3 X4 X5 X6 X7 X8 : List D) (h2 : X2.length ≤ 100000) (hx : X3.length ≤ 100000) (h4 : rk ≤ 6) (hW : W1 (Lib.itoa x.1 :: x.2)) :
    Does Tryz.prog 43 [.ptr 0 0, S ([119, 111, 114, 107] ++ 32 :: Lib.join (Lib.itoa x.1 :: x.2) [32])] (rdO key rk X1 X2 X3 X4 X5 X6 X7 X8) (B true)
      [RdB (.slr 1 0 X1.length) (.slr 2 0 (X2.length + 1)) (.slr 9 0 (X3.length + 1)) (.slr 4 0 X4.length) 6, oPl X1, oPe X2 key (.slr 5 0 X5.length) (.slr 6 0 X6.length) (.slr 7 0 X7.length) (.slr 8 0 X8.length), .dead, oBo X4, oNm X5, oHm X6, oSt X7, oSt X8, oWk (X3 ++ [wkD x])] := by
  have c0 := words_ln _ hW
  have c1 := cut_ln [119, 111, 114, 107] (by decide) (by decide) _ hW
  have c2 := words_work x hd hl key rk X1 X2 X3 X4 X5 X6 X7 X8 h2 hx h4
  simp only [List.map_cons, List.map_nil] at c0
  have bn : (([119, 111, 114, 107] : Str) == [110, 97, 109, 101]) = false := by decide
  have qn : (([119, 111, 114, 107] : Str) = [110, 97, 109, 101]) = False := by decide
  clear hW
  generalize Lib.join (Lib.itoa x.1 :: x.2) [32] = J at *
  generalize [119, 111, 114, 107] ++ 32 :: J = T at *
  refine Does.of_AW (n := 77) Tryz.func43 rfl rfl rfl fun cx hcx => ?_
  repeat' (first | ((first | refine AW.sreg rfl fun K hK => ?_ | refine run_call _ _ _ ((c1).pure rfl rfl _ _) rfl rfl (dstOk_of rfl) rfl rfl rfl ?_ | refine run_call _ _ _ ((c0).pure rfl rfl _ _) rfl rfl (dstOk_of rfl) rfl rfl rfl ?_ | refine run_call _ _ _ ((c2).robjs [0, 1, 2, 3, 4, 5, 6, 7, 8] ⟨(by first | rfl | (simp [go_sem]; done) | (simp [go_sem]; rfl)), (by first | rfl | (simp [go_sem]; done) | (simp [go_sem]; rfl)), (by first | rfl | (simp [go_sem]; done) | (simp [go_sem]; rfl)), (by first | rfl | (simp [go_sem]; done) | (simp [go_sem]; rfl)), (by first | rfl | (simp [go_sem]; done) | (simp [go_sem]; rfl)), (by first | rfl | (simp [go_sem]; done) | (simp [go_sem]; rfl)), (by first | rfl | (simp [go_sem]; done) | (simp [go_sem]; rfl)), (by first | rfl | (simp [go_sem]; done) | (simp [go_sem]; rfl)), (by first | rfl | (simp [go_sem]; done) | (simp [go_sem]; rfl)), trivial⟩ rfl (by decide) (by simp) (by simp) (by simp [go_sem]) (by simp [go_sem]) (by simp [go_sem]) (by simp [go_sem])) rfl rfl (dstOk_of rfl) rfl rfl rfl ?_); simp only [go_sem, ↓reduceIte, bn, qn, Nat.reduceSub, Nat.add_zero, Nat.reduceAdd]) | (refine AW.seq_k fun K hK => ?_) | (refine AW.skip ?_; simp only [Then, InBlock]) | (refine AW.cF ?_) | (refine hK _ ?_; clear hK K))
  exact AW.ret (Fin.objsD [0, 1, 2, 3, 4, 5, 6, 7, 8, 2240] rfl (by simp [go_sem, gI]) ⟨Or.inr ⟨_, rfl, by simp [go_sem, gI]⟩, Or.inr ⟨_, rfl, by simp [go_sem, gI]⟩, Or.inr ⟨_, rfl, by simp [go_sem, gI]⟩, Or.inl rfl, Or.inr ⟨_, rfl, by simp [go_sem, gI]⟩, Or.inr ⟨_, rfl, by simp [go_sem, gI]⟩, Or.inr ⟨_, rfl, by simp [go_sem, gI]⟩, Or.inr ⟨_, rfl, by simp [go_sem, gI]⟩, Or.inr ⟨_, rfl, by simp [go_sem, gI]⟩, Or.inr ⟨_, rfl, by simp [go_sem, gI]⟩, trivial⟩ (by simp) rfl (by simp [go_sem]) (by simp [go_sem]))
theorem line_bond (b : Bo) (key : Str) (rk : Int) (X1 X2 X3 X4 X5 X6 X7 X8 : List D) (h2 : X2.length ≤ 100000) (hx : X4.length ≤ 100000) (h4 : rk ≤ 7) (hW : W1 [b.1, b.2]) :
    Does Tryz.prog 43 [.ptr 0 0, S ([98, 111, 110, 100] ++ 32 :: Lib.join [b.1, b.2] [32])] (rdO key rk X1 X2 X3 X4 X5 X6 X7 X8) (B true)
      [RdB (.slr 1 0 X1.length) (.slr 2 0 (X2.length + 1)) (.slr 3 0 X3.length) (.slr 9 0 (X4.length + 1)) 7, oPl X1, oPe X2 key (.slr 5 0 X5.length) (.slr 6 0 X6.length) (.slr 7 0 X7.length) (.slr 8 0 X8.length), oWk X3, .dead, oNm X5, oHm X6, oSt X7, oSt X8, oBo (X4 ++ [boD b])] := by
  have c0 := words_ln _ hW
  have c1 := cut_ln [98, 111, 110, 100] (by decide) (by decide) _ hW
  have c2 := words_bond b key rk X1 X2 X3 X4 X5 X6 X7 X8 h2 hx h4
  simp only [List.map_cons, List.map_nil] at c0
  have bn : (([98, 111, 110, 100] : Str) == [110, 97, 109, 101]) = false := by decide
  have qn : (([98, 111, 110, 100] : Str) = [110, 97, 109, 101]) = False := by decide
  clear hW
  generalize Lib.join [b.1, b.2] [32] = J at *
  generalize [98, 111, 110, 100] ++ 32 :: J = T at *
  refine Does.of_AW (n := 77) Tryz.func43 rfl rfl rfl fun cx hcx => ?_
  repeat' (first | ((first | refine AW.sreg rfl fun K hK => ?_ | refine run_call _ _ _ ((c1).pure rfl rfl _ _) rfl rfl (dstOk_of rfl) rfl rfl rfl ?_ | refine run_call _ _ _ ((c0).pure rfl rfl _ _) rfl rfl (dstOk_of rfl) rfl rfl rfl ?_ | refine run_call _ _ _ ((c2).robjs [0, 1, 2, 3, 4, 5, 6, 7, 8] ⟨(by first | rfl | (simp [go_sem]; done) | (simp [go_sem]; rfl)), (by first | rfl | (simp [go_sem]; done) | (simp [go_sem]; rfl)), (by first | rfl | (simp [go_sem]; done) | (simp [go_sem]; rfl)), (by first | rfl | (simp [go_sem]; done) | (simp [go_sem]; rfl)), (by first | rfl | (simp [go_sem]; done) | (simp [go_sem]; rfl)), (by first | rfl | (simp [go_sem]; done) | (simp [go_sem]; rfl)), (by first | rfl | (simp [go_sem]; done) | (simp [go_sem]; rfl)), (by first | rfl | (simp [go_sem]; done) | (simp [go_sem]; rfl)), (by first | rfl | (simp [go_sem]; done) | (simp [go_sem]; rfl)), trivial⟩ rfl (by decide) (by simp) (by simp) (by simp [go_sem]) (by simp [go_sem]) (by simp [go_sem]) (by simp [go_sem])) rfl rfl (dstOk_of rfl) rfl rfl rfl ?_); simp only [go_sem, ↓reduceIte, bn, qn, Nat.reduceSub, Nat.add_zero, Nat.reduceAdd]) | (refine AW.seq_k fun K hK => ?_) | (refine AW.skip ?_; simp only [Then, InBlock]) | (refine AW.cF ?_) | (refine hK _ ?_; clear hK K))
  exact AW.ret (Fin.objsD [0, 1, 2, 3, 4, 5, 6, 7, 8, 2240] rfl (by simp [go_sem, gI]) ⟨Or.inr ⟨_, rfl, by simp [go_sem, gI]⟩, Or.inr ⟨_, rfl, by simp [go_sem, gI]⟩, Or.inr ⟨_, rfl, by simp [go_sem, gI]⟩, Or.inr ⟨_, rfl, by simp [go_sem, gI]⟩, Or.inl rfl, Or.inr ⟨_, rfl, by simp [go_sem, gI]⟩, Or.inr ⟨_, rfl, by simp [go_sem, gI]⟩, Or.inr ⟨_, rfl, by simp [go_sem, gI]⟩, Or.inr ⟨_, rfl, by simp [go_sem, gI]⟩, Or.inr ⟨_, rfl, by simp [go_sem, gI]⟩, trivial⟩ (by simp) rfl (by simp [go_sem]) (by simp [go_sem]))
theorem line_person (k2 key : Str) (rk : Int) (X1 X2 X3 X4 X5 X6 X7 X8 : List D) (h2 : X2.length ≤ 100000) (h3 : rk < 6) (hW : W1 [k2]) :
    Does Tryz.prog 43 [.ptr 0 0, S ([112, 101, 114, 115, 111, 110] ++ 32 :: Lib.join [k2] [32])] (rdO key rk X1 X2 X3 X4 X5 X6 X7 X8) (B true)
      [RdB (.slr 1 0 X1.length) (.slr 9 0 (X2.length + 1 + 1)) (.slr 3 0 X3.length) (.slr 4 0 X4.length) 1, oPl X1, .dead, oWk X3, oBo X4, oNm X5, oHm X6, oSt X7, oSt X8,
        .vec 50 5 (dv X2 ++ [.agg [S key, .slr 5 0 X5.length, .slr 6 0 X6.length, .slr 7 0 X7.length, .slr 8 0 X8.length]] ++ [.agg [S k2, .slr 10 0 0, .slr 11 0 0, .slr 12 0 0, .slr 13 0 0]]), oNm [], oHm [], oSt [], oSt []] := by
  have c0 := words_ln _ hW
  have c1 := cut_ln [112, 101, 114, 115, 111, 110] (by decide) (by decide) _ hW
  have c2 := words_person k2 key rk X1 X2 X3 X4 X5 X6 X7 X8 h2 h3
  simp only [List.map_cons, List.map_nil] at c0
  have bn : (([112, 101, 114, 115, 111, 110] : Str) == [110, 97, 109, 101]) = false := by decide
  have qn : (([112, 101, 114, 115, 111, 110] : Str) = [110, 97, 109, 101]) = False := by decide
  clear hW
  generalize Lib.join [k2] [32] = J at *
  generalize [112, 101, 114, 115, 111, 110] ++ 32 :: J = T at *
  refine Does.of_AW (n := 77) Tryz.func43 rfl rfl rfl fun cx hcx => ?_
  repeat' (first | ((first | refine AW.sreg rfl fun K hK => ?_ | refine run_call _ _ _ ((c1).pure rfl rfl _ _) rfl rfl (dstOk_of rfl) rfl rfl rfl ?_ | refine run_call _ _ _ ((c0).pure rfl rfl _ _) rfl rfl (dstOk_of rfl) rfl rfl rfl ?_ | refine run_call _ _ _ ((c2).robjs [0, 1, 2, 3, 4, 5, 6, 7, 8] ⟨(by first | rfl | (simp [go_sem]; done) | (simp [go_sem]; rfl)), (by first | rfl | (simp [go_sem]; done) | (simp [go_sem]; rfl)), (by first | rfl | (simp [go_sem]; done) | (simp [go_sem]; rfl)), (by first | rfl | (simp [go_sem]; done) | (simp [go_sem]; rfl)), (by first | rfl | (simp [go_sem]; done) | (simp [go_sem]; rfl)), (by first | rfl | (simp [go_sem]; done) | (simp [go_sem]; rfl)), (by first | rfl | (simp [go_sem]; done) | (simp [go_sem]; rfl)), (by first | rfl | (simp [go_sem]; done) | (simp [go_sem]; rfl)), (by first | rfl | (simp [go_sem]; done) | (simp [go_sem]; rfl)), trivial⟩ rfl (by decide) (by simp) (by simp) (by simp [go_sem]) (by simp [go_sem]) (by simp [go_sem]) (by simp [go_sem])) rfl rfl (dstOk_of rfl) rfl rfl rfl ?_); simp only [go_sem, ↓reduceIte, bn, qn, Nat.reduceSub, Nat.add_zero, Nat.reduceAdd]) | (refine AW.seq_k fun K hK => ?_) | (refine AW.skip ?_; simp only [Then, InBlock]) | (refine AW.cF ?_) | (refine hK _ ?_; clear hK K))
  exact AW.ret (Fin.objsD [0, 1, 2, 3, 4, 5, 6, 7, 8, 2240, 2241, 2242, 2243, 2244] rfl (by simp [go_sem, gI]) ⟨Or.inr ⟨_, rfl, by simp [go_sem, gI]⟩, Or.inr ⟨_, rfl, by simp [go_sem, gI]⟩, Or.inl rfl, Or.inr ⟨_, rfl, by simp [go_sem, gI]⟩, Or.inr ⟨_, rfl, by simp [go_sem, gI]⟩, Or.inr ⟨_, rfl, by simp [go_sem, gI]⟩, Or.inr ⟨_, rfl, by simp [go_sem, gI]⟩, Or.inr ⟨_, rfl, by simp [go_sem, gI]⟩, Or.inr ⟨_, rfl, by simp [go_sem, gI]⟩, Or.inr ⟨_, rfl, by simp [go_sem, gI]⟩, Or.inr ⟨_, rfl, by simp [go_sem, gI]⟩, Or.inr ⟨_, rfl, by simp [go_sem, gI]⟩, Or.inr ⟨_, rfl, by simp [go_sem, gI]⟩, Or.inr ⟨_, rfl, by simp [go_sem, gI]⟩, trivial⟩ (by simp) rfl (by simp [go_sem]) (by simp [go_sem]))
theorem line_person1 (k2 : Str) (X1 : List D) (hW : W1 [k2]) :
    Does Tryz.prog 43 [.ptr 0 0, S ([112, 101, 114, 115, 111, 110] ++ 32 :: Lib.join [k2] [32])] (rdP 0 X1) (B true)
      [RdB (.slr 1 0 X1.length) (.slr 5 0 1) (.slr 3 0 0) (.slr 4 0 0) 1, oPl X1, .dead, oWk [], oBo [],
        .vec 50 5 [.agg [S k2, .slr 6 0 0, .slr 7 0 0, .slr 8 0 0, .slr 9 0 0]], oNm [], oHm [], oSt [], oSt []] := by
  have c0 := words_ln _ hW
  have c1 := cut_ln [112, 101, 114, 115, 111, 110] (by decide) (by decide) _ hW
  have c2 := words_person1 k2 X1
  simp only [List.map_cons, List.map_nil] at c0
  have bn : (([112, 101, 114, 115, 111, 110] : Str) == [110, 97, 109, 101]) = false := by decide
  have qn : (([112, 101, 114, 115, 111, 110] : Str) = [110, 97, 109, 101]) = False := by decide
  clear hW
  generalize Lib.join [k2] [32] = J at *
  generalize [112, 101, 114, 115, 111, 110] ++ 32 :: J = T at *
  refine Does.of_AW (n := 77) Tryz.func43 rfl rfl rfl fun cx hcx => ?_
  repeat' (first | ((first | refine AW.sreg rfl fun K hK => ?_ | refine run_call _ _ _ ((c1).pure rfl rfl _ _) rfl rfl (dstOk_of rfl) rfl rfl rfl ?_ | refine run_call _ _ _ ((c0).pure rfl rfl _ _) rfl rfl (dstOk_of rfl) rfl rfl rfl ?_ | refine run_call _ _ _ ((c2).robjs [0, 1, 2, 3, 4] ⟨(by first | rfl | (simp [go_sem]; done) | (simp [go_sem]; rfl)), (by first | rfl | (simp [go_sem]; done) | (simp [go_sem]; rfl)), (by first | rfl | (simp [go_sem]; done) | (simp [go_sem]; rfl)), (by first | rfl | (simp [go_sem]; done) | (simp [go_sem]; rfl)), (by first | rfl | (simp [go_sem]; done) | (simp [go_sem]; rfl)), trivial⟩ rfl (by decide) (by simp) (by simp) (by simp [go_sem]) (by simp [go_sem]) (by simp [go_sem]) (by simp [go_sem])) rfl rfl (dstOk_of rfl) rfl rfl rfl ?_); simp only [go_sem, ↓reduceIte, bn, qn, Nat.reduceSub, Nat.add_zero, Nat.reduceAdd]) | (refine AW.seq_k fun K hK => ?_) | (refine AW.skip ?_; simp only [Then, InBlock]) | (refine AW.cF ?_) | (refine hK _ ?_; clear hK K))
  exact AW.ret (Fin.objsD [0, 1, 2, 3, 4, 1984, 1985, 1986, 1987, 1988] rfl (by simp [go_sem, gI]) ⟨Or.inr ⟨_, rfl, by simp [go_sem, gI]⟩, Or.inr ⟨_, rfl, by simp [go_sem, gI]⟩, Or.inl rfl, Or.inr ⟨_, rfl, by simp [go_sem, gI]⟩, Or.inr ⟨_, rfl, by simp [go_sem, gI]⟩, Or.inr ⟨_, rfl, by simp [go_sem, gI]⟩, Or.inr ⟨_, rfl, by simp [go_sem, gI]⟩, Or.inr ⟨_, rfl, by simp [go_sem, gI]⟩, Or.inr ⟨_, rfl, by simp [go_sem, gI]⟩, Or.inr ⟨_, rfl, by simp [go_sem, gI]⟩, trivial⟩ (by simp) rfl (by simp [go_sem]) (by simp [go_sem]))
theorem line_place (p : Pl) (hd : p.2 ≠ [45]) (X1 : List D) (hx : X1.length ≤ 100000) (hW : W1 [p.1, dashS p.2]) :
    Does Tryz.prog 43 [.ptr 0 0, S ([112, 108, 97, 99, 101] ++ 32 :: Lib.join [p.1, dashS p.2] [32])] (rdP 0 X1) (B true)
      [RdB (.slr 5 0 (X1.length + 1)) (.slr 2 0 0) (.slr 3 0 0) (.slr 4 0 0) 0, .dead, .vec 50 5 [], oWk [], oBo [], oPl (X1 ++ [plD p])] := by
  have c0 := words_ln _ hW
  have c1 := cut_ln [112, 108, 97, 99, 101] (by decide) (by decide) _ hW
  have c2 := words_place p hd X1 hx
  simp only [List.map_cons, List.map_nil] at c0
  have bn : (([112, 108, 97, 99, 101] : Str) == [110, 97, 109, 101]) = false := by decide
  have qn : (([112, 108, 97, 99, 101] : Str) = [110, 97, 109, 101]) = False := by decide
  clear hW
  generalize Lib.join [p.1, dashS p.2] [32] = J at *
  generalize [112, 108, 97, 99, 101] ++ 32 :: J = T at *
  refine Does.of_AW (n := 77) Tryz.func43 rfl rfl rfl fun cx hcx => ?_
  repeat' (first | ((first | refine AW.sreg rfl fun K hK => ?_ | refine run_call _ _ _ ((c1).pure rfl rfl _ _) rfl rfl (dstOk_of rfl) rfl rfl rfl ?_ | refine run_call _ _ _ ((c0).pure rfl rfl _ _) rfl rfl (dstOk_of rfl) rfl rfl rfl ?_ | refine run_call _ _ _ ((c2).robjs [0, 1, 2, 3, 4] ⟨(by first | rfl | (simp [go_sem]; done) | (simp [go_sem]; rfl)), (by first | rfl | (simp [go_sem]; done) | (simp [go_sem]; rfl)), (by first | rfl | (simp [go_sem]; done) | (simp [go_sem]; rfl)), (by first | rfl | (simp [go_sem]; done) | (simp [go_sem]; rfl)), (by first | rfl | (simp [go_sem]; done) | (simp [go_sem]; rfl)), trivial⟩ rfl (by decide) (by simp) (by simp) (by simp [go_sem]) (by simp [go_sem]) (by simp [go_sem]) (by simp [go_sem])) rfl rfl (dstOk_of rfl) rfl rfl rfl ?_); simp only [go_sem, ↓reduceIte, bn, qn, Nat.reduceSub, Nat.add_zero, Nat.reduceAdd]) | (refine AW.seq_k fun K hK => ?_) | (refine AW.skip ?_; simp only [Then, InBlock]) | (refine AW.cF ?_) | (refine hK _ ?_; clear hK K))
  exact AW.ret (Fin.objsD [0, 1, 2, 3, 4, 1984] rfl (by simp [go_sem, gI]) ⟨Or.inr ⟨_, rfl, by simp [go_sem, gI]⟩, Or.inl rfl, Or.inr ⟨_, rfl, by simp [go_sem, gI]⟩, Or.inr ⟨_, rfl, by simp [go_sem, gI]⟩, Or.inr ⟨_, rfl, by simp [go_sem, gI]⟩, Or.inr ⟨_, rfl, by simp [go_sem, gI]⟩, trivial⟩ (by simp) rfl (by simp [go_sem]) (by simp [go_sem]))
theorem line_name (n : Nm) (hd : n.2 ∈ DY) (hn : n.1 ≠ []) (hnl : n.1.length ≤ 10000) (key : Str) (rk : Int) (X1 X2 X3 X4 X5 X6 X7 X8 : List D) (h2 : X2.length ≤ 100000) (hx : X5.length ≤ 100000) (h3 : 1 ≤ rk) (h4 : rk ≤ 2) :
    Does Tryz.prog 43 [.ptr 0 0, S ([110, 97, 109, 101] ++ 32 :: (Lib.itoa n.2 ++ 32 :: n.1))] (rdO key rk X1 X2 X3 X4 X5 X6 X7 X8) (B true)
      [RdB (.slr 1 0 X1.length) (.slr 2 0 (X2.length + 1)) (.slr 3 0 X3.length) (.slr 4 0 X4.length) 2, oPl X1, oPe X2 key (.slr 9 0 (X5.length + 1)) (.slr 6 0 X6.length) (.slr 7 0 X7.length) (.slr 8 0 X8.length), oWk X3, oBo X4, .dead, oHm X6, oSt X7, oSt X8, oNm (X5 ++ [nmD n])] := by
  obtain ⟨d1, d2, d3, d4, d5⟩ := dy_plain hd
  have c0 := cut_any (Lib.itoa n.2) n.1 d3 (by simp only [List.length_append, List.length_cons]; omega)
  have c1 := cut_any [110, 97, 109, 101] (Lib.itoa n.2 ++ 32 :: n.1) (by decide) (by simp only [List.length_append, List.length_cons, List.length_nil]; omega)
  have c2 := small_dy n.2 hd
  have c3 := enterR key rk 2 X1 X2 X3 X4 X5 X6 X7 X8 (by omega) (by omega) h3 h4
  have c4 := last_any key 2 X1 X2 X3 X4 X5 X6 X7 X8 h2
  obtain ⟨nm, d⟩ := n
  simp only at *
  have bn : (nm == []) = false := by simpa using hn
  have qn : (nm = []) = False := by simpa using hn
  have qq : (([110, 97, 109, 101] : Str) == [110, 97, 109, 101]) = true := by decide
  generalize Lib.itoa d ++ 32 :: nm = J at *
  generalize [110, 97, 109, 101] ++ 32 :: J = T at *
  generalize Lib.itoa d = U at *
  refine Does.of_AW (n := 77) Tryz.func43 rfl rfl rfl fun cx hcx => ?_
  repeat' (first | ((first | refine AW.sreg rfl fun K hK => ?_ | refine run_call _ _ _ ((c1).pure rfl rfl _ _) rfl rfl (dstOk_of rfl) rfl rfl rfl ?_ | refine run_call _ _ _ ((c0).pure rfl rfl _ _) rfl rfl (dstOk_of rfl) rfl rfl rfl ?_ | refine run_call _ _ _ ((c2).pure rfl rfl _ _) rfl rfl (dstOk_of rfl) rfl rfl rfl ?_ | refine run_call _ _ _ ((c3).robjs [0, 1, 2, 3, 4, 5, 6, 7, 8] ⟨(by first | rfl | (simp [go_sem]; done) | (simp [go_sem]; rfl)), (by first | rfl | (simp [go_sem]; done) | (simp [go_sem]; rfl)), (by first | rfl | (simp [go_sem]; done) | (simp [go_sem]; rfl)), (by first | rfl | (simp [go_sem]; done) | (simp [go_sem]; rfl)), (by first | rfl | (simp [go_sem]; done) | (simp [go_sem]; rfl)), (by first | rfl | (simp [go_sem]; done) | (simp [go_sem]; rfl)), (by first | rfl | (simp [go_sem]; done) | (simp [go_sem]; rfl)), (by first | rfl | (simp [go_sem]; done) | (simp [go_sem]; rfl)), (by first | rfl | (simp [go_sem]; done) | (simp [go_sem]; rfl)), trivial⟩ rfl (by decide) (by simp) (by simp) (by simp [go_sem]) (by simp [go_sem]) (by simp [go_sem]) (by simp [go_sem])) rfl rfl (dstOk_of rfl) rfl rfl rfl ?_ | refine run_call _ _ _ ((c4).robjs [0, 1, 2, 3, 4, 5, 6, 7, 8] ⟨(by first | rfl | (simp [go_sem]; done) | (simp [go_sem]; rfl)), (by first | rfl | (simp [go_sem]; done) | (simp [go_sem]; rfl)), (by first | rfl | (simp [go_sem]; done) | (simp [go_sem]; rfl)), (by first | rfl | (simp [go_sem]; done) | (simp [go_sem]; rfl)), (by first | rfl | (simp [go_sem]; done) | (simp [go_sem]; rfl)), (by first | rfl | (simp [go_sem]; done) | (simp [go_sem]; rfl)), (by first | rfl | (simp [go_sem]; done) | (simp [go_sem]; rfl)), (by first | rfl | (simp [go_sem]; done) | (simp [go_sem]; rfl)), (by first | rfl | (simp [go_sem]; done) | (simp [go_sem]; rfl)), trivial⟩ rfl (by decide) (by simp) (by simp) (by simp [go_sem]) (by simp [go_sem]) (by simp [go_sem]) (by simp [go_sem])) rfl rfl (dstOk_of rfl) rfl rfl rfl ?_); simp only [go_sem, ↓reduceIte, bn, qn, qq, Nat.reduceSub, Nat.add_zero, Nat.reduceAdd, get_snoc, set_snoc, List.length_append, dv_length, List.length_cons, List.length_nil, Nat.zero_add, Int.toNat_natCast]) | (refine AW.seq_k fun K hK => ?_) | (refine AW.skip ?_; simp only [Then, InBlock]) | (refine AW.cT ?_) | (refine AW.cF ?_) | (refine hK _ ?_; clear hK K) | (with_reducible refine andI ?_))
  exact AW.ret (Fin.objsD [0, 1, 2, 3, 4, 5, 6, 7, 8, 4160] rfl (by simp [go_sem, gI]) ⟨Or.inr ⟨_, rfl, by simp [go_sem, gI]⟩, Or.inr ⟨_, rfl, by simp [go_sem, gI]⟩, Or.inr ⟨_, rfl, by simp [go_sem, gI]⟩, Or.inr ⟨_, rfl, by simp [go_sem, gI]⟩, Or.inr ⟨_, rfl, by simp [go_sem, gI]⟩, Or.inl rfl, Or.inr ⟨_, rfl, by simp [go_sem, gI]⟩, Or.inr ⟨_, rfl, by simp [go_sem, gI]⟩, Or.inr ⟨_, rfl, by simp [go_sem, gI]⟩, Or.inr ⟨_, rfl, by simp only [dv_snoc]; simp [go_sem, gI]⟩, trivial⟩ (by simp) rfl (by simp [go_sem]) (by simp [go_sem]))
end Go.AX
