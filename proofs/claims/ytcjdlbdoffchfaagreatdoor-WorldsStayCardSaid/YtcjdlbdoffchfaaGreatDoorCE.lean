/- Two persons that are made one: the plain law. -/
import Derived.Test.YtcjdlbdoffchfaaGreatDoorCB
import Derived.Test.YtcjdlbdoffchfaaGreatDoorCD
import Derived.Test.YtcjdlbdoffchfaaGreatDoorCC
import Derived.Test.YtcjdlbdoffchfaaGreatDoorCA
import Derived.Test.YtcjdlbdoffchfaaGreatDoorSk
import Derived.Lib.SplitLaws
import Derived.Lib.IndexBytes
import Derived.Lib.AppendIntMem
import Derived.Test.YtcjdlbdoffchfaaGreatDoorAx45
set_option linter.unusedSimpArgs false
set_option linter.unusedVariables false
set_option linter.unnecessarySimpa false
set_option maxRecDepth 100000
set_option maxRecDepth 1000000
set_option maxHeartbeats 4000000
namespace Go.AX
open Go Go.Proofs Go.RowKit
section
variable (into fr : Str)
end
end Go.AX

namespace Go.AX
open Go Go.Proofs Go.RowKit
end Go.AX

namespace Go.AX
open Go Go.Proofs Go.RowKit
theorem frz_agg5 {hv : Nat → Option O} {keep : Nat → Bool} {a b c d e : V} {v w x y z : D} (h1 : frz hv keep a = .d v) (h2 : frz hv keep b = .d w) (h3 : frz hv keep c = .d x) (h4 : frz hv keep d = .d y) (h5 : frz hv keep e = .d z) : frz hv keep (.agg [a, b, c, d, e]) = .d (.agg [v, w, x, y, z]) := by
  simp only [frz, frzL, h1, h2, h3, h4, h5]
  rfl
end Go.AX

namespace Go.AX
open Go Go.Proofs Go.RowKit
theorem splitK_one (c : UInt8) : ∀ (k : Nat) (s : List UInt8), s.count c = k → Lib.splitK [c] 0 k s = splitB c s
  | 0, s, h => by
    have hc : c ∉ s := by rw [← List.count_eq_zero]; exact h
    rw [splitB_none c s hc]; rfl
  | k + 1, s, h => by
    obtain ⟨m, h1, h2, h3, h4⟩ := splitB_index c s (by omega)
    have hi : Lib.index s [c] = m := by rw [Lib.index_one, h1]
    have hm : ¬ (Lib.index s [c] == -1) = true := fun e => by have := beq_iff_eq.1 e; omega
    unfold Lib.splitK
    rw [if_neg hm, hi, h3]
    simp only [Int.toNat_natCast, Nat.add_zero, List.length_cons, List.length_nil, Nat.zero_add]
    rw [splitK_one c k (s.drop (m + 1)) (by omega)]
theorem split_one (s : List UInt8) (c : UInt8) : Lib.split s [c] = splitB c s := by
  rw [Lib.split, Lib.count_one]
  exact splitK_one c _ s rfl
theorem split_any (s : Str) (c : UInt8) (h : s.length ≤ 1000000) : Does Tryz.prog 89 [S s, S [c]] [] (.d (.sl ((splitB c s).map D.str))) [] := split_one s c ▸ split_does s c h
/-- A text of which every line is ended. -/
theorem lines_any (s : Str) (h : s.length ≤ 1000000) (ls : List Str) (hs : splitB 10 s = ls ++ [[]]) (hl : ls.length ≤ 1000000) : Does Tryz.prog 42 [S s] [] (.tup [.d (.sl (ls.map D.str)), B true]) [] := by
  have hsp := split_any s 10 h
  rw [hs, List.map_append] at hsp
  have hget : (ls.map D.str ++ [D.str []])[ls.length]? = some (D.str []) := by
    rw [List.getElem?_append_right (by simp)]; simp
  refine Does.of_AW (n := 19) Tryz.func42 rfl rfl rfl fun cx hcx => ?_
  have hn : ((ls.length + 1 : Nat) : Int) - 1 = (ls.length : Int) := by omega
  have htk : (ls.map D.str ++ [D.str []]).take ls.length = ls.map D.str := List.take_left' (by simp)
  have hall : (ls.map D.str ++ [D.str []]).all (elemOkD 1) = true := by simp [elemOkD, D.cells, D.single]
  repeat' (first | ((first | refine AW.sreg rfl fun K hK => ?_ | refine run_call _ _ _ ((hsp).pure rfl rfl _ _) rfl rfl (dstOk_of rfl) rfl rfl rfl ?_); simp only [go_sem, ↓reduceIte, List.length_map, List.length_append, hn, Int.toNat_natCast, hget, htk, hall, Nat.sub_zero, and_true]) | (refine AW.seq_k fun K hK => ?_) | (refine AW.cT ?_) | (refine hK _ ?_; clear hK K) | (with_reducible refine andI ?_))
  all_goals first | exact AW.ret (Fin.data rfl (by simp [go_sem]) rfl) | trace_state
theorem words_any (s : Str) (h : s.length ≤ 1000000) (ws : List Str) (hs : splitB 32 s = ws) (hne : ∀ x ∈ ws, x ≠ []) (hl : ws.length ≤ 1000) : Does Tryz.prog 112 [S s] [] (.tup [.d (.sl (ws.map .str)), B true]) [] := by
  have hsp := split_any s 32 h
  rw [hs] at hsp
  have hc := contains_St ws (by omega) []
  rw [show (ws.any fun x => [] == x) = false by
    rw [Bool.eq_false_iff]
    intro h
    obtain ⟨x, hx, he⟩ := List.any_eq_true.1 h
    exact hne x hx (by simpa using he : [] = x).symm] at hc
  refine Does.of_AW (n := 11) Tryz.func112 rfl rfl rfl fun cx hcx => ?_
  repeat' (first | ((first | refine AW.sreg rfl fun K hK => ?_ | refine run_call _ _ _ ((hsp).pure rfl rfl _ _) rfl rfl (dstOk_of rfl) rfl rfl rfl ?_ | refine run_call _ _ _ ((hc).pure rfl rfl _ _) rfl rfl (dstOk_of rfl) rfl rfl rfl ?_); simp only [go_sem, ↓reduceIte]) | (refine hK _ ?_; clear hK K))
  exact AW.ret (Fin.data rfl (by simp [go_sem]) rfl)
theorem indexByte_app (c : UInt8) : ∀ a b : Str, c ∉ a → Lib.indexByte (a ++ c :: b) c = a.length
  | [], b, _ => by simp [Lib.indexByte]
  | x :: a, b, h => by
    have h1 : x ≠ c := fun e => h (by simp [e])
    have h2 : c ∉ a := fun e => h (by simp [e])
    simp only [List.cons_append, Lib.indexByte]
    rw [if_neg (by simpa using h1), indexByte_app c a b h2, if_neg (by simp)]
    simp
theorem cut_any (a b : Str) (h : (32 : UInt8) ∉ a) (hl : (a ++ 32 :: b).length ≤ 1000000) : Does Tryz.prog 108 [S (a ++ 32 :: b), S [32]] [] (.tup [S a, S b, B true]) [] := by
  have hi : Does Tryz.prog 240 [S (a ++ 32 :: b), S [32]] [] (I a.length) [] := by
    refine index_does _ _ _ ?_
    have hlt : Nat.blt (a ++ 32 :: b).length 4294967281 = true := by
      rw [Nat.blt_eq]; omega
    simp only [idxF, hlt]
    rw [Lib.index_one, indexByte_app 32 a b h]
  have hc : Does Tryz.prog 186 [S (a ++ 32 :: b), S [32]] [] (.tup [S a, S b, B true]) [] := by
    have e1 : (a ++ 32 :: b).take a.length = a := by simp
    have e2 : (a ++ 32 :: b).drop (a.length + 1) = b := by simp
    have hn : ((a.length : Int) + ((1 : Nat) : Int)).toNat = a.length + 1 := by omega
    have e3 : b.take (a.length + b.length + 1 - (a.length + 1)) = b := List.take_of_length_le (by omega)
    have hll : (a ++ 32 :: b).length = a.length + b.length + 1 := by simp; omega
    generalize a ++ 32 :: b = t at *
    refine Does.of_AW (n := 23) Tryz.func186 rfl rfl rfl fun cx hcx => ?_
    repeat' (first | ((first | refine AW.sreg rfl fun K hK => ?_ | refine AW.sregD hmix rfl fun K hK => ?_ | refine run_call _ _ _ ((hi).pure rfl rfl _ _) rfl rfl (dstOk_of rfl) rfl rfl rfl ?_); simp only [go_sem, ↓reduceIte, hll, hn, Int.toNat_natCast, e1, e2, List.length_cons, List.length_nil]) | (refine AW.seq_k fun K hK => ?_) | (refine AW.cT ?_) | (refine hK _ ?_; clear hK K) | (with_reducible refine And.intro (?_ : regOk _ _ = true) ?_; kernel_rfl) | (with_reducible refine andI ?_))
    exact AW.ret (Fin.data rfl (by simp only [go_sem, hn, e1, e2, e3, Nat.sub_zero, Nat.reduceEqDiff, ↓reduceIte, Option.getD_some]) rfl)
  generalize a ++ 32 :: b = t at *
  refine Does.of_AW (n := 13) Tryz.func108 rfl rfl rfl fun cx hcx => ?_
  repeat' (first | ((first | refine AW.sreg rfl fun K hK => ?_ | refine run_call _ _ _ ((hc).pure rfl rfl _ _) rfl rfl (dstOk_of rfl) rfl rfl rfl ?_); simp only [go_sem, ↓reduceIte]) | (refine hK _ ?_; clear hK K))
  exact AW.ret (Fin.data rfl (by simp [go_sem]) rfl)
theorem itoa_dy (n : Int) (h0 : 0 ≤ n) (h1 : n ≤ 100000) : Does Tryz.prog 39 [I n] [] (S (Lib.itoa n)) [] := by
  refine Does.of_int1 (y := .string ⟨(Lib.itoa n).toArray⟩) ⟨Tryz.f39, Tryz.func39, rfl, by kernel_rfl⟩ (fun w ok => by simp [RV, RD]) fun w hg => ?_
  have ht := hg.tab (g := 1) (by kernel_rfl) (by kernel_rfl)
  rw [show pow10Z = Lib.pow10Tab by kernel_rfl] at ht
  refine (Any.strconv_Itoa Tryz.l171 n (by omega) (by omega) w ht).mono fun e w' ⟨h1, k, os, h2⟩ => ⟨h1, ?_⟩
  rw [h2]
  exact Lib.below_grow _ _ (Nat.le_refl _) _ _
theorem small_all : (DY.all fun n => evalsTo Tryz.prog (CS Tryz.prog) 109 [S (Lib.itoa n)] (.tup [I n, B true])) = true := by kernel_rfl
theorem small_dy : ∀ n ∈ DY, Does Tryz.prog 109 [S (Lib.itoa n)] [] (.tup [I n, B true]) [] := fun n hn => evalsTo_ok CS_ok hmix (List.all_eq_true.1 small_all n hn)
theorem dy_all : (DY.all fun n => decide (0 ≤ n) && (decide (n ≤ 4000) && (!(Lib.itoa n == []) && (!((Lib.itoa n).contains 32) && (!((Lib.itoa n).contains 10) && decide ((Lib.itoa n).length ≤ 4)))))) = true := by kernel_rfl
theorem dy_plain {n : Int} (h : n ∈ DY) : (0 ≤ n ∧ n ≤ 4000) ∧ Lib.itoa n ≠ [] ∧ (32 : UInt8) ∉ Lib.itoa n ∧ (10 : UInt8) ∉ Lib.itoa n ∧ (Lib.itoa n).length ≤ 4 := by
  have := List.all_eq_true.1 dy_all n h
  simp only [Bool.and_eq_true, decide_eq_true_eq, Bool.not_eq_true', beq_eq_false_iff_ne, ne_eq, List.contains_eq_mem, decide_eq_false_iff_not] at this
  exact ⟨⟨this.1, this.2.1⟩, this.2.2⟩
theorem numbers2 (a b : Int) (ha : a ∈ DY) (hb : b ∈ DY) : Does Tryz.prog 188 [.d (.sl [.str (Lib.itoa a), .str (Lib.itoa b)])] [] (.tup [.d (.sl [.int .i64 a, .int .i64 b]), B true]) [] := by
  have c1 := small_dy a ha
  have c2 := small_dy b hb
  generalize Lib.itoa a = sa at *
  generalize Lib.itoa b = sb at *
  refine Does.of_AW (n := 28) Tryz.func188 rfl rfl rfl fun cx hcx => ?_
  repeat' (first | ((first | refine AW.sreg rfl fun K hK => ?_ | refine AW.reg rfl ?_ | refine run_call _ _ _ ((c1).pure rfl rfl _ _) rfl rfl (dstOk_of rfl) rfl rfl rfl ?_ | refine run_call _ _ _ ((c2).pure rfl rfl _ _) rfl rfl (dstOk_of rfl) rfl rfl rfl ?_); simp only [go_sem, ↓reduceIte, Int.zero_add, Int.reduceAdd]) | (refine AW.seq_k fun K hK => ?_) | (refine AW.block ?_) | (refine AW.skip ?_; simp only [Then, InBlock]) | (refine AW.exit ?_; simp only [go_sem, ↓reduceIte]) | (refine AW.cT ?_) | (refine AW.cF ?_) | (refine hK _ ?_; clear hK K) | (clear hK K; refine hK _ ?_; clear hK K) | (refine AW.unroll 3 ?_; simp only [AWr]) | (with_reducible refine andI ?_))
  exact AW.ret (Fin.data rfl (by simp [go_sem]) rfl)
end Go.AX

namespace Go.AX
open Go Go.Proofs Go.RowKit
def finOD (hv : Nat → Option O) (g : Nat → Nat) : List Nat → List O → Prop
  | [], [] => True
  | j :: js, o :: os => (o = .dead ∨ ∃ o', hv j = some o' ∧ o'.frz hv (fun _ => true) = o.ren g) ∧ finOD hv g js os
  | _, _ => False
theorem finOD_get {hv : Nat → Option O} {g : Nat → Nat} : ∀ {js : List Nat} {os : List O} {i : Nat} {o : O}, finOD hv g js os → os[i]? = some o → o ≠ .dead → ∃ j, js[i]? = some j ∧ ∃ o', hv j = some o' ∧ o'.frz hv (fun _ => true) = o.ren g
  | [], [], _, _, _, h, _ => by simp at h
  | [], _ :: _, _, _, h, _, _ => h.elim
  | _ :: _, [], _, _, h, _, _ => h.elim
  | j :: js, o :: os, i, q, h, hq, hd => by
    cases i with
    | zero => simp at hq; subst hq; exact ⟨j, rfl, h.1.resolve_left hd⟩
    | succ i =>
      obtain ⟨j', h1, h2⟩ := finOD_get h.2 (i := i) (by simpa using hq) hd
      exact ⟨j', by simpa using h1, h2⟩
theorem finOD_len {hv : Nat → Option O} {g : Nat → Nat} : ∀ {js : List Nat} {os : List O}, finOD hv g js os → js.length = os.length
  | [], [], _ => rfl
  | [], _ :: _, h => h.elim
  | _ :: _, [], h => h.elim
  | _ :: js, _ :: os, h => by simp [finOD_len h.2]
/-- The end of a function of which some objects are gone. -/
theorem Fin.objsD (ids : List Nat) {P : Program} {fn : Func} {k : Nat} {st : St} {x : V} {os : List O} {l : List V} (hl : resL P st.hv st.ev fn.results.toList = some l) (hx : frz st.hv (fun _ => true) (resV l) = x.ren (gI ids))
    (ho : finOD st.hv (gI ids) ids os) (hnd : ids.Nodup) (hk : ids.take k = List.range k) (hb : x.bel os.length = true) (hbo : os.all (O.bel os.length) = true) : Fin P fn k x os st := by
  have hlen := finOD_len ho
  have hkl : k ≤ ids.length := by
    have := congrArg List.length hk
    simp only [List.length_take, List.length_range] at this
    omega
  have hgi : ∀ i, i < k → gI ids i = i := by
    intro i hi
    have e : (ids.take k)[i]? = some i := by rw [hk]; simp [hi]
    rw [List.getElem?_take] at e
    simp only [hi, if_true] at e
    simp [gI, e]
  refine ⟨gI ids, fun _ => true, l, hl, hx, ?_, .inr fun _ => rfl, ?_, hgi, by omega, hb, hbo⟩
  · intro i q hq
    obtain ⟨hq, hd⟩ := hvL_get hq
    obtain ⟨j, hj, h2⟩ := finOD_get ho hq hd
    have e : gI ids i = j := by simp [gI, hj]
    rw [e]
    exact ⟨rfl, h2⟩
  · intro i j hi hj e
    have hi' : i < ids.length := by omega
    have hj' : j < ids.length := by omega
    simp only [gI, List.getElem?_eq_getElem hi', List.getElem?_eq_getElem hj'] at e
    exact (List.getElem_inj hnd).1 e
theorem dv_app (xs ys : List D) : dv xs ++ dv ys = dv (xs ++ ys) := by simp [dv]
abbrev BU (p b : V) : O := .box 84 [p, b]
abbrev BY (s : Str) : O := .vec 5 1 (dv (bytesD s))
theorem bytesD_length (s : Str) : (bytesD s).length = s.length := by simp [bytesD]
theorem noEsc_ext (id j : Nat) (hv : Nat → Option O) (n : Nat) : CallStep Tryz.prog hv n 235 [.ptr id j] (.ptr id j) [] :=
  extT_ok _ _ hv n _ _ [] (by kernel_rfl) hv (fun _ h => by cases h)
theorem copy1 (n : Nat) (bs : Str) : Does Tryz.prog 184 [.ptr 0 0] [BU (.ptr 0 0) (.slr 1 0 n), BY bs] (.tup []) [BU (.ptr 0 0) (.slr 1 0 n), BY bs] := by
  refine Does.of_AW (n := 20) Tryz.func184 rfl rfl rfl fun cx hcx => ?_
  repeat' (first | (refine AW.sreg rfl fun K hK => ?_; simp only [go_sem, ↓reduceIte]) | (refine AW.cF ?_) | (refine hK _ ?_; clear hK K))
  refine AW.skip ?_
  exact Fin.objs [0, 1] rfl (by simp [go_sem, inI, gI]) ⟨⟨_, rfl, by simp [go_sem, inI, gI]⟩, ⟨_, rfl, by simp [go_sem, inI, gI]⟩, trivial⟩ (by simp) rfl (by simp [go_sem]) (by simp [go_sem]) rfl
theorem ws1 (s bs : Str) (h : s.length ≤ 1000000) (h2 : bs.length ≤ 1000000) : Does Tryz.prog 105 [.ptr 0 0, S s] [BU (.ptr 0 0) (.slr 1 0 bs.length), BY bs] (.tup [I s.length, .d .nili]) [BU (.ptr 0 0) (.slr 2 0 (bs.length + s.length)), .dead, BY (bs ++ s)] := by
  refine Does.of_AW (n := 19) Tryz.func105 rfl rfl rfl fun cx hcx => ?_
  repeat' (first | ((first | refine AW.sreg rfl fun K hK => ?_ | refine run_call _ _ _ ((copy1 bs.length bs).robjs [0, 1] ⟨(by first | rfl | (simp [go_sem]; done) | (simp [go_sem]; rfl)), (by first | rfl | (simp [go_sem]; done) | (simp [go_sem]; rfl)), trivial⟩ rfl (by decide) (by simp) (by simp) (by simp [go_sem]) (by simp [go_sem]) (by simp [go_sem]) (by simp [go_sem])) rfl rfl (dstOk_of rfl) rfl rfl rfl ?_); simp only [go_sem, ↓reduceIte, bytesD_length, dv_length, List.length_map]) | (refine hK _ ?_; clear hK K) | (with_reducible refine andI ?_))
  exact AW.ret (Fin.objsD [0, 1, 768] rfl (by simp [go_sem, gI]) ⟨Or.inr ⟨_, rfl, by simp [go_sem, gI]⟩, Or.inl rfl, Or.inr ⟨_, rfl, by simp only [List.map_append, bytesD, dv_app]; simp [go_sem, gI]⟩, trivial⟩ (by simp) rfl (by simp [go_sem]) (by simp [go_sem]))
theorem copyF : Does Tryz.prog 184 [.ptr 0 0] [BU (.d .nilp) (.slr 1 0 0), BY []] (.tup []) [BU (.ptr 0 0) (.slr 1 0 0), BY []] := by
  refine Does.of_AW (n := 20) Tryz.func184 rfl rfl rfl fun cx hcx => ?_
  repeat' (first | ((first | refine AW.sreg rfl fun K hK => ?_ | refine AW.reg rfl ?_); simp only [go_sem, ↓reduceIte]) | (refine AW.cT ?_) | (refine hK _ ?_; clear hK K))
  simp only [go_sem, ↓reduceIte, ne_eq, not_false_eq_true]
  repeat' (first | (refine run_call _ _ _ (noEsc_ext 0 0 _ _) rfl rfl (dstOk_of rfl) rfl rfl rfl ?_; simp only [go_sem, ↓reduceIte]))
  have hl : liesAt Tryz.prog Tryz.prog.depth 84 (2 / Tryz.prog.cellsOf 84) 0 82 1 = true := by kernel_rfl
  simp only [go_sem, ↓reduceIte, hl]
  repeat' (first | fail)
  exact Fin.objs [0, 1] rfl (by simp [go_sem, inI, gI]) ⟨⟨_, rfl, by simp [go_sem, inI, gI]⟩, ⟨_, rfl, by simp [go_sem, inI, gI]⟩, trivial⟩ (by simp) rfl (by simp [go_sem]) (by simp [go_sem]) rfl
theorem wsF (s : Str) (h : s.length ≤ 1000000) : Does Tryz.prog 105 [.ptr 0 0, S s] [BU (.d .nilp) (.slr 1 0 0), BY []] (.tup [I s.length, .d .nili]) [BU (.ptr 0 0) (.slr 2 0 s.length), .dead, BY s] := by
  refine Does.of_AW (n := 19) Tryz.func105 rfl rfl rfl fun cx hcx => ?_
  repeat' (first | ((first | refine AW.sreg rfl fun K hK => ?_ | refine run_call _ _ _ ((copyF).robjs [0, 1] ⟨(by first | rfl | (simp [go_sem]; done) | (simp [go_sem]; rfl)), (by first | rfl | (simp [go_sem]; done) | (simp [go_sem]; rfl)), trivial⟩ rfl (by decide) (by simp) (by simp) (by simp [go_sem]) (by simp [go_sem]) (by simp [go_sem]) (by simp [go_sem])) rfl rfl (dstOk_of rfl) rfl rfl rfl ?_); simp only [go_sem, ↓reduceIte, bytesD_length, dv_length, List.length_map, Nat.zero_add]) | (refine hK _ ?_; clear hK K) | (with_reducible refine andI ?_))
  exact AW.ret (Fin.objsD [0, 1, 768] rfl (by simp [go_sem, gI]) ⟨Or.inr ⟨_, rfl, by simp [go_sem, gI]⟩, Or.inl rfl, Or.inr ⟨_, rfl, by simp [go_sem, gI]⟩, trivial⟩ (by simp) rfl (by simp [go_sem]) (by simp [go_sem]))
theorem len0 : Does Tryz.prog 40 [.ptr 0 0] [BU (.d .nilp) .nils] (I 0) [BU (.d .nilp) .nils] := by
  refine Does.of_AW (n := 8) Tryz.func40 rfl rfl rfl fun cx hcx => ?_
  repeat' (first | (refine AW.sreg rfl fun K hK => ?_; simp only [go_sem, ↓reduceIte]) | (refine hK _ ?_; clear hK K))
  exact AW.ret (Fin.objs [0] rfl (by simp [go_sem, inI, gI]) ⟨⟨_, rfl, by simp [go_sem, inI, gI]⟩, trivial⟩ (by simp) rfl (by simp [go_sem]) (by simp [go_sem]) rfl)
theorem len1 (n : Nat) (bs : Str) : Does Tryz.prog 40 [.ptr 0 0] [BU (.ptr 0 0) (.slr 1 0 n), BY bs] (I n) [BU (.ptr 0 0) (.slr 1 0 n), BY bs] := by
  refine Does.of_AW (n := 8) Tryz.func40 rfl rfl rfl fun cx hcx => ?_
  repeat' (first | (refine AW.sreg rfl fun K hK => ?_; simp only [go_sem, ↓reduceIte]) | (refine hK _ ?_; clear hK K))
  exact AW.ret (Fin.objs [0, 1] rfl (by simp [go_sem, inI, gI]) ⟨⟨_, rfl, by simp [go_sem, inI, gI]⟩, ⟨_, rfl, by simp [go_sem, inI, gI]⟩, trivial⟩ (by simp) rfl (by simp [go_sem]) (by simp [go_sem]) rfl)
theorem str0 : Does Tryz.prog 41 [.ptr 0 0] [BU (.d .nilp) .nils] (S []) [BU (.d .nilp) .nils] := by
  refine Does.of_AW (n := 14) Tryz.func41 rfl rfl rfl fun cx hcx => ?_
  repeat' (first | ((first | refine AW.sreg rfl fun K hK => ?_ | refine AW.sregD hmix rfl fun K hK => ?_); simp only [go_sem, ↓reduceIte]) | (refine hK _ ?_; clear hK K) | (with_reducible refine And.intro (?_ : regOk _ _ = true) ?_; kernel_rfl))
  exact AW.ret (Fin.objs [0] rfl (by simp [go_sem, inI, gI]) ⟨⟨_, rfl, by simp [go_sem, inI, gI]⟩, trivial⟩ (by simp) rfl (by simp [go_sem]) (by simp [go_sem]) rfl)
theorem strOfR_bytes : ∀ s : Str, strOfR (dv (bytesD s)) = some s
  | [] => rfl
  | b :: s => by
    have := strOfR_bytes s
    have hb : b.toNat < 256 := UInt8.toNat_lt b
    simp only [bytesD, dv, List.map_cons] at this ⊢
    simp only [strOfR, this]
    rw [if_pos ⟨by omega, by omega⟩]
    simp
theorem str1 (bs : Str) (h0 : 0 < bs.length) (h : bs.length ≤ 1000000) : Does Tryz.prog 41 [.ptr 0 0] [BU (.ptr 0 0) (.slr 1 0 bs.length), BY bs] (S bs) [BU (.ptr 0 0) (.slr 1 0 bs.length), .dead] := by
  refine Does.of_AW (n := 14) Tryz.func41 rfl rfl rfl fun cx hcx => ?_
  have h1 := strOfR_bytes bs
  have h2 : (dv (bytesD bs)).take bs.length = dv (bytesD bs) := List.take_of_length_le (by simp [dv, bytesD])
  simp only [bytesD] at h1 h2
  have h3 : (0 : Int) < (bs.length : Int) := by omega
  have h4 : (bs.length : Int) ≤ 281474976710656 := by omega
  have h5 : Tryz.prog.cellsOf 5 = 1 := by kernel_rfl
  repeat' (first | ((first | refine AW.sreg rfl fun K hK => ?_ | refine AW.sregD hmix rfl fun K hK => ?_); simp only [go_sem, ↓reduceIte, h5, h0, h3, h4, and_self, and_true, true_and, Int.toNat_natCast, h1, h2, dv_length, List.length_map]) | (refine hK _ ?_; clear hK K) | (with_reducible refine And.intro (?_ : regOk _ _ = true) ?_; kernel_rfl) | (with_reducible refine andI ?_))
  exact AW.ret (Fin.objsD [0, 1] rfl (by simp [go_sem, gI]) ⟨Or.inr ⟨_, rfl, by simp [go_sem, gI]⟩, Or.inl rfl, trivial⟩ (by simp) rfl (by simp [go_sem]) (by simp [go_sem]))
theorem dv_snoc (xs : List D) (x : D) : dv xs ++ [V.d x] = dv (xs ++ [x]) := by simp [dv]
theorem wb1 (c : UInt8) (bs : Str) (h2 : bs.length ≤ 2000000) : Does Tryz.prog 106 [.ptr 0 0, .d (.int .u8 c.toNat)] [BU (.ptr 0 0) (.slr 1 0 bs.length), BY bs] (.d .nili) [BU (.ptr 0 0) (.slr 2 0 (bs.length + 1)), .dead, BY (bs ++ [c])] := by
  refine Does.of_AW (n := 17) Tryz.func106 rfl rfl rfl fun cx hcx => ?_
  repeat' (first | ((first | refine AW.sreg rfl fun K hK => ?_ | refine run_call _ _ _ ((copy1 bs.length bs).robjs [0, 1] ⟨(by first | rfl | (simp [go_sem]; done) | (simp [go_sem]; rfl)), (by first | rfl | (simp [go_sem]; done) | (simp [go_sem]; rfl)), trivial⟩ rfl (by decide) (by simp) (by simp) (by simp [go_sem]) (by simp [go_sem]) (by simp [go_sem]) (by simp [go_sem])) rfl rfl (dstOk_of rfl) rfl rfl rfl ?_); simp only [go_sem, ↓reduceIte, bytesD_length, dv_length, List.length_map]) | (refine hK _ ?_; clear hK K) | (with_reducible refine andI ?_))
  exact AW.ret (Fin.objsD [0, 1, 768] rfl (by simp [go_sem, gI]) ⟨Or.inr ⟨_, rfl, by simp [go_sem, gI]⟩, Or.inl rfl, Or.inr ⟨_, rfl, by simp only [dv_snoc, bytesD, List.map_append, List.map_cons, List.map_nil]; simp [go_sem, gI]⟩, trivial⟩ (by simp) rfl (by simp [go_sem]) (by simp [go_sem]))
abbrev WV (ws : List Str) : O := .vec 9 1 (dv (ws.map D.str))
def lnS (ws : List Str) : Str := Lib.join ws [32] ++ [10]
theorem line1 (ws : List Str) (U : Str) (hu : U.length ≤ 1000000) (h0 : 0 < ws.length) (hl : ws.length ≤ 1000) (hj : (Lib.join ws [32]).length ≤ 100000) :
    Does Tryz.prog 36 [.ptr 0 0, .slr 2 0 ws.length] [BU (.ptr 0 0) (.slr 1 0 U.length), BY U, WV ws] (.tup []) [BU (.ptr 0 0) (.slr 3 0 (U ++ lnS ws).length), .dead, WV ws, BY (U ++ lnS ws)] := by
  have h1 := join_any ws h0 hl (by omega)
  have h2 := ws1 (Lib.join ws [32]) U (by omega) (by omega)
  have h3 := wb1 10 (U ++ Lib.join ws [32]) (by simp only [List.length_append]; omega)
  have hT : U ++ Lib.join ws [32] ++ [10] = U ++ lnS ws := by simp [lnS]
  have hlen : (U ++ Lib.join ws [32]).length + 1 = (U ++ lnS ws).length := by simp [lnS]; omega
  rw [hT, hlen] at h3
  rw [show U.length + (Lib.join ws [32]).length = (U ++ Lib.join ws [32]).length by simp] at h2
  generalize U ++ Lib.join ws [32] = J at *
  generalize U ++ lnS ws = T at *
  refine Does.of_AW (n := 14) Tryz.func36 rfl rfl rfl fun cx hcx => ?_
  repeat' (first | ((first | refine AW.sregD hmix rfl fun K hK => ?_ | refine AW.reg rfl ?_ | refine runT_call _ _ [2] (fun hv hag => (h1).lend (by repeat' (first | exact frzL_nil | refine frzL_cons (by first | exact frz_d | exact frz_slr rfl ((hag 2 (by simp)).trans rfl) (by first | (simp; done) | (simp; omega) | (simp [*]; done) | fail) | rfl) ?_)) rfl rfl rfl) rfl rfl (dstOk_of rfl) rfl rfl ?_ | refine runT_call _ _ [0, 1] (fun hv hag => (h2).robjs [0, 1] ⟨((hag 0 (by simp)).trans (by first | rfl | (simp [go_sem]; done) | (simp [go_sem]; rfl))), ((hag 1 (by simp)).trans (by first | rfl | (simp [go_sem]; done) | (simp [go_sem]; rfl))), trivial⟩ rfl (by decide) (by simp) (by simp) (by simp [go_sem]) (by simp [go_sem]) (by simp [go_sem]) (by simp [go_sem])) rfl rfl (dstOk_of rfl) rfl rfl ?_ | refine run_call _ _ _ ((h3).robjs [0, 512] ⟨(by first | rfl | (simp [go_sem]; done) | (simp [go_sem]; rfl)), (by first | rfl | (simp [go_sem]; done) | (simp [go_sem]; rfl)), trivial⟩ rfl (by decide) (by simp) (by simp) (by simp [go_sem]) (by simp [go_sem]) (by simp [go_sem]) (by simp [go_sem])) rfl rfl (dstOk_of rfl) rfl rfl rfl ?_); simp only [go_sem, ↓reduceIte, Nat.reduceSub, Nat.add_zero]) | (refine hK _ ?_; clear hK K) | (with_reducible refine And.intro (?_ : regOk _ _ = true) ?_; kernel_rfl))
  exact (Fin.objsD [0, 1, 2, 768] rfl (by simp [go_sem, gI]) ⟨Or.inr ⟨_, rfl, by simp [go_sem, gI]⟩, Or.inl rfl, Or.inr ⟨_, rfl, by simp [go_sem, gI]⟩, Or.inr ⟨_, rfl, by simp [go_sem, gI]⟩, trivial⟩ (by simp) rfl (by simp [go_sem]) (by simp [go_sem]))
theorem lineF (ws : List Str) (h0 : 0 < ws.length) (hl : ws.length ≤ 1000) (hj : (Lib.join ws [32]).length ≤ 100000) :
    Does Tryz.prog 36 [.ptr 0 0, .slr 2 0 ws.length] [BU (.d .nilp) (.slr 1 0 0), BY [], WV ws] (.tup []) [BU (.ptr 0 0) (.slr 3 0 (lnS ws).length), .dead, WV ws, BY (lnS ws)] := by
  have h1 := join_any ws h0 hl (by omega)
  have hlen : (lnS ws).length = (Lib.join ws [32]).length + 1 := by simp [lnS]
  have hT : lnS ws = Lib.join ws [32] ++ [10] := rfl
  have h2 := wsF (Lib.join ws [32]) (by omega)
  have h3 := wb1 10 (Lib.join ws [32]) (by omega)
  rw [← hT, ← hlen] at h3
  generalize Lib.join ws [32] = J at *
  generalize lnS ws = T at *
  refine Does.of_AW (n := 14) Tryz.func36 rfl rfl rfl fun cx hcx => ?_
  repeat' (first | ((first | refine AW.sregD hmix rfl fun K hK => ?_ | refine AW.reg rfl ?_ | refine runT_call _ _ [2] (fun hv hag => (h1).lend (by repeat' (first | exact frzL_nil | refine frzL_cons (by first | exact frz_d | exact frz_slr rfl ((hag 2 (by simp)).trans rfl) (by first | (simp; done) | (simp; omega) | (simp [*]; done) | fail) | rfl) ?_)) rfl rfl rfl) rfl rfl (dstOk_of rfl) rfl rfl ?_ | refine runT_call _ _ [0, 1] (fun hv hag => (h2).robjs [0, 1] ⟨((hag 0 (by simp)).trans (by first | rfl | (simp [go_sem]; done) | (simp [go_sem]; rfl))), ((hag 1 (by simp)).trans (by first | rfl | (simp [go_sem]; done) | (simp [go_sem]; rfl))), trivial⟩ rfl (by decide) (by simp) (by simp) (by simp [go_sem]) (by simp [go_sem]) (by simp [go_sem]) (by simp [go_sem])) rfl rfl (dstOk_of rfl) rfl rfl ?_ | refine run_call _ _ _ ((h3).robjs [0, 512] ⟨(by first | rfl | (simp [go_sem]; done) | (simp [go_sem]; rfl)), (by first | rfl | (simp [go_sem]; done) | (simp [go_sem]; rfl)), trivial⟩ rfl (by decide) (by simp) (by simp) (by simp [go_sem]) (by simp [go_sem]) (by simp [go_sem]) (by simp [go_sem])) rfl rfl (dstOk_of rfl) rfl rfl rfl ?_); simp only [go_sem, ↓reduceIte, Nat.reduceSub, Nat.add_zero]) | (refine hK _ ?_; clear hK K) | (with_reducible refine And.intro (?_ : regOk _ _ = true) ?_; kernel_rfl))
  exact (Fin.objsD [0, 1, 2, 768] rfl (by simp [go_sem, gI]) ⟨Or.inr ⟨_, rfl, by simp [go_sem, gI]⟩, Or.inl rfl, Or.inr ⟨_, rfl, by simp [go_sem, gI]⟩, Or.inr ⟨_, rfl, by simp [go_sem, gI]⟩, trivial⟩ (by simp) rfl (by simp [go_sem]) (by simp [go_sem]))
end Go.AX

namespace Go.AX
open Go Go.Proofs Go.RowKit
abbrev wPe (p : Pe) : List Str := [[112, 101, 114, 115, 111, 110], p.key]
abbrev wNm (n : Nm) : List Str := [[110, 97, 109, 101], Lib.itoa n.2, n.1]
abbrev wHm (h : Hm) : List Str := [[104, 111, 109, 101], h.1, Lib.itoa h.2.1, Lib.itoa h.2.2]
abbrev wMl (m : Str) : List Str := [[109, 97, 105, 108], m]
abbrev wAd (a : Str) : List Str := [[97, 100, 118, 105, 115, 101, 114], a]
/-- Words of a line are few and short. -/
def LW (ws : List Str) : Prop := 0 < ws.length ∧ ws.length ≤ 1000 ∧ (Lib.join ws [32]).length ≤ 1000
def txB {α : Type} (w : α → List Str) (xs : List α) : Str := xs.flatMap fun x => lnS (w x)
theorem txB_take {α : Type} (w : α → List Str) {xs : List α} {i : Nat} {x : α} (hx : xs[i]? = some x) : txB w (xs.take (i + 1)) = txB w (xs.take i) ++ lnS (w x) := by
  unfold txB
  rw [List.take_add_one, hx]
  simp
theorem lnS_len {ws : List Str} (h : LW ws) : (lnS ws).length ≤ 1001 := by
  have := h.2.2
  simp only [lnS, List.length_append, List.length_cons, List.length_nil]
  omega
theorem txB_len {α : Type} {w : α → List Str} : ∀ {xs : List α}, (∀ x ∈ xs, LW (w x)) → (txB w xs).length ≤ 1001 * xs.length
  | [], _ => by simp [txB]
  | x :: xs, h => by
    have h1 := lnS_len (h x (by simp))
    have h2 := txB_len (xs := xs) fun y hy => h y (by simp [hy])
    simp only [txB, List.flatMap_cons, List.length_append, List.length_cons] at h2 ⊢
    omega
theorem txB_lenT {α : Type} {w : α → List Str} {xs : List α} (h : ∀ x ∈ xs, LW (w x)) (i : Nat) : (txB w (xs.take i)).length ≤ 1001 * xs.length := by
  have h1 := txB_len (xs := xs.take i) fun x hx => h x (List.mem_of_mem_take hx)
  rw [List.length_take] at h1
  omega
structure PeW (p : Pe) : Prop where
  key : LW (wPe p)
  nm : ∀ x ∈ p.names, LW (wNm x) ∧ 0 ≤ x.2 ∧ x.2 ≤ 100000
  hm : ∀ x ∈ p.homes, LW (wHm x) ∧ (0 ≤ x.2.1 ∧ x.2.1 ≤ 100000) ∧ 0 ≤ x.2.2 ∧ x.2.2 ≤ 100000
  ml : ∀ x ∈ p.mails, LW (wMl x)
  ad : ∀ x ∈ p.advs, LW (wAd x)
  sm : SmP p
/-- The text of a person. -/
def txP (p : Pe) : Str := lnS (wPe p) ++ (txB wNm p.names ++ (txB wHm p.homes ++ (txB wMl p.mails ++ txB wAd p.advs)))
abbrev PB (p : Pe) : O := .box 50 [S p.key, .d (.sl (p.names.map nmD)), .d (.sl (p.homes.map hmD)), .d (.sl (p.mails.map D.str)), .d (.sl (p.advs.map D.str))]
abbrev BS (v : Nat) (U : Str) : O := BU (.ptr 0 0) (.slr v 0 U.length)
theorem personT {cx : Cx} (hcx : CxOk cx 2) (p : Pe) (hp : PeW p) (T : Str) (hT : T.length ≤ 200000) (R : Str) (hR : R = T ++ (txB wNm p.names ++ (txB wHm p.homes ++ (txB wMl p.mails ++ txB wAd p.advs)))) :
    AW Tryz.prog cx (RWb Tryz.f38 2) (RetQ Tryz.prog Tryz.f38 2 (.tup []) [BU (.ptr 0 0) (.slr 2 0 R.length), .dead, BY R]) ⟨76, [(0, .ptr 0 0), (3, .ptr 128 0)], [(0, some (BS 192 T)), (128, some (PB p)), (192, some (BY T))], 60⟩ := by
  obtain ⟨s1, s2, s3, s4⟩ := hp.sm
  have l1 := txB_len (w := wNm) fun x hx => (hp.nm x hx).1
  have l2 := txB_len (w := wHm) fun x hx => (hp.hm x hx).1
  have l3 := txB_len (w := wMl) hp.ml
  have l4 := txB_len (w := wAd) hp.ad
  have hnm := hp.nm
  have hhm := hp.hm
  have hml := hp.ml
  have had := hp.ad
  clear hp
  obtain ⟨key, ns, hs, ms, ads⟩ := p
  simp only at *
  repeat' (first | (refine AW.sreg rfl fun K hK => ?_; simp only [go_sem, ↓reduceIte, List.length_map]) | (refine AW.seq_k fun K hK => ?_) | (refine AW.block ?_) | (refine hK _ ?_; clear hK K))
  refine AW.loopF (ι := Nat) [0, 3, 18, 19] (fun p => [(20, I p)]) (fun p => [(0, some (BS 192 (T ++ txB wNm (ns.take p)))), (128, some (PB ⟨key, ns, hs, ms, ads⟩)), (192, some (BY (T ++ txB wNm (ns.take p))))]) 100 (fun p => p ≤ ns.length) (fun p => ns.length - p) 0 (Nat.zero_le _) (Weak.fgt hcx [(128, 128), (192, 192)] (by refine ⟨?_, ?_, ?_⟩ <;> simp [go_sem, gL, List.map_append, dv_push, txB])) ?_; simp only [St.at_nil, St.at_cons, lk, Nat.reduceEqDiff, ↓reduceIte, Option.getD_some, Option.getD_none, List.cons_append, List.nil_append, List.append_nil]
  intro i h1
  have hle := txB_lenT (w := wNm) (fun x hx => (hnm x hx).1) i
  by_cases hi : i < ns.length
  · obtain ⟨x, hx, hxm, hxd⟩ := get_some hi
    have hget : (ns.map nmD)[i]? = some (nmD x) := by simp [hx]
    have htk := txB_take wNm hx
    have i1 := itoa_dy x.2 (hnm x hxm).2.1 (hnm x hxm).2.2
    obtain ⟨w1, w2, w3⟩ := (hnm x hxm).1
    have hln := line1 (wNm x) (T ++ txB wNm (ns.take i)) (by simp only [List.length_append] at *; omega) w1 w2 (by omega)
    have hR2 : (T ++ txB wNm (ns.take i)) ++ lnS (wNm x) = T ++ txB wNm (ns.take (i + 1)) := by rw [htk, List.append_assoc]
    rw [hR2] at hln
    generalize hA : T ++ txB wNm (ns.take i) = A at *
    generalize hB : T ++ txB wNm (ns.take (i + 1)) = B at *
    repeat' (first | ((first | refine AW.sreg rfl fun K hK => ?_ | refine AW.reg rfl ?_ | refine AW.regD hmix rfl ?_ | refine runT_call _ _ [] (fun hv _ => (i1).pure rfl rfl hv _) rfl rfl (dstOk_of rfl) rfl rfl ?_ | refine runT_call _ _ [0, 192, 7104] (fun hv hag => (hln).robjs [0, 192, 7104] ⟨((hag 0 (by simp)).trans (by first | rfl | (simp [go_sem]; done) | (simp [go_sem]; rfl))), ((hag 192 (by simp)).trans (by first | rfl | (simp [go_sem]; done) | (simp [go_sem]; rfl))), ((hag 7104 (by simp)).trans (by first | rfl | (simp [go_sem]; done) | (simp [go_sem]; rfl))), trivial⟩ rfl (by decide) (by simp) (by simp) (by simp [go_sem]) (by simp [go_sem]) (by simp [go_sem]) (by simp [go_sem])) rfl rfl (dstOk_of rfl) rfl rfl ?_); simp only [go_sem, ↓reduceIte, List.length_map, hget, Nat.reduceSub, Nat.add_zero]) | (refine AW.seq_k fun K hK => ?_) | (refine AW.block ?_) | (refine AW.skip ?_; simp only [Then, InBlock]) | (refine AW.cT ?_) | (refine hK _ ?_; clear hK K) | (with_reducible refine And.intro (?_ : regOk _ _ = true) ?_; kernel_rfl) | (with_reducible refine andI ?_))
    refine ⟨i + 1, hi, by omega, ?_⟩
    simp only [hB]
    exact (Weak.fgt hcx [(128, 128), (192, 7168)] (by refine ⟨?_, ?_, ?_⟩ <;> simp [go_sem, gL, List.map_append, dv_push]))
  obtain rfl : i = ns.length := by omega
  rw [List.take_length]
  obtain ⟨T1, hT1⟩ : ∃ U, T ++ txB wNm ns = U := ⟨_, rfl⟩
  have hl1 : T1.length ≤ T.length + 1001 * ns.length := by rw [← hT1]; simp only [List.length_append]; omega
  rw [hT1]
  clear hle h1 hi
  repeat' (first | (refine AW.sreg rfl fun K hK => ?_; simp only [go_sem, ↓reduceIte, List.length_map]) | (refine AW.seq_k fun K hK => ?_) | (refine AW.block ?_) | (refine AW.exit ?_; simp only [go_sem, ↓reduceIte]) | (refine AW.cF ?_) | (refine hK _ ?_; clear hK K) | (clear hK K; refine hK _ ?_; clear hK K))
  refine AW.loopF (ι := Nat) [0, 3, 34, 35] (fun p => [(36, I p)]) (fun p => [(0, some (BS 192 (T1 ++ txB wHm (hs.take p)))), (128, some (PB ⟨key, ns, hs, ms, ads⟩)), (192, some (BY (T1 ++ txB wHm (hs.take p))))]) 200 (fun p => p ≤ hs.length) (fun p => hs.length - p) 0 (Nat.zero_le _) (Weak.fgt hcx [(128, 128), (192, 192)] (by refine ⟨?_, ?_, ?_⟩ <;> simp [go_sem, gL, List.map_append, dv_push, txB])) ?_; simp only [St.at_nil, St.at_cons, lk, Nat.reduceEqDiff, ↓reduceIte, Option.getD_some, Option.getD_none, List.cons_append, List.nil_append, List.append_nil]
  intro i h1
  have hle := txB_lenT (w := wHm) (fun x hx => (hhm x hx).1) i
  by_cases hi : i < hs.length
  · obtain ⟨x, hx, hxm, hxd⟩ := get_some hi
    have hget : (hs.map hmD)[i]? = some (hmD x) := by simp [hx]
    have htk := txB_take wHm hx
    have i1 := itoa_dy x.2.1 (hhm x hxm).2.1.1 (hhm x hxm).2.1.2
    have i2 := itoa_dy x.2.2 (hhm x hxm).2.2.1 (hhm x hxm).2.2.2
    obtain ⟨w1, w2, w3⟩ := (hhm x hxm).1
    have hln := line1 (wHm x) (T1 ++ txB wHm (hs.take i)) (by simp only [List.length_append] at *; omega) w1 w2 (by omega)
    have hR2 : (T1 ++ txB wHm (hs.take i)) ++ lnS (wHm x) = T1 ++ txB wHm (hs.take (i + 1)) := by rw [htk, List.append_assoc]
    rw [hR2] at hln
    generalize hA : T1 ++ txB wHm (hs.take i) = A at *
    generalize hB : T1 ++ txB wHm (hs.take (i + 1)) = B at *
    repeat' (first | ((first | refine AW.sreg rfl fun K hK => ?_ | refine AW.reg rfl ?_ | refine AW.regD hmix rfl ?_ | refine runT_call _ _ [] (fun hv _ => (i1).pure rfl rfl hv _) rfl rfl (dstOk_of rfl) rfl rfl ?_ | refine runT_call _ _ [] (fun hv _ => (i2).pure rfl rfl hv _) rfl rfl (dstOk_of rfl) rfl rfl ?_ | refine runT_call _ _ [0, 192, 13696] (fun hv hag => (hln).robjs [0, 192, 13696] ⟨((hag 0 (by simp)).trans (by first | rfl | (simp [go_sem]; done) | (simp [go_sem]; rfl))), ((hag 192 (by simp)).trans (by first | rfl | (simp [go_sem]; done) | (simp [go_sem]; rfl))), ((hag 13696 (by simp)).trans (by first | rfl | (simp [go_sem]; done) | (simp [go_sem]; rfl))), trivial⟩ rfl (by decide) (by simp) (by simp) (by simp [go_sem]) (by simp [go_sem]) (by simp [go_sem]) (by simp [go_sem])) rfl rfl (dstOk_of rfl) rfl rfl ?_); simp only [go_sem, ↓reduceIte, List.length_map, hget, Nat.reduceSub, Nat.add_zero]) | (refine AW.seq_k fun K hK => ?_) | (refine AW.block ?_) | (refine AW.skip ?_; simp only [Then, InBlock]) | (refine AW.cT ?_) | (refine hK _ ?_; clear hK K) | (with_reducible refine And.intro (?_ : regOk _ _ = true) ?_; kernel_rfl) | (with_reducible refine andI ?_))
    refine ⟨i + 1, hi, by omega, ?_⟩
    simp only [hB]
    exact (Weak.fgt hcx [(128, 128), (192, 13760)] (by refine ⟨?_, ?_, ?_⟩ <;> simp [go_sem, gL, List.map_append, dv_push]))
  obtain rfl : i = hs.length := by omega
  rw [List.take_length]
  obtain ⟨T2, hT2⟩ : ∃ U, T1 ++ txB wHm hs = U := ⟨_, rfl⟩
  have hl2 : T2.length ≤ T1.length + 1001 * hs.length := by rw [← hT2]; simp only [List.length_append]; omega
  rw [hT2]
  clear hle h1 hi
  repeat' (first | (refine AW.sreg rfl fun K hK => ?_; simp only [go_sem, ↓reduceIte, List.length_map]) | (refine AW.seq_k fun K hK => ?_) | (refine AW.block ?_) | (refine AW.exit ?_; simp only [go_sem, ↓reduceIte]) | (refine AW.cF ?_) | (refine hK _ ?_; clear hK K) | (clear hK K; refine hK _ ?_; clear hK K))
  refine AW.loopF (ι := Nat) [0, 3, 53, 54] (fun p => [(55, I p)]) (fun p => [(0, some (BS 192 (T2 ++ txB wMl (ms.take p)))), (128, some (PB ⟨key, ns, hs, ms, ads⟩)), (192, some (BY (T2 ++ txB wMl (ms.take p))))]) 300 (fun p => p ≤ ms.length) (fun p => ms.length - p) 0 (Nat.zero_le _) (Weak.fgt hcx [(128, 128), (192, 192)] (by refine ⟨?_, ?_, ?_⟩ <;> simp [go_sem, gL, List.map_append, dv_push, txB])) ?_; simp only [St.at_nil, St.at_cons, lk, Nat.reduceEqDiff, ↓reduceIte, Option.getD_some, Option.getD_none, List.cons_append, List.nil_append, List.append_nil]
  intro i h1
  have hle := txB_lenT (w := wMl) hml i
  by_cases hi : i < ms.length
  · obtain ⟨x, hx, hxm, hxd⟩ := get_some hi
    have hget : (ms.map D.str)[i]? = some (D.str x) := by simp [hx]
    have htk := txB_take wMl hx
    obtain ⟨w1, w2, w3⟩ := hml x hxm
    have hln := line1 (wMl x) (T2 ++ txB wMl (ms.take i)) (by simp only [List.length_append] at *; omega) w1 w2 (by omega)
    have hR2 : (T2 ++ txB wMl (ms.take i)) ++ lnS (wMl x) = T2 ++ txB wMl (ms.take (i + 1)) := by rw [htk, List.append_assoc]
    rw [hR2] at hln
    generalize hA : T2 ++ txB wMl (ms.take i) = A at *
    generalize hB : T2 ++ txB wMl (ms.take (i + 1)) = B at *
    repeat' (first | ((first | refine AW.sreg rfl fun K hK => ?_ | refine AW.reg rfl ?_ | refine run_call _ _ _ ((hln).robjs [0, 192, 19584] ⟨(by first | rfl | (simp [go_sem]; done) | (simp [go_sem]; rfl)), (by first | rfl | (simp [go_sem]; done) | (simp [go_sem]; rfl)), (by first | rfl | (simp [go_sem]; done) | (simp [go_sem]; rfl)), trivial⟩ rfl (by decide) (by simp) (by simp) (by simp [go_sem]) (by simp [go_sem]) (by simp [go_sem]) (by simp [go_sem])) rfl rfl (dstOk_of rfl) rfl rfl rfl ?_); simp only [go_sem, ↓reduceIte, List.length_map, hget, Nat.reduceSub, Nat.add_zero]) | (refine AW.seq_k fun K hK => ?_) | (refine AW.block ?_) | (refine AW.skip ?_; simp only [Then, InBlock]) | (refine AW.cT ?_) | (refine hK _ ?_; clear hK K) | (with_reducible refine andI ?_))
    refine ⟨i + 1, hi, by omega, ?_⟩
    simp only [hB]
    exact (Weak.fgt hcx [(128, 128), (192, 19648)] (by refine ⟨?_, ?_, ?_⟩ <;> simp [go_sem, gL, List.map_append, dv_push]))
  obtain rfl : i = ms.length := by omega
  rw [List.take_length]
  obtain ⟨T3, hT3⟩ : ∃ U, T2 ++ txB wMl ms = U := ⟨_, rfl⟩
  have hl3 : T3.length ≤ T2.length + 1001 * ms.length := by rw [← hT3]; simp only [List.length_append]; omega
  rw [hT3]
  clear hle h1 hi
  repeat' (first | (refine AW.sreg rfl fun K hK => ?_; simp only [go_sem, ↓reduceIte, List.length_map]) | (refine AW.seq_k fun K hK => ?_) | (refine AW.block ?_) | (refine AW.exit ?_; simp only [go_sem, ↓reduceIte]) | (refine AW.cF ?_) | (refine hK _ ?_; clear hK K) | (clear hK K; refine hK _ ?_; clear hK K))
  refine AW.loopF (ι := Nat) [0, 65, 66] (fun p => [(67, I p)]) (fun p => [(0, some (BS 192 (T3 ++ txB wAd (ads.take p)))), (128, some (PB ⟨key, ns, hs, ms, ads⟩)), (192, some (BY (T3 ++ txB wAd (ads.take p))))]) 400 (fun p => p ≤ ads.length) (fun p => ads.length - p) 0 (Nat.zero_le _) (Weak.fgt hcx [(128, 128), (192, 192)] (by refine ⟨?_, ?_, ?_⟩ <;> simp [go_sem, gL, List.map_append, dv_push, txB])) ?_; simp only [St.at_nil, St.at_cons, lk, Nat.reduceEqDiff, ↓reduceIte, Option.getD_some, Option.getD_none, List.cons_append, List.nil_append, List.append_nil]
  intro i h1
  have hle := txB_lenT (w := wAd) had i
  by_cases hi : i < ads.length
  · obtain ⟨x, hx, hxm, hxd⟩ := get_some hi
    have hget : (ads.map D.str)[i]? = some (D.str x) := by simp [hx]
    have htk := txB_take wAd hx
    obtain ⟨w1, w2, w3⟩ := had x hxm
    have hln := line1 (wAd x) (T3 ++ txB wAd (ads.take i)) (by simp only [List.length_append] at *; omega) w1 w2 (by omega)
    have hR2 : (T3 ++ txB wAd (ads.take i)) ++ lnS (wAd x) = T3 ++ txB wAd (ads.take (i + 1)) := by rw [htk, List.append_assoc]
    rw [hR2] at hln
    generalize hA : T3 ++ txB wAd (ads.take i) = A at *
    generalize hB : T3 ++ txB wAd (ads.take (i + 1)) = B at *
    repeat' (first | ((first | refine AW.sreg rfl fun K hK => ?_ | refine AW.reg rfl ?_ | refine run_call _ _ _ ((hln).robjs [0, 192, 25984] ⟨(by first | rfl | (simp [go_sem]; done) | (simp [go_sem]; rfl)), (by first | rfl | (simp [go_sem]; done) | (simp [go_sem]; rfl)), (by first | rfl | (simp [go_sem]; done) | (simp [go_sem]; rfl)), trivial⟩ rfl (by decide) (by simp) (by simp) (by simp [go_sem]) (by simp [go_sem]) (by simp [go_sem]) (by simp [go_sem])) rfl rfl (dstOk_of rfl) rfl rfl rfl ?_); simp only [go_sem, ↓reduceIte, List.length_map, hget, Nat.reduceSub, Nat.add_zero]) | (refine AW.seq_k fun K hK => ?_) | (refine AW.block ?_) | (refine AW.skip ?_; simp only [Then, InBlock]) | (refine AW.cT ?_) | (refine hK _ ?_; clear hK K) | (with_reducible refine andI ?_))
    refine ⟨i + 1, hi, by omega, ?_⟩
    simp only [hB]
    exact (Weak.fgt hcx [(128, 128), (192, 26048)] (by refine ⟨?_, ?_, ?_⟩ <;> simp [go_sem, gL, List.map_append, dv_push]))
  obtain rfl : i = ads.length := by omega
  rw [List.take_length]
  obtain ⟨T4, hT4⟩ : ∃ U, T3 ++ txB wAd ads = U := ⟨_, rfl⟩
  have hl4 : T4.length ≤ T3.length + 1001 * ads.length := by rw [← hT4]; simp only [List.length_append]; omega
  rw [hT4]
  clear hle h1 hi
  repeat' (first | (refine AW.sreg rfl fun K hK => ?_; simp only [go_sem, ↓reduceIte, List.length_map]) | (refine AW.seq_k fun K hK => ?_) | (refine AW.exit ?_; simp only [go_sem, ↓reduceIte]) | (refine AW.cF ?_) | (refine hK _ ?_; clear hK K))
  obtain rfl : R = T4 := by rw [hR, ← hT4, ← hT3, ← hT2, ← hT1]; simp only [List.append_assoc]
  exact (Fin.objsD [0, 1, 192] rfl (by simp [go_sem, gI]) ⟨Or.inr ⟨_, rfl, by simp [go_sem, gI]⟩, Or.inl rfl, Or.inr ⟨_, rfl, by simp [go_sem, gI]⟩, trivial⟩ (by simp) rfl (by simp [go_sem]) (by simp [go_sem]))
theorem person_any (p : Pe) (hp : PeW p) (U : Str) (hu : U.length ≤ 190000) : Does Tryz.prog 38 [.ptr 0 0, .d (peD p)] [BS 1 U, BY U] (.tup []) [BU (.ptr 0 0) (.slr 2 0 (U ++ txP p).length), .dead, BY (U ++ txP p)] := by
  have h1 := hp.key
  have hln := line1 (wPe p) U (by omega) h1.1 h1.2.1 (by have := h1.2.2; omega)
  have hl := lnS_len h1
  have hT : (U ++ lnS (wPe p)).length ≤ 200000 := by simp only [List.length_append]; omega
  have ht := fun cx hcx => personT (cx := cx) hcx p hp (U ++ lnS (wPe p)) hT (U ++ txP p) (by simp [txP])
  generalize U ++ lnS (wPe p) = A at *
  refine Does.of_AW (n := 76) Tryz.func38 rfl rfl rfl fun cx hcx => ?_
  refine AW.sreg rfl fun K hK => ?_; simp only [go_sem, ↓reduceIte]
  refine hK _ ?_; (try clear hK K)
  refine AW.seq_k fun K9 hK9 => ?_
  repeat' (first | ((first | refine AW.reg rfl ?_ | refine run_call _ _ _ ((hln).robjs [0, 1, 384] ⟨(by first | rfl | (simp [go_sem]; done) | (simp [go_sem]; rfl)), (by first | rfl | (simp [go_sem]; done) | (simp [go_sem]; rfl)), (by first | rfl | (simp [go_sem]; done) | (simp [go_sem]; rfl)), trivial⟩ rfl (by decide) (by simp) (by simp) (by simp [go_sem]) (by simp [go_sem]) (by simp [go_sem]) (by simp [go_sem])) rfl rfl (dstOk_of rfl) rfl rfl rfl ?_); simp only [go_sem, ↓reduceIte, Nat.reduceSub, Nat.add_zero]))
  refine hK9 _ (AW.weak ?_ (ht cx hcx))
  exact (Weak.fgt hcx [(128, 128), (192, 448)] (by refine ⟨?_, ?_, ?_⟩ <;> simp [go_sem, gL, List.map_append, dv_push]))
theorem person_new (p : Pe) (hp : PeW p) : Does Tryz.prog 38 [.ptr 0 0, .d (peD p)] [BU (.d .nilp) (.slr 1 0 0), BY []] (.tup []) [BU (.ptr 0 0) (.slr 2 0 (txP p).length), .dead, BY (txP p)] := by
  have h1 := hp.key
  have hln := lineF (wPe p) h1.1 h1.2.1 (by have := h1.2.2; omega)
  have hl := lnS_len h1
  have ht := fun cx hcx => personT (cx := cx) hcx p hp (lnS (wPe p)) (by omega) (txP p) (by simp [txP])
  generalize lnS (wPe p) = A at *
  refine Does.of_AW (n := 76) Tryz.func38 rfl rfl rfl fun cx hcx => ?_
  refine AW.sreg rfl fun K hK => ?_; simp only [go_sem, ↓reduceIte]
  refine hK _ ?_; (try clear hK K)
  refine AW.seq_k fun K9 hK9 => ?_
  repeat' (first | ((first | refine AW.reg rfl ?_ | refine run_call _ _ _ ((hln).robjs [0, 1, 384] ⟨(by first | rfl | (simp [go_sem]; done) | (simp [go_sem]; rfl)), (by first | rfl | (simp [go_sem]; done) | (simp [go_sem]; rfl)), (by first | rfl | (simp [go_sem]; done) | (simp [go_sem]; rfl)), trivial⟩ rfl (by decide) (by simp) (by simp) (by simp [go_sem]) (by simp [go_sem]) (by simp [go_sem]) (by simp [go_sem])) rfl rfl (dstOk_of rfl) rfl rfl rfl ?_); simp only [go_sem, ↓reduceIte, Nat.reduceSub, Nat.add_zero]))
  refine hK9 _ (AW.weak ?_ (ht cx hcx))
  exact (Weak.fgt hcx [(128, 128), (192, 448)] (by refine ⟨?_, ?_, ?_⟩ <;> simp [go_sem, gL, List.map_append, dv_push]))
end Go.AX

namespace Go.AX
open Go Go.Proofs Go.RowKit
def dashS (s : Str) : Str := if s = [] then [45] else s
abbrev wPl (p : Pl) : List Str := [[112, 108, 97, 99, 101], p.1, dashS p.2]
abbrev wWk (x : Wk) : List Str := [119, 111, 114, 107] :: Lib.itoa x.1 :: x.2
abbrev wBo (b : Bo) : List Str := [[98, 111, 110, 100], b.1, b.2]
def txQ (ps : List Pe) : Str := ps.flatMap txP
theorem txQ_take {xs : List Pe} {i : Nat} {x : Pe} (hx : xs[i]? = some x) : txQ (xs.take (i + 1)) = txQ (xs.take i) ++ txP x := by
  unfold txQ
  rw [List.take_add_one, hx]
  simp
theorem txP_len {p : Pe} (hp : PeW p) : (txP p).length ≤ 9009 := by
  obtain ⟨s1, s2, s3, s4⟩ := hp.sm
  have l0 := lnS_len hp.key
  have l1 := txB_len (w := wNm) fun x hx => (hp.nm x hx).1
  have l2 := txB_len (w := wHm) fun x hx => (hp.hm x hx).1
  have l3 := txB_len (w := wMl) hp.ml
  have l4 := txB_len (w := wAd) hp.ad
  simp only [txP, List.length_append]
  omega
theorem txQ_len : ∀ {ps : List Pe}, (∀ p ∈ ps, PeW p) → (txQ ps).length ≤ 9009 * ps.length
  | [], _ => by simp [txQ]
  | p :: ps, h => by
    have h1 := txP_len (h p (by simp))
    have h2 := txQ_len (ps := ps) fun q hq => h q (by simp [hq])
    simp only [txQ, List.flatMap_cons, List.length_append, List.length_cons] at h2 ⊢
    omega
theorem txQ_lenT {ps : List Pe} (h : ∀ p ∈ ps, PeW p) (i : Nat) : (txQ (ps.take i)).length ≤ 9009 * ps.length := by
  have h1 := txQ_len (ps := ps.take i) fun x hx => h x (List.mem_of_mem_take hx)
  rw [List.length_take] at h1
  omega
structure WoW (w : Wo) : Prop where
  pl : ∀ x ∈ w.pls, LW (wPl x)
  pe : ∀ p ∈ w.pes, PeW p
  wk : ∀ x ∈ w.wks, LW (wWk x) ∧ 0 ≤ x.1 ∧ x.1 ≤ 100000
  bo : ∀ x ∈ w.bos, LW (wBo x)
  len : w.pls.length ≤ 7 ∧ w.pes.length ≤ 7 ∧ w.wks.length ≤ 7 ∧ w.bos.length ≤ 7
def txW (w : Wo) : Str := txB wPl w.pls ++ (txQ w.pes ++ (txB wWk w.wks ++ txB wBo w.bos))
theorem dash_any (s : Str) : Does Tryz.prog 37 [S s] [] (S (dashS s)) [] := by
  refine Does.of_AW (n := 6) Tryz.func37 rfl rfl rfl fun cx hcx => ?_
  by_cases h : s = []
  · subst h
    repeat' (first | (refine AW.sreg rfl fun K hK => ?_; simp only [go_sem, ↓reduceIte]) | (refine AW.seq_k fun K hK => ?_) | (refine AW.cT ?_) | (refine hK _ ?_; clear hK K) | (refine AW.ret (Fin.data rfl (by first | (simp only [go_sem]; done) | (simp [go_sem, *]; done) | (simp [go_sem]; omega) | rfl) rfl)))
  · have e0 : (s == []) = false := by simpa using h
    have e1 : dashS s = s := if_neg h
    rw [e1]
    repeat' (first | (refine AW.sreg rfl fun K hK => ?_; simp only [go_sem, ↓reduceIte, e0]) | (refine AW.seq_k fun K hK => ?_) | (refine AW.skip ?_; simp only [Then, InBlock]) | (refine AW.cF ?_) | (refine hK _ ?_; clear hK K) | (refine AW.ret (Fin.data rfl (by first | (simp only [go_sem]; done) | (simp [go_sem, *]; done) | (simp [go_sem]; omega) | rfl) rfl)))
def aW (b : Nat) : Nat → V
  | 0 => .d .nilp
  | _ + 1 => .ptr b 0
theorem aW_bel {b n N : Nat} (h : b < N) : (aW b n).bel N = true := by
  cases n with
  | zero => rfl
  | succ n => simp [aW, V.bel, h]
theorem aW_frz {hv : Nat → Option O} {keep : Nat → Bool} {b n : Nat} (h : keep b = true) : frz hv keep (aW b n) = aW b n := by
  cases n with
  | zero => rfl
  | succ n => simp [aW, frz, h]
theorem aW_ren {g : Nat → Nat} {b n : Nat} : (aW b n).ren g = aW (g b) n := by
  cases n with
  | zero => rfl
  | succ n => rfl
theorem all_ok_S1 (xs : List Str) : (dv (xs.map D.str)).all (elemOk 1) = true := by
  simp only [dv, List.map_map, List.all_map]
  exact List.all_eq_true.2 fun _ _ => rfl
theorem text_ok {w : Wo} (ho : OkW w) (hw : WoW w) (hne : 0 < w.pls.length + w.pes.length) : Does Tryz.prog 9 [.d (woD w)] [] (.tup [S (txW w), I 0]) [] := by
  have hck := check_ok ho
  obtain ⟨n1, n2, n3, n4⟩ := hw.len
  have hpl := hw.pl
  have hpe := hw.pe
  have hwk := hw.wk
  have hbo := hw.bo
  obtain ⟨pls, pes, wks, bos⟩ := w
  simp only at *
  clear ho hw
  refine Does.of_AW (n := 89) Tryz.func9 rfl rfl rfl fun cx hcx => ?_
  repeat' (first | ((first | refine AW.sreg rfl fun K hK => ?_ | refine run_call _ _ _ ((hck).pure rfl rfl _ _) rfl rfl (dstOk_of rfl) rfl rfl rfl ?_); simp only [go_sem, ↓reduceIte, List.length_map]) | (refine AW.seq_k fun K hK => ?_) | (refine AW.block ?_) | (refine AW.skip ?_; simp only [Then, InBlock]) | (refine AW.cF ?_) | (refine hK _ ?_; clear hK K))
  refine AW.weak (Weak.nilB 576 1 84 5 1 rfl rfl) ?_
  simp only [List.set_cons_zero, List.set_cons_succ, Nat.reduceMul, Nat.reduceAdd]
  refine AW.loopF (ι := Nat) [1, 5, 22, 23] (fun p => [(24, I p)]) (fun p => [(0, some (O.box 31 [.d (.sl (pls.map plD)), .d (.sl (pes.map peD)), .d (.sl (wks.map wkD)), .d (.sl (bos.map boD))])), (576, some (BU (aW 576 p) (.slr 960 0 (txB wPl (pls.take p)).length))), (960, some (BY (txB wPl (pls.take p))))]) 100 (fun p => p ≤ pls.length) (fun p => pls.length - p) 0 (Nat.zero_le _) (Weak.oC hcx [(0, 0), (576, 576), (960, 960)] (by refine ⟨?_, ?_, ?_⟩ <;> simp [go_sem, gL, kL, List.map_append, dv_push, aW, txB, bytesD, dv])) ?_; simp only [St.at_nil, St.at_cons, lk, Nat.reduceEqDiff, ↓reduceIte, Option.getD_some, Option.getD_none, List.cons_append, List.nil_append, List.append_nil]
  intro i h1
  have hle := txB_lenT (w := wPl) hpl i
  by_cases hi : i < pls.length
  · obtain ⟨x, hx, hxm, hxd⟩ := get_some hi
    have hget : (pls.map plD)[i]? = some (plD x) := by simp [hx]
    have htk := txB_take wPl hx
    have hda := dash_any x.2
    obtain ⟨w1, w2, w3⟩ := hpl x hxm
    rcases i with _ | i
    · have hln := lineF (wPl x) w1 w2 (by omega)
      have hR2 : lnS (wPl x) = txB wPl (pls.take (0 + 1)) := by rw [htk]; simp [txB]
      rw [hR2] at hln
      have e0 : txB wPl (pls.take 0) = [] := rfl
      simp only [e0, aW, List.length_nil]
      generalize hB : txB wPl (pls.take (0 + 1)) = B at *
      repeat' (first | ((first | refine AW.sreg rfl fun K hK => ?_ | refine AW.reg rfl ?_ | refine AW.regD hmix rfl ?_ | refine runT_call _ _ [] (fun hv _ => (hda).pure rfl rfl hv _) rfl rfl (dstOk_of rfl) rfl rfl ?_ | refine runT_call _ _ [576, 960, 7104] (fun hv hag => (hln).robjs [576, 960, 7104] ⟨((hag 576 (by simp)).trans (by first | rfl | (simp [go_sem]; done) | (simp [go_sem]; rfl))), ((hag 960 (by simp)).trans (by first | rfl | (simp [go_sem]; done) | (simp [go_sem]; rfl))), ((hag 7104 (by simp)).trans (by first | rfl | (simp [go_sem]; done) | (simp [go_sem]; rfl))), trivial⟩ rfl (by decide) (by simp) (by simp) (by simp [go_sem]) (by simp [go_sem]) (by simp [go_sem]) (by simp [go_sem])) rfl rfl (dstOk_of rfl) rfl rfl ?_); simp only [go_sem, ↓reduceIte, List.length_map, hget, Nat.reduceSub, Nat.add_zero]) | (refine AW.seq_k fun K hK => ?_) | (refine AW.block ?_) | (refine AW.skip ?_; simp only [Then, InBlock]) | (refine AW.cT ?_) | (refine hK _ ?_; clear hK K) | (with_reducible refine And.intro (?_ : regOk _ _ = true) ?_; kernel_rfl) | (with_reducible refine andI ?_))
      refine ⟨0 + 1, hi, by omega, ?_⟩
      simp only [hB, aW]
      exact (Weak.oC hcx [(0, 0), (576, 576), (960, 7168)] (by refine ⟨?_, ?_, ?_⟩ <;> simp [go_sem, gL, kL, List.map_append, dv_push]))
    · have hln := line1 (wPl x) (txB wPl (pls.take (i + 1))) (by omega) w1 w2 (by omega)
      rw [← htk] at hln
      simp only [aW]
      generalize hA : txB wPl (pls.take (i + 1)) = A at *
      generalize hB : txB wPl (pls.take (i + 1 + 1)) = B at *
      repeat' (first | ((first | refine AW.sreg rfl fun K hK => ?_ | refine AW.reg rfl ?_ | refine AW.regD hmix rfl ?_ | refine runT_call _ _ [] (fun hv _ => (hda).pure rfl rfl hv _) rfl rfl (dstOk_of rfl) rfl rfl ?_ | refine runT_call _ _ [576, 960, 7104] (fun hv hag => (hln).robjs [576, 960, 7104] ⟨((hag 576 (by simp)).trans (by first | rfl | (simp [go_sem]; done) | (simp [go_sem]; rfl))), ((hag 960 (by simp)).trans (by first | rfl | (simp [go_sem]; done) | (simp [go_sem]; rfl))), ((hag 7104 (by simp)).trans (by first | rfl | (simp [go_sem]; done) | (simp [go_sem]; rfl))), trivial⟩ rfl (by decide) (by simp) (by simp) (by simp [go_sem]) (by simp [go_sem]) (by simp [go_sem]) (by simp [go_sem])) rfl rfl (dstOk_of rfl) rfl rfl ?_); simp only [go_sem, ↓reduceIte, List.length_map, hget, Nat.reduceSub, Nat.add_zero]) | (refine AW.seq_k fun K hK => ?_) | (refine AW.block ?_) | (refine AW.skip ?_; simp only [Then, InBlock]) | (refine AW.cT ?_) | (refine hK _ ?_; clear hK K) | (with_reducible refine And.intro (?_ : regOk _ _ = true) ?_; kernel_rfl) | (with_reducible refine andI ?_))
      refine ⟨i + 1 + 1, hi, by omega, ?_⟩
      simp only [hB, aW]
      exact (Weak.oC hcx [(0, 0), (576, 576), (960, 7168)] (by refine ⟨?_, ?_, ?_⟩ <;> simp [go_sem, gL, kL, List.map_append, dv_push]))
  obtain rfl : i = pls.length := by omega
  rw [List.take_length]
  obtain ⟨T1, hT1⟩ : ∃ U, txB wPl pls = U := ⟨_, rfl⟩
  have hl1 : T1.length ≤ 1001 * pls.length := by rw [← hT1]; exact txB_len hpl
  have hz1 : pls.length = 0 → T1 = [] := fun h => by rw [← hT1, List.length_eq_zero_iff.1 h]; rfl
  have hp1 : 0 < pls.length → 0 < T1.length := fun h => by
    rw [← hT1]
    cases pls with
    | nil => simp at h
    | cons a r => simp [txB, lnS]; omega
  rw [hT1]
  clear hle h1 hi
  repeat' (first | (refine AW.sreg rfl fun K hK => ?_; simp only [go_sem, ↓reduceIte, List.length_map]) | (refine AW.seq_k fun K hK => ?_) | (refine AW.block ?_) | (refine AW.exit ?_; simp only [go_sem, ↓reduceIte]) | (refine AW.cF ?_) | (refine hK _ ?_; clear hK K) | (clear hK K; refine hK _ ?_; clear hK K))
  refine AW.loopF (ι := Nat) [1, 5, 38, 39] (fun p => [(40, I p)]) (fun p => [(0, some (O.box 31 [.d (.sl (pls.map plD)), .d (.sl (pes.map peD)), .d (.sl (wks.map wkD)), .d (.sl (bos.map boD))])), (576, some (BU (aW 576 (pls.length + p)) (.slr 960 0 (T1 ++ txQ (pes.take p)).length))), (960, some (BY (T1 ++ txQ (pes.take p))))]) 200 (fun p => p ≤ pes.length) (fun p => pes.length - p) 0 (Nat.zero_le _) (Weak.oC hcx [(0, 0), (576, 576), (960, 960)] (by refine ⟨?_, ?_, ?_⟩ <;> simp [go_sem, gL, kL, List.map_append, dv_push, txQ, aW_bel, aW_frz, aW_ren, Nat.add_zero])) ?_; simp only [St.at_nil, St.at_cons, lk, Nat.reduceEqDiff, ↓reduceIte, Option.getD_some, Option.getD_none, List.cons_append, List.nil_append, List.append_nil]
  intro i h1
  have hle := txQ_lenT hpe i
  by_cases hi : i < pes.length
  · obtain ⟨x, hx, hxm, hxd⟩ := get_some hi
    have hget : (pes.map peD)[i]? = some (peD x) := by simp [hx]
    have htk := txQ_take hx
    have hwx := hpe x hxm
    rcases hm : pls.length + i with _ | m
    · have hi0 : i = 0 := by omega
      subst hi0
      have hT0 := hz1 (by omega)
      subst hT0
      have hln := person_new x hwx
      have hR2 : txP x = txQ (pes.take (0 + 1)) := by rw [htk]; simp [txQ]
      rw [hR2] at hln
      have e0 : [] ++ txQ (pes.take 0) = ([] : Str) := rfl
      simp only [e0, aW, List.length_nil]
      generalize hB : txQ (pes.take (0 + 1)) = B at *
      repeat' (first | ((first | refine AW.sreg rfl fun K hK => ?_ | refine AW.reg rfl ?_ | refine run_call _ _ _ ((hln).robjs [576, 960] ⟨(by first | rfl | (simp [go_sem]; done) | (simp [go_sem]; rfl)), (by first | rfl | (simp [go_sem]; done) | (simp [go_sem]; rfl)), trivial⟩ rfl (by decide) (by simp) (by simp) (by simp [go_sem]) (by simp [go_sem]) (by simp [go_sem]) (by simp [go_sem])) rfl rfl (dstOk_of rfl) rfl rfl rfl ?_); simp only [go_sem, ↓reduceIte, List.length_map, hget, Nat.reduceSub, Nat.add_zero]) | (refine AW.seq_k fun K hK => ?_) | (refine AW.block ?_) | (refine AW.skip ?_; simp only [Then, InBlock]) | (refine AW.cT ?_) | (refine hK _ ?_; clear hK K) | (with_reducible refine andI ?_))
      refine ⟨0 + 1, hi, by omega, ?_⟩
      have hm2 : pls.length + (0 + 1) = 0 + 1 := by omega
      simp only [hm2, List.nil_append, hB, aW]
      exact (Weak.oC hcx [(0, 0), (576, 576), (960, 13248)] (by refine ⟨?_, ?_, ?_⟩ <;> simp [go_sem, gL, kL, List.map_append, dv_push]))
    · have hln := person_any x hwx (T1 ++ txQ (pes.take i)) (by simp only [List.length_append]; omega)
      have hR2 : (T1 ++ txQ (pes.take i)) ++ txP x = T1 ++ txQ (pes.take (i + 1)) := by rw [htk, List.append_assoc]
      rw [hR2] at hln
      simp only [aW]
      generalize hA : T1 ++ txQ (pes.take i) = A at *
      generalize hB : T1 ++ txQ (pes.take (i + 1)) = B at *
      repeat' (first | ((first | refine AW.sreg rfl fun K hK => ?_ | refine AW.reg rfl ?_ | refine run_call _ _ _ ((hln).robjs [576, 960] ⟨(by first | rfl | (simp [go_sem]; done) | (simp [go_sem]; rfl)), (by first | rfl | (simp [go_sem]; done) | (simp [go_sem]; rfl)), trivial⟩ rfl (by decide) (by simp) (by simp) (by simp [go_sem]) (by simp [go_sem]) (by simp [go_sem]) (by simp [go_sem])) rfl rfl (dstOk_of rfl) rfl rfl rfl ?_); simp only [go_sem, ↓reduceIte, List.length_map, hget, Nat.reduceSub, Nat.add_zero]) | (refine AW.seq_k fun K hK => ?_) | (refine AW.block ?_) | (refine AW.skip ?_; simp only [Then, InBlock]) | (refine AW.cT ?_) | (refine hK _ ?_; clear hK K) | (with_reducible refine andI ?_))
      refine ⟨i + 1, hi, by omega, ?_⟩
      have hm2 : pls.length + (i + 1) = m + 1 + 1 := by omega
      simp only [hB, hm2, aW]
      exact (Weak.oC hcx [(0, 0), (576, 576), (960, 13248)] (by refine ⟨?_, ?_, ?_⟩ <;> simp [go_sem, gL, kL, List.map_append, dv_push]))
  obtain rfl : i = pes.length := by omega
  rw [List.take_length]
  obtain ⟨T2, hT2⟩ : ∃ U, T1 ++ txQ pes = U := ⟨_, rfl⟩
  have hl2 : T2.length ≤ 1001 * pls.length + 9009 * pes.length := by have := txQ_len hpe; rw [← hT2, List.length_append]; omega
  have hp2 : 0 < T2.length := by
    rw [← hT2, List.length_append]
    rcases Nat.eq_zero_or_pos pls.length with h | h
    · cases pes with
      | nil => simp at hne; omega
      | cons a r => simp [txQ, txP, lnS]; omega
    · have := hp1 h; omega
  rw [hT2]
  obtain ⟨m, hm⟩ : ∃ m, pls.length + pes.length = m + 1 := ⟨pls.length + pes.length - 1, by omega⟩
  rw [hm]
  simp only [aW]
  clear hle h1 hi
  repeat' (first | (refine AW.sreg rfl fun K hK => ?_; simp only [go_sem, ↓reduceIte, List.length_map]) | (refine AW.seq_k fun K hK => ?_) | (refine AW.block ?_) | (refine AW.exit ?_; simp only [go_sem, ↓reduceIte]) | (refine AW.cF ?_) | (refine hK _ ?_; clear hK K) | (clear hK K; refine hK _ ?_; clear hK K))
  refine AW.loopF (ι := Nat) [1, 5, 49, 50] (fun p => [(51, I p)]) (fun p => [(0, some (O.box 31 [.d (.sl (pls.map plD)), .d (.sl (pes.map peD)), .d (.sl (wks.map wkD)), .d (.sl (bos.map boD))])), (576, some (BU (.ptr 576 0) (.slr 960 0 (T2 ++ txB wWk (wks.take p)).length))), (960, some (BY (T2 ++ txB wWk (wks.take p))))]) 300 (fun p => p ≤ wks.length) (fun p => wks.length - p) 0 (Nat.zero_le _) (Weak.oC hcx [(0, 0), (576, 576), (960, 960)] (by refine ⟨?_, ?_, ?_⟩ <;> simp [go_sem, gL, kL, List.map_append, dv_push, txB])) ?_; simp only [St.at_nil, St.at_cons, lk, Nat.reduceEqDiff, ↓reduceIte, Option.getD_some, Option.getD_none, List.cons_append, List.nil_append, List.append_nil]
  intro i h1
  have hle := txB_lenT (w := wWk) (fun x hx => (hwk x hx).1) i
  by_cases hi : i < wks.length
  · obtain ⟨x, hx, hxm, hxd⟩ := get_some hi
    have hget : (wks.map wkD)[i]? = some (wkD x) := by simp [hx]
    have htk := txB_take wWk hx
    obtain ⟨⟨w1, w2, w3⟩, w4, w5⟩ := hwk x hxm
    have i1 := itoa_dy x.1 w4 w5
    have hln := line1 (wWk x) (T2 ++ txB wWk (wks.take i)) (by simp only [List.length_append]; omega) w1 w2 (by omega)
    have hR2 : (T2 ++ txB wWk (wks.take i)) ++ lnS (wWk x) = T2 ++ txB wWk (wks.take (i + 1)) := by rw [htk, List.append_assoc]
    rw [hR2] at hln
    have hwl : 2 + x.2.length = (wWk x).length := by simp only [List.length_cons]; omega
    have hok := all_ok_S1 x.2
    have hsz : (2 * (2 + x.2.length) + 192) * 16 ≤ 281474976710656 := by rw [hwl]; omega
    have hwv : [V.d (D.str [119, 111, 114, 107]), V.d (D.str (Lib.itoa x.1))] ++ dv (x.2.map D.str) = dv ((wWk x).map D.str) := rfl
    generalize hA : T2 ++ txB wWk (wks.take i) = A at *
    generalize hB : T2 ++ txB wWk (wks.take (i + 1)) = B at *
    repeat' (first | ((first | refine AW.sreg rfl fun K hK => ?_ | refine AW.reg rfl ?_ | refine AW.regD hmix rfl ?_ | refine runT_call _ _ [] (fun hv _ => (i1).pure rfl rfl hv _) rfl rfl (dstOk_of rfl) rfl rfl ?_ | refine runT_call _ _ [576, 960, 19968] (fun hv hag => (hln).robjs [576, 960, 19968] ⟨((hag 576 (by simp)).trans (by first | rfl | (simp [go_sem]; done) | (simp [go_sem]; rfl))), ((hag 960 (by simp)).trans (by first | rfl | (simp [go_sem]; done) | (simp [go_sem]; rfl))), ((hag 19968 (by simp)).trans (by first | rfl | (simp [go_sem]; done) | (simp [go_sem]; rfl))), trivial⟩ rfl (by decide) (by simp) (by simp) (by simp [go_sem]) (by simp [go_sem]) (by simp [go_sem]) (by simp [go_sem])) rfl rfl (dstOk_of rfl) rfl rfl ?_); simp only [go_sem, ↓reduceIte, List.length_map, hget, Nat.reduceSub, Nat.add_zero, hok, hsz, hwl, hwv]) | (refine AW.seq_k fun K hK => ?_) | (refine AW.block ?_) | (refine AW.skip ?_; simp only [Then, InBlock]) | (refine AW.cT ?_) | (refine hK _ ?_; clear hK K) | (with_reducible refine And.intro (?_ : regOk _ _ = true) ?_; kernel_rfl) | (with_reducible refine andI ?_))
    refine ⟨i + 1, hi, by omega, ?_⟩
    simp only [hB]
    exact (Weak.oC hcx [(0, 0), (576, 576), (960, 20032)] (by refine ⟨?_, ?_, ?_⟩ <;> simp [go_sem, gL, kL, List.map_append, dv_push]))
  obtain rfl : i = wks.length := by omega
  rw [List.take_length]
  obtain ⟨T3, hT3⟩ : ∃ U, T2 ++ txB wWk wks = U := ⟨_, rfl⟩
  have hl3 : T2.length ≤ T3.length ∧ T3.length ≤ T2.length + 1001 * wks.length := by have := txB_len (w := wWk) (fun x hx => (hwk x hx).1); rw [← hT3, List.length_append]; omega
  rw [hT3]
  clear hle h1 hi
  repeat' (first | (refine AW.sreg rfl fun K hK => ?_; simp only [go_sem, ↓reduceIte, List.length_map]) | (refine AW.seq_k fun K hK => ?_) | (refine AW.block ?_) | (refine AW.exit ?_; simp only [go_sem, ↓reduceIte]) | (refine AW.cF ?_) | (refine hK _ ?_; clear hK K) | (clear hK K; refine hK _ ?_; clear hK K))
  refine AW.loopF (ι := Nat) [5, 66, 67] (fun p => [(68, I p)]) (fun p => [(0, some (O.box 31 [.d (.sl (pls.map plD)), .d (.sl (pes.map peD)), .d (.sl (wks.map wkD)), .d (.sl (bos.map boD))])), (576, some (BU (.ptr 576 0) (.slr 960 0 (T3 ++ txB wBo (bos.take p)).length))), (960, some (BY (T3 ++ txB wBo (bos.take p))))]) 400 (fun p => p ≤ bos.length) (fun p => bos.length - p) 0 (Nat.zero_le _) (Weak.oC hcx [(0, 0), (576, 576), (960, 960)] (by refine ⟨?_, ?_, ?_⟩ <;> simp [go_sem, gL, kL, List.map_append, dv_push, txB])) ?_; simp only [St.at_nil, St.at_cons, lk, Nat.reduceEqDiff, ↓reduceIte, Option.getD_some, Option.getD_none, List.cons_append, List.nil_append, List.append_nil]
  intro i h1
  have hle := txB_lenT (w := wBo) hbo i
  by_cases hi : i < bos.length
  · obtain ⟨x, hx, hxm, hxd⟩ := get_some hi
    have hget : (bos.map boD)[i]? = some (boD x) := by simp [hx]
    have htk := txB_take wBo hx
    obtain ⟨w1, w2, w3⟩ := hbo x hxm
    have hln := line1 (wBo x) (T3 ++ txB wBo (bos.take i)) (by simp only [List.length_append]; omega) w1 w2 (by omega)
    have hR2 : (T3 ++ txB wBo (bos.take i)) ++ lnS (wBo x) = T3 ++ txB wBo (bos.take (i + 1)) := by rw [htk, List.append_assoc]
    rw [hR2] at hln
    generalize hA : T3 ++ txB wBo (bos.take i) = A at *
    generalize hB : T3 ++ txB wBo (bos.take (i + 1)) = B at *
    repeat' (first | ((first | refine AW.sreg rfl fun K hK => ?_ | refine AW.reg rfl ?_ | refine run_call _ _ _ ((hln).robjs [576, 960, 26240] ⟨(by first | rfl | (simp [go_sem]; done) | (simp [go_sem]; rfl)), (by first | rfl | (simp [go_sem]; done) | (simp [go_sem]; rfl)), (by first | rfl | (simp [go_sem]; done) | (simp [go_sem]; rfl)), trivial⟩ rfl (by decide) (by simp) (by simp) (by simp [go_sem]) (by simp [go_sem]) (by simp [go_sem]) (by simp [go_sem])) rfl rfl (dstOk_of rfl) rfl rfl rfl ?_); simp only [go_sem, ↓reduceIte, List.length_map, hget, Nat.reduceSub, Nat.add_zero]) | (refine AW.seq_k fun K hK => ?_) | (refine AW.block ?_) | (refine AW.skip ?_; simp only [Then, InBlock]) | (refine AW.cT ?_) | (refine hK _ ?_; clear hK K) | (with_reducible refine andI ?_))
    refine ⟨i + 1, hi, by omega, ?_⟩
    simp only [hB]
    exact (Weak.oC hcx [(0, 0), (576, 576), (960, 26304)] (by refine ⟨?_, ?_, ?_⟩ <;> simp [go_sem, gL, kL, List.map_append, dv_push]))
  obtain rfl : i = bos.length := by omega
  rw [List.take_length]
  obtain ⟨T4, hT4⟩ : ∃ U, T3 ++ txB wBo bos = U := ⟨_, rfl⟩
  have hl4 : T3.length ≤ T4.length ∧ T4.length ≤ T3.length + 1001 * bos.length := by have := txB_len hbo; rw [← hT4, List.length_append]; omega
  rw [hT4]
  have hW : txW ⟨pls, pes, wks, bos⟩ = T4 := by rw [← hT4, ← hT3, ← hT2, ← hT1]; simp only [txW, List.append_assoc]
  rw [hW]
  have c1 := len1 T4.length T4
  have c2 := str1 T4 (by omega) (by omega)
  repeat' (first | ((first | refine AW.sreg rfl fun K hK => ?_ | refine AW.exit ?_ | refine run_call _ _ _ ((c1).robjs [576, 960] ⟨(by first | rfl | (simp [go_sem]; done) | (simp [go_sem]; rfl)), (by first | rfl | (simp [go_sem]; done) | (simp [go_sem]; rfl)), trivial⟩ rfl (by decide) (by simp) (by simp) (by simp [go_sem]) (by simp [go_sem]) (by simp [go_sem]) (by simp [go_sem])) rfl rfl (dstOk_of rfl) rfl rfl rfl ?_ | refine run_call _ _ _ ((c2).robjs [576, 960] ⟨(by first | rfl | (simp [go_sem]; done) | (simp [go_sem]; rfl)), (by first | rfl | (simp [go_sem]; done) | (simp [go_sem]; rfl)), trivial⟩ rfl (by decide) (by simp) (by simp) (by simp [go_sem]) (by simp [go_sem]) (by simp [go_sem]) (by simp [go_sem])) rfl rfl (dstOk_of rfl) rfl rfl rfl ?_); simp only [go_sem, ↓reduceIte]) | (refine AW.seq_k fun K hK => ?_) | (refine AW.skip ?_; simp only [Then, InBlock]) | (refine AW.cF ?_) | (refine hK _ ?_; clear hK K) | (clear hK K; refine hK _ ?_; clear hK K) | (refine AW.ret (Fin.data rfl (by first | (simp only [go_sem]; done) | (simp [go_sem, *]; done) | (simp [go_sem]; omega) | rfl) rfl)))
end Go.AX
