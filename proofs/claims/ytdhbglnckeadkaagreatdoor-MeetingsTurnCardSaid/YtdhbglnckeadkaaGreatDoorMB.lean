/- The fewest moves: walked. -/
import Derived.Test.YtdhbglnckeadkaaGreatDoorMA
set_option linter.unusedSimpArgs false
set_option linter.unusedVariables false
set_option linter.unnecessarySimpa false
set_option maxRecDepth 100000
set_option maxHeartbeats 4000000
namespace Go.AX
open Go Go.Proofs
/-- What was found already: papers that are left and the last one, and the fewest moves. -/
abbrev Se := (Int × Int) × Int
abbrev keyE (e : Se) : D := .agg [.int .i64 e.1.1, .int .i64 e.1.2]
abbrev MO (es : List Se) : O := .map (es.map keyE) (dv (es.map fun e => D.int .i64 e.2))
abbrev SB (ids KS : List Str) (VS : List D) (m : Nat) : O := .box 68 [.d (.sl (ids.map D.str)), .d (.map (KS.map D.str) VS), .mpr m]
def qK (k : Int × Int) (e : Se) : Bool := k.1 == e.1.1 && k.2 == e.1.2
theorem fndK_key (a b : Int) : ∀ es : List Se, fndK (.agg [.int .i64 a, .int .i64 b]) (es.map keyE) = some (es.findIdx? (qK (a, b)))
  | [] => by simp [fndK]
  | e :: es => by
    have ih := fndK_key a b es
    have hs : sameK (.agg [.int .i64 a, .int .i64 b]) (keyE e) = some (qK (a, b) e) := by simp [sameK, sameL, sameP, qK]
    simp only [List.map_cons, fndK, hs, List.findIdx?_cons, ih]
    cases qK (a, b) e with
    | true => simp
    | false => cases es.findIdx? (qK (a, b)) <;> simp
theorem qK_some {k : Int × Int} {es : List Se} {j : Nat} (h : es.findIdx? (qK k) = some j) : ∃ e, es[j]? = some e ∧ e.1 = k := by
  obtain ⟨hj, h1, -⟩ := List.findIdx?_eq_some_iff_getElem.1 h
  refine ⟨es[j], List.getElem?_eq_getElem hj, ?_⟩
  simp only [qK, Bool.and_eq_true, beq_iff_eq] at h1
  exact Prod.ext h1.1.symm h1.2.symm
def putS (es : List Se) (k : Int × Int) (v : Int) : List Se := match es.findIdx? (qK k) with
  | some j => es.set j (k, v)
  | none => es ++ [(k, v)]
section
variable (N : Nat) (F : Nat → Int → Int)
/-- What is known behind a search. -/
def fwS : Nat → Nat → Int → List Se → List Se
  | 0, _, _, es => es
  | n + 1, left, last, es => if left = 0 then es else match es.findIdx? (qK (left, last)) with
    | some _ => es
    | none => putS ((List.range N).foldl (fun es i => if left.testBit i = true then fwS n (left - 2 ^ i) i es else es) es) (left, last) (F left last)
def SeenOk (es : List Se) : Prop := ∀ e ∈ es, ∃ left : Nat, e.1.1 = left ∧ e.2 = F left e.1.2
variable {N F}
theorem putS_ok {es : List Se} (h : SeenOk F es) (left : Nat) (last : Int) : SeenOk F (putS es (left, last) (F left last)) := by
  unfold putS
  split
  · intro e he
    rcases List.mem_or_eq_of_mem_set he with he | rfl
    · exact h e he
    · exact ⟨left, rfl, rfl⟩
  · intro e he
    rcases List.mem_append.1 he with he | he
    · exact h e he
    · obtain rfl := List.mem_singleton.1 he
      exact ⟨left, rfl, rfl⟩
theorem fold_ok {f : List Se → Nat → List Se} (hf : ∀ es i, SeenOk F es → SeenOk F (f es i)) : ∀ (l : List Nat) (es : List Se), SeenOk F es → SeenOk F (l.foldl f es)
  | [], _, h => h
  | i :: l, es, h => fold_ok hf l _ (hf es i h)
theorem fwS_ok : ∀ (n left : Nat) (last : Int) (es : List Se), SeenOk F es → SeenOk F (fwS N F n left last es)
  | 0, _, _, _, h => h
  | n + 1, left, last, es, h => by
    unfold fwS
    split
    · exact h
    · split
      · exact h
      · refine putS_ok (fold_ok (fun es i he => ?_) _ _ h) left last
        try simp only
        split
        · exact fwS_ok n _ _ _ he
        · exact he
theorem seen_at {es : List Se} (h : SeenOk F es) {left : Nat} {last : Int} {j : Nat} (hj : es.findIdx? (qK ((left : Int), last)) = some j) : ∃ e, es[j]? = some e ∧ e.2 = F left last := by
  obtain ⟨e, h1, h2⟩ := qK_some hj
  obtain ⟨l, h3, h4⟩ := h e (List.mem_of_getElem? h1)
  refine ⟨e, h1, ?_⟩
  rw [h2] at h3 h4
  simp only at h3 h4
  have : left = l := by omega
  subst this
  exact h4
end
theorem keys_put {es : List Se} {k : Int × Int} {j : Nat} (h : es.findIdx? (qK k) = some j) (v : Int) : (es.set j (k, v)).map keyE = es.map keyE := by
  obtain ⟨e, h1, h2⟩ := qK_some h
  apply List.ext_getElem?
  intro i
  rw [List.getElem?_map, List.getElem?_map, List.getElem?_set]
  by_cases hi : j = i
  · subst hi
    have hl : j < es.length := (List.getElem?_eq_some_iff.1 h1).1
    rw [if_pos rfl, if_pos hl, h1]
    simp [h2, keyE]
  · rw [if_neg hi]
theorem bit_all : ((List.range 64).all fun left => (List.range 6).all fun i => (bitsI BinOp.and IntKind.i64 (Int.fdiv ((left : Nat) : Int) (2 ^ min i 64)) 1 == if left.testBit i then 1 else 0) && (!left.testBit i || bitsI BinOp.andNot IntKind.i64 ((left : Nat) : Int) (IntKind.i64.wrap (1 * 2 ^ min i 64)) == ((left - 2 ^ i : Nat) : Int))) = true := by kernel_rfl
theorem bit_get {left i : Nat} (hl : left < 64) (hi : i < 6) : bitsI BinOp.and IntKind.i64 (Int.fdiv ((left : Nat) : Int) (2 ^ min i 64)) 1 = (if left.testBit i then 1 else 0) ∧ (left.testBit i = true → bitsI BinOp.andNot IntKind.i64 ((left : Nat) : Int) (IntKind.i64.wrap (1 * 2 ^ min i 64)) = ((left - 2 ^ i : Nat) : Int)) := by
  have := List.all_eq_true.1 (List.all_eq_true.1 bit_all left (List.mem_range.2 hl)) i (List.mem_range.2 hi)
  simp only [Bool.and_eq_true, Bool.or_eq_true, Bool.not_eq_true', beq_iff_eq] at this
  refine ⟨this.1, fun h => ?_⟩
  rcases this.2 with h2 | h2
  · rw [h] at h2; cases h2
  · exact h2
section
variable {KS : List Str} {VS : List D} {L : Str → List Str}
/-- Who is out for the paper of a number. -/
abbrev Li (L : Str → List Str) (ids : List Str) (i : Nat) : List Str := L (ids.getD i [])
theorem between_any (hk : LkOk KS VS L) (ids : List Str) (hn : ids.length ≤ 6) (last : Int) (h1 : -1 ≤ last) (h2 : last < ids.length) (i : Nat) (hi : i < ids.length) (es : List Se) :
    Does Tryz.prog 28 [.ptr 0 0, I last, I i] [SB ids KS VS 1, MO es] (I (mvS (LL (Li L ids) last) (Li L ids i))) [SB ids KS VS 1, MO es] := by
  obtain ⟨x, hx, -, -⟩ := get_some hi
  have hget : (ids.map D.str)[i]? = some (.str x) := by simp [hx]
  have hLi : Li L ids i = L x := by simp [Li, hx]
  rw [hLi]
  by_cases hl : last < 0
  · obtain rfl : last = -1 := by omega
    rw [LL_neg, mvS_nil]
    refine Does.of_AW (n := 47) Tryz.func28 rfl rfl rfl fun cx hcx => ?_
    rcases hk.find x with ⟨hf, h0⟩ | ⟨j, hf, hg⟩
    · repeat' (first | (refine AW.sreg rfl fun K hK => ?_; simp only [go_sem, Nat.reduceAdd, Nat.reduceMul, Int.reduceToNat, Nat.reduceLT, Nat.reduceLeDiff, Nat.le_refl, Nat.reduceEqDiff, ↓reduceIte, beq_self_eq_true, bne_self_eq_false, Int.reduceBEq, Int.reduceBNe, or_self, true_or, or_true, Option.map_some, Option.map_none, hget, hf]) | (refine AW.sregD hmix rfl fun K hK => ?_; simp only [go_sem, Nat.reduceAdd, Nat.reduceMul, Int.reduceToNat, Nat.reduceLT, Nat.reduceLeDiff, Nat.le_refl, Nat.reduceEqDiff, ↓reduceIte, beq_self_eq_true, bne_self_eq_false, Int.reduceBEq, Int.reduceBNe, or_self, true_or, or_true, Option.map_some, Option.map_none, hget, hf]) | (refine AW.seq_k fun K hK => ?_) | (refine AW.condT rfl (by first | rfl | (simp; omega) | (simp [*]; done) | fail) ?_) | (refine hK _ ?_; clear hK K) | (with_reducible refine And.intro (?_ : regOk _ _ = true) ?_; kernel_rfl) | (with_reducible refine And.intro ?_ ?_; first | omega | assumption | (focus (decide)) | (focus (simp; done)) | (focus (simp; omega)) | (focus (constructor <;> omega)) | fail))
      exact AW.ret (Fin.objs [0, 1] rfl (by simp [go_sem, inI, gI, h0]) ⟨⟨_, rfl, by simp [go_sem, inI, gI]⟩, ⟨_, rfl, by simp [go_sem, inI, gI]⟩, trivial⟩ (by simp) rfl (by simp [go_sem]) (by simp [go_sem, belL_dv]) rfl)
    · repeat' (first | (refine AW.sreg rfl fun K hK => ?_; simp only [go_sem, Nat.reduceAdd, Nat.reduceMul, Int.reduceToNat, Nat.reduceLT, Nat.reduceLeDiff, Nat.le_refl, Nat.reduceEqDiff, ↓reduceIte, beq_self_eq_true, bne_self_eq_false, Int.reduceBEq, Int.reduceBNe, or_self, true_or, or_true, Option.map_some, Option.map_none, hget, hf, hg, List.length_map]) | (refine AW.sregD hmix rfl fun K hK => ?_; simp only [go_sem, Nat.reduceAdd, Nat.reduceMul, Int.reduceToNat, Nat.reduceLT, Nat.reduceLeDiff, Nat.le_refl, Nat.reduceEqDiff, ↓reduceIte, beq_self_eq_true, bne_self_eq_false, Int.reduceBEq, Int.reduceBNe, or_self, true_or, or_true, Option.map_some, Option.map_none, hget, hf, hg, List.length_map]) | (refine AW.seq_k fun K hK => ?_) | (refine AW.condT rfl (by first | rfl | (simp; omega) | (simp [*]; done) | fail) ?_) | (refine hK _ ?_; clear hK K) | (with_reducible refine And.intro (?_ : regOk _ _ = true) ?_; kernel_rfl) | (with_reducible refine And.intro ?_ ?_; first | omega | assumption | (focus (decide)) | (focus (simp; done)) | (focus (simp; omega)) | (focus (constructor <;> omega)) | fail))
      exact AW.ret (Fin.objs [0, 1] rfl (by simp [go_sem, inI, gI]) ⟨⟨_, rfl, by simp [go_sem, inI, gI]⟩, ⟨_, rfl, by simp [go_sem, inI, gI]⟩, trivial⟩ (by simp) rfl (by simp [go_sem]) (by simp [go_sem, belL_dv]) rfl)
  · obtain ⟨la, rfl⟩ := Int.eq_ofNat_of_zero_le (show 0 ≤ last by omega)
    obtain ⟨y, hy, -, -⟩ := get_some (show la < ids.length by omega)
    have hget2 : (ids.map D.str)[la]? = some (.str y) := by simp [hy]
    have hLl : LL (Li L ids) (la : Int) = L y := by rw [LL_nat]; simp [Li, hy]
    rw [hLl]
    have hm := moves_any (L y) (L x) (hk.len y) (hk.len x) (hk.rise y) (hk.rise x)
    have hm1 : L x = [] → Does Tryz.prog 33 [.d (.sl ((L y).map D.str)), .nils] [] (I (mvS (L y) (L x))) [] := fun h => Does.nil (by rw [h] at hm ⊢; exact hm)
    have hm2 : L y = [] → Does Tryz.prog 33 [.nils, .d (.sl ((L x).map D.str))] [] (I (mvS (L y) (L x))) [] := fun h => Does.nil (by rw [h] at hm ⊢; exact hm)
    have hm3 : L y = [] → L x = [] → Does Tryz.prog 33 [.nils, .nils] [] (I (mvS (L y) (L x))) [] := fun h h' => Does.nil (by rw [h, h'] at hm ⊢; exact hm)
    refine Does.of_AW (n := 47) Tryz.func28 rfl rfl rfl fun cx hcx => ?_
    rcases hk.find x with ⟨hf, h0⟩ | ⟨j, hf, hg⟩ <;> rcases hk.find y with ⟨hf', h0'⟩ | ⟨j', hf', hg'⟩
    · repeat' (first | (refine AW.sreg rfl fun K hK => ?_; simp only [go_sem, Nat.reduceAdd, Nat.reduceMul, Int.reduceToNat, Nat.reduceLT, Nat.reduceLeDiff, Nat.le_refl, Nat.reduceEqDiff, ↓reduceIte, beq_self_eq_true, bne_self_eq_false, Int.reduceBEq, Int.reduceBNe, or_self, true_or, or_true, Option.map_some, Option.map_none, hget, hf, hget2, hf']) | (refine AW.sregD hmix rfl fun K hK => ?_; simp only [go_sem, Nat.reduceAdd, Nat.reduceMul, Int.reduceToNat, Nat.reduceLT, Nat.reduceLeDiff, Nat.le_refl, Nat.reduceEqDiff, ↓reduceIte, beq_self_eq_true, bne_self_eq_false, Int.reduceBEq, Int.reduceBNe, or_self, true_or, or_true, Option.map_some, Option.map_none, hget, hf, hget2, hf']) | (refine AW.seq_k fun K hK => ?_) | (refine AW.skip ?_; simp only [Then, InBlock]) | (refine AW.condF rfl (by first | rfl | (simp; omega) | (simp [*]; done) | fail) ?_) | (refine hK _ ?_; clear hK K) | (with_reducible refine And.intro (?_ : regOk _ _ = true) ?_; kernel_rfl) | (refine runT_call _ _ [] (fun hv _ => (hm3 h0' h0).pure rfl rfl hv _) rfl rfl (dstOk_of rfl) rfl rfl ?_; simp only [go_sem, Nat.reduceAdd, Nat.reduceMul, Int.reduceToNat, Nat.reduceLT, Nat.reduceLeDiff, Nat.le_refl, Nat.reduceEqDiff, ↓reduceIte, beq_self_eq_true, bne_self_eq_false, Int.reduceBEq, Int.reduceBNe, or_self, true_or, or_true, Option.map_some, Option.map_none, hget, hf, hget2, hf']) | (with_reducible refine And.intro ?_ ?_; first | omega | assumption | (focus (decide)) | (focus (simp; done)) | (focus (simp; omega)) | (focus (constructor <;> omega)) | fail))
      exact AW.ret (Fin.objs [0, 1] rfl (by simp [go_sem, inI, gI]) ⟨⟨_, rfl, by simp [go_sem, inI, gI]⟩, ⟨_, rfl, by simp [go_sem, inI, gI]⟩, trivial⟩ (by simp) rfl (by simp [go_sem]) (by simp [go_sem, belL_dv]) rfl)
    · repeat' (first | (refine AW.sreg rfl fun K hK => ?_; simp only [go_sem, Nat.reduceAdd, Nat.reduceMul, Int.reduceToNat, Nat.reduceLT, Nat.reduceLeDiff, Nat.le_refl, Nat.reduceEqDiff, ↓reduceIte, beq_self_eq_true, bne_self_eq_false, Int.reduceBEq, Int.reduceBNe, or_self, true_or, or_true, Option.map_some, Option.map_none, hget, hf, hget2, hf', hg']) | (refine AW.sregD hmix rfl fun K hK => ?_; simp only [go_sem, Nat.reduceAdd, Nat.reduceMul, Int.reduceToNat, Nat.reduceLT, Nat.reduceLeDiff, Nat.le_refl, Nat.reduceEqDiff, ↓reduceIte, beq_self_eq_true, bne_self_eq_false, Int.reduceBEq, Int.reduceBNe, or_self, true_or, or_true, Option.map_some, Option.map_none, hget, hf, hget2, hf', hg']) | (refine AW.seq_k fun K hK => ?_) | (refine AW.skip ?_; simp only [Then, InBlock]) | (refine AW.condF rfl (by first | rfl | (simp; omega) | (simp [*]; done) | fail) ?_) | (refine hK _ ?_; clear hK K) | (with_reducible refine And.intro (?_ : regOk _ _ = true) ?_; kernel_rfl) | (refine runT_call _ _ [] (fun hv _ => (hm1 h0).pure rfl rfl hv _) rfl rfl (dstOk_of rfl) rfl rfl ?_; simp only [go_sem, Nat.reduceAdd, Nat.reduceMul, Int.reduceToNat, Nat.reduceLT, Nat.reduceLeDiff, Nat.le_refl, Nat.reduceEqDiff, ↓reduceIte, beq_self_eq_true, bne_self_eq_false, Int.reduceBEq, Int.reduceBNe, or_self, true_or, or_true, Option.map_some, Option.map_none, hget, hf, hget2, hf', hg']) | (with_reducible refine And.intro ?_ ?_; first | omega | assumption | (focus (decide)) | (focus (simp; done)) | (focus (simp; omega)) | (focus (constructor <;> omega)) | fail))
      exact AW.ret (Fin.objs [0, 1] rfl (by simp [go_sem, inI, gI]) ⟨⟨_, rfl, by simp [go_sem, inI, gI]⟩, ⟨_, rfl, by simp [go_sem, inI, gI]⟩, trivial⟩ (by simp) rfl (by simp [go_sem]) (by simp [go_sem, belL_dv]) rfl)
    · repeat' (first | (refine AW.sreg rfl fun K hK => ?_; simp only [go_sem, Nat.reduceAdd, Nat.reduceMul, Int.reduceToNat, Nat.reduceLT, Nat.reduceLeDiff, Nat.le_refl, Nat.reduceEqDiff, ↓reduceIte, beq_self_eq_true, bne_self_eq_false, Int.reduceBEq, Int.reduceBNe, or_self, true_or, or_true, Option.map_some, Option.map_none, hget, hf, hget2, hf', hg]) | (refine AW.sregD hmix rfl fun K hK => ?_; simp only [go_sem, Nat.reduceAdd, Nat.reduceMul, Int.reduceToNat, Nat.reduceLT, Nat.reduceLeDiff, Nat.le_refl, Nat.reduceEqDiff, ↓reduceIte, beq_self_eq_true, bne_self_eq_false, Int.reduceBEq, Int.reduceBNe, or_self, true_or, or_true, Option.map_some, Option.map_none, hget, hf, hget2, hf', hg]) | (refine AW.seq_k fun K hK => ?_) | (refine AW.skip ?_; simp only [Then, InBlock]) | (refine AW.condF rfl (by first | rfl | (simp; omega) | (simp [*]; done) | fail) ?_) | (refine hK _ ?_; clear hK K) | (with_reducible refine And.intro (?_ : regOk _ _ = true) ?_; kernel_rfl) | (refine runT_call _ _ [] (fun hv _ => (hm2 h0').pure rfl rfl hv _) rfl rfl (dstOk_of rfl) rfl rfl ?_; simp only [go_sem, Nat.reduceAdd, Nat.reduceMul, Int.reduceToNat, Nat.reduceLT, Nat.reduceLeDiff, Nat.le_refl, Nat.reduceEqDiff, ↓reduceIte, beq_self_eq_true, bne_self_eq_false, Int.reduceBEq, Int.reduceBNe, or_self, true_or, or_true, Option.map_some, Option.map_none, hget, hf, hget2, hf', hg]) | (with_reducible refine And.intro ?_ ?_; first | omega | assumption | (focus (decide)) | (focus (simp; done)) | (focus (simp; omega)) | (focus (constructor <;> omega)) | fail))
      exact AW.ret (Fin.objs [0, 1] rfl (by simp [go_sem, inI, gI]) ⟨⟨_, rfl, by simp [go_sem, inI, gI]⟩, ⟨_, rfl, by simp [go_sem, inI, gI]⟩, trivial⟩ (by simp) rfl (by simp [go_sem]) (by simp [go_sem, belL_dv]) rfl)
    · repeat' (first | (refine AW.sreg rfl fun K hK => ?_; simp only [go_sem, Nat.reduceAdd, Nat.reduceMul, Int.reduceToNat, Nat.reduceLT, Nat.reduceLeDiff, Nat.le_refl, Nat.reduceEqDiff, ↓reduceIte, beq_self_eq_true, bne_self_eq_false, Int.reduceBEq, Int.reduceBNe, or_self, true_or, or_true, Option.map_some, Option.map_none, hget, hf, hget2, hf', hg, hg']) | (refine AW.sregD hmix rfl fun K hK => ?_; simp only [go_sem, Nat.reduceAdd, Nat.reduceMul, Int.reduceToNat, Nat.reduceLT, Nat.reduceLeDiff, Nat.le_refl, Nat.reduceEqDiff, ↓reduceIte, beq_self_eq_true, bne_self_eq_false, Int.reduceBEq, Int.reduceBNe, or_self, true_or, or_true, Option.map_some, Option.map_none, hget, hf, hget2, hf', hg, hg']) | (refine AW.seq_k fun K hK => ?_) | (refine AW.skip ?_; simp only [Then, InBlock]) | (refine AW.condF rfl (by first | rfl | (simp; omega) | (simp [*]; done) | fail) ?_) | (refine hK _ ?_; clear hK K) | (with_reducible refine And.intro (?_ : regOk _ _ = true) ?_; kernel_rfl) | (refine runT_call _ _ [] (fun hv _ => (hm).pure rfl rfl hv _) rfl rfl (dstOk_of rfl) rfl rfl ?_; simp only [go_sem, Nat.reduceAdd, Nat.reduceMul, Int.reduceToNat, Nat.reduceLT, Nat.reduceLeDiff, Nat.le_refl, Nat.reduceEqDiff, ↓reduceIte, beq_self_eq_true, bne_self_eq_false, Int.reduceBEq, Int.reduceBNe, or_self, true_or, or_true, Option.map_some, Option.map_none, hget, hf, hget2, hf', hg, hg']) | (with_reducible refine And.intro ?_ ?_; first | omega | assumption | (focus (decide)) | (focus (simp; done)) | (focus (simp; omega)) | (focus (constructor <;> omega)) | fail))
      exact AW.ret (Fin.objs [0, 1] rfl (by simp [go_sem, inI, gI]) ⟨⟨_, rfl, by simp [go_sem, inI, gI]⟩, ⟨_, rfl, by simp [go_sem, inI, gI]⟩, trivial⟩ (by simp) rfl (by simp [go_sem]) (by simp [go_sem, belL_dv]) rfl)
end
end Go.AX

namespace Go.AX
open Go Go.Proofs
theorem G_bound {β : Type} [DecidableEq β] {L : Nat → List β} {N : Nat} (hL : ∀ i, (L i).length ≤ 1000) : ∀ (left : Nat) (last : Int), left < 2 ^ N → G L N left last ≤ 2000 * (left + 1) := by
  have hLL : ∀ last, (LL L last).length ≤ 1000 := by
    intro last
    unfold LL
    split
    · simp
    · exact hL _
  intro left
  induction left using Nat.strongRecOn with
  | ind left ih =>
    intro last hl
    by_cases h : left = 0
    · subst h
      rw [G_zero]
      have := hLL last
      omega
    · obtain ⟨i, hi, hb, he⟩ := G_at L N last hl h
      have h1 := sub_lt hb
      have h2 := ih _ h1 (i : Int) (by omega)
      have h3 := mvS_le (LL L last) (L i)
      have h4 := hLL last
      have h5 := hL i
      rw [he]
      omega
section
variable {KS : List Str} {VS : List D} {L : Str → List Str}
theorem fewest_any (hk : LkOk KS VS L) (ids : List Str) (hn : ids.length ≤ 6) : ∀ (n left : Nat), left ≤ n → left < 2 ^ ids.length → ∀ (last : Int), -1 ≤ last → last < ids.length → ∀ es : List Se, SeenOk (G (Li L ids) ids.length) es →
    Does Tryz.prog 27 [.ptr 0 0, I left, I last] [SB ids KS VS 1, MO es] (I (G (Li L ids) ids.length left last)) [SB ids KS VS 1, MO (fwS ids.length (G (Li L ids) ids.length) n left last es)] := by
  intro n
  induction n with
  | zero =>
    intro left h0
    obtain rfl : left = 0 := by omega
    intro hlt last h1 h2 es hes
    rw [G_zero]
    simp only [fwS]
    refine Does.of_AW (n := 85) Tryz.func27 rfl rfl rfl fun cx hcx => ?_
    by_cases hl : last < 0
    · obtain rfl : last = -1 := by omega
      repeat' (first | (refine AW.sreg rfl fun K hK => ?_; simp only [go_sem, Nat.reduceAdd, Nat.reduceMul, Int.reduceToNat, Nat.reduceLT, Nat.reduceLeDiff, Nat.le_refl, Nat.reduceEqDiff, ↓reduceIte, beq_self_eq_true, bne_self_eq_false, Int.reduceBEq, Int.reduceBNe, or_self, true_or, or_true, Option.map_some, Option.map_none, Int.natCast_zero, LL_neg]) | (refine AW.seq_k fun K hK => ?_) | (refine AW.condT rfl (by first | rfl | (simp; omega) | (simp [*]; done) | fail) ?_) | (refine hK _ ?_; clear hK K))
      exact AW.ret (Fin.objs [0, 1] rfl (by simp [go_sem, inI, gI, LL_neg]) ⟨⟨_, rfl, by simp [go_sem, inI, gI]⟩, ⟨_, rfl, by simp [go_sem, inI, gI]⟩, trivial⟩ (by simp) rfl (by simp [go_sem]) (by simp [go_sem, belL_dv]) rfl)
    · obtain ⟨la, rfl⟩ := Int.eq_ofNat_of_zero_le (show 0 ≤ last by omega)
      obtain ⟨y, hy, -, -⟩ := get_some (show la < ids.length by omega)
      have hget2 : (ids.map D.str)[la]? = some (.str y) := by simp [hy]
      have hLl : LL (Li L ids) (la : Int) = L y := by rw [LL_nat]; simp [Li, hy]
      rw [hLl]
      rcases hk.find y with ⟨hf, h0⟩ | ⟨j, hf, hg⟩
      · repeat' (first | (refine AW.sreg rfl fun K hK => ?_; simp only [go_sem, Nat.reduceAdd, Nat.reduceMul, Int.reduceToNat, Nat.reduceLT, Nat.reduceLeDiff, Nat.le_refl, Nat.reduceEqDiff, ↓reduceIte, beq_self_eq_true, bne_self_eq_false, Int.reduceBEq, Int.reduceBNe, or_self, true_or, or_true, Option.map_some, Option.map_none, Int.natCast_zero, hget2, hf]) | (refine AW.sregD hmix rfl fun K hK => ?_; simp only [go_sem, Nat.reduceAdd, Nat.reduceMul, Int.reduceToNat, Nat.reduceLT, Nat.reduceLeDiff, Nat.le_refl, Nat.reduceEqDiff, ↓reduceIte, beq_self_eq_true, bne_self_eq_false, Int.reduceBEq, Int.reduceBNe, or_self, true_or, or_true, Option.map_some, Option.map_none, Int.natCast_zero, hget2, hf]) | (refine AW.seq_k fun K hK => ?_) | (refine AW.skip ?_; simp only [Then, InBlock]) | (refine AW.condT rfl (by first | rfl | (simp; omega) | (simp [*]; done) | fail) ?_) | (refine AW.condF rfl (by first | rfl | (simp; omega) | (simp [*]; done) | fail) ?_) | (refine hK _ ?_; clear hK K) | (with_reducible refine And.intro (?_ : regOk _ _ = true) ?_; kernel_rfl) | (with_reducible refine And.intro ?_ ?_; first | omega | assumption | (focus (decide)) | (focus (simp; done)) | (focus (simp; omega)) | (focus (constructor <;> omega)) | fail))
        exact AW.ret (Fin.objs [0, 1] rfl (by simp [go_sem, inI, gI, h0]) ⟨⟨_, rfl, by simp [go_sem, inI, gI]⟩, ⟨_, rfl, by simp [go_sem, inI, gI]⟩, trivial⟩ (by simp) rfl (by simp [go_sem]) (by simp [go_sem, belL_dv]) rfl)
      · repeat' (first | (refine AW.sreg rfl fun K hK => ?_; simp only [go_sem, Nat.reduceAdd, Nat.reduceMul, Int.reduceToNat, Nat.reduceLT, Nat.reduceLeDiff, Nat.le_refl, Nat.reduceEqDiff, ↓reduceIte, beq_self_eq_true, bne_self_eq_false, Int.reduceBEq, Int.reduceBNe, or_self, true_or, or_true, Option.map_some, Option.map_none, Int.natCast_zero, hget2, hf, hg, List.length_map]) | (refine AW.sregD hmix rfl fun K hK => ?_; simp only [go_sem, Nat.reduceAdd, Nat.reduceMul, Int.reduceToNat, Nat.reduceLT, Nat.reduceLeDiff, Nat.le_refl, Nat.reduceEqDiff, ↓reduceIte, beq_self_eq_true, bne_self_eq_false, Int.reduceBEq, Int.reduceBNe, or_self, true_or, or_true, Option.map_some, Option.map_none, Int.natCast_zero, hget2, hf, hg, List.length_map]) | (refine AW.seq_k fun K hK => ?_) | (refine AW.skip ?_; simp only [Then, InBlock]) | (refine AW.condT rfl (by first | rfl | (simp; omega) | (simp [*]; done) | fail) ?_) | (refine AW.condF rfl (by first | rfl | (simp; omega) | (simp [*]; done) | fail) ?_) | (refine hK _ ?_; clear hK K) | (with_reducible refine And.intro (?_ : regOk _ _ = true) ?_; kernel_rfl) | (with_reducible refine And.intro ?_ ?_; first | omega | assumption | (focus (decide)) | (focus (simp; done)) | (focus (simp; omega)) | (focus (constructor <;> omega)) | fail))
        exact AW.ret (Fin.objs [0, 1] rfl (by simp [go_sem, inI, gI]) ⟨⟨_, rfl, by simp [go_sem, inI, gI]⟩, ⟨_, rfl, by simp [go_sem, inI, gI]⟩, trivial⟩ (by simp) rfl (by simp [go_sem]) (by simp [go_sem, belL_dv]) rfl)
  | succ m ih =>
    intro left hlm hlt last h1 h2 es hes
    by_cases hz : left = 0
    · subst hz
      have := ih 0 (by omega) hlt last h1 h2 es hes
      have e : ∀ n, fwS ids.length (G (Li L ids) ids.length) n 0 last es = es := by intro n; cases n <;> simp [fwS]
      rw [e] at this ⊢
      exact this
    have h64 := pow_le64 hn
    have hLL : ∀ i, (Li L ids i).length ≤ 1000 := fun i => hk.len _
    have hGb := fun l la h => G_bound (N := ids.length) hLL l la h
    have hGn := fun l la h => G_nonneg (Li L ids) ids.length l la h
    cases hfi : es.findIdx? (qK ((left : Int), last)) with
    | some j =>
      obtain ⟨e, he1, he2⟩ := seen_at hes hfi
      have hf : fndK (.agg [.int .i64 (left : Int), .int .i64 last]) (es.map keyE) = some (some j) := by rw [fndK_key, hfi]
      have hg : (dv (es.map fun e => D.int .i64 e.2))[j]? = some (.d (.int .i64 (G (Li L ids) ids.length left last))) := by simp [dv, he1, he2]
      have e : fwS ids.length (G (Li L ids) ids.length) (m + 1) left last es = es := by simp [fwS, hz, hfi]
      rw [e]
      refine Does.of_AW (n := 85) Tryz.func27 rfl rfl rfl fun cx hcx => ?_
      repeat' (first | (refine AW.sreg rfl fun K hK => ?_; simp only [go_sem, Nat.reduceAdd, Nat.reduceMul, Int.reduceToNat, Nat.reduceLT, Nat.reduceLeDiff, Nat.le_refl, Nat.reduceEqDiff, ↓reduceIte, beq_self_eq_true, bne_self_eq_false, Int.reduceBEq, Int.reduceBNe, or_self, true_or, or_true, Option.map_some, Option.map_none, hf, hg]) | (refine AW.sregD hmix rfl fun K hK => ?_; simp only [go_sem, Nat.reduceAdd, Nat.reduceMul, Int.reduceToNat, Nat.reduceLT, Nat.reduceLeDiff, Nat.le_refl, Nat.reduceEqDiff, ↓reduceIte, beq_self_eq_true, bne_self_eq_false, Int.reduceBEq, Int.reduceBNe, or_self, true_or, or_true, Option.map_some, Option.map_none, hf, hg]) | (refine AW.seq_k fun K hK => ?_) | (refine AW.skip ?_; simp only [Then, InBlock]) | (refine AW.condT rfl (by first | rfl | (simp; omega) | (simp [*]; done) | fail) ?_) | (refine AW.condF rfl (by first | rfl | (simp; omega) | (simp [*]; done) | fail) ?_) | (refine hK _ ?_; clear hK K) | (with_reducible refine And.intro (?_ : regOk _ _ = true) ?_; kernel_rfl))
      exact AW.ret (Fin.objs [0, 1] rfl (by simp [go_sem, inI, gI]) ⟨⟨_, rfl, by simp [go_sem, inI, gI]⟩, ⟨_, rfl, by simp [go_sem, inI, gI]⟩, trivial⟩ (by simp) rfl (by simp [go_sem]) (by simp [go_sem, belL_dv]) rfl)
    | none =>
      have hf : fndK (.agg [.int .i64 (left : Int), .int .i64 last]) (es.map keyE) = some none := by rw [fndK_key, hfi]
      obtain ⟨ES, hE0, hEs, hEf, hEo⟩ : ∃ ES : Nat → List Se, ES 0 = es ∧ (∀ k, ES (k + 1) = if left.testBit k = true then fwS ids.length (G (Li L ids) ids.length) m (left - 2 ^ k) k (ES k) else ES k) ∧
          fwS ids.length (G (Li L ids) ids.length) (m + 1) left last es = putS (ES ids.length) (left, last) (G (Li L ids) ids.length left last) ∧ ∀ k, SeenOk (G (Li L ids) ids.length) (ES k) := by
        refine ⟨fun k => (List.range k).foldl (fun es i => if left.testBit i = true then fwS ids.length (G (Li L ids) ids.length) m (left - 2 ^ i) i es else es) es, rfl, fun k => ?_, ?_, fun k => ?_⟩
        · simp only [List.range_succ, List.foldl_append, List.foldl_cons, List.foldl_nil]
        · simp [fwS, hz, hfi]
        · refine fold_ok (fun es i he => ?_) _ _ hes
          try simp only
          split
          · exact fwS_ok _ _ _ _ he
          · exact he
      obtain ⟨B', hB0, hBs, hBf, hBb⟩ : ∃ B' : Nat → Int, B' 0 = -1 ∧ (∀ k, B' (k + 1) = if left.testBit k = true then stepL (B' k) ((mvS (LL (Li L ids) last) (Li L ids k) : Int) + G (Li L ids) ids.length (left - 2 ^ k) k) else B' k) ∧ B' ids.length = G (Li L ids) ids.length left last ∧ True := by
        exact ⟨leastB (fun i => left.testBit i) (fun i => (mvS (LL (Li L ids) last) (Li L ids i) : Int) + G (Li L ids) ids.length (left - 2 ^ i) i), rfl, fun k => rfl, (G_pos _ _ hz last).symm, trivial⟩
      rw [hEf]
      refine Does.of_AW (n := 85) Tryz.func27 rfl rfl rfl fun cx hcx => ?_
      repeat' (first | (refine AW.sreg rfl fun K hK => ?_; simp only [go_sem, Nat.reduceAdd, Nat.reduceMul, Int.reduceToNat, Nat.reduceLT, Nat.reduceLeDiff, Nat.le_refl, Nat.reduceEqDiff, ↓reduceIte, beq_self_eq_true, bne_self_eq_false, Int.reduceBEq, Int.reduceBNe, or_self, true_or, or_true, Option.map_some, Option.map_none, hf, List.length_map]) | (refine AW.sregD hmix rfl fun K hK => ?_; simp only [go_sem, Nat.reduceAdd, Nat.reduceMul, Int.reduceToNat, Nat.reduceLT, Nat.reduceLeDiff, Nat.le_refl, Nat.reduceEqDiff, ↓reduceIte, beq_self_eq_true, bne_self_eq_false, Int.reduceBEq, Int.reduceBNe, or_self, true_or, or_true, Option.map_some, Option.map_none, hf, List.length_map]) | (refine AW.seq_k fun K hK => ?_) | (refine AW.block ?_) | (refine AW.skip ?_; simp only [Then, InBlock]) | (refine AW.condF rfl (by first | rfl | (simp; omega) | (simp [*]; done) | fail) ?_) | (refine hK _ ?_; clear hK K) | (with_reducible refine And.intro (?_ : regOk _ _ = true) ?_; kernel_rfl))
      refine AW.loopF (ι := Nat) [0, 1, 2, 7, 48] (fun p => [(49, I p), (10, I (B' p))]) (fun p => [(0, some (SB ids KS VS 1)), (1, some (MO (ES p))), (512, some (O.box 91 [I left, I last]))]) 29 (fun p => p ≤ ids.length) (fun p => ids.length - p) 0 (Nat.zero_le _) (Weak.auto hcx rfl rfl (Nat.le_of_ble_eq_true rfl) (by simp [go_sem, gL, kL, renOf, V.obj, lk, Nat.blt, Nat.ble, List.map_append, dv_push, hE0, hB0]) (by simp [go_sem, gL, kL, renOf, V.obj, lk, Nat.blt, Nat.ble, List.map_append, dv_push, hE0, hB0]) (by first | (intro i hi; exact absurd hi (Nat.not_lt_zero _)) | (intro i0 hi0; match i0, hi0 with | 0, _ => exact ⟨_, rfl⟩ | n0+1, h0 => exact absurd h0 (Nat.not_lt.2 (Nat.le_add_left 1 n0))) | (intro i0 hi0; match i0, hi0 with | 0, _ => exact ⟨_, rfl⟩ | 1, _ => exact ⟨_, rfl⟩ | n0+2, h0 => exact absurd h0 (Nat.not_lt.2 (Nat.le_add_left 2 n0))) | (intro i0 hi0; match i0, hi0 with | 0, _ => exact ⟨_, rfl⟩ | 1, _ => exact ⟨_, rfl⟩ | 2, _ => exact ⟨_, rfl⟩ | n0+3, h0 => exact absurd h0 (Nat.not_lt.2 (Nat.le_add_left 3 n0))) | (intro i0 hi0; match i0, hi0 with | 0, _ => exact ⟨_, rfl⟩ | 1, _ => exact ⟨_, rfl⟩ | 2, _ => exact ⟨_, rfl⟩ | 3, _ => exact ⟨_, rfl⟩ | n0+4, h0 => exact absurd h0 (Nat.not_lt.2 (Nat.le_add_left 4 n0)))) (by simp [go_sem, gL, kL, lk, renOf, V.obj, Nat.blt, Nat.ble, hE0, hB0])) ?_; simp only [St.at_nil, St.at_cons, lk, Nat.reduceEqDiff, ↓reduceIte, Option.getD_some, Option.getD_none, List.cons_append, List.nil_append, List.append_nil]
      intro i h3
      by_cases hi : i < ids.length
      · obtain ⟨hb1, hb2⟩ := bit_get (left := left) (i := i) (by omega) (by omega)
        by_cases hb : left.testBit i = true
        · have hand := hb2 hb
          rw [if_pos hb] at hb1
          have hsl := sub_lt hb
          have hrec := ih (left - 2 ^ i) (by omega) (by omega) (i : Int) (by omega) (by omega) (ES i) (hEo i)
          have hbt := between_any hk ids hn last h1 h2 i hi (ES i)
          have hEi := hEs i
          have hBi := hBs i
          rw [if_pos hb] at hEi hBi
          rw [← hEi] at hrec
          have g1 := hGb (left - 2 ^ i) (i : Int) (by omega)
          have g2 := hGn (left - 2 ^ i) (i : Int) (by omega)
          have g3 := mvS_le (LL (Li L ids) last) (Li L ids i)
          have g4 : (LL (Li L ids) last).length ≤ 1000 := by
            unfold LL
            split
            · simp
            · exact hLL _
          have g5 := hLL i
          generalize G (Li L ids) ids.length (left - 2 ^ i) (i : Int) = gv at *
          generalize mvS (LL (Li L ids) last) (Li L ids i) = mv at *
          unfold stepL at hBi
          by_cases hc : B' i < 0 ∨ (mv : Int) + gv < B' i
          · rw [if_pos hc] at hBi
            repeat' (first | (refine AW.sreg rfl fun K hK => ?_; simp only [go_sem, Nat.reduceAdd, Nat.reduceMul, Int.reduceToNat, Nat.reduceLT, Nat.reduceLeDiff, Nat.le_refl, Nat.reduceEqDiff, ↓reduceIte, beq_self_eq_true, bne_self_eq_false, Int.reduceBEq, Int.reduceBNe, or_self, true_or, or_true, Option.map_some, Option.map_none, hb1, hand]) | (refine AW.sregD hmix rfl fun K hK => ?_; simp only [go_sem, Nat.reduceAdd, Nat.reduceMul, Int.reduceToNat, Nat.reduceLT, Nat.reduceLeDiff, Nat.le_refl, Nat.reduceEqDiff, ↓reduceIte, beq_self_eq_true, bne_self_eq_false, Int.reduceBEq, Int.reduceBNe, or_self, true_or, or_true, Option.map_some, Option.map_none, hb1, hand]) | (refine AW.reg rfl ?_; simp only [go_sem, Nat.reduceAdd, Nat.reduceMul, Int.reduceToNat, Nat.reduceLT, Nat.reduceLeDiff, Nat.le_refl, Nat.reduceEqDiff, ↓reduceIte, beq_self_eq_true, bne_self_eq_false, Int.reduceBEq, Int.reduceBNe, or_self, true_or, or_true, Option.map_some, Option.map_none, hb1, hand]) | (refine AW.seq_k fun K hK => ?_) | (refine AW.block ?_) | (refine AW.skip ?_; simp only [Then, InBlock]) | (refine AW.condT rfl (by first | rfl | (simp; omega) | (simp [*]; done) | fail) ?_) | (refine AW.condF rfl (by first | rfl | (simp; omega) | (simp [*]; done) | fail) ?_) | (refine hK _ ?_; clear hK K) | (refine stepB_split (fun h => ?_) (fun h => ?_) <;> (have hb0 := h) <;> (try simp only [Bool.not_eq_true', Bool.not_eq_false'] at hb0) <;> (try simp only [decide_eq_true_eq, decide_eq_false_iff_not, Bool.not_eq_true', Bool.not_eq_false', Bool.not_eq_eq_eq_not, Bool.not_true, Bool.not_false, beq_iff_eq, bne_iff_ne, beq_eq_false_iff_ne, ne_eq, Bool.and_eq_true, Bool.or_eq_true, Bool.or_eq_false_iff] at h) <;> simp only [go_sem, Nat.reduceAdd, Nat.reduceMul, Int.reduceToNat, Nat.reduceLT, Nat.reduceLeDiff, Nat.le_refl, Nat.reduceEqDiff, ↓reduceIte, beq_self_eq_true, bne_self_eq_false, Int.reduceBEq, Int.reduceBNe, or_self, true_or, or_true, Option.map_some, Option.map_none, hb0, h, decide_true, decide_false, hb1, hand] <;> (try clear hb0)) | (with_reducible refine And.intro (?_ : regOk _ _ = true) ?_; kernel_rfl) | (refine runT_call _ _ [0, 1] (fun hv hag => (hbt).robjs [0, 1] ⟨((hag 0 (by simp)).trans (by first | rfl | (simp [go_sem]; done) | (simp [go_sem]; rfl))), ((hag 1 (by simp)).trans (by first | rfl | (simp [go_sem]; done) | (simp [go_sem]; rfl))), trivial⟩ rfl (by decide) (by simp) (by simp) (by simp [go_sem]) (by simp [go_sem]) (by simp [go_sem]) (by simp [go_sem])) rfl rfl (dstOk_of rfl) rfl rfl ?_; simp only [go_sem, Nat.reduceAdd, Nat.reduceMul, Int.reduceToNat, Nat.reduceLT, Nat.reduceLeDiff, Nat.le_refl, Nat.reduceEqDiff, ↓reduceIte, beq_self_eq_true, bne_self_eq_false, Int.reduceBEq, Int.reduceBNe, or_self, true_or, or_true, Option.map_some, Option.map_none, hb1, hand]) | (refine runT_call _ _ [0, 1] (fun hv hag => (hrec).robjs [0, 1] ⟨((hag 0 (by simp)).trans (by first | rfl | (simp [go_sem]; done) | (simp [go_sem]; rfl))), ((hag 1 (by simp)).trans (by first | rfl | (simp [go_sem]; done) | (simp [go_sem]; rfl))), trivial⟩ rfl (by decide) (by simp) (by simp) (by simp [go_sem]) (by simp [go_sem]) (by simp [go_sem]) (by simp [go_sem])) rfl rfl (dstOk_of rfl) rfl rfl ?_; simp only [go_sem, Nat.reduceAdd, Nat.reduceMul, Int.reduceToNat, Nat.reduceLT, Nat.reduceLeDiff, Nat.le_refl, Nat.reduceEqDiff, ↓reduceIte, beq_self_eq_true, bne_self_eq_false, Int.reduceBEq, Int.reduceBNe, or_self, true_or, or_true, Option.map_some, Option.map_none, hb1, hand]) | (with_reducible refine And.intro ?_ ?_; first | omega | assumption | (focus (decide)) | (focus (simp; done)) | (focus (simp; omega)) | (focus (constructor <;> omega)) | fail))
            all_goals first | (exfalso; omega) | exact ⟨i + 1, hi, by omega, (Weak.auto hcx rfl rfl (Nat.le_of_ble_eq_true rfl) (by simp [go_sem, gL, kL, renOf, V.obj, lk, Nat.blt, Nat.ble, List.map_append, dv_push, hBi]) (by simp [go_sem, gL, kL, renOf, V.obj, lk, Nat.blt, Nat.ble, List.map_append, dv_push, hBi]) (by first | (intro i hi; exact absurd hi (Nat.not_lt_zero _)) | (intro i0 hi0; match i0, hi0 with | 0, _ => exact ⟨_, rfl⟩ | n0+1, h0 => exact absurd h0 (Nat.not_lt.2 (Nat.le_add_left 1 n0))) | (intro i0 hi0; match i0, hi0 with | 0, _ => exact ⟨_, rfl⟩ | 1, _ => exact ⟨_, rfl⟩ | n0+2, h0 => exact absurd h0 (Nat.not_lt.2 (Nat.le_add_left 2 n0))) | (intro i0 hi0; match i0, hi0 with | 0, _ => exact ⟨_, rfl⟩ | 1, _ => exact ⟨_, rfl⟩ | 2, _ => exact ⟨_, rfl⟩ | n0+3, h0 => exact absurd h0 (Nat.not_lt.2 (Nat.le_add_left 3 n0))) | (intro i0 hi0; match i0, hi0 with | 0, _ => exact ⟨_, rfl⟩ | 1, _ => exact ⟨_, rfl⟩ | 2, _ => exact ⟨_, rfl⟩ | 3, _ => exact ⟨_, rfl⟩ | n0+4, h0 => exact absurd h0 (Nat.not_lt.2 (Nat.le_add_left 4 n0)))) (by simp [go_sem, gL, kL, lk, renOf, V.obj, Nat.blt, Nat.ble, hBi]))⟩
          · rw [if_neg hc] at hBi
            repeat' (first | (refine AW.sreg rfl fun K hK => ?_; simp only [go_sem, Nat.reduceAdd, Nat.reduceMul, Int.reduceToNat, Nat.reduceLT, Nat.reduceLeDiff, Nat.le_refl, Nat.reduceEqDiff, ↓reduceIte, beq_self_eq_true, bne_self_eq_false, Int.reduceBEq, Int.reduceBNe, or_self, true_or, or_true, Option.map_some, Option.map_none, hb1, hand]) | (refine AW.sregD hmix rfl fun K hK => ?_; simp only [go_sem, Nat.reduceAdd, Nat.reduceMul, Int.reduceToNat, Nat.reduceLT, Nat.reduceLeDiff, Nat.le_refl, Nat.reduceEqDiff, ↓reduceIte, beq_self_eq_true, bne_self_eq_false, Int.reduceBEq, Int.reduceBNe, or_self, true_or, or_true, Option.map_some, Option.map_none, hb1, hand]) | (refine AW.reg rfl ?_; simp only [go_sem, Nat.reduceAdd, Nat.reduceMul, Int.reduceToNat, Nat.reduceLT, Nat.reduceLeDiff, Nat.le_refl, Nat.reduceEqDiff, ↓reduceIte, beq_self_eq_true, bne_self_eq_false, Int.reduceBEq, Int.reduceBNe, or_self, true_or, or_true, Option.map_some, Option.map_none, hb1, hand]) | (refine AW.seq_k fun K hK => ?_) | (refine AW.block ?_) | (refine AW.skip ?_; simp only [Then, InBlock]) | (refine AW.condT rfl (by first | rfl | (simp; omega) | (simp [*]; done) | fail) ?_) | (refine AW.condF rfl (by first | rfl | (simp; omega) | (simp [*]; done) | fail) ?_) | (refine hK _ ?_; clear hK K) | (refine stepB_split (fun h => ?_) (fun h => ?_) <;> (have hb0 := h) <;> (try simp only [Bool.not_eq_true', Bool.not_eq_false'] at hb0) <;> (try simp only [decide_eq_true_eq, decide_eq_false_iff_not, Bool.not_eq_true', Bool.not_eq_false', Bool.not_eq_eq_eq_not, Bool.not_true, Bool.not_false, beq_iff_eq, bne_iff_ne, beq_eq_false_iff_ne, ne_eq, Bool.and_eq_true, Bool.or_eq_true, Bool.or_eq_false_iff] at h) <;> simp only [go_sem, Nat.reduceAdd, Nat.reduceMul, Int.reduceToNat, Nat.reduceLT, Nat.reduceLeDiff, Nat.le_refl, Nat.reduceEqDiff, ↓reduceIte, beq_self_eq_true, bne_self_eq_false, Int.reduceBEq, Int.reduceBNe, or_self, true_or, or_true, Option.map_some, Option.map_none, hb0, h, decide_true, decide_false, hb1, hand] <;> (try clear hb0)) | (with_reducible refine And.intro (?_ : regOk _ _ = true) ?_; kernel_rfl) | (refine runT_call _ _ [0, 1] (fun hv hag => (hbt).robjs [0, 1] ⟨((hag 0 (by simp)).trans (by first | rfl | (simp [go_sem]; done) | (simp [go_sem]; rfl))), ((hag 1 (by simp)).trans (by first | rfl | (simp [go_sem]; done) | (simp [go_sem]; rfl))), trivial⟩ rfl (by decide) (by simp) (by simp) (by simp [go_sem]) (by simp [go_sem]) (by simp [go_sem]) (by simp [go_sem])) rfl rfl (dstOk_of rfl) rfl rfl ?_; simp only [go_sem, Nat.reduceAdd, Nat.reduceMul, Int.reduceToNat, Nat.reduceLT, Nat.reduceLeDiff, Nat.le_refl, Nat.reduceEqDiff, ↓reduceIte, beq_self_eq_true, bne_self_eq_false, Int.reduceBEq, Int.reduceBNe, or_self, true_or, or_true, Option.map_some, Option.map_none, hb1, hand]) | (refine runT_call _ _ [0, 1] (fun hv hag => (hrec).robjs [0, 1] ⟨((hag 0 (by simp)).trans (by first | rfl | (simp [go_sem]; done) | (simp [go_sem]; rfl))), ((hag 1 (by simp)).trans (by first | rfl | (simp [go_sem]; done) | (simp [go_sem]; rfl))), trivial⟩ rfl (by decide) (by simp) (by simp) (by simp [go_sem]) (by simp [go_sem]) (by simp [go_sem]) (by simp [go_sem])) rfl rfl (dstOk_of rfl) rfl rfl ?_; simp only [go_sem, Nat.reduceAdd, Nat.reduceMul, Int.reduceToNat, Nat.reduceLT, Nat.reduceLeDiff, Nat.le_refl, Nat.reduceEqDiff, ↓reduceIte, beq_self_eq_true, bne_self_eq_false, Int.reduceBEq, Int.reduceBNe, or_self, true_or, or_true, Option.map_some, Option.map_none, hb1, hand]) | (with_reducible refine And.intro ?_ ?_; first | omega | assumption | (focus (decide)) | (focus (simp; done)) | (focus (simp; omega)) | (focus (constructor <;> omega)) | fail) | (exfalso; omega))
            all_goals first | (exfalso; omega) | exact ⟨i + 1, hi, by omega, (Weak.auto hcx rfl rfl (Nat.le_of_ble_eq_true rfl) (by simp [go_sem, gL, kL, renOf, V.obj, lk, Nat.blt, Nat.ble, List.map_append, dv_push, hBi]) (by simp [go_sem, gL, kL, renOf, V.obj, lk, Nat.blt, Nat.ble, List.map_append, dv_push, hBi]) (by first | (intro i hi; exact absurd hi (Nat.not_lt_zero _)) | (intro i0 hi0; match i0, hi0 with | 0, _ => exact ⟨_, rfl⟩ | n0+1, h0 => exact absurd h0 (Nat.not_lt.2 (Nat.le_add_left 1 n0))) | (intro i0 hi0; match i0, hi0 with | 0, _ => exact ⟨_, rfl⟩ | 1, _ => exact ⟨_, rfl⟩ | n0+2, h0 => exact absurd h0 (Nat.not_lt.2 (Nat.le_add_left 2 n0))) | (intro i0 hi0; match i0, hi0 with | 0, _ => exact ⟨_, rfl⟩ | 1, _ => exact ⟨_, rfl⟩ | 2, _ => exact ⟨_, rfl⟩ | n0+3, h0 => exact absurd h0 (Nat.not_lt.2 (Nat.le_add_left 3 n0))) | (intro i0 hi0; match i0, hi0 with | 0, _ => exact ⟨_, rfl⟩ | 1, _ => exact ⟨_, rfl⟩ | 2, _ => exact ⟨_, rfl⟩ | 3, _ => exact ⟨_, rfl⟩ | n0+4, h0 => exact absurd h0 (Nat.not_lt.2 (Nat.le_add_left 4 n0)))) (by simp [go_sem, gL, kL, lk, renOf, V.obj, Nat.blt, Nat.ble, hBi]))⟩
        · rw [if_neg hb] at hb1
          have hEi := hEs i
          have hBi := hBs i
          rw [if_neg hb] at hEi hBi
          repeat' (first | (refine AW.sreg rfl fun K hK => ?_; simp only [go_sem, Nat.reduceAdd, Nat.reduceMul, Int.reduceToNat, Nat.reduceLT, Nat.reduceLeDiff, Nat.le_refl, Nat.reduceEqDiff, ↓reduceIte, beq_self_eq_true, bne_self_eq_false, Int.reduceBEq, Int.reduceBNe, or_self, true_or, or_true, Option.map_some, Option.map_none, hb1]) | (refine AW.reg rfl ?_; simp only [go_sem, Nat.reduceAdd, Nat.reduceMul, Int.reduceToNat, Nat.reduceLT, Nat.reduceLeDiff, Nat.le_refl, Nat.reduceEqDiff, ↓reduceIte, beq_self_eq_true, bne_self_eq_false, Int.reduceBEq, Int.reduceBNe, or_self, true_or, or_true, Option.map_some, Option.map_none, hb1]) | (refine AW.seq_k fun K hK => ?_) | (refine AW.block ?_) | (refine AW.skip ?_; simp only [Then, InBlock]) | (refine AW.exit ?_; simp only [go_sem, ↓reduceIte]) | (refine AW.condT rfl (by first | rfl | (simp; omega) | (simp [*]; done) | fail) ?_) | (refine hK _ ?_; clear hK K) | (clear hK K; refine hK _ ?_; clear hK K) | (with_reducible refine And.intro ?_ ?_; first | omega | assumption | (focus (decide)) | (focus (simp; done)) | (focus (simp; omega)) | (focus (constructor <;> omega)) | fail))
          exact ⟨i + 1, hi, by omega, (Weak.auto hcx rfl rfl (Nat.le_of_ble_eq_true rfl) (by simp [go_sem, gL, kL, renOf, V.obj, lk, Nat.blt, Nat.ble, List.map_append, dv_push, hBi, hEi]) (by simp [go_sem, gL, kL, renOf, V.obj, lk, Nat.blt, Nat.ble, List.map_append, dv_push, hBi, hEi]) (by first | (intro i hi; exact absurd hi (Nat.not_lt_zero _)) | (intro i0 hi0; match i0, hi0 with | 0, _ => exact ⟨_, rfl⟩ | n0+1, h0 => exact absurd h0 (Nat.not_lt.2 (Nat.le_add_left 1 n0))) | (intro i0 hi0; match i0, hi0 with | 0, _ => exact ⟨_, rfl⟩ | 1, _ => exact ⟨_, rfl⟩ | n0+2, h0 => exact absurd h0 (Nat.not_lt.2 (Nat.le_add_left 2 n0))) | (intro i0 hi0; match i0, hi0 with | 0, _ => exact ⟨_, rfl⟩ | 1, _ => exact ⟨_, rfl⟩ | 2, _ => exact ⟨_, rfl⟩ | n0+3, h0 => exact absurd h0 (Nat.not_lt.2 (Nat.le_add_left 3 n0))) | (intro i0 hi0; match i0, hi0 with | 0, _ => exact ⟨_, rfl⟩ | 1, _ => exact ⟨_, rfl⟩ | 2, _ => exact ⟨_, rfl⟩ | 3, _ => exact ⟨_, rfl⟩ | n0+4, h0 => exact absurd h0 (Nat.not_lt.2 (Nat.le_add_left 4 n0)))) (by simp [go_sem, gL, kL, lk, renOf, V.obj, Nat.blt, Nat.ble, hBi, hEi]))⟩
      · obtain rfl : i = ids.length := by omega
        rw [hBf]
        cases hfj : (ES ids.length).findIdx? (qK ((left : Int), last)) with
        | none =>
          have hf2 : fndK (.agg [.int .i64 (left : Int), .int .i64 last]) ((ES ids.length).map keyE) = some none := by rw [fndK_key, hfj]
          have hp : putS (ES ids.length) (left, last) (G (Li L ids) ids.length left last) = ES ids.length ++ [(((left : Int), last), G (Li L ids) ids.length left last)] := by simp [putS, hfj]
          rw [hp]
          repeat' (first | (refine AW.sreg rfl fun K hK => ?_; simp only [go_sem, Nat.reduceAdd, Nat.reduceMul, Int.reduceToNat, Nat.reduceLT, Nat.reduceLeDiff, Nat.le_refl, Nat.reduceEqDiff, ↓reduceIte, beq_self_eq_true, bne_self_eq_false, Int.reduceBEq, Int.reduceBNe, or_self, true_or, or_true, Option.map_some, Option.map_none, hf2]) | (refine AW.sregD hmix rfl fun K hK => ?_; simp only [go_sem, Nat.reduceAdd, Nat.reduceMul, Int.reduceToNat, Nat.reduceLT, Nat.reduceLeDiff, Nat.le_refl, Nat.reduceEqDiff, ↓reduceIte, beq_self_eq_true, bne_self_eq_false, Int.reduceBEq, Int.reduceBNe, or_self, true_or, or_true, Option.map_some, Option.map_none, hf2]) | (refine AW.seq_k fun K hK => ?_) | (refine AW.exit ?_; simp only [go_sem, ↓reduceIte]) | (refine AW.condF rfl (by first | rfl | (simp; omega) | (simp [*]; done) | fail) ?_) | (refine hK _ ?_; clear hK K) | (clear hK K; refine hK _ ?_; clear hK K) | (with_reducible refine And.intro (?_ : regOk _ _ = true) ?_; kernel_rfl))
          exact AW.ret (Fin.objs [0, 1] rfl (by simp [go_sem, inI, gI]) ⟨⟨_, rfl, by simp [go_sem, inI, gI]⟩, ⟨_, rfl, by simp [go_sem, inI, gI, frzL_appV, hp, dv_push]⟩, trivial⟩ (by simp) rfl (by simp [go_sem]) (by simp [go_sem, belL_dv]) rfl)
        | some j =>
          have hf2 : fndK (.agg [.int .i64 (left : Int), .int .i64 last]) ((ES ids.length).map keyE) = some (some j) := by rw [fndK_key, hfj]
          have hp : putS (ES ids.length) (left, last) (G (Li L ids) ids.length left last) = (ES ids.length).set j (((left : Int), last), G (Li L ids) ids.length left last) := by simp [putS, hfj]
          have hkp := keys_put hfj (G (Li L ids) ids.length left last)
          rw [hp]
          have hsv : (dv ((ES ids.length).map fun e => D.int .i64 e.2)).set j (.d (.int .i64 (G (Li L ids) ids.length left last))) = dv (((ES ids.length).set j (((left : Int), last), G (Li L ids) ids.length left last)).map fun e => D.int .i64 e.2) := by simp [dv, List.map_set]
          repeat' (first | (refine AW.sreg rfl fun K hK => ?_; simp only [go_sem, Nat.reduceAdd, Nat.reduceMul, Int.reduceToNat, Nat.reduceLT, Nat.reduceLeDiff, Nat.le_refl, Nat.reduceEqDiff, ↓reduceIte, beq_self_eq_true, bne_self_eq_false, Int.reduceBEq, Int.reduceBNe, or_self, true_or, or_true, Option.map_some, Option.map_none, hf2, hsv]) | (refine AW.sregD hmix rfl fun K hK => ?_; simp only [go_sem, Nat.reduceAdd, Nat.reduceMul, Int.reduceToNat, Nat.reduceLT, Nat.reduceLeDiff, Nat.le_refl, Nat.reduceEqDiff, ↓reduceIte, beq_self_eq_true, bne_self_eq_false, Int.reduceBEq, Int.reduceBNe, or_self, true_or, or_true, Option.map_some, Option.map_none, hf2, hsv]) | (refine AW.seq_k fun K hK => ?_) | (refine AW.exit ?_; simp only [go_sem, ↓reduceIte]) | (refine AW.condF rfl (by first | rfl | (simp; omega) | (simp [*]; done) | fail) ?_) | (refine hK _ ?_; clear hK K) | (clear hK K; refine hK _ ?_; clear hK K) | (with_reducible refine And.intro (?_ : regOk _ _ = true) ?_; kernel_rfl))
          exact AW.ret (Fin.objs [0, 1] rfl (by simp [go_sem, inI, gI]) ⟨⟨_, rfl, by simp [go_sem, inI, gI]⟩, ⟨_, rfl, by simp [go_sem, inI, gI, hp, hkp, hsv]⟩, trivial⟩ (by simp) rfl (by simp [go_sem]) (by simp [go_sem, belL_dv]) rfl)
end
end Go.AX
