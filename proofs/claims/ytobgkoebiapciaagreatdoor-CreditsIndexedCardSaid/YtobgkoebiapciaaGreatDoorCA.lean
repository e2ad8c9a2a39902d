/- Small functions: remainders, draws. -/
import Derived.Test.YtobgkoebiapciaaGreatDoorTk
import Derived.Lib.Bytealg
import Derived.Test.YtobgkoebiapciaaGreatDoorSk
import Derived.Test.YtobgkoebiapciaaGreatDoorAx32
set_option linter.unusedSimpArgs false
set_option linter.unusedVariables false
set_option maxRecDepth 100000
set_option maxHeartbeats 4000000
set_option linter.unnecessarySimpa false
set_option maxRecDepth 1000000
namespace Go.AX
open Go Go.Proofs
abbrev I (n : Int) : V := .d (.int .i64 n)
abbrev B (b : Bool) : V := .d (.bool b)
abbrev S (s : List UInt8) : V := .d (.str s)

/-- A call of a function that is handed two objects. -/
theorem Does.two {P : Program} {f : FuncId} {ys ys' : List V} {x : V} {o o' q q' : O} (hd : Does P f ys [o, q] x [o', q']) (id jd : Nat) (hne : id ≠ jd) {hv : Nat → Option O} {nid : Nat} (h1 : renL (gOf [id, jd] nid) ys = ys') (hid : hv id = some o) (hjd : hv jd = some q)
    (h2 : x.ren (gOf [id, jd] nid) = x) (h3 : o'.ren (gOf [id, jd] nid) = o') (h4 : o.ren (gOf [id, jd] nid) = o) (h5 : q'.ren (gOf [id, jd] nid) = q') (h6 : q.ren (gOf [id, jd] nid) = q) (hb : ys.all (V.bel 2) = true) (hbo : o.bel 2 = true) (hbq : q.bel 2 = true) (hbx : x.bel 2 = true) (hbo' : o'.bel 2 = true) (hbq' : q'.bel 2 = true) (hl : o'.lv = some o') (hl2 : q'.lv = some q') :
    CallStep P hv nid f ys' x [(id, some o'), (jd, some q')] := by
  have := CallStep.of_does hd (hv := hv) (nid := nid) [id, jd] rfl (by simp [hne]) (fun i r hr => by
    cases i with
    | zero => simp at hr; subst hr; rw [h4]; exact hid
    | succ i =>
      cases i with
      | zero => simp at hr; subst hr; rw [h6]; exact hjd
      | succ i => simp at hr) (Nat.le_refl _) (by simp) hb (by simp [hbo, hbq]) hbx (by simp [hbo', hbq'])
  rw [h1, h2] at this
  have e : updsOf (gOf [id, jd] nid) 0 [o', q'] = [(id, some o'), (jd, some q')] := by
    simp only [updsOf, h3, hl, h5, hl2]; rfl
  rwa [e] at this

theorem tmod_neg (x n : Int) (hn : 0 < n) (h : x.tmod n < 0) : x.tmod n + n = x % n ∧ -n < x.tmod n := by
  have h2 := Int.emod_nonneg x (show n ≠ 0 by omega)
  have h3 := Int.emod_lt_of_pos x hn
  have hs : (n.natAbs : Int) = n := by omega
  rw [Int.tmod_eq_emod, hs] at *
  by_cases hc : 0 ≤ x ∨ n ∣ x
  · rw [if_pos hc] at h; omega
  · rw [if_neg hc] at *; omega
theorem tmod_pos (x n : Int) (hn : 0 < n) (h : ¬ x.tmod n < 0) : x.tmod n = x % n := by
  have h2 := Int.emod_nonneg x (show n ≠ 0 by omega)
  have h3 := Int.emod_lt_of_pos x hn
  have hs : (n.natAbs : Int) = n := by omega
  rw [Int.tmod_eq_emod, hs] at *
  by_cases hc : 0 ≤ x ∨ n ∣ x
  · rw [if_pos hc]; omega
  · rw [if_neg hc] at *; omega

theorem below (x n : Int) (h1 : 1 ≤ n) (h2 : n ≤ 9223372036854775807) : Does Tryz.prog 73 [I x, I n] [] (I (x % n)) [] := by
  refine Does.of_AW (n := 16) Tryz.func73 rfl rfl rfl fun cx hcx => ?_
  have a1 : ¬ n < 1 := by omega
  have a2 : n ≠ 0 := by omega
  refine AW.sreg rfl fun K hK => ?_; simp only [go_sem, Nat.reduceAdd, Nat.reduceMul, Int.reduceToNat, Nat.reduceLT, Nat.reduceLeDiff, Nat.le_refl, Nat.reduceEqDiff, ↓reduceIte, beq_self_eq_true, bne_self_eq_false, Int.reduceBEq, Int.reduceBNe, or_self, true_or, or_true, Option.map_some, Option.map_none]
  refine hK _ ?_; (try clear hK K)
  refine AW.seq_k fun K1 hK1 => ?_
  refine AW.sreg rfl fun K hK => ?_; simp only [go_sem, Nat.reduceAdd, Nat.reduceMul, Int.reduceToNat, Nat.reduceLT, Nat.reduceLeDiff, Nat.le_refl, Nat.reduceEqDiff, ↓reduceIte, beq_self_eq_true, bne_self_eq_false, Int.reduceBEq, Int.reduceBNe, or_self, true_or, or_true, Option.map_some, Option.map_none]
  refine hK _ ?_; (try clear hK K)
  refine AW.condF rfl (decide_eq_false a1) (AW.skip (hK1 _ ?_))
  refine AW.sreg rfl fun K hK => ?_; simp only [go_sem, Nat.reduceAdd, Nat.reduceMul, Int.reduceToNat, Nat.reduceLT, Nat.reduceLeDiff, Nat.le_refl, Nat.reduceEqDiff, ↓reduceIte, beq_self_eq_true, bne_self_eq_false, Int.reduceBEq, Int.reduceBNe, or_self, true_or, or_true, Option.map_some, Option.map_none]
  refine ⟨a2, ?_⟩
  refine hK _ ?_; (try clear hK K)
  refine AW.seq_k fun K1 hK1 => ?_
  refine AW.sreg rfl fun K hK => ?_; simp only [go_sem, Nat.reduceAdd, Nat.reduceMul, Int.reduceToNat, Nat.reduceLT, Nat.reduceLeDiff, Nat.le_refl, Nat.reduceEqDiff, ↓reduceIte, beq_self_eq_true, bne_self_eq_false, Int.reduceBEq, Int.reduceBNe, or_self, true_or, or_true, Option.map_some, Option.map_none]
  refine hK _ ?_; (try clear hK K)
  refine AW.cond rfl (fun h => ?_) (fun h => ?_)
  · have h := of_decide_eq_true h
    obtain ⟨e1, e2⟩ := tmod_neg x n (by omega) h
    refine AW.reg rfl ?_
    simp only [go_sem, Nat.reduceAdd, Nat.reduceMul, Int.reduceToNat, Nat.reduceLT, Nat.reduceLeDiff, Nat.le_refl, Nat.reduceEqDiff, ↓reduceIte, beq_self_eq_true, bne_self_eq_false, Int.reduceBEq, Int.reduceBNe, or_self, true_or, or_true, Option.map_some, Option.map_none]
    refine ⟨by omega, hK1 _ ?_⟩
    refine AW.sreg rfl fun K hK => ?_; simp only [go_sem, Nat.reduceAdd, Nat.reduceMul, Int.reduceToNat, Nat.reduceLT, Nat.reduceLeDiff, Nat.le_refl, Nat.reduceEqDiff, ↓reduceIte, beq_self_eq_true, bne_self_eq_false, Int.reduceBEq, Int.reduceBNe, or_self, true_or, or_true, Option.map_some, Option.map_none]
    exact hK _ (AW.ret (Fin.data rfl (by simp [go_sem, e1]) rfl))
  · have h := of_decide_eq_false h
    have e1 := tmod_pos x n (by omega) h
    refine AW.skip (hK1 _ ?_)
    refine AW.sreg rfl fun K hK => ?_; simp only [go_sem, Nat.reduceAdd, Nat.reduceMul, Int.reduceToNat, Nat.reduceLT, Nat.reduceLeDiff, Nat.le_refl, Nat.reduceEqDiff, ↓reduceIte, beq_self_eq_true, bne_self_eq_false, Int.reduceBEq, Int.reduceBNe, or_self, true_or, or_true, Option.map_some, Option.map_none]
    exact hK _ (AW.ret (Fin.data rfl (by simp [go_sem, e1]) rfl))

def nextV (l : List Int) (at_ n : Int) : Int :=
  if l = [] then (at_ + 1) * 7919 % n else
    let i := at_ % (l.length : Int)
    ((l.getD i.toNat 0) % 1073741824 + at_ / (l.length : Int) * (7919 + i)) % n
abbrev Ls (l : List Int) : V := .d (.sl (l.map (D.int .i64)))


theorem next_nil (at_ n : Int) (h1 : 1 ≤ n) (h2 : n ≤ 9223372036854775807) (ha : 0 ≤ at_) (hb : at_ ≤ 1000000) :
    Does Tryz.prog 35 [.ptr 0 0, I n] [.box 25 [Ls [], I at_]] (I (nextV [] at_ n)) [.box 25 [Ls [], I (at_ + 1)]] := by
  refine Does.of_AW (n := 64) Tryz.func35 rfl rfl rfl fun cx hcx => ?_
  refine AW.sreg rfl fun K hK => ?_; simp only [go_sem, Nat.reduceAdd, Nat.reduceMul, Int.reduceToNat, Nat.reduceLT, Nat.reduceLeDiff, Nat.le_refl, Nat.reduceEqDiff, ↓reduceIte, beq_self_eq_true, bne_self_eq_false, Int.reduceBEq, Int.reduceBNe, or_self, true_or, or_true, Option.map_some, Option.map_none]
  refine hK _ ?_; (try clear hK K)
  refine AW.sreg rfl fun K hK => ?_; simp only [go_sem, Nat.reduceAdd, Nat.reduceMul, Int.reduceToNat, Nat.reduceLT, Nat.reduceLeDiff, Nat.le_refl, Nat.reduceEqDiff, ↓reduceIte, beq_self_eq_true, bne_self_eq_false, Int.reduceBEq, Int.reduceBNe, or_self, true_or, or_true, Option.map_some, Option.map_none]
  refine ⟨by omega, ?_⟩
  refine hK _ ?_; (try clear hK K)
  refine AW.seq_k fun K1 hK1 => ?_
  refine AW.sreg rfl fun K hK => ?_; simp only [go_sem, Nat.reduceAdd, Nat.reduceMul, Int.reduceToNat, Nat.reduceLT, Nat.reduceLeDiff, Nat.le_refl, Nat.reduceEqDiff, ↓reduceIte, beq_self_eq_true, bne_self_eq_false, Int.reduceBEq, Int.reduceBNe, or_self, true_or, or_true, Option.map_some, Option.map_none]
  refine hK _ ?_; (try clear hK K)
  refine AW.condT rfl (by rfl) ?_
  refine AW.sreg rfl fun K hK => ?_; simp only [go_sem, Nat.reduceAdd, Nat.reduceMul, Int.reduceToNat, Nat.reduceLT, Nat.reduceLeDiff, Nat.le_refl, Nat.reduceEqDiff, ↓reduceIte, beq_self_eq_true, bne_self_eq_false, Int.reduceBEq, Int.reduceBNe, or_self, true_or, or_true, Option.map_some, Option.map_none]
  refine ⟨by omega, ?_⟩
  refine run_call _ _ _ ((below ((at_ + 1) * 7919) n h1 h2).pure rfl rfl _ _) rfl rfl (dstOk_of rfl) rfl rfl rfl ?_
  simp only [go_sem, Nat.reduceAdd, Nat.reduceMul, Int.reduceToNat, Nat.reduceLT, Nat.reduceLeDiff, Nat.le_refl, Nat.reduceEqDiff, ↓reduceIte, beq_self_eq_true, bne_self_eq_false, Int.reduceBEq, Int.reduceBNe, or_self, true_or, or_true, Option.map_some, Option.map_none]
  refine hK _ (AW.ret (Fin.one rfl rfl ⟨_, rfl, rfl⟩ rfl rfl rfl))

theorem next_cons (l : List Int) (hl : l ≠ []) (hl2 : l.length ≤ 9223372036854775807) (at_ n : Int) (h1 : 1 ≤ n) (h2 : n ≤ 9223372036854775807) (ha : 0 ≤ at_) (hb : at_ ≤ 1000000) :
    Does Tryz.prog 35 [.ptr 0 0, I n] [.box 25 [Ls l, I at_]] (I (nextV l at_ n)) [.box 25 [Ls l, I (at_ + 1)]] := by
  have hpos : 0 < l.length := List.length_pos_iff.2 hl
  have e1 : ((l.length : Int) == 0) = false := by simp; omega
  have i0 := Int.emod_nonneg at_ (show (l.length : Int) ≠ 0 by omega)
  have i1 := Int.emod_lt_of_pos at_ (show (0 : Int) < l.length by omega)
  have t1 : (at_ + 1 - 1).tmod l.length = at_ % (l.length : Int) := by rw [Int.add_sub_cancel]; exact Int.tmod_eq_emod_of_nonneg ha
  have t2 : (at_ + 1 - 1).tdiv l.length = at_ / (l.length : Int) := by rw [Int.add_sub_cancel]; exact Int.tdiv_eq_ediv_of_nonneg ha
  have hlt : (at_ % (l.length : Int)).toNat < l.length := by omega
  have hget : (l.map (D.int .i64))[(at_ % (l.length : Int)).toNat]? = some (D.int .i64 (l.getD (at_ % (l.length : Int)).toNat 0)) := by
    simp [List.getElem?_eq_getElem hlt]
  refine Does.of_AW (n := 64) Tryz.func35 rfl rfl rfl fun cx hcx => ?_
  refine AW.sreg rfl fun K hK => ?_; simp only [go_sem, Nat.reduceAdd, Nat.reduceMul, Int.reduceToNat, Nat.reduceLT, Nat.reduceLeDiff, Nat.le_refl, Nat.reduceEqDiff, ↓reduceIte, beq_self_eq_true, bne_self_eq_false, Int.reduceBEq, Int.reduceBNe, or_self, true_or, or_true, Option.map_some, Option.map_none]
  refine hK _ ?_; (try clear hK K)
  refine AW.sreg rfl fun K hK => ?_; simp only [go_sem, Nat.reduceAdd, Nat.reduceMul, Int.reduceToNat, Nat.reduceLT, Nat.reduceLeDiff, Nat.le_refl, Nat.reduceEqDiff, ↓reduceIte, beq_self_eq_true, bne_self_eq_false, Int.reduceBEq, Int.reduceBNe, or_self, true_or, or_true, Option.map_some, Option.map_none]
  refine ⟨by omega, ?_⟩
  refine hK _ ?_; (try clear hK K)
  refine AW.seq_k fun K1 hK1 => ?_
  refine AW.sreg rfl fun K hK => ?_; simp only [go_sem, Nat.reduceAdd, Nat.reduceMul, Int.reduceToNat, Nat.reduceLT, Nat.reduceLeDiff, Nat.le_refl, Nat.reduceEqDiff, ↓reduceIte, beq_self_eq_true, bne_self_eq_false, Int.reduceBEq, Int.reduceBNe, or_self, true_or, or_true, Option.map_some, Option.map_none, List.length_map]
  refine hK _ ?_; (try clear hK K)
  refine AW.condF rfl e1 (AW.skip (hK1 _ ?_))
  refine AW.sregD hmix rfl fun K hK => ?_; simp only [go_sem, Nat.reduceAdd, Nat.reduceMul, Int.reduceToNat, Nat.reduceLT, Nat.reduceLeDiff, Nat.le_refl, Nat.reduceEqDiff, ↓reduceIte, beq_self_eq_true, bne_self_eq_false, Int.reduceBEq, Int.reduceBNe, or_self, true_or, or_true, Option.map_some, Option.map_none, List.length_map]
  refine ⟨by omega, by omega, by kernel_rfl, ?_⟩
  refine hK _ ?_; (try clear hK K)
  have t3 : 0 ≤ at_ / (l.length : Int) := Int.ediv_nonneg ha (by omega)
  have t4 : at_ / (l.length : Int) ≤ at_ := Int.ediv_le_self _ ha
  refine AW.sregD hmix rfl fun K hK => ?_; simp only [go_sem, Nat.reduceAdd, Nat.reduceMul, Int.reduceToNat, Nat.reduceLT, Nat.reduceLeDiff, Nat.le_refl, Nat.reduceEqDiff, ↓reduceIte, beq_self_eq_true, bne_self_eq_false, Int.reduceBEq, Int.reduceBNe, or_self, true_or, or_true, Option.map_some, Option.map_none, List.length_map, t1, t2]
  refine ⟨by omega, ⟨by omega, by omega, by omega⟩, by kernel_rfl, ?_⟩
  refine hK _ ?_; (try clear hK K)
  have i2 : at_ % (l.length : Int) ≤ at_ := by
    have q1 := Int.mul_ediv_add_emod at_ (l.length : Int)
    have q2 := Int.mul_nonneg (show 0 ≤ (l.length : Int) by omega) t3
    omega
  refine AW.sreg rfl fun K hK => ?_; simp only [go_sem, Nat.reduceAdd, Nat.reduceMul, Int.reduceToNat, Nat.reduceLT, Nat.reduceLeDiff, Nat.le_refl, Nat.reduceEqDiff, ↓reduceIte, beq_self_eq_true, bne_self_eq_false, Int.reduceBEq, Int.reduceBNe, or_self, true_or, or_true, Option.map_some, Option.map_none, t1, t2, hget]
  refine ⟨i0, ?_⟩
  refine run_call _ _ _ ((below (l.getD (at_ % (l.length : Int)).toNat 0) 1073741824 (by omega) (by omega)).pure rfl rfl _ _) rfl rfl (dstOk_of rfl) rfl rfl rfl ?_
  simp only [go_sem, Nat.reduceAdd, Nat.reduceMul, Int.reduceToNat, Nat.reduceLT, Nat.reduceLeDiff, Nat.le_refl, Nat.reduceEqDiff, ↓reduceIte, beq_self_eq_true, bne_self_eq_false, Int.reduceBEq, Int.reduceBNe, or_self, true_or, or_true, Option.map_some, Option.map_none]
  have b0 := Int.emod_nonneg (l.getD (at_ % (l.length : Int)).toNat 0) (show (1073741824 : Int) ≠ 0 by omega)
  have b1 := Int.emod_lt_of_pos (l.getD (at_ % (l.length : Int)).toNat 0) (show (0 : Int) < 1073741824 by omega)
  have m0 : 0 ≤ at_ / (l.length : Int) * (7919 + at_ % (l.length : Int)) := Int.mul_nonneg t3 (by omega)
  have m1 : at_ / (l.length : Int) * (7919 + at_ % (l.length : Int)) ≤ 1000000 * 1007919 := Int.mul_le_mul (by omega) (by omega) (by omega) (by omega)
  refine ⟨by omega, by omega, by omega, ?_⟩
  refine run_call _ _ _ ((below _ n h1 h2).pure rfl rfl _ _) rfl rfl (dstOk_of rfl) rfl rfl rfl ?_
  simp only [go_sem, Nat.reduceAdd, Nat.reduceMul, Int.reduceToNat, Nat.reduceLT, Nat.reduceLeDiff, Nat.le_refl, Nat.reduceEqDiff, ↓reduceIte, beq_self_eq_true, bne_self_eq_false, Int.reduceBEq, Int.reduceBNe, or_self, true_or, or_true, Option.map_some, Option.map_none]
  refine hK _ (AW.ret (Fin.one rfl ?_ ⟨_, rfl, rfl⟩ rfl rfl rfl))
  simp only [go_sem, nextV, hl, if_false]

theorem next_any (l : List Int) (hl2 : l.length ≤ 9223372036854775807) (at_ n : Int) (h1 : 1 ≤ n) (h2 : n ≤ 9223372036854775807) (ha : 0 ≤ at_) (hb : at_ ≤ 1000000) :
    Does Tryz.prog 35 [.ptr 0 0, I n] [.box 25 [Ls l, I at_]] (I (nextV l at_ n)) [.box 25 [Ls l, I (at_ + 1)]] := by
  by_cases hl : l = []
  · subst hl; exact next_nil at_ n h1 h2 ha hb
  · exact next_cons l hl hl2 at_ n h1 h2 ha hb
theorem nextV_range (l : List Int) (at_ n : Int) (h1 : 1 ≤ n) : 0 ≤ nextV l at_ n ∧ nextV l at_ n < n := by
  unfold nextV
  split
  · exact ⟨Int.emod_nonneg _ (by omega), Int.emod_lt_of_pos _ (by omega)⟩
  · exact ⟨Int.emod_nonneg _ (by omega), Int.emod_lt_of_pos _ (by omega)⟩

theorem range_any (l : List Int) (hl2 : l.length ≤ 9223372036854775807) (at_ lo hi : Int) (h1 : lo ≤ hi) (h2 : -1000000000 ≤ lo) (h3 : hi ≤ 1000000000) (ha : 0 ≤ at_) (hb : at_ ≤ 1000000) :
    Does Tryz.prog 7 [.ptr 0 0, I lo, I hi] [.box 25 [Ls l, I at_]] (I (lo + nextV l at_ (hi - lo + 1))) [.box 25 [Ls l, I (at_ + 1)]] := by
  have hr := nextV_range l at_ (hi - lo + 1) (by omega)
  refine Does.of_AW (n := 19) Tryz.func7 rfl rfl rfl fun cx hcx => ?_
  refine AW.sreg rfl fun K hK => ?_; simp only [go_sem, Nat.reduceAdd, Nat.reduceMul, Int.reduceToNat, Nat.reduceLT, Nat.reduceLeDiff, Nat.le_refl, Nat.reduceEqDiff, ↓reduceIte, beq_self_eq_true, bne_self_eq_false, Int.reduceBEq, Int.reduceBNe, or_self, true_or, or_true, Option.map_some, Option.map_none]
  refine hK _ ?_; (try clear hK K)
  refine AW.seq_k fun K1 hK1 => ?_
  refine AW.sreg rfl fun K hK => ?_; simp only [go_sem, Nat.reduceAdd, Nat.reduceMul, Int.reduceToNat, Nat.reduceLT, Nat.reduceLeDiff, Nat.le_refl, Nat.reduceEqDiff, ↓reduceIte, beq_self_eq_true, bne_self_eq_false, Int.reduceBEq, Int.reduceBNe, or_self, true_or, or_true, Option.map_some, Option.map_none]
  refine hK _ ?_; (try clear hK K)
  refine AW.condF rfl (by simp; omega) (AW.skip (hK1 _ ?_))
  refine AW.sreg rfl fun K hK => ?_; simp only [go_sem, Nat.reduceAdd, Nat.reduceMul, Int.reduceToNat, Nat.reduceLT, Nat.reduceLeDiff, Nat.le_refl, Nat.reduceEqDiff, ↓reduceIte, beq_self_eq_true, bne_self_eq_false, Int.reduceBEq, Int.reduceBNe, or_self, true_or, or_true, Option.map_some, Option.map_none]
  refine ⟨by omega, by omega, ?_⟩
  refine run_call _ _ _ ((next_any l hl2 at_ (hi - lo + 1) (by omega) (by omega) ha hb).one 0 rfl rfl rfl rfl rfl rfl rfl rfl rfl rfl) rfl rfl (dstOk_of rfl) rfl rfl rfl ?_
  simp only [go_sem, Nat.reduceAdd, Nat.reduceMul, Int.reduceToNat, Nat.reduceLT, Nat.reduceLeDiff, Nat.le_refl, Nat.reduceEqDiff, ↓reduceIte, beq_self_eq_true, bne_self_eq_false, Int.reduceBEq, Int.reduceBNe, or_self, true_or, or_true, Option.map_some, Option.map_none]
  refine ⟨by omega, ?_⟩
  exact hK _ (AW.ret (Fin.one rfl rfl ⟨_, rfl, rfl⟩ rfl rfl rfl))


end Go.AX

namespace Go.AX
open Go Go.Proofs

/-- The end of a function that hands back data and leaves two objects that it was handed. -/
theorem Fin.two {P : Program} {fn : Func} {st : St} {x : V} {o q : O} {l : List V} (hl : resL P st.hv st.ev fn.results.toList = some l) (hx : frz st.hv (fun i => Nat.blt i 2) (resV l) = x.ren id) (ho : ∃ o', st.hv 0 = some o' ∧ o'.frz st.hv (fun i => Nat.blt i 2) = o.ren id) (hq : ∃ o', st.hv 1 = some o' ∧ o'.frz st.hv (fun i => Nat.blt i 2) = q.ren id)
    (hb : x.bel 2 = true) (hbo : o.bel 2 = true) (hbq : q.bel 2 = true) (hlv : o.lv = some o) (hlq : q.lv = some q) : Fin P fn 2 x [o, q] st := by
  refine ⟨id, fun i => Nat.blt i 2, l, hl, hx, ?_, .inl ?_, ?_, ?_, Nat.le_refl _, hb, by simp [hbo, hbq]⟩
  · intro i r hr
    obtain ⟨hr, _⟩ := hvL_get hr
    cases i with
    | zero => simp at hr; subst hr; exact ⟨rfl, ho⟩
    | succ i =>
      cases i with
      | zero => simp at hr; subst hr; exact ⟨rfl, hq⟩
      | succ i => simp at hr
  · intro i hi
    have : i = 0 ∨ i = 1 := by omega
    rcases this with rfl | rfl
    · exact ⟨o, hlv⟩
    · exact ⟨q, hlq⟩
  · intro i j hi hj h; simpa using h
  · intro i _; rfl

theorem flip_any (l : List Int) (hl2 : l.length ≤ 9223372036854775807) (at_ n : Int) (h1 : 1 ≤ n) (h2 : n ≤ 9223372036854775807) (ha : 0 ≤ at_) (hb : at_ ≤ 1000000) :
    Does Tryz.prog 38 [.ptr 0 0, I n] [.box 25 [Ls l, I at_]] (B (nextV l at_ n == 0)) [.box 25 [Ls l, I (at_ + 1)]] := by
  refine Does.of_AW (n := 9) Tryz.func38 rfl rfl rfl fun cx hcx => ?_
  refine AW.sreg rfl fun K hK => ?_; simp only [go_sem, Nat.reduceAdd, Nat.reduceMul, Int.reduceToNat, Nat.reduceLT, Nat.reduceLeDiff, Nat.le_refl, Nat.reduceEqDiff, ↓reduceIte, beq_self_eq_true, bne_self_eq_false, Int.reduceBEq, Int.reduceBNe, or_self, true_or, or_true, Option.map_some, Option.map_none]
  refine hK _ ?_; (try clear hK K)
  refine AW.sreg rfl fun K hK => ?_; simp only [go_sem, Nat.reduceAdd, Nat.reduceMul, Int.reduceToNat, Nat.reduceLT, Nat.reduceLeDiff, Nat.le_refl, Nat.reduceEqDiff, ↓reduceIte, beq_self_eq_true, bne_self_eq_false, Int.reduceBEq, Int.reduceBNe, or_self, true_or, or_true, Option.map_some, Option.map_none]
  refine run_call _ _ _ ((next_any l hl2 at_ n h1 h2 ha hb).one 0 rfl rfl rfl rfl rfl rfl rfl rfl rfl rfl) rfl rfl (dstOk_of rfl) rfl rfl rfl ?_
  simp only [go_sem, Nat.reduceAdd, Nat.reduceMul, Int.reduceToNat, Nat.reduceLT, Nat.reduceLeDiff, Nat.le_refl, Nat.reduceEqDiff, ↓reduceIte, beq_self_eq_true, bne_self_eq_false, Int.reduceBEq, Int.reduceBNe, or_self, true_or, or_true, Option.map_some, Option.map_none]
  exact hK _ (AW.ret (Fin.one rfl rfl ⟨_, rfl, rfl⟩ rfl rfl rfl))

abbrev SV (strs : List (List UInt8)) : O := .vec 9 1 (dv (strs.map D.str))
end Go.AX

namespace Go.AX
open Go Go.Proofs
abbrev Str := List UInt8
theorem get_some {α : Type} {l : List α} {i : Nat} (h : i < l.length) : ∃ x, l[i]? = some x ∧ x ∈ l ∧ l.drop i = x :: l.drop (i + 1) := ⟨l[i], List.getElem?_eq_getElem h, List.getElem_mem h, List.drop_eq_getElem_cons h⟩
theorem outside_any (n lo hi : Int) : Does Tryz.prog 44 [I n, I lo, I hi] [] (B (decide (n < lo) || decide (hi < n))) [] := by
  refine Does.of_AW (n := 15) Tryz.func44 rfl rfl rfl fun cx hcx => ?_
  repeat' (first | (refine AW.sreg rfl fun K hK => ?_; simp only [go_sem, Nat.reduceAdd, Nat.reduceMul, Int.reduceToNat, Nat.reduceLT, Nat.reduceLeDiff, Nat.le_refl, Nat.reduceEqDiff, ↓reduceIte, beq_self_eq_true, bne_self_eq_false, Int.reduceBEq, Int.reduceBNe, or_self, true_or, or_true, Option.map_some, Option.map_none]) | (refine hK _ ?_; clear hK K) | (refine stepB_split (fun h => ?_) (fun h => ?_) <;> (have hb0 := h) <;> (try simp only [Bool.not_eq_true', Bool.not_eq_false'] at hb0) <;> (try simp only [decide_eq_true_eq, decide_eq_false_iff_not, Bool.not_eq_true', Bool.not_eq_false', Bool.not_eq_eq_eq_not, Bool.not_true, Bool.not_false, beq_iff_eq, bne_iff_ne, beq_eq_false_iff_ne, ne_eq, Bool.and_eq_true, Bool.or_eq_true, Bool.or_eq_false_iff] at h) <;> simp only [go_sem, Nat.reduceAdd, Nat.reduceMul, Int.reduceToNat, Nat.reduceLT, Nat.reduceLeDiff, Nat.le_refl, Nat.reduceEqDiff, ↓reduceIte, beq_self_eq_true, bne_self_eq_false, Int.reduceBEq, Int.reduceBNe, or_self, true_or, or_true, Option.map_some, Option.map_none, hb0, h, decide_true, decide_false] <;> (try clear hb0)) | (refine AW.ret (Fin.data rfl (by first | (simp only [go_sem]; done) | (simp [go_sem, *]; done) | (simp [go_sem]; omega) | rfl) rfl)))
abbrev IV (ns : List Int) : O := .vec 3 1 (dv (ns.map (D.int .i64)))
theorem pick_any (l : List Int) (hl2 : l.length ≤ 9223372036854775807) (at_ : Int) (ha : 0 ≤ at_) (hb : at_ ≤ 1000000) (ns : List Int) (hs : ns ≠ []) (hs2 : ns.length ≤ 1000000) :
    Does Tryz.prog 36 [.ptr 0 0, .slr 1 0 ns.length] [.box 25 [Ls l, I at_], IV ns] (I (ns.getD (nextV l at_ ns.length).toNat 0)) [.box 25 [Ls l, I (at_ + 1)], IV ns] := by
  have hpos : 0 < ns.length := List.length_pos_iff.2 hs
  have hr := nextV_range l at_ ns.length (by omega)
  generalize hq : nextV l at_ ns.length = r at hr
  have hlt : r.toNat < ns.length := by omega
  have hget : (dv (ns.map (D.int .i64)))[0 + r.toNat]? = some (.d (.int .i64 (ns.getD r.toNat 0))) := by
    simp [dv, hlt]
  refine Does.of_AW (n := 12) Tryz.func36 rfl rfl rfl fun cx hcx => ?_
  refine AW.sreg rfl fun K hK => ?_; simp only [go_sem, Nat.reduceAdd, Nat.reduceMul, Int.reduceToNat, Nat.reduceLT, Nat.reduceLeDiff, Nat.le_refl, Nat.reduceEqDiff, ↓reduceIte, beq_self_eq_true, bne_self_eq_false, Int.reduceBEq, Int.reduceBNe, or_self, true_or, or_true, Option.map_some, Option.map_none]
  refine hK _ ?_; (try clear hK K)
  refine AW.sreg rfl fun K hK => ?_; simp only [go_sem, Nat.reduceAdd, Nat.reduceMul, Int.reduceToNat, Nat.reduceLT, Nat.reduceLeDiff, Nat.le_refl, Nat.reduceEqDiff, ↓reduceIte, beq_self_eq_true, bne_self_eq_false, Int.reduceBEq, Int.reduceBNe, or_self, true_or, or_true, Option.map_some, Option.map_none]
  have hn := next_any l hl2 at_ ns.length (by omega) (by omega) ha hb
  rw [hq] at hn
  refine run_call _ _ _ ((hn).one 0 rfl rfl rfl rfl rfl rfl rfl rfl rfl rfl) rfl rfl (dstOk_of rfl) rfl rfl rfl ?_
  simp only [go_sem, Nat.reduceAdd, Nat.reduceMul, Int.reduceToNat, Nat.reduceLT, Nat.reduceLeDiff, Nat.le_refl, Nat.reduceEqDiff, ↓reduceIte, beq_self_eq_true, bne_self_eq_false, Int.reduceBEq, Int.reduceBNe, or_self, true_or, or_true, Option.map_some, Option.map_none, hget]
  refine ⟨⟨hr.1, hr.2⟩, ?_⟩
  exact hK _ (AW.ret (Fin.two rfl rfl ⟨_, rfl, rfl⟩ ⟨_, rfl, by simp [go_sem]⟩ rfl rfl (belL_dv 2 _) rfl rfl))
theorem one10_any (l : List Int) (hl2 : l.length ≤ 9223372036854775807) (at_ : Int) (ha : 0 ≤ at_) (hb : at_ ≤ 1000000) (strs : List (List UInt8)) (hs : strs ≠ []) (hs2 : strs.length ≤ 1000000) :
    Does Tryz.prog 40 [.ptr 0 0, .slr 1 0 strs.length] [.box 25 [Ls l, I at_], SV strs] (S (strs.getD (nextV l at_ strs.length).toNat [])) [.box 25 [Ls l, I (at_ + 1)], SV strs] := by
  have hpos : 0 < strs.length := List.length_pos_iff.2 hs
  have hr := nextV_range l at_ strs.length (by omega)
  generalize hq : nextV l at_ strs.length = r at hr
  have hlt : r.toNat < strs.length := by omega
  have hget : (dv (strs.map D.str))[0 + r.toNat]? = some (.d (.str (strs.getD r.toNat []))) := by
    simp [dv, hlt]
  refine Does.of_AW (n := 12) Tryz.func40 rfl rfl rfl fun cx hcx => ?_
  refine AW.sreg rfl fun K hK => ?_; simp only [go_sem, Nat.reduceAdd, Nat.reduceMul, Int.reduceToNat, Nat.reduceLT, Nat.reduceLeDiff, Nat.le_refl, Nat.reduceEqDiff, ↓reduceIte, beq_self_eq_true, bne_self_eq_false, Int.reduceBEq, Int.reduceBNe, or_self, true_or, or_true, Option.map_some, Option.map_none]
  refine hK _ ?_; (try clear hK K)
  refine AW.sreg rfl fun K hK => ?_; simp only [go_sem, Nat.reduceAdd, Nat.reduceMul, Int.reduceToNat, Nat.reduceLT, Nat.reduceLeDiff, Nat.le_refl, Nat.reduceEqDiff, ↓reduceIte, beq_self_eq_true, bne_self_eq_false, Int.reduceBEq, Int.reduceBNe, or_self, true_or, or_true, Option.map_some, Option.map_none]
  have hn := next_any l hl2 at_ strs.length (by omega) (by omega) ha hb
  rw [hq] at hn
  refine run_call _ _ _ ((hn).one 0 rfl rfl rfl rfl rfl rfl rfl rfl rfl rfl) rfl rfl (dstOk_of rfl) rfl rfl rfl ?_
  simp only [go_sem, Nat.reduceAdd, Nat.reduceMul, Int.reduceToNat, Nat.reduceLT, Nat.reduceLeDiff, Nat.le_refl, Nat.reduceEqDiff, ↓reduceIte, beq_self_eq_true, bne_self_eq_false, Int.reduceBEq, Int.reduceBNe, or_self, true_or, or_true, Option.map_some, Option.map_none, hget]
  refine ⟨⟨hr.1, hr.2⟩, ?_⟩
  exact hK _ (AW.ret (Fin.two rfl rfl ⟨_, rfl, rfl⟩ ⟨_, rfl, by simp [go_sem]⟩ rfl rfl (belL_dv 2 _) rfl rfl))
theorem getD_mem {α : Type} (l : List α) (i : Nat) (d : α) (h : i < l.length) : l.getD i d ∈ l := by
  simp [h]
theorem pick_mem (l : List Int) (a : Int) (ns : List Int) (h : ns ≠ []) : ns.getD (nextV l a ns.length).toNat 0 ∈ ns := by
  have hpos : 0 < ns.length := List.length_pos_iff.2 h
  have hr := nextV_range l a ns.length (by omega)
  exact getD_mem _ _ _ (by omega)
theorem one_mem (l : List Int) (a : Int) (ns : List Str) (h : ns ≠ []) : ns.getD (nextV l a ns.length).toNat [] ∈ ns := by
  have hpos : 0 < ns.length := List.length_pos_iff.2 h
  have hr := nextV_range l a ns.length (by omega)
  exact getD_mem _ _ _ (by omega)
/-! the same, of which only the range is known -/
abbrev Stm (l : List Int) (a : Int) : O := .box 25 [Ls l, I a]
theorem nextI (l : List Int) (hl2 : l.length ≤ 9223372036854775807) (at_ n : Int) (h1 : 1 ≤ n) (h2 : n ≤ 9223372036854775807) (ha : 0 ≤ at_) (hb : at_ ≤ 1000000) :
    DoesI Tryz.prog 35 [.ptr 0 0, I n] [Stm l at_] (fun r : Int => 0 ≤ r ∧ r < n) (fun r => I r) (fun _ => [Stm l (at_ + 1)]) :=
  (next_any l hl2 at_ n h1 h2 ha hb).rel (x := fun r => I r) (os' := fun _ => [Stm l (at_ + 1)]) (nextV l at_ n) (nextV_range l at_ n h1)
theorem flipI (l : List Int) (hl2 : l.length ≤ 9223372036854775807) (at_ n : Int) (h1 : 1 ≤ n) (h2 : n ≤ 9223372036854775807) (ha : 0 ≤ at_) (hb : at_ ≤ 1000000) :
    DoesI Tryz.prog 38 [.ptr 0 0, I n] [Stm l at_] (fun _ : Bool => True) (fun r => B r) (fun _ => [Stm l (at_ + 1)]) :=
  (flip_any l hl2 at_ n h1 h2 ha hb).rel (x := fun r => B r) (os' := fun _ => [Stm l (at_ + 1)]) (nextV l at_ n == 0) trivial
theorem pickI (l : List Int) (hl2 : l.length ≤ 9223372036854775807) (at_ : Int) (ha : 0 ≤ at_) (hb : at_ ≤ 1000000) (ns : List Int) (hs : ns ≠ []) (hs2 : ns.length ≤ 1000000) :
    DoesI Tryz.prog 36 [.ptr 0 0, .slr 1 0 ns.length] [Stm l at_, IV ns] (fun r : Int => r ∈ ns) (fun r => I r) (fun _ => [Stm l (at_ + 1), IV ns]) :=
  (pick_any l hl2 at_ ha hb ns hs hs2).rel (x := fun r => I r) (os' := fun _ => [Stm l (at_ + 1), IV ns]) _ (pick_mem l at_ ns hs)
theorem one10I (l : List Int) (hl2 : l.length ≤ 9223372036854775807) (at_ : Int) (ha : 0 ≤ at_) (hb : at_ ≤ 1000000) (strs : List Str) (hs : strs ≠ []) (hs2 : strs.length ≤ 1000000) :
    DoesI Tryz.prog 40 [.ptr 0 0, .slr 1 0 strs.length] [Stm l at_, SV strs] (fun r : Str => r ∈ strs) (fun r => S r) (fun _ => [Stm l (at_ + 1), SV strs]) :=
  (one10_any l hl2 at_ ha hb strs hs hs2).rel (x := fun r => S r) (os' := fun _ => [Stm l (at_ + 1), SV strs]) _ (one_mem l at_ strs hs)
theorem rangeI (l : List Int) (hl2 : l.length ≤ 9223372036854775807) (at_ lo hi : Int) (h1 : lo ≤ hi) (h2 : -1000000000 ≤ lo) (h3 : hi ≤ 1000000000) (ha : 0 ≤ at_) (hb : at_ ≤ 1000000) :
    DoesI Tryz.prog 7 [.ptr 0 0, I lo, I hi] [Stm l at_] (fun r : Int => lo ≤ r ∧ r ≤ hi) (fun r => I r) (fun _ => [Stm l (at_ + 1)]) :=
  (range_any l hl2 at_ lo hi h1 h2 h3 ha hb).rel (x := fun r => I r) (os' := fun _ => [Stm l (at_ + 1)]) (lo + nextV l at_ (hi - lo + 1)) (by have := nextV_range l at_ (hi - lo + 1) (by omega); omega)
theorem odd10I (l : List Int) (hl2 : l.length ≤ 9223372036854775807) (at_ lo hi : Int) (h1 : lo ≤ hi) (h2 : -1000000000 ≤ lo) (h3 : hi ≤ 1000000000) (ha : 0 ≤ at_) (hb : at_ ≤ 100000) :
    DoesI Tryz.prog 39 [.ptr 0 0, I lo, I hi] [Stm l at_] (fun q : Int × Int => (-1099511627776 ≤ q.1 ∧ q.1 ≤ 1099511627776) ∧ at_ ≤ q.2 ∧ q.2 ≤ at_ + 2) (fun q => I q.1) (fun q => [Stm l q.2]) := by
  refine DoesI.of_AW (n := 22) Tryz.func39 rfl rfl rfl fun cx hcx => ?_
  repeat' (first | (refine AW.sreg rfl fun K hK => ?_; simp only [go_sem, Nat.reduceAdd, Nat.reduceMul, Int.reduceToNat, Nat.reduceLT, Nat.reduceLeDiff, Nat.le_refl, Nat.reduceEqDiff, ↓reduceIte, beq_self_eq_true, bne_self_eq_false, Int.reduceBEq, Int.reduceBNe, or_self, true_or, or_true, Option.map_some, Option.map_none]) | (refine AW.seq_k fun K hK => ?_) | (refine AW.skip ?_; simp only [Then, InBlock]) | (refine AW.cond rfl (fun h => ?_) (fun h => ?_) <;> (try simp only [decide_eq_true_eq, decide_eq_false_iff_not, Bool.not_eq_true', Bool.not_eq_false', Bool.not_eq_eq_eq_not, Bool.not_true, Bool.not_false, beq_iff_eq, bne_iff_ne, beq_eq_false_iff_ne, ne_eq, Bool.and_eq_true, Bool.or_eq_true, Bool.or_eq_false_iff] at h)) | (refine hK _ ?_; clear hK K) | (refine run_callI _ _ _ ((flipI l hl2 at_ 12 (by omega) (by omega) (by omega) (by omega)).objs [0] ⟨rfl, trivial⟩ rfl (by decide) (by simp [go_sem, renOs]) (by simp [go_sem]) (by simp [go_sem]) (fun j hj => ⟨by simp, by simp, by simp [go_sem], by simp [go_sem]⟩)) rfl rfl (dstOk_of rfl) rfl rfl rfl ?_; rintro r hr; (try dsimp only at r); (try dsimp only at hr); simp only [go_sem, Nat.reduceAdd, Nat.reduceMul, Int.reduceToNat, Nat.reduceLT, Nat.reduceLeDiff, Nat.le_refl, Nat.reduceEqDiff, ↓reduceIte, beq_self_eq_true, bne_self_eq_false, Int.reduceBEq, Int.reduceBNe, or_self, true_or, or_true, Option.map_some, Option.map_none]) | (refine run_callI _ _ _ ((pickI l hl2 (at_ + 1) (by omega) (by omega) [lo - 1, hi + 1, lo, hi, -1099511627776, 1099511627776] (by simp) (by simp)).objs [0, _] ⟨rfl, rfl, trivial⟩ rfl (by decide) (by simp [go_sem, renOs]) (by simp [go_sem]) (by simp [go_sem]) (fun j hj => ⟨by simp, by simp, by simp [go_sem], by simp [go_sem]⟩)) rfl rfl (dstOk_of rfl) rfl rfl rfl ?_; rintro r hr; (try dsimp only at r); (try dsimp only at hr); simp only [go_sem, Nat.reduceAdd, Nat.reduceMul, Int.reduceToNat, Nat.reduceLT, Nat.reduceLeDiff, Nat.le_refl, Nat.reduceEqDiff, ↓reduceIte, beq_self_eq_true, bne_self_eq_false, Int.reduceBEq, Int.reduceBNe, or_self, true_or, or_true, Option.map_some, Option.map_none]) | (refine run_callI _ _ _ ((rangeI l hl2 (at_ + 1) lo hi (by omega) (by omega) (by omega) (by omega) (by omega)).objs [0] ⟨rfl, trivial⟩ rfl (by decide) (by simp [go_sem, renOs]) (by simp [go_sem]) (by simp [go_sem]) (fun j hj => ⟨by simp, by simp, by simp [go_sem], by simp [go_sem]⟩)) rfl rfl (dstOk_of rfl) rfl rfl rfl ?_; rintro r hr; (try dsimp only at r); (try dsimp only at hr); simp only [go_sem, Nat.reduceAdd, Nat.reduceMul, Int.reduceToNat, Nat.reduceLT, Nat.reduceLeDiff, Nat.le_refl, Nat.reduceEqDiff, ↓reduceIte, beq_self_eq_true, bne_self_eq_false, Int.reduceBEq, Int.reduceBNe, or_self, true_or, or_true, Option.map_some, Option.map_none]) | (with_reducible refine And.intro ?_ ?_; first | omega | assumption | (focus (decide)) | (focus (simp; done)) | (focus (simp; omega)) | (focus (constructor <;> omega)) | fail))
  · refine AW.ret ⟨(r, at_ + 1 + 1), ⟨?_, by simp only; omega, by simp only; omega⟩, Fin.one rfl rfl ⟨_, rfl, by simp [go_sem]⟩ rfl rfl rfl⟩
    simp only [List.mem_cons, List.not_mem_nil, or_false] at hr
    simp only
    omega
  · exact AW.ret ⟨(r, at_ + 1 + 1), ⟨by simp only; omega, by simp only; omega, by simp only; omega⟩, Fin.one rfl rfl ⟨_, rfl, by simp [go_sem]⟩ rfl rfl rfl⟩
end Go.AX

namespace Go.AX
open Go Go.Proofs
def okC (i : Nat) (c : UInt8) : Bool := decide ((97 ≤ (c.toNat : Int) ∧ (c.toNat : Int) ≤ 122) ∨ (0 < (i : Int) ∧ ((48 ≤ (c.toNat : Int) ∧ (c.toNat : Int) ≤ 57) ∨ (c.toNat : Int) = 45 ∨ (c.toNat : Int) = 95)))
def keyR : Nat → List UInt8 → Bool
  | _, [] => true
  | i, c :: r => if okC i c = true then keyR (i + 1) r else false
def keyB (s : List UInt8) : Bool := keyR 0 s && (!(s == []) && decide ((s.length : Int) ≤ 40))
theorem isKey_any (s : List UInt8) (hl : s.length ≤ 1000000) : Does Tryz.prog 92 [S s] [] (B (keyB s)) [] := by
  refine Does.of_AW (n := 48) Tryz.func92 rfl rfl rfl fun cx hcx => ?_
  generalize hR : keyR 0 s = R
  repeat' (first | (refine AW.sreg rfl fun K hK => ?_; simp only [go_sem, Nat.reduceAdd, Nat.reduceMul, Int.reduceToNat, Nat.reduceLT, Nat.reduceLeDiff, Nat.le_refl, Nat.reduceEqDiff, ↓reduceIte, beq_self_eq_true, bne_self_eq_false, Int.reduceBEq, Int.reduceBNe, or_self, true_or, or_true, Option.map_some, Option.map_none]) | (refine AW.seq_k fun K hK => ?_) | (refine AW.block ?_) | (refine hK _ ?_; clear hK K))
  refine AW.loopF (ι := Nat) [0] (fun p => [(3, I p)]) (fun p => []) 1 (fun p => p ≤ s.length ∧ keyR p (s.drop p) = R) (fun p => s.length - p) 0 ⟨by simp, hR⟩ (Weak.auto hcx rfl rfl (Nat.le_of_ble_eq_true rfl) (by simp [go_sem, gL, kL, renOf, V.obj, lk, Nat.blt, Nat.ble, List.map_append, dv_push]) (by simp [go_sem, gL, kL, renOf, V.obj, lk, Nat.blt, Nat.ble, List.map_append, dv_push]) (by first | exact pk0 | exact pk1 ⟨_, rfl⟩ | exact pk2 ⟨_, rfl⟩ ⟨_, rfl⟩ | exact pk3 ⟨_, rfl⟩ ⟨_, rfl⟩ ⟨_, rfl⟩ | exact pk4 ⟨_, rfl⟩ ⟨_, rfl⟩ ⟨_, rfl⟩ ⟨_, rfl⟩) (by simp [go_sem, gL, kL, lk, renOf, V.obj, Nat.blt, Nat.ble])) ?_; simp only [St.at_nil, St.at_cons, lk, Nat.reduceEqDiff, ↓reduceIte, Option.getD_some, Option.getD_none, List.cons_append, List.nil_append, List.append_nil]
  rintro i ⟨h1, h2⟩
  by_cases hi : i < s.length
  · obtain ⟨c, hc, hcm, hcd⟩ := get_some hi
    have hget : s[i]? = some c := hc
    rw [hcd, keyR] at h2
    by_cases hk : okC i c = true
    · rw [if_pos hk] at h2
      have hk := of_decide_eq_true hk
      repeat' (first | ((first | refine AW.sreg rfl fun K hK => ?_ | refine AW.reg rfl ?_); simp only [go_sem, Nat.reduceAdd, Nat.reduceMul, Int.reduceToNat, Nat.reduceLT, Nat.reduceLeDiff, Nat.le_refl, Nat.reduceEqDiff, ↓reduceIte, beq_self_eq_true, bne_self_eq_false, Int.reduceBEq, Int.reduceBNe, or_self, true_or, or_true, Option.map_some, Option.map_none, hget]) | (refine AW.seq_k fun K hK => ?_) | (refine AW.block ?_) | (refine AW.skip ?_; simp only [Then, InBlock]) | (refine AW.condT rfl (by first | rfl | (simp; omega) | (simp [*]; done) | fail) ?_) | (refine AW.condF rfl (by first | rfl | (simp; omega) | (simp [*]; done) | fail) ?_) | (refine hK _ ?_; clear hK K) | (refine stepB_split (fun h => ?_) (fun h => ?_) <;> (have hb0 := h) <;> (try simp only [Bool.not_eq_true', Bool.not_eq_false'] at hb0) <;> (try simp only [decide_eq_true_eq, decide_eq_false_iff_not, Bool.not_eq_true', Bool.not_eq_false', Bool.not_eq_eq_eq_not, Bool.not_true, Bool.not_false, beq_iff_eq, bne_iff_ne, beq_eq_false_iff_ne, ne_eq, Bool.and_eq_true, Bool.or_eq_true, Bool.or_eq_false_iff] at h) <;> simp only [go_sem, Nat.reduceAdd, Nat.reduceMul, Int.reduceToNat, Nat.reduceLT, Nat.reduceLeDiff, Nat.le_refl, Nat.reduceEqDiff, ↓reduceIte, beq_self_eq_true, bne_self_eq_false, Int.reduceBEq, Int.reduceBNe, or_self, true_or, or_true, Option.map_some, Option.map_none, hb0, h, decide_true, decide_false, hget] <;> (try clear hb0)) | (with_reducible refine And.intro ?_ ?_; first | omega | assumption | (focus (decide)) | (focus (simp; done)) | (focus (simp; omega)) | (focus (constructor <;> omega)) | fail) | (exfalso; omega))
      all_goals first | (exfalso; omega) | exact ⟨i + 1, ⟨hi, h2⟩, by omega, (Weak.auto hcx rfl rfl (Nat.le_of_ble_eq_true rfl) (by simp [go_sem, gL, kL, renOf, V.obj, lk, Nat.blt, Nat.ble, List.map_append, dv_push]) (by simp [go_sem, gL, kL, renOf, V.obj, lk, Nat.blt, Nat.ble, List.map_append, dv_push]) (by first | exact pk0 | exact pk1 ⟨_, rfl⟩ | exact pk2 ⟨_, rfl⟩ ⟨_, rfl⟩ | exact pk3 ⟨_, rfl⟩ ⟨_, rfl⟩ ⟨_, rfl⟩ | exact pk4 ⟨_, rfl⟩ ⟨_, rfl⟩ ⟨_, rfl⟩ ⟨_, rfl⟩) (by simp [go_sem, gL, kL, lk, renOf, V.obj, Nat.blt, Nat.ble]))⟩
    · rw [if_neg hk] at h2
      subst h2
      have hk : ¬ _ := fun h => hk (decide_eq_true h)
      repeat' (first | (refine AW.sreg rfl fun K hK => ?_; simp only [go_sem, Nat.reduceAdd, Nat.reduceMul, Int.reduceToNat, Nat.reduceLT, Nat.reduceLeDiff, Nat.le_refl, Nat.reduceEqDiff, ↓reduceIte, beq_self_eq_true, bne_self_eq_false, Int.reduceBEq, Int.reduceBNe, or_self, true_or, or_true, Option.map_some, Option.map_none, hget]) | (refine AW.seq_k fun K hK => ?_) | (refine AW.block ?_) | (refine AW.skip ?_; simp only [Then, InBlock]) | (refine AW.condT rfl (by first | rfl | (simp; omega) | (simp [*]; done) | fail) ?_) | (refine hK _ ?_; clear hK K) | (refine stepB_split (fun h => ?_) (fun h => ?_) <;> (have hb0 := h) <;> (try simp only [Bool.not_eq_true', Bool.not_eq_false'] at hb0) <;> (try simp only [decide_eq_true_eq, decide_eq_false_iff_not, Bool.not_eq_true', Bool.not_eq_false', Bool.not_eq_eq_eq_not, Bool.not_true, Bool.not_false, beq_iff_eq, bne_iff_ne, beq_eq_false_iff_ne, ne_eq, Bool.and_eq_true, Bool.or_eq_true, Bool.or_eq_false_iff] at h) <;> simp only [go_sem, Nat.reduceAdd, Nat.reduceMul, Int.reduceToNat, Nat.reduceLT, Nat.reduceLeDiff, Nat.le_refl, Nat.reduceEqDiff, ↓reduceIte, beq_self_eq_true, bne_self_eq_false, Int.reduceBEq, Int.reduceBNe, or_self, true_or, or_true, Option.map_some, Option.map_none, hb0, h, decide_true, decide_false, hget] <;> (try clear hb0)) | (with_reducible refine And.intro ?_ ?_; first | omega | assumption | (focus (decide)) | (focus (simp; done)) | (focus (simp; omega)) | (focus (constructor <;> omega)) | fail) | (exfalso; omega))
      all_goals first | (exfalso; omega) | exact AW.ret (Fin.data rfl (by simp [go_sem, keyB, hR]) rfl)
  · obtain rfl : i = s.length := by omega
    simp only [List.drop_length, keyR] at h2
    subst h2
    cases s with
    | nil =>
      repeat' (first | (refine AW.sreg rfl fun K hK => ?_; simp only [go_sem, Nat.reduceAdd, Nat.reduceMul, Int.reduceToNat, Nat.reduceLT, Nat.reduceLeDiff, Nat.le_refl, Nat.reduceEqDiff, ↓reduceIte, beq_self_eq_true, bne_self_eq_false, Int.reduceBEq, Int.reduceBNe, or_self, true_or, or_true, Option.map_some, Option.map_none]) | (refine AW.seq_k fun K hK => ?_) | (refine AW.exit ?_; simp only [go_sem, ↓reduceIte]) | (refine AW.condF rfl (by first | rfl | (simp; omega) | (simp [*]; done) | fail) ?_) | (refine hK _ ?_; clear hK K) | (clear hK K; refine hK _ ?_; clear hK K))
      all_goals exact AW.ret (Fin.data rfl (by simp [go_sem, keyB, hR]) rfl)
    | cons c r =>
      have e : ((c :: r : List UInt8) == []) = false := rfl
      repeat' (first | (refine AW.sreg rfl fun K hK => ?_; simp only [go_sem, Nat.reduceAdd, Nat.reduceMul, Int.reduceToNat, Nat.reduceLT, Nat.reduceLeDiff, Nat.le_refl, Nat.reduceEqDiff, ↓reduceIte, beq_self_eq_true, bne_self_eq_false, Int.reduceBEq, Int.reduceBNe, or_self, true_or, or_true, Option.map_some, Option.map_none, e]) | (refine AW.seq_k fun K hK => ?_) | (refine AW.exit ?_; simp only [go_sem, ↓reduceIte]) | (refine AW.condF rfl (by first | rfl | (simp; omega) | (simp [*]; done) | fail) ?_) | (refine hK _ ?_; clear hK K) | (clear hK K; refine hK _ ?_; clear hK K))
      all_goals exact AW.ret (Fin.data rfl (by simp [go_sem, keyB, hR]) rfl)
end Go.AX

namespace Go.AX
open Go Go.Proofs
def orI : List Int → Int
  | [] => 0
  | x :: r => if x ≠ 0 then x else orI r
theorem cmpOr_any (ns : List Int) (hl : ns.length ≤ 1000) : Does Tryz.prog 65 [.d (.sl (ns.map (D.int .i64)))] [] (I (orI ns)) [] := by
  refine Does.of_AW (n := 18) Tryz.func65 rfl rfl rfl fun cx hcx => ?_
  generalize hR : orI ns = R
  repeat' (first | (refine AW.sreg rfl fun K hK => ?_; simp only [go_sem, Nat.reduceAdd, Nat.reduceMul, Int.reduceToNat, Nat.reduceLT, Nat.reduceLeDiff, Nat.le_refl, Nat.reduceEqDiff, ↓reduceIte, beq_self_eq_true, bne_self_eq_false, Int.reduceBEq, Int.reduceBNe, or_self, true_or, or_true, Option.map_some, Option.map_none, List.length_map]) | (refine AW.seq_k fun K hK => ?_) | (refine AW.block ?_) | (refine hK _ ?_; clear hK K))
  refine AW.loopF (ι := Nat) [3, 6, 7] (fun p => [(8, I p)]) (fun p => []) 1 (fun p => p ≤ ns.length ∧ orI (ns.drop p) = R) (fun p => ns.length - p) 0 ⟨by simp, hR⟩ (Weak.auto hcx rfl rfl (Nat.le_of_ble_eq_true rfl) (by simp [go_sem, gL, kL, renOf, V.obj, lk, Nat.blt, Nat.ble, List.map_append, dv_push]) (by simp [go_sem, gL, kL, renOf, V.obj, lk, Nat.blt, Nat.ble, List.map_append, dv_push]) (by first | exact pk0 | exact pk1 ⟨_, rfl⟩ | exact pk2 ⟨_, rfl⟩ ⟨_, rfl⟩ | exact pk3 ⟨_, rfl⟩ ⟨_, rfl⟩ ⟨_, rfl⟩ | exact pk4 ⟨_, rfl⟩ ⟨_, rfl⟩ ⟨_, rfl⟩ ⟨_, rfl⟩) (by simp [go_sem, gL, kL, lk, renOf, V.obj, Nat.blt, Nat.ble])) ?_; simp only [St.at_nil, St.at_cons, lk, Nat.reduceEqDiff, ↓reduceIte, Option.getD_some, Option.getD_none, List.cons_append, List.nil_append, List.append_nil]
  rintro i ⟨h1, h2⟩
  by_cases hi : i < ns.length
  · obtain ⟨x, hx, hxm, hxd⟩ := get_some hi
    have hget : (ns.map (D.int .i64))[i]? = some (.int .i64 x) := by simp [hx]
    rw [hxd, orI] at h2
    repeat' (first | ((first | refine AW.sreg rfl fun K hK => ?_ | refine AW.reg rfl ?_); simp only [go_sem, Nat.reduceAdd, Nat.reduceMul, Int.reduceToNat, Nat.reduceLT, Nat.reduceLeDiff, Nat.le_refl, Nat.reduceEqDiff, ↓reduceIte, beq_self_eq_true, bne_self_eq_false, Int.reduceBEq, Int.reduceBNe, or_self, true_or, or_true, Option.map_some, Option.map_none, List.length_map, hget]) | (refine AW.seq_k fun K hK => ?_) | (refine AW.block ?_) | (refine AW.skip ?_; simp only [Then, InBlock]) | (refine AW.condT rfl (by first | rfl | (simp; omega) | (simp [*]; done) | fail) ?_) | (refine AW.cond rfl (fun h => ?_) (fun h => ?_) <;> (try simp only [decide_eq_true_eq, decide_eq_false_iff_not, Bool.not_eq_true', Bool.not_eq_false', Bool.not_eq_eq_eq_not, Bool.not_true, Bool.not_false, beq_iff_eq, bne_iff_ne, beq_eq_false_iff_ne, ne_eq, Bool.and_eq_true, Bool.or_eq_true, Bool.or_eq_false_iff] at h)) | (refine hK _ ?_; clear hK K) | (with_reducible refine And.intro ?_ ?_; first | omega | assumption | (focus (decide)) | (focus (simp; done)) | (focus (simp; omega)) | (focus (constructor <;> omega)) | fail) | (refine AW.ret (Fin.data rfl (by first | (simp only [go_sem]; done) | ((rw [if_pos h] at h2; subst h2; simp [go_sem]); done) | (simp [go_sem]; omega) | rfl) rfl)))
    rw [if_neg (by simpa using h)] at h2
    exact ⟨i + 1, ⟨hi, h2⟩, by omega, (Weak.auto hcx rfl rfl (Nat.le_of_ble_eq_true rfl) (by simp [go_sem, gL, kL, renOf, V.obj, lk, Nat.blt, Nat.ble, List.map_append, dv_push]) (by simp [go_sem, gL, kL, renOf, V.obj, lk, Nat.blt, Nat.ble, List.map_append, dv_push]) (by first | exact pk0 | exact pk1 ⟨_, rfl⟩ | exact pk2 ⟨_, rfl⟩ ⟨_, rfl⟩ | exact pk3 ⟨_, rfl⟩ ⟨_, rfl⟩ ⟨_, rfl⟩ | exact pk4 ⟨_, rfl⟩ ⟨_, rfl⟩ ⟨_, rfl⟩ ⟨_, rfl⟩) (by simp [go_sem, gL, kL, lk, renOf, V.obj, Nat.blt, Nat.ble]))⟩
  · obtain rfl : i = ns.length := by omega
    simp only [List.drop_length, orI] at h2
    subst h2
    repeat' (first | (refine AW.sreg rfl fun K hK => ?_; simp only [go_sem, Nat.reduceAdd, Nat.reduceMul, Int.reduceToNat, Nat.reduceLT, Nat.reduceLeDiff, Nat.le_refl, Nat.reduceEqDiff, ↓reduceIte, beq_self_eq_true, bne_self_eq_false, Int.reduceBEq, Int.reduceBNe, or_self, true_or, or_true, Option.map_some, Option.map_none, List.length_map]) | (refine AW.seq_k fun K hK => ?_) | (refine AW.exit ?_; simp only [go_sem, ↓reduceIte]) | (refine AW.condF rfl (by first | rfl | (simp; omega) | (simp [*]; done) | fail) ?_) | (refine hK _ ?_; clear hK K) | (clear hK K; refine hK _ ?_; clear hK K) | (refine AW.ret (Fin.data rfl (by first | (simp only [go_sem]; done) | (simp [go_sem, *]; done) | (simp [go_sem]; omega) | rfl) rfl)))
theorem cmpstr_ext (a b : List UInt8) (hv : Nat → Option O) (n : Nat) : CallStep Tryz.prog hv n 143 [S a, S b] (I (Lib.compareBytes a b)) [] :=
  extT_ok _ _ hv n _ _ [] (by kernel_rfl) hv (fun _ h => by cases h)
theorem compareString_any (a b : List UInt8) : Does Tryz.prog 102 [S a, S b] [] (I (Lib.compareBytes a b)) [] := by
  refine Does.of_AW (n := 8) Tryz.func102 rfl rfl rfl fun cx hcx => ?_
  repeat' (first | ((first | refine AW.sreg rfl fun K hK => ?_ | refine run_call _ _ _ (cmpstr_ext a b _ _) rfl rfl (dstOk_of rfl) rfl rfl rfl ?_); simp only [go_sem, Nat.reduceAdd, Nat.reduceMul, Int.reduceToNat, Nat.reduceLT, Nat.reduceLeDiff, Nat.le_refl, Nat.reduceEqDiff, ↓reduceIte, beq_self_eq_true, bne_self_eq_false, Int.reduceBEq, Int.reduceBNe, or_self, true_or, or_true, Option.map_some, Option.map_none]) | (refine hK _ ?_; clear hK K) | (refine AW.ret (Fin.data rfl (by first | (simp only [go_sem]; done) | (simp [go_sem, *]; done) | (simp [go_sem]; omega) | rfl) rfl)))
theorem compareStr_any (a b : List UInt8) : Does Tryz.prog 66 [S a, S b] [] (I (Lib.compareBytes a b)) [] := by
  refine Does.of_AW (n := 8) Tryz.func66 rfl rfl rfl fun cx hcx => ?_
  repeat' (first | ((first | refine AW.sreg rfl fun K hK => ?_ | refine run_call _ _ _ ((compareString_any a b).pure rfl rfl _ _) rfl rfl (dstOk_of rfl) rfl rfl rfl ?_); simp only [go_sem, Nat.reduceAdd, Nat.reduceMul, Int.reduceToNat, Nat.reduceLT, Nat.reduceLeDiff, Nat.le_refl, Nat.reduceEqDiff, ↓reduceIte, beq_self_eq_true, bne_self_eq_false, Int.reduceBEq, Int.reduceBNe, or_self, true_or, or_true, Option.map_some, Option.map_none]) | (refine hK _ ?_; clear hK K) | (refine AW.ret (Fin.data rfl (by first | (simp only [go_sem]; done) | (simp [go_sem, *]; done) | (simp [go_sem]; omega) | rfl) rfl)))
end Go.AX

namespace Go.AX
open Go Go.Proofs Go.RowKit
theorem swap_perm {α : Type} {l : List α} {i j : Nat} {x y : α} (hx : l[i]? = some x) (hy : l[j]? = some y) : ((l.set i y).set j x).Perm l := by
  have hi : i < l.length := by
    rcases Nat.lt_or_ge i l.length with h | h
    · exact h
    · simp [List.getElem?_eq_none h] at hx
  have hj : j < l.length := by
    rcases Nat.lt_or_ge j l.length with h | h
    · exact h
    · simp [List.getElem?_eq_none h] at hy
  rw [List.getElem?_eq_getElem hi] at hx
  rw [List.getElem?_eq_getElem hj] at hy
  cases hx; cases hy
  exact List.set_set_perm hi hj
abbrev NV (xs : List Nat) : List V := dv (xs.map fun k : Nat => D.int .i64 (k : Int))
theorem orderI (l : List Int) (hl2 : l.length ≤ 9223372036854775807) (at_ : Int) (ha : 0 ≤ at_) (hb : at_ ≤ 10000) (n : Nat) (hn : n ≤ 100) :
    DoesI Tryz.prog 37 [.ptr 0 0, I n] [Stm l at_] (fun q : List Nat × Int => q.1.Perm (List.range n) ∧ at_ ≤ q.2 ∧ q.2 ≤ at_ + 100) (fun q => .d (.sl (q.1.map fun k : Nat => D.int .i64 (k : Int)))) (fun q => [Stm l q.2]) := by
  refine DoesI.of_AW (n := 43) Tryz.func37 rfl rfl rfl fun cx hcx => ?_
  repeat' (first | (refine AW.sreg rfl fun K hK => ?_; simp only [go_sem, Nat.reduceAdd, Nat.reduceMul, Int.reduceToNat, Nat.reduceLT, Nat.reduceLeDiff, Nat.le_refl, Nat.reduceEqDiff, ↓reduceIte, beq_self_eq_true, bne_self_eq_false, Int.reduceBEq, Int.reduceBNe, or_self, true_or, or_true, Option.map_some, Option.map_none]) | (refine AW.seq_k fun K hK => ?_) | (refine AW.block ?_) | (refine hK _ ?_; clear hK K))
  refine AW.weak (Weak.nil 5 3 1 rfl) ?_
  refine AW.loopF (ι := Nat) [0, 1, 9] (fun p => [(10, I p), (5, .slr 320 0 p)]) (fun p => [(0, some (Stm l at_)), (320, some (O.vec 3 1 (NV (List.range p))))]) 6 (fun p => p ≤ n) (fun p => n - p) 0 (Nat.zero_le _) (Weak.auto hcx rfl rfl (Nat.le_of_ble_eq_true rfl) (by simp [go_sem, gL, kL, renOf, V.obj, lk, Nat.blt, Nat.ble, List.map_append, dv_push]) (by simp [go_sem, gL, kL, renOf, V.obj, lk, Nat.blt, Nat.ble, List.map_append, dv_push]) (by first | exact pk0 | exact pk1 ⟨_, rfl⟩ | exact pk2 ⟨_, rfl⟩ ⟨_, rfl⟩ | exact pk3 ⟨_, rfl⟩ ⟨_, rfl⟩ ⟨_, rfl⟩ | exact pk4 ⟨_, rfl⟩ ⟨_, rfl⟩ ⟨_, rfl⟩ ⟨_, rfl⟩) (by simp [go_sem, gL, kL, lk, renOf, V.obj, Nat.blt, Nat.ble])) ?_; simp only [St.at_nil, St.at_cons, lk, Nat.reduceEqDiff, ↓reduceIte, Option.getD_some, Option.getD_none, List.cons_append, List.nil_append, List.append_nil]
  intro i h1
  by_cases hi : i < n
  · have ht : (NV (List.range i)).take i = NV (List.range i) := List.take_of_length_le (by simp [NV, dv])
    repeat' (first | ((first | refine AW.sreg rfl fun K hK => ?_ | refine AW.reg rfl ?_); simp only [go_sem, Nat.reduceAdd, Nat.reduceMul, Int.reduceToNat, Nat.reduceLT, Nat.reduceLeDiff, Nat.le_refl, Nat.reduceEqDiff, ↓reduceIte, beq_self_eq_true, bne_self_eq_false, Int.reduceBEq, Int.reduceBNe, or_self, true_or, or_true, Option.map_some, Option.map_none, ht]) | (refine AW.seq_k fun K hK => ?_) | (refine AW.block ?_) | (refine AW.skip ?_; simp only [Then, InBlock]) | (refine AW.condT rfl (by first | rfl | (simp; omega) | (simp [*]; done) | fail) ?_) | (refine hK _ ?_; clear hK K) | (with_reducible refine And.intro ?_ ?_; first | omega | assumption | (focus (decide)) | (focus (simp; done)) | (focus (simp; omega)) | (focus (constructor <;> omega)) | fail))
    exact ⟨i + 1, hi, by omega, (Weak.auto hcx rfl rfl (Nat.le_of_ble_eq_true rfl) (by simp [go_sem, gL, kL, renOf, V.obj, lk, Nat.blt, Nat.ble, List.map_append, dv_push, List.range_succ, NV]) (by simp [go_sem, gL, kL, renOf, V.obj, lk, Nat.blt, Nat.ble, List.map_append, dv_push, List.range_succ, NV]) (by first | exact pk0 | exact pk1 ⟨_, rfl⟩ | exact pk2 ⟨_, rfl⟩ ⟨_, rfl⟩ | exact pk3 ⟨_, rfl⟩ ⟨_, rfl⟩ ⟨_, rfl⟩ | exact pk4 ⟨_, rfl⟩ ⟨_, rfl⟩ ⟨_, rfl⟩ ⟨_, rfl⟩) (by simp [go_sem, gL, kL, lk, renOf, V.obj, Nat.blt, Nat.ble, List.range_succ, NV]))⟩
  · obtain rfl : i = n := by omega
    repeat' (first | (refine AW.sreg rfl fun K hK => ?_; simp only [go_sem, Nat.reduceAdd, Nat.reduceMul, Int.reduceToNat, Nat.reduceLT, Nat.reduceLeDiff, Nat.le_refl, Nat.reduceEqDiff, ↓reduceIte, beq_self_eq_true, bne_self_eq_false, Int.reduceBEq, Int.reduceBNe, or_self, true_or, or_true, Option.map_some, Option.map_none]) | (refine AW.seq_k fun K hK => ?_) | (refine AW.block ?_) | (refine AW.exit ?_; simp only [go_sem, ↓reduceIte]) | (refine AW.condF rfl (by first | rfl | (simp; omega) | (simp [*]; done) | fail) ?_) | (refine hK _ ?_; clear hK K) | (clear hK K; refine hK _ ?_; clear hK K) | (with_reducible refine And.intro ?_ ?_; first | omega | assumption | (focus (decide)) | (focus (simp; done)) | (focus (simp; omega)) | (focus (constructor <;> omega)) | fail))
    refine AW.loopF (ι := Nat × List Nat × Int) [0, 5] (fun p => [(7, I ((p.1 : Int) - 1)), (5, .slr 320 0 i)]) (fun p => [(0, some (Stm l p.2.2)), (320, some (O.vec 3 1 (NV p.2.1)))]) 20 (fun p => p.1 ≤ i ∧ p.2.1.Perm (List.range i) ∧ at_ ≤ p.2.2 ∧ p.2.2 ≤ at_ + (i - p.1)) (fun p => p.1) (i, List.range i, at_) ⟨Nat.le_refl _, List.Perm.refl _, by simp only; omega, by simp only; omega⟩ (Weak.auto hcx rfl rfl (Nat.le_of_ble_eq_true rfl) (by simp [go_sem, gL, kL, renOf, V.obj, lk, Nat.blt, Nat.ble, List.map_append, dv_push]) (by simp [go_sem, gL, kL, renOf, V.obj, lk, Nat.blt, Nat.ble, List.map_append, dv_push]) (by first | exact pk0 | exact pk1 ⟨_, rfl⟩ | exact pk2 ⟨_, rfl⟩ ⟨_, rfl⟩ | exact pk3 ⟨_, rfl⟩ ⟨_, rfl⟩ ⟨_, rfl⟩ | exact pk4 ⟨_, rfl⟩ ⟨_, rfl⟩ ⟨_, rfl⟩ ⟨_, rfl⟩) (by simp [go_sem, gL, kL, lk, renOf, V.obj, Nat.blt, Nat.ble])) ?_; simp only [St.at_nil, St.at_cons, lk, Nat.reduceEqDiff, ↓reduceIte, Option.getD_some, Option.getD_none, List.cons_append, List.nil_append, List.append_nil]
    rintro ⟨m, os, a⟩ ⟨g1, g2, g3, g4⟩
    simp only at g1 g2 g3 g4 ⊢
    have hol : os.length = i := by rw [g2.length_eq]; simp
    by_cases hm : 2 ≤ m
    · obtain ⟨M, rfl⟩ : ∃ M, m = M + 1 := ⟨m - 1, by omega⟩
      have hm1 : ((M + 1 : Nat) : Int) - 1 = (M : Int) := by omega
      have hM : (0 : Int) < (M : Int) := by omega
      have hn2 := nextI l hl2 a ((M : Int) + 1) (by omega) (by omega) (by omega) (by omega)
      have hgk : ∀ k : Int, 0 ≤ k → k < (M : Int) + 1 → ∃ v : Nat, os[k.toNat]? = some v ∧ (NV os)[0 + k.toNat]? = some (.d (.int .i64 (v : Int))) := by
        intro k k0 k1
        obtain ⟨v, hv, -, -⟩ := get_some (l := os) (i := k.toNat) (by omega)
        exact ⟨v, hv, by simp only [NV, dv, Nat.zero_add, List.getElem?_map, hv, Option.map_some]⟩
      have hset : ∀ (o : List Nat) (j v : Nat), (NV o).set (0 + j) (.d (.int .i64 (v : Int))) = NV (o.set j v) := by
        intro o j v
        simp only [NV, dv, Nat.zero_add, List.map_set]
      obtain ⟨xm, hxm, hgm⟩ := hgk M (by omega) (by omega)
      rw [Int.toNat_natCast] at hgm hxm
      rw [hm1]
      repeat' (first | ((first | refine AW.sreg rfl fun K hK => ?_ | refine AW.regD hmix rfl ?_); simp only [go_sem, Nat.reduceAdd, Nat.reduceMul, Int.reduceToNat, Nat.reduceLT, Nat.reduceLeDiff, Nat.le_refl, Nat.reduceEqDiff, ↓reduceIte, beq_self_eq_true, bne_self_eq_false, Int.reduceBEq, Int.reduceBNe, or_self, true_or, or_true, Option.map_some, Option.map_none, hgm]) | (refine AW.seq_k fun K hK => ?_) | (refine AW.block ?_) | (refine AW.skip ?_; simp only [Then, InBlock]) | (refine AW.condT rfl (by first | rfl | (simp; omega) | (simp [*]; done) | fail) ?_) | (refine hK _ ?_; clear hK K) | (refine run_callI _ _ _ ((hn2).objs [0] ⟨rfl, trivial⟩ rfl (by decide) (by simp [go_sem, renOs]) (by simp [go_sem]) (by simp [go_sem]) (fun j hj => ⟨by simp, by simp, by simp [go_sem], by simp [go_sem]⟩)) rfl rfl (dstOk_of rfl) rfl rfl rfl ?_; rintro k hk; (try dsimp only at k); (try dsimp only at hk); simp only [go_sem, Nat.reduceAdd, Nat.reduceMul, Int.reduceToNat, Nat.reduceLT, Nat.reduceLeDiff, Nat.le_refl, Nat.reduceEqDiff, ↓reduceIte, beq_self_eq_true, bne_self_eq_false, Int.reduceBEq, Int.reduceBNe, or_self, true_or, or_true, Option.map_some, Option.map_none, hgm]) | (with_reducible refine And.intro ?_ ?_; first | omega | assumption | (focus (decide)) | (focus (simp; done)) | (focus (simp; omega)) | (focus (constructor <;> omega)) | fail))
      obtain ⟨xk, hxk, hgk2⟩ := hgk k hk.1 hk.2
      obtain ⟨v2, hv2, -, -⟩ := get_some (l := os.set M xk) (i := k.toNat) (by rw [List.length_set]; omega)
      have hg3 : (NV (os.set M xk))[0 + k.toNat]? = some (.d (.int .i64 (v2 : Int))) := by simp only [NV, dv, Nat.zero_add, List.getElem?_map, hv2, Option.map_some]
      simp only [go_sem, Nat.reduceAdd, Nat.reduceMul, Int.reduceToNat, Nat.reduceLT, Nat.reduceLeDiff, Nat.le_refl, Nat.reduceEqDiff, ↓reduceIte, beq_self_eq_true, bne_self_eq_false, Int.reduceBEq, Int.reduceBNe, or_self, true_or, or_true, Option.map_some, Option.map_none, hgm, hgk2, hset, hg3]
      repeat' (first | (refine AW.reg rfl ?_; simp only [go_sem, Nat.reduceAdd, Nat.reduceMul, Int.reduceToNat, Nat.reduceLT, Nat.reduceLeDiff, Nat.le_refl, Nat.reduceEqDiff, ↓reduceIte, beq_self_eq_true, bne_self_eq_false, Int.reduceBEq, Int.reduceBNe, or_self, true_or, or_true, Option.map_some, Option.map_none, hgm, hgk2, hset, hg3]) | (refine hK _ ?_; clear hK K) | (with_reducible refine And.intro (?_ : regOk _ _ = true) ?_; kernel_rfl) | (with_reducible refine And.intro ?_ ?_; first | omega | assumption | (focus (decide)) | (focus (simp; done)) | (focus (simp; omega)) | (focus (constructor <;> omega)) | fail))
      refine ⟨(M, (os.set M xk).set k.toNat xm, a + 1), ⟨by omega, (swap_perm hxm hxk).trans g2, by simp only; omega, by simp only; omega⟩, by simp only; omega, (Weak.auto hcx rfl rfl (Nat.le_of_ble_eq_true rfl) (by simp [go_sem, gL, kL, renOf, V.obj, lk, Nat.blt, Nat.ble, List.map_append, dv_push]) (by simp [go_sem, gL, kL, renOf, V.obj, lk, Nat.blt, Nat.ble, List.map_append, dv_push]) (by first | exact pk0 | exact pk1 ⟨_, rfl⟩ | exact pk2 ⟨_, rfl⟩ ⟨_, rfl⟩ | exact pk3 ⟨_, rfl⟩ ⟨_, rfl⟩ ⟨_, rfl⟩ | exact pk4 ⟨_, rfl⟩ ⟨_, rfl⟩ ⟨_, rfl⟩ ⟨_, rfl⟩) (by simp [go_sem, gL, kL, lk, renOf, V.obj, Nat.blt, Nat.ble]))⟩
    · repeat' (first | (refine AW.sreg rfl fun K hK => ?_; simp only [go_sem, Nat.reduceAdd, Nat.reduceMul, Int.reduceToNat, Nat.reduceLT, Nat.reduceLeDiff, Nat.le_refl, Nat.reduceEqDiff, ↓reduceIte, beq_self_eq_true, bne_self_eq_false, Int.reduceBEq, Int.reduceBNe, or_self, true_or, or_true, Option.map_some, Option.map_none]) | (refine AW.seq_k fun K hK => ?_) | (refine AW.exit ?_; simp only [go_sem, ↓reduceIte]) | (refine AW.condF rfl (by first | rfl | (simp; omega) | (simp [*]; done) | fail) ?_) | (refine hK _ ?_; clear hK K) | (clear hK K; refine hK _ ?_; clear hK K))
      all_goals first | (exfalso; omega) | exact AW.ret ⟨(os, a), ⟨g2, by simp only; omega, by simp only; omega⟩, Fin.one rfl ((frz_slr rfl rfl (by simp [hol])).trans (by simp [go_sem])) ⟨_, rfl, by simp [go_sem]⟩ rfl rfl rfl⟩ | trace_state
end Go.AX

namespace Go.AX
open Go Go.Proofs Go.RowKit
theorem index_does (a b : List UInt8) (x : D) (h : idxF a b = some x) : Does Tryz.prog 185 [.d (.str a), .d (.str b)] [] (.d x) [] := by
  unfold idxF at h
  split at h
  · rename_i hl
    cases h
    have hl : a.length < 4294967281 := by simpa using hl
    refine Does.of_str2 (y := .int .i64 (Lib.index a b)) ⟨Tryz.f185, Tryz.func185, rfl, by kernel_rfl⟩ (fun w ok => by simp only [RV, RD]) fun w hg => ?_
    obtain ⟨m, hm⟩ := hg.max (g := 0) (by kernel_rfl)
    exact (Any.stringslite_Index Tryz.l219 ⟨a.toArray⟩ ⟨b.toArray⟩ m w (by simpa [ByteArray.size] using hl) hm).mono fun e w' ⟨h1, h2⟩ => ⟨by simpa using h1, h2 ▸ Below.refl _ _⟩
  · cases h
def SO (P : Program) : Orc := orc2 (orcS2 185 idxF) (extT P)
theorem SO_ok : OrcOk Tryz.prog (SO Tryz.prog) := orc2_ok (orcS2_ok index_does) extT_ok
def CS (P : Program) : Orc := evF P (SO P) (fun _ => false) 10000 30
theorem CS_ok : OrcOk Tryz.prog (CS Tryz.prog) := evF_ok SO_ok hmix 30
theorem stands_ok : Does Tryz.prog 11 [] [] (.d (.bool true)) [] :=
  bodyE_does CS_ok hmix (by kernel_rfl : bodyE Tryz.prog (CS Tryz.prog) (fun _ => false) 10000 11 [] [] = some (.d (.bool true), []))
end Go.AX

namespace Go.AX
open Go Go.Proofs Go.RowKit
theorem valid_any (s : List UInt8) (h : s.length ≤ 1000000) : Does Tryz.prog 144 [.d (.str s)] [] (.d (.bool (Lib.validD s))) [] := by
  refine Does.of_str1 (y := .bool (Lib.validD s)) ⟨Tryz.f144, Tryz.func144, rfl, by kernel_rfl⟩ (fun w ok => by simp only [RV, RD]) fun w hg => ?_
  refine (Any.utf8_ValidString Tryz.l196 ⟨s.toArray⟩ w (by simp [ByteArray.size]; omega) ⟨fun c hc => hg.cell (g := 1) (l := firstL) (by kernel_rfl) c .u8 (Lib.firstT c) (of_decide_eq_true (List.all_eq_true.1 first_all c (List.mem_range.2 hc))), fun i hi => ?_⟩).mono fun e w' ⟨h1, h2⟩ => ⟨by simpa using h1, h2⟩
  have e1 := List.all_eq_true.1 acc_all i (List.mem_range.2 hi)
  simp only [Bool.and_eq_true, decide_eq_true_eq] at e1
  exact ⟨hg.cell (g := 2) (l := accL) (by kernel_rfl) (2 * i) .u8 (Lib.accLo i) e1.1, hg.cell (g := 2) (l := accL) (by kernel_rfl) (2 * i + 1) .u8 (Lib.accHi i) e1.2⟩
def tblN : List (Nat × List V × V) := [(144, [.d (.str [79, 102, 32, 195, 169, 108, 97, 110])], .d (.bool true)), (144, [.d (.str [195, 137, 109, 105, 108, 101, 45, 195, 137, 108, 97, 110, 32, 90, 111, 108])], .d (.bool true))]
theorem tblN_ok : TblOk Tryz.prog tblN := by
  intro e he
  simp only [tblN, List.mem_cons, List.not_mem_nil, or_false] at he
  rcases he with rfl | rfl
  · exact ⟨(show Lib.validD [79, 102, 32, 195, 169, 108, 97, 110] = true from by kernel_rfl) ▸ valid_any _ (by simp), rfl, rfl⟩
  · exact ⟨(show Lib.validD [195, 137, 109, 105, 108, 101, 45, 195, 137, 108, 97, 110, 32, 90, 111, 108] = true from by kernel_rfl) ▸ valid_any _ (by simp), rfl, rfl⟩
def SN (P : Program) : Orc := orc2 (tblT tblN) (SO P)
theorem SN_ok : OrcOk Tryz.prog (SN Tryz.prog) := orc2_ok (tblT_ok tblN_ok) SO_ok
def CN (P : Program) : Orc := evF P (SN P) (fun _ => false) 10000 30
theorem CN_ok : OrcOk Tryz.prog (CN Tryz.prog) := evF_ok SN_ok hmix 30
end Go.AX

namespace Go.AX
open Go
/-- A credit, a final, an erratum (paper, field, key, old, new). -/
abbrev ECr := List UInt8 × List UInt8
abbrev EFi := List UInt8 × List UInt8 × Int × List ECr
/-- What stays: papers and keys. -/
def shp (f : EFi) : List UInt8 × List (List UInt8) := (f.1, f.2.2.2.map (·.1))
end Go.AX

namespace Go.AX
open Go Go.Proofs Go.RowKit
/-- A credit: who, how named. -/
abbrev Cr := Str × Str
abbrev crD (c : Cr) : D := .agg [.str c.1, .str c.2]
/-- A final: paper, title, pages, credits. -/
abbrev Fi := Str × Str × Int × List Cr
abbrev fiD (f : Fi) : D := .agg [.str f.1, .str f.2.1, .int .i64 f.2.2.1, .sl (f.2.2.2.map crD)]
def P4 : List Str := [[112, 97], [112, 98], [112, 99], [112, 100]]
def K3 : List Str := [[97, 110, 110], [98, 111, 98], [99, 105, 100]]
def T3 : List Str := [[79, 110, 32, 116, 114, 101, 101, 115], [79, 110, 32, 114, 111, 111, 116, 115], [79, 102, 32, 195, 169, 108, 97, 110]]
def G5 : List Int := [1, 2, 3, 10, 100]
def N14 : List Str := [[65, 110, 110, 32, 76, 101, 101], [66, 111, 98, 32, 118, 97, 110, 32, 100, 101, 114, 32, 82, 97, 121], [118, 97, 110, 32, 82, 97, 121], [100, 101, 32, 108, 97, 32, 67, 114, 117, 122], [74, 101, 97, 110, 45, 76, 117, 99, 32, 100, 101, 32, 108, 97, 32, 67, 114, 117, 122], [80, 108, 97, 116, 111], [97, 110, 110, 32, 108, 101, 101], [67, 105, 100, 32, 79, 39, 78, 101, 105, 108], [195, 137, 109, 105, 108, 101, 45, 195, 137, 108, 97, 110, 32, 90, 111, 108], [65, 46, 32, 66, 45, 32, 77, 111, 101], [108, 97], [68, 101, 101, 32, 100, 97], [65, 110, 110, 45], [45, 65, 110, 110, 32, 76, 101, 101]]
/-- What may be drawn. -/
def CrsF (cs : List Cr) : Prop := cs ≠ [] ∧ (cs.map (·.1)).Sublist K3 ∧ ∀ c ∈ cs, c.2 ∈ N14
def FinF (f : Fi) : Prop := f.1 ∈ P4 ∧ f.2.1 ∈ T3 ∧ f.2.2.1 ∈ G5 ∧ CrsF f.2.2.2
theorem frzL_app {hv : Nat → Option O} {keep : Nat → Bool} : ∀ xs ys : List V, frzL hv keep (xs ++ ys) = frzL hv keep xs ++ frzL hv keep ys
  | [], ys => by simp [frzL]
  | x :: r, ys => by simp [frzL, frzL_app r ys]
theorem bookName_any (l : List Int) (hl2 : l.length ≤ 9223372036854775807) (at_ : Int) (ha : 0 ≤ at_) (hb : at_ ≤ 1000000) :
    Does Tryz.prog 53 [.ptr 0 0] [Stm l at_] (S (N14.getD (nextV l at_ 14).toNat [])) [Stm l (at_ + 1)] := by
  have ho := one10_any l hl2 at_ ha hb N14 (by simp [N14]) (by simp [N14])
  refine Does.of_AW (n := 6) Tryz.func53 rfl rfl rfl fun cx hcx => ?_
  repeat' (first | ((first | refine AW.sreg rfl fun K hK => ?_ | refine run_call _ _ _ ((ho).objs [0, _] ⟨rfl, rfl, trivial⟩ rfl (by decide) (by simp [go_sem, renOs]) (by simp) (by simp) (by simp [go_sem]) (by simp [go_sem]) (by simp [go_sem]) (by simp [go_sem])) rfl rfl (dstOk_of rfl) rfl rfl rfl ?_); simp only [go_sem, Nat.reduceAdd, Nat.reduceMul, Int.reduceToNat, Nat.reduceLT, Nat.reduceLeDiff, Nat.le_refl, Nat.reduceEqDiff, ↓reduceIte, beq_self_eq_true, bne_self_eq_false, Int.reduceBEq, Int.reduceBNe, or_self, true_or, or_true, Option.map_some, Option.map_none]) | (refine hK _ ?_; clear hK K))
  exact AW.ret (Fin.one rfl rfl ⟨_, rfl, by simp [go_sem]⟩ rfl rfl rfl)
theorem rightFinalsI (l : List Int) (hl2 : l.length ≤ 9223372036854775807) (at_ : Int) (ha : 0 ≤ at_) (hb : at_ ≤ 1000) :
    DoesI Tryz.prog 19 [.ptr 0 0] [Stm l at_] (fun q : List Fi × Int => (q.1.map (·.1)).Sublist P4 ∧ (∀ f ∈ q.1, FinF f) ∧ at_ ≤ q.2 ∧ q.2 ≤ at_ + 36) (fun q => .d (.sl (q.1.map fiD))) (fun q => [Stm l q.2]) := by
  refine DoesI.of_AW (n := 56) Tryz.func19 rfl rfl rfl fun cx hcx => ?_
  repeat' (first | (refine AW.sreg rfl fun K hK => ?_; simp only [go_sem, Nat.reduceAdd, Nat.reduceMul, Int.reduceToNat, Nat.reduceLT, Nat.reduceLeDiff, Nat.le_refl, Nat.reduceEqDiff, ↓reduceIte, beq_self_eq_true, bne_self_eq_false, Int.reduceBEq, Int.reduceBNe, or_self, true_or, or_true, Option.map_some, Option.map_none]) | (refine AW.seq_k fun K hK => ?_) | (refine AW.block ?_) | (refine hK _ ?_; clear hK K))
  refine AW.weak (Weak.nil 3 62 4 rfl) ?_
  refine AW.loopF (ι := Nat × List Fi × Int) [0, 9, 10] (fun p => [(11, I p.1), (3, .slr 384 0 p.2.1.length)]) (fun p => [(192, some (SV P4)), (0, some (Stm l p.2.2)), (384, some (O.vec 62 4 (dv (p.2.1.map fiD))))]) 7 (fun p => p.1 ≤ 4 ∧ (p.2.1.map (·.1)).Sublist (P4.take p.1) ∧ (∀ f ∈ p.2.1, FinF f) ∧ at_ ≤ p.2.2 ∧ p.2.2 ≤ at_ + 9 * p.1) (fun p => 4 - p.1) (0, [], at_) ⟨by simp, by simp, by simp, by simp, by simp⟩ (Weak.auto hcx rfl rfl (Nat.le_of_ble_eq_true rfl) (by simp [go_sem, gL, kL, renOf, V.obj, lk, Nat.blt, Nat.ble, List.map_append, dv_push, P4, dv]) (by simp [go_sem, gL, kL, renOf, V.obj, lk, Nat.blt, Nat.ble, List.map_append, dv_push, P4, dv]) (by first | exact pk0 | exact pk1 ⟨_, rfl⟩ | exact pk2 ⟨_, rfl⟩ ⟨_, rfl⟩ | exact pk3 ⟨_, rfl⟩ ⟨_, rfl⟩ ⟨_, rfl⟩ | exact pk4 ⟨_, rfl⟩ ⟨_, rfl⟩ ⟨_, rfl⟩ ⟨_, rfl⟩) (by simp [go_sem, gL, kL, lk, renOf, V.obj, Nat.blt, Nat.ble, P4, dv])) ?_; simp only [St.at_nil, St.at_cons, lk, Nat.reduceEqDiff, ↓reduceIte, Option.getD_some, Option.getD_none, List.cons_append, List.nil_append, List.append_nil]
  rintro ⟨i, out, a⟩ ⟨h1, h2, h3, h4, h5⟩
  simp only at h1 h2 h3 h4 h5 ⊢
  by_cases hi : i < 4
  · obtain ⟨who, hw, hwm, _⟩ := get_some (l := P4) (i := i) hi
    have hget : (dv (P4.map D.str))[0 + i]? = some (.d (.str who)) := by simp only [dv, Nat.zero_add, List.getElem?_map, hw, Option.map_some]
    have htk : P4.take (i + 1) = P4.take i ++ [who] := by rw [List.take_add_one, hw]; rfl
    have hol : out.length ≤ 4 := by have := h2.length_le; simp [P4] at this; omega
    have hN : ∀ b : Int, N14.getD (nextV l b 14).toNat [] ∈ N14 := fun b => one_mem l b N14 (by simp [N14])
    have hsub : ∀ f : Fi, f.1 = who → ((out ++ [f]).map (·.1)).Sublist (P4.take (i + 1)) := by
      intro f hf
      rw [htk, List.map_append]
      exact h2.append (by simp [hf])
    have hfin : ∀ (ti : Str) (pg : Int) (cs : List Cr), ti ∈ T3 → pg ∈ G5 → CrsF cs → ∀ f ∈ out ++ [(who, ti, pg, cs)], FinF f := by
      intro ti pg cs hti hpg hcs f hf
      rcases List.mem_append.1 hf with hf | hf
      · exact h3 f hf
      · obtain rfl := List.mem_singleton.1 hf
        exact ⟨hwm, hti, hpg, hcs⟩
    repeat' (first | ((first | refine AW.sreg rfl fun K hK => ?_ | refine AW.reg rfl ?_ | refine AW.regD hmix rfl ?_ | refine runT_call _ _ [0] (fun hv hag => (bookName_any l hl2 _ (by omega) (by omega)).objs [0] ⟨((hag 0 (by simp)).trans rfl), trivial⟩ rfl (by decide) (by simp [go_sem, renOs]) (by simp) (by simp) (by simp [go_sem]) (by simp [go_sem]) (by simp [go_sem]) (by simp [go_sem])) rfl rfl (dstOk_of rfl) rfl rfl ?_); simp only [go_sem, Nat.reduceAdd, Nat.reduceMul, Int.reduceToNat, Nat.reduceLT, Nat.reduceLeDiff, Nat.le_refl, Nat.reduceEqDiff, ↓reduceIte, beq_self_eq_true, bne_self_eq_false, Int.reduceBEq, Int.reduceBNe, or_self, true_or, or_true, Option.map_some, Option.map_none, hget, Int.reduceAdd]) | (refine AW.seq_k fun K hK => ?_) | (refine AW.block ?_) | (refine AW.skip ?_; simp only [Then, InBlock]) | (refine AW.exit ?_; simp only [go_sem, ↓reduceIte]) | (refine AW.condT rfl (by first | rfl | (simp; omega) | (simp [*]; done) | fail) ?_) | (refine AW.condF rfl (by first | rfl | (simp; omega) | (simp [*]; done) | fail) ?_) | (refine AW.cond rfl (fun h => ?_) (fun h => ?_) <;> (try simp only [decide_eq_true_eq, decide_eq_false_iff_not, Bool.not_eq_true', Bool.not_eq_false', Bool.not_eq_eq_eq_not, Bool.not_true, Bool.not_false, beq_iff_eq, bne_iff_ne, beq_eq_false_iff_ne, ne_eq, Bool.and_eq_true, Bool.or_eq_true, Bool.or_eq_false_iff] at h)) | (refine hK _ ?_; clear hK K) | (clear hK K; refine hK _ ?_; clear hK K) | (with_reducible refine And.intro (?_ : regOk _ _ = true) ?_; kernel_rfl) | (refine run_callI _ _ _ ((flipI l hl2 _ _ (by omega) (by omega) (by omega) (by omega)).objs [0] ⟨rfl, trivial⟩ rfl (by decide) (by simp [go_sem, renOs]) (by simp [go_sem]) (by simp [go_sem]) (fun j hj => ⟨by simp, by simp, by simp [go_sem], by simp [go_sem]⟩)) rfl rfl (dstOk_of rfl) rfl rfl rfl ?_; rintro r hr; (try dsimp only at r); (try dsimp only at hr); simp only [go_sem, Nat.reduceAdd, Nat.reduceMul, Int.reduceToNat, Nat.reduceLT, Nat.reduceLeDiff, Nat.le_refl, Nat.reduceEqDiff, ↓reduceIte, beq_self_eq_true, bne_self_eq_false, Int.reduceBEq, Int.reduceBNe, or_self, true_or, or_true, Option.map_some, Option.map_none, hget, Int.reduceAdd]) | (refine run_callI _ _ _ ((one10I l hl2 _ (by omega) (by omega) T3 (by simp [T3]) (by simp [T3])).objs [0, _] ⟨rfl, rfl, trivial⟩ rfl (by decide) (by simp [go_sem, renOs]) (by simp [go_sem]) (by simp [go_sem]) (fun j hj => ⟨by simp, by simp, by simp [go_sem], by simp [go_sem]⟩)) rfl rfl (dstOk_of rfl) rfl rfl rfl ?_; rintro ti hti; (try dsimp only at ti); (try dsimp only at hti); simp only [go_sem, Nat.reduceAdd, Nat.reduceMul, Int.reduceToNat, Nat.reduceLT, Nat.reduceLeDiff, Nat.le_refl, Nat.reduceEqDiff, ↓reduceIte, beq_self_eq_true, bne_self_eq_false, Int.reduceBEq, Int.reduceBNe, or_self, true_or, or_true, Option.map_some, Option.map_none, hget, Int.reduceAdd]) | (refine run_callI _ _ _ ((pickI l hl2 _ (by omega) (by omega) G5 (by simp [G5]) (by simp [G5])).objs [0, _] ⟨rfl, rfl, trivial⟩ rfl (by decide) (by simp [go_sem, renOs]) (by simp [go_sem]) (by simp [go_sem]) (fun j hj => ⟨by simp, by simp, by simp [go_sem], by simp [go_sem]⟩)) rfl rfl (dstOk_of rfl) rfl rfl rfl ?_; rintro pg hpg; (try dsimp only at pg); (try dsimp only at hpg); simp only [go_sem, Nat.reduceAdd, Nat.reduceMul, Int.reduceToNat, Nat.reduceLT, Nat.reduceLeDiff, Nat.le_refl, Nat.reduceEqDiff, ↓reduceIte, beq_self_eq_true, bne_self_eq_false, Int.reduceBEq, Int.reduceBNe, or_self, true_or, or_true, Option.map_some, Option.map_none, hget, Int.reduceAdd]) | (refine AW.unroll 4 ?_; simp only [AWr]) | (with_reducible refine And.intro ?_ ?_; first | omega | assumption | (focus (decide)) | (focus (simp; done)) | (focus (simp; omega)) | (focus (constructor <;> omega)) | fail))
    · exact ⟨(i + 1, out, a + 1), ⟨hi, h2.trans (by rw [htk]; exact List.sublist_append_left _ _), h3, by simp only; omega, by simp only; omega⟩, by simp only; omega, (Weak.auto hcx rfl rfl (Nat.le_of_ble_eq_true rfl) (by simp [go_sem, gL, kL, renOf, V.obj, lk, Nat.blt, Nat.ble, List.map_append, dv_push, frzL_app, fiD, crD]) (by simp [go_sem, gL, kL, renOf, V.obj, lk, Nat.blt, Nat.ble, List.map_append, dv_push, frzL_app, fiD, crD]) (by first | exact pk0 | exact pk1 ⟨_, rfl⟩ | exact pk2 ⟨_, rfl⟩ ⟨_, rfl⟩ | exact pk3 ⟨_, rfl⟩ ⟨_, rfl⟩ ⟨_, rfl⟩ | exact pk4 ⟨_, rfl⟩ ⟨_, rfl⟩ ⟨_, rfl⟩ ⟨_, rfl⟩) (by simp [go_sem, gL, kL, lk, renOf, V.obj, Nat.blt, Nat.ble, frzL_app, fiD, crD]))⟩
    · exact ⟨(i + 1, out ++ [(who, ti, pg, [([97, 110, 110], N14.getD (nextV l (a + 1 + 1 + 1 + 1) 14).toNat []), ([98, 111, 98], N14.getD (nextV l (a + 1 + 1 + 1 + 1 + 1 + 1) 14).toNat []), ([99, 105, 100], N14.getD (nextV l (a + 1 + 1 + 1 + 1 + 1 + 1 + 1 + 1) 14).toNat [])])], a + 1 + 1 + 1 + 1 + 1 + 1 + 1 + 1 + 1), ⟨hi, hsub _ rfl, hfin _ _ _ hti hpg ⟨by simp, by simp only [List.map_cons, List.map_nil]; decide, by intro c hc; simp only [List.mem_cons, List.not_mem_nil, or_false] at hc; (first | (rcases hc with rfl | rfl | rfl <;> exact hN _) | (rcases hc with rfl | rfl <;> exact hN _) | (subst hc; first | exact hN _ | (simp only; decide)))⟩, by simp only; omega, by simp only; omega⟩, by simp only; omega, (Weak.auto hcx rfl rfl (Nat.le_of_ble_eq_true rfl) (by simp [go_sem, gL, kL, renOf, V.obj, lk, Nat.blt, Nat.ble, List.map_append, dv_push, frzL_app, fiD, crD]) (by simp [go_sem, gL, kL, renOf, V.obj, lk, Nat.blt, Nat.ble, List.map_append, dv_push, frzL_app, fiD, crD]) (by first | exact pk0 | exact pk1 ⟨_, rfl⟩ | exact pk2 ⟨_, rfl⟩ ⟨_, rfl⟩ | exact pk3 ⟨_, rfl⟩ ⟨_, rfl⟩ ⟨_, rfl⟩ | exact pk4 ⟨_, rfl⟩ ⟨_, rfl⟩ ⟨_, rfl⟩ ⟨_, rfl⟩) (by simp [go_sem, gL, kL, lk, renOf, V.obj, Nat.blt, Nat.ble, frzL_app, fiD, crD]))⟩
    · exact ⟨(i + 1, out ++ [(who, ti, pg, [([97, 110, 110], N14.getD (nextV l (a + 1 + 1 + 1 + 1) 14).toNat []), ([98, 111, 98], N14.getD (nextV l (a + 1 + 1 + 1 + 1 + 1 + 1) 14).toNat [])])], a + 1 + 1 + 1 + 1 + 1 + 1 + 1 + 1), ⟨hi, hsub _ rfl, hfin _ _ _ hti hpg ⟨by simp, by simp only [List.map_cons, List.map_nil]; decide, by intro c hc; simp only [List.mem_cons, List.not_mem_nil, or_false] at hc; (first | (rcases hc with rfl | rfl | rfl <;> exact hN _) | (rcases hc with rfl | rfl <;> exact hN _) | (subst hc; first | exact hN _ | (simp only; decide)))⟩, by simp only; omega, by simp only; omega⟩, by simp only; omega, (Weak.auto hcx rfl rfl (Nat.le_of_ble_eq_true rfl) (by simp [go_sem, gL, kL, renOf, V.obj, lk, Nat.blt, Nat.ble, List.map_append, dv_push, frzL_app, fiD, crD]) (by simp [go_sem, gL, kL, renOf, V.obj, lk, Nat.blt, Nat.ble, List.map_append, dv_push, frzL_app, fiD, crD]) (by first | exact pk0 | exact pk1 ⟨_, rfl⟩ | exact pk2 ⟨_, rfl⟩ ⟨_, rfl⟩ | exact pk3 ⟨_, rfl⟩ ⟨_, rfl⟩ ⟨_, rfl⟩ | exact pk4 ⟨_, rfl⟩ ⟨_, rfl⟩ ⟨_, rfl⟩ ⟨_, rfl⟩) (by simp [go_sem, gL, kL, lk, renOf, V.obj, Nat.blt, Nat.ble, frzL_app, fiD, crD]))⟩
    · exact ⟨(i + 1, out ++ [(who, ti, pg, [([97, 110, 110], N14.getD (nextV l (a + 1 + 1 + 1 + 1) 14).toNat []), ([99, 105, 100], N14.getD (nextV l (a + 1 + 1 + 1 + 1 + 1 + 1 + 1) 14).toNat [])])], a + 1 + 1 + 1 + 1 + 1 + 1 + 1 + 1), ⟨hi, hsub _ rfl, hfin _ _ _ hti hpg ⟨by simp, by simp only [List.map_cons, List.map_nil]; decide, by intro c hc; simp only [List.mem_cons, List.not_mem_nil, or_false] at hc; (first | (rcases hc with rfl | rfl | rfl <;> exact hN _) | (rcases hc with rfl | rfl <;> exact hN _) | (subst hc; first | exact hN _ | (simp only; decide)))⟩, by simp only; omega, by simp only; omega⟩, by simp only; omega, (Weak.auto hcx rfl rfl (Nat.le_of_ble_eq_true rfl) (by simp [go_sem, gL, kL, renOf, V.obj, lk, Nat.blt, Nat.ble, List.map_append, dv_push, frzL_app, fiD, crD]) (by simp [go_sem, gL, kL, renOf, V.obj, lk, Nat.blt, Nat.ble, List.map_append, dv_push, frzL_app, fiD, crD]) (by first | exact pk0 | exact pk1 ⟨_, rfl⟩ | exact pk2 ⟨_, rfl⟩ ⟨_, rfl⟩ | exact pk3 ⟨_, rfl⟩ ⟨_, rfl⟩ ⟨_, rfl⟩ | exact pk4 ⟨_, rfl⟩ ⟨_, rfl⟩ ⟨_, rfl⟩ ⟨_, rfl⟩) (by simp [go_sem, gL, kL, lk, renOf, V.obj, Nat.blt, Nat.ble, frzL_app, fiD, crD]))⟩
    · exact ⟨(i + 1, out ++ [(who, ti, pg, [([97, 110, 110], N14.getD (nextV l (a + 1 + 1 + 1 + 1) 14).toNat [])])], a + 1 + 1 + 1 + 1 + 1 + 1 + 1), ⟨hi, hsub _ rfl, hfin _ _ _ hti hpg ⟨by simp, by simp only [List.map_cons, List.map_nil]; decide, by intro c hc; simp only [List.mem_cons, List.not_mem_nil, or_false] at hc; (first | (rcases hc with rfl | rfl | rfl <;> exact hN _) | (rcases hc with rfl | rfl <;> exact hN _) | (subst hc; first | exact hN _ | (simp only; decide)))⟩, by simp only; omega, by simp only; omega⟩, by simp only; omega, (Weak.auto hcx rfl rfl (Nat.le_of_ble_eq_true rfl) (by simp [go_sem, gL, kL, renOf, V.obj, lk, Nat.blt, Nat.ble, List.map_append, dv_push, frzL_app, fiD, crD]) (by simp [go_sem, gL, kL, renOf, V.obj, lk, Nat.blt, Nat.ble, List.map_append, dv_push, frzL_app, fiD, crD]) (by first | exact pk0 | exact pk1 ⟨_, rfl⟩ | exact pk2 ⟨_, rfl⟩ ⟨_, rfl⟩ | exact pk3 ⟨_, rfl⟩ ⟨_, rfl⟩ ⟨_, rfl⟩ | exact pk4 ⟨_, rfl⟩ ⟨_, rfl⟩ ⟨_, rfl⟩ ⟨_, rfl⟩) (by simp [go_sem, gL, kL, lk, renOf, V.obj, Nat.blt, Nat.ble, frzL_app, fiD, crD]))⟩
    · exact ⟨(i + 1, out ++ [(who, ti, pg, [([98, 111, 98], N14.getD (nextV l (a + 1 + 1 + 1 + 1 + 1) 14).toNat []), ([99, 105, 100], N14.getD (nextV l (a + 1 + 1 + 1 + 1 + 1 + 1 + 1) 14).toNat [])])], a + 1 + 1 + 1 + 1 + 1 + 1 + 1 + 1), ⟨hi, hsub _ rfl, hfin _ _ _ hti hpg ⟨by simp, by simp only [List.map_cons, List.map_nil]; decide, by intro c hc; simp only [List.mem_cons, List.not_mem_nil, or_false] at hc; (first | (rcases hc with rfl | rfl | rfl <;> exact hN _) | (rcases hc with rfl | rfl <;> exact hN _) | (subst hc; first | exact hN _ | (simp only; decide)))⟩, by simp only; omega, by simp only; omega⟩, by simp only; omega, (Weak.auto hcx rfl rfl (Nat.le_of_ble_eq_true rfl) (by simp [go_sem, gL, kL, renOf, V.obj, lk, Nat.blt, Nat.ble, List.map_append, dv_push, frzL_app, fiD, crD]) (by simp [go_sem, gL, kL, renOf, V.obj, lk, Nat.blt, Nat.ble, List.map_append, dv_push, frzL_app, fiD, crD]) (by first | exact pk0 | exact pk1 ⟨_, rfl⟩ | exact pk2 ⟨_, rfl⟩ ⟨_, rfl⟩ | exact pk3 ⟨_, rfl⟩ ⟨_, rfl⟩ ⟨_, rfl⟩ | exact pk4 ⟨_, rfl⟩ ⟨_, rfl⟩ ⟨_, rfl⟩ ⟨_, rfl⟩) (by simp [go_sem, gL, kL, lk, renOf, V.obj, Nat.blt, Nat.ble, frzL_app, fiD, crD]))⟩
    · exact ⟨(i + 1, out ++ [(who, ti, pg, [([98, 111, 98], N14.getD (nextV l (a + 1 + 1 + 1 + 1 + 1) 14).toNat [])])], a + 1 + 1 + 1 + 1 + 1 + 1 + 1), ⟨hi, hsub _ rfl, hfin _ _ _ hti hpg ⟨by simp, by simp only [List.map_cons, List.map_nil]; decide, by intro c hc; simp only [List.mem_cons, List.not_mem_nil, or_false] at hc; (first | (rcases hc with rfl | rfl | rfl <;> exact hN _) | (rcases hc with rfl | rfl <;> exact hN _) | (subst hc; first | exact hN _ | (simp only; decide)))⟩, by simp only; omega, by simp only; omega⟩, by simp only; omega, (Weak.auto hcx rfl rfl (Nat.le_of_ble_eq_true rfl) (by simp [go_sem, gL, kL, renOf, V.obj, lk, Nat.blt, Nat.ble, List.map_append, dv_push, frzL_app, fiD, crD]) (by simp [go_sem, gL, kL, renOf, V.obj, lk, Nat.blt, Nat.ble, List.map_append, dv_push, frzL_app, fiD, crD]) (by first | exact pk0 | exact pk1 ⟨_, rfl⟩ | exact pk2 ⟨_, rfl⟩ ⟨_, rfl⟩ | exact pk3 ⟨_, rfl⟩ ⟨_, rfl⟩ ⟨_, rfl⟩ | exact pk4 ⟨_, rfl⟩ ⟨_, rfl⟩ ⟨_, rfl⟩ ⟨_, rfl⟩) (by simp [go_sem, gL, kL, lk, renOf, V.obj, Nat.blt, Nat.ble, frzL_app, fiD, crD]))⟩
    · exact ⟨(i + 1, out ++ [(who, ti, pg, [([99, 105, 100], N14.getD (nextV l (a + 1 + 1 + 1 + 1 + 1 + 1) 14).toNat [])])], a + 1 + 1 + 1 + 1 + 1 + 1 + 1), ⟨hi, hsub _ rfl, hfin _ _ _ hti hpg ⟨by simp, by simp only [List.map_cons, List.map_nil]; decide, by intro c hc; simp only [List.mem_cons, List.not_mem_nil, or_false] at hc; (first | (rcases hc with rfl | rfl | rfl <;> exact hN _) | (rcases hc with rfl | rfl <;> exact hN _) | (subst hc; first | exact hN _ | (simp only; decide)))⟩, by simp only; omega, by simp only; omega⟩, by simp only; omega, (Weak.auto hcx rfl rfl (Nat.le_of_ble_eq_true rfl) (by simp [go_sem, gL, kL, renOf, V.obj, lk, Nat.blt, Nat.ble, List.map_append, dv_push, frzL_app, fiD, crD]) (by simp [go_sem, gL, kL, renOf, V.obj, lk, Nat.blt, Nat.ble, List.map_append, dv_push, frzL_app, fiD, crD]) (by first | exact pk0 | exact pk1 ⟨_, rfl⟩ | exact pk2 ⟨_, rfl⟩ ⟨_, rfl⟩ | exact pk3 ⟨_, rfl⟩ ⟨_, rfl⟩ ⟨_, rfl⟩ | exact pk4 ⟨_, rfl⟩ ⟨_, rfl⟩ ⟨_, rfl⟩ ⟨_, rfl⟩) (by simp [go_sem, gL, kL, lk, renOf, V.obj, Nat.blt, Nat.ble, frzL_app, fiD, crD]))⟩
    · exact ⟨(i + 1, out ++ [(who, ti, pg, [([97, 110, 110], [65, 110, 110, 32, 76, 101, 101])])], a + 1 + 1 + 1 + 1 + 1 + 1), ⟨hi, hsub _ rfl, hfin _ _ _ hti hpg ⟨by simp, by simp only [List.map_cons, List.map_nil]; decide, by intro c hc; simp only [List.mem_cons, List.not_mem_nil, or_false] at hc; (first | (rcases hc with rfl | rfl | rfl <;> exact hN _) | (rcases hc with rfl | rfl <;> exact hN _) | (subst hc; first | exact hN _ | (simp only; decide)))⟩, by simp only; omega, by simp only; omega⟩, by simp only; omega, (Weak.auto hcx rfl rfl (Nat.le_of_ble_eq_true rfl) (by simp [go_sem, gL, kL, renOf, V.obj, lk, Nat.blt, Nat.ble, List.map_append, dv_push, frzL_app, fiD, crD]) (by simp [go_sem, gL, kL, renOf, V.obj, lk, Nat.blt, Nat.ble, List.map_append, dv_push, frzL_app, fiD, crD]) (by first | exact pk0 | exact pk1 ⟨_, rfl⟩ | exact pk2 ⟨_, rfl⟩ ⟨_, rfl⟩ | exact pk3 ⟨_, rfl⟩ ⟨_, rfl⟩ ⟨_, rfl⟩ | exact pk4 ⟨_, rfl⟩ ⟨_, rfl⟩ ⟨_, rfl⟩ ⟨_, rfl⟩) (by simp [go_sem, gL, kL, lk, renOf, V.obj, Nat.blt, Nat.ble, frzL_app, fiD, crD]))⟩
  · obtain rfl : i = 4 := by omega
    repeat' (first | (refine AW.sreg rfl fun K hK => ?_; simp only [go_sem, Nat.reduceAdd, Nat.reduceMul, Int.reduceToNat, Nat.reduceLT, Nat.reduceLeDiff, Nat.le_refl, Nat.reduceEqDiff, ↓reduceIte, beq_self_eq_true, bne_self_eq_false, Int.reduceBEq, Int.reduceBNe, or_self, true_or, or_true, Option.map_some, Option.map_none]) | (refine AW.seq_k fun K hK => ?_) | (refine AW.exit ?_; simp only [go_sem, ↓reduceIte]) | (refine AW.condF rfl (by first | rfl | (simp; omega) | (simp [*]; done) | fail) ?_) | (refine hK _ ?_; clear hK K) | (clear hK K; refine hK _ ?_; clear hK K))
    exact AW.ret ⟨(out, a), ⟨by simpa [P4] using h2, h3, by simp only; omega, by simp only; omega⟩, Fin.one rfl ((frz_slr rfl rfl (by simp)).trans (by simp [go_sem])) ⟨_, rfl, by simp [go_sem]⟩ rfl rfl rfl⟩
end Go.AX

namespace Go.AX
open Go Go.Proofs Go.RowKit
def NW : List Str := [[79, 110, 32, 116, 97, 108, 108, 32, 116, 114, 101, 101, 115], [79, 110, 32, 114, 111, 111, 116, 115], [90, 122, 122], [65, 110, 110, 32, 76, 101, 101], [90, 101, 100, 32, 90, 46], [80, 108, 97, 116, 111], [], [83, 111, 109, 101, 116, 104, 105, 110, 103, 32, 101, 108, 115, 101]]
def WW : List Str := T3 ++ N14 ++ NW ++ [[79, 116, 104, 101, 114], [32, 97]]
def lnOk (s : Str) : Bool := !(s == [] || s == [32, 97])
theorem lineW : ∀ s ∈ WW, Does Tryz.prog 68 [S s, I 200] [] (B (lnOk s)) [] ∧ Does Tryz.prog 68 [S s, I 100] [] (B (lnOk s)) [] := by
  have h : WW.all (fun s => evalsTo Tryz.prog (CN Tryz.prog) 68 [S s, I 200] (B (lnOk s)) && evalsTo Tryz.prog (CN Tryz.prog) 68 [S s, I 100] (B (lnOk s))) = true := by kernel_rfl
  intro s hs
  have := List.all_eq_true.1 h s hs
  simp only [Bool.and_eq_true] at this
  exact ⟨evalsTo_ok CN_ok hmix this.1, evalsTo_ok CN_ok hmix this.2⟩
def LnW (s : Str) : Prop := s ∈ WW ∧ lnOk s = true
theorem titleLine {s : Str} (h : LnW s) : Does Tryz.prog 68 [S s, I 200] [] (B true) [] := h.2 ▸ (lineW s h.1).1
theorem nameLine {s : Str} (h : LnW s) : Does Tryz.prog 68 [S s, I 100] [] (B true) [] := h.2 ▸ (lineW s h.1).2
theorem lnT3 : ∀ s ∈ T3, LnW s := by unfold LnW; decide
theorem lnN14 : ∀ s ∈ N14, LnW s := by unfold LnW; decide
/-- What errata leave. -/
def CrsG (cs : List Cr) : Prop := cs ≠ [] ∧ (cs.map (·.1)).Sublist K3 ∧ ∀ c ∈ cs, LnW c.2
def FinG (f : Fi) : Prop := f.1 ∈ P4 ∧ LnW f.2.1 ∧ f.2.2.1 ∈ G5 ∧ CrsG f.2.2.2
theorem finG_of {f : Fi} (h : FinF f) : FinG f := ⟨h.1, lnT3 _ h.2.1, h.2.2.1, h.2.2.2.1, h.2.2.2.2.1, fun c hc => lnN14 _ (h.2.2.2.2.2 c hc)⟩
theorem keysP : ∀ s ∈ P4, keyB s = true := by decide
theorem keysK : ∀ s ∈ K3, keyB s = true := by decide
theorem credit1_any (x : Cr) (k : Str) : Does Tryz.prog 128 [.d (crD x), .d (.ptr [.str k] 0)] [] (B (x.1 == k)) [] := by
  refine Does.of_AW (n := 8) Tryz.func128 rfl rfl rfl fun cx hcx => ?_
  repeat' (first | (refine AW.sreg rfl fun K hK => ?_; simp only [go_sem, Nat.reduceAdd, Nat.reduceMul, Int.reduceToNat, Nat.reduceLT, Nat.reduceLeDiff, Nat.le_refl, Nat.reduceEqDiff, ↓reduceIte, beq_self_eq_true, bne_self_eq_false, Int.reduceBEq, Int.reduceBNe, or_self, true_or, or_true, Option.map_some, Option.map_none]) | (refine hK _ ?_; clear hK K) | (refine AW.ret (Fin.data rfl (by first | (simp only [go_sem]; done) | (simp [go_sem, *]; done) | (simp [go_sem]; omega) | rfl) rfl)))
def idxG {α : Type} (q : α → Bool) : List α → Nat → Int
  | [], _ => -1
  | x :: r, i => if q x = true then i else idxG q r (i + 1)
theorem idxG_any {α : Type} (q : α → Bool) : ∀ (l : List α) (i : Nat), decide (0 ≤ idxG q l i) = l.any q
  | [], i => by simp [idxG]
  | x :: r, i => by
    simp only [idxG, List.any_cons]
    split
    · rename_i h; simp [h]
    · rename_i h; simp only [Bool.not_eq_true] at h; rw [h, Bool.false_or]; exact idxG_any q r (i + 1)
theorem idxG_none {α : Type} (q : α → Bool) : ∀ (xs : List α) (i : Nat), (∀ x ∈ xs, q x = false) → idxG q xs i = -1
  | [], i, _ => rfl
  | x :: r, i, h => by
    simp only [idxG, h x (by simp), Bool.false_eq_true, if_false]
    exact idxG_none q r (i + 1) fun y hy => h y (by simp [hy])
theorem indexFunc_Cr (xs : List Cr) (hl : xs.length ≤ 1000) (c : Nat) (cap : D) (q : Cr → Bool) (hc : ∀ x ∈ xs, Does Tryz.prog c [.d (crD x), .d cap] [] (B (q x)) []) :
    Does Tryz.prog 127 [.d (.sl (xs.map crD)), .fn c [.d cap]] [] (I (idxG q xs 0)) [] := by
  refine Does.of_AW (n := 19) Tryz.func127 rfl rfl rfl fun cx hcx => ?_
  generalize hR : idxG q xs 0 = R
  repeat' (first | (refine AW.sreg rfl fun K hK => ?_; simp only [go_sem, Nat.reduceAdd, Nat.reduceMul, Int.reduceToNat, Nat.reduceLT, Nat.reduceLeDiff, Nat.le_refl, Nat.reduceEqDiff, ↓reduceIte, beq_self_eq_true, bne_self_eq_false, Int.reduceBEq, Int.reduceBNe, or_self, true_or, or_true, Option.map_some, Option.map_none, List.length_map]) | (refine AW.seq_k fun K hK => ?_) | (refine AW.block ?_) | (refine hK _ ?_; clear hK K))
  refine AW.loopF (ι := Nat) [0, 1, 7] (fun p => [(8, I p)]) (fun p => []) 1 (fun p => p ≤ xs.length ∧ idxG q (xs.drop p) p = R) (fun p => xs.length - p) 0 ⟨by simp, hR⟩ (Weak.auto hcx rfl rfl (Nat.le_of_ble_eq_true rfl) (by simp [go_sem, gL, kL, renOf, V.obj, lk, Nat.blt, Nat.ble, List.map_append, dv_push]) (by simp [go_sem, gL, kL, renOf, V.obj, lk, Nat.blt, Nat.ble, List.map_append, dv_push]) (by first | exact pk0 | exact pk1 ⟨_, rfl⟩ | exact pk2 ⟨_, rfl⟩ ⟨_, rfl⟩ | exact pk3 ⟨_, rfl⟩ ⟨_, rfl⟩ ⟨_, rfl⟩ | exact pk4 ⟨_, rfl⟩ ⟨_, rfl⟩ ⟨_, rfl⟩ ⟨_, rfl⟩) (by simp [go_sem, gL, kL, lk, renOf, V.obj, Nat.blt, Nat.ble])) ?_; simp only [St.at_nil, St.at_cons, lk, Nat.reduceEqDiff, ↓reduceIte, Option.getD_some, Option.getD_none, List.cons_append, List.nil_append, List.append_nil]
  rintro i ⟨h1, h2⟩
  by_cases hi : i < xs.length
  · obtain ⟨x, hx, hxm, hxd⟩ := get_some hi
    have hget : (xs.map crD)[i]? = some (crD x) := by simp [hx]
    rw [hxd, idxG] at h2
    repeat' (first | ((first | refine AW.sreg rfl fun K hK => ?_ | refine AW.reg rfl ?_ | refine run_call _ _ _ ((hc x hxm).pure rfl rfl _ _) rfl rfl (dstOk_of rfl) rfl rfl rfl ?_); simp only [go_sem, Nat.reduceAdd, Nat.reduceMul, Int.reduceToNat, Nat.reduceLT, Nat.reduceLeDiff, Nat.le_refl, Nat.reduceEqDiff, ↓reduceIte, beq_self_eq_true, bne_self_eq_false, Int.reduceBEq, Int.reduceBNe, or_self, true_or, or_true, Option.map_some, Option.map_none, List.length_map, hget]) | (refine AW.seq_k fun K hK => ?_) | (refine AW.block ?_) | (refine AW.skip ?_; simp only [Then, InBlock]) | (refine AW.condT rfl (by first | rfl | (simp; omega) | (simp [*]; done) | fail) ?_) | (refine AW.cond rfl (fun h => ?_) (fun h => ?_) <;> (try simp only [decide_eq_true_eq, decide_eq_false_iff_not, Bool.not_eq_true', Bool.not_eq_false', Bool.not_eq_eq_eq_not, Bool.not_true, Bool.not_false, beq_iff_eq, bne_iff_ne, beq_eq_false_iff_ne, ne_eq, Bool.and_eq_true, Bool.or_eq_true, Bool.or_eq_false_iff] at h)) | (refine hK _ ?_; clear hK K) | (with_reducible refine And.intro ?_ ?_; first | omega | assumption | (focus (decide)) | (focus (simp; done)) | (focus (simp; omega)) | (focus (constructor <;> omega)) | fail) | (refine AW.ret (Fin.data rfl (by first | (simp only [go_sem]; done) | ((rw [if_pos h] at h2; subst h2; simp [go_sem]); done) | (simp [go_sem]; omega) | rfl) rfl)))
    rw [if_neg (by simp [h])] at h2
    exact ⟨i + 1, ⟨hi, h2⟩, by omega, (Weak.auto hcx rfl rfl (Nat.le_of_ble_eq_true rfl) (by simp [go_sem, gL, kL, renOf, V.obj, lk, Nat.blt, Nat.ble, List.map_append, dv_push]) (by simp [go_sem, gL, kL, renOf, V.obj, lk, Nat.blt, Nat.ble, List.map_append, dv_push]) (by first | exact pk0 | exact pk1 ⟨_, rfl⟩ | exact pk2 ⟨_, rfl⟩ ⟨_, rfl⟩ | exact pk3 ⟨_, rfl⟩ ⟨_, rfl⟩ ⟨_, rfl⟩ | exact pk4 ⟨_, rfl⟩ ⟨_, rfl⟩ ⟨_, rfl⟩ ⟨_, rfl⟩) (by simp [go_sem, gL, kL, lk, renOf, V.obj, Nat.blt, Nat.ble]))⟩
  · obtain rfl : i = xs.length := by omega
    simp only [List.drop_length, idxG] at h2
    subst h2
    repeat' (first | (refine AW.sreg rfl fun K hK => ?_; simp only [go_sem, Nat.reduceAdd, Nat.reduceMul, Int.reduceToNat, Nat.reduceLT, Nat.reduceLeDiff, Nat.le_refl, Nat.reduceEqDiff, ↓reduceIte, beq_self_eq_true, bne_self_eq_false, Int.reduceBEq, Int.reduceBNe, or_self, true_or, or_true, Option.map_some, Option.map_none, List.length_map]) | (refine AW.seq_k fun K hK => ?_) | (refine AW.exit ?_; simp only [go_sem, ↓reduceIte]) | (refine AW.condF rfl (by first | rfl | (simp; omega) | (simp [*]; done) | fail) ?_) | (refine hK _ ?_; clear hK K) | (clear hK K; refine hK _ ?_; clear hK K) | (refine AW.ret (Fin.data rfl (by first | (simp only [go_sem]; done) | (simp [go_sem, *]; done) | (simp [go_sem]; omega) | rfl) rfl)))
theorem credit_no (xs : List Cr) (hl : xs.length ≤ 1000) (k : Str) (h : ∀ x ∈ xs, x.1 ≠ k) : Does Tryz.prog 95 [.d (.sl (xs.map crD)), S k] [] (I (-1)) [] := by
  have hx := indexFunc_Cr xs hl 128 (.ptr [.str k] 0) (fun x => x.1 == k) (fun x _ => credit1_any x k)
  rw [idxG_none _ _ _ (fun x hx => by simpa using h x hx)] at hx
  refine Does.of_AW (n := 8) Tryz.func95 rfl rfl rfl fun cx hcx => ?_
  repeat' (first | ((first | refine AW.sreg rfl fun K hK => ?_ | refine run_call _ _ _ ((hx).lend (by repeat' (first | exact frzL_nil | refine frzL_cons (by first | exact frz_d | exact frz_slr rfl rfl (by first | (simp; done) | (simp; omega) | (simp [*]; done) | fail) | rfl) ?_)) rfl rfl rfl) rfl rfl (dstOk_of rfl) rfl rfl rfl ?_); simp only [go_sem, Nat.reduceAdd, Nat.reduceMul, Int.reduceToNat, Nat.reduceLT, Nat.reduceLeDiff, Nat.le_refl, Nat.reduceEqDiff, ↓reduceIte, beq_self_eq_true, bne_self_eq_false, Int.reduceBEq, Int.reduceBNe, or_self, true_or, or_true, Option.map_some, Option.map_none]) | (refine hK _ ?_; clear hK K) | (refine AW.ret (Fin.data rfl (by first | (simp only [go_sem]; done) | (simp [go_sem, *]; done) | (simp [go_sem]; omega) | rfl) rfl)))
theorem crs_nodup {cs : List Cr} (h : CrsG cs) : (cs.map (·.1)).Nodup := h.2.1.nodup (by decide)
theorem crs_len {cs : List Cr} (h : CrsG cs) : cs.length ≤ 3 := by
  have := h.2.1.length_le
  simpa [K3] using this
theorem all_ok_Cr (xs : List Cr) : (xs.map crD).all (elemOkD 2) = true := by simp [elemOkD, D.cells, D.single]
theorem creditsFault_ok (cs : List Cr) (hcs : CrsG cs) : Does Tryz.prog 93 [.d (.sl (cs.map crD))] [] (I 0) [] := by
  have hl := crs_len hcs
  have hnd := crs_nodup hcs
  have hpos : 0 < cs.length := List.length_pos_iff.2 hcs.1
  refine Does.of_AW (n := 37) Tryz.func93 rfl rfl rfl fun cx hcx => ?_
  repeat' (first | (refine AW.sreg rfl fun K hK => ?_; simp only [go_sem, Nat.reduceAdd, Nat.reduceMul, Int.reduceToNat, Nat.reduceLT, Nat.reduceLeDiff, Nat.le_refl, Nat.reduceEqDiff, ↓reduceIte, beq_self_eq_true, bne_self_eq_false, Int.reduceBEq, Int.reduceBNe, or_self, true_or, or_true, Option.map_some, Option.map_none, List.length_map]) | (refine AW.seq_k fun K hK => ?_) | (refine AW.block ?_) | (refine AW.skip ?_; simp only [Then, InBlock]) | (refine AW.condF rfl (by first | rfl | (simp; omega) | (simp [*]; done) | fail) ?_) | (refine AW.cond rfl (fun h => ?_) (fun h => ?_) <;> (try simp only [decide_eq_true_eq, decide_eq_false_iff_not, Bool.not_eq_true', Bool.not_eq_false', Bool.not_eq_eq_eq_not, Bool.not_true, Bool.not_false, beq_iff_eq, bne_iff_ne, beq_eq_false_iff_ne, ne_eq, Bool.and_eq_true, Bool.or_eq_true, Bool.or_eq_false_iff] at h)) | (refine hK _ ?_; clear hK K) | (refine AW.ret (Fin.data rfl (by first | (simp only [go_sem]; done) | (simp [go_sem, *]; done) | (simp [go_sem]; omega) | rfl) rfl)))
  refine AW.loopF (ι := Nat) [0, 11, 12] (fun p => [(13, I p)]) (fun p => []) 1 (fun p => p ≤ cs.length) (fun p => cs.length - p) 0 (Nat.zero_le _) (Weak.auto hcx rfl rfl (Nat.le_of_ble_eq_true rfl) (by simp [go_sem, gL, kL, renOf, V.obj, lk, Nat.blt, Nat.ble, List.map_append, dv_push]) (by simp [go_sem, gL, kL, renOf, V.obj, lk, Nat.blt, Nat.ble, List.map_append, dv_push]) (by first | exact pk0 | exact pk1 ⟨_, rfl⟩ | exact pk2 ⟨_, rfl⟩ ⟨_, rfl⟩ | exact pk3 ⟨_, rfl⟩ ⟨_, rfl⟩ ⟨_, rfl⟩ | exact pk4 ⟨_, rfl⟩ ⟨_, rfl⟩ ⟨_, rfl⟩ ⟨_, rfl⟩) (by simp [go_sem, gL, kL, lk, renOf, V.obj, Nat.blt, Nat.ble])) ?_; simp only [St.at_nil, St.at_cons, lk, Nat.reduceEqDiff, ↓reduceIte, Option.getD_some, Option.getD_none, List.cons_append, List.nil_append, List.append_nil]
  intro i h1
  by_cases hi : i < cs.length
  · obtain ⟨x, hx, hxm, hxd⟩ := get_some hi
    have hget : (cs.map crD)[i]? = some (crD x) := by simp [hx]
    have hk := isKey_any x.1 (by have := hcs.2.1.subset (List.mem_map_of_mem hxm); revert this; generalize x.1 = z; revert z; decide)
    rw [keysK x.1 (hcs.2.1.subset (List.mem_map_of_mem hxm))] at hk
    have hn := nameLine (hcs.2.2 x hxm)
    have hc := credit_no (cs.take i) (by simp; omega) x.1 fun y hy e => by
      obtain ⟨j, hj⟩ := List.mem_iff_getElem?.1 hy
      rw [List.getElem?_take] at hj
      split at hj
      · rename_i hji
        have e1 : (cs.map (·.1))[j]? = some x.1 := by rw [List.getElem?_map, hj, Option.map_some, e]
        have e2 : (cs.map (·.1))[i]? = some x.1 := by rw [List.getElem?_map, hx, Option.map_some]
        have hjl : j < (cs.map (·.1)).length := by simp; omega
        have := (List.getElem?_inj hjl hnd).1 (e1.trans e2.symm)
        omega
      · cases hj
    rw [List.map_take] at hc
    repeat' (first | ((first | refine AW.sreg rfl fun K hK => ?_ | refine AW.sregD hmix rfl fun K hK => ?_ | refine AW.reg rfl ?_ | refine run_call _ _ _ ((hk).pure rfl rfl _ _) rfl rfl (dstOk_of rfl) rfl rfl rfl ?_ | refine run_call _ _ _ ((hn).pure rfl rfl _ _) rfl rfl (dstOk_of rfl) rfl rfl rfl ?_ | refine runT_call _ _ [] (fun hv _ => (hc).pure rfl rfl hv _) rfl rfl (dstOk_of rfl) rfl rfl ?_); simp only [go_sem, Nat.reduceAdd, Nat.reduceMul, Int.reduceToNat, Nat.reduceLT, Nat.reduceLeDiff, Nat.le_refl, Nat.reduceEqDiff, ↓reduceIte, beq_self_eq_true, bne_self_eq_false, Int.reduceBEq, Int.reduceBNe, or_self, true_or, or_true, Option.map_some, Option.map_none, List.length_map, hget, all_ok_Cr, Nat.sub_zero, and_true]) | (refine AW.seq_k fun K hK => ?_) | (refine AW.block ?_) | (refine AW.skip ?_; simp only [Then, InBlock]) | (refine AW.condT rfl (by first | rfl | (simp; omega) | (simp [*]; done) | fail) ?_) | (refine AW.condF rfl (by first | rfl | (simp; omega) | (simp [*]; done) | fail) ?_) | (refine hK _ ?_; clear hK K) | (with_reducible refine And.intro (?_ : regOk _ _ = true) ?_; kernel_rfl) | (with_reducible refine And.intro ?_ ?_; first | omega | assumption | (focus (decide)) | (focus (simp; done)) | (focus (simp; omega)) | (focus (constructor <;> omega)) | fail))
    all_goals first | exact ⟨i + 1, hi, by omega, (Weak.auto hcx rfl rfl (Nat.le_of_ble_eq_true rfl) (by simp [go_sem, gL, kL, renOf, V.obj, lk, Nat.blt, Nat.ble, List.map_append, dv_push]) (by simp [go_sem, gL, kL, renOf, V.obj, lk, Nat.blt, Nat.ble, List.map_append, dv_push]) (by first | exact pk0 | exact pk1 ⟨_, rfl⟩ | exact pk2 ⟨_, rfl⟩ ⟨_, rfl⟩ | exact pk3 ⟨_, rfl⟩ ⟨_, rfl⟩ ⟨_, rfl⟩ | exact pk4 ⟨_, rfl⟩ ⟨_, rfl⟩ ⟨_, rfl⟩ ⟨_, rfl⟩) (by simp [go_sem, gL, kL, lk, renOf, V.obj, Nat.blt, Nat.ble]))⟩ | trace_state
  · obtain rfl : i = cs.length := by omega
    repeat' (first | (refine AW.sreg rfl fun K hK => ?_; simp only [go_sem, Nat.reduceAdd, Nat.reduceMul, Int.reduceToNat, Nat.reduceLT, Nat.reduceLeDiff, Nat.le_refl, Nat.reduceEqDiff, ↓reduceIte, beq_self_eq_true, bne_self_eq_false, Int.reduceBEq, Int.reduceBNe, or_self, true_or, or_true, Option.map_some, Option.map_none, List.length_map]) | (refine AW.seq_k fun K hK => ?_) | (refine AW.exit ?_; simp only [go_sem, ↓reduceIte]) | (refine AW.condF rfl (by first | rfl | (simp; omega) | (simp [*]; done) | fail) ?_) | (refine hK _ ?_; clear hK K) | (clear hK K; refine hK _ ?_; clear hK K) | (refine AW.ret (Fin.data rfl (by first | (simp only [go_sem]; done) | (simp [go_sem, *]; done) | (simp [go_sem]; omega) | rfl) rfl)))
theorem pairwise_at {α : Type} {R : α → α → Prop} {xs : List α} (h : xs.Pairwise R) {i j : Nat} {x y : α} (hi : xs[i]? = some x) (hj : xs[j]? = some y) (hij : i < j) : R x y := by
  rw [List.pairwise_iff_getElem] at h
  have hil : i < xs.length := by
    rcases Nat.lt_or_ge i xs.length with h' | h'
    · exact h'
    · simp [List.getElem?_eq_none h'] at hi
  have hjl : j < xs.length := by
    rcases Nat.lt_or_ge j xs.length with h' | h'
    · exact h'
    · simp [List.getElem?_eq_none h'] at hj
  rw [List.getElem?_eq_getElem hil] at hi
  rw [List.getElem?_eq_getElem hjl] at hj
  cases hi
  cases hj
  exact h i j hil hjl hij
/-- All that may be drawn. -/
def FinsF (fs : List Fi) : Prop := (fs.map (·.1)).Sublist P4 ∧ ∀ f ∈ fs, FinG f
theorem fins_len {fs : List Fi} (h : FinsF fs) : fs.length ≤ 4 := by
  have := h.1.length_le
  simpa [P4] using this
theorem fins_lt {fs : List Fi} (h : FinsF fs) {i j : Nat} {x y : Fi} (hi : fs[i]? = some x) (hj : fs[j]? = some y) (hij : i < j) : (Op.bytesLess y.1 x.1 || y.1 == x.1) = false := by
  have hp : P4.Pairwise fun a b => (Op.bytesLess b a || b == a) = false := by decide
  have hq := hp.sublist h.1
  exact pairwise_at hq (i := i) (j := j) (by rw [List.getElem?_map, hi]; rfl) (by rw [List.getElem?_map, hj]; rfl) hij
theorem pages_in : ∀ n ∈ G5, 1 ≤ n ∧ n ≤ 100 := by decide
theorem checkFinals_ok (fs : List Fi) (h : FinsF fs) : Does Tryz.prog 54 [.d (.sl (fs.map fiD))] [] (I 0) [] := by
  have hl := fins_len h
  refine Does.of_AW (n := 51) Tryz.func54 rfl rfl rfl fun cx hcx => ?_
  repeat' (first | (refine AW.sreg rfl fun K hK => ?_; simp only [go_sem, Nat.reduceAdd, Nat.reduceMul, Int.reduceToNat, Nat.reduceLT, Nat.reduceLeDiff, Nat.le_refl, Nat.reduceEqDiff, ↓reduceIte, beq_self_eq_true, bne_self_eq_false, Int.reduceBEq, Int.reduceBNe, or_self, true_or, or_true, Option.map_some, Option.map_none, List.length_map]) | (refine AW.seq_k fun K hK => ?_) | (refine AW.block ?_) | (refine AW.skip ?_; simp only [Then, InBlock]) | (refine AW.condF rfl (by first | rfl | (simp; omega) | (simp [*]; done) | fail) ?_) | (refine hK _ ?_; clear hK K))
  refine AW.loopF (ι := Nat) [0, 9, 10] (fun p => [(11, I p)]) (fun p => []) 1 (fun p => p ≤ fs.length) (fun p => fs.length - p) 0 (Nat.zero_le _) (Weak.auto hcx rfl rfl (Nat.le_of_ble_eq_true rfl) (by simp [go_sem, gL, kL, renOf, V.obj, lk, Nat.blt, Nat.ble, List.map_append, dv_push]) (by simp [go_sem, gL, kL, renOf, V.obj, lk, Nat.blt, Nat.ble, List.map_append, dv_push]) (by first | exact pk0 | exact pk1 ⟨_, rfl⟩ | exact pk2 ⟨_, rfl⟩ ⟨_, rfl⟩ | exact pk3 ⟨_, rfl⟩ ⟨_, rfl⟩ ⟨_, rfl⟩ | exact pk4 ⟨_, rfl⟩ ⟨_, rfl⟩ ⟨_, rfl⟩ ⟨_, rfl⟩) (by simp [go_sem, gL, kL, lk, renOf, V.obj, Nat.blt, Nat.ble])) ?_; simp only [St.at_nil, St.at_cons, lk, Nat.reduceEqDiff, ↓reduceIte, Option.getD_some, Option.getD_none, List.cons_append, List.nil_append, List.append_nil]
  intro i h1
  by_cases hi : i < fs.length
  · obtain ⟨x, hx, hxm, hxd⟩ := get_some hi
    obtain ⟨x1, x2, x3, x4⟩ := h.2 x hxm
    have hget : (fs.map fiD)[i]? = some (fiD x) := by simp [hx]
    have hk := isKey_any x.1 (by revert x1; generalize x.1 = z; revert z; decide)
    rw [keysP x.1 x1] at hk
    have ht := titleLine x2
    obtain ⟨g1, g2⟩ := pages_in _ x3
    have hc := creditsFault_ok x.2.2.2 x4
    rcases i with _ | j
    · repeat' (first | ((first | refine AW.sreg rfl fun K hK => ?_ | refine AW.sregD hmix rfl fun K hK => ?_ | refine AW.reg rfl ?_ | refine run_call _ _ _ ((hk).pure rfl rfl _ _) rfl rfl (dstOk_of rfl) rfl rfl rfl ?_ | refine run_call _ _ _ ((ht).pure rfl rfl _ _) rfl rfl (dstOk_of rfl) rfl rfl rfl ?_ | refine run_call _ _ _ ((hc).pure rfl rfl _ _) rfl rfl (dstOk_of rfl) rfl rfl rfl ?_ | refine run_call _ _ _ ((outside_any _ _ _).pure rfl rfl _ _) rfl rfl (dstOk_of rfl) rfl rfl rfl ?_); simp only [go_sem, Nat.reduceAdd, Nat.reduceMul, Int.reduceToNat, Nat.reduceLT, Nat.reduceLeDiff, Nat.le_refl, Nat.reduceEqDiff, ↓reduceIte, beq_self_eq_true, bne_self_eq_false, Int.reduceBEq, Int.reduceBNe, or_self, true_or, or_true, Option.map_some, Option.map_none, List.length_map, hget]) | (refine AW.seq_k fun K hK => ?_) | (refine AW.block ?_) | (refine AW.skip ?_; simp only [Then, InBlock]) | (refine AW.condT rfl (by first | rfl | (simp; omega) | (simp [*]; done) | fail) ?_) | (refine AW.condF rfl (by first | rfl | (simp; omega) | (simp [*]; done) | fail) ?_) | (refine hK _ ?_; clear hK K) | (refine stepBT_split (fun h => ?_) (fun h => ?_) <;> (have hb0 := h) <;> (try simp only [Bool.not_eq_true', Bool.not_eq_false'] at hb0) <;> (try simp only [decide_eq_true_eq, decide_eq_false_iff_not, Bool.not_eq_true', Bool.not_eq_false', Bool.not_eq_eq_eq_not, Bool.not_true, Bool.not_false, beq_iff_eq, bne_iff_ne, beq_eq_false_iff_ne, ne_eq, Bool.and_eq_true, Bool.or_eq_true, Bool.or_eq_false_iff] at h) <;> simp only [go_sem, Nat.reduceAdd, Nat.reduceMul, Int.reduceToNat, Nat.reduceLT, Nat.reduceLeDiff, Nat.le_refl, Nat.reduceEqDiff, ↓reduceIte, beq_self_eq_true, bne_self_eq_false, Int.reduceBEq, Int.reduceBNe, or_self, true_or, or_true, Option.map_some, Option.map_none, hb0, h, decide_true, decide_false, List.length_map, hget] <;> (try clear hb0)) | (with_reducible refine And.intro (?_ : regOk _ _ = true) ?_; kernel_rfl) | (with_reducible refine And.intro ?_ ?_; first | omega | assumption | (focus (decide)) | (focus (simp; done)) | (focus (simp; omega)) | (focus (constructor <;> omega)) | fail) | (exfalso; omega))
      all_goals first | exact ⟨_ + 1, hi, by omega, (Weak.auto hcx rfl rfl (Nat.le_of_ble_eq_true rfl) (by simp [go_sem, gL, kL, renOf, V.obj, lk, Nat.blt, Nat.ble, List.map_append, dv_push]) (by simp [go_sem, gL, kL, renOf, V.obj, lk, Nat.blt, Nat.ble, List.map_append, dv_push]) (by first | exact pk0 | exact pk1 ⟨_, rfl⟩ | exact pk2 ⟨_, rfl⟩ ⟨_, rfl⟩ | exact pk3 ⟨_, rfl⟩ ⟨_, rfl⟩ ⟨_, rfl⟩ | exact pk4 ⟨_, rfl⟩ ⟨_, rfl⟩ ⟨_, rfl⟩ ⟨_, rfl⟩) (by simp [go_sem, gL, kL, lk, renOf, V.obj, Nat.blt, Nat.ble]))⟩ | trace_state
    · obtain ⟨y, hy, hym, hyd⟩ := get_some (show j < fs.length by omega)
      have hget2 : (fs.map fiD)[(((j + 1 : Nat) : Int) - 1).toNat]? = some (fiD y) := by
        rw [show (((j + 1 : Nat) : Int) - 1).toNat = j by omega]; simp [hy]
      have hlt := fins_lt h hy hx (Nat.lt_succ_self j)
      repeat' (first | ((first | refine AW.sreg rfl fun K hK => ?_ | refine AW.sregD hmix rfl fun K hK => ?_ | refine AW.reg rfl ?_ | refine run_call _ _ _ ((hk).pure rfl rfl _ _) rfl rfl (dstOk_of rfl) rfl rfl rfl ?_ | refine run_call _ _ _ ((ht).pure rfl rfl _ _) rfl rfl (dstOk_of rfl) rfl rfl rfl ?_ | refine run_call _ _ _ ((hc).pure rfl rfl _ _) rfl rfl (dstOk_of rfl) rfl rfl rfl ?_ | refine run_call _ _ _ ((outside_any _ _ _).pure rfl rfl _ _) rfl rfl (dstOk_of rfl) rfl rfl rfl ?_); simp only [go_sem, Nat.reduceAdd, Nat.reduceMul, Int.reduceToNat, Nat.reduceLT, Nat.reduceLeDiff, Nat.le_refl, Nat.reduceEqDiff, ↓reduceIte, beq_self_eq_true, bne_self_eq_false, Int.reduceBEq, Int.reduceBNe, or_self, true_or, or_true, Option.map_some, Option.map_none, List.length_map, hget, hget2, hlt]) | (refine AW.seq_k fun K hK => ?_) | (refine AW.block ?_) | (refine AW.skip ?_; simp only [Then, InBlock]) | (refine AW.condT rfl (by first | rfl | (simp; omega) | (simp [*]; done) | fail) ?_) | (refine AW.condF rfl (by first | rfl | (simp; omega) | (simp [*]; done) | fail) ?_) | (refine hK _ ?_; clear hK K) | (refine stepBT_split (fun h => ?_) (fun h => ?_) <;> (have hb0 := h) <;> (try simp only [Bool.not_eq_true', Bool.not_eq_false'] at hb0) <;> (try simp only [decide_eq_true_eq, decide_eq_false_iff_not, Bool.not_eq_true', Bool.not_eq_false', Bool.not_eq_eq_eq_not, Bool.not_true, Bool.not_false, beq_iff_eq, bne_iff_ne, beq_eq_false_iff_ne, ne_eq, Bool.and_eq_true, Bool.or_eq_true, Bool.or_eq_false_iff] at h) <;> simp only [go_sem, Nat.reduceAdd, Nat.reduceMul, Int.reduceToNat, Nat.reduceLT, Nat.reduceLeDiff, Nat.le_refl, Nat.reduceEqDiff, ↓reduceIte, beq_self_eq_true, bne_self_eq_false, Int.reduceBEq, Int.reduceBNe, or_self, true_or, or_true, Option.map_some, Option.map_none, hb0, h, decide_true, decide_false, List.length_map, hget, hget2, hlt] <;> (try clear hb0)) | (with_reducible refine And.intro (?_ : regOk _ _ = true) ?_; kernel_rfl) | (with_reducible refine And.intro ?_ ?_; first | omega | assumption | (focus (decide)) | (focus (simp; done)) | (focus (simp; omega)) | (focus (constructor <;> omega)) | fail) | (exfalso; omega))
      all_goals first | exact ⟨_ + 1, hi, by omega, (Weak.auto hcx rfl rfl (Nat.le_of_ble_eq_true rfl) (by simp [go_sem, gL, kL, renOf, V.obj, lk, Nat.blt, Nat.ble, List.map_append, dv_push]) (by simp [go_sem, gL, kL, renOf, V.obj, lk, Nat.blt, Nat.ble, List.map_append, dv_push]) (by first | exact pk0 | exact pk1 ⟨_, rfl⟩ | exact pk2 ⟨_, rfl⟩ ⟨_, rfl⟩ | exact pk3 ⟨_, rfl⟩ ⟨_, rfl⟩ ⟨_, rfl⟩ | exact pk4 ⟨_, rfl⟩ ⟨_, rfl⟩ ⟨_, rfl⟩ ⟨_, rfl⟩) (by simp [go_sem, gL, kL, lk, renOf, V.obj, Nat.blt, Nat.ble]))⟩ | trace_state
  · obtain rfl : i = fs.length := by omega
    repeat' (first | (refine AW.sreg rfl fun K hK => ?_; simp only [go_sem, Nat.reduceAdd, Nat.reduceMul, Int.reduceToNat, Nat.reduceLT, Nat.reduceLeDiff, Nat.le_refl, Nat.reduceEqDiff, ↓reduceIte, beq_self_eq_true, bne_self_eq_false, Int.reduceBEq, Int.reduceBNe, or_self, true_or, or_true, Option.map_some, Option.map_none, List.length_map]) | (refine AW.seq_k fun K hK => ?_) | (refine AW.exit ?_; simp only [go_sem, ↓reduceIte]) | (refine AW.condF rfl (by first | rfl | (simp; omega) | (simp [*]; done) | fail) ?_) | (refine hK _ ?_; clear hK K) | (clear hK K; refine hK _ ?_; clear hK K) | (refine AW.ret (Fin.data rfl (by first | (simp only [go_sem]; done) | (simp [go_sem, *]; done) | (simp [go_sem]; omega) | rfl) rfl)))
end Go.AX
