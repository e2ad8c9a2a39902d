/- Small functions: remainders, draws. -/
import Derived.Test.YtmijnlfmphcbbaaDoorTk
import Derived.Test.YtmijnlfmphcbbaaDoorSk
import Derived.Test.YtmijnlfmphcbbaaDoorAx32
set_option linter.unusedSimpArgs false
set_option linter.unusedVariables false
set_option maxRecDepth 100000
set_option maxRecDepth 1000000
set_option maxHeartbeats 4000000
set_option maxHeartbeats 1000000
namespace Go.AX
open Go Go.Proofs
abbrev I (n : Int) : V := .d (.int .i64 n)
abbrev B (b : Bool) : V := .d (.bool b)
abbrev S (s : List UInt8) : V := .d (.str s)

/-- A call of a function that is handed two objects. -/
theorem Does.two {P : Program} {f : FuncId} {ys ys' : List V} {x : V} {o o' q q' : O} (hd : Does P f ys [o, q] x [o', q']) (id jd : Nat) (hne : id ≠ jd) {hv : Nat → Option O} {nid : Nat} (h1 : renL (gOf [id, jd] nid) ys = ys') (hid : hv id = some o) (hjd : hv jd = some q)
    (h2 : x.ren (gOf [id, jd] nid) = x) (h3 : o'.ren (gOf [id, jd] nid) = o') (h4 : o.ren (gOf [id, jd] nid) = o) (h5 : q'.ren (gOf [id, jd] nid) = q') (h6 : q.ren (gOf [id, jd] nid) = q) (hb : ys.all (V.bel 2) = true) (hbo : o.bel 2 = true) (hbq : q.bel 2 = true) (hbx : x.bel 2 = true) (hbo' : o'.bel 2 = true) (hbq' : q'.bel 2 = true) (hl : o'.lv = some o') (hl2 : q'.lv = some q') :
    CallStep P hv nid f ys' x [(id, some o'), (jd, some q')] := by
  have := CallStep.of_does hd (hv := hv) (nid := nid) [id, jd] rfl (by simp [hne]) (fun i r hr => by
    cases i with
    | zero => simp at hr; subst hr; rw [h4]; exact hid
    | succ i =>
      cases i with
      | zero => simp at hr; subst hr; rw [h6]; exact hjd
      | succ i => simp at hr) (Nat.le_refl _) (by simp) hb (by simp [hbo, hbq]) hbx (by simp [hbo', hbq'])
  rw [h1, h2] at this
  have e : updsOf (gOf [id, jd] nid) 0 [o', q'] = [(id, some o'), (jd, some q')] := by
    simp only [updsOf, h3, hl, h5, hl2]; rfl
  rwa [e] at this

theorem tmod_neg (x n : Int) (hn : 0 < n) (h : x.tmod n < 0) : x.tmod n + n = x % n ∧ -n < x.tmod n := by
  have h2 := Int.emod_nonneg x (show n ≠ 0 by omega)
  have h3 := Int.emod_lt_of_pos x hn
  have hs : (n.natAbs : Int) = n := by omega
  rw [Int.tmod_eq_emod, hs] at *
  by_cases hc : 0 ≤ x ∨ n ∣ x
  · rw [if_pos hc] at h; omega
  · rw [if_neg hc] at *; omega
theorem tmod_pos (x n : Int) (hn : 0 < n) (h : ¬ x.tmod n < 0) : x.tmod n = x % n := by
  have h2 := Int.emod_nonneg x (show n ≠ 0 by omega)
  have h3 := Int.emod_lt_of_pos x hn
  have hs : (n.natAbs : Int) = n := by omega
  rw [Int.tmod_eq_emod, hs] at *
  by_cases hc : 0 ≤ x ∨ n ∣ x
  · rw [if_pos hc]; omega
  · rw [if_neg hc] at *; omega

theorem below (x n : Int) (h1 : 1 ≤ n) (h2 : n ≤ 9223372036854775807) : Does Tryd.prog 20 [I x, I n] [] (I (x % n)) [] := by
  refine Does.of_AW (n := 16) Tryd.func20 rfl rfl rfl fun cx hcx => ?_
  have a1 : ¬ n < 1 := by omega
  have a2 : n ≠ 0 := by omega
  refine AW.sreg rfl fun K hK => ?_; simp only [go_sem, Nat.reduceAdd, Nat.reduceMul, Int.reduceToNat, Nat.reduceLT, Nat.reduceLeDiff, Nat.le_refl, Nat.reduceEqDiff, ↓reduceIte, beq_self_eq_true, bne_self_eq_false, Int.reduceBEq, Int.reduceBNe, or_self, true_or, or_true, Option.map_some, Option.map_none]
  refine hK _ ?_; (try clear hK K)
  refine AW.seq_k fun K1 hK1 => ?_
  refine AW.sreg rfl fun K hK => ?_; simp only [go_sem, Nat.reduceAdd, Nat.reduceMul, Int.reduceToNat, Nat.reduceLT, Nat.reduceLeDiff, Nat.le_refl, Nat.reduceEqDiff, ↓reduceIte, beq_self_eq_true, bne_self_eq_false, Int.reduceBEq, Int.reduceBNe, or_self, true_or, or_true, Option.map_some, Option.map_none]
  refine hK _ ?_; (try clear hK K)
  refine AW.condF rfl (decide_eq_false a1) (AW.skip (hK1 _ ?_))
  refine AW.sreg rfl fun K hK => ?_; simp only [go_sem, Nat.reduceAdd, Nat.reduceMul, Int.reduceToNat, Nat.reduceLT, Nat.reduceLeDiff, Nat.le_refl, Nat.reduceEqDiff, ↓reduceIte, beq_self_eq_true, bne_self_eq_false, Int.reduceBEq, Int.reduceBNe, or_self, true_or, or_true, Option.map_some, Option.map_none]
  refine ⟨a2, ?_⟩
  refine hK _ ?_; (try clear hK K)
  refine AW.seq_k fun K1 hK1 => ?_
  refine AW.sreg rfl fun K hK => ?_; simp only [go_sem, Nat.reduceAdd, Nat.reduceMul, Int.reduceToNat, Nat.reduceLT, Nat.reduceLeDiff, Nat.le_refl, Nat.reduceEqDiff, ↓reduceIte, beq_self_eq_true, bne_self_eq_false, Int.reduceBEq, Int.reduceBNe, or_self, true_or, or_true, Option.map_some, Option.map_none]
  refine hK _ ?_; (try clear hK K)
  refine AW.cond rfl (fun h => ?_) (fun h => ?_)
  · have h := of_decide_eq_true h
    obtain ⟨e1, e2⟩ := tmod_neg x n (by omega) h
    refine AW.reg rfl ?_
    simp only [go_sem, Nat.reduceAdd, Nat.reduceMul, Int.reduceToNat, Nat.reduceLT, Nat.reduceLeDiff, Nat.le_refl, Nat.reduceEqDiff, ↓reduceIte, beq_self_eq_true, bne_self_eq_false, Int.reduceBEq, Int.reduceBNe, or_self, true_or, or_true, Option.map_some, Option.map_none]
    refine ⟨by omega, hK1 _ ?_⟩
    refine AW.sreg rfl fun K hK => ?_; simp only [go_sem, Nat.reduceAdd, Nat.reduceMul, Int.reduceToNat, Nat.reduceLT, Nat.reduceLeDiff, Nat.le_refl, Nat.reduceEqDiff, ↓reduceIte, beq_self_eq_true, bne_self_eq_false, Int.reduceBEq, Int.reduceBNe, or_self, true_or, or_true, Option.map_some, Option.map_none]
    exact hK _ (AW.ret (Fin.data rfl (by simp [go_sem, e1]) rfl))
  · have h := of_decide_eq_false h
    have e1 := tmod_pos x n (by omega) h
    refine AW.skip (hK1 _ ?_)
    refine AW.sreg rfl fun K hK => ?_; simp only [go_sem, Nat.reduceAdd, Nat.reduceMul, Int.reduceToNat, Nat.reduceLT, Nat.reduceLeDiff, Nat.le_refl, Nat.reduceEqDiff, ↓reduceIte, beq_self_eq_true, bne_self_eq_false, Int.reduceBEq, Int.reduceBNe, or_self, true_or, or_true, Option.map_some, Option.map_none]
    exact hK _ (AW.ret (Fin.data rfl (by simp [go_sem, e1]) rfl))

theorem gcd_step (a b : Int) (h : b ≠ 0) : Int.gcd b (a.tmod b) = Int.gcd a b := by
  rw [Int.gcd_comm a b]
  have : a.tmod b = a - b * (a.tdiv b) := by have := Int.tmod_add_mul_tdiv a b; omega
  rw [this]
  have e : a - b * (a.tdiv b) = a + b * (-(a.tdiv b)) := by rw [Int.mul_neg]; omega
  rw [e, Int.gcd_add_mul_left_right]

theorem tmod_abs (a b : Int) (h : b ≠ 0) : (a.tmod b).natAbs < b.natAbs := by
  have h1 := Int.tmod_lt_of_pos
  rw [Int.natAbs_tmod]
  exact Nat.mod_lt _ (by omega)
theorem tmod_bd (a b M : Int) (h : b ≠ 0) (hb : -M ≤ b ∧ b ≤ M) : -M ≤ a.tmod b ∧ a.tmod b ≤ M := by
  have := tmod_abs a b h
  omega
theorem gcd_go (a0 b0 : Int) (h1 : -4611686018427387904 ≤ a0 ∧ a0 ≤ 4611686018427387904) (h2 : -4611686018427387904 ≤ b0 ∧ b0 ≤ 4611686018427387904) : Does Tryd.prog 66 [I a0, I b0] [] (I (Int.gcd a0 b0)) [] := by
  refine Does.of_AW (n := 15) Tryd.func66 rfl rfl rfl fun cx hcx => ?_
  refine AW.sreg rfl fun K hK => ?_; simp only [go_sem, Nat.reduceAdd, Nat.reduceMul, Int.reduceToNat, Nat.reduceLT, Nat.reduceLeDiff, Nat.le_refl, Nat.reduceEqDiff, ↓reduceIte, beq_self_eq_true, bne_self_eq_false, Int.reduceBEq, Int.reduceBNe, or_self, true_or, or_true, Option.map_some, Option.map_none]
  refine hK _ ?_; (try clear hK K)
  refine AW.seq_k fun K hK => AW.block ?_
  refine AW.loopS (ι := Int × Int) (fun p => ⟨15, [(0, I p.1), (1, I p.2)], [], 0⟩)
    (fun p => Int.gcd p.1 p.2 = Int.gcd a0 b0 ∧ (-4611686018427387904 ≤ p.1 ∧ p.1 ≤ 4611686018427387904) ∧ (-4611686018427387904 ≤ p.2 ∧ p.2 ≤ 4611686018427387904)) (fun p => p.2.natAbs) (a0, b0) ⟨rfl, h1, h2⟩ (Weak.data hcx rfl rfl (by simp [go_sem])) ?_
  rintro ⟨a, b⟩ ⟨hg, ha, hb⟩
  simp only at hg ha hb ⊢
  refine AW.seq_k fun K1 hK1 => AW.sreg rfl fun K2 hK2 => ?_
  simp only [go_sem, Nat.reduceAdd, Nat.reduceMul, Int.reduceToNat, Nat.reduceLT, Nat.reduceLeDiff, Nat.le_refl, Nat.reduceEqDiff, ↓reduceIte, beq_self_eq_true, bne_self_eq_false, Int.reduceBEq, Int.reduceBNe, or_self, true_or, or_true, Option.map_some, Option.map_none]
  refine hK2 _ ?_
  refine AW.cond rfl (fun h => ?_) (fun h => ?_)
  · have h : b ≠ 0 := by simpa using h
    refine AW.skip (hK1 _ (AW.block ?_))
    refine AW.regD hmix rfl ?_; simp only [go_sem, Nat.reduceAdd, Nat.reduceMul, Int.reduceToNat, Nat.reduceLT, Nat.reduceLeDiff, Nat.le_refl, Nat.reduceEqDiff, ↓reduceIte, beq_self_eq_true, bne_self_eq_false, Int.reduceBEq, Int.reduceBNe, or_self, true_or, or_true, Option.map_some, Option.map_none]
    refine ⟨h, by kernel_rfl, (b, a.tmod b), ⟨?_, ?_, ?_⟩, ?_, ?_⟩
    · exact (gcd_step a b h).trans hg
    · exact hb
    · exact tmod_bd a b _ h hb
    · exact tmod_abs a b h
    · exact Weak.data hcx rfl rfl (by simp [go_sem])
  · have h : b = 0 := by simpa using h
    refine AW.exit ?_
    simp only [go_sem, ↓reduceIte]
    refine hK _ ?_
    refine AW.sreg rfl fun K hK => ?_; simp only [go_sem, Nat.reduceAdd, Nat.reduceMul, Int.reduceToNat, Nat.reduceLT, Nat.reduceLeDiff, Nat.le_refl, Nat.reduceEqDiff, ↓reduceIte, beq_self_eq_true, bne_self_eq_false, Int.reduceBEq, Int.reduceBNe, or_self, true_or, or_true, Option.map_some, Option.map_none]
    subst h
    refine ⟨by omega, ?_⟩
    exact hK _ (AW.ret (Fin.data rfl (by rw [← hg]; simp [go_sem]; split <;> omega) rfl))

/-! ### the stream -/
def nextV (l : List Int) (at_ n : Int) : Int :=
  if l = [] then (at_ + 1) * 7919 % n else
    let i := at_ % (l.length : Int)
    ((l.getD i.toNat 0) % 1073741824 + at_ / (l.length : Int) * (7919 + i)) % n
abbrev Ls (l : List Int) : V := .d (.sl (l.map (D.int .i64)))


theorem next_nil (at_ n : Int) (h1 : 1 ≤ n) (h2 : n ≤ 9223372036854775807) (ha : 0 ≤ at_) (hb : at_ ≤ 1000000) :
    Does Tryd.prog 10 [.ptr 0 0, I n] [.box 25 [Ls [], I at_]] (I (nextV [] at_ n)) [.box 25 [Ls [], I (at_ + 1)]] := by
  refine Does.of_AW (n := 64) Tryd.func10 rfl rfl rfl fun cx hcx => ?_
  refine AW.sreg rfl fun K hK => ?_; simp only [go_sem, Nat.reduceAdd, Nat.reduceMul, Int.reduceToNat, Nat.reduceLT, Nat.reduceLeDiff, Nat.le_refl, Nat.reduceEqDiff, ↓reduceIte, beq_self_eq_true, bne_self_eq_false, Int.reduceBEq, Int.reduceBNe, or_self, true_or, or_true, Option.map_some, Option.map_none]
  refine hK _ ?_; (try clear hK K)
  refine AW.sreg rfl fun K hK => ?_; simp only [go_sem, Nat.reduceAdd, Nat.reduceMul, Int.reduceToNat, Nat.reduceLT, Nat.reduceLeDiff, Nat.le_refl, Nat.reduceEqDiff, ↓reduceIte, beq_self_eq_true, bne_self_eq_false, Int.reduceBEq, Int.reduceBNe, or_self, true_or, or_true, Option.map_some, Option.map_none]
  refine ⟨by omega, ?_⟩
  refine hK _ ?_; (try clear hK K)
  refine AW.seq_k fun K1 hK1 => ?_
  refine AW.sreg rfl fun K hK => ?_; simp only [go_sem, Nat.reduceAdd, Nat.reduceMul, Int.reduceToNat, Nat.reduceLT, Nat.reduceLeDiff, Nat.le_refl, Nat.reduceEqDiff, ↓reduceIte, beq_self_eq_true, bne_self_eq_false, Int.reduceBEq, Int.reduceBNe, or_self, true_or, or_true, Option.map_some, Option.map_none]
  refine hK _ ?_; (try clear hK K)
  refine AW.condT rfl (by rfl) ?_
  refine AW.sreg rfl fun K hK => ?_; simp only [go_sem, Nat.reduceAdd, Nat.reduceMul, Int.reduceToNat, Nat.reduceLT, Nat.reduceLeDiff, Nat.le_refl, Nat.reduceEqDiff, ↓reduceIte, beq_self_eq_true, bne_self_eq_false, Int.reduceBEq, Int.reduceBNe, or_self, true_or, or_true, Option.map_some, Option.map_none]
  refine ⟨by omega, ?_⟩
  refine run_call _ _ _ ((below ((at_ + 1) * 7919) n h1 h2).pure rfl rfl _ _) rfl rfl (dstOk_of rfl) rfl rfl rfl ?_
  simp only [go_sem, Nat.reduceAdd, Nat.reduceMul, Int.reduceToNat, Nat.reduceLT, Nat.reduceLeDiff, Nat.le_refl, Nat.reduceEqDiff, ↓reduceIte, beq_self_eq_true, bne_self_eq_false, Int.reduceBEq, Int.reduceBNe, or_self, true_or, or_true, Option.map_some, Option.map_none]
  refine hK _ (AW.ret (Fin.one rfl rfl ⟨_, rfl, rfl⟩ rfl rfl rfl))

theorem next_cons (l : List Int) (hl : l ≠ []) (hl2 : l.length ≤ 9223372036854775807) (at_ n : Int) (h1 : 1 ≤ n) (h2 : n ≤ 9223372036854775807) (ha : 0 ≤ at_) (hb : at_ ≤ 1000000) :
    Does Tryd.prog 10 [.ptr 0 0, I n] [.box 25 [Ls l, I at_]] (I (nextV l at_ n)) [.box 25 [Ls l, I (at_ + 1)]] := by
  have hpos : 0 < l.length := List.length_pos_iff.2 hl
  have e1 : ((l.length : Int) == 0) = false := by simp; omega
  have i0 := Int.emod_nonneg at_ (show (l.length : Int) ≠ 0 by omega)
  have i1 := Int.emod_lt_of_pos at_ (show (0 : Int) < l.length by omega)
  have t1 : (at_ + 1 - 1).tmod l.length = at_ % (l.length : Int) := by rw [Int.add_sub_cancel]; exact Int.tmod_eq_emod_of_nonneg ha
  have t2 : (at_ + 1 - 1).tdiv l.length = at_ / (l.length : Int) := by rw [Int.add_sub_cancel]; exact Int.tdiv_eq_ediv_of_nonneg ha
  have hlt : (at_ % (l.length : Int)).toNat < l.length := by omega
  have hget : (l.map (D.int .i64))[(at_ % (l.length : Int)).toNat]? = some (D.int .i64 (l.getD (at_ % (l.length : Int)).toNat 0)) := by
    simp [List.getElem?_eq_getElem hlt]
  refine Does.of_AW (n := 64) Tryd.func10 rfl rfl rfl fun cx hcx => ?_
  refine AW.sreg rfl fun K hK => ?_; simp only [go_sem, Nat.reduceAdd, Nat.reduceMul, Int.reduceToNat, Nat.reduceLT, Nat.reduceLeDiff, Nat.le_refl, Nat.reduceEqDiff, ↓reduceIte, beq_self_eq_true, bne_self_eq_false, Int.reduceBEq, Int.reduceBNe, or_self, true_or, or_true, Option.map_some, Option.map_none]
  refine hK _ ?_; (try clear hK K)
  refine AW.sreg rfl fun K hK => ?_; simp only [go_sem, Nat.reduceAdd, Nat.reduceMul, Int.reduceToNat, Nat.reduceLT, Nat.reduceLeDiff, Nat.le_refl, Nat.reduceEqDiff, ↓reduceIte, beq_self_eq_true, bne_self_eq_false, Int.reduceBEq, Int.reduceBNe, or_self, true_or, or_true, Option.map_some, Option.map_none]
  refine ⟨by omega, ?_⟩
  refine hK _ ?_; (try clear hK K)
  refine AW.seq_k fun K1 hK1 => ?_
  refine AW.sreg rfl fun K hK => ?_; simp only [go_sem, Nat.reduceAdd, Nat.reduceMul, Int.reduceToNat, Nat.reduceLT, Nat.reduceLeDiff, Nat.le_refl, Nat.reduceEqDiff, ↓reduceIte, beq_self_eq_true, bne_self_eq_false, Int.reduceBEq, Int.reduceBNe, or_self, true_or, or_true, Option.map_some, Option.map_none, List.length_map]
  refine hK _ ?_; (try clear hK K)
  refine AW.condF rfl e1 (AW.skip (hK1 _ ?_))
  refine AW.sregD hmix rfl fun K hK => ?_; simp only [go_sem, Nat.reduceAdd, Nat.reduceMul, Int.reduceToNat, Nat.reduceLT, Nat.reduceLeDiff, Nat.le_refl, Nat.reduceEqDiff, ↓reduceIte, beq_self_eq_true, bne_self_eq_false, Int.reduceBEq, Int.reduceBNe, or_self, true_or, or_true, Option.map_some, Option.map_none, List.length_map]
  refine ⟨by omega, by omega, by kernel_rfl, ?_⟩
  refine hK _ ?_; (try clear hK K)
  have t3 : 0 ≤ at_ / (l.length : Int) := Int.ediv_nonneg ha (by omega)
  have t4 : at_ / (l.length : Int) ≤ at_ := Int.ediv_le_self _ ha
  refine AW.sregD hmix rfl fun K hK => ?_; simp only [go_sem, Nat.reduceAdd, Nat.reduceMul, Int.reduceToNat, Nat.reduceLT, Nat.reduceLeDiff, Nat.le_refl, Nat.reduceEqDiff, ↓reduceIte, beq_self_eq_true, bne_self_eq_false, Int.reduceBEq, Int.reduceBNe, or_self, true_or, or_true, Option.map_some, Option.map_none, List.length_map, t1, t2]
  refine ⟨by omega, ⟨by omega, by omega, by omega⟩, by kernel_rfl, ?_⟩
  refine hK _ ?_; (try clear hK K)
  have i2 : at_ % (l.length : Int) ≤ at_ := by
    have q1 := Int.mul_ediv_add_emod at_ (l.length : Int)
    have q2 := Int.mul_nonneg (show 0 ≤ (l.length : Int) by omega) t3
    omega
  refine AW.sreg rfl fun K hK => ?_; simp only [go_sem, Nat.reduceAdd, Nat.reduceMul, Int.reduceToNat, Nat.reduceLT, Nat.reduceLeDiff, Nat.le_refl, Nat.reduceEqDiff, ↓reduceIte, beq_self_eq_true, bne_self_eq_false, Int.reduceBEq, Int.reduceBNe, or_self, true_or, or_true, Option.map_some, Option.map_none, t1, t2, hget]
  refine ⟨i0, ?_⟩
  refine run_call _ _ _ ((below (l.getD (at_ % (l.length : Int)).toNat 0) 1073741824 (by omega) (by omega)).pure rfl rfl _ _) rfl rfl (dstOk_of rfl) rfl rfl rfl ?_
  simp only [go_sem, Nat.reduceAdd, Nat.reduceMul, Int.reduceToNat, Nat.reduceLT, Nat.reduceLeDiff, Nat.le_refl, Nat.reduceEqDiff, ↓reduceIte, beq_self_eq_true, bne_self_eq_false, Int.reduceBEq, Int.reduceBNe, or_self, true_or, or_true, Option.map_some, Option.map_none]
  have b0 := Int.emod_nonneg (l.getD (at_ % (l.length : Int)).toNat 0) (show (1073741824 : Int) ≠ 0 by omega)
  have b1 := Int.emod_lt_of_pos (l.getD (at_ % (l.length : Int)).toNat 0) (show (0 : Int) < 1073741824 by omega)
  have m0 : 0 ≤ at_ / (l.length : Int) * (7919 + at_ % (l.length : Int)) := Int.mul_nonneg t3 (by omega)
  have m1 : at_ / (l.length : Int) * (7919 + at_ % (l.length : Int)) ≤ 1000000 * 1007919 := Int.mul_le_mul (by omega) (by omega) (by omega) (by omega)
  refine ⟨by omega, by omega, by omega, ?_⟩
  refine run_call _ _ _ ((below _ n h1 h2).pure rfl rfl _ _) rfl rfl (dstOk_of rfl) rfl rfl rfl ?_
  simp only [go_sem, Nat.reduceAdd, Nat.reduceMul, Int.reduceToNat, Nat.reduceLT, Nat.reduceLeDiff, Nat.le_refl, Nat.reduceEqDiff, ↓reduceIte, beq_self_eq_true, bne_self_eq_false, Int.reduceBEq, Int.reduceBNe, or_self, true_or, or_true, Option.map_some, Option.map_none]
  refine hK _ (AW.ret (Fin.one rfl ?_ ⟨_, rfl, rfl⟩ rfl rfl rfl))
  simp only [go_sem, nextV, hl, if_false]

theorem next_any (l : List Int) (hl2 : l.length ≤ 9223372036854775807) (at_ n : Int) (h1 : 1 ≤ n) (h2 : n ≤ 9223372036854775807) (ha : 0 ≤ at_) (hb : at_ ≤ 1000000) :
    Does Tryd.prog 10 [.ptr 0 0, I n] [.box 25 [Ls l, I at_]] (I (nextV l at_ n)) [.box 25 [Ls l, I (at_ + 1)]] := by
  by_cases hl : l = []
  · subst hl; exact next_nil at_ n h1 h2 ha hb
  · exact next_cons l hl hl2 at_ n h1 h2 ha hb
theorem nextV_range (l : List Int) (at_ n : Int) (h1 : 1 ≤ n) : 0 ≤ nextV l at_ n ∧ nextV l at_ n < n := by
  unfold nextV
  split
  · exact ⟨Int.emod_nonneg _ (by omega), Int.emod_lt_of_pos _ (by omega)⟩
  · exact ⟨Int.emod_nonneg _ (by omega), Int.emod_lt_of_pos _ (by omega)⟩

theorem range_any (l : List Int) (hl2 : l.length ≤ 9223372036854775807) (at_ lo hi : Int) (h1 : lo ≤ hi) (h2 : -1000000000 ≤ lo) (h3 : hi ≤ 1000000000) (ha : 0 ≤ at_) (hb : at_ ≤ 1000000) :
    Does Tryd.prog 5 [.ptr 0 0, I lo, I hi] [.box 25 [Ls l, I at_]] (I (lo + nextV l at_ (hi - lo + 1))) [.box 25 [Ls l, I (at_ + 1)]] := by
  have hr := nextV_range l at_ (hi - lo + 1) (by omega)
  refine Does.of_AW (n := 19) Tryd.func5 rfl rfl rfl fun cx hcx => ?_
  refine AW.sreg rfl fun K hK => ?_; simp only [go_sem, Nat.reduceAdd, Nat.reduceMul, Int.reduceToNat, Nat.reduceLT, Nat.reduceLeDiff, Nat.le_refl, Nat.reduceEqDiff, ↓reduceIte, beq_self_eq_true, bne_self_eq_false, Int.reduceBEq, Int.reduceBNe, or_self, true_or, or_true, Option.map_some, Option.map_none]
  refine hK _ ?_; (try clear hK K)
  refine AW.seq_k fun K1 hK1 => ?_
  refine AW.sreg rfl fun K hK => ?_; simp only [go_sem, Nat.reduceAdd, Nat.reduceMul, Int.reduceToNat, Nat.reduceLT, Nat.reduceLeDiff, Nat.le_refl, Nat.reduceEqDiff, ↓reduceIte, beq_self_eq_true, bne_self_eq_false, Int.reduceBEq, Int.reduceBNe, or_self, true_or, or_true, Option.map_some, Option.map_none]
  refine hK _ ?_; (try clear hK K)
  refine AW.condF rfl (by simp; omega) (AW.skip (hK1 _ ?_))
  refine AW.sreg rfl fun K hK => ?_; simp only [go_sem, Nat.reduceAdd, Nat.reduceMul, Int.reduceToNat, Nat.reduceLT, Nat.reduceLeDiff, Nat.le_refl, Nat.reduceEqDiff, ↓reduceIte, beq_self_eq_true, bne_self_eq_false, Int.reduceBEq, Int.reduceBNe, or_self, true_or, or_true, Option.map_some, Option.map_none]
  refine ⟨by omega, by omega, ?_⟩
  refine run_call _ _ _ ((next_any l hl2 at_ (hi - lo + 1) (by omega) (by omega) ha hb).one 0 rfl rfl rfl rfl rfl rfl rfl rfl rfl rfl) rfl rfl (dstOk_of rfl) rfl rfl rfl ?_
  simp only [go_sem, Nat.reduceAdd, Nat.reduceMul, Int.reduceToNat, Nat.reduceLT, Nat.reduceLeDiff, Nat.le_refl, Nat.reduceEqDiff, ↓reduceIte, beq_self_eq_true, bne_self_eq_false, Int.reduceBEq, Int.reduceBNe, or_self, true_or, or_true, Option.map_some, Option.map_none]
  refine ⟨by omega, ?_⟩
  exact hK _ (AW.ret (Fin.one rfl rfl ⟨_, rfl, rfl⟩ rfl rfl rfl))


end Go.AX

namespace Go.AX
open Go Go.Proofs

/-- The end of a function that hands back data and leaves two objects that it was handed. -/
theorem Fin.two {P : Program} {fn : Func} {st : St} {x : V} {o q : O} {l : List V} (hl : resL P st.hv st.ev fn.results.toList = some l) (hx : frz st.hv (fun i => Nat.blt i 2) (resV l) = x.ren id) (ho : ∃ o', st.hv 0 = some o' ∧ o'.frz st.hv (fun i => Nat.blt i 2) = o.ren id) (hq : ∃ o', st.hv 1 = some o' ∧ o'.frz st.hv (fun i => Nat.blt i 2) = q.ren id)
    (hb : x.bel 2 = true) (hbo : o.bel 2 = true) (hbq : q.bel 2 = true) (hlv : o.lv = some o) (hlq : q.lv = some q) : Fin P fn 2 x [o, q] st := by
  refine ⟨id, fun i => Nat.blt i 2, l, hl, hx, ?_, .inl ?_, ?_, ?_, Nat.le_refl _, hb, by simp [hbo, hbq]⟩
  · intro i r hr
    obtain ⟨hr, _⟩ := hvL_get hr
    cases i with
    | zero => simp at hr; subst hr; exact ⟨rfl, ho⟩
    | succ i =>
      cases i with
      | zero => simp at hr; subst hr; exact ⟨rfl, hq⟩
      | succ i => simp at hr
  · intro i hi
    have : i = 0 ∨ i = 1 := by omega
    rcases this with rfl | rfl
    · exact ⟨o, hlv⟩
    · exact ⟨q, hlq⟩
  · intro i j hi hj h; simpa using h
  · intro i _; rfl

theorem flip_any (l : List Int) (hl2 : l.length ≤ 9223372036854775807) (at_ n : Int) (h1 : 1 ≤ n) (h2 : n ≤ 9223372036854775807) (ha : 0 ≤ at_) (hb : at_ ≤ 1000000) :
    Does Tryd.prog 12 [.ptr 0 0, I n] [.box 25 [Ls l, I at_]] (B (nextV l at_ n == 0)) [.box 25 [Ls l, I (at_ + 1)]] := by
  refine Does.of_AW (n := 9) Tryd.func12 rfl rfl rfl fun cx hcx => ?_
  refine AW.sreg rfl fun K hK => ?_; simp only [go_sem, Nat.reduceAdd, Nat.reduceMul, Int.reduceToNat, Nat.reduceLT, Nat.reduceLeDiff, Nat.le_refl, Nat.reduceEqDiff, ↓reduceIte, beq_self_eq_true, bne_self_eq_false, Int.reduceBEq, Int.reduceBNe, or_self, true_or, or_true, Option.map_some, Option.map_none]
  refine hK _ ?_; (try clear hK K)
  refine AW.sreg rfl fun K hK => ?_; simp only [go_sem, Nat.reduceAdd, Nat.reduceMul, Int.reduceToNat, Nat.reduceLT, Nat.reduceLeDiff, Nat.le_refl, Nat.reduceEqDiff, ↓reduceIte, beq_self_eq_true, bne_self_eq_false, Int.reduceBEq, Int.reduceBNe, or_self, true_or, or_true, Option.map_some, Option.map_none]
  refine run_call _ _ _ ((next_any l hl2 at_ n h1 h2 ha hb).one 0 rfl rfl rfl rfl rfl rfl rfl rfl rfl rfl) rfl rfl (dstOk_of rfl) rfl rfl rfl ?_
  simp only [go_sem, Nat.reduceAdd, Nat.reduceMul, Int.reduceToNat, Nat.reduceLT, Nat.reduceLeDiff, Nat.le_refl, Nat.reduceEqDiff, ↓reduceIte, beq_self_eq_true, bne_self_eq_false, Int.reduceBEq, Int.reduceBNe, or_self, true_or, or_true, Option.map_some, Option.map_none]
  exact hK _ (AW.ret (Fin.one rfl rfl ⟨_, rfl, rfl⟩ rfl rfl rfl))

abbrev SV (strs : List (List UInt8)) : O := .vec 9 1 (dv (strs.map D.str))
theorem one_any (l : List Int) (hl2 : l.length ≤ 9223372036854775807) (at_ : Int) (ha : 0 ≤ at_) (hb : at_ ≤ 1000000) (strs : List (List UInt8)) (hs : strs ≠ []) (hs2 : strs.length ≤ 1000000) :
    Does Tryd.prog 11 [.ptr 0 0, .slr 1 0 strs.length] [.box 25 [Ls l, I at_], SV strs] (S (strs.getD (nextV l at_ strs.length).toNat [])) [.box 25 [Ls l, I (at_ + 1)], SV strs] := by
  have hpos : 0 < strs.length := List.length_pos_iff.2 hs
  have hr := nextV_range l at_ strs.length (by omega)
  generalize hq : nextV l at_ strs.length = r at hr
  have hlt : r.toNat < strs.length := by omega
  have hget : (dv (strs.map D.str))[0 + r.toNat]? = some (.d (.str (strs.getD r.toNat []))) := by
    simp [dv, hlt]
  refine Does.of_AW (n := 12) Tryd.func11 rfl rfl rfl fun cx hcx => ?_
  refine AW.sreg rfl fun K hK => ?_; simp only [go_sem, Nat.reduceAdd, Nat.reduceMul, Int.reduceToNat, Nat.reduceLT, Nat.reduceLeDiff, Nat.le_refl, Nat.reduceEqDiff, ↓reduceIte, beq_self_eq_true, bne_self_eq_false, Int.reduceBEq, Int.reduceBNe, or_self, true_or, or_true, Option.map_some, Option.map_none]
  refine hK _ ?_; (try clear hK K)
  refine AW.sreg rfl fun K hK => ?_; simp only [go_sem, Nat.reduceAdd, Nat.reduceMul, Int.reduceToNat, Nat.reduceLT, Nat.reduceLeDiff, Nat.le_refl, Nat.reduceEqDiff, ↓reduceIte, beq_self_eq_true, bne_self_eq_false, Int.reduceBEq, Int.reduceBNe, or_self, true_or, or_true, Option.map_some, Option.map_none]
  have hn := next_any l hl2 at_ strs.length (by omega) (by omega) ha hb
  rw [hq] at hn
  refine run_call _ _ _ ((hn).one 0 rfl rfl rfl rfl rfl rfl rfl rfl rfl rfl) rfl rfl (dstOk_of rfl) rfl rfl rfl ?_
  simp only [go_sem, Nat.reduceAdd, Nat.reduceMul, Int.reduceToNat, Nat.reduceLT, Nat.reduceLeDiff, Nat.le_refl, Nat.reduceEqDiff, ↓reduceIte, beq_self_eq_true, bne_self_eq_false, Int.reduceBEq, Int.reduceBNe, or_self, true_or, or_true, Option.map_some, Option.map_none, hget]
  refine ⟨⟨hr.1, hr.2⟩, ?_⟩
  exact hK _ (AW.ret (Fin.two rfl rfl ⟨_, rfl, rfl⟩ ⟨_, rfl, by simp [go_sem]⟩ rfl rfl (belL_dv 2 _) rfl rfl))
end Go.AX

namespace Go.AX
open Go Go.Proofs
abbrev Str := List UInt8
theorem get_some {α : Type} {l : List α} {i : Nat} (h : i < l.length) : ∃ x, l[i]? = some x ∧ x ∈ l ∧ l.drop i = x :: l.drop (i + 1) := ⟨l[i], List.getElem?_eq_getElem h, List.getElem_mem h, List.drop_eq_getElem_cons h⟩
theorem outside_any (n lo hi : Int) : Does Tryd.prog 33 [I n, I lo, I hi] [] (B (decide (n < lo) || decide (hi < n))) [] := by
  refine Does.of_AW (n := 15) Tryd.func33 rfl rfl rfl fun cx hcx => ?_
  repeat' (first | (refine AW.sreg rfl fun K hK => ?_; simp only [go_sem, Nat.reduceAdd, Nat.reduceMul, Int.reduceToNat, Nat.reduceLT, Nat.reduceLeDiff, Nat.le_refl, Nat.reduceEqDiff, ↓reduceIte, beq_self_eq_true, bne_self_eq_false, Int.reduceBEq, Int.reduceBNe, or_self, true_or, or_true, Option.map_some, Option.map_none]) | (refine hK _ ?_; clear hK K) | (refine stepB_split (fun h => ?_) (fun h => ?_) <;> (have hb0 := h) <;> (try simp only [Bool.not_eq_true', Bool.not_eq_false'] at hb0) <;> (try simp only [decide_eq_true_eq, decide_eq_false_iff_not, Bool.not_eq_true', Bool.not_eq_false', Bool.not_eq_eq_eq_not, Bool.not_true, Bool.not_false, beq_iff_eq, bne_iff_ne, beq_eq_false_iff_ne, ne_eq, Bool.and_eq_true, Bool.or_eq_true, Bool.or_eq_false_iff] at h) <;> simp only [go_sem, Nat.reduceAdd, Nat.reduceMul, Int.reduceToNat, Nat.reduceLT, Nat.reduceLeDiff, Nat.le_refl, Nat.reduceEqDiff, ↓reduceIte, beq_self_eq_true, bne_self_eq_false, Int.reduceBEq, Int.reduceBNe, or_self, true_or, or_true, Option.map_some, Option.map_none, hb0, h, decide_true, decide_false] <;> (try clear hb0)) | (refine AW.ret (Fin.data rfl (by first | (simp only [go_sem]; done) | (simp [go_sem, *]; done) | (simp [go_sem]; omega) | rfl) rfl)))
theorem getD_mem {α : Type} (l : List α) (i : Nat) (d : α) (h : i < l.length) : l.getD i d ∈ l := by
  simp [h]
theorem one_mem (l : List Int) (a : Int) (ns : List Str) (h : ns ≠ []) : ns.getD (nextV l a ns.length).toNat [] ∈ ns := by
  have hpos : 0 < ns.length := List.length_pos_iff.2 h
  have hr := nextV_range l a ns.length (by omega)
  exact getD_mem _ _ _ (by omega)
/-! the same, of which only the range is known -/
abbrev Stm (l : List Int) (a : Int) : O := .box 25 [Ls l, I a]
theorem nextI (l : List Int) (hl2 : l.length ≤ 9223372036854775807) (at_ n : Int) (h1 : 1 ≤ n) (h2 : n ≤ 9223372036854775807) (ha : 0 ≤ at_) (hb : at_ ≤ 1000000) :
    DoesI Tryd.prog 10 [.ptr 0 0, I n] [Stm l at_] (fun r : Int => 0 ≤ r ∧ r < n) (fun r => I r) (fun _ => [Stm l (at_ + 1)]) :=
  (next_any l hl2 at_ n h1 h2 ha hb).rel (x := fun r => I r) (os' := fun _ => [Stm l (at_ + 1)]) (nextV l at_ n) (nextV_range l at_ n h1)
theorem flipI (l : List Int) (hl2 : l.length ≤ 9223372036854775807) (at_ n : Int) (h1 : 1 ≤ n) (h2 : n ≤ 9223372036854775807) (ha : 0 ≤ at_) (hb : at_ ≤ 1000000) :
    DoesI Tryd.prog 12 [.ptr 0 0, I n] [Stm l at_] (fun _ : Bool => True) (fun r => B r) (fun _ => [Stm l (at_ + 1)]) :=
  (flip_any l hl2 at_ n h1 h2 ha hb).rel (x := fun r => B r) (os' := fun _ => [Stm l (at_ + 1)]) (nextV l at_ n == 0) trivial
theorem rangeI (l : List Int) (hl2 : l.length ≤ 9223372036854775807) (at_ lo hi : Int) (h1 : lo ≤ hi) (h2 : -1000000000 ≤ lo) (h3 : hi ≤ 1000000000) (ha : 0 ≤ at_) (hb : at_ ≤ 1000000) :
    DoesI Tryd.prog 5 [.ptr 0 0, I lo, I hi] [Stm l at_] (fun r : Int => lo ≤ r ∧ r ≤ hi) (fun r => I r) (fun _ => [Stm l (at_ + 1)]) :=
  (range_any l hl2 at_ lo hi h1 h2 h3 ha hb).rel (x := fun r => I r) (os' := fun _ => [Stm l (at_ + 1)]) (lo + nextV l at_ (hi - lo + 1)) (by have := nextV_range l at_ (hi - lo + 1) (by omega); omega)
end Go.AX

namespace Go.AX
open Go Go.Proofs Go.RowKit
theorem index_does (a b : List UInt8) (x : D) (h : idxF a b = some x) : Does Tryd.prog 78 [.d (.str a), .d (.str b)] [] (.d x) [] := by
  unfold idxF at h
  split at h
  · rename_i hl
    cases h
    have hl : a.length < 4294967281 := by simpa using hl
    refine Does.of_str2 (y := .int .i64 (Lib.index a b)) ⟨Tryd.f78, Tryd.func78, rfl, by kernel_rfl⟩ (fun w ok => by simp only [RV, RD]) fun w hg => ?_
    obtain ⟨m, hm⟩ := hg.max (g := 0) (by kernel_rfl)
    exact (Any.stringslite_Index Tryd.l219 ⟨a.toArray⟩ ⟨b.toArray⟩ m w (by simpa [ByteArray.size] using hl) hm).mono fun e w' ⟨h1, h2⟩ => ⟨by simpa using h1, h2 ▸ Below.refl _ _⟩
  · cases h
def SO (P : Program) : Orc := orc2 (orcS2 78 idxF) (extT P)
theorem SO_ok : OrcOk Tryd.prog (SO Tryd.prog) := orc2_ok (orcS2_ok index_does) extT_ok
def CS (P : Program) : Orc := evF P (SO P) (fun _ => false) 10000 30
theorem CS_ok : OrcOk Tryd.prog (CS Tryd.prog) := evF_ok SO_ok hmix 30
end Go.AX

namespace Go.AX
open Go Go.Proofs
end Go.AX

namespace Go.AX
open Go Go.Proofs
abbrev Fr (a b : Int) : D := .agg [.int .i64 a, .int .i64 b]
theorem gcd_pos (a b : Int) (hb : 1 ≤ b) : 1 ≤ (Int.gcd a b : Int) := by
  have : 0 < Int.gcd a b := Int.gcd_pos_of_ne_zero_right a (by omega)
  omega
theorem tdiv_fits (a g : Int) (M : Int) (hg : 1 ≤ g) (h : -M ≤ a ∧ a ≤ M) : -M ≤ a.tdiv g ∧ a.tdiv g ≤ M := by
  have h1 := Int.natAbs_tdiv_le_natAbs a g
  omega
/-- A fraction in lowest terms. -/
def low (a b : Int) : Int × Int := (a.tdiv (Int.gcd a b), b.tdiv (Int.gcd a b))
theorem fr_size (h : 32 < Tryd.prog.types.size) : (Tryd.prog.types[32]'h).size = 2 := by kernel_rfl
theorem lowest_any (a b : Int) (ha : -1000000000000000000 ≤ a ∧ a ≤ 1000000000000000000) (hb : 1 ≤ b ∧ b ≤ 1000000000000000000) : Does Tryd.prog 52 [I a, I b] [] (.d (Fr (low a b).1 (low a b).2)) [] := by
  have hg := gcd_pos a b hb.1
  have q1 := tdiv_fits a (Int.gcd a b) _ hg ha
  have q2 := tdiv_fits b (Int.gcd a b) _ hg ⟨by omega, hb.2⟩
  have hd : ¬ b < 0 := by omega
  have hgz : ((Int.gcd a b : Int) == 0) = false := by simp; omega
  refine Does.of_AW (n := 22) Tryd.func52 rfl rfl rfl fun cx hcx => ?_
  repeat' (first | ((first | refine AW.sreg rfl fun K hK => ?_ | refine AW.sregD hmix rfl fun K hK => ?_ | refine run_call _ _ _ ((gcd_go a b (by omega) (by omega)).pure rfl rfl _ _) rfl rfl (dstOk_of rfl) rfl rfl rfl ?_); simp only [go_sem, Nat.reduceAdd, Nat.reduceMul, Int.reduceToNat, Nat.reduceLT, Nat.reduceLeDiff, Nat.le_refl, Nat.reduceEqDiff, ↓reduceIte, beq_self_eq_true, bne_self_eq_false, Int.reduceBEq, Int.reduceBNe, or_self, true_or, or_true, Option.map_some, Option.map_none, hd, hgz]) | (refine AW.seq_k fun K hK => ?_) | (refine AW.skip ?_; simp only [Then, InBlock]) | (refine AW.condF rfl (by first | rfl | (simp; omega) | (simp [*]; done) | fail) ?_) | (refine hK _ ?_; clear hK K) | (with_reducible refine And.intro (?_ : regOk _ _ = true) ?_; kernel_rfl) | (with_reducible refine And.intro ?_ ?_; first | omega | assumption | (focus (decide)) | (focus (simp; done)) | (focus (simp; omega)) | (focus (constructor <;> omega)) | fail))
  exact AW.ret (Fin.data rfl (by simp [go_sem, fr_size, low]) rfl)
end Go.AX

namespace Go.AX
def sm : List Int → Int
  | [] => 0
  | x :: r => x + sm r
def sq : List Int → Int
  | [] => 0
  | x :: r => x * x + sq r
/-- How far numbers are apart: n times the sum of the squares, less the square of the sum. -/
def apA (xs : List Int) : Int := (xs.length : Int) * sq xs - sm xs * sm xs
def dq (y : Int) : List Int → Int
  | [] => 0
  | x :: r => (x - y) * (x - y) + dq y r
theorem dq_eq (y : Int) : ∀ xs : List Int, dq y xs = sq xs - 2 * y * sm xs + (xs.length : Int) * (y * y)
  | [] => by simp [dq, sq, sm]
  | x :: r => by
    have := dq_eq y r
    simp only [dq, sq, sm, List.length_cons, Int.natCast_add, Int.cast_ofNat_Int, this]
    grind
theorem apA_cons (y : Int) (xs : List Int) : apA (y :: xs) = apA xs + dq y xs := by
  have := dq_eq y xs
  simp only [apA, sq, sm, List.length_cons, Int.natCast_add, Int.cast_ofNat_Int, this]
  grind
theorem sq_pos (a : Int) : 0 ≤ a * a := by
  rcases Int.le_total 0 a with h | h
  · exact Int.mul_nonneg h h
  · exact Int.mul_nonneg_of_nonpos_of_nonpos h h
theorem dq_pos (y : Int) : ∀ xs : List Int, 0 ≤ dq y xs
  | [] => Int.le_refl _
  | x :: r => by
    have h1 := dq_pos y r
    have h2 := sq_pos (x - y)
    simp only [dq]
    omega
theorem apA_pos : ∀ xs : List Int, 0 ≤ apA xs
  | [] => by simp [apA, sq, sm]
  | y :: r => by
    have h1 := apA_pos r
    have h2 := dq_pos y r
    rw [apA_cons]
    omega
def In10 (xs : List Int) : Prop := ∀ x ∈ xs, 0 ≤ x ∧ x ≤ 10
theorem dq_le {y : Int} (hy : 0 ≤ y ∧ y ≤ 10) : ∀ {xs : List Int}, In10 xs → dq y xs ≤ 100 * xs.length
  | [], _ => by simp [dq]
  | x :: r, h => by
    have ih := dq_le hy (xs := r) fun a ha => h a (List.mem_cons_of_mem _ ha)
    have hx := h x (by simp)
    have h2 : (x - y) * (x - y) ≤ 10 * 10 := by
      rcases Int.le_total 0 (x - y) with h' | h'
      · exact Int.mul_le_mul (by omega) (by omega) h' (by omega)
      · have e : (x - y) * (x - y) = (y - x) * (y - x) := by grind
        rw [e]
        exact Int.mul_le_mul (by omega) (by omega) (by omega) (by omega)
    simp only [dq, List.length_cons, Int.natCast_add, Int.cast_ofNat_Int]
    omega
theorem apA_le : ∀ {xs : List Int}, In10 xs → apA xs ≤ 50 * ((xs.length : Int) * xs.length)
  | [], _ => by simp [apA, sq, sm]
  | y :: r, h => by
    have ih := apA_le (xs := r) fun a ha => h a (List.mem_cons_of_mem _ ha)
    have h2 := dq_le (h y (by simp)) (xs := r) fun a ha => h a (List.mem_cons_of_mem _ ha)
    rw [apA_cons]
    simp only [List.length_cons, Int.natCast_add, Int.cast_ofNat_Int]
    have e : ((r.length : Int) + 1) * ((r.length : Int) + 1) = (r.length : Int) * r.length + 2 * r.length + 1 := by grind
    rw [e]
    omega
theorem low_spec (a b : Int) (hb : 1 ≤ b) : ∃ g : Int, 1 ≤ g ∧ a = (low a b).1 * g ∧ b = (low a b).2 * g :=
  ⟨(Int.gcd a b : Int), gcd_pos a b hb, (Int.tdiv_mul_cancel (Int.gcd_dvd_left a b)).symm, (Int.tdiv_mul_cancel (Int.gcd_dvd_right a b)).symm⟩
theorem low_self (b : Int) (hb : 1 ≤ b) : low b b = (1, 1) := by
  have e : (Int.gcd b b : Int) = b := by rw [Int.gcd_self]; omega
  unfold low
  rw [e, Int.tdiv_self (by omega)]
theorem low_den {a b : Int} (hb : 1 ≤ b) : 1 ≤ (low a b).2 ∧ (low a b).2 ≤ b := by
  obtain ⟨g, h1, h2, h3⟩ := low_spec a b hb
  generalize (low a b).2 = d at *
  have h4 : 1 ≤ d := by
    rcases Int.lt_or_le 0 d with h | h
    · omega
    · have := Int.mul_nonneg (a := -d) (b := g) (by omega) (by omega)
      have e : -d * g = -(d * g) := Int.neg_mul d g
      omega
  have h5 : d * 1 ≤ d * g := Int.mul_le_mul_of_nonneg_left h1 (by omega)
  omega
theorem low_le {a b c : Int} (hb : 1 ≤ b) (h : a ≤ c * b) : (low a b).1 ≤ c * (low a b).2 := by
  obtain ⟨g, h1, h2, h3⟩ := low_spec a b hb
  generalize (low a b).1 = u at *
  generalize (low a b).2 = d at *
  have e : c * b = (c * d) * g := by rw [h3]; grind
  rw [h2, e] at h
  exact Int.le_of_mul_le_mul_right h (by omega)
theorem low_nonneg {a b : Int} (hb : 1 ≤ b) (h : 0 ≤ a) : 0 ≤ (low a b).1 := by
  obtain ⟨g, h1, h2, h3⟩ := low_spec a b hb
  generalize (low a b).1 = u at *
  rcases Int.lt_or_le u 0 with hu | hu
  · have := Int.mul_pos (a := -u) (b := g) (by omega) (by omega)
    have e : -u * g = -(u * g) := Int.neg_mul u g
    omega
  · exact hu
theorem low_num0 {a b : Int} (hb : 1 ≤ b) : (low a b).1 = 0 ↔ a = 0 := by
  obtain ⟨g, h1, h2, h3⟩ := low_spec a b hb
  constructor
  · intro h
    rw [h] at h2
    simpa using h2
  · intro h
    rw [h] at h2
    rw [h]
    rcases Int.mul_eq_zero.1 h2.symm with h4 | h4
    · exact h4
    · omega
/-- Within papers: a paper more. -/
def wStep (w : Int × Int) (s : List Int) : Int × Int :=
  low (w.1 * (low (2 * apA s) ((s.length : Int) - 1)).2 + (low (2 * apA s) ((s.length : Int) - 1)).1 * w.2) (w.2 * (low (2 * apA s) ((s.length : Int) - 1)).2)
structure WOk (w : Int × Int) (t : Nat) : Prop where
  d1 : 1 ≤ w.2
  d2 : w.2 ≤ (2 : Int) ^ t
  n1 : 0 ≤ w.1
  n2 : w.1 ≤ 100 * ((t : Int) * t) * w.2
theorem one_pow2 (n : Nat) : (1 : Int) ≤ (2 : Int) ^ n := by
  induction n with
  | zero => decide
  | succ n ih => rw [Int.pow_succ]; omega
theorem two_pow (n : Nat) : (n : Int) ≤ (2 : Int) ^ n := by
  induction n with
  | zero => decide
  | succ n ih =>
    have := one_pow2 n
    rw [Int.pow_succ, Int.natCast_add]
    simp only [Int.cast_ofNat_Int]
    omega
theorem WOk.zero : WOk (0, 1) 0 := ⟨by simp, by simp, by simp, by simp⟩
theorem WOk.step {w : Int × Int} {t : Nat} (h : WOk w t) {s : List Int} (hl : 2 ≤ s.length) (hs : In10 s) : WOk (wStep w s) (t + s.length) ∧ ((wStep w s).1 = 0 ↔ w.1 = 0 ∧ apA s = 0) := by
  have hA0 := apA_pos s
  have hA1 := apA_le hs
  have hn1 : (1 : Int) ≤ (s.length : Int) - 1 := by omega
  have hq := low_den (a := 2 * apA s) hn1
  have hq2 := low_nonneg hn1 (show 0 ≤ 2 * apA s by omega)
  have hqc : 2 * apA s ≤ (2 * apA s) * ((s.length : Int) - 1) := by
    have := Int.mul_le_mul_of_nonneg_left hn1 (show 0 ≤ 2 * apA s by omega)
    omega
  have hq3 := low_le (c := 2 * apA s) hn1 hqc
  have hq0 := low_num0 (a := 2 * apA s) hn1
  unfold wStep
  generalize low (2 * apA s) ((s.length : Int) - 1) = q at *
  obtain ⟨q1, q2⟩ := q
  obtain ⟨w1, w2⟩ := w
  obtain ⟨d1, d2, n1, n2⟩ := h
  simp only at hq hq2 hq3 hq0 d1 d2 n1 n2 ⊢
  have hr2 : 1 ≤ w2 * q2 := by
    have := Int.mul_le_mul d1 hq.1 (by omega) (by omega)
    omega
  have a1 : 0 ≤ w1 * q2 := Int.mul_nonneg n1 (by omega)
  have a2 : 0 ≤ q1 * w2 := Int.mul_nonneg hq2 (by omega)
  have hld := low_den (a := w1 * q2 + q1 * w2) hr2
  have hln := low_nonneg hr2 (show 0 ≤ w1 * q2 + q1 * w2 by omega)
  have hl0 := low_num0 (a := w1 * q2 + q1 * w2) hr2
  have hp : w1 * q2 + q1 * w2 ≤ (100 * ((t + s.length : Nat) * (t + s.length : Nat) : Int)) * (w2 * q2) := by
    have b1 : w1 * q2 ≤ (100 * ((t : Int) * t) * w2) * q2 := Int.mul_le_mul_of_nonneg_right n2 (by omega)
    have b2 : q1 * w2 ≤ (2 * apA s * q2) * w2 := Int.mul_le_mul_of_nonneg_right hq3 (by omega)
    have b3 : (2 * apA s * q2) * w2 ≤ (100 * ((s.length : Int) * s.length)) * (w2 * q2) := by
      have : (2 * apA s) * (w2 * q2) ≤ (100 * ((s.length : Int) * s.length)) * (w2 * q2) := Int.mul_le_mul_of_nonneg_right (by omega) (by omega)
      have e : (2 * apA s * q2) * w2 = (2 * apA s) * (w2 * q2) := by grind
      omega
    have b4 : (100 * ((t : Int) * t) * w2) * q2 = (100 * ((t : Int) * t)) * (w2 * q2) := by grind
    have b5 : (100 * ((t : Int) * t)) * (w2 * q2) + (100 * ((s.length : Int) * s.length)) * (w2 * q2) ≤ (100 * ((t + s.length : Nat) * (t + s.length : Nat) : Int)) * (w2 * q2) := by
      rw [← Int.add_mul]
      refine Int.mul_le_mul_of_nonneg_right ?_ (by omega)
      rw [Int.natCast_add]
      have e : ((t : Int) + s.length) * ((t : Int) + s.length) = (t : Int) * t + 2 * ((t : Int) * s.length) + (s.length : Int) * s.length := by grind
      have : 0 ≤ (t : Int) * s.length := Int.mul_nonneg (by omega) (by omega)
      rw [e]
      omega
    omega
  have hll := low_le hr2 hp
  refine ⟨⟨hld.1, ?_, hln, hll⟩, ?_⟩
  · have c1 : q2 ≤ (2 : Int) ^ s.length := by have := two_pow s.length; omega
    have c2 : w2 * q2 ≤ (2 : Int) ^ t * 2 ^ s.length := Int.mul_le_mul d2 c1 (by omega) (by omega)
    rw [Int.pow_add]
    exact Int.le_trans hld.2 c2
  · rw [hl0]
    constructor
    · intro h
      have e1 : w1 * q2 = 0 := by omega
      have e2 : q1 * w2 = 0 := by omega
      refine ⟨?_, ?_⟩
      · rcases Int.mul_eq_zero.1 e1 with h | h
        · exact h
        · omega
      · have : q1 = 0 := by
          rcases Int.mul_eq_zero.1 e2 with h | h
          · exact h
          · omega
        have := hq0.1 this
        omega
    · rintro ⟨h1, h2⟩
      have : q1 = 0 := hq0.2 (by omega)
      rw [h1, this]
      simp
end Go.AX
