import Derived.Test.YtafkgameionciaaAx17
import Derived.Test.YtafkgameionciaaChecked
import Derived.KernelRfl
set_option linter.unusedSimpArgs false
set_option linter.unusedVariables false
namespace Go.AX
open Go Go.Proofs
@[go_sem] theorem ti3 : tiOf Try.prog 3 = some ⟨.int .i64, 1, 8, .d (.int .i64 0)⟩ := by kernel_rfl
@[go_sem] theorem ti22 : tiOf Try.prog 22 = some ⟨.slice 3, 1, 24, .nils⟩ := by kernel_rfl
@[go_sem] theorem ti25 : tiOf Try.prog 25 = some ⟨.struct [(0, 22), (1, 3)], 2, 32, .d (.agg [.sl [], .int .i64 0])⟩ := by kernel_rfl
@[go_sem] theorem ti28 : tiOf Try.prog 28 = some ⟨.struct [(0, 3), (1, 3)], 2, 16, .d (.agg [.int .i64 0, .int .i64 0])⟩ := by kernel_rfl
@[go_sem] theorem ti42 : tiOf Try.prog 42 = some ⟨.arr 5 3, 5, 40, .d (.agg [.int .i64 0, .int .i64 0, .int .i64 0, .int .i64 0, .int .i64 0])⟩ := by kernel_rfl
@[go_sem] theorem ti43 : tiOf Try.prog 43 = some ⟨.slice 28, 1, 24, .nils⟩ := by kernel_rfl
@[go_sem] theorem ti30 : tiOf Try.prog 30 = some ⟨.int .i64, 1, 8, .d (.int .i64 0)⟩ := by kernel_rfl
@[go_sem] theorem eq28 : eqOk Try.prog 28 = true := by kernel_rfl
theorem hmix : Try.prog.follows .mixedOrders = true := by kernel_rfl
abbrev I (n : Int) : V := .d (.int .i64 n)
abbrev B (b : Bool) : V := .d (.bool b)

theorem outside (n lo hi : Int) : Does Try.prog 10 [I n, I lo, I hi] [] (B (decide (n < lo) || decide (hi < n))) [] := by
  refine Does.of_AW (n := 15) Try.func10 rfl rfl rfl fun cx hcx => ?_
  refine AW.sreg rfl fun K hK => ?_; simp only [go_sem, Nat.reduceAdd, Nat.reduceMul, Int.reduceToNat, Nat.reduceLT, Nat.reduceLeDiff, Nat.le_refl, Nat.reduceEqDiff, ↓reduceIte, beq_self_eq_true, bne_self_eq_false, Int.reduceBEq, Int.reduceBNe]
  refine hK _ ?_; (try clear hK K)
  by_cases h : n < lo
  · refine AW.sreg rfl fun K hK => ?_; simp only [go_sem, Nat.reduceAdd, Nat.reduceMul, Int.reduceToNat, Nat.reduceLT, Nat.reduceLeDiff, Nat.le_refl, Nat.reduceEqDiff, ↓reduceIte, beq_self_eq_true, bne_self_eq_false, Int.reduceBEq, Int.reduceBNe, h]
    exact hK _ (AW.ret (Fin.data rfl (by simp [go_sem, h]) rfl))
  · refine AW.sreg rfl fun K hK => ?_; simp only [go_sem, Nat.reduceAdd, Nat.reduceMul, Int.reduceToNat, Nat.reduceLT, Nat.reduceLeDiff, Nat.le_refl, Nat.reduceEqDiff, ↓reduceIte, beq_self_eq_true, bne_self_eq_false, Int.reduceBEq, Int.reduceBNe, h, decide_false]
    exact hK _ (AW.ret (Fin.data rfl (by simp [go_sem, h]) rfl))

theorem tmod_neg (x n : Int) (hn : 0 < n) (h : x.tmod n < 0) : x.tmod n + n = x % n ∧ -n < x.tmod n := by
  have h2 := Int.emod_nonneg x (show n ≠ 0 by omega)
  have h3 := Int.emod_lt_of_pos x hn
  have hs : (n.natAbs : Int) = n := by omega
  rw [Int.tmod_eq_emod, hs] at *
  by_cases hc : 0 ≤ x ∨ n ∣ x
  · rw [if_pos hc] at h; omega
  · rw [if_neg hc] at *; omega
theorem tmod_pos (x n : Int) (hn : 0 < n) (h : ¬ x.tmod n < 0) : x.tmod n = x % n := by
  have h2 := Int.emod_nonneg x (show n ≠ 0 by omega)
  have h3 := Int.emod_lt_of_pos x hn
  have hs : (n.natAbs : Int) = n := by omega
  rw [Int.tmod_eq_emod, hs] at *
  by_cases hc : 0 ≤ x ∨ n ∣ x
  · rw [if_pos hc]; omega
  · rw [if_neg hc] at *; omega

theorem below (x n : Int) (h1 : 1 ≤ n) (h2 : n ≤ 9223372036854775807) : Does Try.prog 8 [I x, I n] [] (I (x % n)) [] := by
  refine Does.of_AW (n := 16) Try.func8 rfl rfl rfl fun cx hcx => ?_
  have a1 : ¬ n < 1 := by omega
  have a2 : n ≠ 0 := by omega
  refine AW.sreg rfl fun K hK => ?_; simp only [go_sem, Nat.reduceAdd, Nat.reduceMul, Int.reduceToNat, Nat.reduceLT, Nat.reduceLeDiff, Nat.le_refl, Nat.reduceEqDiff, ↓reduceIte, beq_self_eq_true, bne_self_eq_false, Int.reduceBEq, Int.reduceBNe]
  refine hK _ ?_; (try clear hK K)
  refine AW.seq_k fun K1 hK1 => ?_
  refine AW.sreg rfl fun K hK => ?_; simp only [go_sem, Nat.reduceAdd, Nat.reduceMul, Int.reduceToNat, Nat.reduceLT, Nat.reduceLeDiff, Nat.le_refl, Nat.reduceEqDiff, ↓reduceIte, beq_self_eq_true, bne_self_eq_false, Int.reduceBEq, Int.reduceBNe]
  refine hK _ ?_; (try clear hK K)
  refine AW.condF rfl (decide_eq_false a1) (AW.skip (hK1 _ ?_))
  refine AW.sreg rfl fun K hK => ?_; simp only [go_sem, Nat.reduceAdd, Nat.reduceMul, Int.reduceToNat, Nat.reduceLT, Nat.reduceLeDiff, Nat.le_refl, Nat.reduceEqDiff, ↓reduceIte, beq_self_eq_true, bne_self_eq_false, Int.reduceBEq, Int.reduceBNe]
  refine ⟨a2, ?_⟩
  refine hK _ ?_; (try clear hK K)
  refine AW.seq_k fun K1 hK1 => ?_
  refine AW.sreg rfl fun K hK => ?_; simp only [go_sem, Nat.reduceAdd, Nat.reduceMul, Int.reduceToNat, Nat.reduceLT, Nat.reduceLeDiff, Nat.le_refl, Nat.reduceEqDiff, ↓reduceIte, beq_self_eq_true, bne_self_eq_false, Int.reduceBEq, Int.reduceBNe]
  refine hK _ ?_; (try clear hK K)
  refine AW.cond rfl (fun h => ?_) (fun h => ?_)
  · have h := of_decide_eq_true h
    obtain ⟨e1, e2⟩ := tmod_neg x n (by omega) h
    refine AW.reg rfl ?_
    simp only [go_sem, Nat.reduceAdd, Nat.reduceMul, Int.reduceToNat, Nat.reduceLT, Nat.reduceLeDiff, Nat.le_refl, Nat.reduceEqDiff, ↓reduceIte, beq_self_eq_true, bne_self_eq_false, Int.reduceBEq, Int.reduceBNe]
    refine ⟨by omega, hK1 _ ?_⟩
    refine AW.sreg rfl fun K hK => ?_; simp only [go_sem, Nat.reduceAdd, Nat.reduceMul, Int.reduceToNat, Nat.reduceLT, Nat.reduceLeDiff, Nat.le_refl, Nat.reduceEqDiff, ↓reduceIte, beq_self_eq_true, bne_self_eq_false, Int.reduceBEq, Int.reduceBNe]
    exact hK _ (AW.ret (Fin.data rfl (by simp [go_sem, e1]) rfl))
  · have h := of_decide_eq_false h
    have e1 := tmod_pos x n (by omega) h
    refine AW.skip (hK1 _ ?_)
    refine AW.sreg rfl fun K hK => ?_; simp only [go_sem, Nat.reduceAdd, Nat.reduceMul, Int.reduceToNat, Nat.reduceLT, Nat.reduceLeDiff, Nat.le_refl, Nat.reduceEqDiff, ↓reduceIte, beq_self_eq_true, bne_self_eq_false, Int.reduceBEq, Int.reduceBNe]
    exact hK _ (AW.ret (Fin.data rfl (by simp [go_sem, e1]) rfl))

theorem gcd_step (a b : Int) (h : b ≠ 0) : Int.gcd b (a.tmod b) = Int.gcd a b := by
  rw [Int.gcd_comm a b]
  have : a.tmod b = a - b * (a.tdiv b) := by have := Int.tmod_add_mul_tdiv a b; omega
  rw [this]
  have e : a - b * (a.tdiv b) = a + b * (-(a.tdiv b)) := by rw [Int.mul_neg]; omega
  rw [e, Int.gcd_add_mul_left_right]

theorem tmod_abs (a b : Int) (h : b ≠ 0) : (a.tmod b).natAbs < b.natAbs := by
  have h1 := Int.tmod_lt_of_pos
  rw [Int.natAbs_tmod]
  exact Nat.mod_lt _ (by omega)
theorem tmod_bd (a b M : Int) (h : b ≠ 0) (hb : -M ≤ b ∧ b ≤ M) : -M ≤ a.tmod b ∧ a.tmod b ≤ M := by
  have := tmod_abs a b h
  omega
theorem gcd_go (a0 b0 : Int) (h1 : -4611686018427387904 ≤ a0 ∧ a0 ≤ 4611686018427387904) (h2 : -4611686018427387904 ≤ b0 ∧ b0 ≤ 4611686018427387904) : Does Try.prog 13 [I a0, I b0] [] (I (Int.gcd a0 b0)) [] := by
  refine Does.of_AW (n := 15) Try.func13 rfl rfl rfl fun cx hcx => ?_
  refine AW.sreg rfl fun K hK => ?_; simp only [go_sem, Nat.reduceAdd, Nat.reduceMul, Int.reduceToNat, Nat.reduceLT, Nat.reduceLeDiff, Nat.le_refl, Nat.reduceEqDiff, ↓reduceIte, beq_self_eq_true, bne_self_eq_false, Int.reduceBEq, Int.reduceBNe]
  refine hK _ ?_; (try clear hK K)
  refine AW.seq_k fun K hK => AW.block ?_
  refine AW.loopS (ι := Int × Int) (fun p => ⟨15, [(0, I p.1), (1, I p.2)], [], 0⟩)
    (fun p => Int.gcd p.1 p.2 = Int.gcd a0 b0 ∧ (-4611686018427387904 ≤ p.1 ∧ p.1 ≤ 4611686018427387904) ∧ (-4611686018427387904 ≤ p.2 ∧ p.2 ≤ 4611686018427387904)) (fun p => p.2.natAbs) (a0, b0) ⟨rfl, h1, h2⟩ (Weak.data hcx rfl rfl (by simp [go_sem])) ?_
  rintro ⟨a, b⟩ ⟨hg, ha, hb⟩
  simp only at hg ha hb ⊢
  refine AW.seq_k fun K1 hK1 => AW.sreg rfl fun K2 hK2 => ?_
  simp only [go_sem, Nat.reduceAdd, Nat.reduceMul, Int.reduceToNat, Nat.reduceLT, Nat.reduceLeDiff, Nat.le_refl, Nat.reduceEqDiff, ↓reduceIte, beq_self_eq_true, bne_self_eq_false, Int.reduceBEq, Int.reduceBNe]
  refine hK2 _ ?_
  refine AW.cond rfl (fun h => ?_) (fun h => ?_)
  · have h : b ≠ 0 := by simpa using h
    refine AW.skip (hK1 _ (AW.block ?_))
    refine AW.regD hmix rfl ?_; simp only [go_sem, Nat.reduceAdd, Nat.reduceMul, Int.reduceToNat, Nat.reduceLT, Nat.reduceLeDiff, Nat.le_refl, Nat.reduceEqDiff, ↓reduceIte, beq_self_eq_true, bne_self_eq_false, Int.reduceBEq, Int.reduceBNe]
    refine ⟨h, by kernel_rfl, (b, a.tmod b), ⟨?_, ?_, ?_⟩, ?_, ?_⟩
    · exact (gcd_step a b h).trans hg
    · exact hb
    · exact tmod_bd a b _ h hb
    · exact tmod_abs a b h
    · exact Weak.data hcx rfl rfl (by simp [go_sem])
  · have h : b = 0 := by simpa using h
    refine AW.exit ?_
    simp only [go_sem, ↓reduceIte]
    refine hK _ ?_
    refine AW.sreg rfl fun K hK => ?_; simp only [go_sem, Nat.reduceAdd, Nat.reduceMul, Int.reduceToNat, Nat.reduceLT, Nat.reduceLeDiff, Nat.le_refl, Nat.reduceEqDiff, ↓reduceIte, beq_self_eq_true, bne_self_eq_false, Int.reduceBEq, Int.reduceBNe]
    subst h
    refine ⟨by omega, ?_⟩
    exact hK _ (AW.ret (Fin.data rfl (by rw [← hg]; simp [go_sem]; split <;> omega) rfl))

/-! ### the stream -/
def nextV (l : List Int) (at_ n : Int) : Int :=
  if l = [] then (at_ + 1) * 7919 % n else
    let i := at_ % (l.length : Int)
    ((l.getD i.toNat 0) % 1073741824 + at_ / (l.length : Int) * (7919 + i)) % n
abbrev Ls (l : List Int) : V := .d (.sl (l.map (D.int .i64)))


theorem next_nil (at_ n : Int) (h1 : 1 ≤ n) (h2 : n ≤ 9223372036854775807) (ha : 0 ≤ at_) (hb : at_ ≤ 1000000) :
    Does Try.prog 4 [.ptr 0 0, I n] [.box [Ls [], I at_]] (I (nextV [] at_ n)) [.box [Ls [], I (at_ + 1)]] := by
  refine Does.of_AW (n := 64) Try.func4 rfl rfl rfl fun cx hcx => ?_
  refine AW.sreg rfl fun K hK => ?_; simp only [go_sem, Nat.reduceAdd, Nat.reduceMul, Int.reduceToNat, Nat.reduceLT, Nat.reduceLeDiff, Nat.le_refl, Nat.reduceEqDiff, ↓reduceIte, beq_self_eq_true, bne_self_eq_false, Int.reduceBEq, Int.reduceBNe]
  refine hK _ ?_; (try clear hK K)
  refine AW.sreg rfl fun K hK => ?_; simp only [go_sem, Nat.reduceAdd, Nat.reduceMul, Int.reduceToNat, Nat.reduceLT, Nat.reduceLeDiff, Nat.le_refl, Nat.reduceEqDiff, ↓reduceIte, beq_self_eq_true, bne_self_eq_false, Int.reduceBEq, Int.reduceBNe]
  refine ⟨by omega, ?_⟩
  refine hK _ ?_; (try clear hK K)
  refine AW.seq_k fun K1 hK1 => ?_
  refine AW.sreg rfl fun K hK => ?_; simp only [go_sem, Nat.reduceAdd, Nat.reduceMul, Int.reduceToNat, Nat.reduceLT, Nat.reduceLeDiff, Nat.le_refl, Nat.reduceEqDiff, ↓reduceIte, beq_self_eq_true, bne_self_eq_false, Int.reduceBEq, Int.reduceBNe]
  refine hK _ ?_; (try clear hK K)
  refine AW.condT rfl (by rfl) ?_
  refine AW.sreg rfl fun K hK => ?_; simp only [go_sem, Nat.reduceAdd, Nat.reduceMul, Int.reduceToNat, Nat.reduceLT, Nat.reduceLeDiff, Nat.le_refl, Nat.reduceEqDiff, ↓reduceIte, beq_self_eq_true, bne_self_eq_false, Int.reduceBEq, Int.reduceBNe]
  refine ⟨by omega, ?_⟩
  refine run_call _ _ _ ((below ((at_ + 1) * 7919) n h1 h2).pure rfl rfl _ _) rfl rfl (dstOk_of rfl) rfl rfl rfl ?_
  simp only [go_sem, Nat.reduceAdd, Nat.reduceMul, Int.reduceToNat, Nat.reduceLT, Nat.reduceLeDiff, Nat.le_refl, Nat.reduceEqDiff, ↓reduceIte, beq_self_eq_true, bne_self_eq_false, Int.reduceBEq, Int.reduceBNe]
  refine hK _ (AW.ret (Fin.one rfl rfl ⟨_, rfl, rfl⟩ rfl rfl))

theorem next_cons (l : List Int) (hl : l ≠ []) (hl2 : l.length ≤ 9223372036854775807) (at_ n : Int) (h1 : 1 ≤ n) (h2 : n ≤ 9223372036854775807) (ha : 0 ≤ at_) (hb : at_ ≤ 1000000) :
    Does Try.prog 4 [.ptr 0 0, I n] [.box [Ls l, I at_]] (I (nextV l at_ n)) [.box [Ls l, I (at_ + 1)]] := by
  have hpos : 0 < l.length := List.length_pos_iff.2 hl
  have e1 : ((l.length : Int) == 0) = false := by simp; omega
  have i0 := Int.emod_nonneg at_ (show (l.length : Int) ≠ 0 by omega)
  have i1 := Int.emod_lt_of_pos at_ (show (0 : Int) < l.length by omega)
  have t1 : (at_ + 1 - 1).tmod l.length = at_ % (l.length : Int) := by rw [Int.add_sub_cancel]; exact Int.tmod_eq_emod_of_nonneg ha
  have t2 : (at_ + 1 - 1).tdiv l.length = at_ / (l.length : Int) := by rw [Int.add_sub_cancel]; exact Int.tdiv_eq_ediv_of_nonneg ha
  have hlt : (at_ % (l.length : Int)).toNat < l.length := by omega
  have hget : (l.map (D.int .i64))[(at_ % (l.length : Int)).toNat]? = some (D.int .i64 (l.getD (at_ % (l.length : Int)).toNat 0)) := by
    simp [List.getElem?_eq_getElem hlt]
  refine Does.of_AW (n := 64) Try.func4 rfl rfl rfl fun cx hcx => ?_
  refine AW.sreg rfl fun K hK => ?_; simp only [go_sem, Nat.reduceAdd, Nat.reduceMul, Int.reduceToNat, Nat.reduceLT, Nat.reduceLeDiff, Nat.le_refl, Nat.reduceEqDiff, ↓reduceIte, beq_self_eq_true, bne_self_eq_false, Int.reduceBEq, Int.reduceBNe]
  refine hK _ ?_; (try clear hK K)
  refine AW.sreg rfl fun K hK => ?_; simp only [go_sem, Nat.reduceAdd, Nat.reduceMul, Int.reduceToNat, Nat.reduceLT, Nat.reduceLeDiff, Nat.le_refl, Nat.reduceEqDiff, ↓reduceIte, beq_self_eq_true, bne_self_eq_false, Int.reduceBEq, Int.reduceBNe]
  refine ⟨by omega, ?_⟩
  refine hK _ ?_; (try clear hK K)
  refine AW.seq_k fun K1 hK1 => ?_
  refine AW.sreg rfl fun K hK => ?_; simp only [go_sem, Nat.reduceAdd, Nat.reduceMul, Int.reduceToNat, Nat.reduceLT, Nat.reduceLeDiff, Nat.le_refl, Nat.reduceEqDiff, ↓reduceIte, beq_self_eq_true, bne_self_eq_false, Int.reduceBEq, Int.reduceBNe, List.length_map]
  refine hK _ ?_; (try clear hK K)
  refine AW.condF rfl e1 (AW.skip (hK1 _ ?_))
  refine AW.sregD hmix rfl fun K hK => ?_; simp only [go_sem, Nat.reduceAdd, Nat.reduceMul, Int.reduceToNat, Nat.reduceLT, Nat.reduceLeDiff, Nat.le_refl, Nat.reduceEqDiff, ↓reduceIte, beq_self_eq_true, bne_self_eq_false, Int.reduceBEq, Int.reduceBNe, List.length_map]
  refine ⟨by omega, by omega, by kernel_rfl, ?_⟩
  refine hK _ ?_; (try clear hK K)
  have t3 : 0 ≤ at_ / (l.length : Int) := Int.ediv_nonneg ha (by omega)
  have t4 : at_ / (l.length : Int) ≤ at_ := Int.ediv_le_self _ ha
  refine AW.sregD hmix rfl fun K hK => ?_; simp only [go_sem, Nat.reduceAdd, Nat.reduceMul, Int.reduceToNat, Nat.reduceLT, Nat.reduceLeDiff, Nat.le_refl, Nat.reduceEqDiff, ↓reduceIte, beq_self_eq_true, bne_self_eq_false, Int.reduceBEq, Int.reduceBNe, List.length_map, t1, t2]
  refine ⟨by omega, ⟨by omega, by omega, by omega⟩, by kernel_rfl, ?_⟩
  refine hK _ ?_; (try clear hK K)
  have i2 : at_ % (l.length : Int) ≤ at_ := by
    have q1 := Int.mul_ediv_add_emod at_ (l.length : Int)
    have q2 := Int.mul_nonneg (show 0 ≤ (l.length : Int) by omega) t3
    omega
  refine AW.sreg rfl fun K hK => ?_; simp only [go_sem, Nat.reduceAdd, Nat.reduceMul, Int.reduceToNat, Nat.reduceLT, Nat.reduceLeDiff, Nat.le_refl, Nat.reduceEqDiff, ↓reduceIte, beq_self_eq_true, bne_self_eq_false, Int.reduceBEq, Int.reduceBNe, t1, t2, hget]
  refine ⟨i0, ?_⟩
  refine run_call _ _ _ ((below (l.getD (at_ % (l.length : Int)).toNat 0) 1073741824 (by omega) (by omega)).pure rfl rfl _ _) rfl rfl (dstOk_of rfl) rfl rfl rfl ?_
  simp only [go_sem, Nat.reduceAdd, Nat.reduceMul, Int.reduceToNat, Nat.reduceLT, Nat.reduceLeDiff, Nat.le_refl, Nat.reduceEqDiff, ↓reduceIte, beq_self_eq_true, bne_self_eq_false, Int.reduceBEq, Int.reduceBNe]
  have b0 := Int.emod_nonneg (l.getD (at_ % (l.length : Int)).toNat 0) (show (1073741824 : Int) ≠ 0 by omega)
  have b1 := Int.emod_lt_of_pos (l.getD (at_ % (l.length : Int)).toNat 0) (show (0 : Int) < 1073741824 by omega)
  have m0 : 0 ≤ at_ / (l.length : Int) * (7919 + at_ % (l.length : Int)) := Int.mul_nonneg t3 (by omega)
  have m1 : at_ / (l.length : Int) * (7919 + at_ % (l.length : Int)) ≤ 1000000 * 1007919 := Int.mul_le_mul (by omega) (by omega) (by omega) (by omega)
  refine ⟨by omega, by omega, by omega, ?_⟩
  refine run_call _ _ _ ((below _ n h1 h2).pure rfl rfl _ _) rfl rfl (dstOk_of rfl) rfl rfl rfl ?_
  simp only [go_sem, Nat.reduceAdd, Nat.reduceMul, Int.reduceToNat, Nat.reduceLT, Nat.reduceLeDiff, Nat.le_refl, Nat.reduceEqDiff, ↓reduceIte, beq_self_eq_true, bne_self_eq_false, Int.reduceBEq, Int.reduceBNe]
  refine hK _ (AW.ret (Fin.one rfl ?_ ⟨_, rfl, rfl⟩ rfl rfl))
  simp only [go_sem, nextV, hl, if_false]

theorem next_any (l : List Int) (hl2 : l.length ≤ 9223372036854775807) (at_ n : Int) (h1 : 1 ≤ n) (h2 : n ≤ 9223372036854775807) (ha : 0 ≤ at_) (hb : at_ ≤ 1000000) :
    Does Try.prog 4 [.ptr 0 0, I n] [.box [Ls l, I at_]] (I (nextV l at_ n)) [.box [Ls l, I (at_ + 1)]] := by
  by_cases hl : l = []
  · subst hl; exact next_nil at_ n h1 h2 ha hb
  · exact next_cons l hl hl2 at_ n h1 h2 ha hb
theorem nextV_range (l : List Int) (at_ n : Int) (h1 : 1 ≤ n) : 0 ≤ nextV l at_ n ∧ nextV l at_ n < n := by
  unfold nextV
  split
  · exact ⟨Int.emod_nonneg _ (by omega), Int.emod_lt_of_pos _ (by omega)⟩
  · exact ⟨Int.emod_nonneg _ (by omega), Int.emod_lt_of_pos _ (by omega)⟩

theorem range_any (l : List Int) (hl2 : l.length ≤ 9223372036854775807) (at_ lo hi : Int) (h1 : lo ≤ hi) (h2 : -1000000000 ≤ lo) (h3 : hi ≤ 1000000000) (ha : 0 ≤ at_) (hb : at_ ≤ 1000000) :
    Does Try.prog 5 [.ptr 0 0, I lo, I hi] [.box [Ls l, I at_]] (I (lo + nextV l at_ (hi - lo + 1))) [.box [Ls l, I (at_ + 1)]] := by
  have hr := nextV_range l at_ (hi - lo + 1) (by omega)
  refine Does.of_AW (n := 19) Try.func5 rfl rfl rfl fun cx hcx => ?_
  refine AW.sreg rfl fun K hK => ?_; simp only [go_sem, Nat.reduceAdd, Nat.reduceMul, Int.reduceToNat, Nat.reduceLT, Nat.reduceLeDiff, Nat.le_refl, Nat.reduceEqDiff, ↓reduceIte, beq_self_eq_true, bne_self_eq_false, Int.reduceBEq, Int.reduceBNe]
  refine hK _ ?_; (try clear hK K)
  refine AW.seq_k fun K1 hK1 => ?_
  refine AW.sreg rfl fun K hK => ?_; simp only [go_sem, Nat.reduceAdd, Nat.reduceMul, Int.reduceToNat, Nat.reduceLT, Nat.reduceLeDiff, Nat.le_refl, Nat.reduceEqDiff, ↓reduceIte, beq_self_eq_true, bne_self_eq_false, Int.reduceBEq, Int.reduceBNe]
  refine hK _ ?_; (try clear hK K)
  refine AW.condF rfl (by simp; omega) (AW.skip (hK1 _ ?_))
  refine AW.sreg rfl fun K hK => ?_; simp only [go_sem, Nat.reduceAdd, Nat.reduceMul, Int.reduceToNat, Nat.reduceLT, Nat.reduceLeDiff, Nat.le_refl, Nat.reduceEqDiff, ↓reduceIte, beq_self_eq_true, bne_self_eq_false, Int.reduceBEq, Int.reduceBNe]
  refine ⟨by omega, by omega, ?_⟩
  refine run_call _ _ _ ((next_any l hl2 at_ (hi - lo + 1) (by omega) (by omega) ha hb).one 0 rfl rfl rfl rfl rfl rfl rfl rfl rfl) rfl rfl (dstOk_of rfl) rfl rfl rfl ?_
  simp only [go_sem, Nat.reduceAdd, Nat.reduceMul, Int.reduceToNat, Nat.reduceLT, Nat.reduceLeDiff, Nat.le_refl, Nat.reduceEqDiff, ↓reduceIte, beq_self_eq_true, bne_self_eq_false, Int.reduceBEq, Int.reduceBNe]
  refine ⟨by omega, ?_⟩
  exact hK _ (AW.ret (Fin.one rfl rfl ⟨_, rfl, rfl⟩ rfl rfl))

def wOf (n : Int) : Int := if n = 0 then 500000 else if n = 1 then 0 else if n = 2 then 600000 else if n = 3 then 800000 else 1000000
theorem worthOf_any (n : Int) (h1 : 0 ≤ n) (h2 : n ≤ 4) : Does Try.prog 14 [I n] [] (I (wOf n)) [] := by
  refine Does.of_AW (n := 6) Try.func14 rfl rfl rfl fun cx hcx => ?_
  refine AW.sreg rfl fun K hK => ?_; simp only [go_sem, Nat.reduceAdd, Nat.reduceMul, Int.reduceToNat, Nat.reduceLT, Nat.reduceLeDiff, Nat.le_refl, Nat.reduceEqDiff, ↓reduceIte, beq_self_eq_true, bne_self_eq_false, Int.reduceBEq, Int.reduceBNe]
  refine hK _ ?_; (try clear hK K)
  obtain h | h | h | h | h : n = 0 ∨ n = 1 ∨ n = 2 ∨ n = 3 ∨ n = 4 := by omega
  all_goals
    subst h
    refine AW.sreg rfl fun K hK => ?_; simp only [go_sem, Nat.reduceAdd, Nat.reduceMul, Int.reduceToNat, Nat.reduceLT, Nat.reduceLeDiff, Nat.le_refl, Nat.reduceEqDiff, ↓reduceIte, beq_self_eq_true, bne_self_eq_false, Int.reduceBEq, Int.reduceBNe]
    refine ⟨by decide, ?_⟩
    exact hK _ (AW.ret (Fin.data rfl (by simp [go_sem, wOf]) rfl))

abbrev Fr (a b : Int) : D := .agg [.int .i64 a, .int .i64 b]
theorem worth_any (a b n : Int) (h1 : 0 ≤ n) (h2 : n ≤ 4) (ha : 0 ≤ a) (hab : a ≤ b) (hb : 1 ≤ b) (hb2 : b ≤ 1000000000) : Does Try.prog 11 [.d (Fr a b), I n] [] (I (a * wOf n / b)) [] := by
  have w0 : 0 ≤ wOf n := by unfold wOf; split; omega; split; omega; split; omega; split <;> omega
  have w1 : wOf n ≤ 1000000 := by unfold wOf; split; omega; split; omega; split; omega; split <;> omega
  have m0 : 0 ≤ a * wOf n := Int.mul_nonneg ha w0
  have m1 : a * wOf n ≤ 1000000000 * 1000000 := Int.mul_le_mul (by omega) w1 w0 (by omega)
  have d0 := Int.ediv_nonneg m0 (show 0 ≤ b by omega)
  have d1 := Int.ediv_le_self b m0
  have e : (a * wOf n).tdiv b = a * wOf n / b := Int.tdiv_eq_ediv_of_nonneg m0
  refine Does.of_AW (n := 13) Try.func11 rfl rfl rfl fun cx hcx => ?_
  refine AW.sreg rfl fun K hK => ?_; simp only [go_sem, Nat.reduceAdd, Nat.reduceMul, Int.reduceToNat, Nat.reduceLT, Nat.reduceLeDiff, Nat.le_refl, Nat.reduceEqDiff, ↓reduceIte, beq_self_eq_true, bne_self_eq_false, Int.reduceBEq, Int.reduceBNe]
  refine hK _ ?_; (try clear hK K)
  refine AW.sregD hmix rfl fun K hK => ?_; simp only [go_sem, Nat.reduceAdd, Nat.reduceMul, Int.reduceToNat, Nat.reduceLT, Nat.reduceLeDiff, Nat.le_refl, Nat.reduceEqDiff, ↓reduceIte, beq_self_eq_true, bne_self_eq_false, Int.reduceBEq, Int.reduceBNe]
  refine runT_call _ _ [] (fun hv _ => (worthOf_any n h1 h2).pure rfl rfl hv _) rfl rfl (dstOk_of rfl) rfl rfl ?_
  simp only [go_sem, Nat.reduceAdd, Nat.reduceMul, Int.reduceToNat, Nat.reduceLT, Nat.reduceLeDiff, Nat.le_refl, Nat.reduceEqDiff, ↓reduceIte, beq_self_eq_true, bne_self_eq_false, Int.reduceBEq, Int.reduceBNe, e]
  refine ⟨by omega, ⟨by omega, by omega, by omega⟩, by kernel_rfl, ?_⟩
  exact hK _ (AW.ret (Fin.data rfl rfl rfl))

theorem gcd_pos (a b : Int) (hb : 1 ≤ b) : 1 ≤ (Int.gcd a b : Int) := by
  have : 0 < Int.gcd a b := Int.gcd_pos_of_ne_zero_right a (by omega)
  omega
theorem tdiv_fits (a g : Int) (M : Int) (hg : 1 ≤ g) (h : -M ≤ a ∧ a ≤ M) : -M ≤ a.tdiv g ∧ a.tdiv g ≤ M := by
  have h1 := Int.natAbs_tdiv_le_natAbs a g
  omega
/-- A fraction in lowest terms. -/
def low (a b : Int) : Int × Int := (a.tdiv (Int.gcd a b), b.tdiv (Int.gcd a b))
theorem lowest_any (a b : Int) (ha : -1000000000000000000 ≤ a ∧ a ≤ 1000000000000000000) (hb : 1 ≤ b ∧ b ≤ 1000000000000000000) : Does Try.prog 17 [I a, I b] [] (.d (Fr (low a b).1 (low a b).2)) [] := by
  have hg := gcd_pos a b hb.1
  have q1 := tdiv_fits a (Int.gcd a b) _ hg ha
  have q2 := tdiv_fits b (Int.gcd a b) _ hg ⟨by omega, hb.2⟩
  refine Does.of_AW (n := 22) Try.func17 rfl rfl rfl fun cx hcx => ?_
  refine AW.sreg rfl fun K hK => ?_; simp only [go_sem, Nat.reduceAdd, Nat.reduceMul, Int.reduceToNat, Nat.reduceLT, Nat.reduceLeDiff, Nat.le_refl, Nat.reduceEqDiff, ↓reduceIte, beq_self_eq_true, bne_self_eq_false, Int.reduceBEq, Int.reduceBNe]
  refine hK _ ?_; (try clear hK K)
  refine AW.seq_k fun K1 hK1 => ?_
  refine AW.sreg rfl fun K hK => ?_; simp only [go_sem, Nat.reduceAdd, Nat.reduceMul, Int.reduceToNat, Nat.reduceLT, Nat.reduceLeDiff, Nat.le_refl, Nat.reduceEqDiff, ↓reduceIte, beq_self_eq_true, bne_self_eq_false, Int.reduceBEq, Int.reduceBNe]
  refine hK _ ?_; (try clear hK K)
  refine AW.condF rfl (by simp; omega) (AW.skip (hK1 _ ?_))
  refine AW.sreg rfl fun K hK => ?_; simp only [go_sem, Nat.reduceAdd, Nat.reduceMul, Int.reduceToNat, Nat.reduceLT, Nat.reduceLeDiff, Nat.le_refl, Nat.reduceEqDiff, ↓reduceIte, beq_self_eq_true, bne_self_eq_false, Int.reduceBEq, Int.reduceBNe]
  refine run_call _ _ _ ((gcd_go a b (by omega) (by omega)).pure rfl rfl _ _) rfl rfl (dstOk_of rfl) rfl rfl rfl ?_
  simp only [go_sem, Nat.reduceAdd, Nat.reduceMul, Int.reduceToNat, Nat.reduceLT, Nat.reduceLeDiff, Nat.le_refl, Nat.reduceEqDiff, ↓reduceIte, beq_self_eq_true, bne_self_eq_false, Int.reduceBEq, Int.reduceBNe]
  refine hK _ ?_; (try clear hK K)
  refine AW.sregD hmix rfl fun K hK => ?_; simp only [go_sem, Nat.reduceAdd, Nat.reduceMul, Int.reduceToNat, Nat.reduceLT, Nat.reduceLeDiff, Nat.le_refl, Nat.reduceEqDiff, ↓reduceIte, beq_self_eq_true, bne_self_eq_false, Int.reduceBEq, Int.reduceBNe]
  refine ⟨⟨by omega, by omega⟩, ⟨by omega, by omega⟩, by kernel_rfl, ?_⟩
  exact hK _ (AW.ret (Fin.data rfl rfl rfl))

theorem plus_any (a b c d : Int) (ha : 0 ≤ a ∧ a ≤ 1000000000) (hb : 1 ≤ b ∧ b ≤ 1000000000) (hc : 0 ≤ c ∧ c ≤ 1000000000) (hd : 1 ≤ d ∧ d ≤ 1000000000) (h : a * d + c * b ≤ 1000000000000000000) : Does Try.prog 16 [.d (Fr a b), .d (Fr c d)] [] (.d (Fr (low (a * d + c * b) (b * d)).1 (low (a * d + c * b) (b * d)).2)) [] := by
  have m1 : 0 ≤ a * d := Int.mul_nonneg (by omega) (by omega)
  have m2 : 0 ≤ c * b := Int.mul_nonneg (by omega) (by omega)
  have m3 : 1 ≤ b * d := by have := Int.mul_le_mul hb.1 hd.1 (by omega) (by omega); omega
  have m4 : b * d ≤ 1000000000 * 1000000000 := Int.mul_le_mul hb.2 hd.2 (by omega) (by omega)
  refine Does.of_AW (n := 22) Try.func16 rfl rfl rfl fun cx hcx => ?_
  refine AW.sreg rfl fun K hK => ?_; simp only [go_sem, Nat.reduceAdd, Nat.reduceMul, Int.reduceToNat, Nat.reduceLT, Nat.reduceLeDiff, Nat.le_refl, Nat.reduceEqDiff, ↓reduceIte, beq_self_eq_true, bne_self_eq_false, Int.reduceBEq, Int.reduceBNe]
  refine hK _ ?_; (try clear hK K)
  refine AW.sreg rfl fun K hK => ?_; simp only [go_sem, Nat.reduceAdd, Nat.reduceMul, Int.reduceToNat, Nat.reduceLT, Nat.reduceLeDiff, Nat.le_refl, Nat.reduceEqDiff, ↓reduceIte, beq_self_eq_true, bne_self_eq_false, Int.reduceBEq, Int.reduceBNe]
  refine ⟨by omega, by omega, by omega, by omega, ?_⟩
  refine run_call _ _ _ ((lowest_any (a * d + c * b) (b * d) (by omega) (by omega)).pure rfl rfl _ _) rfl rfl (dstOk_of rfl) rfl rfl rfl ?_
  simp only [go_sem, Nat.reduceAdd, Nat.reduceMul, Int.reduceToNat, Nat.reduceLT, Nat.reduceLeDiff, Nat.le_refl, Nat.reduceEqDiff, ↓reduceIte, beq_self_eq_true, bne_self_eq_false, Int.reduceBEq, Int.reduceBNe]
  exact hK _ (AW.ret (Fin.data rfl rfl rfl))

/-- A fraction of chapter 3. -/
def FrOk' (a b : Int) : Prop := 0 ≤ a ∧ a ≤ 1000000000 ∧ 1 ≤ b ∧ b ≤ 1000000000 ∧ Int.gcd a b = 1
theorem fractionFault_ok (a b : Int) (h : FrOk' a b) : Does Try.prog 9 [.d (Fr a b)] [] (I 0) [] := by
  obtain ⟨h1, h2, h3, h4, h5⟩ := h
  have e1 : (decide (b < 1) || decide (1000000000 < b)) = false := by simp; omega
  have e2 : (decide (a < 0) || decide (1000000000 < a)) = false := by simp; omega
  have e3 : (((Int.gcd a b : Nat) : Int) != 1) = false := by simp [h5]
  refine Does.of_AW (n := 19) Try.func9 rfl rfl rfl fun cx hcx => ?_
  refine AW.sreg rfl fun K hK => ?_; simp only [go_sem, Nat.reduceAdd, Nat.reduceMul, Int.reduceToNat, Nat.reduceLT, Nat.reduceLeDiff, Nat.le_refl, Nat.reduceEqDiff, ↓reduceIte, beq_self_eq_true, bne_self_eq_false, Int.reduceBEq, Int.reduceBNe]
  refine hK _ ?_; (try clear hK K)
  refine AW.seq_k fun K1 hK1 => ?_
  refine AW.sreg rfl fun K hK => ?_; simp only [go_sem, Nat.reduceAdd, Nat.reduceMul, Int.reduceToNat, Nat.reduceLT, Nat.reduceLeDiff, Nat.le_refl, Nat.reduceEqDiff, ↓reduceIte, beq_self_eq_true, bne_self_eq_false, Int.reduceBEq, Int.reduceBNe]
  refine run_call _ _ _ ((outside b 1 1000000000).pure rfl rfl _ _) rfl rfl (dstOk_of rfl) rfl rfl rfl ?_
  simp only [go_sem, Nat.reduceAdd, Nat.reduceMul, Int.reduceToNat, Nat.reduceLT, Nat.reduceLeDiff, Nat.le_refl, Nat.reduceEqDiff, ↓reduceIte, beq_self_eq_true, bne_self_eq_false, Int.reduceBEq, Int.reduceBNe, e1]
  refine run_call _ _ _ ((outside a 0 1000000000).pure rfl rfl _ _) rfl rfl (dstOk_of rfl) rfl rfl rfl ?_
  simp only [go_sem, Nat.reduceAdd, Nat.reduceMul, Int.reduceToNat, Nat.reduceLT, Nat.reduceLeDiff, Nat.le_refl, Nat.reduceEqDiff, ↓reduceIte, beq_self_eq_true, bne_self_eq_false, Int.reduceBEq, Int.reduceBNe, e2]
  refine run_call _ _ _ ((gcd_go a b (by omega) (by omega)).pure rfl rfl _ _) rfl rfl (dstOk_of rfl) rfl rfl rfl ?_
  simp only [go_sem, Nat.reduceAdd, Nat.reduceMul, Int.reduceToNat, Nat.reduceLT, Nat.reduceLeDiff, Nat.le_refl, Nat.reduceEqDiff, ↓reduceIte, beq_self_eq_true, bne_self_eq_false, Int.reduceBEq, Int.reduceBNe, e3]
  refine hK _ ?_; (try clear hK K)
  refine AW.condF rfl rfl (AW.skip (hK1 _ ?_))
  refine AW.sreg rfl fun K hK => ?_; simp only [go_sem, Nat.reduceAdd, Nat.reduceMul, Int.reduceToNat, Nat.reduceLT, Nat.reduceLeDiff, Nat.le_refl, Nat.reduceEqDiff, ↓reduceIte, beq_self_eq_true, bne_self_eq_false, Int.reduceBEq, Int.reduceBNe]
  exact hK _ (AW.ret (Fin.data rfl rfl rfl))

theorem fractionsFault_ok (l : List (Int × Int)) (hl : l.length ≤ 1000000) (h : ∀ p ∈ l, FrOk' p.1 p.2) : Does Try.prog 15 [.d (.sl (l.map fun p => Fr p.1 p.2))] [] (I 0) [] := by
  refine Does.of_AW (n := 18) Try.func15 rfl rfl rfl fun cx hcx => ?_
  refine AW.sreg rfl fun K hK => ?_; simp only [go_sem, Nat.reduceAdd, Nat.reduceMul, Int.reduceToNat, Nat.reduceLT, Nat.reduceLeDiff, Nat.le_refl, Nat.reduceEqDiff, ↓reduceIte, beq_self_eq_true, bne_self_eq_false, Int.reduceBEq, Int.reduceBNe]
  refine hK _ ?_; (try clear hK K)
  refine AW.seq_k fun K1 hK1 => ?_
  refine AW.sreg rfl fun K hK => ?_; simp only [go_sem, Nat.reduceAdd, Nat.reduceMul, Int.reduceToNat, Nat.reduceLT, Nat.reduceLeDiff, Nat.le_refl, Nat.reduceEqDiff, ↓reduceIte, beq_self_eq_true, bne_self_eq_false, Int.reduceBEq, Int.reduceBNe, List.length_map]
  refine hK _ ?_; (try clear hK K)
  refine AW.block ?_
  refine AW.loopS (ι := Nat) (fun k => ⟨18, [(6, .d (.sl (l.map fun p => Fr p.1 p.2))), (7, I l.length), (8, I k)], [], 0⟩) (fun k => k ≤ l.length) (fun k => l.length - k) 0 (Nat.zero_le _) (Weak.data hcx rfl rfl (by simp [go_sem])) ?_
  intro k hk
  refine AW.sreg rfl fun K hK => ?_; simp only [go_sem, Nat.reduceAdd, Nat.reduceMul, Int.reduceToNat, Nat.reduceLT, Nat.reduceLeDiff, Nat.le_refl, Nat.reduceEqDiff, ↓reduceIte, beq_self_eq_true, bne_self_eq_false, Int.reduceBEq, Int.reduceBNe]
  refine hK _ ?_; (try clear hK K)
  refine AW.seq_k fun K2 hK2 => ?_
  refine AW.cond rfl (fun hc => ?_) (fun hc => ?_)
  · have hlt : k < l.length := by simpa using hc
    refine AW.skip (hK2 _ ?_)
    have hget : (l.map fun p => Fr p.1 p.2)[k]? = some (Fr l[k].1 l[k].2) := by simp [hlt]
    refine AW.seq_k fun K3 hK3 => ?_
    refine AW.block ?_
    refine AW.sreg rfl fun K hK => ?_; simp only [go_sem, Nat.reduceAdd, Nat.reduceMul, Int.reduceToNat, Nat.reduceLT, Nat.reduceLeDiff, Nat.le_refl, Nat.reduceEqDiff, ↓reduceIte, beq_self_eq_true, bne_self_eq_false, Int.reduceBEq, Int.reduceBNe, hget]
    refine ⟨by omega, ?_⟩
    refine hK _ ?_; (try clear hK K)
    refine AW.sreg rfl fun K hK => ?_; simp only [go_sem, Nat.reduceAdd, Nat.reduceMul, Int.reduceToNat, Nat.reduceLT, Nat.reduceLeDiff, Nat.le_refl, Nat.reduceEqDiff, ↓reduceIte, beq_self_eq_true, bne_self_eq_false, Int.reduceBEq, Int.reduceBNe]
    refine run_call _ _ _ ((fractionFault_ok l[k].1 l[k].2 (h _ (List.getElem_mem hlt))).pure rfl rfl _ _) rfl rfl (dstOk_of rfl) rfl rfl rfl ?_
    simp only [go_sem, Nat.reduceAdd, Nat.reduceMul, Int.reduceToNat, Nat.reduceLT, Nat.reduceLeDiff, Nat.le_refl, Nat.reduceEqDiff, ↓reduceIte, beq_self_eq_true, bne_self_eq_false, Int.reduceBEq, Int.reduceBNe]
    refine hK _ ?_; (try clear hK K)
    refine AW.sreg rfl fun K hK => ?_; simp only [go_sem, Nat.reduceAdd, Nat.reduceMul, Int.reduceToNat, Nat.reduceLT, Nat.reduceLeDiff, Nat.le_refl, Nat.reduceEqDiff, ↓reduceIte, beq_self_eq_true, bne_self_eq_false, Int.reduceBEq, Int.reduceBNe]
    refine hK _ ?_; (try clear hK K)
    refine AW.condF rfl rfl (AW.skip (hK3 _ ?_))
    refine AW.reg rfl ?_; simp only [go_sem, Nat.reduceAdd, Nat.reduceMul, Int.reduceToNat, Nat.reduceLT, Nat.reduceLeDiff, Nat.le_refl, Nat.reduceEqDiff, ↓reduceIte, beq_self_eq_true, bne_self_eq_false, Int.reduceBEq, Int.reduceBNe]
    refine ⟨by omega, k + 1, by omega, by omega, ?_⟩
    refine Weak.data hcx rfl rfl (by simp [go_sem])
  · refine AW.exit ?_
    simp only [go_sem, ↓reduceIte]
    refine hK1 _ ?_
    refine AW.sreg rfl fun K hK => ?_; simp only [go_sem, Nat.reduceAdd, Nat.reduceMul, Int.reduceToNat, Nat.reduceLT, Nat.reduceLeDiff, Nat.le_refl, Nat.reduceEqDiff, ↓reduceIte, beq_self_eq_true, bne_self_eq_false, Int.reduceBEq, Int.reduceBNe]
    exact hK _ (AW.ret (Fin.data rfl rfl rfl))

theorem add_ok (a b c d : Int) (h1 : FrOk' a b) (h2 : FrOk' c d) (h : a * d + c * b ≤ 1000000000000000000) (h3 : (low (a * d + c * b) (b * d)).1 ≤ 1000000000) (h4 : (low (a * d + c * b) (b * d)).2 ≤ 1000000000) :
    Does Try.prog 12 [.d (Fr a b), .d (Fr c d)] [] (.tup [.d (Fr (low (a * d + c * b) (b * d)).1 (low (a * d + c * b) (b * d)).2), I 0]) [] := by
  have e1 : decide (1000000000 < (low (a * d + c * b) (b * d)).1) = false := by simp; omega
  have e2 : decide (1000000000 < (low (a * d + c * b) (b * d)).2) = false := by simp; omega
  have hF : ∀ p ∈ [(a, b), (c, d)], FrOk' p.1 p.2 := by
    intro p hp
    simp at hp
    rcases hp with rfl | rfl
    · exact h1
    · exact h2
  refine Does.of_AW (n := 29) Try.func12 rfl rfl rfl fun cx hcx => ?_
  refine AW.sreg rfl fun K hK => ?_; simp only [go_sem, Nat.reduceAdd, Nat.reduceMul, Int.reduceToNat, Nat.reduceLT, Nat.reduceLeDiff, Nat.le_refl, Nat.reduceEqDiff, ↓reduceIte, beq_self_eq_true, bne_self_eq_false, Int.reduceBEq, Int.reduceBNe]
  refine hK _ ?_; (try clear hK K)
  refine AW.seq_k fun K1 hK1 => ?_
  refine AW.sreg rfl fun K hK => ?_; simp only [go_sem, Nat.reduceAdd, Nat.reduceMul, Int.reduceToNat, Nat.reduceLT, Nat.reduceLeDiff, Nat.le_refl, Nat.reduceEqDiff, ↓reduceIte, beq_self_eq_true, bne_self_eq_false, Int.reduceBEq, Int.reduceBNe]
  refine run_call _ _ _ ((fractionsFault_ok [(a, b), (c, d)] (by simp) hF).borrow rfl rfl rfl) rfl rfl (dstOk_of rfl) rfl rfl rfl ?_
  simp only [go_sem, Nat.reduceAdd, Nat.reduceMul, Int.reduceToNat, Nat.reduceLT, Nat.reduceLeDiff, Nat.le_refl, Nat.reduceEqDiff, ↓reduceIte, beq_self_eq_true, bne_self_eq_false, Int.reduceBEq, Int.reduceBNe]
  refine hK _ ?_; (try clear hK K)
  refine AW.sreg rfl fun K hK => ?_; simp only [go_sem, Nat.reduceAdd, Nat.reduceMul, Int.reduceToNat, Nat.reduceLT, Nat.reduceLeDiff, Nat.le_refl, Nat.reduceEqDiff, ↓reduceIte, beq_self_eq_true, bne_self_eq_false, Int.reduceBEq, Int.reduceBNe]
  refine hK _ ?_; (try clear hK K)
  refine AW.condF rfl rfl (AW.skip (hK1 _ ?_))
  refine AW.sreg rfl fun K hK => ?_; simp only [go_sem, Nat.reduceAdd, Nat.reduceMul, Int.reduceToNat, Nat.reduceLT, Nat.reduceLeDiff, Nat.le_refl, Nat.reduceEqDiff, ↓reduceIte, beq_self_eq_true, bne_self_eq_false, Int.reduceBEq, Int.reduceBNe]
  refine run_call _ _ _ ((plus_any a b c d ⟨h1.1, h1.2.1⟩ ⟨h1.2.2.1, h1.2.2.2.1⟩ ⟨h2.1, h2.2.1⟩ ⟨h2.2.2.1, h2.2.2.2.1⟩ h).pure rfl rfl _ _) rfl rfl (dstOk_of rfl) rfl rfl rfl ?_
  simp only [go_sem, Nat.reduceAdd, Nat.reduceMul, Int.reduceToNat, Nat.reduceLT, Nat.reduceLeDiff, Nat.le_refl, Nat.reduceEqDiff, ↓reduceIte, beq_self_eq_true, bne_self_eq_false, Int.reduceBEq, Int.reduceBNe]
  refine hK _ ?_; (try clear hK K)
  refine AW.seq_k fun K2 hK2 => ?_
  refine AW.sreg rfl fun K hK => ?_; simp only [go_sem, Nat.reduceAdd, Nat.reduceMul, Int.reduceToNat, Nat.reduceLT, Nat.reduceLeDiff, Nat.le_refl, Nat.reduceEqDiff, ↓reduceIte, beq_self_eq_true, bne_self_eq_false, Int.reduceBEq, Int.reduceBNe, e1, e2]
  refine hK _ ?_; (try clear hK K)
  refine AW.condF rfl rfl (AW.skip (hK2 _ ?_))
  refine AW.sreg rfl fun K hK => ?_; simp only [go_sem, Nat.reduceAdd, Nat.reduceMul, Int.reduceToNat, Nat.reduceLT, Nat.reduceLeDiff, Nat.le_refl, Nat.reduceEqDiff, ↓reduceIte, beq_self_eq_true, bne_self_eq_false, Int.reduceBEq, Int.reduceBNe]
  exact hK _ (AW.ret (Fin.data rfl rfl rfl))

theorem worthFn_ok (a b n : Int) (h : FrOk' a b) (hab : a ≤ b) (h1 : 0 ≤ n) (h2 : n ≤ 4) : Does Try.prog 6 [.d (Fr a b), I n] [] (.tup [I (a * wOf n / b), I 0]) [] := by
  have e1 : decide (b < a) = false := by simp; omega
  have e2 : (decide (n < 0) || decide (4 < n)) = false := by simp; omega
  refine Does.of_AW (n := 22) Try.func6 rfl rfl rfl fun cx hcx => ?_
  refine AW.sreg rfl fun K hK => ?_; simp only [go_sem, Nat.reduceAdd, Nat.reduceMul, Int.reduceToNat, Nat.reduceLT, Nat.reduceLeDiff, Nat.le_refl, Nat.reduceEqDiff, ↓reduceIte, beq_self_eq_true, bne_self_eq_false, Int.reduceBEq, Int.reduceBNe]
  refine hK _ ?_; (try clear hK K)
  refine AW.seq_k fun K1 hK1 => AW.block ?_
  refine AW.sreg rfl fun K hK => ?_; simp only [go_sem, Nat.reduceAdd, Nat.reduceMul, Int.reduceToNat, Nat.reduceLT, Nat.reduceLeDiff, Nat.le_refl, Nat.reduceEqDiff, ↓reduceIte, beq_self_eq_true, bne_self_eq_false, Int.reduceBEq, Int.reduceBNe]
  refine run_call _ _ _ ((fractionFault_ok a b h).pure rfl rfl _ _) rfl rfl (dstOk_of rfl) rfl rfl rfl ?_
  simp only [go_sem, Nat.reduceAdd, Nat.reduceMul, Int.reduceToNat, Nat.reduceLT, Nat.reduceLeDiff, Nat.le_refl, Nat.reduceEqDiff, ↓reduceIte, beq_self_eq_true, bne_self_eq_false, Int.reduceBEq, Int.reduceBNe]
  refine hK _ ?_; (try clear hK K)
  refine AW.condF rfl rfl ?_
  refine AW.sreg rfl fun K hK => ?_; simp only [go_sem, Nat.reduceAdd, Nat.reduceMul, Int.reduceToNat, Nat.reduceLT, Nat.reduceLeDiff, Nat.le_refl, Nat.reduceEqDiff, ↓reduceIte, beq_self_eq_true, bne_self_eq_false, Int.reduceBEq, Int.reduceBNe, e1]
  refine hK _ ?_; (try clear hK K)
  refine AW.condF rfl rfl ?_
  refine AW.sreg rfl fun K hK => ?_; simp only [go_sem, Nat.reduceAdd, Nat.reduceMul, Int.reduceToNat, Nat.reduceLT, Nat.reduceLeDiff, Nat.le_refl, Nat.reduceEqDiff, ↓reduceIte, beq_self_eq_true, bne_self_eq_false, Int.reduceBEq, Int.reduceBNe]
  refine run_call _ _ _ ((outside n 0 4).pure rfl rfl _ _) rfl rfl (dstOk_of rfl) rfl rfl rfl ?_
  simp only [go_sem, Nat.reduceAdd, Nat.reduceMul, Int.reduceToNat, Nat.reduceLT, Nat.reduceLeDiff, Nat.le_refl, Nat.reduceEqDiff, ↓reduceIte, beq_self_eq_true, bne_self_eq_false, Int.reduceBEq, Int.reduceBNe, e2]
  refine hK _ ?_; (try clear hK K)
  refine AW.condF rfl rfl (AW.skip (hK1 _ ?_))
  refine AW.sreg rfl fun K hK => ?_; simp only [go_sem, Nat.reduceAdd, Nat.reduceMul, Int.reduceToNat, Nat.reduceLT, Nat.reduceLeDiff, Nat.le_refl, Nat.reduceEqDiff, ↓reduceIte, beq_self_eq_true, bne_self_eq_false, Int.reduceBEq, Int.reduceBNe]
  refine run_call _ _ _ ((worth_any a b n h1 h2 h.1 hab h.2.2.1 h.2.2.2.1).pure rfl rfl _ _) rfl rfl (dstOk_of rfl) rfl rfl rfl ?_
  simp only [go_sem, Nat.reduceAdd, Nat.reduceMul, Int.reduceToNat, Nat.reduceLT, Nat.reduceLeDiff, Nat.le_refl, Nat.reduceEqDiff, ↓reduceIte, beq_self_eq_true, bne_self_eq_false, Int.reduceBEq, Int.reduceBNe]
  exact hK _ (AW.ret (Fin.data rfl rfl rfl))

theorem topics_ok : Does Try.prog 7 [] [] (B true) [] := by
  have hlow : low (1 * 6 + 1 * 2) (2 * 6) = (2, 3) := by decide
  have ha := add_ok 1 2 1 6 (by unfold FrOk'; decide) (by unfold FrOk'; decide) (by decide) (by decide) (by decide)
  rw [hlow] at ha
  refine Does.of_AW (n := 16) Try.func7 rfl rfl rfl fun cx hcx => ?_
  refine AW.sreg rfl fun K hK => ?_; simp only [go_sem, Nat.reduceAdd, Nat.reduceMul, Int.reduceToNat, Nat.reduceLT, Nat.reduceLeDiff, Nat.le_refl, Nat.reduceEqDiff, ↓reduceIte, beq_self_eq_true, bne_self_eq_false, Int.reduceBEq, Int.reduceBNe]
  refine hK _ ?_; (try clear hK K)
  refine AW.sreg rfl fun K hK => ?_; simp only [go_sem, Nat.reduceAdd, Nat.reduceMul, Int.reduceToNat, Nat.reduceLT, Nat.reduceLeDiff, Nat.le_refl, Nat.reduceEqDiff, ↓reduceIte, beq_self_eq_true, bne_self_eq_false, Int.reduceBEq, Int.reduceBNe]
  refine run_call _ _ _ ((ha).pure rfl rfl _ _) rfl rfl (dstOk_of rfl) rfl rfl rfl ?_
  simp only [go_sem, Nat.reduceAdd, Nat.reduceMul, Int.reduceToNat, Nat.reduceLT, Nat.reduceLeDiff, Nat.le_refl, Nat.reduceEqDiff, ↓reduceIte, beq_self_eq_true, bne_self_eq_false, Int.reduceBEq, Int.reduceBNe]
  refine hK _ ?_; (try clear hK K)
  refine AW.sreg rfl fun K hK => ?_; simp only [go_sem, Nat.reduceAdd, Nat.reduceMul, Int.reduceToNat, Nat.reduceLT, Nat.reduceLeDiff, Nat.le_refl, Nat.reduceEqDiff, ↓reduceIte, beq_self_eq_true, bne_self_eq_false, Int.reduceBEq, Int.reduceBNe]
  exact hK _ (AW.ret (Fin.data rfl rfl rfl))

theorem law_ok (l : List Int) (hl : l.length ≤ 9223372036854775807) : Does Try.prog 3 [Ls l] [] (B true) [] := by
  have hr := nextV_range l 0 5 (by omega)
  have hb := nextV_range l (0 + 1) (3 - 1 + 1) (by omega)
  have cn := next_any l hl 0 5 (by omega) (by omega) (by omega) (by omega)
  have cr := range_any l hl (0 + 1) 1 3 (by omega) (by omega) (by omega) (by omega) (by omega)
  generalize nextV l 0 5 = r at hr cn
  generalize nextV l (0 + 1) (3 - 1 + 1) = b at hb cr
  refine Does.of_AW (n := 91) Try.func3 rfl rfl rfl fun cx hcx => ?_
  refine AW.sreg rfl fun K hK => ?_; simp only [go_sem, Nat.reduceAdd, Nat.reduceMul, Int.reduceToNat, Nat.reduceLT, Nat.reduceLeDiff, Nat.le_refl, Nat.reduceEqDiff, ↓reduceIte, beq_self_eq_true, bne_self_eq_false, Int.reduceBEq, Int.reduceBNe]
  refine hK _ ?_; (try clear hK K)
  refine AW.sreg rfl fun K hK => ?_; simp only [go_sem, Nat.reduceAdd, Nat.reduceMul, Int.reduceToNat, Nat.reduceLT, Nat.reduceLeDiff, Nat.le_refl, Nat.reduceEqDiff, ↓reduceIte, beq_self_eq_true, bne_self_eq_false, Int.reduceBEq, Int.reduceBNe]
  refine hK _ ?_; (try clear hK K)
  refine AW.sreg rfl fun K hK => ?_; simp only [go_sem, Nat.reduceAdd, Nat.reduceMul, Int.reduceToNat, Nat.reduceLT, Nat.reduceLeDiff, Nat.le_refl, Nat.reduceEqDiff, ↓reduceIte, beq_self_eq_true, bne_self_eq_false, Int.reduceBEq, Int.reduceBNe]
  refine run_call _ _ _ ((cn).one 3 rfl rfl rfl rfl rfl rfl rfl rfl rfl) rfl rfl (dstOk_of rfl) rfl rfl rfl ?_
  simp only [go_sem, Nat.reduceAdd, Nat.reduceMul, Int.reduceToNat, Nat.reduceLT, Nat.reduceLeDiff, Nat.le_refl, Nat.reduceEqDiff, ↓reduceIte, beq_self_eq_true, bne_self_eq_false, Int.reduceBEq, Int.reduceBNe]
  refine run_call _ _ _ ((cr).one 3 rfl rfl rfl rfl rfl rfl rfl rfl rfl) rfl rfl (dstOk_of rfl) rfl rfl rfl ?_
  simp only [go_sem, Nat.reduceAdd, Nat.reduceMul, Int.reduceToNat, Nat.reduceLT, Nat.reduceLeDiff, Nat.le_refl, Nat.reduceEqDiff, ↓reduceIte, beq_self_eq_true, bne_self_eq_false, Int.reduceBEq, Int.reduceBNe]
  refine hK _ ?_; (try clear hK K)
  have hw : ∀ a d n : Int, FrOk' a d → a ≤ d → 0 ≤ n → n ≤ 4 → Does Try.prog 6 [.d (Fr a d), I n] [] (.tup [I (a * wOf n / d), I 0]) [] := worthFn_ok
  obtain rfl | rfl | rfl | rfl | rfl : r = 0 ∨ r = 1 ∨ r = 2 ∨ r = 3 ∨ r = 4 := by omega
  all_goals
    refine AW.seq_k fun K1 hK1 => ?_
    refine AW.sreg rfl fun K hK => ?_; simp only [go_sem, Nat.reduceAdd, Nat.reduceMul, Int.reduceToNat, Nat.reduceLT, Nat.reduceLeDiff, Nat.le_refl, Nat.reduceEqDiff, ↓reduceIte, beq_self_eq_true, bne_self_eq_false, Int.reduceBEq, Int.reduceBNe, Int.reduceTMod]
    refine ⟨by decide, ?_⟩
    refine hK _ ?_; (try clear hK K)
    first
      | (refine AW.condT rfl rfl ?_; refine AW.reg rfl ?_; simp only [go_sem, Nat.reduceAdd, Nat.reduceMul, Int.reduceToNat, Nat.reduceLT, Nat.reduceLeDiff, Nat.le_refl, Nat.reduceEqDiff, ↓reduceIte, beq_self_eq_true, bne_self_eq_false, Int.reduceBEq, Int.reduceBNe, Int.reduceTDiv]; refine ⟨by decide, ?_⟩; refine hK1 _ ?_)
      | (refine AW.condF rfl rfl (AW.skip (hK1 _ ?_)))
    refine AW.seq_k fun K2 hK2 => ?_
    refine AW.sreg rfl fun K hK => ?_; simp only [go_sem, Nat.reduceAdd, Nat.reduceMul, Int.reduceToNat, Nat.reduceLT, Nat.reduceLeDiff, Nat.le_refl, Nat.reduceEqDiff, ↓reduceIte, beq_self_eq_true, bne_self_eq_false, Int.reduceBEq, Int.reduceBNe, Int.reduceTMod]
    refine ⟨by decide, ?_⟩
    refine hK _ ?_; (try clear hK K)
    first
      | (refine AW.condT rfl rfl ?_; refine AW.reg rfl ?_; simp only [go_sem, Nat.reduceAdd, Nat.reduceMul, Int.reduceToNat, Nat.reduceLT, Nat.reduceLeDiff, Nat.le_refl, Nat.reduceEqDiff, ↓reduceIte, beq_self_eq_true, bne_self_eq_false, Int.reduceBEq, Int.reduceBNe, Int.reduceTDiv]; refine ⟨by decide, ?_⟩; refine hK2 _ ?_)
      | (refine AW.condF rfl rfl (AW.skip (hK2 _ ?_)))
    obtain rfl | rfl | rfl : b = 0 ∨ b = 1 ∨ b = 2 := by omega
    all_goals
      refine AW.sreg rfl fun K hK => ?_; simp only [go_sem, Nat.reduceAdd, Nat.reduceMul, Int.reduceToNat, Nat.reduceLT, Nat.reduceLeDiff, Nat.le_refl, Nat.reduceEqDiff, ↓reduceIte, beq_self_eq_true, bne_self_eq_false, Int.reduceBEq, Int.reduceBNe]
      refine run_call _ _ _ ((hw _ _ _ (by unfold FrOk'; decide) (by decide) (by decide) (by decide)).pure rfl rfl _ _) rfl rfl (dstOk_of rfl) rfl rfl rfl ?_
      simp only [go_sem, Nat.reduceAdd, Nat.reduceMul, Int.reduceToNat, Nat.reduceLT, Nat.reduceLeDiff, Nat.le_refl, Nat.reduceEqDiff, ↓reduceIte, beq_self_eq_true, bne_self_eq_false, Int.reduceBEq, Int.reduceBNe]
      refine hK _ ?_; (try clear hK K)
      refine AW.sreg rfl fun K hK => ?_; simp only [go_sem, Nat.reduceAdd, Nat.reduceMul, Int.reduceToNat, Nat.reduceLT, Nat.reduceLeDiff, Nat.le_refl, Nat.reduceEqDiff, ↓reduceIte, beq_self_eq_true, bne_self_eq_false, Int.reduceBEq, Int.reduceBNe]
      refine ⟨by decide, ?_⟩
      refine run_call _ _ _ ((hw _ _ _ (by unfold FrOk'; decide) (by decide) (by decide) (by decide)).pure rfl rfl _ _) rfl rfl (dstOk_of rfl) rfl rfl rfl ?_
      simp only [go_sem, Nat.reduceAdd, Nat.reduceMul, Int.reduceToNat, Nat.reduceLT, Nat.reduceLeDiff, Nat.le_refl, Nat.reduceEqDiff, ↓reduceIte, beq_self_eq_true, bne_self_eq_false, Int.reduceBEq, Int.reduceBNe]
      refine hK _ ?_; (try clear hK K)
      refine AW.sreg rfl fun K hK => ?_; simp only [go_sem, Nat.reduceAdd, Nat.reduceMul, Int.reduceToNat, Nat.reduceLT, Nat.reduceLeDiff, Nat.le_refl, Nat.reduceEqDiff, ↓reduceIte, beq_self_eq_true, bne_self_eq_false, Int.reduceBEq, Int.reduceBNe]
      refine run_call _ _ _ ((hw 1 1 _ (by unfold FrOk'; decide) (by decide) (by decide) (by decide)).pure rfl rfl _ _) rfl rfl (dstOk_of rfl) rfl rfl rfl ?_
      simp only [go_sem, Nat.reduceAdd, Nat.reduceMul, Int.reduceToNat, Nat.reduceLT, Nat.reduceLeDiff, Nat.le_refl, Nat.reduceEqDiff, ↓reduceIte, beq_self_eq_true, bne_self_eq_false, Int.reduceBEq, Int.reduceBNe]
      refine hK _ ?_; (try clear hK K)
      refine AW.sreg rfl fun K hK => ?_; simp only [go_sem, Nat.reduceAdd, Nat.reduceMul, Int.reduceToNat, Nat.reduceLT, Nat.reduceLeDiff, Nat.le_refl, Nat.reduceEqDiff, ↓reduceIte, beq_self_eq_true, bne_self_eq_false, Int.reduceBEq, Int.reduceBNe]
      refine run_call _ _ _ ((topics_ok).pure rfl rfl _ _) rfl rfl (dstOk_of rfl) rfl rfl rfl ?_
      simp only [go_sem, Nat.reduceAdd, Nat.reduceMul, Int.reduceToNat, Nat.reduceLT, Nat.reduceLeDiff, Nat.le_refl, Nat.reduceEqDiff, ↓reduceIte, beq_self_eq_true, bne_self_eq_false, Int.reduceBEq, Int.reduceBNe, wOf, Int.reduceAdd, Int.reduceMul, Int.reduceDiv, Int.reduceLE, Int.reduceEq]
      exact hK _ (AW.ret (Fin.data rfl rfl rfl))
end Go.AX
