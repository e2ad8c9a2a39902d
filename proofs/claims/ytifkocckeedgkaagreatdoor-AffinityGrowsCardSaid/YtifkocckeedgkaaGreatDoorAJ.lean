/- Topics that are wanted, drawn. -/
import Derived.Test.YtifkocckeedgkaaGreatDoorAI
import Derived.Test.YtifkocckeedgkaaGreatDoorAx28
set_option linter.unusedSimpArgs false
set_option linter.unusedVariables false
set_option maxRecDepth 100000
set_option maxHeartbeats 4000000
namespace Go.AX
open Go Go.Proofs
abbrev T6 : List Str := [sArt, sBread, sCake, sDark, sRolls, sRye]
theorem h06topics_ok : Does Tryz.prog 27 [] [] (wsD T6) [] := runs_ok C0F_ok hmix (Z := hasN [27]) (by kernel_rfl)
def wnM (l : List Int) (a : Int) : List Str × Int :=
  let q := someF l 2 T6 [] a
  if nextV l q.2 15 = 0 then (q.1 ++ [O3.getD (nextV l (q.2 + 1) 3).toNat []], q.2 + 1 + 1) else (q.1, q.2 + 1)
theorem someF_bd (l : List Int) (odds : Int) : ∀ (xs out : List Str) (a : Int), a ≤ (someF l odds xs out a).2 ∧ (someF l odds xs out a).2 ≤ a + xs.length ∧ (someF l odds xs out a).1.length ≤ out.length + xs.length ∧ ∀ x ∈ (someF l odds xs out a).1, x ∈ out ∨ x ∈ xs
  | [], out, a => ⟨by simp [someF], by simp [someF], by simp [someF], fun x hx => .inl hx⟩
  | y :: xs, out, a => by
    simp only [someF]
    split
    · have := someF_bd l odds xs (out ++ [y]) (a + 1)
      simp only [List.length_append, List.length_cons, List.length_nil] at this ⊢
      refine ⟨by omega, by omega, by omega, fun x hx => ?_⟩
      have := this.2.2.2 x hx
      simp only [List.mem_append, List.mem_cons, List.not_mem_nil, or_false] at this ⊢
      rcases this with (h | h) | h
      · exact .inl h
      · exact .inr (.inl h)
      · exact .inr (.inr h)
    · have := someF_bd l odds xs out (a + 1)
      simp only [List.length_cons] at this ⊢
      refine ⟨by omega, by omega, by omega, fun x hx => ?_⟩
      have := this.2.2.2 x hx
      simp only [List.mem_cons]
      rcases this with h | h
      · exact .inl h
      · exact .inr (.inr h)
theorem wanted_any (l : List Int) (hl2 : l.length ≤ 9223372036854775807) (at_ : Int) (ha : 0 ≤ at_) (hb : at_ ≤ 1000) :
    Does Tryz.prog 6 [.ptr 0 0] [.box 25 [Ls l, I at_]] (wsD (wnM l at_).1) [.box 25 [Ls l, I (wnM l at_).2]] := by
  have hsm := some_any l hl2 at_ ha hb 2 (by omega) T6 (by simp)
  have bd := someF_bd l 2 T6 [] at_
  unfold wnM
  generalize someF l 2 T6 [] at_ = q at *
  obtain ⟨out, a⟩ := q
  simp only [List.length_cons, List.length_nil] at bd hsm ⊢
  by_cases h0 : nextV l a 15 = 0
  · rw [if_pos h0]
    refine Does.of_AW (n := 16) Tryz.func6 rfl rfl rfl fun cx hcx => ?_
    repeat' (first | (refine AW.sreg rfl fun K hK => ?_; simp only [go_sem, Nat.reduceAdd, Nat.reduceMul, Int.reduceToNat, Nat.reduceLT, Nat.reduceLeDiff, Nat.le_refl, Nat.reduceEqDiff, ↓reduceIte, beq_self_eq_true, bne_self_eq_false, Int.reduceBEq, Int.reduceBNe, Nat.sub_self, Nat.add_zero]) | (refine AW.sregD hmix rfl fun K hK => ?_; simp only [go_sem, Nat.reduceAdd, Nat.reduceMul, Int.reduceToNat, Nat.reduceLT, Nat.reduceLeDiff, Nat.le_refl, Nat.reduceEqDiff, ↓reduceIte, beq_self_eq_true, bne_self_eq_false, Int.reduceBEq, Int.reduceBNe, Nat.sub_self, Nat.add_zero]) | (refine AW.reg rfl ?_; simp only [go_sem, Nat.reduceAdd, Nat.reduceMul, Int.reduceToNat, Nat.reduceLT, Nat.reduceLeDiff, Nat.le_refl, Nat.reduceEqDiff, ↓reduceIte, beq_self_eq_true, bne_self_eq_false, Int.reduceBEq, Int.reduceBNe, Nat.sub_self, Nat.add_zero]) | (refine AW.regD hmix rfl ?_; simp only [go_sem, Nat.reduceAdd, Nat.reduceMul, Int.reduceToNat, Nat.reduceLT, Nat.reduceLeDiff, Nat.le_refl, Nat.reduceEqDiff, ↓reduceIte, beq_self_eq_true, bne_self_eq_false, Int.reduceBEq, Int.reduceBNe, Nat.sub_self, Nat.add_zero]) | (refine AW.seq_k fun K hK => ?_) | (refine AW.block ?_) | (refine AW.skip ?_; simp only [Then, InBlock]) | (refine AW.exit ?_; simp only [go_sem, ↓reduceIte]) | (refine AW.condT rfl (by first | rfl | (simp; omega) | (simp [*]; done) | fail) ?_) | (refine AW.condF rfl (by first | rfl | (simp; omega) | (simp [*]; done) | fail) ?_) | (refine AW.cond rfl (fun h => ?_) (fun h => ?_) <;> (try simp only [decide_eq_true_eq, decide_eq_false_iff_not, Bool.not_eq_true', Bool.not_eq_false', Bool.not_eq_eq_eq_not, Bool.not_true, Bool.not_false, beq_iff_eq, bne_iff_ne, beq_eq_false_iff_ne, ne_eq, Bool.and_eq_true, Bool.or_eq_true, Bool.or_eq_false_iff] at h)) | (refine hK _ ?_; clear hK K) | (clear hK K; refine hK _ ?_; clear hK K) | (clear hK K; clear hK K; refine hK _ ?_; clear hK K) | (clear hK K; clear hK K; clear hK K; refine hK _ ?_; clear hK K) | (refine stepB_split (fun h => ?_) (fun h => ?_) <;> (try simp only [decide_eq_true_eq, decide_eq_false_iff_not, Bool.not_eq_true', Bool.not_eq_false', Bool.not_eq_eq_eq_not, Bool.not_true, Bool.not_false, beq_iff_eq, bne_iff_ne, beq_eq_false_iff_ne, ne_eq, Bool.and_eq_true, Bool.or_eq_true, Bool.or_eq_false_iff] at h) <;> simp only [go_sem, Nat.reduceAdd, Nat.reduceMul, Int.reduceToNat, Nat.reduceLT, Nat.reduceLeDiff, Nat.le_refl, Nat.reduceEqDiff, ↓reduceIte, beq_self_eq_true, bne_self_eq_false, Int.reduceBEq, Int.reduceBNe, h, decide_true, decide_false, Nat.sub_self, Nat.add_zero]) | (refine stepBT_split (fun h => ?_) (fun h => ?_) <;> (try simp only [decide_eq_true_eq, decide_eq_false_iff_not, Bool.not_eq_true', Bool.not_eq_false', Bool.not_eq_eq_eq_not, Bool.not_true, Bool.not_false, beq_iff_eq, bne_iff_ne, beq_eq_false_iff_ne, ne_eq, Bool.and_eq_true, Bool.or_eq_true, Bool.or_eq_false_iff] at h) <;> simp only [go_sem, Nat.reduceAdd, Nat.reduceMul, Int.reduceToNat, Nat.reduceLT, Nat.reduceLeDiff, Nat.le_refl, Nat.reduceEqDiff, ↓reduceIte, beq_self_eq_true, bne_self_eq_false, Int.reduceBEq, Int.reduceBNe, h, decide_true, decide_false, Nat.sub_self, Nat.add_zero]) | (with_reducible refine And.intro (?_ : regOk _ _ = true) ?_; kernel_rfl) | (refine run_call _ _ _ ((h06topics_ok).pure rfl rfl _ _) rfl rfl (dstOk_of rfl) rfl rfl rfl ?_; simp only [go_sem, Nat.reduceAdd, Nat.reduceMul, Int.reduceToNat, Nat.reduceLT, Nat.reduceLeDiff, Nat.le_refl, Nat.reduceEqDiff, ↓reduceIte, beq_self_eq_true, bne_self_eq_false, Int.reduceBEq, Int.reduceBNe, Nat.sub_self, Nat.add_zero]) | (refine runT_call _ _ [] (fun hv _ => (h06topics_ok).pure rfl rfl hv _) rfl rfl (dstOk_of rfl) rfl rfl ?_; simp only [go_sem, Nat.reduceAdd, Nat.reduceMul, Int.reduceToNat, Nat.reduceLT, Nat.reduceLeDiff, Nat.le_refl, Nat.reduceEqDiff, ↓reduceIte, beq_self_eq_true, bne_self_eq_false, Int.reduceBEq, Int.reduceBNe, Nat.sub_self, Nat.add_zero]) | (refine run_call _ _ _ ((hsm).objs [0] ⟨rfl, trivial⟩ rfl (by decide) (by simp [go_sem, renOs]) (by simp) (by simp) (by simp [go_sem]) (by simp [go_sem]) (by simp [go_sem]) (by simp [go_sem])) rfl rfl (dstOk_of rfl) rfl rfl rfl ?_; simp only [go_sem, Nat.reduceAdd, Nat.reduceMul, Int.reduceToNat, Nat.reduceLT, Nat.reduceLeDiff, Nat.le_refl, Nat.reduceEqDiff, ↓reduceIte, beq_self_eq_true, bne_self_eq_false, Int.reduceBEq, Int.reduceBNe, Nat.sub_self, Nat.add_zero]) | (refine run_call _ _ _ ((flip_any l hl2 _ _ (by omega) (by omega) (by omega) (by omega)).objs [0] ⟨rfl, trivial⟩ rfl (by decide) (by simp [go_sem, renOs]) (by simp) (by simp) (by simp [go_sem]) (by simp [go_sem]) (by simp [go_sem]) (by simp [go_sem])) rfl rfl (dstOk_of rfl) rfl rfl rfl ?_; simp only [go_sem, Nat.reduceAdd, Nat.reduceMul, Int.reduceToNat, Nat.reduceLT, Nat.reduceLeDiff, Nat.le_refl, Nat.reduceEqDiff, ↓reduceIte, beq_self_eq_true, bne_self_eq_false, Int.reduceBEq, Int.reduceBNe, Nat.sub_self, Nat.add_zero]) | (refine run_call _ _ _ ((one_any l hl2 _ (by omega) (by omega) O3 (by simp) (by simp)).objs [0, _] ⟨rfl, rfl, trivial⟩ rfl (by decide) (by simp [go_sem, renOs]) (by simp) (by simp) (by simp [go_sem]) (by simp [go_sem]) (by simp [go_sem]) (by simp [go_sem])) rfl rfl (dstOk_of rfl) rfl rfl rfl ?_; simp only [go_sem, Nat.reduceAdd, Nat.reduceMul, Int.reduceToNat, Nat.reduceLT, Nat.reduceLeDiff, Nat.le_refl, Nat.reduceEqDiff, ↓reduceIte, beq_self_eq_true, bne_self_eq_false, Int.reduceBEq, Int.reduceBNe, Nat.sub_self, Nat.add_zero]) | (with_reducible refine And.intro ?_ ?_; first | omega | assumption | (focus (decide)) | (focus (simp; done)) | (focus (simp; omega)) | (focus (constructor <;> omega)) | fail) | (exfalso; omega))
    exact AW.ret (Fin.one rfl ((frz_slr rfl (by simp only [go_sem, dv_push]; rfl) (by simp)).trans (by simp [go_sem])) ⟨_, rfl, by simp [go_sem]⟩ rfl rfl rfl)
  · rw [if_neg h0]
    refine Does.of_AW (n := 16) Tryz.func6 rfl rfl rfl fun cx hcx => ?_
    repeat' (first | (refine AW.sreg rfl fun K hK => ?_; simp only [go_sem, Nat.reduceAdd, Nat.reduceMul, Int.reduceToNat, Nat.reduceLT, Nat.reduceLeDiff, Nat.le_refl, Nat.reduceEqDiff, ↓reduceIte, beq_self_eq_true, bne_self_eq_false, Int.reduceBEq, Int.reduceBNe, Nat.sub_self, Nat.add_zero]) | (refine AW.sregD hmix rfl fun K hK => ?_; simp only [go_sem, Nat.reduceAdd, Nat.reduceMul, Int.reduceToNat, Nat.reduceLT, Nat.reduceLeDiff, Nat.le_refl, Nat.reduceEqDiff, ↓reduceIte, beq_self_eq_true, bne_self_eq_false, Int.reduceBEq, Int.reduceBNe, Nat.sub_self, Nat.add_zero]) | (refine AW.reg rfl ?_; simp only [go_sem, Nat.reduceAdd, Nat.reduceMul, Int.reduceToNat, Nat.reduceLT, Nat.reduceLeDiff, Nat.le_refl, Nat.reduceEqDiff, ↓reduceIte, beq_self_eq_true, bne_self_eq_false, Int.reduceBEq, Int.reduceBNe, Nat.sub_self, Nat.add_zero]) | (refine AW.regD hmix rfl ?_; simp only [go_sem, Nat.reduceAdd, Nat.reduceMul, Int.reduceToNat, Nat.reduceLT, Nat.reduceLeDiff, Nat.le_refl, Nat.reduceEqDiff, ↓reduceIte, beq_self_eq_true, bne_self_eq_false, Int.reduceBEq, Int.reduceBNe, Nat.sub_self, Nat.add_zero]) | (refine AW.seq_k fun K hK => ?_) | (refine AW.block ?_) | (refine AW.skip ?_; simp only [Then, InBlock]) | (refine AW.exit ?_; simp only [go_sem, ↓reduceIte]) | (refine AW.condT rfl (by first | rfl | (simp; omega) | (simp [*]; done) | fail) ?_) | (refine AW.condF rfl (by first | rfl | (simp; omega) | (simp [*]; done) | fail) ?_) | (refine AW.cond rfl (fun h => ?_) (fun h => ?_) <;> (try simp only [decide_eq_true_eq, decide_eq_false_iff_not, Bool.not_eq_true', Bool.not_eq_false', Bool.not_eq_eq_eq_not, Bool.not_true, Bool.not_false, beq_iff_eq, bne_iff_ne, beq_eq_false_iff_ne, ne_eq, Bool.and_eq_true, Bool.or_eq_true, Bool.or_eq_false_iff] at h)) | (refine hK _ ?_; clear hK K) | (clear hK K; refine hK _ ?_; clear hK K) | (clear hK K; clear hK K; refine hK _ ?_; clear hK K) | (clear hK K; clear hK K; clear hK K; refine hK _ ?_; clear hK K) | (refine stepB_split (fun h => ?_) (fun h => ?_) <;> (try simp only [decide_eq_true_eq, decide_eq_false_iff_not, Bool.not_eq_true', Bool.not_eq_false', Bool.not_eq_eq_eq_not, Bool.not_true, Bool.not_false, beq_iff_eq, bne_iff_ne, beq_eq_false_iff_ne, ne_eq, Bool.and_eq_true, Bool.or_eq_true, Bool.or_eq_false_iff] at h) <;> simp only [go_sem, Nat.reduceAdd, Nat.reduceMul, Int.reduceToNat, Nat.reduceLT, Nat.reduceLeDiff, Nat.le_refl, Nat.reduceEqDiff, ↓reduceIte, beq_self_eq_true, bne_self_eq_false, Int.reduceBEq, Int.reduceBNe, h, decide_true, decide_false, Nat.sub_self, Nat.add_zero]) | (refine stepBT_split (fun h => ?_) (fun h => ?_) <;> (try simp only [decide_eq_true_eq, decide_eq_false_iff_not, Bool.not_eq_true', Bool.not_eq_false', Bool.not_eq_eq_eq_not, Bool.not_true, Bool.not_false, beq_iff_eq, bne_iff_ne, beq_eq_false_iff_ne, ne_eq, Bool.and_eq_true, Bool.or_eq_true, Bool.or_eq_false_iff] at h) <;> simp only [go_sem, Nat.reduceAdd, Nat.reduceMul, Int.reduceToNat, Nat.reduceLT, Nat.reduceLeDiff, Nat.le_refl, Nat.reduceEqDiff, ↓reduceIte, beq_self_eq_true, bne_self_eq_false, Int.reduceBEq, Int.reduceBNe, h, decide_true, decide_false, Nat.sub_self, Nat.add_zero]) | (with_reducible refine And.intro (?_ : regOk _ _ = true) ?_; kernel_rfl) | (refine run_call _ _ _ ((h06topics_ok).pure rfl rfl _ _) rfl rfl (dstOk_of rfl) rfl rfl rfl ?_; simp only [go_sem, Nat.reduceAdd, Nat.reduceMul, Int.reduceToNat, Nat.reduceLT, Nat.reduceLeDiff, Nat.le_refl, Nat.reduceEqDiff, ↓reduceIte, beq_self_eq_true, bne_self_eq_false, Int.reduceBEq, Int.reduceBNe, Nat.sub_self, Nat.add_zero]) | (refine runT_call _ _ [] (fun hv _ => (h06topics_ok).pure rfl rfl hv _) rfl rfl (dstOk_of rfl) rfl rfl ?_; simp only [go_sem, Nat.reduceAdd, Nat.reduceMul, Int.reduceToNat, Nat.reduceLT, Nat.reduceLeDiff, Nat.le_refl, Nat.reduceEqDiff, ↓reduceIte, beq_self_eq_true, bne_self_eq_false, Int.reduceBEq, Int.reduceBNe, Nat.sub_self, Nat.add_zero]) | (refine run_call _ _ _ ((hsm).objs [0] ⟨rfl, trivial⟩ rfl (by decide) (by simp [go_sem, renOs]) (by simp) (by simp) (by simp [go_sem]) (by simp [go_sem]) (by simp [go_sem]) (by simp [go_sem])) rfl rfl (dstOk_of rfl) rfl rfl rfl ?_; simp only [go_sem, Nat.reduceAdd, Nat.reduceMul, Int.reduceToNat, Nat.reduceLT, Nat.reduceLeDiff, Nat.le_refl, Nat.reduceEqDiff, ↓reduceIte, beq_self_eq_true, bne_self_eq_false, Int.reduceBEq, Int.reduceBNe, Nat.sub_self, Nat.add_zero]) | (refine run_call _ _ _ ((flip_any l hl2 _ _ (by omega) (by omega) (by omega) (by omega)).objs [0] ⟨rfl, trivial⟩ rfl (by decide) (by simp [go_sem, renOs]) (by simp) (by simp) (by simp [go_sem]) (by simp [go_sem]) (by simp [go_sem]) (by simp [go_sem])) rfl rfl (dstOk_of rfl) rfl rfl rfl ?_; simp only [go_sem, Nat.reduceAdd, Nat.reduceMul, Int.reduceToNat, Nat.reduceLT, Nat.reduceLeDiff, Nat.le_refl, Nat.reduceEqDiff, ↓reduceIte, beq_self_eq_true, bne_self_eq_false, Int.reduceBEq, Int.reduceBNe, Nat.sub_self, Nat.add_zero]) | (refine run_call _ _ _ ((one_any l hl2 _ (by omega) (by omega) O3 (by simp) (by simp)).objs [0, _] ⟨rfl, rfl, trivial⟩ rfl (by decide) (by simp [go_sem, renOs]) (by simp) (by simp) (by simp [go_sem]) (by simp [go_sem]) (by simp [go_sem]) (by simp [go_sem])) rfl rfl (dstOk_of rfl) rfl rfl rfl ?_; simp only [go_sem, Nat.reduceAdd, Nat.reduceMul, Int.reduceToNat, Nat.reduceLT, Nat.reduceLeDiff, Nat.le_refl, Nat.reduceEqDiff, ↓reduceIte, beq_self_eq_true, bne_self_eq_false, Int.reduceBEq, Int.reduceBNe, Nat.sub_self, Nat.add_zero]) | (with_reducible refine And.intro ?_ ?_; first | omega | assumption | (focus (decide)) | (focus (simp; done)) | (focus (simp; omega)) | (focus (constructor <;> omega)) | fail) | (exfalso; omega))
    exact AW.ret (Fin.one rfl ((frz_slr rfl rfl (by simp)).trans (by simp [go_sem])) ⟨_, rfl, by simp [go_sem]⟩ rfl rfl rfl)
theorem wnM_ok (l : List Int) (a : Int) : (wnM l a).1.length ≤ 7 ∧ ∀ x ∈ (wnM l a).1, x ∈ S8 := by
  have h := someF_bd l 2 T6 [] a
  have hr := nextV_range l ((someF l 2 T6 [] a).2 + 1) 3 (by omega)
  have hT : ∀ x ∈ (someF l 2 T6 [] a).1, x ∈ S8 := by
    intro x hx
    rcases h.2.2.2 x hx with h' | h'
    · cases h'
    · simp only [List.mem_cons, List.not_mem_nil, or_false] at h' ⊢
      rcases h' with h' | h' | h' | h' | h' | h' <;> simp [h']
  simp only [List.length_cons, List.length_nil] at h
  simp only [wnM]
  split
  · refine ⟨?_, fun x hx => ?_⟩
    · simp only [List.length_append, List.length_cons, List.length_nil]
      omega
    · rcases List.mem_append.1 hx with hx | hx
      · exact hT x hx
      · simp only [List.mem_singleton] at hx
        subst hx
        generalize nextV l ((someF l 2 T6 [] a).2 + 1) 3 = r at hr
        obtain rfl | rfl | rfl : r = 0 ∨ r = 1 ∨ r = 2 := by omega
        all_goals simp
  · exact ⟨by simp only; omega, hT⟩
theorem skF_bd (l : List Int) : ∀ (ts : List Str) (sk : List (Str × Int)) (a : Int), a ≤ (skF l ts sk a).2 ∧ (skF l ts sk a).2 ≤ a + 2 * ts.length ∧ ((∀ t ∈ ts, t ∈ S8) → (∀ x ∈ sk, x.1 ∈ S8) → (skF l ts sk a).1.length ≤ ts.length + sk.length ∧ ∀ x ∈ (skF l ts sk a).1, x.1 ∈ S8)
  | [], sk, a => ⟨by simp [skF], by simp [skF], fun _ h => ⟨by simp [skF], h⟩⟩
  | t :: ts, sk, a => by
    simp only [skF]
    split
    · have := skF_bd l ts (sk ++ [(t, W6.getD (nextV l (a + 1) 6).toNat 0)]) (a + 1 + 1)
      simp only [List.length_append, List.length_cons, List.length_nil] at this ⊢
      refine ⟨by omega, by omega, fun ht hs => ?_⟩
      have := this.2.2 (fun t h => ht t (by simp [h])) (fun x hx => by
        rcases List.mem_append.1 hx with hx | hx
        · exact hs x hx
        · simp only [List.mem_singleton] at hx; subst hx; exact ht t (by simp))
      exact ⟨by omega, this.2⟩
    · have := skF_bd l ts sk (a + 1)
      simp only [List.length_cons] at this ⊢
      refine ⟨by omega, by omega, fun ht hs => ?_⟩
      have := this.2.2 (fun t h => ht t (by simp [h])) hs
      exact ⟨by omega, this.2⟩
theorem skM_ok5 (l : List Int) (a : Int) : (skM l a).1.length ≤ 5 ∧ (∀ x ∈ (skM l a).1, x.1 ∈ S8) ∧ a ≤ (skM l a).2 ∧ (skM l a).2 ≤ a + 11 := by
  have h := skF_bd l T4 [] a
  have h2 := h.2.2 (by simp) (by simp)
  have hr := nextV_range l ((skF l T4 [] a).2 + 1) 3 (by omega)
  simp only [List.length_cons, List.length_nil] at h h2
  simp only [skM]
  split
  · refine ⟨?_, fun x hx => ?_, by simp only; omega, by simp only; omega⟩
    · simp only [List.length_append, List.length_cons, List.length_nil]
      omega
    · rcases List.mem_append.1 hx with hx | hx
      · exact h2.2 x hx
      · simp only [List.mem_singleton] at hx
        subst hx
        generalize nextV l ((skF l T4 [] a).2 + 1) 3 = r at hr
        obtain rfl | rfl | rfl : r = 0 ∨ r = 1 ∨ r = 2 := by omega
        all_goals simp
  · exact ⟨by simp only; omega, h2.2, by simp only; omega, by simp only; omega⟩
end Go.AX

namespace Go.AX
open Go Go.Proofs
/-! orders by a rank -/
def rank (s : Str) : Nat := ([([] : Str), sArt, sBread, sCake, sDark, sRolls, sRye, sZebra].idxOf? s).getD 9
theorem rank_lt : ∀ a ∈ S8, ∀ b ∈ S8, Op.bytesLess a b = decide (rank a < rank b) ∧ (a == b) = decide (rank a = rank b) := by decide
section
variable {α : Type} (rk : α → Nat) {lt : α → α → Bool}
theorem insP_srt : ∀ (pr : List α) (x : α) (q : List α), (∀ y ∈ pr, lt x y = decide (rk x < rk y)) → (∀ y ∈ pr, rk x ≠ rk y) → (pr.reverse ++ q).Pairwise (fun a b => rk a < rk b) → (∀ b ∈ q, rk x < rk b) → (insP lt pr x q).Pairwise (fun a b => rk a < rk b)
  | [], x, q, _, _, h, hq => by
    simp only [insP, List.pairwise_cons]
    exact ⟨hq, by simpa using h⟩
  | y :: pr, x, q, hlt, hne, h, hq => by
    simp only [insP]
    rw [hlt y (by simp)]
    rw [List.reverse_cons, List.append_assoc] at h
    split
    · rename_i hc
      have hc := of_decide_eq_true hc
      refine insP_srt pr x (y :: q) (fun z hz => hlt z (by simp [hz])) (fun z hz => hne z (by simp [hz])) h ?_
      intro b hb
      rcases List.mem_cons.1 hb with rfl | hb
      · exact hc
      · exact hq b hb
    · rename_i hc
      have hc : ¬ rk x < rk y := fun h' => hc (decide_eq_true h')
      have hne := hne y (by simp)
      have hyx : rk y < rk x := by omega
      rw [List.reverse_cons, List.append_assoc]
      rw [List.pairwise_append] at h ⊢
      obtain ⟨h1, h2, h3⟩ := h
      simp only [List.cons_append, List.nil_append, List.pairwise_cons] at h2 ⊢
      refine ⟨h1, ⟨?_, hq, h2.2⟩, ?_⟩
      · intro b hb
        rcases List.mem_cons.1 hb with rfl | hb
        · exact hyx
        · exact h2.1 b hb
      · intro a ha b hb
        have hay := h3 a ha y (by simp)
        rcases List.mem_cons.1 hb with rfl | hb
        · exact hay
        rcases List.mem_cons.1 hb with rfl | hb
        · omega
        · exact h3 a ha b (by simp [hb])
theorem isGo_srt : ∀ (r d : List α), (∀ x ∈ d ++ r, ∀ y ∈ d ++ r, lt x y = decide (rk x < rk y)) → d.Pairwise (fun a b => rk a < rk b) → (∀ a ∈ d, ∀ b ∈ r, rk a ≠ rk b) → r.Pairwise (fun a b => rk a ≠ rk b) → (isGo lt d r).Pairwise (fun a b => rk a < rk b)
  | [], d, _, h, _, _ => h
  | x :: r, d, hlt, h, hn, hr => by
    simp only [isGo]
    rw [List.pairwise_cons] at hr
    have hp := insP_perm lt d.reverse x []
    rw [List.reverse_reverse] at hp
    have hm : ∀ a, a ∈ insP lt d.reverse x [] ↔ a ∈ d ∨ a = x := by
      intro a
      rw [hp.mem_iff]
      simp
    refine isGo_srt r _ ?_ ?_ ?_ hr.2
    · intro a ha b hb
      have key : ∀ c, c ∈ insP lt d.reverse x [] ++ r → c ∈ d ++ x :: r := by
        intro c hc
        rcases List.mem_append.1 hc with hc | hc
        · rcases (hm c).1 hc with hc | rfl
          · simp [hc]
          · simp
        · simp [hc]
      exact hlt a (key a ha) b (key b hb)
    · refine insP_srt rk _ x [] (fun y hy => ?_) (fun y hy => ?_) (by simpa using h) (by simp)
      · exact hlt x (by simp) y (by simp at hy; simp [hy])
      · have := hn y (by simpa using hy) x (by simp)
        omega
    · intro a ha b hb
      rcases (hm a).1 ha with ha | rfl
      · exact hn a ha b (by simp [hb])
      · exact hr.1 b hb
theorem isort_srt (l : List α) (hlt : ∀ x ∈ l, ∀ y ∈ l, lt x y = decide (rk x < rk y)) (h : l.Pairwise (fun a b => rk a ≠ rk b)) : (isort lt l).Pairwise (fun a b => rk a < rk b) := by
  unfold isort
  refine isGo_srt rk _ _ ?_ ?_ ?_ ?_
  · rw [List.take_append_drop]; exact hlt
  · cases l <;> simp
  · cases l with
    | nil => simp
    | cons x l =>
      rw [List.pairwise_cons] at h
      intro a ha b hb
      simp at ha
      subst ha
      exact h.1 b (by simpa using hb)
  · cases l with
    | nil => simp
    | cons x l => rw [List.pairwise_cons] at h; simpa using h.2
end
/-! lists without fault -/
theorem wantM_iff {ft : List (Str × Str)} : ∀ (ws : List Str) (prev : Option Str), (∀ x ∈ ws, x ∈ S8) → (∀ p, prev = some p → p ∈ S8) →
    (wantM ft prev ws = 0 ↔ (∀ x ∈ ws, memS x ft = true) ∧ (∀ p, prev = some p → ∀ x ∈ ws, rank p < rank x) ∧ ws.Pairwise (fun a b => rank a < rank b))
  | [], prev, _, _ => by simp [wantM]
  | x :: r, prev, hs, hp => by
    have ih := wantM_iff (ft := ft) r (some x) (fun y hy => hs y (by simp [hy])) (fun p h => by cases h; exact hs x (by simp))
    simp only [wantM]
    by_cases hm : memS x ft = false
    · rw [if_pos hm]
      simp [hm]
    rw [if_neg hm]
    have hm : memS x ft = true := by simpa using hm
    cases prev with
    | none =>
      simp only [Bool.false_eq_true, if_false]
      rw [ih]
      simp [hm, List.pairwise_cons]
    | some p =>
      have hr := rank_lt x (hs x (by simp)) p (hp p rfl)
      simp only [hr.1, hr.2]
      by_cases hc : rank p < rank x
      · rw [if_neg (by simp; omega), ih]
        simp [hm, List.pairwise_cons]
        grind
      · rw [if_pos (by simp; omega)]
        simp
        grind
theorem faultM_iff {ft : List (Str × Str)} : ∀ (sk : List (Str × Int)) (prev : Option Str), (∀ x ∈ sk, x.1 ∈ S8) → (∀ p, prev = some p → p ∈ S8) →
    (faultM ft prev sk = 0 ↔ (∀ x ∈ sk, memS x.1 ft = true ∧ 1 ≤ x.2 ∧ x.2 ≤ 100) ∧ (∀ p, prev = some p → ∀ x ∈ sk, rank p < rank x.1) ∧ sk.Pairwise (fun a b => rank a.1 < rank b.1))
  | [], prev, _, _ => by simp [faultM]
  | x :: r, prev, hs, hp => by
    have ih := faultM_iff (ft := ft) r (some x.1) (fun y hy => hs y (by simp [hy])) (fun p h => by cases h; exact hs x (by simp))
    simp only [faultM]
    by_cases hm : memS x.1 ft = false
    · rw [if_pos hm]
      simp [hm]
    rw [if_neg hm]
    have hm : memS x.1 ft = true := by simpa using hm
    cases prev with
    | none =>
      simp only [Bool.false_eq_true, if_false]
      by_cases hw : x.2 < 1 ∨ 100 < x.2
      · rw [if_pos hw]
        simp
        grind
      rw [if_neg hw, ih]
      simp [hm, List.pairwise_cons]
      grind
    | some p =>
      have hr := rank_lt x.1 (hs x (by simp)) p (hp p rfl)
      simp only [hr.1, hr.2]
      by_cases hc : rank p < rank x.1
      · rw [if_neg (by simp; omega)]
        by_cases hw : x.2 < 1 ∨ 100 < x.2
        · rw [if_pos hw]
          simp
          grind
        rw [if_neg hw, ih]
        simp [hm, List.pairwise_cons]
        grind
      · rw [if_pos (by simp; omega)]
        simp
        grind
theorem aff_facts {ft : List (Str × Str)} {nr : Str → Str → Int × Int} (hF : FoK ft nr) {sk : List (Str × Int)} (hS : SkV ft sk) (ws : List Str) (hwl : ws.length ≤ 8) (hwq : ∀ x ∈ ws, ∃ q ∈ ft, q.1 = x) :
    (0 ≤ sumI (ws.map fun t => mxv (wv nr t) sk) ∧ sumI (ws.map fun t => mxv (wv nr t) sk) ≤ ws.length * 42000) ∧ (Lw (sumM nr sk ws (0, 1)) ∧ vl (sumM nr sk ws (0, 1)) ≤ 336000) ∧
    (1 ≤ (affM nr sk ws).2 ∧ (affM nr sk ws).2 ≤ 336000) ∧ (0 ≤ (affM nr sk ws).1 ∧ (affM nr sk ws).1 ≤ (affM nr sk ws).2) ∧
    (affM nr sk ws).1 * (42000 * ws.length) = sumI (ws.map fun t => mxv (wv nr t) sk) * (affM nr sk ws).2 ∧ (0 < ws.length → (sumM nr sk ws (0, 1)).1 * (affM nr sk ws).2 = (affM nr sk ws).1 * ws.length * (sumM nr sk ws (0, 1)).2) := by
  have hb : 0 ≤ sumI (ws.map fun t => mxv (wv nr t) sk) ∧ sumI (ws.map fun t => mxv (wv nr t) sk) ≤ ws.length * 42000 := sumI_bd fun t ht => by
    obtain ⟨q, hq, rfl⟩ := hwq t ht
    exact ⟨mxv_nonneg _ _, (best_lw hF hS hq).2.2⟩
  obtain ⟨h1, h2⟩ := sumM_lw hF hS ws (0, 1) hwq lw01
  have e0 : vl (0, 1) = 0 := by simp [vl]
  rw [e0, Int.zero_add] at h2
  generalize sumI (ws.map fun t => mxv (wv nr t) sk) = Sv at *
  refine ⟨hb, ⟨h1, by omega⟩, ?_⟩
  by_cases hz : ws.length = 0
  · have : affM nr sk ws = (0, 1) := if_pos hz
    have hS0 : Sv = 0 := by have hb' := hb; rw [hz] at hb'; simp at hb'; omega
    rw [this, hz, hS0]
    exact ⟨by simp, by simp, by simp, by simp⟩
  have e : affM nr sk ws = low (sumM nr sk ws (0, 1)).1 ((sumM nr sk ws (0, 1)).2 * ws.length) := if_neg hz
  rw [e]
  generalize sumM nr sk ws (0, 1) = s at *
  have bd := h1.bd (by omega)
  have m1 := mul_bd2 (a := s.2) (b := ws.length) (A := 42000) (B := 8) (by omega) (by omega)
  have m2 : 0 < s.2 * ws.length := Int.mul_pos (by omega) (by omega)
  have hl := low_facts s.1 (s.2 * ws.length) (by omega)
  have hb2 := low_bd s.1 (s.2 * ws.length) 1000000 (by omega) (by omega)
  have hm := vl_mul h1
  rw [h2] at hm
  have hd2 : (low s.1 (s.2 * ws.length)).2 ≤ s.2 * ws.length := by
    have := tdiv_fits (s.2 * ws.length) (Int.gcd s.1 (s.2 * ws.length)) (s.2 * ws.length) (gcd_pos _ _ (by omega)) (by omega)
    exact this.2
  generalize low s.1 (s.2 * ws.length) = a at *
  generalize hn : (ws.length : Int) = n at *
  have hn0 : 0 < n := by omega
  have e1 : a.1 * (42000 * n) = Sv * a.2 := by
    have : s.2 * (a.1 * (42000 * n)) = s.2 * (Sv * a.2) := by grind
    exact Int.eq_of_mul_eq_mul_left (by omega) this
  refine ⟨⟨hl.2.2, by omega⟩, ⟨hb2.1.1, ?_⟩, e1, fun _ => by grind⟩
  have h3 : Sv * a.2 ≤ (n * 42000) * a.2 := Int.mul_le_mul_of_nonneg_right hb.2 (by omega)
  have h4 : a.1 * (42000 * n) ≤ a.2 * (42000 * n) := by
    have : n * 42000 * a.2 = a.2 * (42000 * n) := by grind
    omega
  exact Int.le_of_mul_le_mul_right h4 (by omega)
theorem grows {a c : Int × Int} {n S1 S2 : Int} (hn : 0 ≤ n) (ha : 1 ≤ a.2) (hc : 1 ≤ c.2) (hc0 : 0 ≤ c.1) (h1 : a.1 * (42000 * n) = S1 * a.2) (h2 : c.1 * (42000 * (n + 1)) = S2 * c.2) (hb : S1 ≤ n * 42000) (h0 : 0 ≤ S1) (hg : S1 + 42000 ≤ S2) (hz : n = 0 → a.1 = 0) :
    a.1 * c.2 ≤ c.1 * a.2 := by
  by_cases hn0 : n = 0
  · rw [hz hn0, Int.zero_mul]
    exact Int.mul_nonneg hc0 (by omega)
  have hp : 0 < 42000 * (n * (n + 1)) := Int.mul_pos (by omega) (Int.mul_pos (by omega) (by omega))
  have e1 : (a.1 * c.2) * (42000 * (n * (n + 1))) = (S1 * (n + 1)) * (a.2 * c.2) := by grind
  have e2 : (c.1 * a.2) * (42000 * (n * (n + 1))) = (S2 * n) * (a.2 * c.2) := by grind
  have h3 : S1 * (n + 1) ≤ S2 * n := by
    have : (S1 + 42000) * n ≤ S2 * n := Int.mul_le_mul_of_nonneg_right hg hn
    have e3 : (S1 + 42000) * n = S1 * n + 42000 * n := by grind
    have e4 : S1 * (n + 1) = S1 * n + S1 := by grind
    omega
  have hp2 : 0 ≤ a.2 * c.2 := Int.mul_nonneg (by omega) (by omega)
  have := Int.mul_le_mul_of_nonneg_right h3 hp2
  exact Int.le_of_mul_le_mul_right (by omega) hp
end Go.AX

namespace Go.AX
open Go Go.Proofs
theorem mem_ft {ft : List (Str × Str)} {s : Str} (h : memS s ft = true) : ∃ q ∈ ft, q.1 = s := by
  simp only [memS, List.any_eq_true, beq_iff_eq] at h
  exact h
theorem ft_mem {ft : List (Str × Str)} {q : Str × Str} (h : q ∈ ft) : memS q.1 ft = true := by
  simp only [memS, List.any_eq_true, beq_iff_eq]
  exact ⟨q, h, rfl⟩
abbrev ltS (x y : Str × Int) : Bool := decide (cmp2 x y < 0)
abbrev k2M (sk : List (Str × Int)) (t : Str) : List (Str × Int) := isort ltS (sk ++ [(t, 100)])
abbrev w2M (ws : List Str) (t : Str) : List Str := isort Op.bytesLess (ws ++ [t])
theorem ltS_rank {x y : Str × Int} (hx : x.1 ∈ S8) (hy : y.1 ∈ S8) : ltS x y = decide (rank x.1 < rank y.1) := by
  have h := (rank_lt x.1 hx y.1 hy).1
  simp only [ltS, cmp2, h]
  by_cases hr : rank x.1 < rank y.1 <;> simp [hr]
theorem pw_snoc {α : Type} {R : α → α → Prop} {l : List α} {x : α} (h : l.Pairwise R) (hx : ∀ a ∈ l, R a x) : (l ++ [x]).Pairwise R := by
  rw [List.pairwise_append]
  exact ⟨h, by simp, fun a ha b hb => by simp at hb; subst hb; exact hx a ha⟩
theorem k2_ok {ft : List (Str × Str)} {sk : List (Str × Int)} (hs : ∀ x ∈ sk, x.1 ∈ S8) (h0 : faultM ft none sk = 0) {q : Str × Str} (hq : q ∈ ft) (hq8 : q.1 ∈ S8) (hk : sk.any (fun x => x.1 == q.1) = false) :
    (∀ x ∈ k2M sk q.1, x.1 ∈ S8) ∧ faultM ft none (k2M sk q.1) = 0 ∧ (k2M sk q.1).length = sk.length + 1 ∧ ∀ x, x ∈ k2M sk q.1 ↔ x ∈ sk ∨ x = (q.1, 100) := by
  have hp := isort_perm ltS (sk ++ [(q.1, 100)])
  have hm : ∀ x, x ∈ k2M sk q.1 ↔ x ∈ sk ∨ x = (q.1, 100) := fun x => by rw [hp.mem_iff]; simp
  have h8 : ∀ x ∈ sk ++ [(q.1, 100)], x.1 ∈ S8 := by
    intro x hx
    rcases List.mem_append.1 hx with hx | hx
    · exact hs x hx
    · simp only [List.mem_singleton] at hx; subst hx; exact hq8
  have h8' : ∀ x ∈ k2M sk q.1, x.1 ∈ S8 := fun x hx => h8 x (hp.mem_iff.1 hx)
  obtain ⟨f1, _, f3⟩ := (faultM_iff sk none hs (by simp)).1 h0
  have hne : ∀ a ∈ sk, rank a.1 ≠ rank q.1 := by
    intro a ha e
    have := (rank_lt a.1 (hs a ha) q.1 hq8).2
    simp only [List.any_eq_false, beq_iff_eq] at hk
    have h1 := hk a ha
    rw [decide_eq_true e] at this
    simp at this
    exact h1 this
  have hsrt := isort_srt (fun x : Str × Int => rank x.1) (lt := ltS) (sk ++ [(q.1, 100)]) (fun x hx y hy => ltS_rank (h8 x hx) (h8 y hy)) (pw_snoc (f3.imp fun h => Nat.ne_of_lt h) hne)
  refine ⟨h8', (faultM_iff _ none h8' (by simp)).2 ⟨fun x hx => ?_, by simp, hsrt⟩, by rw [hp.length_eq]; simp, hm⟩
  rcases (hm x).1 hx with hx | rfl
  · exact f1 x hx
  · exact ⟨ft_mem hq, by simp, by simp⟩
theorem w2_ok {ft : List (Str × Str)} {ws : List Str} (hs : ∀ x ∈ ws, x ∈ S8) (h0 : wantM ft none ws = 0) {q : Str × Str} (hq : q ∈ ft) (hq8 : q.1 ∈ S8) (hk : ws.any (fun x => q.1 == x) = false) :
    (∀ x ∈ w2M ws q.1, x ∈ S8) ∧ wantM ft none (w2M ws q.1) = 0 ∧ (w2M ws q.1).length = ws.length + 1 ∧ (w2M ws q.1).Perm (ws ++ [q.1]) ∧ ∀ x ∈ w2M ws q.1, ∃ p ∈ ft, p.1 = x := by
  have hp := isort_perm Op.bytesLess (ws ++ [q.1])
  have h8 : ∀ x ∈ ws ++ [q.1], x ∈ S8 := by
    intro x hx
    rcases List.mem_append.1 hx with hx | hx
    · exact hs x hx
    · simp only [List.mem_singleton] at hx; subst hx; exact hq8
  have h8' : ∀ x ∈ w2M ws q.1, x ∈ S8 := fun x hx => h8 x (hp.mem_iff.1 hx)
  obtain ⟨f1, _, f3⟩ := (wantM_iff ws none hs (by simp)).1 h0
  have hne : ∀ a ∈ ws, rank a ≠ rank q.1 := by
    intro a ha e
    have := (rank_lt a (hs a ha) q.1 hq8).2
    simp only [List.any_eq_false, beq_iff_eq] at hk
    have h1 := hk a ha
    rw [decide_eq_true e] at this
    simp at this
    exact h1 this.symm
  have hsrt := isort_srt rank (lt := Op.bytesLess) (ws ++ [q.1]) (fun x hx y hy => (rank_lt x (h8 x hx) y (h8 y hy)).1) (pw_snoc (f3.imp fun h => Nat.ne_of_lt h) hne)
  have hmem : ∀ x ∈ w2M ws q.1, memS x ft = true := by
    intro x hx
    rcases List.mem_append.1 (hp.mem_iff.1 hx) with hx | hx
    · exact f1 x hx
    · simp only [List.mem_singleton] at hx; subst hx; exact ft_mem hq
  exact ⟨h8', (wantM_iff _ none h8' (by simp)).2 ⟨hmem, by simp, hsrt⟩, by rw [hp.length_eq]; simp, hp, fun x hx => mem_ft (hmem x hx)⟩
theorem more_sum {ft : List (Str × Str)} {nr : Str → Str → Int × Int} (hF : FoK ft nr) {sk k2 : List (Str × Int)} {ws w2 : List Str} {q : Str × Str} (hq : q ∈ ft) (hm : ∀ x, x ∈ k2 ↔ x ∈ sk ∨ x = (q.1, 100)) (hp : w2.Perm (ws ++ [q.1])) :
    sumI (ws.map fun t => mxv (wv nr t) sk) + 42000 ≤ sumI (w2.map fun t => mxv (wv nr t) k2) := by
  have e1 : sumI (w2.map fun t => mxv (wv nr t) k2) = sumI ((ws ++ [q.1]).map fun t => mxv (wv nr t) k2) := sumI_perm (hp.map _)
  have e2 : sumI ((ws ++ [q.1]).map fun t => mxv (wv nr t) k2) = sumI (ws.map fun t => mxv (wv nr t) k2) + mxv (wv nr q.1) k2 := by
    rw [List.map_append]
    generalize (ws.map fun t => mxv (wv nr t) k2) = l
    induction l with
    | nil => simp [sumI]
    | cons x l ih => simp only [sumI, List.cons_append, List.foldr_cons] at ih ⊢; omega
  have e3 : sumI (ws.map fun t => mxv (wv nr t) sk) ≤ sumI (ws.map fun t => mxv (wv nr t) k2) := sumI_le fun t _ => mxv_sub fun x hx => (hm x).2 (.inl hx)
  have e4 : wv nr q.1 (q.1, 100) ≤ mxv (wv nr q.1) k2 := mxv_mem ((hm _).2 (.inr rfl))
  have e5 : wv nr q.1 (q.1, 100) = 42000 := by
    have hd := hF.div q hq q hq
    have hn := hF.near q hq q hq
    obtain ⟨_, _, b1, b2, b3, b4⟩ := hn
    obtain ⟨⟨c, hc⟩, hs⟩ := hd
    have hs := hs rfl
    have e : (420 : Int) / (nr q.1 q.1).2 = c := by rw [hc, Int.mul_ediv_cancel_left _ (by omega)]
    simp only [wv, e, hs, ← hc]
    omega
  omega
end Go.AX
