/- Lists of names: searching, what is not in another one, moves. -/
import Derived.Test.YtdhbglnckeadkaaGreatDoorPB
import Derived.Test.YtdhbglnckeadkaaGreatDoorKB
import Derived.Test.YtdhbglnckeadkaaGreatDoorAx35
set_option linter.unusedSimpArgs false
set_option linter.unusedVariables false
set_option linter.unnecessarySimpa false
set_option maxRecDepth 100000
set_option maxHeartbeats 4000000
namespace Go.AX
open Go Go.Proofs
def RiseS (xs : List Str) : Prop := xs.Pairwise (fun a b => ltS a b = true)
theorem riseS_at {xs : List Str} (h : RiseS xs) {i j : Nat} {x y : Str} (hi : xs[i]? = some x) (hj : xs[j]? = some y) (hij : i < j) : ltS x y = true := by
  unfold RiseS at h
  rw [List.pairwise_iff_getElem] at h
  have hil : i < xs.length := by
    rcases Nat.lt_or_ge i xs.length with h' | h'
    · exact h'
    · simp [List.getElem?_eq_none h'] at hi
  have hjl : j < xs.length := by
    rcases Nat.lt_or_ge j xs.length with h' | h'
    · exact h'
    · simp [List.getElem?_eq_none h'] at hj
  rw [List.getElem?_eq_getElem hil] at hi
  rw [List.getElem?_eq_getElem hjl] at hj
  cases hi
  cases hj
  exact h i j hil hjl hij
theorem less_str (x y : Str) : Does Tryz.prog 114 [S x, S y] [] (B (ltS x y)) [] := by
  have hl : ∀ a b, Op.bytesLess a b = ltS a b := fun _ _ => rfl
  refine Does.of_AW (n := 17) Tryz.func114 rfl rfl rfl fun cx hcx => ?_
  repeat' (first | (refine AW.sreg rfl fun K hK => ?_; simp only [go_sem, Nat.reduceAdd, Nat.reduceMul, Int.reduceToNat, Nat.reduceLT, Nat.reduceLeDiff, Nat.le_refl, Nat.reduceEqDiff, ↓reduceIte, beq_self_eq_true, bne_self_eq_false, Int.reduceBEq, Int.reduceBNe, or_self, true_or, or_true, Option.map_some, Option.map_none, hl]) | (refine hK _ ?_; clear hK K) | (refine run_call _ _ _ ((isNaN_str _).pure rfl rfl _ _) rfl rfl (dstOk_of rfl) rfl rfl rfl ?_; simp only [go_sem, Nat.reduceAdd, Nat.reduceMul, Int.reduceToNat, Nat.reduceLT, Nat.reduceLeDiff, Nat.le_refl, Nat.reduceEqDiff, ↓reduceIte, beq_self_eq_true, bne_self_eq_false, Int.reduceBEq, Int.reduceBNe, or_self, true_or, or_true, Option.map_some, Option.map_none, hl]) | (refine AW.ret (Fin.data rfl (by first | (simp only [go_sem]; done) | (simp [go_sem, *]; done) | (simp [go_sem]; omega) | rfl) rfl)))
theorem isNaN_sl (x : Str) : Does Tryz.prog 115 [S x] [] (B false) [] := by
  refine Does.of_AW (n := 6) Tryz.func115 rfl rfl rfl fun cx hcx => ?_
  repeat' (first | (refine AW.sreg rfl fun K hK => ?_; simp only [go_sem, Nat.reduceAdd, Nat.reduceMul, Int.reduceToNat, Nat.reduceLT, Nat.reduceLeDiff, Nat.le_refl, Nat.reduceEqDiff, ↓reduceIte, beq_self_eq_true, bne_self_eq_false, Int.reduceBEq, Int.reduceBNe, or_self, true_or, or_true, Option.map_some, Option.map_none]) | (refine hK _ ?_; clear hK K) | (refine AW.ret (Fin.data rfl (by first | (simp only [go_sem]; done) | (simp [go_sem, *]; done) | (simp [go_sem]; omega) | rfl) rfl)))
theorem bsearchS (xs : List Str) (hl : xs.length ≤ 1000) (hr : RiseS xs) (tg : Str) :
    ∃ i : Int, Does Tryz.prog 79 [.d (.sl (xs.map D.str)), S tg] [] (.tup [I i, B (decide (tg ∈ xs))]) [] := by
  obtain ⟨m, hm, hm1, hm2⟩ : ∃ m, m ≤ xs.length ∧ (∀ k y, xs[k]? = some y → k < m → ltS y tg = true) ∧ (∀ k y, xs[k]? = some y → m ≤ k → ltS y tg = false) := by
    have : ∀ (l : List Str), RiseS l → ∃ m, m ≤ l.length ∧ (∀ k y, l[k]? = some y → k < m → ltS y tg = true) ∧ (∀ k y, l[k]? = some y → m ≤ k → ltS y tg = false) := by
      intro l
      induction l with
      | nil => exact fun _ => ⟨0, by simp, by simp, by simp⟩
      | cons x l ih =>
        intro hl
        have hl := List.pairwise_cons.1 hl
        cases hx : ltS x tg with
        | false =>
          refine ⟨0, by simp, by simp, ?_⟩
          rintro (_ | k) y hy -
          · simp at hy; subst hy; exact hx
          · have hy : l[k]? = some y := by simpa using hy
            cases hyp : ltS y tg with
            | false => rfl
            | true => have := ltS_trans (hl.1 y (List.mem_of_getElem? hy)) hyp; rw [hx] at this; cases this
        | true =>
          obtain ⟨m, h1, h2, h3⟩ := ih hl.2
          refine ⟨m + 1, by simp; omega, ?_, ?_⟩
          · rintro (_ | k) y hy hk
            · simp at hy; subst hy; exact hx
            · exact h2 k y (by simpa using hy) (by omega)
          · rintro (_ | k) y hy hk
            · omega
            · exact h3 k y (by simpa using hy) (by omega)
    exact this xs hr
  have hmem : decide (tg ∈ xs) = (match xs[m]? with | some y => y == tg | none => false) := by
    cases hy : xs[m]? with
    | none =>
      simp only [decide_eq_false_iff_not]
      intro hp
      obtain ⟨k, hk⟩ := List.mem_iff_getElem?.1 hp
      have hkm : k < m := by
        rcases Nat.lt_or_ge k m with h | h
        · exact h
        · have := List.getElem?_eq_none_iff.1 hy
          simp [List.getElem?_eq_none (show xs.length ≤ k by omega)] at hk
      have := hm1 k tg hk hkm
      rw [ltS_irrefl] at this; cases this
    | some y =>
      simp only
      by_cases e : y = tg
      · subst e; simpa using List.mem_of_getElem? hy
      · have : ¬ tg ∈ xs := by
          intro hp
          obtain ⟨k, hk⟩ := List.mem_iff_getElem?.1 hp
          rcases Nat.lt_or_ge k m with h | h
          · have := hm1 k tg hk h
            rw [ltS_irrefl] at this; cases this
          · rcases Nat.lt_or_eq_of_le h with h | h
            · have h1 := riseS_at hr hy hk h
              rw [hm2 m y hy (Nat.le_refl _)] at h1; cases h1
            · subst h; rw [hy] at hk; cases hk; exact e rfl
        simp [this, e]
  refine ⟨m, ?_⟩
  rw [hmem]
  refine Does.of_AW (n := 54) Tryz.func79 rfl rfl rfl fun cx hcx => ?_
  repeat' (first | (refine AW.sreg rfl fun K hK => ?_; simp only [go_sem, Nat.reduceAdd, Nat.reduceMul, Int.reduceToNat, Nat.reduceLT, Nat.reduceLeDiff, Nat.le_refl, Nat.reduceEqDiff, ↓reduceIte, beq_self_eq_true, bne_self_eq_false, Int.reduceBEq, Int.reduceBNe, or_self, true_or, or_true, Option.map_some, Option.map_none, List.length_map]) | (refine AW.seq_k fun K hK => ?_) | (refine AW.block ?_) | (refine hK _ ?_; clear hK K))
  refine AW.loopF (ι := Nat × Nat) [0, 1, 6] (fun p => [(7, I p.1), (8, I p.2)]) (fun p => []) 1 (fun p => p.1 ≤ m ∧ m ≤ p.2 ∧ p.2 ≤ xs.length) (fun p => p.2 - p.1) (0, xs.length) ⟨by simp, hm, by simp⟩ (Weak.auto hcx rfl rfl (Nat.le_of_ble_eq_true rfl) (by simp [go_sem, gL, kL, renOf, V.obj, lk, Nat.blt, Nat.ble, List.map_append, dv_push]) (by simp [go_sem, gL, kL, renOf, V.obj, lk, Nat.blt, Nat.ble, List.map_append, dv_push]) (by first | (intro i hi; exact absurd hi (Nat.not_lt_zero _)) | (intro i0 hi0; match i0, hi0 with | 0, _ => exact ⟨_, rfl⟩ | n0+1, h0 => exact absurd h0 (Nat.not_lt.2 (Nat.le_add_left 1 n0))) | (intro i0 hi0; match i0, hi0 with | 0, _ => exact ⟨_, rfl⟩ | 1, _ => exact ⟨_, rfl⟩ | n0+2, h0 => exact absurd h0 (Nat.not_lt.2 (Nat.le_add_left 2 n0))) | (intro i0 hi0; match i0, hi0 with | 0, _ => exact ⟨_, rfl⟩ | 1, _ => exact ⟨_, rfl⟩ | 2, _ => exact ⟨_, rfl⟩ | n0+3, h0 => exact absurd h0 (Nat.not_lt.2 (Nat.le_add_left 3 n0))) | (intro i0 hi0; match i0, hi0 with | 0, _ => exact ⟨_, rfl⟩ | 1, _ => exact ⟨_, rfl⟩ | 2, _ => exact ⟨_, rfl⟩ | 3, _ => exact ⟨_, rfl⟩ | n0+4, h0 => exact absurd h0 (Nat.not_lt.2 (Nat.le_add_left 4 n0)))) (by simp [go_sem, gL, kL, lk, renOf, V.obj, Nat.blt, Nat.ble])) ?_; simp only [St.at_nil, St.at_cons, lk, Nat.reduceEqDiff, ↓reduceIte, Option.getD_some, Option.getD_none, List.cons_append, List.nil_append, List.append_nil]
  rintro ⟨i, j⟩ ⟨h1, h2, h3⟩
  simp only at h1 h2 h3 ⊢
  by_cases hij : i < j
  · have hh : (IntKind.u64.wrap ((i : Int) + (j : Int))).fdiv (2 ^ min 1 64) = ((i + j) / 2 : Nat) := by
      rw [show ((i : Int) + (j : Int)) = ((i + j : Nat) : Int) by omega, wrap_small' (i + j) (by omega), show (2 : Int) ^ min 1 64 = 2 from rfl, Int.fdiv_eq_ediv_of_nonneg _ (by omega)]
      omega
    have hlt : (i + j) / 2 < xs.length := by omega
    generalize hgh : (i + j) / 2 = h at hh hlt
    obtain ⟨y, hy, -, -⟩ := get_some hlt
    have hget : (xs.map D.str)[h]? = some (.str y) := by simp [hy]
    cases hb : ltS y tg with
    | true =>
      have : h < m := by
        rcases Nat.lt_or_ge h m with h' | h'
        · exact h'
        · rw [hm2 h y hy h'] at hb; cases hb
      repeat' (first | (refine AW.sreg rfl fun K hK => ?_; simp only [go_sem, Nat.reduceAdd, Nat.reduceMul, Int.reduceToNat, Nat.reduceLT, Nat.reduceLeDiff, Nat.le_refl, Nat.reduceEqDiff, ↓reduceIte, beq_self_eq_true, bne_self_eq_false, Int.reduceBEq, Int.reduceBNe, or_self, true_or, or_true, Option.map_some, Option.map_none, List.length_map, hh, hget, hb]) | (refine AW.reg rfl ?_; simp only [go_sem, Nat.reduceAdd, Nat.reduceMul, Int.reduceToNat, Nat.reduceLT, Nat.reduceLeDiff, Nat.le_refl, Nat.reduceEqDiff, ↓reduceIte, beq_self_eq_true, bne_self_eq_false, Int.reduceBEq, Int.reduceBNe, or_self, true_or, or_true, Option.map_some, Option.map_none, List.length_map, hh, hget, hb]) | (refine AW.seq_k fun K hK => ?_) | (refine AW.block ?_) | (refine AW.skip ?_; simp only [Then, InBlock]) | (refine AW.condT rfl (by first | rfl | (simp; omega) | (simp [*]; done) | fail) ?_) | (refine hK _ ?_; clear hK K) | (refine run_call _ _ _ ((less_str y tg).pure rfl rfl _ _) rfl rfl (dstOk_of rfl) rfl rfl rfl ?_; simp only [go_sem, Nat.reduceAdd, Nat.reduceMul, Int.reduceToNat, Nat.reduceLT, Nat.reduceLeDiff, Nat.le_refl, Nat.reduceEqDiff, ↓reduceIte, beq_self_eq_true, bne_self_eq_false, Int.reduceBEq, Int.reduceBNe, or_self, true_or, or_true, Option.map_some, Option.map_none, List.length_map, hh, hget, hb]) | (with_reducible refine And.intro ?_ ?_; first | omega | assumption | (focus (decide)) | (focus (simp; done)) | (focus (simp; omega)) | (focus (constructor <;> omega)) | fail))
      exact ⟨(h + 1, j), ⟨by simp only; omega, h2, h3⟩, by simp only; omega, (Weak.auto hcx rfl rfl (Nat.le_of_ble_eq_true rfl) (by simp [go_sem, gL, kL, renOf, V.obj, lk, Nat.blt, Nat.ble, List.map_append, dv_push]) (by simp [go_sem, gL, kL, renOf, V.obj, lk, Nat.blt, Nat.ble, List.map_append, dv_push]) (by first | (intro i hi; exact absurd hi (Nat.not_lt_zero _)) | (intro i0 hi0; match i0, hi0 with | 0, _ => exact ⟨_, rfl⟩ | n0+1, h0 => exact absurd h0 (Nat.not_lt.2 (Nat.le_add_left 1 n0))) | (intro i0 hi0; match i0, hi0 with | 0, _ => exact ⟨_, rfl⟩ | 1, _ => exact ⟨_, rfl⟩ | n0+2, h0 => exact absurd h0 (Nat.not_lt.2 (Nat.le_add_left 2 n0))) | (intro i0 hi0; match i0, hi0 with | 0, _ => exact ⟨_, rfl⟩ | 1, _ => exact ⟨_, rfl⟩ | 2, _ => exact ⟨_, rfl⟩ | n0+3, h0 => exact absurd h0 (Nat.not_lt.2 (Nat.le_add_left 3 n0))) | (intro i0 hi0; match i0, hi0 with | 0, _ => exact ⟨_, rfl⟩ | 1, _ => exact ⟨_, rfl⟩ | 2, _ => exact ⟨_, rfl⟩ | 3, _ => exact ⟨_, rfl⟩ | n0+4, h0 => exact absurd h0 (Nat.not_lt.2 (Nat.le_add_left 4 n0)))) (by simp [go_sem, gL, kL, lk, renOf, V.obj, Nat.blt, Nat.ble]))⟩
    | false =>
      have : m ≤ h := by
        rcases Nat.lt_or_ge h m with h' | h'
        · rw [hm1 h y hy h'] at hb; cases hb
        · exact h'
      repeat' (first | (refine AW.sreg rfl fun K hK => ?_; simp only [go_sem, Nat.reduceAdd, Nat.reduceMul, Int.reduceToNat, Nat.reduceLT, Nat.reduceLeDiff, Nat.le_refl, Nat.reduceEqDiff, ↓reduceIte, beq_self_eq_true, bne_self_eq_false, Int.reduceBEq, Int.reduceBNe, or_self, true_or, or_true, Option.map_some, Option.map_none, List.length_map, hh, hget, hb]) | (refine AW.reg rfl ?_; simp only [go_sem, Nat.reduceAdd, Nat.reduceMul, Int.reduceToNat, Nat.reduceLT, Nat.reduceLeDiff, Nat.le_refl, Nat.reduceEqDiff, ↓reduceIte, beq_self_eq_true, bne_self_eq_false, Int.reduceBEq, Int.reduceBNe, or_self, true_or, or_true, Option.map_some, Option.map_none, List.length_map, hh, hget, hb]) | (refine AW.seq_k fun K hK => ?_) | (refine AW.block ?_) | (refine AW.skip ?_; simp only [Then, InBlock]) | (refine AW.condT rfl (by first | rfl | (simp; omega) | (simp [*]; done) | fail) ?_) | (refine AW.condF rfl (by first | rfl | (simp; omega) | (simp [*]; done) | fail) ?_) | (refine hK _ ?_; clear hK K) | (refine run_call _ _ _ ((less_str y tg).pure rfl rfl _ _) rfl rfl (dstOk_of rfl) rfl rfl rfl ?_; simp only [go_sem, Nat.reduceAdd, Nat.reduceMul, Int.reduceToNat, Nat.reduceLT, Nat.reduceLeDiff, Nat.le_refl, Nat.reduceEqDiff, ↓reduceIte, beq_self_eq_true, bne_self_eq_false, Int.reduceBEq, Int.reduceBNe, or_self, true_or, or_true, Option.map_some, Option.map_none, List.length_map, hh, hget, hb]) | (with_reducible refine And.intro ?_ ?_; first | omega | assumption | (focus (decide)) | (focus (simp; done)) | (focus (simp; omega)) | (focus (constructor <;> omega)) | fail))
      exact ⟨(i, h), ⟨h1, this, by simp only; omega⟩, by simp only; omega, (Weak.auto hcx rfl rfl (Nat.le_of_ble_eq_true rfl) (by simp [go_sem, gL, kL, renOf, V.obj, lk, Nat.blt, Nat.ble, List.map_append, dv_push]) (by simp [go_sem, gL, kL, renOf, V.obj, lk, Nat.blt, Nat.ble, List.map_append, dv_push]) (by first | (intro i hi; exact absurd hi (Nat.not_lt_zero _)) | (intro i0 hi0; match i0, hi0 with | 0, _ => exact ⟨_, rfl⟩ | n0+1, h0 => exact absurd h0 (Nat.not_lt.2 (Nat.le_add_left 1 n0))) | (intro i0 hi0; match i0, hi0 with | 0, _ => exact ⟨_, rfl⟩ | 1, _ => exact ⟨_, rfl⟩ | n0+2, h0 => exact absurd h0 (Nat.not_lt.2 (Nat.le_add_left 2 n0))) | (intro i0 hi0; match i0, hi0 with | 0, _ => exact ⟨_, rfl⟩ | 1, _ => exact ⟨_, rfl⟩ | 2, _ => exact ⟨_, rfl⟩ | n0+3, h0 => exact absurd h0 (Nat.not_lt.2 (Nat.le_add_left 3 n0))) | (intro i0 hi0; match i0, hi0 with | 0, _ => exact ⟨_, rfl⟩ | 1, _ => exact ⟨_, rfl⟩ | 2, _ => exact ⟨_, rfl⟩ | 3, _ => exact ⟨_, rfl⟩ | n0+4, h0 => exact absurd h0 (Nat.not_lt.2 (Nat.le_add_left 4 n0)))) (by simp [go_sem, gL, kL, lk, renOf, V.obj, Nat.blt, Nat.ble]))⟩
  · obtain rfl : i = j := by omega
    obtain rfl : i = m := by omega
    cases hy : xs[i]? with
    | none =>
      have : xs.length ≤ i := List.getElem?_eq_none_iff.1 hy
      repeat' (first | (refine AW.sreg rfl fun K hK => ?_; simp only [go_sem, Nat.reduceAdd, Nat.reduceMul, Int.reduceToNat, Nat.reduceLT, Nat.reduceLeDiff, Nat.le_refl, Nat.reduceEqDiff, ↓reduceIte, beq_self_eq_true, bne_self_eq_false, Int.reduceBEq, Int.reduceBNe, or_self, true_or, or_true, Option.map_some, Option.map_none, List.length_map]) | (refine AW.seq_k fun K hK => ?_) | (refine AW.exit ?_; simp only [go_sem, ↓reduceIte]) | (refine AW.condF rfl (by first | rfl | (simp; omega) | (simp [*]; done) | fail) ?_) | (refine hK _ ?_; clear hK K) | (clear hK K; refine hK _ ?_; clear hK K) | (refine stepB_split (fun h => ?_) (fun h => ?_) <;> (have hb0 := h) <;> (try simp only [Bool.not_eq_true', Bool.not_eq_false'] at hb0) <;> (try simp only [decide_eq_true_eq, decide_eq_false_iff_not, Bool.not_eq_true', Bool.not_eq_false', Bool.not_eq_eq_eq_not, Bool.not_true, Bool.not_false, beq_iff_eq, bne_iff_ne, beq_eq_false_iff_ne, ne_eq, Bool.and_eq_true, Bool.or_eq_true, Bool.or_eq_false_iff] at h) <;> simp only [go_sem, Nat.reduceAdd, Nat.reduceMul, Int.reduceToNat, Nat.reduceLT, Nat.reduceLeDiff, Nat.le_refl, Nat.reduceEqDiff, ↓reduceIte, beq_self_eq_true, bne_self_eq_false, Int.reduceBEq, Int.reduceBNe, or_self, true_or, or_true, Option.map_some, Option.map_none, hb0, h, decide_true, decide_false, List.length_map] <;> (try clear hb0)) | (refine AW.ret (Fin.data rfl (by first | (simp only [go_sem]; done) | (simp [go_sem, *]; done) | (simp [go_sem]; omega) | rfl) rfl)) | (exfalso; omega))
    | some y =>
      have hil : i < xs.length := by
        rcases Nat.lt_or_ge i xs.length with h | h
        · exact h
        · simp [List.getElem?_eq_none h] at hy
      have hget : (xs.map D.str)[i]? = some (.str y) := by simp [hy]
      repeat' (first | (refine AW.sreg rfl fun K hK => ?_; simp only [go_sem, Nat.reduceAdd, Nat.reduceMul, Int.reduceToNat, Nat.reduceLT, Nat.reduceLeDiff, Nat.le_refl, Nat.reduceEqDiff, ↓reduceIte, beq_self_eq_true, bne_self_eq_false, Int.reduceBEq, Int.reduceBNe, or_self, true_or, or_true, Option.map_some, Option.map_none, List.length_map, hget, Bool.or_false]) | (refine AW.seq_k fun K hK => ?_) | (refine AW.exit ?_; simp only [go_sem, ↓reduceIte]) | (refine AW.condF rfl (by first | rfl | (simp; omega) | (simp [*]; done) | fail) ?_) | (refine hK _ ?_; clear hK K) | (clear hK K; refine hK _ ?_; clear hK K) | (refine stepB_split (fun h => ?_) (fun h => ?_) <;> (have hb0 := h) <;> (try simp only [Bool.not_eq_true', Bool.not_eq_false'] at hb0) <;> (try simp only [decide_eq_true_eq, decide_eq_false_iff_not, Bool.not_eq_true', Bool.not_eq_false', Bool.not_eq_eq_eq_not, Bool.not_true, Bool.not_false, beq_iff_eq, bne_iff_ne, beq_eq_false_iff_ne, ne_eq, Bool.and_eq_true, Bool.or_eq_true, Bool.or_eq_false_iff] at h) <;> simp only [go_sem, Nat.reduceAdd, Nat.reduceMul, Int.reduceToNat, Nat.reduceLT, Nat.reduceLeDiff, Nat.le_refl, Nat.reduceEqDiff, ↓reduceIte, beq_self_eq_true, bne_self_eq_false, Int.reduceBEq, Int.reduceBNe, or_self, true_or, or_true, Option.map_some, Option.map_none, hb0, h, decide_true, decide_false, List.length_map, hget, Bool.or_false] <;> (try clear hb0)) | (refine run_call _ _ _ ((isNaN_sl _).pure rfl rfl _ _) rfl rfl (dstOk_of rfl) rfl rfl rfl ?_; simp only [go_sem, Nat.reduceAdd, Nat.reduceMul, Int.reduceToNat, Nat.reduceLT, Nat.reduceLeDiff, Nat.le_refl, Nat.reduceEqDiff, ↓reduceIte, beq_self_eq_true, bne_self_eq_false, Int.reduceBEq, Int.reduceBNe, or_self, true_or, or_true, Option.map_some, Option.map_none, List.length_map, hget, Bool.or_false]) | (with_reducible refine And.intro ?_ ?_; first | omega | assumption | (focus (decide)) | (focus (simp; done)) | (focus (simp; omega)) | (focus (constructor <;> omega)) | fail) | (exfalso; omega))
      all_goals exact AW.ret (Fin.data rfl (by simp only [hy]; clear hmem hy hget hil; simp [go_sem, *]) rfl)
theorem indexFunc_St (xs : List Str) (hl : xs.length ≤ 1000) (c : Nat) (cap : D) (q : Str → Bool) (hc : ∀ x ∈ xs, Does Tryz.prog c [.d (D.str x), .d cap] [] (B (q x)) []) :
    Does Tryz.prog 55 [.d (.sl (xs.map D.str)), .fn c [.d cap]] [] (I (idxG q xs 0)) [] := by
  refine Does.of_AW (n := 19) Tryz.func55 rfl rfl rfl fun cx hcx => ?_
  generalize hR : idxG q xs 0 = R
  repeat' (first | (refine AW.sreg rfl fun K hK => ?_; simp only [go_sem, Nat.reduceAdd, Nat.reduceMul, Int.reduceToNat, Nat.reduceLT, Nat.reduceLeDiff, Nat.le_refl, Nat.reduceEqDiff, ↓reduceIte, beq_self_eq_true, bne_self_eq_false, Int.reduceBEq, Int.reduceBNe, or_self, true_or, or_true, Option.map_some, Option.map_none, List.length_map]) | (refine AW.seq_k fun K hK => ?_) | (refine AW.block ?_) | (refine hK _ ?_; clear hK K))
  refine AW.loopF (ι := Nat) [0, 1, 7] (fun p => [(8, I p)]) (fun p => []) 1 (fun p => p ≤ xs.length ∧ idxG q (xs.drop p) p = R) (fun p => xs.length - p) 0 ⟨by simp, hR⟩ (Weak.auto hcx rfl rfl (Nat.le_of_ble_eq_true rfl) (by simp [go_sem, gL, kL, renOf, V.obj, lk, Nat.blt, Nat.ble, List.map_append, dv_push]) (by simp [go_sem, gL, kL, renOf, V.obj, lk, Nat.blt, Nat.ble, List.map_append, dv_push]) (by first | (intro i hi; exact absurd hi (Nat.not_lt_zero _)) | (intro i0 hi0; match i0, hi0 with | 0, _ => exact ⟨_, rfl⟩ | n0+1, h0 => exact absurd h0 (Nat.not_lt.2 (Nat.le_add_left 1 n0))) | (intro i0 hi0; match i0, hi0 with | 0, _ => exact ⟨_, rfl⟩ | 1, _ => exact ⟨_, rfl⟩ | n0+2, h0 => exact absurd h0 (Nat.not_lt.2 (Nat.le_add_left 2 n0))) | (intro i0 hi0; match i0, hi0 with | 0, _ => exact ⟨_, rfl⟩ | 1, _ => exact ⟨_, rfl⟩ | 2, _ => exact ⟨_, rfl⟩ | n0+3, h0 => exact absurd h0 (Nat.not_lt.2 (Nat.le_add_left 3 n0))) | (intro i0 hi0; match i0, hi0 with | 0, _ => exact ⟨_, rfl⟩ | 1, _ => exact ⟨_, rfl⟩ | 2, _ => exact ⟨_, rfl⟩ | 3, _ => exact ⟨_, rfl⟩ | n0+4, h0 => exact absurd h0 (Nat.not_lt.2 (Nat.le_add_left 4 n0)))) (by simp [go_sem, gL, kL, lk, renOf, V.obj, Nat.blt, Nat.ble])) ?_; simp only [St.at_nil, St.at_cons, lk, Nat.reduceEqDiff, ↓reduceIte, Option.getD_some, Option.getD_none, List.cons_append, List.nil_append, List.append_nil]
  rintro i ⟨h1, h2⟩
  by_cases hi : i < xs.length
  · obtain ⟨x, hx, hxm, hxd⟩ := get_some hi
    have hget : (xs.map D.str)[i]? = some (D.str x) := by simp [hx]
    rw [hxd, idxG] at h2
    repeat' (first | (refine AW.sreg rfl fun K hK => ?_; simp only [go_sem, Nat.reduceAdd, Nat.reduceMul, Int.reduceToNat, Nat.reduceLT, Nat.reduceLeDiff, Nat.le_refl, Nat.reduceEqDiff, ↓reduceIte, beq_self_eq_true, bne_self_eq_false, Int.reduceBEq, Int.reduceBNe, or_self, true_or, or_true, Option.map_some, Option.map_none, List.length_map, hget]) | (refine AW.reg rfl ?_; simp only [go_sem, Nat.reduceAdd, Nat.reduceMul, Int.reduceToNat, Nat.reduceLT, Nat.reduceLeDiff, Nat.le_refl, Nat.reduceEqDiff, ↓reduceIte, beq_self_eq_true, bne_self_eq_false, Int.reduceBEq, Int.reduceBNe, or_self, true_or, or_true, Option.map_some, Option.map_none, List.length_map, hget]) | (refine AW.seq_k fun K hK => ?_) | (refine AW.block ?_) | (refine AW.skip ?_; simp only [Then, InBlock]) | (refine AW.condT rfl (by first | rfl | (simp; omega) | (simp [*]; done) | fail) ?_) | (refine AW.cond rfl (fun h => ?_) (fun h => ?_) <;> (try simp only [decide_eq_true_eq, decide_eq_false_iff_not, Bool.not_eq_true', Bool.not_eq_false', Bool.not_eq_eq_eq_not, Bool.not_true, Bool.not_false, beq_iff_eq, bne_iff_ne, beq_eq_false_iff_ne, ne_eq, Bool.and_eq_true, Bool.or_eq_true, Bool.or_eq_false_iff] at h)) | (refine hK _ ?_; clear hK K) | (refine run_call _ _ _ ((hc x hxm).pure rfl rfl _ _) rfl rfl (dstOk_of rfl) rfl rfl rfl ?_; simp only [go_sem, Nat.reduceAdd, Nat.reduceMul, Int.reduceToNat, Nat.reduceLT, Nat.reduceLeDiff, Nat.le_refl, Nat.reduceEqDiff, ↓reduceIte, beq_self_eq_true, bne_self_eq_false, Int.reduceBEq, Int.reduceBNe, or_self, true_or, or_true, Option.map_some, Option.map_none, List.length_map, hget]) | (with_reducible refine And.intro ?_ ?_; first | omega | assumption | (focus (decide)) | (focus (simp; done)) | (focus (simp; omega)) | (focus (constructor <;> omega)) | fail) | (refine AW.ret (Fin.data rfl (by first | (simp only [go_sem]; done) | ((rw [if_pos h] at h2; subst h2; simp [go_sem]); done) | (simp [go_sem]; omega) | rfl) rfl)))
    rw [if_neg (by simp [h])] at h2
    exact ⟨i + 1, ⟨hi, h2⟩, by omega, (Weak.auto hcx rfl rfl (Nat.le_of_ble_eq_true rfl) (by simp [go_sem, gL, kL, renOf, V.obj, lk, Nat.blt, Nat.ble, List.map_append, dv_push]) (by simp [go_sem, gL, kL, renOf, V.obj, lk, Nat.blt, Nat.ble, List.map_append, dv_push]) (by first | (intro i hi; exact absurd hi (Nat.not_lt_zero _)) | (intro i0 hi0; match i0, hi0 with | 0, _ => exact ⟨_, rfl⟩ | n0+1, h0 => exact absurd h0 (Nat.not_lt.2 (Nat.le_add_left 1 n0))) | (intro i0 hi0; match i0, hi0 with | 0, _ => exact ⟨_, rfl⟩ | 1, _ => exact ⟨_, rfl⟩ | n0+2, h0 => exact absurd h0 (Nat.not_lt.2 (Nat.le_add_left 2 n0))) | (intro i0 hi0; match i0, hi0 with | 0, _ => exact ⟨_, rfl⟩ | 1, _ => exact ⟨_, rfl⟩ | 2, _ => exact ⟨_, rfl⟩ | n0+3, h0 => exact absurd h0 (Nat.not_lt.2 (Nat.le_add_left 3 n0))) | (intro i0 hi0; match i0, hi0 with | 0, _ => exact ⟨_, rfl⟩ | 1, _ => exact ⟨_, rfl⟩ | 2, _ => exact ⟨_, rfl⟩ | 3, _ => exact ⟨_, rfl⟩ | n0+4, h0 => exact absurd h0 (Nat.not_lt.2 (Nat.le_add_left 4 n0)))) (by simp [go_sem, gL, kL, lk, renOf, V.obj, Nat.blt, Nat.ble]))⟩
  · obtain rfl : i = xs.length := by omega
    simp only [List.drop_length, idxG] at h2
    subst h2
    repeat' (first | (refine AW.sreg rfl fun K hK => ?_; simp only [go_sem, Nat.reduceAdd, Nat.reduceMul, Int.reduceToNat, Nat.reduceLT, Nat.reduceLeDiff, Nat.le_refl, Nat.reduceEqDiff, ↓reduceIte, beq_self_eq_true, bne_self_eq_false, Int.reduceBEq, Int.reduceBNe, or_self, true_or, or_true, Option.map_some, Option.map_none, List.length_map]) | (refine AW.seq_k fun K hK => ?_) | (refine AW.exit ?_; simp only [go_sem, ↓reduceIte]) | (refine AW.condF rfl (by first | rfl | (simp; omega) | (simp [*]; done) | fail) ?_) | (refine hK _ ?_; clear hK K) | (clear hK K; refine hK _ ?_; clear hK K) | (refine AW.ret (Fin.data rfl (by first | (simp only [go_sem]; done) | (simp [go_sem, *]; done) | (simp [go_sem]; omega) | rfl) rfl)))
theorem all_okS (xs : List Str) : (dv (xs.map D.str)).all (elemOk 1) = true := by
  simp only [dv, List.map_map, List.all_eq_true, List.mem_map, Function.comp_apply, forall_exists_index, and_imp, forall_apply_eq_imp_iff₂]
  intro x _
  rfl
theorem clone_St (xs : List Str) (hl : xs.length ≤ 1000) : Does Tryz.prog 7 [.d (.sl (xs.map D.str))] [] (.slr 0 0 xs.length) [.vec 9 1 (dv (xs.map D.str))] := by
  refine Does.of_AW (n := 8) Tryz.func7 rfl rfl rfl fun cx hcx => ?_
  refine AW.sreg rfl fun K hK => ?_; simp only [go_sem, Nat.reduceAdd, Nat.reduceMul, Int.reduceToNat, Nat.reduceLT, Nat.reduceLeDiff, Nat.le_refl, Nat.reduceEqDiff, ↓reduceIte, beq_self_eq_true, bne_self_eq_false, Int.reduceBEq, Int.reduceBNe, or_self, true_or, or_true, Option.map_some, Option.map_none]
  refine hK _ ?_; (try clear hK K)
  refine AW.seq_k fun K1 hK1 => ?_
  refine AW.seq_k fun K2 hK2 => ?_
  refine AW.nilCmp rfl rfl rfl rfl rfl rfl (by simp only [go_sem]; rfl) (by simp) (by simp) rfl (fun b hb => ?_)
  refine hK2 _ ?_
  refine AW.cond rfl (fun h => ?_) (fun h => ?_)
  · have h0 : xs = [] := by simpa using hb h
    subst h0
    repeat' (first | (refine AW.sreg rfl fun K hK => ?_; simp only [go_sem, Nat.reduceAdd, Nat.reduceMul, Int.reduceToNat, Nat.reduceLT, Nat.reduceLeDiff, Nat.le_refl, Nat.reduceEqDiff, ↓reduceIte, beq_self_eq_true, bne_self_eq_false, Int.reduceBEq, Int.reduceBNe, or_self, true_or, or_true, Option.map_some, Option.map_none, List.length_map]) | (refine hK _ ?_; clear hK K))
    refine AW.weak (Weak.nil 2 9 1 rfl) ?_
    exact AW.ret (Fin.objs [256] rfl (by simp [go_sem, inI, gI]) ⟨⟨_, rfl, by simp [go_sem, inI, gI]⟩, trivial⟩ (by simp) rfl (by simp [go_sem]) (by simp [go_sem]) rfl)
  · refine AW.skip (hK1 _ ?_)
    repeat' (first | (refine AW.sreg rfl fun K hK => ?_; simp only [go_sem, Nat.reduceAdd, Nat.reduceMul, Int.reduceToNat, Nat.reduceLT, Nat.reduceLeDiff, Nat.le_refl, Nat.reduceEqDiff, ↓reduceIte, beq_self_eq_true, bne_self_eq_false, Int.reduceBEq, Int.reduceBNe, or_self, true_or, or_true, Option.map_some, Option.map_none, List.length_map, all_okS]) | (refine hK _ ?_; clear hK K) | (with_reducible refine And.intro ?_ ?_; first | omega | assumption | (focus (decide)) | (focus (simp; done)) | (focus (simp; omega)) | (focus (constructor <;> omega)) | fail))
    exact AW.ret (Fin.objs [320] rfl (by simp [go_sem, inI, gI]) ⟨⟨_, rfl, by simp [go_sem, inI, gI]⟩, trivial⟩ (by simp) rfl (by simp [go_sem]) (by simp [go_sem]) rfl)

theorem deleteFuncT_St (bt : Nat) (xs : List (Str)) (hl : xs.length ≤ 1000) (c : Nat) (cap : D) (q : Str → Bool) (hc : ∀ x ∈ xs, Does Tryz.prog c [.d (D.str x), .d (.ptr [cap] 0)] [] (B (q x)) []) :
    Does Tryz.prog 35 [.slr 0 0 xs.length, .fn c [.ptr 1 0]] [.vec 9 1 (dv (xs.map D.str)), .box bt [.d cap]] (.slr 0 0 (xs.filter fun x => !q x).length) [.vec 9 1 (dv ((xs.filter fun x => !q x).map D.str ++ List.replicate (xs.length - (xs.filter fun x => !q x).length) (D.str []))), .box bt [.d cap]] := by
  have hix := indexFunc_St xs hl c (.ptr [cap] 0) q hc
  refine Does.of_AW (n := 42) Tryz.func35 rfl rfl rfl fun cx hcx => ?_
  generalize hF : (xs.filter fun x => !q x) = F
  cases hany : xs.any q with
  | false =>
    have hno : ∀ x ∈ xs, q x = false := by simpa using hany
    have hid : idxG q xs 0 = -1 := idxG_none 0 hany
    rw [hid] at hix
    have : F = xs := by
      rw [← hF, List.filter_eq_self]
      intro x hx; rw [hno x hx]; rfl
    subst this
    repeat' (first | (refine AW.sreg rfl fun K hK => ?_; simp only [go_sem, Nat.reduceAdd, Nat.reduceMul, Int.reduceToNat, Nat.reduceLT, Nat.reduceLeDiff, Nat.le_refl, Nat.reduceEqDiff, ↓reduceIte, beq_self_eq_true, bne_self_eq_false, Int.reduceBEq, Int.reduceBNe, or_self, true_or, or_true, Option.map_some, Option.map_none, List.length_map]) | (refine AW.seq_k fun K hK => ?_) | (refine AW.condT rfl (by first | rfl | (simp; omega) | (simp [*]; done) | fail) ?_) | (refine hK _ ?_; clear hK K) | (refine run_call _ _ _ ((hix).lend (by repeat' (first | exact frzL_nil | refine frzL_cons (by first | exact frz_d | exact frz_slr rfl rfl (by first | (simp; done) | (simp; omega) | (simp [*]; done) | fail) | rfl) ?_)) rfl rfl rfl) rfl rfl (dstOk_of rfl) rfl rfl rfl ?_; simp only [go_sem, Nat.reduceAdd, Nat.reduceMul, Int.reduceToNat, Nat.reduceLT, Nat.reduceLeDiff, Nat.le_refl, Nat.reduceEqDiff, ↓reduceIte, beq_self_eq_true, bne_self_eq_false, Int.reduceBEq, Int.reduceBNe, or_self, true_or, or_true, Option.map_some, Option.map_none, List.length_map]))
    exact AW.ret (Fin.objs [0, 1] rfl (by simp [go_sem, inI, gI]) ⟨⟨_, rfl, by simp [go_sem, inI, gI]⟩, ⟨_, rfl, by simp [go_sem, inI, gI]⟩, trivial⟩ (by simp) rfl (by simp [go_sem]) (by simp [go_sem]) rfl)
  | true =>
    obtain ⟨k, x, hk, hkx, hqx, hpre⟩ := idxG_at 0 hany
    rw [hk, Nat.zero_add] at hix
    have hkl : k < xs.length := by
      rcases Nat.lt_or_ge k xs.length with h | h
      · exact h
      · simp [List.getElem?_eq_none h] at hkx
    have hd : xs.drop k = x :: xs.drop (k + 1) := by
      rw [List.drop_eq_getElem_cons hkl]; congr 1; rw [List.getElem?_eq_getElem hkl] at hkx; exact Option.some.inj hkx
    have hf0 : xs.take k ++ (xs.drop (k + 1)).filter (fun x => !q x) = F := by
      rw [← hF]
      conv => rhs; rw [← List.take_append_drop k xs, List.filter_append, hd, List.filter_cons_of_neg (by simp [hqx])]
      congr 1
      rw [List.filter_eq_self.2]
      intro y hy; rw [hpre y hy]; rfl
    repeat' (first | (refine AW.sreg rfl fun K hK => ?_; simp only [go_sem, Nat.reduceAdd, Nat.reduceMul, Int.reduceToNat, Nat.reduceLT, Nat.reduceLeDiff, Nat.le_refl, Nat.reduceEqDiff, ↓reduceIte, beq_self_eq_true, bne_self_eq_false, Int.reduceBEq, Int.reduceBNe, or_self, true_or, or_true, Option.map_some, Option.map_none, List.length_map]) | (refine AW.seq_k fun K hK => ?_) | (refine AW.block ?_) | (refine AW.skip ?_; simp only [Then, InBlock]) | (refine AW.condF rfl (by first | rfl | (simp; omega) | (simp [*]; done) | fail) ?_) | (refine hK _ ?_; clear hK K) | (refine run_call _ _ _ ((hix).lend (by repeat' (first | exact frzL_nil | refine frzL_cons (by first | exact frz_d | exact frz_slr rfl rfl (by first | (simp; done) | (simp; omega) | (simp [*]; done) | fail) | rfl) ?_)) rfl rfl rfl) rfl rfl (dstOk_of rfl) rfl rfl rfl ?_; simp only [go_sem, Nat.reduceAdd, Nat.reduceMul, Int.reduceToNat, Nat.reduceLT, Nat.reduceLeDiff, Nat.le_refl, Nat.reduceEqDiff, ↓reduceIte, beq_self_eq_true, bne_self_eq_false, Int.reduceBEq, Int.reduceBNe, or_self, true_or, or_true, Option.map_some, Option.map_none, List.length_map]) | (with_reducible refine And.intro ?_ ?_; first | omega | assumption | (focus (decide)) | (focus (simp; done)) | (focus (simp; omega)) | (focus (constructor <;> omega)) | fail))
    refine AW.loopF (ι := Nat × List (Str) × List (Str)) [0, 1] (fun p => [(5, I p.2.1.length), (6, I p.1)]) (fun p => [(0, some (O.vec 9 1 (dv ((p.2.1 ++ (p.2.2 ++ xs.drop p.1)).map D.str)))), (1, some (O.box bt [.d cap]))]) 2 (fun p => p.1 ≤ xs.length ∧ p.2.1.length + p.2.2.length = p.1 ∧ 1 ≤ p.2.2.length ∧ p.2.1 ++ (xs.drop p.1).filter (fun x => !q x) = F) (fun p => xs.length - p.1) (k + 1, xs.take k, [x]) ⟨by simp only; omega, by simp; omega, by simp, hf0⟩ (Weak.auto hcx rfl rfl (Nat.le_of_ble_eq_true rfl) (by simp [go_sem, gL, kL, renOf, V.obj, lk, Nat.blt, Nat.ble, List.map_append, dv_push, ← hd, List.take_append_drop, Nat.min_eq_left (Nat.le_of_lt hkl)]) (by simp [go_sem, gL, kL, renOf, V.obj, lk, Nat.blt, Nat.ble, List.map_append, dv_push, ← hd, List.take_append_drop, Nat.min_eq_left (Nat.le_of_lt hkl)]) (by first | (intro i hi; exact absurd hi (Nat.not_lt_zero _)) | (intro i0 hi0; match i0, hi0 with | 0, _ => exact ⟨_, rfl⟩ | n0+1, h0 => exact absurd h0 (Nat.not_lt.2 (Nat.le_add_left 1 n0))) | (intro i0 hi0; match i0, hi0 with | 0, _ => exact ⟨_, rfl⟩ | 1, _ => exact ⟨_, rfl⟩ | n0+2, h0 => exact absurd h0 (Nat.not_lt.2 (Nat.le_add_left 2 n0))) | (intro i0 hi0; match i0, hi0 with | 0, _ => exact ⟨_, rfl⟩ | 1, _ => exact ⟨_, rfl⟩ | 2, _ => exact ⟨_, rfl⟩ | n0+3, h0 => exact absurd h0 (Nat.not_lt.2 (Nat.le_add_left 3 n0))) | (intro i0 hi0; match i0, hi0 with | 0, _ => exact ⟨_, rfl⟩ | 1, _ => exact ⟨_, rfl⟩ | 2, _ => exact ⟨_, rfl⟩ | 3, _ => exact ⟨_, rfl⟩ | n0+4, h0 => exact absurd h0 (Nat.not_lt.2 (Nat.le_add_left 4 n0)))) (by simp [go_sem, gL, kL, lk, renOf, V.obj, Nat.blt, Nat.ble, ← hd, List.take_append_drop, Nat.min_eq_left (Nat.le_of_lt hkl)])) ?_; simp only [St.at_nil, St.at_cons, lk, Nat.reduceEqDiff, ↓reduceIte, Option.getD_some, Option.getD_none, List.cons_append, List.nil_append, List.append_nil]
    rintro ⟨j, A, G⟩ ⟨g1, g2, g3, g4⟩
    simp only at g1 g2 g3 g4 ⊢
    have hlen : (A ++ (G ++ xs.drop j)).length = xs.length := by simp; omega
    by_cases hj : j < xs.length
    · obtain ⟨z, hz, hzm, hzd⟩ := get_some hj
      obtain ⟨g0, G, rfl⟩ : ∃ g0 G', G = g0 :: G' := by
        cases G with
        | nil => simp at g3
        | cons a b => exact ⟨a, b, rfl⟩
      have e1 : (dv ((A ++ ((g0 :: G) ++ xs.drop j)).map D.str))[0 + j]? = some (.d (D.str z)) := by
        have : (A ++ ((g0 :: G) ++ xs.drop j))[j]? = some z := by
          rw [show A ++ ((g0 :: G) ++ xs.drop j) = (A ++ (g0 :: G)) ++ xs.drop j by simp, List.getElem?_append_right (by simp at g2 ⊢; omega), show j - (A ++ (g0 :: G)).length = 0 by simp at g2 ⊢; omega, hzd]
          rfl
        simp only [dv, Nat.zero_add, List.getElem?_map, this, Option.map_some]
      have e3 : (dv ((A ++ ((g0 :: G) ++ xs.drop j)).map D.str))[0 + A.length]? = some (.d (D.str g0)) := by
        have := get_mid A g0 (G ++ xs.drop j)
        simp only [dv, Nat.zero_add, List.getElem?_map, List.cons_append, this, Option.map_some]
      have hset : (dv ((A ++ ((g0 :: G) ++ xs.drop j)).map D.str)).set (0 + A.length) (.d (D.str z)) = dv (((A ++ [z]) ++ (G ++ xs.drop j)).map D.str) := by
        have := set_mid (dv (A.map D.str)) (V.d (D.str g0)) (dv ((G ++ xs.drop j).map D.str)) (V.d (D.str z))
        simpa [dv] using this
      simp only [List.cons_append] at e1 e3 hset hlen
      rw [hzd] at g4
      have hcz := hc z hzm
      cases hqz : q z with
      | true =>
        rw [hqz] at hcz
        rw [List.filter_cons_of_neg (by simp [hqz])] at g4
        repeat' (first | (refine AW.sreg rfl fun K hK => ?_; simp only [go_sem, Nat.reduceAdd, Nat.reduceMul, Int.reduceToNat, Nat.reduceLT, Nat.reduceLeDiff, Nat.le_refl, Nat.reduceEqDiff, ↓reduceIte, beq_self_eq_true, bne_self_eq_false, Int.reduceBEq, Int.reduceBNe, or_self, true_or, or_true, Option.map_some, Option.map_none, List.length_map, e1, List.cons_append]) | (refine AW.reg rfl ?_; simp only [go_sem, Nat.reduceAdd, Nat.reduceMul, Int.reduceToNat, Nat.reduceLT, Nat.reduceLeDiff, Nat.le_refl, Nat.reduceEqDiff, ↓reduceIte, beq_self_eq_true, bne_self_eq_false, Int.reduceBEq, Int.reduceBNe, or_self, true_or, or_true, Option.map_some, Option.map_none, List.length_map, e1, List.cons_append]) | (refine AW.seq_k fun K hK => ?_) | (refine AW.block ?_) | (refine AW.skip ?_; simp only [Then, InBlock]) | (refine AW.condT rfl (by first | rfl | (simp; omega) | (simp [*]; done) | fail) ?_) | (refine AW.condF rfl (by first | rfl | (simp; omega) | (simp [*]; done) | fail) ?_) | (refine hK _ ?_; clear hK K) | (refine run_call _ _ _ ((hcz).borrow rfl rfl rfl) rfl rfl (dstOk_of rfl) rfl rfl rfl ?_; simp only [go_sem, Nat.reduceAdd, Nat.reduceMul, Int.reduceToNat, Nat.reduceLT, Nat.reduceLeDiff, Nat.le_refl, Nat.reduceEqDiff, ↓reduceIte, beq_self_eq_true, bne_self_eq_false, Int.reduceBEq, Int.reduceBNe, or_self, true_or, or_true, Option.map_some, Option.map_none, List.length_map, e1, List.cons_append]) | (with_reducible refine And.intro ?_ ?_; first | omega | assumption | (focus (decide)) | (focus (simp; done)) | (focus (simp; omega)) | (focus (constructor <;> omega)) | fail))
        exact ⟨(j + 1, A, g0 :: (G ++ [z])), ⟨hj, by simp at g2 ⊢; omega, by simp, g4⟩, by simp only; omega, (Weak.auto hcx rfl rfl (Nat.le_of_ble_eq_true rfl) (by simp [go_sem, gL, kL, renOf, V.obj, lk, Nat.blt, Nat.ble, List.map_append, dv_push, hzd]) (by simp [go_sem, gL, kL, renOf, V.obj, lk, Nat.blt, Nat.ble, List.map_append, dv_push, hzd]) (by first | (intro i hi; exact absurd hi (Nat.not_lt_zero _)) | (intro i0 hi0; match i0, hi0 with | 0, _ => exact ⟨_, rfl⟩ | n0+1, h0 => exact absurd h0 (Nat.not_lt.2 (Nat.le_add_left 1 n0))) | (intro i0 hi0; match i0, hi0 with | 0, _ => exact ⟨_, rfl⟩ | 1, _ => exact ⟨_, rfl⟩ | n0+2, h0 => exact absurd h0 (Nat.not_lt.2 (Nat.le_add_left 2 n0))) | (intro i0 hi0; match i0, hi0 with | 0, _ => exact ⟨_, rfl⟩ | 1, _ => exact ⟨_, rfl⟩ | 2, _ => exact ⟨_, rfl⟩ | n0+3, h0 => exact absurd h0 (Nat.not_lt.2 (Nat.le_add_left 3 n0))) | (intro i0 hi0; match i0, hi0 with | 0, _ => exact ⟨_, rfl⟩ | 1, _ => exact ⟨_, rfl⟩ | 2, _ => exact ⟨_, rfl⟩ | 3, _ => exact ⟨_, rfl⟩ | n0+4, h0 => exact absurd h0 (Nat.not_lt.2 (Nat.le_add_left 4 n0)))) (by simp [go_sem, gL, kL, lk, renOf, V.obj, Nat.blt, Nat.ble, hzd]))⟩
      | false =>
        rw [hqz] at hcz
        rw [List.filter_cons_of_pos (by simp [hqz])] at g4
        repeat' (first | (refine AW.sreg rfl fun K hK => ?_; simp only [go_sem, Nat.reduceAdd, Nat.reduceMul, Int.reduceToNat, Nat.reduceLT, Nat.reduceLeDiff, Nat.le_refl, Nat.reduceEqDiff, ↓reduceIte, beq_self_eq_true, bne_self_eq_false, Int.reduceBEq, Int.reduceBNe, or_self, true_or, or_true, Option.map_some, Option.map_none, List.length_map, e1, e3, hset, List.cons_append]) | (refine AW.reg rfl ?_; simp only [go_sem, Nat.reduceAdd, Nat.reduceMul, Int.reduceToNat, Nat.reduceLT, Nat.reduceLeDiff, Nat.le_refl, Nat.reduceEqDiff, ↓reduceIte, beq_self_eq_true, bne_self_eq_false, Int.reduceBEq, Int.reduceBNe, or_self, true_or, or_true, Option.map_some, Option.map_none, List.length_map, e1, e3, hset, List.cons_append]) | (refine AW.seq_k fun K hK => ?_) | (refine AW.block ?_) | (refine AW.skip ?_; simp only [Then, InBlock]) | (refine AW.condT rfl (by first | rfl | (simp; omega) | (simp [*]; done) | fail) ?_) | (refine hK _ ?_; clear hK K) | (refine run_call _ _ _ ((hcz).borrow rfl rfl rfl) rfl rfl (dstOk_of rfl) rfl rfl rfl ?_; simp only [go_sem, Nat.reduceAdd, Nat.reduceMul, Int.reduceToNat, Nat.reduceLT, Nat.reduceLeDiff, Nat.le_refl, Nat.reduceEqDiff, ↓reduceIte, beq_self_eq_true, bne_self_eq_false, Int.reduceBEq, Int.reduceBNe, or_self, true_or, or_true, Option.map_some, Option.map_none, List.length_map, e1, e3, hset, List.cons_append]) | (with_reducible refine And.intro ?_ ?_; first | omega | assumption | (focus (decide)) | (focus (simp; done)) | (focus (simp; omega)) | (focus (constructor <;> omega)) | fail))
        exact ⟨(j + 1, A ++ [z], G ++ [z]), ⟨hj, by simp at g2 ⊢; omega, by simp, by simpa using g4⟩, by simp only; omega, (Weak.auto hcx rfl rfl (Nat.le_of_ble_eq_true rfl) (by simp [go_sem, gL, kL, renOf, V.obj, lk, Nat.blt, Nat.ble, List.map_append, dv_push, hzd]) (by simp [go_sem, gL, kL, renOf, V.obj, lk, Nat.blt, Nat.ble, List.map_append, dv_push, hzd]) (by first | (intro i hi; exact absurd hi (Nat.not_lt_zero _)) | (intro i0 hi0; match i0, hi0 with | 0, _ => exact ⟨_, rfl⟩ | n0+1, h0 => exact absurd h0 (Nat.not_lt.2 (Nat.le_add_left 1 n0))) | (intro i0 hi0; match i0, hi0 with | 0, _ => exact ⟨_, rfl⟩ | 1, _ => exact ⟨_, rfl⟩ | n0+2, h0 => exact absurd h0 (Nat.not_lt.2 (Nat.le_add_left 2 n0))) | (intro i0 hi0; match i0, hi0 with | 0, _ => exact ⟨_, rfl⟩ | 1, _ => exact ⟨_, rfl⟩ | 2, _ => exact ⟨_, rfl⟩ | n0+3, h0 => exact absurd h0 (Nat.not_lt.2 (Nat.le_add_left 3 n0))) | (intro i0 hi0; match i0, hi0 with | 0, _ => exact ⟨_, rfl⟩ | 1, _ => exact ⟨_, rfl⟩ | 2, _ => exact ⟨_, rfl⟩ | 3, _ => exact ⟨_, rfl⟩ | n0+4, h0 => exact absurd h0 (Nat.not_lt.2 (Nat.le_add_left 4 n0)))) (by simp [go_sem, gL, kL, lk, renOf, V.obj, Nat.blt, Nat.ble, hzd]))⟩
    · obtain rfl : j = xs.length := by omega
      simp only [List.drop_length, List.filter_nil, List.append_nil] at g4 hlen
      subst g4
      have hcl : (dv ((A ++ G).map D.str)).take (0 + A.length) ++ List.replicate (xs.length - A.length) (V.d (D.str [])) ++ (dv ((A ++ G).map D.str)).drop (0 + A.length + (xs.length - A.length)) = dv (A.map D.str ++ List.replicate (xs.length - A.length) (D.str [])) := by
        rw [List.drop_eq_nil_of_le (by simp [dv]; omega), List.append_nil]
        simp [dv]
      clear hf0 hF
      repeat' (first | (refine AW.sreg rfl fun K hK => ?_; simp only [go_sem, Nat.reduceAdd, Nat.reduceMul, Int.reduceToNat, Nat.reduceLT, Nat.reduceLeDiff, Nat.le_refl, Nat.reduceEqDiff, ↓reduceIte, beq_self_eq_true, bne_self_eq_false, Int.reduceBEq, Int.reduceBNe, or_self, true_or, or_true, Option.map_some, Option.map_none, List.length_map, List.drop_length, List.append_nil, hcl]) | (refine AW.seq_k fun K hK => ?_) | (refine AW.exit ?_; simp only [go_sem, ↓reduceIte]) | (refine AW.condF rfl (by first | rfl | (simp; omega) | (simp [*]; done) | fail) ?_) | (refine hK _ ?_; clear hK K) | (clear hK K; refine hK _ ?_; clear hK K) | (with_reducible refine And.intro ?_ ?_; first | omega | assumption | (focus (decide)) | (focus (simp; done)) | (focus (simp; omega)) | (focus (constructor <;> omega)) | fail))
      exact AW.ret (Fin.objs [0, 1] rfl (by simp [go_sem, inI, gI]) ⟨⟨_, rfl, by simp [go_sem, inI, gI]⟩, ⟨_, rfl, by simp [go_sem, inI, gI]⟩, trivial⟩ (by simp) rfl (by simp [go_sem]) (by simp [go_sem]) rfl)

theorem closW (b : List Str) (hl : b.length ≤ 1000) (hr : RiseS b) (x : Str) :
    Does Tryz.prog 78 [S x, .d (.ptr [.sl (b.map D.str)] 0)] [] (B (decide (x ∈ b))) [] := by
  obtain ⟨i, hb⟩ := bsearchS b hl hr x
  refine Does.of_AW (n := 13) Tryz.func78 rfl rfl rfl fun cx hcx => ?_
  repeat' (first | (refine AW.sreg rfl fun K hK => ?_; simp only [go_sem, Nat.reduceAdd, Nat.reduceMul, Int.reduceToNat, Nat.reduceLT, Nat.reduceLeDiff, Nat.le_refl, Nat.reduceEqDiff, ↓reduceIte, beq_self_eq_true, bne_self_eq_false, Int.reduceBEq, Int.reduceBNe, or_self, true_or, or_true, Option.map_some, Option.map_none]) | (refine hK _ ?_; clear hK K) | (refine run_call _ _ _ ((hb).pure rfl rfl _ _) rfl rfl (dstOk_of rfl) rfl rfl rfl ?_; simp only [go_sem, Nat.reduceAdd, Nat.reduceMul, Int.reduceToNat, Nat.reduceLT, Nat.reduceLeDiff, Nat.le_refl, Nat.reduceEqDiff, ↓reduceIte, beq_self_eq_true, bne_self_eq_false, Int.reduceBEq, Int.reduceBNe, or_self, true_or, or_true, Option.map_some, Option.map_none]) | (refine AW.ret (Fin.data rfl (by first | (simp only [go_sem]; done) | (simp [go_sem, *]; done) | (simp [go_sem]; omega) | rfl) rfl)))
theorem withoutS (a b : List Str) (hl : a.length ≤ 1000) (hl2 : b.length ≤ 1000) (hr : RiseS b) :
    Does Tryz.prog 53 [.d (.sl (a.map D.str)), .d (.sl (b.map D.str))] [] (.d (.sl ((a.filter fun x => !decide (x ∈ b)).map D.str))) [] := by
  have hcl := clone_St a hl
  have hdel := deleteFuncT_St 26 a hl 78 (.sl (b.map D.str)) (fun x => decide (x ∈ b)) (fun x _ => closW b hl2 hr x)
  generalize hF : (a.filter fun x => !decide (x ∈ b)) = F at *
  refine Does.of_AW (n := 9) Tryz.func53 rfl rfl rfl fun cx hcx => ?_
  repeat' (first | (refine AW.sreg rfl fun K hK => ?_; simp only [go_sem, Nat.reduceAdd, Nat.reduceMul, Int.reduceToNat, Nat.reduceLT, Nat.reduceLeDiff, Nat.le_refl, Nat.reduceEqDiff, ↓reduceIte, beq_self_eq_true, bne_self_eq_false, Int.reduceBEq, Int.reduceBNe, or_self, true_or, or_true, Option.map_some, Option.map_none, List.length_map, Nat.reduceSub, Nat.add_zero]) | (refine hK _ ?_; clear hK K) | (refine run_call _ _ _ ((hcl).objs [] trivial rfl (by decide) (by simp [go_sem, renOs]) (by simp) (by simp) (by simp [go_sem]) (by simp [go_sem]) (by simp [go_sem]) (by simp [go_sem])) rfl rfl (dstOk_of rfl) rfl rfl rfl ?_; simp only [go_sem, Nat.reduceAdd, Nat.reduceMul, Int.reduceToNat, Nat.reduceLT, Nat.reduceLeDiff, Nat.le_refl, Nat.reduceEqDiff, ↓reduceIte, beq_self_eq_true, bne_self_eq_false, Int.reduceBEq, Int.reduceBNe, or_self, true_or, or_true, Option.map_some, Option.map_none, List.length_map, Nat.reduceSub, Nat.add_zero]) | (refine run_call _ _ _ ((hdel).objs [192, 0] ⟨rfl, rfl, trivial⟩ rfl (by decide) (by simp [go_sem, renOs]) (by simp) (by simp) (by simp [go_sem]) (by simp [go_sem]) (by simp [go_sem]) (by simp [go_sem])) rfl rfl (dstOk_of rfl) rfl rfl rfl ?_; simp only [go_sem, Nat.reduceAdd, Nat.reduceMul, Int.reduceToNat, Nat.reduceLT, Nat.reduceLeDiff, Nat.le_refl, Nat.reduceEqDiff, ↓reduceIte, beq_self_eq_true, bne_self_eq_false, Int.reduceBEq, Int.reduceBNe, or_self, true_or, or_true, Option.map_some, Option.map_none, List.length_map, Nat.reduceSub, Nat.add_zero]))
  exact AW.ret (Fin.data rfl (frz_slrP (e := 9) (s := 1) (xs := F.map D.str) (ys := List.replicate (a.length - F.length) (D.str [])) rfl rfl (by simp)) rfl)
theorem moves_any (a b : List Str) (hl : a.length ≤ 1000) (hl2 : b.length ≤ 1000) (hr : RiseS a) (hr2 : RiseS b) :
    Does Tryz.prog 33 [.d (.sl (a.map D.str)), .d (.sl (b.map D.str))] [] (I (mvS a b)) [] := by
  have h1 := withoutS a b hl hl2 hr2
  have h2 := withoutS b a hl2 hl hr
  have b1 : (a.filter fun s => !decide (s ∈ b)).length ≤ a.length := List.length_filter_le _ _
  have b2 : (b.filter fun s => !decide (s ∈ a)).length ≤ b.length := List.length_filter_le _ _
  have e : mvS a b = (a.filter fun s => !decide (s ∈ b)).length + (b.filter fun s => !decide (s ∈ a)).length := by
    unfold mvS
    congr <;> (funext s; congr)
  rw [e]
  clear e
  generalize (a.filter fun s => !decide (s ∈ b)) = A at *
  generalize (b.filter fun s => !decide (s ∈ a)) = B' at *
  refine Does.of_AW (n := 14) Tryz.func33 rfl rfl rfl fun cx hcx => ?_
  repeat' (first | (refine AW.sreg rfl fun K hK => ?_; simp only [go_sem, Nat.reduceAdd, Nat.reduceMul, Int.reduceToNat, Nat.reduceLT, Nat.reduceLeDiff, Nat.le_refl, Nat.reduceEqDiff, ↓reduceIte, beq_self_eq_true, bne_self_eq_false, Int.reduceBEq, Int.reduceBNe, or_self, true_or, or_true, Option.map_some, Option.map_none, List.length_map]) | (refine hK _ ?_; clear hK K) | (refine run_call _ _ _ ((h1).pure rfl rfl _ _) rfl rfl (dstOk_of rfl) rfl rfl rfl ?_; simp only [go_sem, Nat.reduceAdd, Nat.reduceMul, Int.reduceToNat, Nat.reduceLT, Nat.reduceLeDiff, Nat.le_refl, Nat.reduceEqDiff, ↓reduceIte, beq_self_eq_true, bne_self_eq_false, Int.reduceBEq, Int.reduceBNe, or_self, true_or, or_true, Option.map_some, Option.map_none, List.length_map]) | (refine run_call _ _ _ ((h2).pure rfl rfl _ _) rfl rfl (dstOk_of rfl) rfl rfl rfl ?_; simp only [go_sem, Nat.reduceAdd, Nat.reduceMul, Int.reduceToNat, Nat.reduceLT, Nat.reduceLeDiff, Nat.le_refl, Nat.reduceEqDiff, ↓reduceIte, beq_self_eq_true, bne_self_eq_false, Int.reduceBEq, Int.reduceBNe, or_self, true_or, or_true, Option.map_some, Option.map_none, List.length_map]) | (with_reducible refine And.intro ?_ ?_; first | omega | assumption | (focus (decide)) | (focus (simp; done)) | (focus (simp; omega)) | (focus (constructor <;> omega)) | fail))
  exact AW.ret (Fin.data rfl (by simp only [go_sem, Int.natCast_add]) rfl)
end Go.AX

namespace Go.AX
open Go Go.Proofs
def lvP (xs : List Pr) (p : Str) : List Str := (xs.filter fun x => x.1 == p).map (·.2)
/-- A map that holds who is out for each paper. -/
structure LkOk (KS : List Str) (VS : List D) (L : Str → List Str) : Prop where
  find : ∀ p, (fndK (.str p) (KS.map D.str) = some none ∧ L p = []) ∨ ∃ j, fndK (.str p) (KS.map D.str) = some (some j) ∧ (VS.map V.d)[j]? = some (.d (.sl ((L p).map D.str)))
  rise : ∀ p, RiseS (L p)
  len : ∀ p, (L p).length ≤ 1000
theorem lvP_snoc (T : List Pr) (x : Pr) (p : Str) : lvP (T ++ [x]) p = lvP T p ++ (if x.1 = p then [x.2] else []) := by
  unfold lvP
  rw [List.filter_append, List.map_append]
  congr 1
  by_cases h : x.1 = p
  · simp [h]
  · rw [if_neg h, List.filter_cons_of_neg (by simpa using h)]
    rfl
theorem lvP_rise {xs : List Pr} (h : RiseP xs) (p : Str) : RiseS (lvP xs p) := by
  unfold lvP RiseS
  rw [List.pairwise_map]
  refine List.Pairwise.imp_of_mem ?_ (List.Pairwise.filter (fun x => x.1 == p) h)
  intro a b ha hb hab
  have e1 : a.1 = p := by simpa using (List.mem_filter.1 ha).2
  have e2 : b.1 = p := by simpa using (List.mem_filter.1 hb).2
  rcases (ltP_iff a b).1 hab with h1 | h1
  · rw [e1, e2, ltS_irrefl] at h1; cases h1
  · exact h1.2
theorem lvP_len (xs : List Pr) (p : Str) : (lvP xs p).length ≤ xs.length := by
  unfold lvP
  rw [List.length_map]
  exact List.length_filter_le _ _
abbrev Gr := Str × List Str
abbrev grD (g : Gr) : D := .sl (g.2.map D.str)
/-- The groups that are done, and the one that is being filled. -/
structure GrpI (T : List Pr) (gs : List Gr) (k : Str) (ps : List Str) : Prop where
  keys : (gs.map (·.1) ++ [k]).Pairwise (fun a b => ltS a b = true)
  vals : ∀ g ∈ gs, lvP T g.1 = g.2
  cur : lvP T k = ps
  non : ∀ p, p ∉ gs.map (·.1) → p ≠ k → lvP T p = []
theorem GrpI.one (x : Pr) : GrpI [x] [] x.1 [x.2] where
  keys := by simp
  vals := by simp
  cur := by simp [lvP]
  non := fun p _ h => by unfold lvP; rw [List.filter_cons_of_neg (by simpa using fun e => h e.symm)]; rfl
theorem GrpI.lt {T : List Pr} {gs : List Gr} {k : Str} {ps : List Str} (h : GrpI T gs k ps) : ∀ g ∈ gs, ltS g.1 k = true := by
  intro g hg
  exact (List.pairwise_append.1 h.keys).2.2 g.1 (List.mem_map_of_mem hg) k (by simp)
theorem GrpI.same {T : List Pr} {gs : List Gr} {k : Str} {ps : List Str} (h : GrpI T gs k ps) {x : Pr} (hx : x.1 = k) : GrpI (T ++ [x]) gs k (ps ++ [x.2]) where
  keys := h.keys
  vals := fun g hg => by
    rw [lvP_snoc, if_neg, List.append_nil, h.vals g hg]
    rintro e
    exact ltS_ne (h.lt g hg) (by rw [← e, hx])
  cur := by rw [lvP_snoc, if_pos hx, h.cur]
  non := fun p hp hk => by rw [lvP_snoc, if_neg (fun e => hk (by rw [← e, hx])), h.non p hp hk]; rfl
theorem GrpI.next {T : List Pr} {gs : List Gr} {k : Str} {ps : List Str} (h : GrpI T gs k ps) {x : Pr} (hx : ltS k x.1 = true) : GrpI (T ++ [x]) (gs ++ [(k, ps)]) x.1 [x.2] where
  keys := by
    rw [List.map_append, List.pairwise_append]
    refine ⟨h.keys, by simp, ?_⟩
    intro a ha b hb
    obtain rfl := List.mem_singleton.1 hb
    rcases List.mem_append.1 ha with ha | ha
    · obtain ⟨g, hg, rfl⟩ := List.mem_map.1 ha
      exact ltS_trans (h.lt g hg) hx
    · simp only [List.map_cons, List.map_nil, List.mem_singleton] at ha
      rw [ha]; exact hx
  vals := fun g hg => by
    rcases List.mem_append.1 hg with hg | hg
    · rw [lvP_snoc, if_neg, List.append_nil, h.vals g hg]
      intro e
      exact ltS_ne (ltS_trans (h.lt g hg) hx) e.symm
    · obtain rfl := List.mem_singleton.1 hg
      rw [lvP_snoc, if_neg, List.append_nil, h.cur]
      intro e
      exact ltS_ne hx e.symm
  cur := by
    rw [lvP_snoc, if_pos rfl, h.non]
    · rfl
    · intro hm
      obtain ⟨g, hg, e⟩ := List.mem_map.1 hm
      exact ltS_ne (ltS_trans (h.lt g hg) hx) e
    · intro e
      exact ltS_ne hx e.symm
  non := fun p hp hk => by
    rw [List.map_append, List.mem_append, not_or] at hp
    rw [lvP_snoc, if_neg (fun e => hk e.symm), h.non p hp.1 (by simpa using hp.2)]
    rfl
theorem rise_nodupS {l : List Str} (h : l.Pairwise (fun a b => ltS a b = true)) : l.Nodup := List.Pairwise.imp (fun h => ltS_ne h) h
theorem GrpI.done {T : List Pr} {gs : List Gr} {k : Str} {ps : List Str} (h : GrpI T gs k ps) (hr : RiseP T) (hl : T.length ≤ 1000) : LkOk ((gs ++ [(k, ps)]).map (·.1)) ((gs ++ [(k, ps)]).map grD) (lvP T) where
  rise := lvP_rise hr
  len := fun p => Nat.le_trans (lvP_len T p) hl
  find := fun p => by
    have hn : ((gs ++ [(k, ps)]).map (·.1)).Nodup := by
      have := rise_nodupS h.keys
      simpa using this
    by_cases hp : p ∈ (gs ++ [(k, ps)]).map (·.1)
    · obtain ⟨j, hj⟩ := List.getElem?_of_mem hp
      refine .inr ⟨j, ?_, ?_⟩
      · rw [fndK_str, findIdx_at hn hj]
      · rw [List.getElem?_map] at hj
        cases hg : (gs ++ [(k, ps)])[j]? with
        | none => rw [hg] at hj; cases hj
        | some g =>
          rw [hg] at hj
          cases hj
          have : lvP T g.1 = g.2 := by
            rcases List.mem_append.1 (List.mem_of_getElem? hg) with hm | hm
            · exact h.vals g hm
            · obtain rfl := List.mem_singleton.1 hm; exact h.cur
          rw [List.map_map, List.getElem?_map, hg, this]
          rfl
    · refine .inl ⟨by rw [fndK_str, findIdx_none hp], h.non p (fun hm => hp ?_) (fun e => hp ?_)⟩
      · rw [List.map_append]; exact List.mem_append_left _ hm
      · rw [List.map_append, e]; simp
theorem LkOk.nil : LkOk [] [] (fun _ => []) where
  find := fun p => .inl ⟨rfl, rfl⟩
  rise := fun p => List.Pairwise.nil
  len := fun p => by simp
end Go.AX

namespace Go.AX
open Go Go.Proofs
theorem toDL_app {F : V → Option D} : ∀ {xs ys : List V} {a b : List D}, toDL F xs = some a → toDL F ys = some b → toDL F (xs ++ ys) = some (a ++ b)
  | [], ys, a, b, h1, h2 => by
    simp only [toDL, Option.some.injEq] at h1
    subst h1
    exact h2
  | x :: xs, ys, a, b, h1, h2 => by
    simp only [toDL] at h1
    split at h1
    · rename_i d ds e1 e2
      cases h1
      simp only [List.cons_append, toDL, e1, toDL_app e2 h2]
    · cases h1
theorem dv_appV (xs ys : List D) : dv (xs ++ ys) = dv xs ++ dv ys := by simp [dv]
theorem frzL_appV {hv : Nat → Option O} {keep : Nat → Bool} : ∀ xs ys : List V, frzL hv keep (xs ++ ys) = frzL hv keep xs ++ frzL hv keep ys
  | [], ys => by simp [frzL]
  | x :: r, ys => by simp [frzL, frzL_appV r ys]
theorem belL_app (n : Nat) : ∀ xs ys : List V, belL n (xs ++ ys) = (belL n xs && belL n ys)
  | [], ys => by simp [belL]
  | x :: r, ys => by simp [belL, belL_app n r ys, Bool.and_assoc]
theorem renL_app (g : Nat → Nat) : ∀ xs ys : List V, renL g (xs ++ ys) = renL g xs ++ renL g ys
  | [], ys => by simp [renL]
  | x :: r, ys => by simp [renL, renL_app g r ys]
theorem frzL_md {α : Type} (f : α → D) (hv : Nat → Option O) (keep : Nat → Bool) : ∀ l : List α, frzL hv keep (l.map fun x => V.d (f x)) = l.map fun x => V.d (f x)
  | [] => rfl
  | x :: r => by simp [frzL, frz, frzL_md f hv keep r]
theorem belL_md {α : Type} (f : α → D) (n : Nat) : ∀ l : List α, belL n (l.map fun x => V.d (f x)) = true
  | [] => rfl
  | x :: r => by simp [belL, V.bel, belL_md f n r]
theorem renL_md {α : Type} (f : α → D) (g : Nat → Nat) : ∀ l : List α, renL g (l.map fun x => V.d (f x)) = l.map fun x => V.d (f x)
  | [] => rfl
  | x :: r => by simp [renL, V.ren, renL_md f g r]
theorem toDL_md {α : Type} (f : α → D) {F : V → Option D} (h : ∀ x : D, F (.d x) = some x) : ∀ l : List α, toDL F (l.map fun x => V.d (f x)) = some (l.map f)
  | [] => rfl
  | x :: r => by simp [toDL, h, toDL_md f h r]
theorem toDL_dvF {F : V → Option D} (h : ∀ x : D, F (.d x) = some x) : ∀ xs : List D, toDL F (dv xs) = some xs
  | [] => rfl
  | x :: xs => by
    have := toDL_dvF h xs
    simp only [dv] at this
    simp only [dv, List.map_cons, toDL, this, h]
theorem dv_one (x : D) : dv [x] = [V.d x] := rfl
/-- The map that is being filled. -/
abbrev LM (gs : List Gr) (k : Str) (b n : Nat) : O := .map ((gs.map fun g => D.str g.1) ++ [.str k]) ((gs.map fun g => V.d (grD g)) ++ [.slr b 0 n])
theorem lm_at {gs : List Gr} {k : Str} (h : (gs.map (·.1) ++ [k]).Pairwise (fun a b => ltS a b = true)) : fndK (.str k) ((gs.map fun g => D.str g.1) ++ [.str k]) = some (some gs.length) := by
  have e : (gs.map fun g => D.str g.1) ++ [.str k] = (gs.map (·.1) ++ [k]).map D.str := by simp
  rw [e, fndK_str, findIdx_at (rise_nodupS h) (j := gs.length) (by simp)]
theorem lm_no {gs : List Gr} {k x : Str} (h : (gs.map (·.1) ++ [k]).Pairwise (fun a b => ltS a b = true)) (hx : ltS k x = true) : fndK (.str x) ((gs.map fun g => D.str g.1) ++ [.str k]) = some none := by
  have e : (gs.map fun g => D.str g.1) ++ [.str k] = (gs.map (·.1) ++ [k]).map D.str := by simp
  rw [e, fndK_str, findIdx_none]
  intro hm
  rcases List.mem_append.1 hm with hm | hm
  · have := (List.pairwise_append.1 h).2.2 x hm k (by simp)
    rw [ltS_asymm hx] at this; cases this
  · simp only [List.mem_singleton] at hm
    subst hm
    rw [ltS_irrefl] at hx; cases hx
theorem frz_lm {hv : Nat → Option O} {keep : Nat → Bool} {m b n : Nat} {e : Nat} {gs : List Gr} {k : Str} {ps : List Str} (hk : keep m = false) (h : hv m = some (LM gs k b n)) (hk2 : keep b = false) (h2 : hv b = some (.vec e 1 (dv (ps.map D.str)))) (hn : n = ps.length) :
    frz hv keep (.mpr m) = .d (.map (((gs ++ [(k, ps)]).map (·.1)).map D.str) ((gs ++ [(k, ps)]).map grD)) := by
  subst hn
  have h3 : toD hv keep 7 (.slr b 0 ps.length) = some (.sl (ps.map D.str)) := by
    rw [toD]
    simp only [hk2, Bool.false_eq_true, if_false, h2, dv_length, List.length_map, Nat.zero_add, Nat.le_refl, if_true, List.drop_zero]
    rw [show (dv (ps.map D.str)).take ps.length = dv (ps.map D.str) from List.take_of_length_le (by simp [dv]), show toDL (toD hv keep 6) (dv (ps.map D.str)) = some (ps.map D.str) from toDL_dv hv keep 5 _]
  have e : toD hv keep 8 (.mpr m) = some (.map ((gs.map fun g => D.str g.1) ++ [.str k]) (gs.map grD ++ [.sl (ps.map D.str)])) := by
    rw [toD]
    simp only [hk, Bool.false_eq_true, if_false, h]
    rw [toDL_app (a := gs.map grD) (b := [.sl (ps.map D.str)]) (toDL_md grD (fun x => by rw [toD]) gs) (by simp only [toDL, h3])]
  simp only [frz, hk, Bool.false_eq_true, if_false, e]
  simp
/-- The objects of the loop: before the first round the map is empty. -/
def hsL : Option (Nat × List Gr × Str × List Str) → List (Nat × Option O)
  | none => [(64, some (.map [] []))]
  | some p => [(64, some (LM p.2.1 p.2.2.1 65 p.2.2.2.length)), (65, some (O.vec 9 1 (dv (p.2.2.2.map D.str))))]
def ixL : Option (Nat × List Gr × Str × List Str) → Nat
  | none => 0
  | some p => p.1
def InvL (xs : List Pr) : Option (Nat × List Gr × Str × List Str) → Prop
  | none => True
  | some p => 1 ≤ p.1 ∧ p.1 ≤ xs.length ∧ GrpI (xs.take p.1) p.2.1 p.2.2.1 p.2.2.2 ∧ (∃ y, xs[p.1 - 1]? = some y ∧ y.1 = p.2.2.1) ∧ p.2.2.2.length ≤ 1000
theorem leavingI (xs : List Pr) (hl : xs.length ≤ 1000) (hr : RiseP xs) : DoesI Tryz.prog 20 [.d (.sl (xs.map prD))] [] (fun q : List Str × List D => LkOk q.1 q.2 (lvP xs)) (fun q => .d (.map (q.1.map D.str) q.2)) (fun _ => []) := by
  refine DoesI.of_AW (n := 26) Tryz.func20 rfl rfl rfl fun cx hcx => ?_
  repeat' (first | (refine AW.sreg rfl fun K hK => ?_; simp only [go_sem, Nat.reduceAdd, Nat.reduceMul, Int.reduceToNat, Nat.reduceLT, Nat.reduceLeDiff, Nat.le_refl, Nat.reduceEqDiff, ↓reduceIte, beq_self_eq_true, bne_self_eq_false, Int.reduceBEq, Int.reduceBNe, or_self, true_or, or_true, Option.map_some, Option.map_none, List.length_map]) | (refine AW.seq_k fun K hK => ?_) | (refine AW.block ?_) | (refine hK _ ?_; clear hK K))
  refine AW.loopF (ι := Option (Nat × List Gr × Str × List Str)) [3, 7, 8] (fun p => [(9, I (ixL p))]) (hsL) 6 (fun p => InvL xs p) (fun p => xs.length - ixL p) none trivial (Weak.auto hcx rfl rfl (Nat.le_of_ble_eq_true rfl) (by simp [go_sem, gL, kL, renOf, V.obj, lk, Nat.blt, Nat.ble, List.map_append, dv_push, hsL, ixL]) (by simp [go_sem, gL, kL, renOf, V.obj, lk, Nat.blt, Nat.ble, List.map_append, dv_push, hsL, ixL]) (by first | (intro i hi; exact absurd hi (Nat.not_lt_zero _)) | (intro i0 hi0; match i0, hi0 with | 0, _ => exact ⟨_, rfl⟩ | n0+1, h0 => exact absurd h0 (Nat.not_lt.2 (Nat.le_add_left 1 n0))) | (intro i0 hi0; match i0, hi0 with | 0, _ => exact ⟨_, rfl⟩ | 1, _ => exact ⟨_, rfl⟩ | n0+2, h0 => exact absurd h0 (Nat.not_lt.2 (Nat.le_add_left 2 n0))) | (intro i0 hi0; match i0, hi0 with | 0, _ => exact ⟨_, rfl⟩ | 1, _ => exact ⟨_, rfl⟩ | 2, _ => exact ⟨_, rfl⟩ | n0+3, h0 => exact absurd h0 (Nat.not_lt.2 (Nat.le_add_left 3 n0))) | (intro i0 hi0; match i0, hi0 with | 0, _ => exact ⟨_, rfl⟩ | 1, _ => exact ⟨_, rfl⟩ | 2, _ => exact ⟨_, rfl⟩ | 3, _ => exact ⟨_, rfl⟩ | n0+4, h0 => exact absurd h0 (Nat.not_lt.2 (Nat.le_add_left 4 n0)))) (by simp [go_sem, gL, kL, lk, renOf, V.obj, Nat.blt, Nat.ble, hsL, ixL])) ?_; simp only [St.at_nil, St.at_cons, lk, Nat.reduceEqDiff, ↓reduceIte, Option.getD_some, Option.getD_none, List.cons_append, List.nil_append, List.append_nil]
  rintro (_ | ⟨i, gs, k, ps⟩) hI
  · simp only [hsL, ixL, Int.natCast_zero]
    by_cases hi : 0 < xs.length
    · obtain ⟨x, hx, hxm, hxd⟩ := get_some hi
      have hget : (xs.map prD)[0]? = some (prD x) := by simp [hx]
      have htk : xs.take 1 = [x] := by rw [List.take_one, List.head?_eq_getElem?, hx]; rfl
      repeat' (first | (refine AW.sreg rfl fun K hK => ?_; simp only [go_sem, Nat.reduceAdd, Nat.reduceMul, Int.reduceToNat, Nat.reduceLT, Nat.reduceLeDiff, Nat.le_refl, Nat.reduceEqDiff, ↓reduceIte, beq_self_eq_true, bne_self_eq_false, Int.reduceBEq, Int.reduceBNe, or_self, true_or, or_true, Option.map_some, Option.map_none, List.length_map, hget, Int.toNat_zero]) | (refine AW.reg rfl ?_; simp only [go_sem, Nat.reduceAdd, Nat.reduceMul, Int.reduceToNat, Nat.reduceLT, Nat.reduceLeDiff, Nat.le_refl, Nat.reduceEqDiff, ↓reduceIte, beq_self_eq_true, bne_self_eq_false, Int.reduceBEq, Int.reduceBNe, or_self, true_or, or_true, Option.map_some, Option.map_none, List.length_map, hget, Int.toNat_zero]) | (refine AW.regD hmix rfl ?_; simp only [go_sem, Nat.reduceAdd, Nat.reduceMul, Int.reduceToNat, Nat.reduceLT, Nat.reduceLeDiff, Nat.le_refl, Nat.reduceEqDiff, ↓reduceIte, beq_self_eq_true, bne_self_eq_false, Int.reduceBEq, Int.reduceBNe, or_self, true_or, or_true, Option.map_some, Option.map_none, List.length_map, hget, Int.toNat_zero]) | (refine AW.seq_k fun K hK => ?_) | (refine AW.block ?_) | (refine AW.skip ?_; simp only [Then, InBlock]) | (refine AW.condT rfl (by first | rfl | (simp; omega) | (simp [*]; done) | fail) ?_) | (refine hK _ ?_; clear hK K) | (with_reducible refine And.intro (?_ : regOk _ _ = true) ?_; kernel_rfl) | (with_reducible refine And.intro ?_ ?_; first | omega | assumption | (focus (decide)) | (focus (simp; done)) | (focus (simp; omega)) | (focus (constructor <;> omega)) | fail))
      exact ⟨some (1, [], x.1, [x.2]), ⟨by simp, hi, by simp only [htk]; exact GrpI.one x, ⟨x, hx, rfl⟩, by simp⟩, by simp only [ixL]; omega, (Weak.objs hcx [(64, 64), (65, 1344)] rfl rfl (Nat.le_of_ble_eq_true rfl) (by simp [go_sem, gL, kL, List.map_append, dv_push, frzL_appV, frzL_md, hsL, ixL, belL_app, renL_app, dv_one, belL_md, renL_md]) (by simp [go_sem, gL, kL, List.map_append, dv_push, frzL_appV, frzL_md, hsL, ixL, belL_app, renL_app, dv_one, belL_md, renL_md]) (by first | (intro i hi; exact absurd hi (Nat.not_lt_zero _)) | (intro i0 hi0; match i0, hi0 with | 0, _ => exact ⟨_, rfl⟩ | n0+1, h0 => exact absurd h0 (Nat.not_lt.2 (Nat.le_add_left 1 n0))) | (intro i0 hi0; match i0, hi0 with | 0, _ => exact ⟨_, rfl⟩ | 1, _ => exact ⟨_, rfl⟩ | n0+2, h0 => exact absurd h0 (Nat.not_lt.2 (Nat.le_add_left 2 n0))) | (intro i0 hi0; match i0, hi0 with | 0, _ => exact ⟨_, rfl⟩ | 1, _ => exact ⟨_, rfl⟩ | 2, _ => exact ⟨_, rfl⟩ | n0+3, h0 => exact absurd h0 (Nat.not_lt.2 (Nat.le_add_left 3 n0))) | (intro i0 hi0; match i0, hi0 with | 0, _ => exact ⟨_, rfl⟩ | 1, _ => exact ⟨_, rfl⟩ | 2, _ => exact ⟨_, rfl⟩ | 3, _ => exact ⟨_, rfl⟩ | n0+4, h0 => exact absurd h0 (Nat.not_lt.2 (Nat.le_add_left 4 n0)))) (by simp [gL, lk, frzL_appV, frzL_md, hsL, ixL, belL_app, renL_app, dv_one, belL_md, renL_md]))⟩
    · have h0 : xs = [] := List.length_eq_zero_iff.1 (by omega)
      subst h0
      repeat' (first | (refine AW.sreg rfl fun K hK => ?_; simp only [go_sem, Nat.reduceAdd, Nat.reduceMul, Int.reduceToNat, Nat.reduceLT, Nat.reduceLeDiff, Nat.le_refl, Nat.reduceEqDiff, ↓reduceIte, beq_self_eq_true, bne_self_eq_false, Int.reduceBEq, Int.reduceBNe, or_self, true_or, or_true, Option.map_some, Option.map_none, List.length_map]) | (refine AW.seq_k fun K hK => ?_) | (refine AW.exit ?_; simp only [go_sem, ↓reduceIte]) | (refine AW.condF rfl (by first | rfl | (simp; omega) | (simp [*]; done) | fail) ?_) | (refine hK _ ?_; clear hK K) | (clear hK K; refine hK _ ?_; clear hK K))
      exact AW.ret ⟨([], []), LkOk.nil, Fin.data rfl (by simp [go_sem]) rfl⟩
  · obtain ⟨g1, g2, g3, ⟨y, hy, hyk⟩, g5⟩ := hI
    simp only [hsL, ixL] at g1 g2 g3 hy hyk g5 ⊢
    by_cases hi : i < xs.length
    · obtain ⟨x, hx, hxm, hxd⟩ := get_some hi
      have hget : (xs.map prD)[i]? = some (prD x) := by simp [hx]
      have htk : xs.take (i + 1) = xs.take i ++ [x] := by rw [List.take_add_one, hx]; rfl
      have hlt := riseP_at hr hy hx (by omega)
      by_cases hk : x.1 = k
      · have hf := lm_at g3.keys
        rw [← hk] at hf
        have hgv : ((gs.map fun g => V.d (grD g)) ++ [.slr 65 0 ps.length])[gs.length]? = some (.slr 65 0 ps.length) := by simp
        have hst : ∀ z : V, ((gs.map fun g => V.d (grD g)) ++ [V.slr 65 0 ps.length]).set gs.length z = (gs.map fun g => V.d (grD g)) ++ [z] := by
          intro z
          have := set_mid (gs.map fun g => V.d (grD g)) (V.slr 65 0 ps.length) [] z
          simpa using this
        have htl : List.take ps.length (dv (ps.map D.str)) = dv (ps.map D.str) := List.take_of_length_le (by simp [dv])
        have hps : ps.length ≤ 999 := by
          have := lvP_len (xs.take i) k
          rw [g3.cur, List.length_take] at this
          omega
        subst hk
        repeat' (first | (refine AW.sreg rfl fun K hK => ?_; simp only [go_sem, Nat.reduceAdd, Nat.reduceMul, Int.reduceToNat, Nat.reduceLT, Nat.reduceLeDiff, Nat.le_refl, Nat.reduceEqDiff, ↓reduceIte, beq_self_eq_true, bne_self_eq_false, Int.reduceBEq, Int.reduceBNe, or_self, true_or, or_true, Option.map_some, Option.map_none, List.length_map, hget, hf, hgv, hst, htl]) | (refine AW.reg rfl ?_; simp only [go_sem, Nat.reduceAdd, Nat.reduceMul, Int.reduceToNat, Nat.reduceLT, Nat.reduceLeDiff, Nat.le_refl, Nat.reduceEqDiff, ↓reduceIte, beq_self_eq_true, bne_self_eq_false, Int.reduceBEq, Int.reduceBNe, or_self, true_or, or_true, Option.map_some, Option.map_none, List.length_map, hget, hf, hgv, hst, htl]) | (refine AW.regD hmix rfl ?_; simp only [go_sem, Nat.reduceAdd, Nat.reduceMul, Int.reduceToNat, Nat.reduceLT, Nat.reduceLeDiff, Nat.le_refl, Nat.reduceEqDiff, ↓reduceIte, beq_self_eq_true, bne_self_eq_false, Int.reduceBEq, Int.reduceBNe, or_self, true_or, or_true, Option.map_some, Option.map_none, List.length_map, hget, hf, hgv, hst, htl]) | (refine AW.seq_k fun K hK => ?_) | (refine AW.block ?_) | (refine AW.skip ?_; simp only [Then, InBlock]) | (refine AW.condT rfl (by first | rfl | (simp; omega) | (simp [*]; done) | fail) ?_) | (refine hK _ ?_; clear hK K) | (with_reducible refine And.intro (?_ : regOk _ _ = true) ?_; kernel_rfl) | (with_reducible refine And.intro ?_ ?_; first | omega | assumption | (focus (decide)) | (focus (simp; done)) | (focus (simp; omega)) | (focus (constructor <;> omega)) | fail))
        exact ⟨some (i + 1, gs, x.1, ps ++ [x.2]), ⟨by simp, hi, by simp only [htk]; exact g3.same rfl, ⟨x, by simpa using hx, rfl⟩, by simp; omega⟩, by simp only [ixL]; omega, (Weak.objs hcx [(64, 64), (65, 1344)] rfl rfl (Nat.le_of_ble_eq_true rfl) (by simp [go_sem, gL, kL, List.map_append, dv_push, frzL_appV, frzL_md, hsL, ixL, belL_app, renL_app, dv_one, belL_md, renL_md]) (by simp [go_sem, gL, kL, List.map_append, dv_push, frzL_appV, frzL_md, hsL, ixL, belL_app, renL_app, dv_one, belL_md, renL_md]) (by first | (intro i hi; exact absurd hi (Nat.not_lt_zero _)) | (intro i0 hi0; match i0, hi0 with | 0, _ => exact ⟨_, rfl⟩ | n0+1, h0 => exact absurd h0 (Nat.not_lt.2 (Nat.le_add_left 1 n0))) | (intro i0 hi0; match i0, hi0 with | 0, _ => exact ⟨_, rfl⟩ | 1, _ => exact ⟨_, rfl⟩ | n0+2, h0 => exact absurd h0 (Nat.not_lt.2 (Nat.le_add_left 2 n0))) | (intro i0 hi0; match i0, hi0 with | 0, _ => exact ⟨_, rfl⟩ | 1, _ => exact ⟨_, rfl⟩ | 2, _ => exact ⟨_, rfl⟩ | n0+3, h0 => exact absurd h0 (Nat.not_lt.2 (Nat.le_add_left 3 n0))) | (intro i0 hi0; match i0, hi0 with | 0, _ => exact ⟨_, rfl⟩ | 1, _ => exact ⟨_, rfl⟩ | 2, _ => exact ⟨_, rfl⟩ | 3, _ => exact ⟨_, rfl⟩ | n0+4, h0 => exact absurd h0 (Nat.not_lt.2 (Nat.le_add_left 4 n0)))) (by simp [gL, lk, frzL_appV, frzL_md, hsL, ixL, belL_app, renL_app, dv_one, belL_md, renL_md]))⟩
      · have hlt2 : ltS k x.1 = true := by
          rcases (ltP_iff y x).1 hlt with h | h
          · rw [← hyk]; exact h
          · exact absurd (h.1.symm.trans hyk) hk
        have hf := lm_no g3.keys hlt2
        have htl : List.take ps.length (dv (ps.map D.str)) = dv (ps.map D.str) := List.take_of_length_le (by simp [dv])
        repeat' (first | (refine AW.sreg rfl fun K hK => ?_; simp only [go_sem, Nat.reduceAdd, Nat.reduceMul, Int.reduceToNat, Nat.reduceLT, Nat.reduceLeDiff, Nat.le_refl, Nat.reduceEqDiff, ↓reduceIte, beq_self_eq_true, bne_self_eq_false, Int.reduceBEq, Int.reduceBNe, or_self, true_or, or_true, Option.map_some, Option.map_none, List.length_map, hget, hf]) | (refine AW.reg rfl ?_; simp only [go_sem, Nat.reduceAdd, Nat.reduceMul, Int.reduceToNat, Nat.reduceLT, Nat.reduceLeDiff, Nat.le_refl, Nat.reduceEqDiff, ↓reduceIte, beq_self_eq_true, bne_self_eq_false, Int.reduceBEq, Int.reduceBNe, or_self, true_or, or_true, Option.map_some, Option.map_none, List.length_map, hget, hf]) | (refine AW.regD hmix rfl ?_; simp only [go_sem, Nat.reduceAdd, Nat.reduceMul, Int.reduceToNat, Nat.reduceLT, Nat.reduceLeDiff, Nat.le_refl, Nat.reduceEqDiff, ↓reduceIte, beq_self_eq_true, bne_self_eq_false, Int.reduceBEq, Int.reduceBNe, or_self, true_or, or_true, Option.map_some, Option.map_none, List.length_map, hget, hf]) | (refine AW.seq_k fun K hK => ?_) | (refine AW.block ?_) | (refine AW.skip ?_; simp only [Then, InBlock]) | (refine AW.condT rfl (by first | rfl | (simp; omega) | (simp [*]; done) | fail) ?_) | (refine hK _ ?_; clear hK K) | (with_reducible refine And.intro (?_ : regOk _ _ = true) ?_; kernel_rfl) | (with_reducible refine And.intro ?_ ?_; first | omega | assumption | (focus (decide)) | (focus (simp; done)) | (focus (simp; omega)) | (focus (constructor <;> omega)) | fail))
        exact ⟨some (i + 1, gs ++ [(k, ps)], x.1, [x.2]), ⟨by simp, hi, by simp only [htk]; exact g3.next hlt2, ⟨x, by simpa using hx, rfl⟩, by simp⟩, by simp only [ixL]; omega, (Weak.objs hcx [(64, 64), (65, 1344)] rfl rfl (Nat.le_of_ble_eq_true rfl) (by simp [go_sem, gL, kL, List.map_append, dv_push, toDL_dvF, htl, frzL_appV, frzL_md, hsL, ixL, belL_app, renL_app, dv_one, belL_md, renL_md]) (by simp [go_sem, gL, kL, List.map_append, dv_push, toDL_dvF, htl, frzL_appV, frzL_md, hsL, ixL, belL_app, renL_app, dv_one, belL_md, renL_md]) (by first | (intro i hi; exact absurd hi (Nat.not_lt_zero _)) | (intro i0 hi0; match i0, hi0 with | 0, _ => exact ⟨_, rfl⟩ | n0+1, h0 => exact absurd h0 (Nat.not_lt.2 (Nat.le_add_left 1 n0))) | (intro i0 hi0; match i0, hi0 with | 0, _ => exact ⟨_, rfl⟩ | 1, _ => exact ⟨_, rfl⟩ | n0+2, h0 => exact absurd h0 (Nat.not_lt.2 (Nat.le_add_left 2 n0))) | (intro i0 hi0; match i0, hi0 with | 0, _ => exact ⟨_, rfl⟩ | 1, _ => exact ⟨_, rfl⟩ | 2, _ => exact ⟨_, rfl⟩ | n0+3, h0 => exact absurd h0 (Nat.not_lt.2 (Nat.le_add_left 3 n0))) | (intro i0 hi0; match i0, hi0 with | 0, _ => exact ⟨_, rfl⟩ | 1, _ => exact ⟨_, rfl⟩ | 2, _ => exact ⟨_, rfl⟩ | 3, _ => exact ⟨_, rfl⟩ | n0+4, h0 => exact absurd h0 (Nat.not_lt.2 (Nat.le_add_left 4 n0)))) (by simp [gL, lk, toDL_dvF, htl, frzL_appV, frzL_md, hsL, ixL, belL_app, renL_app, dv_one, belL_md, renL_md]))⟩
    · obtain rfl : i = xs.length := by omega
      rw [List.take_length] at g3
      repeat' (first | (refine AW.sreg rfl fun K hK => ?_; simp only [go_sem, Nat.reduceAdd, Nat.reduceMul, Int.reduceToNat, Nat.reduceLT, Nat.reduceLeDiff, Nat.le_refl, Nat.reduceEqDiff, ↓reduceIte, beq_self_eq_true, bne_self_eq_false, Int.reduceBEq, Int.reduceBNe, or_self, true_or, or_true, Option.map_some, Option.map_none, List.length_map]) | (refine AW.seq_k fun K hK => ?_) | (refine AW.exit ?_; simp only [go_sem, ↓reduceIte]) | (refine AW.condF rfl (by first | rfl | (simp; omega) | (simp [*]; done) | fail) ?_) | (refine hK _ ?_; clear hK K) | (clear hK K; refine hK _ ?_; clear hK K))
      exact AW.ret ⟨((gs ++ [(k, ps)]).map (·.1), (gs ++ [(k, ps)]).map grD), g3.done hr hl, Fin.data rfl (frz_lm (e := 9) rfl rfl rfl rfl rfl) rfl⟩
theorem mvS_le {β : Type} [DecidableEq β] (a b : List β) : mvS a b ≤ a.length + b.length := Nat.add_le_add (List.length_filter_le _ _) (List.length_filter_le _ _)
theorem pfx_le {α β : Type} [DecidableEq β] {L : α → List β} (hL : ∀ p, (L p).length ≤ 1000) : ∀ (o : List α) (last : List β), last.length ≤ 1000 → pfx L last o ≤ 2000 * o.length
  | [], last, _ => by simp [pfx]
  | p :: r, last, h => by
    have := mvS_le last (L p)
    have h1 := hL p
    have := pfx_le hL r (L p) h1
    simp only [pfx, List.length_cons]
    omega
theorem endL_at {α β : Type} {L : α → List β} (Q : List β → Prop) (hL : ∀ p, Q (L p)) : ∀ (o : List α) (last : List β), Q last → Q (endL L last o)
  | [], last, h => h
  | p :: r, last, h => endL_at Q hL r (L p) (hL p)
theorem total_any {KS : List Str} {VS : List D} {L : Str → List Str} (hk : LkOk KS VS L) (o : List Str) (hl : o.length ≤ 1000) : Does Tryz.prog 19 [.d (.sl (o.map D.str)), .d (.map (KS.map D.str) VS)] [] (I (totG L [] o)) [] := by
  refine Does.of_AW (n := 30) Tryz.func19 rfl rfl rfl fun cx hcx => ?_
  repeat' (first | (refine AW.sreg rfl fun K hK => ?_; simp only [go_sem, Nat.reduceAdd, Nat.reduceMul, Int.reduceToNat, Nat.reduceLT, Nat.reduceLeDiff, Nat.le_refl, Nat.reduceEqDiff, ↓reduceIte, beq_self_eq_true, bne_self_eq_false, Int.reduceBEq, Int.reduceBNe, or_self, true_or, or_true, Option.map_some, Option.map_none, List.length_map]) | (refine AW.seq_k fun K hK => ?_) | (refine AW.block ?_) | (refine hK _ ?_; clear hK K))
  refine AW.weak (Weak.nilD 6 rfl) ?_
  refine AW.loopF (ι := Nat) [1, 9, 10] (fun p => [(11, I p), (5, I (pfx L [] (o.take p))), (6, .d (.sl ((endL L [] (o.take p)).map D.str)))]) (fun p => []) 6 (fun p => p ≤ o.length) (fun p => o.length - p) 0 (Nat.zero_le _) (Weak.auto hcx rfl rfl (Nat.le_of_ble_eq_true rfl) (by simp [go_sem, gL, kL, renOf, V.obj, lk, Nat.blt, Nat.ble, List.map_append, dv_push, pfx, endL]) (by simp [go_sem, gL, kL, renOf, V.obj, lk, Nat.blt, Nat.ble, List.map_append, dv_push, pfx, endL]) (by first | (intro i hi; exact absurd hi (Nat.not_lt_zero _)) | (intro i0 hi0; match i0, hi0 with | 0, _ => exact ⟨_, rfl⟩ | n0+1, h0 => exact absurd h0 (Nat.not_lt.2 (Nat.le_add_left 1 n0))) | (intro i0 hi0; match i0, hi0 with | 0, _ => exact ⟨_, rfl⟩ | 1, _ => exact ⟨_, rfl⟩ | n0+2, h0 => exact absurd h0 (Nat.not_lt.2 (Nat.le_add_left 2 n0))) | (intro i0 hi0; match i0, hi0 with | 0, _ => exact ⟨_, rfl⟩ | 1, _ => exact ⟨_, rfl⟩ | 2, _ => exact ⟨_, rfl⟩ | n0+3, h0 => exact absurd h0 (Nat.not_lt.2 (Nat.le_add_left 3 n0))) | (intro i0 hi0; match i0, hi0 with | 0, _ => exact ⟨_, rfl⟩ | 1, _ => exact ⟨_, rfl⟩ | 2, _ => exact ⟨_, rfl⟩ | 3, _ => exact ⟨_, rfl⟩ | n0+4, h0 => exact absurd h0 (Nat.not_lt.2 (Nat.le_add_left 4 n0)))) (by simp [go_sem, gL, kL, lk, renOf, V.obj, Nat.blt, Nat.ble, pfx, endL])) ?_; simp only [St.at_nil, St.at_cons, lk, Nat.reduceEqDiff, ↓reduceIte, Option.getD_some, Option.getD_none, List.cons_append, List.nil_append, List.append_nil]
  intro i h1
  have hp := pfx_le hk.len (o.take i) [] (by simp)
  rw [List.length_take] at hp
  have hel := endL_at (fun l => l.length ≤ 1000) hk.len (o.take i) [] (by simp)
  have her := endL_at RiseS hk.rise (o.take i) [] List.Pairwise.nil
  by_cases hi : i < o.length
  · obtain ⟨x, hx, hxm, hxd⟩ := get_some hi
    have hget : (o.map D.str)[i]? = some (.str x) := by simp [hx]
    have htk : o.take (i + 1) = o.take i ++ [x] := by rw [List.take_add_one, hx]; rfl
    have hp2 := pfx_snoc L (o.take i) [] x
    have he2 := endL_snoc L (o.take i) [] x
    have hle := mvS_le (endL L [] (o.take i)) (L x)
    have hlx := hk.len x
    have hm := moves_any (endL L [] (o.take i)) (L x) hel hlx her (hk.rise x)
    rw [← htk] at hp2 he2
    rcases hk.find x with ⟨hf, h0⟩ | ⟨j, hf, hg⟩
    · rw [h0] at hm he2 hp2 hle
      simp only [List.length_nil] at hle
      have hm' : Does Tryz.prog 33 [.d (.sl ((endL L [] (o.take i)).map D.str)), .nils] [] (I (mvS (endL L [] (o.take i)) [])) [] := Does.nil hm
      repeat' (first | (refine AW.sreg rfl fun K hK => ?_; simp only [go_sem, Nat.reduceAdd, Nat.reduceMul, Int.reduceToNat, Nat.reduceLT, Nat.reduceLeDiff, Nat.le_refl, Nat.reduceEqDiff, ↓reduceIte, beq_self_eq_true, bne_self_eq_false, Int.reduceBEq, Int.reduceBNe, or_self, true_or, or_true, Option.map_some, Option.map_none, List.length_map, hget, hf]) | (refine AW.reg rfl ?_; simp only [go_sem, Nat.reduceAdd, Nat.reduceMul, Int.reduceToNat, Nat.reduceLT, Nat.reduceLeDiff, Nat.le_refl, Nat.reduceEqDiff, ↓reduceIte, beq_self_eq_true, bne_self_eq_false, Int.reduceBEq, Int.reduceBNe, or_self, true_or, or_true, Option.map_some, Option.map_none, List.length_map, hget, hf]) | (refine AW.seq_k fun K hK => ?_) | (refine AW.block ?_) | (refine AW.skip ?_; simp only [Then, InBlock]) | (refine AW.condT rfl (by first | rfl | (simp; omega) | (simp [*]; done) | fail) ?_) | (refine hK _ ?_; clear hK K) | (refine run_call _ _ _ ((hm').pure rfl rfl _ _) rfl rfl (dstOk_of rfl) rfl rfl rfl ?_; simp only [go_sem, Nat.reduceAdd, Nat.reduceMul, Int.reduceToNat, Nat.reduceLT, Nat.reduceLeDiff, Nat.le_refl, Nat.reduceEqDiff, ↓reduceIte, beq_self_eq_true, bne_self_eq_false, Int.reduceBEq, Int.reduceBNe, or_self, true_or, or_true, Option.map_some, Option.map_none, List.length_map, hget, hf]) | (with_reducible refine And.intro ?_ ?_; first | omega | assumption | (focus (decide)) | (focus (simp; done)) | (focus (simp; omega)) | (focus (constructor <;> omega)) | fail))
      exact ⟨i + 1, hi, by omega, (Weak.nilD 6 rfl).trans (Weak.auto hcx rfl rfl (Nat.le_of_ble_eq_true rfl) (by simp [go_sem, gL, kL, renOf, V.obj, lk, Nat.blt, Nat.ble, List.map_append, dv_push, he2, hp2]) (by simp [go_sem, gL, kL, renOf, V.obj, lk, Nat.blt, Nat.ble, List.map_append, dv_push, he2, hp2]) (by first | (intro i hi; exact absurd hi (Nat.not_lt_zero _)) | (intro i0 hi0; match i0, hi0 with | 0, _ => exact ⟨_, rfl⟩ | n0+1, h0 => exact absurd h0 (Nat.not_lt.2 (Nat.le_add_left 1 n0))) | (intro i0 hi0; match i0, hi0 with | 0, _ => exact ⟨_, rfl⟩ | 1, _ => exact ⟨_, rfl⟩ | n0+2, h0 => exact absurd h0 (Nat.not_lt.2 (Nat.le_add_left 2 n0))) | (intro i0 hi0; match i0, hi0 with | 0, _ => exact ⟨_, rfl⟩ | 1, _ => exact ⟨_, rfl⟩ | 2, _ => exact ⟨_, rfl⟩ | n0+3, h0 => exact absurd h0 (Nat.not_lt.2 (Nat.le_add_left 3 n0))) | (intro i0 hi0; match i0, hi0 with | 0, _ => exact ⟨_, rfl⟩ | 1, _ => exact ⟨_, rfl⟩ | 2, _ => exact ⟨_, rfl⟩ | 3, _ => exact ⟨_, rfl⟩ | n0+4, h0 => exact absurd h0 (Nat.not_lt.2 (Nat.le_add_left 4 n0)))) (by simp [go_sem, gL, kL, lk, renOf, V.obj, Nat.blt, Nat.ble, he2, hp2]))⟩
    · repeat' (first | (refine AW.sreg rfl fun K hK => ?_; simp only [go_sem, Nat.reduceAdd, Nat.reduceMul, Int.reduceToNat, Nat.reduceLT, Nat.reduceLeDiff, Nat.le_refl, Nat.reduceEqDiff, ↓reduceIte, beq_self_eq_true, bne_self_eq_false, Int.reduceBEq, Int.reduceBNe, or_self, true_or, or_true, Option.map_some, Option.map_none, List.length_map, hget, hf, hg]) | (refine AW.reg rfl ?_; simp only [go_sem, Nat.reduceAdd, Nat.reduceMul, Int.reduceToNat, Nat.reduceLT, Nat.reduceLeDiff, Nat.le_refl, Nat.reduceEqDiff, ↓reduceIte, beq_self_eq_true, bne_self_eq_false, Int.reduceBEq, Int.reduceBNe, or_self, true_or, or_true, Option.map_some, Option.map_none, List.length_map, hget, hf, hg]) | (refine AW.seq_k fun K hK => ?_) | (refine AW.block ?_) | (refine AW.skip ?_; simp only [Then, InBlock]) | (refine AW.condT rfl (by first | rfl | (simp; omega) | (simp [*]; done) | fail) ?_) | (refine hK _ ?_; clear hK K) | (refine run_call _ _ _ ((hm).pure rfl rfl _ _) rfl rfl (dstOk_of rfl) rfl rfl rfl ?_; simp only [go_sem, Nat.reduceAdd, Nat.reduceMul, Int.reduceToNat, Nat.reduceLT, Nat.reduceLeDiff, Nat.le_refl, Nat.reduceEqDiff, ↓reduceIte, beq_self_eq_true, bne_self_eq_false, Int.reduceBEq, Int.reduceBNe, or_self, true_or, or_true, Option.map_some, Option.map_none, List.length_map, hget, hf, hg]) | (with_reducible refine And.intro ?_ ?_; first | omega | assumption | (focus (decide)) | (focus (simp; done)) | (focus (simp; omega)) | (focus (constructor <;> omega)) | fail))
      exact ⟨i + 1, hi, by omega, (Weak.auto hcx rfl rfl (Nat.le_of_ble_eq_true rfl) (by simp [go_sem, gL, kL, renOf, V.obj, lk, Nat.blt, Nat.ble, List.map_append, dv_push, he2, hp2]) (by simp [go_sem, gL, kL, renOf, V.obj, lk, Nat.blt, Nat.ble, List.map_append, dv_push, he2, hp2]) (by first | (intro i hi; exact absurd hi (Nat.not_lt_zero _)) | (intro i0 hi0; match i0, hi0 with | 0, _ => exact ⟨_, rfl⟩ | n0+1, h0 => exact absurd h0 (Nat.not_lt.2 (Nat.le_add_left 1 n0))) | (intro i0 hi0; match i0, hi0 with | 0, _ => exact ⟨_, rfl⟩ | 1, _ => exact ⟨_, rfl⟩ | n0+2, h0 => exact absurd h0 (Nat.not_lt.2 (Nat.le_add_left 2 n0))) | (intro i0 hi0; match i0, hi0 with | 0, _ => exact ⟨_, rfl⟩ | 1, _ => exact ⟨_, rfl⟩ | 2, _ => exact ⟨_, rfl⟩ | n0+3, h0 => exact absurd h0 (Nat.not_lt.2 (Nat.le_add_left 3 n0))) | (intro i0 hi0; match i0, hi0 with | 0, _ => exact ⟨_, rfl⟩ | 1, _ => exact ⟨_, rfl⟩ | 2, _ => exact ⟨_, rfl⟩ | 3, _ => exact ⟨_, rfl⟩ | n0+4, h0 => exact absurd h0 (Nat.not_lt.2 (Nat.le_add_left 4 n0)))) (by simp [go_sem, gL, kL, lk, renOf, V.obj, Nat.blt, Nat.ble, he2, hp2]))⟩
  · obtain rfl : i = o.length := by omega
    have ht := totG_pfx L o []
    rw [List.take_length] at hp hel her
    repeat' (first | (refine AW.sreg rfl fun K hK => ?_; simp only [go_sem, Nat.reduceAdd, Nat.reduceMul, Int.reduceToNat, Nat.reduceLT, Nat.reduceLeDiff, Nat.le_refl, Nat.reduceEqDiff, ↓reduceIte, beq_self_eq_true, bne_self_eq_false, Int.reduceBEq, Int.reduceBNe, or_self, true_or, or_true, Option.map_some, Option.map_none, List.length_map, List.take_length]) | (refine AW.seq_k fun K hK => ?_) | (refine AW.exit ?_; simp only [go_sem, ↓reduceIte]) | (refine AW.condF rfl (by first | rfl | (simp; omega) | (simp [*]; done) | fail) ?_) | (refine hK _ ?_; clear hK K) | (clear hK K; refine hK _ ?_; clear hK K) | (with_reducible refine And.intro ?_ ?_; first | omega | assumption | (focus (decide)) | (focus (simp; done)) | (focus (simp; omega)) | (focus (constructor <;> omega)) | fail))
    exact AW.ret (Fin.data rfl (by simp [go_sem, ht]) rfl)
end Go.AX
