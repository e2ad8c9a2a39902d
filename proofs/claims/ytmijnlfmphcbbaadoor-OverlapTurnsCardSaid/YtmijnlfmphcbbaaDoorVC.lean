/- Words of texts: the reference. -/
import Derived.Test.YtmijnlfmphcbbaaDoorVB
import Derived.Test.YtmijnlfmphcbbaaDoorAx34
set_option linter.unusedSimpArgs false
set_option linter.unusedVariables false
set_option linter.unnecessarySimpa false
set_option maxRecDepth 1000000
set_option maxHeartbeats 4000000
namespace Go.AX
open Go Go.Proofs Go.RowKit
theorem stC_run {s : Str} {i : Nat} (h0 : i = 0 ∨ wbA s (i - 1) = false) : ∀ k, i < k → (∀ j, i ≤ j → j < k → wbA s j = true) → stC s k = stC s i + 1
  | 0, h, _ => by omega
  | k + 1, h, hw => by
    have hk := hw k (by omega) (by omega)
    by_cases e : i = k
    · subst e
      simp only [stC, hk, true_and]
      rw [if_pos h0]
    · have ih := stC_run h0 k (by omega) fun j h1 h2 => hw j h1 (by omega)
      have hp := hw (k - 1) (by omega) (by omega)
      simp only [stC, hk, true_and]
      rw [if_neg (fun hh => hh.elim (fun h => by omega) (fun h => by rw [hp] at h; cases h)), ih]
theorem wbA_at {s : Str} {i : Nat} {c : UInt8} (h : s[i]? = some c) : wbA s i = wb c := by simp [wbA, h]
abbrev Sp := Nat × Nat
abbrev spD (p : Sp) : D := .agg [.int .i64 (p.1 : Int), .int .i64 (p.2 : Int)]
theorem spotsOf_any (s : Str) (hl : s.length ≤ 30000) : DoesI Tryd.prog 28 [S s] [] (fun q : List Sp => q.length = stC s s.length ∧ ∀ p ∈ q, p.1 ≤ p.2 ∧ p.2 ≤ s.length) (fun q => .d (.sl (q.map spD))) (fun _ => []) := by
  refine DoesI.of_AW (n := 38) Tryd.func28 rfl rfl rfl fun cx hcx => ?_
  repeat' (first | (refine AW.sreg rfl fun K hK => ?_; simp only [go_sem, Nat.reduceAdd, Nat.reduceMul, Int.reduceToNat, Nat.reduceLT, Nat.reduceLeDiff, Nat.le_refl, Nat.reduceEqDiff, ↓reduceIte, beq_self_eq_true, bne_self_eq_false, Int.reduceBEq, Int.reduceBNe, or_self, true_or, or_true, Option.map_some, Option.map_none]) | (refine AW.seq_k fun K hK => ?_) | (refine AW.block ?_) | (refine hK _ ?_; clear hK K))
  refine AW.weak (Weak.nil 3 51 2 rfl) ?_
  refine AW.loopF (ι := Nat × List Sp) [0] (fun p => [(3, .slr 192 0 p.2.length), (4, I p.1)]) (fun p => [(192, some (O.vec 51 2 (dv (p.2.map spD))))]) 4 (fun p => p.1 ≤ s.length + 1 ∧ (p.1 = 0 ∨ s.length < p.1 ∨ wbA s (p.1 - 1) = false) ∧ p.2.length = stC s (min p.1 s.length) ∧ ∀ q ∈ p.2, q.1 ≤ q.2 ∧ q.2 ≤ s.length) (fun p => s.length + 1 - p.1) (0, []) ⟨Nat.zero_le _, .inl rfl, by simp [stC], by simp⟩ (Weak.auto hcx rfl rfl (Nat.le_of_ble_eq_true rfl) (by simp [go_sem, gL, kL, renOf, V.obj, lk, Nat.blt, Nat.ble, List.map_append, dv_push]) (by simp [go_sem, gL, kL, renOf, V.obj, lk, Nat.blt, Nat.ble, List.map_append, dv_push]) (by first | exact pk0 | exact pk1 ⟨_, rfl⟩ | exact pk2 ⟨_, rfl⟩ ⟨_, rfl⟩ | exact pk3 ⟨_, rfl⟩ ⟨_, rfl⟩ ⟨_, rfl⟩ | exact pk4 ⟨_, rfl⟩ ⟨_, rfl⟩ ⟨_, rfl⟩ ⟨_, rfl⟩) (by simp [go_sem, gL, kL, lk, renOf, V.obj, Nat.blt, Nat.ble])) ?_; simp only [St.at_nil, St.at_cons, lk, Nat.reduceEqDiff, ↓reduceIte, Option.getD_some, Option.getD_none, List.cons_append, List.nil_append, List.append_nil]
  rintro ⟨i, out⟩ ⟨h1, h2, h3, h4⟩
  dsimp only at h1 h2 h3 h4 ⊢
  have hst := stC_le s (min i s.length)
  by_cases hi : i < s.length
  · obtain ⟨c, hc, hcm, -⟩ := get_some hi
    have hwc := wbA_at hc
    have hwb := wordByte_any c
    rw [← hwc] at hwb
    cases hb : wbA s i with
    | false =>
      rw [hb] at hwb
      repeat' (first | ((first | refine AW.sreg rfl fun K hK => ?_ | refine AW.reg rfl ?_ | refine run_call _ _ _ ((hwb).pure rfl rfl _ _) rfl rfl (dstOk_of rfl) rfl rfl rfl ?_); simp only [go_sem, Nat.reduceAdd, Nat.reduceMul, Int.reduceToNat, Nat.reduceLT, Nat.reduceLeDiff, Nat.le_refl, Nat.reduceEqDiff, ↓reduceIte, beq_self_eq_true, bne_self_eq_false, Int.reduceBEq, Int.reduceBNe, or_self, true_or, or_true, Option.map_some, Option.map_none, hc]) | (refine AW.seq_k fun K hK => ?_) | (refine AW.block ?_) | (refine AW.skip ?_; simp only [Then, InBlock]) | (refine AW.exit ?_; simp only [go_sem, ↓reduceIte]) | (refine AW.condT rfl (by first | rfl | (simp; omega) | (simp [*]; done) | fail) ?_) | (refine hK _ ?_; clear hK K) | (clear hK K; refine hK _ ?_; clear hK K) | (with_reducible refine And.intro ?_ ?_; first | omega | assumption | (focus (decide)) | (focus (simp; done)) | (focus (simp; omega)) | (focus (constructor <;> omega)) | fail))
      exact ⟨(i + 1, out), ⟨by simp only; omega, .inr (.inr (by simpa using hb)), by
        simp only
        rw [show min (i + 1) s.length = i + 1 by omega]
        rw [show min i s.length = i by omega] at h3
        simp only [stC, hb]
        simpa using h3, h4⟩, by simp only; omega, (Weak.auto hcx rfl rfl (Nat.le_of_ble_eq_true rfl) (by simp [go_sem, gL, kL, renOf, V.obj, lk, Nat.blt, Nat.ble, List.map_append, dv_push]) (by simp [go_sem, gL, kL, renOf, V.obj, lk, Nat.blt, Nat.ble, List.map_append, dv_push]) (by first | exact pk0 | exact pk1 ⟨_, rfl⟩ | exact pk2 ⟨_, rfl⟩ ⟨_, rfl⟩ | exact pk3 ⟨_, rfl⟩ ⟨_, rfl⟩ ⟨_, rfl⟩ | exact pk4 ⟨_, rfl⟩ ⟨_, rfl⟩ ⟨_, rfl⟩ ⟨_, rfl⟩) (by simp [go_sem, gL, kL, lk, renOf, V.obj, Nat.blt, Nat.ble]))⟩
    | true =>
      rw [hb] at hwb
      repeat' (first | ((first | refine AW.sreg rfl fun K hK => ?_ | refine run_call _ _ _ ((hwb).pure rfl rfl _ _) rfl rfl (dstOk_of rfl) rfl rfl rfl ?_); simp only [go_sem, Nat.reduceAdd, Nat.reduceMul, Int.reduceToNat, Nat.reduceLT, Nat.reduceLeDiff, Nat.le_refl, Nat.reduceEqDiff, ↓reduceIte, beq_self_eq_true, bne_self_eq_false, Int.reduceBEq, Int.reduceBNe, or_self, true_or, or_true, Option.map_some, Option.map_none, hc]) | (refine AW.seq_k fun K hK => ?_) | (refine AW.block ?_) | (refine AW.skip ?_; simp only [Then, InBlock]) | (refine AW.condT rfl (by first | rfl | (simp; omega) | (simp [*]; done) | fail) ?_) | (refine AW.condF rfl (by first | rfl | (simp; omega) | (simp [*]; done) | fail) ?_) | (refine hK _ ?_; clear hK K) | (with_reducible refine And.intro ?_ ?_; first | omega | assumption | (focus (decide)) | (focus (simp; done)) | (focus (simp; omega)) | (focus (constructor <;> omega)) | fail))
      refine AW.loopF (ι := Nat) [0, 3, 4] (fun p => [(5, I p)]) (fun p => [(192, some (O.vec 51 2 (dv (out.map spD))))]) 18 (fun p => i ≤ p ∧ p ≤ s.length ∧ ∀ j, i ≤ j → j < p → wbA s j = true) (fun p => s.length - p) i ⟨Nat.le_refl _, by omega, fun j h1 h2 => by omega⟩ (Weak.auto hcx rfl rfl (Nat.le_of_ble_eq_true rfl) (by simp [go_sem, gL, kL, renOf, V.obj, lk, Nat.blt, Nat.ble, List.map_append, dv_push]) (by simp [go_sem, gL, kL, renOf, V.obj, lk, Nat.blt, Nat.ble, List.map_append, dv_push]) (by first | exact pk0 | exact pk1 ⟨_, rfl⟩ | exact pk2 ⟨_, rfl⟩ ⟨_, rfl⟩ | exact pk3 ⟨_, rfl⟩ ⟨_, rfl⟩ ⟨_, rfl⟩ | exact pk4 ⟨_, rfl⟩ ⟨_, rfl⟩ ⟨_, rfl⟩ ⟨_, rfl⟩) (by simp [go_sem, gL, kL, lk, renOf, V.obj, Nat.blt, Nat.ble])) ?_; simp only [St.at_nil, St.at_cons, lk, Nat.reduceEqDiff, ↓reduceIte, Option.getD_some, Option.getD_none, List.cons_append, List.nil_append, List.append_nil]
      rintro k ⟨k1, k2, k3⟩
      have hfin : (k = s.length ∨ wbA s k = false) → i < k → k + 1 ≤ s.length + 1 ∧ (k + 1 = 0 ∨ s.length < k + 1 ∨ wbA s (k + 1 - 1) = false) ∧ (out ++ [(i, k)]).length = stC s (min (k + 1) s.length) ∧ ∀ q ∈ out ++ [(i, k)], q.1 ≤ q.2 ∧ q.2 ≤ s.length := fun hk hik => by
        have hru := stC_run (s := s) (i := i) (h2.imp id (fun h => h.elim (fun h => by omega) id)) k hik k3
        rw [show min i s.length = i by omega] at h3
        refine ⟨by omega, ?_, ?_, fun q hq => ?_⟩
        · rcases hk with hk | hk
          · exact .inr (.inl (by omega))
          · exact .inr (.inr (by simpa using hk))
        · rw [List.length_append, List.length_singleton, h3]
          rcases hk with hk | hk
          · rw [show min (k + 1) s.length = k by omega, hru]
          · by_cases hkl : k < s.length
            · rw [show min (k + 1) s.length = k + 1 by omega]
              simp only [stC, hk]
              simp
              omega
            · rw [show min (k + 1) s.length = k by omega, hru]
        · rcases List.mem_append.1 hq with hq | hq
          · exact h4 q hq
          · obtain rfl := List.mem_singleton.1 hq
            exact ⟨by simp only; omega, k2⟩
      have htl : List.take out.length (dv (out.map spD)) = dv (out.map spD) := List.take_of_length_le (by simp [dv])
      by_cases hk : k < s.length
      · obtain ⟨d, hd, -, -⟩ := get_some hk
        have hwd := wbA_at hd
        have hwb2 := wordByte_any d
        rw [← hwd] at hwb2
        cases hb2 : wbA s k with
        | true =>
          rw [hb2] at hwb2
          repeat' (first | ((first | refine AW.sreg rfl fun K hK => ?_ | refine AW.reg rfl ?_ | refine run_call _ _ _ ((hwb2).pure rfl rfl _ _) rfl rfl (dstOk_of rfl) rfl rfl rfl ?_); simp only [go_sem, Nat.reduceAdd, Nat.reduceMul, Int.reduceToNat, Nat.reduceLT, Nat.reduceLeDiff, Nat.le_refl, Nat.reduceEqDiff, ↓reduceIte, beq_self_eq_true, bne_self_eq_false, Int.reduceBEq, Int.reduceBNe, or_self, true_or, or_true, Option.map_some, Option.map_none, hd]) | (refine AW.seq_k fun K hK => ?_) | (refine AW.block ?_) | (refine AW.skip ?_; simp only [Then, InBlock]) | (refine AW.condT rfl (by first | rfl | (simp; omega) | (simp [*]; done) | fail) ?_) | (refine hK _ ?_; clear hK K) | (refine stepB_split (fun h => ?_) (fun h => ?_) <;> (have hb0 := h) <;> (try simp only [Bool.not_eq_true', Bool.not_eq_false'] at hb0) <;> (try simp only [decide_eq_true_eq, decide_eq_false_iff_not, Bool.not_eq_true', Bool.not_eq_false', Bool.not_eq_eq_eq_not, Bool.not_true, Bool.not_false, beq_iff_eq, bne_iff_ne, beq_eq_false_iff_ne, ne_eq, Bool.and_eq_true, Bool.or_eq_true, Bool.or_eq_false_iff] at h) <;> simp only [go_sem, Nat.reduceAdd, Nat.reduceMul, Int.reduceToNat, Nat.reduceLT, Nat.reduceLeDiff, Nat.le_refl, Nat.reduceEqDiff, ↓reduceIte, beq_self_eq_true, bne_self_eq_false, Int.reduceBEq, Int.reduceBNe, or_self, true_or, or_true, Option.map_some, Option.map_none, hb0, h, decide_true, decide_false, hd] <;> (try clear hb0)) | (with_reducible refine And.intro ?_ ?_; first | omega | assumption | (focus (decide)) | (focus (simp; done)) | (focus (simp; omega)) | (focus (constructor <;> omega)) | fail) | (exfalso; omega))
          exact ⟨k + 1, ⟨by omega, hk, fun j j1 j2 => by
            by_cases e : j = k
            · subst e; exact hb2
            · exact k3 j j1 (by omega)⟩, by omega, (Weak.auto hcx rfl rfl (Nat.le_of_ble_eq_true rfl) (by simp [go_sem, gL, kL, renOf, V.obj, lk, Nat.blt, Nat.ble, List.map_append, dv_push]) (by simp [go_sem, gL, kL, renOf, V.obj, lk, Nat.blt, Nat.ble, List.map_append, dv_push]) (by first | exact pk0 | exact pk1 ⟨_, rfl⟩ | exact pk2 ⟨_, rfl⟩ ⟨_, rfl⟩ | exact pk3 ⟨_, rfl⟩ ⟨_, rfl⟩ ⟨_, rfl⟩ | exact pk4 ⟨_, rfl⟩ ⟨_, rfl⟩ ⟨_, rfl⟩ ⟨_, rfl⟩) (by simp [go_sem, gL, kL, lk, renOf, V.obj, Nat.blt, Nat.ble]))⟩
        | false =>
          rw [hb2] at hwb2
          have hik : i < k := by
            by_cases e : i = k
            · subst e; rw [hb] at hb2; cases hb2
            · omega
          repeat' (first | ((first | refine AW.sreg rfl fun K hK => ?_ | refine AW.reg rfl ?_ | refine run_call _ _ _ ((hwb2).pure rfl rfl _ _) rfl rfl (dstOk_of rfl) rfl rfl rfl ?_); simp only [go_sem, Nat.reduceAdd, Nat.reduceMul, Int.reduceToNat, Nat.reduceLT, Nat.reduceLeDiff, Nat.le_refl, Nat.reduceEqDiff, ↓reduceIte, beq_self_eq_true, bne_self_eq_false, Int.reduceBEq, Int.reduceBNe, or_self, true_or, or_true, Option.map_some, Option.map_none, hd, htl, List.length_map]) | (refine AW.seq_k fun K hK => ?_) | (refine AW.block ?_) | (refine AW.skip ?_; simp only [Then, InBlock]) | (refine AW.exit ?_; simp only [go_sem, ↓reduceIte]) | (refine AW.condT rfl (by first | rfl | (simp; omega) | (simp [*]; done) | fail) ?_) | (refine AW.condF rfl (by first | rfl | (simp; omega) | (simp [*]; done) | fail) ?_) | (refine hK _ ?_; clear hK K) | (clear hK K; refine hK _ ?_; clear hK K) | (refine stepB_split (fun h => ?_) (fun h => ?_) <;> (have hb0 := h) <;> (try simp only [Bool.not_eq_true', Bool.not_eq_false'] at hb0) <;> (try simp only [decide_eq_true_eq, decide_eq_false_iff_not, Bool.not_eq_true', Bool.not_eq_false', Bool.not_eq_eq_eq_not, Bool.not_true, Bool.not_false, beq_iff_eq, bne_iff_ne, beq_eq_false_iff_ne, ne_eq, Bool.and_eq_true, Bool.or_eq_true, Bool.or_eq_false_iff] at h) <;> simp only [go_sem, Nat.reduceAdd, Nat.reduceMul, Int.reduceToNat, Nat.reduceLT, Nat.reduceLeDiff, Nat.le_refl, Nat.reduceEqDiff, ↓reduceIte, beq_self_eq_true, bne_self_eq_false, Int.reduceBEq, Int.reduceBNe, or_self, true_or, or_true, Option.map_some, Option.map_none, hb0, h, decide_true, decide_false, hd, htl, List.length_map] <;> (try clear hb0)) | (with_reducible refine And.intro ?_ ?_; first | omega | assumption | (focus (decide)) | (focus (simp; done)) | (focus (simp; omega)) | (focus (constructor <;> omega)) | fail) | (exfalso; omega))
          exact ⟨(k + 1, out ++ [(i, k)]), hfin (.inr hb2) hik, by simp only; omega, (Weak.auto hcx rfl rfl (Nat.le_of_ble_eq_true rfl) (by simp [go_sem, gL, kL, renOf, V.obj, lk, Nat.blt, Nat.ble, List.map_append, dv_push]) (by simp [go_sem, gL, kL, renOf, V.obj, lk, Nat.blt, Nat.ble, List.map_append, dv_push]) (by first | exact pk0 | exact pk1 ⟨_, rfl⟩ | exact pk2 ⟨_, rfl⟩ ⟨_, rfl⟩ | exact pk3 ⟨_, rfl⟩ ⟨_, rfl⟩ ⟨_, rfl⟩ | exact pk4 ⟨_, rfl⟩ ⟨_, rfl⟩ ⟨_, rfl⟩ ⟨_, rfl⟩) (by simp [go_sem, gL, kL, lk, renOf, V.obj, Nat.blt, Nat.ble]))⟩
      · obtain rfl : k = s.length := by omega
        repeat' (first | ((first | refine AW.sreg rfl fun K hK => ?_ | refine AW.reg rfl ?_); simp only [go_sem, Nat.reduceAdd, Nat.reduceMul, Int.reduceToNat, Nat.reduceLT, Nat.reduceLeDiff, Nat.le_refl, Nat.reduceEqDiff, ↓reduceIte, beq_self_eq_true, bne_self_eq_false, Int.reduceBEq, Int.reduceBNe, or_self, true_or, or_true, Option.map_some, Option.map_none, htl, List.length_map]) | (refine AW.seq_k fun K hK => ?_) | (refine AW.exit ?_; simp only [go_sem, ↓reduceIte]) | (refine AW.condF rfl (by first | rfl | (simp; omega) | (simp [*]; done) | fail) ?_) | (refine hK _ ?_; clear hK K) | (clear hK K; refine hK _ ?_; clear hK K) | (refine stepB_split (fun h => ?_) (fun h => ?_) <;> (have hb0 := h) <;> (try simp only [Bool.not_eq_true', Bool.not_eq_false'] at hb0) <;> (try simp only [decide_eq_true_eq, decide_eq_false_iff_not, Bool.not_eq_true', Bool.not_eq_false', Bool.not_eq_eq_eq_not, Bool.not_true, Bool.not_false, beq_iff_eq, bne_iff_ne, beq_eq_false_iff_ne, ne_eq, Bool.and_eq_true, Bool.or_eq_true, Bool.or_eq_false_iff] at h) <;> simp only [go_sem, Nat.reduceAdd, Nat.reduceMul, Int.reduceToNat, Nat.reduceLT, Nat.reduceLeDiff, Nat.le_refl, Nat.reduceEqDiff, ↓reduceIte, beq_self_eq_true, bne_self_eq_false, Int.reduceBEq, Int.reduceBNe, or_self, true_or, or_true, Option.map_some, Option.map_none, hb0, h, decide_true, decide_false, htl, List.length_map] <;> (try clear hb0)) | (with_reducible refine And.intro ?_ ?_; first | omega | assumption | (focus (decide)) | (focus (simp; done)) | (focus (simp; omega)) | (focus (constructor <;> omega)) | fail) | (exfalso; omega))
        exact ⟨(s.length + 1, out ++ [(i, s.length)]), hfin (.inl rfl) hi, by simp only; omega, (Weak.auto hcx rfl rfl (Nat.le_of_ble_eq_true rfl) (by simp [go_sem, gL, kL, renOf, V.obj, lk, Nat.blt, Nat.ble, List.map_append, dv_push]) (by simp [go_sem, gL, kL, renOf, V.obj, lk, Nat.blt, Nat.ble, List.map_append, dv_push]) (by first | exact pk0 | exact pk1 ⟨_, rfl⟩ | exact pk2 ⟨_, rfl⟩ ⟨_, rfl⟩ | exact pk3 ⟨_, rfl⟩ ⟨_, rfl⟩ ⟨_, rfl⟩ | exact pk4 ⟨_, rfl⟩ ⟨_, rfl⟩ ⟨_, rfl⟩ ⟨_, rfl⟩) (by simp [go_sem, gL, kL, lk, renOf, V.obj, Nat.blt, Nat.ble]))⟩
  · repeat' (first | (refine AW.sreg rfl fun K hK => ?_; simp only [go_sem, Nat.reduceAdd, Nat.reduceMul, Int.reduceToNat, Nat.reduceLT, Nat.reduceLeDiff, Nat.le_refl, Nat.reduceEqDiff, ↓reduceIte, beq_self_eq_true, bne_self_eq_false, Int.reduceBEq, Int.reduceBNe, or_self, true_or, or_true, Option.map_some, Option.map_none]) | (refine AW.seq_k fun K hK => ?_) | (refine AW.exit ?_; simp only [go_sem, ↓reduceIte]) | (refine AW.condF rfl (by first | rfl | (simp; omega) | (simp [*]; done) | fail) ?_) | (refine hK _ ?_; clear hK K) | (clear hK K; refine hK _ ?_; clear hK K))
    refine AW.ret ⟨out, ⟨?_, h4⟩, Fin.data rfl ((frz_slr rfl rfl (by simp)).trans (by simp [go_sem])) rfl⟩
    rw [h3, show min i s.length = s.length by omega]
theorem wordsOfR_any (s : Str) (hl : s.length ≤ 20000) : DoesI Tryd.prog 15 [S s] [] (fun q : List Str => q.length = stC s s.length) (fun q => .d (.sl (q.map D.str))) (fun _ => []) := by
  have h1 := spotsOf_any s (by omega)
  refine DoesI.of_AW (n := 25) Tryd.func15 rfl rfl rfl fun cx hcx => ?_
  repeat' (first | (refine AW.sreg rfl fun K hK => ?_; simp only [go_sem, Nat.reduceAdd, Nat.reduceMul, Int.reduceToNat, Nat.reduceLT, Nat.reduceLeDiff, Nat.le_refl, Nat.reduceEqDiff, ↓reduceIte, beq_self_eq_true, bne_self_eq_false, Int.reduceBEq, Int.reduceBNe, or_self, true_or, or_true, Option.map_some, Option.map_none]) | (refine AW.seq_k fun K hK => ?_) | (refine AW.block ?_) | (refine hK _ ?_; clear hK K) | (refine run_callI _ _ _ ((h1).pure rfl (fun _ => rfl) _ _) rfl rfl (dstOk_of rfl) rfl rfl rfl ?_; rintro sp ⟨g1, g2⟩; (try dsimp only at sp); (try dsimp only at g1); (try dsimp only at g2); simp only [go_sem, Nat.reduceAdd, Nat.reduceMul, Int.reduceToNat, Nat.reduceLT, Nat.reduceLeDiff, Nat.le_refl, Nat.reduceEqDiff, ↓reduceIte, beq_self_eq_true, bne_self_eq_false, Int.reduceBEq, Int.reduceBNe, or_self, true_or, or_true, Option.map_some, Option.map_none]))
  refine AW.weak (Weak.nil 3 9 1 rfl) ?_
  refine AW.loopF (ι := Nat × List Str) [0, 7, 8] (fun p => [(3, .slr 384 0 p.2.length), (9, I p.1)]) (fun p => [(384, some (O.vec 9 1 (dv (p.2.map D.str))))]) 7 (fun p => p.1 ≤ sp.length ∧ p.2.length = p.1) (fun p => sp.length - p.1) (0, []) ⟨Nat.zero_le _, rfl⟩ (Weak.auto hcx rfl rfl (Nat.le_of_ble_eq_true rfl) (by simp [go_sem, gL, kL, renOf, V.obj, lk, Nat.blt, Nat.ble, List.map_append, dv_push]) (by simp [go_sem, gL, kL, renOf, V.obj, lk, Nat.blt, Nat.ble, List.map_append, dv_push]) (by first | exact pk0 | exact pk1 ⟨_, rfl⟩ | exact pk2 ⟨_, rfl⟩ ⟨_, rfl⟩ | exact pk3 ⟨_, rfl⟩ ⟨_, rfl⟩ ⟨_, rfl⟩ | exact pk4 ⟨_, rfl⟩ ⟨_, rfl⟩ ⟨_, rfl⟩ ⟨_, rfl⟩) (by simp [go_sem, gL, kL, lk, renOf, V.obj, Nat.blt, Nat.ble])) ?_; simp only [St.at_nil, St.at_cons, lk, Nat.reduceEqDiff, ↓reduceIte, Option.getD_some, Option.getD_none, List.cons_append, List.nil_append, List.append_nil]
  rintro ⟨i, out⟩ ⟨i1, i2⟩
  dsimp only at i1 i2 ⊢
  have hcl := stC_le s s.length
  by_cases hi : i < sp.length
  · obtain ⟨x, hx, hxm, -⟩ := get_some hi
    obtain ⟨x1, x2⟩ := g2 x hxm
    have hget : (sp.map spD)[i]? = some (spD x) := by simp only [List.getElem?_map, hx, Option.map_some]
    have hlo : DoesI Tryd.prog 29 [S ((s.drop x.1).take (x.2 - x.1))] [] (fun t : Str => True) (fun t => S t) (fun _ => []) := refLower_any _ (by simp only [List.length_take, List.length_drop]; omega)
    have htl : List.take out.length (dv (out.map D.str)) = dv (out.map D.str) := List.take_of_length_le (by simp [dv])
    repeat' (first | ((first | refine AW.sreg rfl fun K hK => ?_ | refine AW.reg rfl ?_); simp only [go_sem, Nat.reduceAdd, Nat.reduceMul, Int.reduceToNat, Nat.reduceLT, Nat.reduceLeDiff, Nat.le_refl, Nat.reduceEqDiff, ↓reduceIte, beq_self_eq_true, bne_self_eq_false, Int.reduceBEq, Int.reduceBNe, or_self, true_or, or_true, Option.map_some, Option.map_none, List.length_map, hget, htl, Int.toNat_natCast]) | (refine AW.seq_k fun K hK => ?_) | (refine AW.block ?_) | (refine AW.skip ?_; simp only [Then, InBlock]) | (refine AW.condT rfl (by first | rfl | (simp; omega) | (simp [*]; done) | fail) ?_) | (refine hK _ ?_; clear hK K) | (refine run_callI _ _ _ ((hlo).pure rfl (fun _ => rfl) _ _) rfl rfl (dstOk_of rfl) rfl rfl rfl ?_; rintro t ht; (try dsimp only at t); (try dsimp only at ht); simp only [go_sem, Nat.reduceAdd, Nat.reduceMul, Int.reduceToNat, Nat.reduceLT, Nat.reduceLeDiff, Nat.le_refl, Nat.reduceEqDiff, ↓reduceIte, beq_self_eq_true, bne_self_eq_false, Int.reduceBEq, Int.reduceBNe, or_self, true_or, or_true, Option.map_some, Option.map_none, List.length_map, hget, htl, Int.toNat_natCast]) | (with_reducible refine And.intro ?_ ?_; first | omega | assumption | (focus (decide)) | (focus (simp; done)) | (focus (simp; omega)) | (focus (constructor <;> omega)) | fail))
    exact ⟨(i + 1, out ++ [t]), ⟨hi, by simp [i2]⟩, by simp only; omega, (Weak.auto hcx rfl rfl (Nat.le_of_ble_eq_true rfl) (by simp [go_sem, gL, kL, renOf, V.obj, lk, Nat.blt, Nat.ble, List.map_append, dv_push]) (by simp [go_sem, gL, kL, renOf, V.obj, lk, Nat.blt, Nat.ble, List.map_append, dv_push]) (by first | exact pk0 | exact pk1 ⟨_, rfl⟩ | exact pk2 ⟨_, rfl⟩ ⟨_, rfl⟩ | exact pk3 ⟨_, rfl⟩ ⟨_, rfl⟩ ⟨_, rfl⟩ | exact pk4 ⟨_, rfl⟩ ⟨_, rfl⟩ ⟨_, rfl⟩ ⟨_, rfl⟩) (by simp [go_sem, gL, kL, lk, renOf, V.obj, Nat.blt, Nat.ble]))⟩
  · obtain rfl : i = sp.length := by omega
    repeat' (first | (refine AW.sreg rfl fun K hK => ?_; simp only [go_sem, Nat.reduceAdd, Nat.reduceMul, Int.reduceToNat, Nat.reduceLT, Nat.reduceLeDiff, Nat.le_refl, Nat.reduceEqDiff, ↓reduceIte, beq_self_eq_true, bne_self_eq_false, Int.reduceBEq, Int.reduceBNe, or_self, true_or, or_true, Option.map_some, Option.map_none, List.length_map]) | (refine AW.seq_k fun K hK => ?_) | (refine AW.exit ?_; simp only [go_sem, ↓reduceIte]) | (refine AW.condF rfl (by first | rfl | (simp; omega) | (simp [*]; done) | fail) ?_) | (refine hK _ ?_; clear hK K) | (clear hK K; refine hK _ ?_; clear hK K))
    exact AW.ret ⟨out, by omega, Fin.data rfl ((frz_slr rfl rfl (by simp)).trans (by simp [go_sem])) rfl⟩
theorem bf0 {s : Str} (h : bfF s = 0) : s.length ≤ 20000 ∧ textB s = true := by
  unfold bfF at h
  split at h
  · cases h
  · split at h
    · rename_i h1 h2
      exact ⟨by omega, h2⟩
    · cases h
def OkT (s : Str) : Prop := bfF s = 0 ∧ stC s s.length ≤ 600
theorem runsFault_any (a b : Str) (least : Int) (ha : a.length ≤ 30000) (hb : b.length ≤ 30000) : DoesI Tryd.prog 6 [S a, S b, I least] [] (fun q : Int => q = 0 → OkT a ∧ OkT b) (fun q => I q) (fun _ => []) := by
  have f1 := bodyFault_any a ha
  have f2 := bodyFault_any b hb
  have w1 : bfF a = 0 → _ := fun h => wordsOfR_any a (bf0 h).1
  have w2 : bfF b = 0 → _ := fun h => wordsOfR_any b (bf0 h).1
  have c1 := stC_le a a.length
  have c2 := stC_le b b.length
  unfold OkT
  generalize bfF a = x at *
  generalize bfF b = y at *
  generalize stC a a.length = u at *
  generalize stC b b.length = v at *
  refine DoesI.of_AW (n := 34) Tryd.func6 rfl rfl rfl fun cx hcx => ?_
  by_cases hx : x = 0
  case neg =>
    have hxb : (x != 0) = true := by simpa using hx
    repeat' (first | ((first | refine AW.sreg rfl fun K hK => ?_ | refine run_call _ _ _ ((f1).pure rfl rfl _ _) rfl rfl (dstOk_of rfl) rfl rfl rfl ?_); simp only [go_sem, Nat.reduceAdd, Nat.reduceMul, Int.reduceToNat, Nat.reduceLT, Nat.reduceLeDiff, Nat.le_refl, Nat.reduceEqDiff, ↓reduceIte, beq_self_eq_true, bne_self_eq_false, Int.reduceBEq, Int.reduceBNe, or_self, true_or, or_true, Option.map_some, Option.map_none, hxb]) | (refine AW.seq_k fun K hK => ?_) | (refine AW.block ?_) | (refine AW.skip ?_; simp only [Then, InBlock]) | (refine AW.condT rfl (by first | rfl | (simp; omega) | (simp [*]; done) | fail) ?_) | (refine hK _ ?_; clear hK K) | (refine AW.unroll 1 ?_; simp only [AWr]) | (with_reducible refine And.intro ?_ ?_; first | omega | assumption | (focus (decide)) | (focus (simp; done)) | (focus (simp; omega)) | (focus (constructor <;> omega)) | fail))
    exact AW.ret ⟨x, fun h => absurd h hx, Fin.data rfl (by simp [go_sem]) rfl⟩
  replace w1 := w1 hx
  subst hx
  by_cases hy : y = 0
  case neg =>
    have hyb : (y != 0) = true := by simpa using hy
    repeat' (first | ((first | refine AW.sreg rfl fun K hK => ?_ | refine AW.reg rfl ?_ | refine run_call _ _ _ ((f1).pure rfl rfl _ _) rfl rfl (dstOk_of rfl) rfl rfl rfl ?_ | refine run_call _ _ _ ((f2).pure rfl rfl _ _) rfl rfl (dstOk_of rfl) rfl rfl rfl ?_); simp only [go_sem, Nat.reduceAdd, Nat.reduceMul, Int.reduceToNat, Nat.reduceLT, Nat.reduceLeDiff, Nat.le_refl, Nat.reduceEqDiff, ↓reduceIte, beq_self_eq_true, bne_self_eq_false, Int.reduceBEq, Int.reduceBNe, or_self, true_or, or_true, Option.map_some, Option.map_none, hyb, Int.reduceAdd, List.length_map]) | (refine AW.seq_k fun K hK => ?_) | (refine AW.block ?_) | (refine AW.skip ?_; simp only [Then, InBlock]) | (refine AW.condT rfl (by first | rfl | (simp; omega) | (simp [*]; done) | fail) ?_) | (refine AW.condF rfl (by first | rfl | (simp; omega) | (simp [*]; done) | fail) ?_) | (refine AW.cond rfl (fun h => ?_) (fun h => ?_) <;> (try simp only [decide_eq_true_eq, decide_eq_false_iff_not, Bool.not_eq_true', Bool.not_eq_false', Bool.not_eq_eq_eq_not, Bool.not_true, Bool.not_false, beq_iff_eq, bne_iff_ne, beq_eq_false_iff_ne, ne_eq, Bool.and_eq_true, Bool.or_eq_true, Bool.or_eq_false_iff] at h)) | (refine hK _ ?_; clear hK K) | (refine AW.unroll 2 ?_; simp only [AWr]) | (refine run_callI _ _ _ ((w1).pure rfl (fun _ => rfl) _ _) rfl rfl (dstOk_of rfl) rfl rfl rfl ?_; rintro q1 g1; (try dsimp only at q1); (try dsimp only at g1); simp only [go_sem, Nat.reduceAdd, Nat.reduceMul, Int.reduceToNat, Nat.reduceLT, Nat.reduceLeDiff, Nat.le_refl, Nat.reduceEqDiff, ↓reduceIte, beq_self_eq_true, bne_self_eq_false, Int.reduceBEq, Int.reduceBNe, or_self, true_or, or_true, Option.map_some, Option.map_none, hyb, Int.reduceAdd, List.length_map]) | (with_reducible refine And.intro ?_ ?_; first | omega | assumption | (focus (decide)) | (focus (simp; done)) | (focus (simp; omega)) | (focus (constructor <;> omega)) | fail))
    all_goals
      refine AW.ret ⟨_, fun h => ?_, Fin.data rfl (frz_d.trans rfl) rfl⟩
      exfalso
      first | exact hy h | exact absurd h (by decide)
  replace w2 := w2 hy
  subst hy
  repeat' (first | ((first | refine AW.sreg rfl fun K hK => ?_ | refine AW.reg rfl ?_ | refine run_call _ _ _ ((f1).pure rfl rfl _ _) rfl rfl (dstOk_of rfl) rfl rfl rfl ?_ | refine run_call _ _ _ ((f2).pure rfl rfl _ _) rfl rfl (dstOk_of rfl) rfl rfl rfl ?_); simp only [go_sem, Nat.reduceAdd, Nat.reduceMul, Int.reduceToNat, Nat.reduceLT, Nat.reduceLeDiff, Nat.le_refl, Nat.reduceEqDiff, ↓reduceIte, beq_self_eq_true, bne_self_eq_false, Int.reduceBEq, Int.reduceBNe, or_self, true_or, or_true, Option.map_some, Option.map_none, Int.reduceAdd, List.length_map]) | (refine AW.seq_k fun K hK => ?_) | (refine AW.block ?_) | (refine AW.skip ?_; simp only [Then, InBlock]) | (refine AW.exit ?_; simp only [go_sem, ↓reduceIte]) | (refine AW.condT rfl (by first | rfl | (simp; omega) | (simp [*]; done) | fail) ?_) | (refine AW.condF rfl (by first | rfl | (simp; omega) | (simp [*]; done) | fail) ?_) | (refine AW.cond rfl (fun h => ?_) (fun h => ?_) <;> (try simp only [decide_eq_true_eq, decide_eq_false_iff_not, Bool.not_eq_true', Bool.not_eq_false', Bool.not_eq_eq_eq_not, Bool.not_true, Bool.not_false, beq_iff_eq, bne_iff_ne, beq_eq_false_iff_ne, ne_eq, Bool.and_eq_true, Bool.or_eq_true, Bool.or_eq_false_iff] at h)) | (refine hK _ ?_; clear hK K) | (clear hK K; refine hK _ ?_; clear hK K) | (refine stepB_split (fun h => ?_) (fun h => ?_) <;> (have hb0 := h) <;> (try simp only [Bool.not_eq_true', Bool.not_eq_false'] at hb0) <;> (try simp only [decide_eq_true_eq, decide_eq_false_iff_not, Bool.not_eq_true', Bool.not_eq_false', Bool.not_eq_eq_eq_not, Bool.not_true, Bool.not_false, beq_iff_eq, bne_iff_ne, beq_eq_false_iff_ne, ne_eq, Bool.and_eq_true, Bool.or_eq_true, Bool.or_eq_false_iff] at h) <;> simp only [go_sem, Nat.reduceAdd, Nat.reduceMul, Int.reduceToNat, Nat.reduceLT, Nat.reduceLeDiff, Nat.le_refl, Nat.reduceEqDiff, ↓reduceIte, beq_self_eq_true, bne_self_eq_false, Int.reduceBEq, Int.reduceBNe, or_self, true_or, or_true, Option.map_some, Option.map_none, hb0, h, decide_true, decide_false, Int.reduceAdd, List.length_map] <;> (try clear hb0)) | (refine AW.unroll 3 ?_; simp only [AWr]) | (refine run_callI _ _ _ ((w1).pure rfl (fun _ => rfl) _ _) rfl rfl (dstOk_of rfl) rfl rfl rfl ?_; rintro q1 g1; (try dsimp only at q1); (try dsimp only at g1); simp only [go_sem, Nat.reduceAdd, Nat.reduceMul, Int.reduceToNat, Nat.reduceLT, Nat.reduceLeDiff, Nat.le_refl, Nat.reduceEqDiff, ↓reduceIte, beq_self_eq_true, bne_self_eq_false, Int.reduceBEq, Int.reduceBNe, or_self, true_or, or_true, Option.map_some, Option.map_none, Int.reduceAdd, List.length_map]) | (refine run_callI _ _ _ ((w2).pure rfl (fun _ => rfl) _ _) rfl rfl (dstOk_of rfl) rfl rfl rfl ?_; rintro q2 g2; (try dsimp only at q2); (try dsimp only at g2); simp only [go_sem, Nat.reduceAdd, Nat.reduceMul, Int.reduceToNat, Nat.reduceLT, Nat.reduceLeDiff, Nat.le_refl, Nat.reduceEqDiff, ↓reduceIte, beq_self_eq_true, bne_self_eq_false, Int.reduceBEq, Int.reduceBNe, or_self, true_or, or_true, Option.map_some, Option.map_none, Int.reduceAdd, List.length_map]) | (with_reducible refine And.intro ?_ ?_; first | omega | assumption | (focus (decide)) | (focus (simp; done)) | (focus (simp; omega)) | (focus (constructor <;> omega)) | fail))
  all_goals
    refine AW.ret ⟨_, fun h => ?_, Fin.data rfl (frz_d.trans rfl) rfl⟩
    first
      | exact absurd h (by decide)
      | exact ⟨⟨rfl, by omega⟩, rfl, by omega⟩
end Go.AX

namespace Go.AX
open Go Go.Proofs Go.RowKit
abbrev wD (w : Wd) : D := .agg [.str w.1, .int .i64 w.2.1, .int .i64 w.2.2]
theorem wdS_zero (s : Str) : wdS s 0 = (-1, []) := rfl
theorem wordsOf_any (s : Str) (hl : s.length ≤ 20000) : Does Tryd.prog 19 [S s] [] (.d (.sl ((wdF s).map wD))) [] := by
  refine Does.of_AW (n := 48) Tryd.func19 rfl rfl rfl fun cx hcx => ?_
  repeat' (first | (refine AW.sreg rfl fun K hK => ?_; simp only [go_sem, Nat.reduceAdd, Nat.reduceMul, Int.reduceToNat, Nat.reduceLT, Nat.reduceLeDiff, Nat.le_refl, Nat.reduceEqDiff, ↓reduceIte, beq_self_eq_true, bne_self_eq_false, Int.reduceBEq, Int.reduceBNe, or_self, true_or, or_true, Option.map_some, Option.map_none]) | (refine AW.seq_k fun K hK => ?_) | (refine AW.block ?_) | (refine hK _ ?_; clear hK K))
  refine AW.weak (Weak.nil 3 53 3 rfl) ?_
  refine AW.loopF (ι := Nat) [0] (fun p => [(3, .slr 256 0 (wdS s p).2.length), (4, I (wdS s p).1), (5, I p)]) (fun p => [(256, some (O.vec 53 3 (dv ((wdS s p).2.map wD))))]) 5 (fun p => p ≤ s.length + 1) (fun p => s.length + 1 - p) 0 (Nat.zero_le _) (Weak.auto hcx rfl rfl (Nat.le_of_ble_eq_true rfl) (by simp [go_sem, gL, kL, renOf, V.obj, lk, Nat.blt, Nat.ble, List.map_append, dv_push, wdS_zero, dvz, List.map_nil, List.length_nil]) (by simp [go_sem, gL, kL, renOf, V.obj, lk, Nat.blt, Nat.ble, List.map_append, dv_push, wdS_zero, dvz, List.map_nil, List.length_nil]) (by first | exact pk0 | exact pk1 ⟨_, rfl⟩ | exact pk2 ⟨_, rfl⟩ ⟨_, rfl⟩ | exact pk3 ⟨_, rfl⟩ ⟨_, rfl⟩ ⟨_, rfl⟩ | exact pk4 ⟨_, rfl⟩ ⟨_, rfl⟩ ⟨_, rfl⟩ ⟨_, rfl⟩) (by simp [go_sem, gL, kL, lk, renOf, V.obj, Nat.blt, Nat.ble, wdS_zero, dvz, List.map_nil, List.length_nil])) ?_; simp only [St.at_nil, St.at_cons, lk, Nat.reduceEqDiff, ↓reduceIte, Option.getD_some, Option.getD_none, List.cons_append, List.nil_append, List.append_nil]
  intro i h1
  by_cases hi : i ≤ s.length
  · have hok := wdS_ok s i
    have hsu := wdS_succ s i
    have hst := stC_le s i
    generalize wdS s i = a at *
    obtain ⟨f, out⟩ := a
    obtain ⟨k1, -, k3⟩ := hok
    simp only at k1 k3
    have hol : out.length ≤ 20001 := by
      by_cases h : 0 ≤ f
      · rw [if_pos h] at k3; omega
      · rw [if_neg h] at k3; omega
    clear k3
    have htl : List.take out.length (dv (out.map wD)) = dv (out.map wD) := List.take_of_length_le (by simp [dv])
    have hlo : 0 ≤ f → Does Tryd.prog 39 [S ((s.drop f.toNat).take (i - f.toNat))] [] (S (lwS ((s.drop f.toNat).take (i - f.toNat)))) [] := fun _ => lower_any _ (by simp only [List.length_take, List.length_drop]; omega)
    by_cases hi2 : i < s.length
    · obtain ⟨c, hc, hcm, -⟩ := get_some hi2
      have hwc := wbA_at hc
      have hwb := isWordByte_any c
      rw [← hwc] at hwb
      cases hb : wbA s i with
      | true =>
        rw [hb] at hwb
        by_cases hf : f < 0
        · have e : wdS s (i + 1) = ((i : Int), out) := by
            rw [hsu]; simp only [wStp, hb]; simp [hf]
          have hf2 : (0 : Int) ≤ (i : Int) := by omega
          repeat' (first | ((first | refine AW.sreg rfl fun K hK => ?_ | refine AW.reg rfl ?_ | refine run_call _ _ _ ((hwb).pure rfl rfl _ _) rfl rfl (dstOk_of rfl) rfl rfl rfl ?_); simp only [go_sem, Nat.reduceAdd, Nat.reduceMul, Int.reduceToNat, Nat.reduceLT, Nat.reduceLeDiff, Nat.le_refl, Nat.reduceEqDiff, ↓reduceIte, beq_self_eq_true, bne_self_eq_false, Int.reduceBEq, Int.reduceBNe, or_self, true_or, or_true, Option.map_some, Option.map_none, hc, hf]) | (refine AW.seq_k fun K hK => ?_) | (refine AW.block ?_) | (refine AW.skip ?_; simp only [Then, InBlock]) | (refine AW.condT rfl (by first | rfl | (simp; omega) | (simp [*]; done) | fail) ?_) | (refine AW.condF rfl (by first | rfl | (simp; omega) | (simp [*]; done) | fail) ?_) | (refine hK _ ?_; clear hK K) | (refine stepB_split (fun h => ?_) (fun h => ?_) <;> (have hb0 := h) <;> (try simp only [Bool.not_eq_true', Bool.not_eq_false'] at hb0) <;> (try simp only [decide_eq_true_eq, decide_eq_false_iff_not, Bool.not_eq_true', Bool.not_eq_false', Bool.not_eq_eq_eq_not, Bool.not_true, Bool.not_false, beq_iff_eq, bne_iff_ne, beq_eq_false_iff_ne, ne_eq, Bool.and_eq_true, Bool.or_eq_true, Bool.or_eq_false_iff] at h) <;> simp only [go_sem, Nat.reduceAdd, Nat.reduceMul, Int.reduceToNat, Nat.reduceLT, Nat.reduceLeDiff, Nat.le_refl, Nat.reduceEqDiff, ↓reduceIte, beq_self_eq_true, bne_self_eq_false, Int.reduceBEq, Int.reduceBNe, or_self, true_or, or_true, Option.map_some, Option.map_none, hb0, h, decide_true, decide_false, hc, hf] <;> (try clear hb0)) | (with_reducible refine And.intro ?_ ?_; first | omega | assumption | (focus (decide)) | (focus (simp; done)) | (focus (simp; omega)) | (focus (constructor <;> omega)) | fail) | (exfalso; omega))
          exact ⟨i + 1, by omega, by omega, (Weak.auto hcx rfl rfl (Nat.le_of_ble_eq_true rfl) (by simp [go_sem, gL, kL, renOf, V.obj, lk, Nat.blt, Nat.ble, List.map_append, dv_push, e]) (by simp [go_sem, gL, kL, renOf, V.obj, lk, Nat.blt, Nat.ble, List.map_append, dv_push, e]) (by first | exact pk0 | exact pk1 ⟨_, rfl⟩ | exact pk2 ⟨_, rfl⟩ ⟨_, rfl⟩ | exact pk3 ⟨_, rfl⟩ ⟨_, rfl⟩ ⟨_, rfl⟩ | exact pk4 ⟨_, rfl⟩ ⟨_, rfl⟩ ⟨_, rfl⟩ ⟨_, rfl⟩) (by simp [go_sem, gL, kL, lk, renOf, V.obj, Nat.blt, Nat.ble, e]))⟩
        · have e : wdS s (i + 1) = (f, out) := by
            rw [hsu]; simp only [wStp, hb]; simp [hf]
          repeat' (first | ((first | refine AW.sreg rfl fun K hK => ?_ | refine AW.reg rfl ?_ | refine run_call _ _ _ ((hwb).pure rfl rfl _ _) rfl rfl (dstOk_of rfl) rfl rfl rfl ?_); simp only [go_sem, Nat.reduceAdd, Nat.reduceMul, Int.reduceToNat, Nat.reduceLT, Nat.reduceLeDiff, Nat.le_refl, Nat.reduceEqDiff, ↓reduceIte, beq_self_eq_true, bne_self_eq_false, Int.reduceBEq, Int.reduceBNe, or_self, true_or, or_true, Option.map_some, Option.map_none, hc, hf]) | (refine AW.seq_k fun K hK => ?_) | (refine AW.block ?_) | (refine AW.skip ?_; simp only [Then, InBlock]) | (refine AW.condT rfl (by first | rfl | (simp; omega) | (simp [*]; done) | fail) ?_) | (refine AW.condF rfl (by first | rfl | (simp; omega) | (simp [*]; done) | fail) ?_) | (refine hK _ ?_; clear hK K) | (refine stepB_split (fun h => ?_) (fun h => ?_) <;> (have hb0 := h) <;> (try simp only [Bool.not_eq_true', Bool.not_eq_false'] at hb0) <;> (try simp only [decide_eq_true_eq, decide_eq_false_iff_not, Bool.not_eq_true', Bool.not_eq_false', Bool.not_eq_eq_eq_not, Bool.not_true, Bool.not_false, beq_iff_eq, bne_iff_ne, beq_eq_false_iff_ne, ne_eq, Bool.and_eq_true, Bool.or_eq_true, Bool.or_eq_false_iff] at h) <;> simp only [go_sem, Nat.reduceAdd, Nat.reduceMul, Int.reduceToNat, Nat.reduceLT, Nat.reduceLeDiff, Nat.le_refl, Nat.reduceEqDiff, ↓reduceIte, beq_self_eq_true, bne_self_eq_false, Int.reduceBEq, Int.reduceBNe, or_self, true_or, or_true, Option.map_some, Option.map_none, hb0, h, decide_true, decide_false, hc, hf] <;> (try clear hb0)) | (with_reducible refine And.intro ?_ ?_; first | omega | assumption | (focus (decide)) | (focus (simp; done)) | (focus (simp; omega)) | (focus (constructor <;> omega)) | fail) | (exfalso; omega))
          exact ⟨i + 1, by omega, by omega, (Weak.auto hcx rfl rfl (Nat.le_of_ble_eq_true rfl) (by simp [go_sem, gL, kL, renOf, V.obj, lk, Nat.blt, Nat.ble, List.map_append, dv_push, e]) (by simp [go_sem, gL, kL, renOf, V.obj, lk, Nat.blt, Nat.ble, List.map_append, dv_push, e]) (by first | exact pk0 | exact pk1 ⟨_, rfl⟩ | exact pk2 ⟨_, rfl⟩ ⟨_, rfl⟩ | exact pk3 ⟨_, rfl⟩ ⟨_, rfl⟩ ⟨_, rfl⟩ | exact pk4 ⟨_, rfl⟩ ⟨_, rfl⟩ ⟨_, rfl⟩ ⟨_, rfl⟩) (by simp [go_sem, gL, kL, lk, renOf, V.obj, Nat.blt, Nat.ble, e]))⟩
      | false =>
        rw [hb] at hwb
        by_cases hf : f < 0
        · have e : wdS s (i + 1) = (f, out) := by
            rw [hsu]; simp only [wStp, hb]; simp; omega
          repeat' (first | ((first | refine AW.sreg rfl fun K hK => ?_ | refine AW.reg rfl ?_ | refine run_call _ _ _ ((hwb).pure rfl rfl _ _) rfl rfl (dstOk_of rfl) rfl rfl rfl ?_); simp only [go_sem, Nat.reduceAdd, Nat.reduceMul, Int.reduceToNat, Nat.reduceLT, Nat.reduceLeDiff, Nat.le_refl, Nat.reduceEqDiff, ↓reduceIte, beq_self_eq_true, bne_self_eq_false, Int.reduceBEq, Int.reduceBNe, or_self, true_or, or_true, Option.map_some, Option.map_none, hc, hf]) | (refine AW.seq_k fun K hK => ?_) | (refine AW.block ?_) | (refine AW.skip ?_; simp only [Then, InBlock]) | (refine AW.condT rfl (by first | rfl | (simp; omega) | (simp [*]; done) | fail) ?_) | (refine AW.condF rfl (by first | rfl | (simp; omega) | (simp [*]; done) | fail) ?_) | (refine hK _ ?_; clear hK K) | (refine stepB_split (fun h => ?_) (fun h => ?_) <;> (have hb0 := h) <;> (try simp only [Bool.not_eq_true', Bool.not_eq_false'] at hb0) <;> (try simp only [decide_eq_true_eq, decide_eq_false_iff_not, Bool.not_eq_true', Bool.not_eq_false', Bool.not_eq_eq_eq_not, Bool.not_true, Bool.not_false, beq_iff_eq, bne_iff_ne, beq_eq_false_iff_ne, ne_eq, Bool.and_eq_true, Bool.or_eq_true, Bool.or_eq_false_iff] at h) <;> simp only [go_sem, Nat.reduceAdd, Nat.reduceMul, Int.reduceToNat, Nat.reduceLT, Nat.reduceLeDiff, Nat.le_refl, Nat.reduceEqDiff, ↓reduceIte, beq_self_eq_true, bne_self_eq_false, Int.reduceBEq, Int.reduceBNe, or_self, true_or, or_true, Option.map_some, Option.map_none, hb0, h, decide_true, decide_false, hc, hf] <;> (try clear hb0)) | (with_reducible refine And.intro ?_ ?_; first | omega | assumption | (focus (decide)) | (focus (simp; done)) | (focus (simp; omega)) | (focus (constructor <;> omega)) | fail) | (exfalso; omega))
          exact ⟨i + 1, by omega, by omega, (Weak.auto hcx rfl rfl (Nat.le_of_ble_eq_true rfl) (by simp [go_sem, gL, kL, renOf, V.obj, lk, Nat.blt, Nat.ble, List.map_append, dv_push, e]) (by simp [go_sem, gL, kL, renOf, V.obj, lk, Nat.blt, Nat.ble, List.map_append, dv_push, e]) (by first | exact pk0 | exact pk1 ⟨_, rfl⟩ | exact pk2 ⟨_, rfl⟩ ⟨_, rfl⟩ | exact pk3 ⟨_, rfl⟩ ⟨_, rfl⟩ ⟨_, rfl⟩ | exact pk4 ⟨_, rfl⟩ ⟨_, rfl⟩ ⟨_, rfl⟩ ⟨_, rfl⟩) (by simp [go_sem, gL, kL, lk, renOf, V.obj, Nat.blt, Nat.ble, e]))⟩
        · have hf0 : 0 ≤ f := by omega
          have e : wdS s (i + 1) = (-1, out ++ [(lwS ((s.drop f.toNat).take (i - f.toNat)), f, (i : Int))]) := by
            rw [hsu]; simp only [wStp, hb]; simp [hf0]
          have hlo := hlo hf0
          repeat' (first | ((first | refine AW.sreg rfl fun K hK => ?_ | refine AW.reg rfl ?_ | refine run_call _ _ _ ((hwb).pure rfl rfl _ _) rfl rfl (dstOk_of rfl) rfl rfl rfl ?_ | refine run_call _ _ _ ((hlo).pure rfl rfl _ _) rfl rfl (dstOk_of rfl) rfl rfl rfl ?_); simp only [go_sem, Nat.reduceAdd, Nat.reduceMul, Int.reduceToNat, Nat.reduceLT, Nat.reduceLeDiff, Nat.le_refl, Nat.reduceEqDiff, ↓reduceIte, beq_self_eq_true, bne_self_eq_false, Int.reduceBEq, Int.reduceBNe, or_self, true_or, or_true, Option.map_some, Option.map_none, hc, hf, htl, Int.toNat_natCast, List.length_map]) | (refine AW.seq_k fun K hK => ?_) | (refine AW.block ?_) | (refine AW.skip ?_; simp only [Then, InBlock]) | (refine AW.condT rfl (by first | rfl | (simp; omega) | (simp [*]; done) | fail) ?_) | (refine AW.condF rfl (by first | rfl | (simp; omega) | (simp [*]; done) | fail) ?_) | (refine hK _ ?_; clear hK K) | (refine stepB_split (fun h => ?_) (fun h => ?_) <;> (have hb0 := h) <;> (try simp only [Bool.not_eq_true', Bool.not_eq_false'] at hb0) <;> (try simp only [decide_eq_true_eq, decide_eq_false_iff_not, Bool.not_eq_true', Bool.not_eq_false', Bool.not_eq_eq_eq_not, Bool.not_true, Bool.not_false, beq_iff_eq, bne_iff_ne, beq_eq_false_iff_ne, ne_eq, Bool.and_eq_true, Bool.or_eq_true, Bool.or_eq_false_iff] at h) <;> simp only [go_sem, Nat.reduceAdd, Nat.reduceMul, Int.reduceToNat, Nat.reduceLT, Nat.reduceLeDiff, Nat.le_refl, Nat.reduceEqDiff, ↓reduceIte, beq_self_eq_true, bne_self_eq_false, Int.reduceBEq, Int.reduceBNe, or_self, true_or, or_true, Option.map_some, Option.map_none, hb0, h, decide_true, decide_false, hc, hf, htl, Int.toNat_natCast, List.length_map] <;> (try clear hb0)) | (with_reducible refine And.intro ?_ ?_; first | omega | assumption | (focus (decide)) | (focus (simp; done)) | (focus (simp; omega)) | (focus (constructor <;> omega)) | fail) | (exfalso; omega))
          exact ⟨i + 1, by omega, by omega, (Weak.auto hcx rfl rfl (Nat.le_of_ble_eq_true rfl) (by simp [go_sem, gL, kL, renOf, V.obj, lk, Nat.blt, Nat.ble, List.map_append, dv_push, e]) (by simp [go_sem, gL, kL, renOf, V.obj, lk, Nat.blt, Nat.ble, List.map_append, dv_push, e]) (by first | exact pk0 | exact pk1 ⟨_, rfl⟩ | exact pk2 ⟨_, rfl⟩ ⟨_, rfl⟩ | exact pk3 ⟨_, rfl⟩ ⟨_, rfl⟩ ⟨_, rfl⟩ | exact pk4 ⟨_, rfl⟩ ⟨_, rfl⟩ ⟨_, rfl⟩ ⟨_, rfl⟩) (by simp [go_sem, gL, kL, lk, renOf, V.obj, Nat.blt, Nat.ble, e]))⟩
    · obtain rfl : i = s.length := by omega
      have hb := wbA_out (s := s) (Nat.le_refl _)
      by_cases hf : f < 0
      · have e : wdS s (s.length + 1) = (f, out) := by
          rw [hsu]; simp only [wStp, hb]; simp; omega
        repeat' (first | ((first | refine AW.sreg rfl fun K hK => ?_ | refine AW.reg rfl ?_); simp only [go_sem, Nat.reduceAdd, Nat.reduceMul, Int.reduceToNat, Nat.reduceLT, Nat.reduceLeDiff, Nat.le_refl, Nat.reduceEqDiff, ↓reduceIte, beq_self_eq_true, bne_self_eq_false, Int.reduceBEq, Int.reduceBNe, or_self, true_or, or_true, Option.map_some, Option.map_none, hf]) | (refine AW.seq_k fun K hK => ?_) | (refine AW.block ?_) | (refine AW.skip ?_; simp only [Then, InBlock]) | (refine AW.condT rfl (by first | rfl | (simp; omega) | (simp [*]; done) | fail) ?_) | (refine AW.condF rfl (by first | rfl | (simp; omega) | (simp [*]; done) | fail) ?_) | (refine hK _ ?_; clear hK K) | (refine stepB_split (fun h => ?_) (fun h => ?_) <;> (have hb0 := h) <;> (try simp only [Bool.not_eq_true', Bool.not_eq_false'] at hb0) <;> (try simp only [decide_eq_true_eq, decide_eq_false_iff_not, Bool.not_eq_true', Bool.not_eq_false', Bool.not_eq_eq_eq_not, Bool.not_true, Bool.not_false, beq_iff_eq, bne_iff_ne, beq_eq_false_iff_ne, ne_eq, Bool.and_eq_true, Bool.or_eq_true, Bool.or_eq_false_iff] at h) <;> simp only [go_sem, Nat.reduceAdd, Nat.reduceMul, Int.reduceToNat, Nat.reduceLT, Nat.reduceLeDiff, Nat.le_refl, Nat.reduceEqDiff, ↓reduceIte, beq_self_eq_true, bne_self_eq_false, Int.reduceBEq, Int.reduceBNe, or_self, true_or, or_true, Option.map_some, Option.map_none, hb0, h, decide_true, decide_false, hf] <;> (try clear hb0)) | (with_reducible refine And.intro ?_ ?_; first | omega | assumption | (focus (decide)) | (focus (simp; done)) | (focus (simp; omega)) | (focus (constructor <;> omega)) | fail) | (exfalso; omega))
        exact ⟨s.length + 1, by omega, by omega, (Weak.auto hcx rfl rfl (Nat.le_of_ble_eq_true rfl) (by simp [go_sem, gL, kL, renOf, V.obj, lk, Nat.blt, Nat.ble, List.map_append, dv_push, e]) (by simp [go_sem, gL, kL, renOf, V.obj, lk, Nat.blt, Nat.ble, List.map_append, dv_push, e]) (by first | exact pk0 | exact pk1 ⟨_, rfl⟩ | exact pk2 ⟨_, rfl⟩ ⟨_, rfl⟩ | exact pk3 ⟨_, rfl⟩ ⟨_, rfl⟩ ⟨_, rfl⟩ | exact pk4 ⟨_, rfl⟩ ⟨_, rfl⟩ ⟨_, rfl⟩ ⟨_, rfl⟩) (by simp [go_sem, gL, kL, lk, renOf, V.obj, Nat.blt, Nat.ble, e]))⟩
      · have hf0 : 0 ≤ f := by omega
        have e : wdS s (s.length + 1) = (-1, out ++ [(lwS ((s.drop f.toNat).take (s.length - f.toNat)), f, (s.length : Int))]) := by
          rw [hsu]; simp only [wStp, hb]; simp [hf0]
        have hlo := hlo hf0
        repeat' (first | ((first | refine AW.sreg rfl fun K hK => ?_ | refine AW.reg rfl ?_ | refine run_call _ _ _ ((hlo).pure rfl rfl _ _) rfl rfl (dstOk_of rfl) rfl rfl rfl ?_); simp only [go_sem, Nat.reduceAdd, Nat.reduceMul, Int.reduceToNat, Nat.reduceLT, Nat.reduceLeDiff, Nat.le_refl, Nat.reduceEqDiff, ↓reduceIte, beq_self_eq_true, bne_self_eq_false, Int.reduceBEq, Int.reduceBNe, or_self, true_or, or_true, Option.map_some, Option.map_none, hf, htl, Int.toNat_natCast, List.length_map]) | (refine AW.seq_k fun K hK => ?_) | (refine AW.block ?_) | (refine AW.skip ?_; simp only [Then, InBlock]) | (refine AW.condT rfl (by first | rfl | (simp; omega) | (simp [*]; done) | fail) ?_) | (refine AW.condF rfl (by first | rfl | (simp; omega) | (simp [*]; done) | fail) ?_) | (refine hK _ ?_; clear hK K) | (refine stepB_split (fun h => ?_) (fun h => ?_) <;> (have hb0 := h) <;> (try simp only [Bool.not_eq_true', Bool.not_eq_false'] at hb0) <;> (try simp only [decide_eq_true_eq, decide_eq_false_iff_not, Bool.not_eq_true', Bool.not_eq_false', Bool.not_eq_eq_eq_not, Bool.not_true, Bool.not_false, beq_iff_eq, bne_iff_ne, beq_eq_false_iff_ne, ne_eq, Bool.and_eq_true, Bool.or_eq_true, Bool.or_eq_false_iff] at h) <;> simp only [go_sem, Nat.reduceAdd, Nat.reduceMul, Int.reduceToNat, Nat.reduceLT, Nat.reduceLeDiff, Nat.le_refl, Nat.reduceEqDiff, ↓reduceIte, beq_self_eq_true, bne_self_eq_false, Int.reduceBEq, Int.reduceBNe, or_self, true_or, or_true, Option.map_some, Option.map_none, hb0, h, decide_true, decide_false, hf, htl, Int.toNat_natCast, List.length_map] <;> (try clear hb0)) | (with_reducible refine And.intro ?_ ?_; first | omega | assumption | (focus (decide)) | (focus (simp; done)) | (focus (simp; omega)) | (focus (constructor <;> omega)) | fail) | (exfalso; omega))
        exact ⟨s.length + 1, by omega, by omega, (Weak.auto hcx rfl rfl (Nat.le_of_ble_eq_true rfl) (by simp [go_sem, gL, kL, renOf, V.obj, lk, Nat.blt, Nat.ble, List.map_append, dv_push, e]) (by simp [go_sem, gL, kL, renOf, V.obj, lk, Nat.blt, Nat.ble, List.map_append, dv_push, e]) (by first | exact pk0 | exact pk1 ⟨_, rfl⟩ | exact pk2 ⟨_, rfl⟩ ⟨_, rfl⟩ | exact pk3 ⟨_, rfl⟩ ⟨_, rfl⟩ ⟨_, rfl⟩ | exact pk4 ⟨_, rfl⟩ ⟨_, rfl⟩ ⟨_, rfl⟩ ⟨_, rfl⟩) (by simp [go_sem, gL, kL, lk, renOf, V.obj, Nat.blt, Nat.ble, e]))⟩
  · obtain rfl : i = s.length + 1 := by omega
    repeat' (first | (refine AW.sreg rfl fun K hK => ?_; simp only [go_sem, Nat.reduceAdd, Nat.reduceMul, Int.reduceToNat, Nat.reduceLT, Nat.reduceLeDiff, Nat.le_refl, Nat.reduceEqDiff, ↓reduceIte, beq_self_eq_true, bne_self_eq_false, Int.reduceBEq, Int.reduceBNe, or_self, true_or, or_true, Option.map_some, Option.map_none]) | (refine AW.seq_k fun K hK => ?_) | (refine AW.exit ?_; simp only [go_sem, ↓reduceIte]) | (refine AW.condF rfl (by first | rfl | (simp; omega) | (simp [*]; done) | fail) ?_) | (refine hK _ ?_; clear hK K) | (clear hK K; refine hK _ ?_; clear hK K))
    exact AW.ret (Fin.data rfl ((frz_slr rfl rfl (by simp)).trans (by simp [go_sem, wdF])) rfl)
theorem takeS {α : Type} {l : List α} {i : Nat} {x : α} (h : l[i]? = some x) : l.take (i + 1) = l.take i ++ [x] := by rw [List.take_add_one, h]; rfl
theorem Words_any (s : Str) (hl : s.length ≤ 20000) : Does Tryd.prog 9 [S s] [] (.d (.sl ((wsF s).map D.str))) [] := by
  have h1 := wordsOf_any s hl
  have h2 := stC_le s s.length
  have h3 := wdF_len s
  refine Does.of_AW (n := 20) Tryd.func9 rfl rfl rfl fun cx hcx => ?_
  unfold wsF
  generalize wdF s = ws at *
  repeat' (first | ((first | refine AW.sreg rfl fun K hK => ?_ | refine run_call _ _ _ ((h1).pure rfl rfl _ _) rfl rfl (dstOk_of rfl) rfl rfl rfl ?_); simp only [go_sem, Nat.reduceAdd, Nat.reduceMul, Int.reduceToNat, Nat.reduceLT, Nat.reduceLeDiff, Nat.le_refl, Nat.reduceEqDiff, ↓reduceIte, beq_self_eq_true, bne_self_eq_false, Int.reduceBEq, Int.reduceBNe, or_self, true_or, or_true, Option.map_some, Option.map_none]) | (refine AW.seq_k fun K hK => ?_) | (refine AW.block ?_) | (refine hK _ ?_; clear hK K))
  refine AW.weak (Weak.nil 3 9 1 rfl) ?_
  refine AW.loopF (ι := Nat) [7, 8] (fun p => [(3, .slr 320 0 p), (9, I p)]) (fun p => [(320, some (O.vec 9 1 (dv (((ws.take p).map (·.1)).map D.str))))]) 6 (fun p => p ≤ ws.length) (fun p => ws.length - p) 0 (Nat.zero_le _) (Weak.auto hcx rfl rfl (Nat.le_of_ble_eq_true rfl) (by simp [go_sem, gL, kL, renOf, V.obj, lk, Nat.blt, Nat.ble, List.map_append, dv_push, List.take_zero, dvz, List.map_nil]) (by simp [go_sem, gL, kL, renOf, V.obj, lk, Nat.blt, Nat.ble, List.map_append, dv_push, List.take_zero, dvz, List.map_nil]) (by first | exact pk0 | exact pk1 ⟨_, rfl⟩ | exact pk2 ⟨_, rfl⟩ ⟨_, rfl⟩ | exact pk3 ⟨_, rfl⟩ ⟨_, rfl⟩ ⟨_, rfl⟩ | exact pk4 ⟨_, rfl⟩ ⟨_, rfl⟩ ⟨_, rfl⟩ ⟨_, rfl⟩) (by simp [go_sem, gL, kL, lk, renOf, V.obj, Nat.blt, Nat.ble, List.take_zero, dvz, List.map_nil])) ?_; simp only [St.at_nil, St.at_cons, lk, Nat.reduceEqDiff, ↓reduceIte, Option.getD_some, Option.getD_none, List.cons_append, List.nil_append, List.append_nil]
  intro i i1
  by_cases hi : i < ws.length
  · obtain ⟨w, hw, hwm, -⟩ := get_some hi
    have hget : (ws.map wD)[i]? = some (wD w) := by simp only [List.getElem?_map, hw, Option.map_some]
    have hsn := takeS hw
    have htl : List.take i (dv (((ws.take i).map (·.1)).map D.str)) = dv (((ws.take i).map (·.1)).map D.str) := List.take_of_length_le (by simp [dv]; omega)
    repeat' (first | ((first | refine AW.sreg rfl fun K hK => ?_ | refine AW.reg rfl ?_); simp only [go_sem, Nat.reduceAdd, Nat.reduceMul, Int.reduceToNat, Nat.reduceLT, Nat.reduceLeDiff, Nat.le_refl, Nat.reduceEqDiff, ↓reduceIte, beq_self_eq_true, bne_self_eq_false, Int.reduceBEq, Int.reduceBNe, or_self, true_or, or_true, Option.map_some, Option.map_none, List.length_map, hget, htl]) | (refine AW.seq_k fun K hK => ?_) | (refine AW.block ?_) | (refine AW.skip ?_; simp only [Then, InBlock]) | (refine AW.condT rfl (by first | rfl | (simp; omega) | (simp [*]; done) | fail) ?_) | (refine hK _ ?_; clear hK K) | (with_reducible refine And.intro ?_ ?_; first | omega | assumption | (focus (decide)) | (focus (simp; done)) | (focus (simp; omega)) | (focus (constructor <;> omega)) | fail))
    exact ⟨i + 1, hi, by omega, (Weak.auto hcx rfl rfl (Nat.le_of_ble_eq_true rfl) (by simp [go_sem, gL, kL, renOf, V.obj, lk, Nat.blt, Nat.ble, List.map_append, dv_push, hsn]) (by simp [go_sem, gL, kL, renOf, V.obj, lk, Nat.blt, Nat.ble, List.map_append, dv_push, hsn]) (by first | exact pk0 | exact pk1 ⟨_, rfl⟩ | exact pk2 ⟨_, rfl⟩ ⟨_, rfl⟩ | exact pk3 ⟨_, rfl⟩ ⟨_, rfl⟩ ⟨_, rfl⟩ | exact pk4 ⟨_, rfl⟩ ⟨_, rfl⟩ ⟨_, rfl⟩ ⟨_, rfl⟩) (by simp [go_sem, gL, kL, lk, renOf, V.obj, Nat.blt, Nat.ble, hsn]))⟩
  · obtain rfl : i = ws.length := by omega
    rw [List.take_length]
    repeat' (first | (refine AW.sreg rfl fun K hK => ?_; simp only [go_sem, Nat.reduceAdd, Nat.reduceMul, Int.reduceToNat, Nat.reduceLT, Nat.reduceLeDiff, Nat.le_refl, Nat.reduceEqDiff, ↓reduceIte, beq_self_eq_true, bne_self_eq_false, Int.reduceBEq, Int.reduceBNe, or_self, true_or, or_true, Option.map_some, Option.map_none, List.length_map]) | (refine AW.seq_k fun K hK => ?_) | (refine AW.exit ?_; simp only [go_sem, ↓reduceIte]) | (refine AW.condF rfl (by first | rfl | (simp; omega) | (simp [*]; done) | fail) ?_) | (refine hK _ ?_; clear hK K) | (clear hK K; refine hK _ ?_; clear hK K))
    exact AW.ret (Fin.data rfl ((frz_slr rfl rfl (by simp)).trans (by simp [go_sem])) rfl)
theorem textFault_any (s : Str) (hl : s.length ≤ 30000) : Does Tryd.prog 30 [S s] [] (I (bfF s)) [] := by
  have h1 := isText_any s (by omega)
  refine Does.of_AW (n := 9) Tryd.func30 rfl rfl rfl fun cx hcx => ?_
  unfold bfF
  generalize textB s = b at *
  by_cases hlt : 20000 < s.length
  · rw [if_pos hlt]
    repeat' (first | (refine AW.sreg rfl fun K hK => ?_; simp only [go_sem, Nat.reduceAdd, Nat.reduceMul, Int.reduceToNat, Nat.reduceLT, Nat.reduceLeDiff, Nat.le_refl, Nat.reduceEqDiff, ↓reduceIte, beq_self_eq_true, bne_self_eq_false, Int.reduceBEq, Int.reduceBNe, or_self, true_or, or_true, Option.map_some, Option.map_none, hlt]) | (refine AW.seq_k fun K hK => ?_) | (refine AW.condT rfl (by first | rfl | (simp; omega) | (simp [*]; done) | fail) ?_) | (refine hK _ ?_; clear hK K) | (refine AW.ret (Fin.data rfl (by first | (simp only [go_sem]; done) | (simp [go_sem, *]; done) | (simp [go_sem]; omega) | rfl) rfl)))
  · rw [if_neg hlt]
    cases b with
    | true => repeat' (first | ((first | refine AW.sreg rfl fun K hK => ?_ | refine run_call _ _ _ ((h1).pure rfl rfl _ _) rfl rfl (dstOk_of rfl) rfl rfl rfl ?_); simp only [go_sem, Nat.reduceAdd, Nat.reduceMul, Int.reduceToNat, Nat.reduceLT, Nat.reduceLeDiff, Nat.le_refl, Nat.reduceEqDiff, ↓reduceIte, beq_self_eq_true, bne_self_eq_false, Int.reduceBEq, Int.reduceBNe, or_self, true_or, or_true, Option.map_some, Option.map_none, hlt]) | (refine AW.seq_k fun K hK => ?_) | (refine AW.skip ?_; simp only [Then, InBlock]) | (refine AW.condF rfl (by first | rfl | (simp; omega) | (simp [*]; done) | fail) ?_) | (refine hK _ ?_; clear hK K) | (refine AW.ret (Fin.data rfl (by first | (simp only [go_sem]; done) | (simp [go_sem, *]; done) | (simp [go_sem]; omega) | rfl) rfl)))
    | false => repeat' (first | ((first | refine AW.sreg rfl fun K hK => ?_ | refine run_call _ _ _ ((h1).pure rfl rfl _ _) rfl rfl (dstOk_of rfl) rfl rfl rfl ?_); simp only [go_sem, Nat.reduceAdd, Nat.reduceMul, Int.reduceToNat, Nat.reduceLT, Nat.reduceLeDiff, Nat.le_refl, Nat.reduceEqDiff, ↓reduceIte, beq_self_eq_true, bne_self_eq_false, Int.reduceBEq, Int.reduceBNe, or_self, true_or, or_true, Option.map_some, Option.map_none, hlt]) | (refine AW.seq_k fun K hK => ?_) | (refine AW.skip ?_; simp only [Then, InBlock]) | (refine AW.condT rfl (by first | rfl | (simp; omega) | (simp [*]; done) | fail) ?_) | (refine AW.condF rfl (by first | rfl | (simp; omega) | (simp [*]; done) | fail) ?_) | (refine hK _ ?_; clear hK K) | (refine AW.ret (Fin.data rfl (by first | (simp only [go_sem]; done) | (simp [go_sem, *]; done) | (simp [go_sem]; omega) | rfl) rfl)))
theorem shortWords_any (s : Str) (h : OkT s) : Does Tryd.prog 32 [S s] [] (.tup [.d (.sl ((wsF s).map D.str)), I 0]) [] := by
  obtain ⟨b1, -⟩ := bf0 h.1
  have h1 := textFault_any s (by omega)
  rw [h.1] at h1
  have h2 := Words_any s b1
  have h3 := wsF_len s
  have h4 := h.2
  generalize wsF s = ws at *
  have h5 : ¬ 600 < ((ws.length : Nat) : Int) := by omega
  refine Does.of_AW (n := 17) Tryd.func32 rfl rfl rfl fun cx hcx => ?_
  repeat' (first | ((first | refine AW.sreg rfl fun K hK => ?_ | refine run_call _ _ _ ((h1).pure rfl rfl _ _) rfl rfl (dstOk_of rfl) rfl rfl rfl ?_ | refine run_call _ _ _ ((h2).pure rfl rfl _ _) rfl rfl (dstOk_of rfl) rfl rfl rfl ?_); simp only [go_sem, Nat.reduceAdd, Nat.reduceMul, Int.reduceToNat, Nat.reduceLT, Nat.reduceLeDiff, Nat.le_refl, Nat.reduceEqDiff, ↓reduceIte, beq_self_eq_true, bne_self_eq_false, Int.reduceBEq, Int.reduceBNe, or_self, true_or, or_true, Option.map_some, Option.map_none, List.length_map, h5]) | (refine AW.seq_k fun K hK => ?_) | (refine AW.skip ?_; simp only [Then, InBlock]) | (refine AW.condF rfl (by first | rfl | (simp; omega) | (simp [*]; done) | fail) ?_) | (refine hK _ ?_; clear hK K) | (refine AW.ret (Fin.data rfl (by first | (simp only [go_sem]; done) | (simp [go_sem, *]; done) | (simp [go_sem]; omega) | rfl) rfl)))
theorem pair_any (a b : Str) (least : Int) (ha : OkT a) (hb : OkT b) (hl : 1 ≤ least ∧ least ≤ 100) : Does Tryd.prog 17 [S a, S b, I least] [] (.tup [.d (.sl ((wsF a).map D.str)), .d (.sl ((wsF b).map D.str)), I 0]) [] := by
  have h1 := shortWords_any a ha
  have h2 := shortWords_any b hb
  have h3 := outside_any least 1 100
  have e1 : decide (least < 1) = false := by simp; omega
  have e2 : decide (100 < least) = false := by simp; omega
  rw [e1, e2, Bool.or_false] at h3
  generalize wsF a = x at *
  generalize wsF b = y at *
  refine Does.of_AW (n := 29) Tryd.func17 rfl rfl rfl fun cx hcx => ?_
  repeat' (first | ((first | refine AW.sreg rfl fun K hK => ?_ | refine run_call _ _ _ ((h1).pure rfl rfl _ _) rfl rfl (dstOk_of rfl) rfl rfl rfl ?_ | refine run_call _ _ _ ((h2).pure rfl rfl _ _) rfl rfl (dstOk_of rfl) rfl rfl rfl ?_ | refine run_call _ _ _ ((h3).pure rfl rfl _ _) rfl rfl (dstOk_of rfl) rfl rfl rfl ?_); simp only [go_sem, Nat.reduceAdd, Nat.reduceMul, Int.reduceToNat, Nat.reduceLT, Nat.reduceLeDiff, Nat.le_refl, Nat.reduceEqDiff, ↓reduceIte, beq_self_eq_true, bne_self_eq_false, Int.reduceBEq, Int.reduceBNe, or_self, true_or, or_true, Option.map_some, Option.map_none]) | (refine AW.seq_k fun K hK => ?_) | (refine AW.skip ?_; simp only [Then, InBlock]) | (refine AW.condF rfl (by first | rfl | (simp; omega) | (simp [*]; done) | fail) ?_) | (refine hK _ ?_; clear hK K) | (refine AW.ret (Fin.data rfl (by first | (simp only [go_sem]; done) | (simp [go_sem, *]; done) | (simp [go_sem]; omega) | rfl) rfl)))
end Go.AX

namespace Go.AX
open Go Go.Proofs Go.RowKit
def upN {β : Type} (f : Nat → β) (L : Nat) (v : β) : Nat → β := fun x => if x = L then v else f x
theorem upN_same {β : Type} (f : Nat → β) (L : Nat) (v : β) : upN f L v L = v := by simp [upN]
theorem upN_ne {β : Type} (f : Nat → β) {L x : Nat} (v : β) (h : x ≠ L) : upN f L v x = f x := by simp [upN, h]
/-- A row of numbers. -/
def tbl (P : Nat) (f : Nat → Int) : List D := (List.range P).map fun L => D.int .i64 (f L)
theorem tbl_len (P : Nat) (f : Nat → Int) : (tbl P f).length = P := by simp [tbl]
theorem tbl_get {P L : Nat} (f : Nat → Int) (h : L < P) : (tbl P f)[L]? = some (.int .i64 (f L)) := by
  unfold tbl
  rw [List.getElem?_map, List.getElem?_range h]
  rfl
theorem tbl_set {P L : Nat} (f : Nat → Int) (v : Int) (h : L < P) : (dv (tbl P f)).set L (.d (.int .i64 v)) = dv (tbl P (upN f L v)) := by
  apply List.ext_getElem?
  intro i
  rw [List.getElem?_set]
  simp only [dv, List.length_map, tbl_len, List.getElem?_map]
  by_cases e : L = i
  · subst e
    rw [if_pos rfl, if_pos h, tbl_get _ h, upN_same]
    rfl
  · rw [if_neg e]
    by_cases hi : i < P
    · rw [tbl_get _ hi, tbl_get _ hi, upN_ne _ _ (Ne.symm e)]
    · rw [List.getElem?_eq_none (by rw [tbl_len]; omega), List.getElem?_eq_none (by rw [tbl_len]; omega)]
theorem tbl_dv {P L : Nat} (f : Nat → Int) (h : L < P) : (dv (tbl P f))[L]? = some (.d (.int .i64 (f L))) := by
  unfold dv
  rw [List.getElem?_map, tbl_get f h]
  rfl
theorem tbl_zero (P : Nat) : dv (tbl P fun _ => 0) = List.replicate P (V.d (.int .i64 0)) := by
  unfold tbl dv
  rw [List.map_map]
  apply List.ext_getElem?
  intro i
  rw [List.getElem?_map, List.getElem?_replicate]
  by_cases hi : i < P
  · rw [List.getElem?_range hi, if_pos hi]; rfl
  · rw [List.getElem?_eq_none (by simpa using hi), if_neg hi]; rfl
abbrev bvec (P : Nat) (f : Nat → Int) : O := .vec 3 1 (dv (tbl P f))
/-- The check of a drawn region, the order ahead of the conflicts. -/
def regOk2 (ops : Array Oper) (tr : List Tr) : Bool :=
  let b := befOf ops.toList []
  (ops.toList.zipIdx.all fun (o, i) => o.after.toList.all fun e => !Region.binds .any e || decide (e.on < i)) &&
  (ops.toList.zip tr).zipIdx.all fun (oj, j) => ((ops.toList.zip tr).take j).zipIdx.all fun (oi, i) => (b.getD j 0).testBit i || !confl ops oi.1 oj.1 oi.2 oj.2
theorem regOk_swap {ops : Array Oper} {tr : List Tr} (h : regOk2 ops tr = true) : regOk ops tr = true := by
  unfold regOk2 at h
  unfold regOk
  simp only [Bool.or_comm] at h ⊢
  exact h
/-- A list of values by places. -/
def wv (n : Nat) (g : Nat → V) : List V := (List.range n).map g
theorem wv_len (n : Nat) (g : Nat → V) : (wv n g).length = n := by simp [wv]
theorem wv_get {n j : Nat} (g : Nat → V) (h : j < n) : (wv n g)[j]? = some (g j) := by
  unfold wv
  rw [List.getElem?_map, List.getElem?_range h]
  rfl
theorem wv_set {n j : Nat} (g : Nat → V) (v : V) (h : j < n) : (wv n g).set j v = wv n (upN g j v) := by
  apply List.ext_getElem?
  intro i
  rw [List.getElem?_set, wv_len]
  by_cases e : j = i
  · subst e
    rw [if_pos rfl, if_pos h, wv_get _ h, upN_same]
  · rw [if_neg e]
    by_cases hi : i < n
    · rw [wv_get _ hi, wv_get _ hi, upN_ne _ _ (Ne.symm e)]
    · rw [List.getElem?_eq_none (by rw [wv_len]; omega), List.getElem?_eq_none (by rw [wv_len]; omega)]
theorem frzL_map {hv : Nat → Option O} {keep : Nat → Bool} {g h : Nat → V} : ∀ l : List Nat, (∀ j ∈ l, frz hv keep (g j) = h j) → frzL hv keep (l.map g) = l.map h
  | [], _ => rfl
  | a :: l, e => by simp only [List.map_cons, frzL, e a (by simp), frzL_map l fun j hj => e j (List.mem_cons_of_mem _ hj)]
theorem renL_map {r : Nat → Nat} {g : Nat → V} : ∀ l : List Nat, renL r (l.map g) = l.map fun j => (g j).ren r
  | [] => rfl
  | a :: l => by simp only [List.map_cons, renL, renL_map l]
theorem belL_map {k : Nat} {g : Nat → V} : ∀ l : List Nat, (∀ j ∈ l, (g j).bel k = true) → belL k (l.map g) = true
  | [], _ => rfl
  | a :: l, e => by simp only [List.map_cons, belL, e a (by simp), belL_map l fun j hj => e j (List.mem_cons_of_mem _ hj), Bool.and_self]
section
variable {cx : Cx}
/-- Weakening to a state with a family of rows. -/
theorem Weak.rows (hcx : CxOk cx 0) {st st' : St} (g : Nat → Nat) (n B N : Nat) (W : Nat → Nat → Int) (base : List (Nat × Option O)) (hH : st'.H = base ++ Go.AX.fam (fun j => bvec n (W j)) B (List.range N)) (hn : st'.n = st.n)
    (he : ∀ p ∈ st'.env, ∃ v, lk st.env p.1 = some v ∧ frz st.hv (fun _ => true) v = p.2.ren g ∧ p.2.bel (64 * st'.c) = true)
    (hb : ∀ p ∈ base, ∃ o, p.2 = some o ∧ p.1 < 64 * st'.c ∧ o.bel (64 * st'.c) = true ∧ ∃ o', st.hv (g p.1) = some o' ∧ o'.frz st.hv (fun _ => true) = o.ren g)
    (hf : ∀ j, j < N → B + j < 64 * st'.c ∧ st.hv (g (B + j)) = some (bvec n (W j)))
    (hinj : ∀ p q, g p = g q → p = q) : Weak cx st st' := by
  refine Weak.go hcx g (fun _ => true) hn (by simp) (Nat.zero_le _) he ?_ (by simp) (fun p _ q _ h => hinj _ _ h)
  intro p hp
  rw [hH] at hp
  rcases List.mem_append.1 hp with hp | hp
  · obtain ⟨o, h1, h2, h3, o', h4, h5⟩ := hb p hp
    exact ⟨o, h1, h2, h3, rfl, o', h4, h5⟩
  · obtain ⟨j, x, h1, rfl⟩ := fam_mem hp
    have hj := get_lt h1
    rw [List.length_range] at hj
    rw [List.getElem?_range hj] at h1
    cases h1
    obtain ⟨h2, h3⟩ := hf j hj
    exact ⟨_, rfl, h2, by simp [go_sem], rfl, _, h3, by simp [go_sem]⟩
theorem lk_rows {n B N j : Nat} (W : Nat → Nat → Int) (h : j < N) : lk (fam (fun j => bvec n (W j)) B (List.range N)) (B + j) = some (some (bvec n (W j))) := lk_fam_in (by rw [List.getElem?_range h])
/-- Rows let go are data. -/
theorem frz_rows {hv : Nat → Option O} {keep : Nat → Bool} {V0 B e s r w : Nat} {G : Nat → V} {W : Nat → Nat → Int} (hk : keep V0 = false) (h : hv V0 = some (.vec e s (wv r G))) (hG : ∀ j, j < r → G j = .slr (B + j) 0 w) (hf : ∀ j, j < r → keep (B + j) = false ∧ hv (B + j) = some (bvec w (W j))) : frz hv keep (.slr V0 0 r) = .d (.sl ((List.range r).map fun j => D.sl (tbl w (W j)))) := by
  have hl : ∀ l : List Nat, (∀ j ∈ l, j < r) → toDL (toD hv keep 7) (l.map G) = some (l.map fun j => D.sl (tbl w (W j))) := by
    intro l
    induction l with
    | nil => intro _; rfl
    | cons a l ih =>
      intro hl
      obtain ⟨h1, h2⟩ := hf a (hl a (by simp))
      have e1 : toD hv keep 7 (G a) = some (.sl (tbl w (W a))) := by
        rw [hG a (hl a (by simp)), toD]
        simp only [h1, Bool.false_eq_true, if_false, h2, dv_length, tbl_len, Nat.zero_add, Nat.le_refl, if_true, List.drop_zero]
        rw [show (dv (tbl w (W a))).take w = dv (tbl w (W a)) from List.take_of_length_le (by rw [dv_length, tbl_len]; exact Nat.le_refl _)]
        rw [show toDL (toD hv keep 6) (dv (tbl w (W a))) = some (tbl w (W a)) from toDL_dv hv keep 5 _]
      simp only [List.map_cons, toDL, e1, ih fun j hj => hl j (List.mem_cons_of_mem _ hj)]
  have h1 : toD hv keep 8 (.slr V0 0 r) = some (.sl ((List.range r).map fun j => D.sl (tbl w (W j)))) := by
    rw [toD]
    simp only [hk, Bool.false_eq_true, if_false, h, wv_len, Nat.zero_add, Nat.le_refl, if_true, List.drop_zero]
    rw [show (wv r G).take r = wv r G from List.take_of_length_le (by rw [wv_len]; exact Nat.le_refl _)]
    rw [show toDL (toD hv keep 7) (wv r G) = _ from hl (List.range r) fun j hj => List.mem_range.1 hj]
  simp only [frz, hk, Bool.false_eq_true, if_false, h1]
end
/-- References of rows of width w, the first i of them. -/
def gW (B w i : Nat) (j : Nat) : V := if j < i then .slr (B + j) 0 w else .nils
theorem wv_nils (B r w : Nat) : List.replicate r V.nils = wv r (gW B w 0) := by
  apply List.ext_getElem?
  intro i
  rw [List.getElem?_replicate]
  by_cases hi : i < r
  · rw [wv_get _ hi, if_pos hi]; rfl
  · rw [List.getElem?_eq_none (by rw [wv_len]; omega), if_neg hi]
abbrev wvO (r : Nat) (g : Nat → V) : O := .vec 22 1 (wv r g)
abbrev fmW (B w N : Nat) (W : Nat → Nat → Int) : List (Nat × Option O) := fam (fun j => bvec w (W j)) B (List.range N)
/-- The new row's number in the place of its last one. -/
def swp (a b x : Nat) : Nat := if x = a then b else if x = b then a else x
theorem swp_inj (a b : Nat) (p q : Nat) (h : swp a b p = swp a b q) : p = q := by
  unfold swp at h
  split at h <;> split at h <;> (try split at h) <;> (try split at h) <;> omega
theorem swp_o {a b x : Nat} (h1 : x ≠ a) (h2 : x ≠ b) : swp a b x = x := by
  unfold swp
  rw [if_neg h1, if_neg h2]
theorem swp_a (a b : Nat) : swp a b a = b := by simp [swp]
theorem frzT_slr {hv : Nat → Option O} (i lo n : Nat) : frz hv (fun _ => true) (.slr i lo n) = .slr i lo n := by simp [frz]
theorem gW_bel {B w i c : Nat} (h : B + i ≤ c) (j : Nat) : (gW B w i j).bel c = true := by
  unfold gW
  split
  · simp [V.bel]; omega
  · rfl
theorem tbl_ext {n : Nat} {f g : Nat → Int} (h : ∀ x, x < n → f x = g x) : tbl n f = tbl n g := List.map_congr_left fun x hx => by rw [h x (List.mem_range.1 hx)]
theorem hv_rows {B w N j c k : Nat} {env : List (Nat × V)} {W : Nat → Nat → Int} {a : List (Nat × Option O)} (h : j < N) (ha : ∀ p ∈ a, p.1 ≠ B + j) : St.hv ⟨k, env, a ++ fmW B w N W, c⟩ (B + j) = some (bvec w (W j)) := by
  have : lk a (B + j) = none := by
    induction a with
    | nil => rfl
    | cons p a ih =>
      obtain ⟨x, y⟩ := p
      have h1 := ha (x, y) (by simp)
      simp only [lk]
      rw [if_neg h1]
      exact ih fun q hq => ha q (List.mem_cons_of_mem _ hq)
  unfold St.hv
  simp only [lk_app, this, lk_rows W h]
  rfl
/-- A reference of a row, or none. -/
def Rf (v : V) : Prop := v = .nils ∨ ∃ id lo n, v = .slr id lo n
theorem gW_rf (B w i j : Nat) : Rf (gW B w i j) := by
  unfold gW
  split
  · exact .inr ⟨_, _, _, rfl⟩
  · exact .inl rfl
theorem frzL_rf {hv : Nat → Option O} {n : Nat} {G : Nat → V} (h : ∀ j, Rf (G j)) : frzL hv (fun _ => true) (wv n G) = wv n G := frzL_map _ fun j _ => by
  rcases h j with e | ⟨a, b, c, e⟩
  · rw [e]; rfl
  · rw [e]; exact frzT_slr _ _ _
theorem upN_rf {G : Nat → V} (h : ∀ j, Rf (G j)) (i a b c : Nat) : ∀ j, Rf (upN G i (.slr a b c) j) := fun j => by
  unfold upN
  split
  · exact .inr ⟨_, _, _, rfl⟩
  · exact h j
theorem renL_rf {n : Nat} {G : Nat → V} (h : ∀ j, Rf (G j)) : renL id (wv n G) = wv n G := by
  unfold wv
  rw [renL_map]
  refine List.map_congr_left fun j _ => ?_
  rcases h j with e | ⟨a, b, c, e⟩ <;> rw [e] <;> rfl
theorem belL_gW {B r w i c : Nat} (h : B + i ≤ c) : belL c (wv r (gW B w i)) = true := belL_map _ fun j _ => gW_bel h j
theorem renL_swp {B M r w i : Nat} (hi : B + i < M) : renL (swp (B + i) M) (wv r (gW B w (i + 1))) = wv r (upN (gW B w i) i (.slr M 0 w)) := by
  unfold wv
  rw [renL_map]
  refine List.map_congr_left fun j _ => ?_
  unfold upN gW
  by_cases e : j = i
  · subst e
    rw [if_pos (by omega), if_pos rfl]
    simp only [V.ren, swp_a]
  · by_cases hj : j < i
    · rw [if_pos (by omega), if_neg e, if_pos hj]
      simp only [V.ren]
      rw [swp_o (by omega) (by omega)]
    · rw [if_neg (by omega), if_neg e, if_neg hj]
      rfl
end Go.AX

namespace Go.AX
open Go Go.Proofs Go.RowKit
/-- The table: the rows from r on, and of the row before them the places from k on. -/
def lgV (x y : List Str) (r k : Nat) (j l : Nat) : Int := if r ≤ j ∨ (j + 1 = r ∧ k ≤ l) then (Lx x y j l : Nat) else 0
theorem lgV_start (x y : List Str) (j : Nat) : tbl (y.length + 1) (fun _ => 0) = tbl (y.length + 1) (lgV x y x.length (y.length + 1) j) := tbl_ext fun l hl => by
  unfold lgV
  split
  · rename_i h
    rw [Lx_out (by omega)]
    rfl
  · rfl
theorem lgV_row (x y : List Str) (r j : Nat) : tbl (y.length + 1) (lgV x y r (y.length + 1) j) = tbl (y.length + 1) (lgV x y r y.length j) := tbl_ext fun l hl => by
  unfold lgV
  by_cases h : r ≤ j
  · rw [if_pos (.inl h), if_pos (.inl h)]
  · by_cases h2 : j + 1 = r ∧ y.length ≤ l
    · rw [if_neg (by omega), if_pos (.inr h2), Lx_out (.inr h2.2)]
      rfl
    · rw [if_neg (by omega), if_neg (by omega)]
theorem lgV_next (x y : List Str) (r j : Nat) : tbl (y.length + 1) (lgV x y (r + 1) 0 j) = tbl (y.length + 1) (lgV x y r (y.length + 1) j) := tbl_ext fun l hl => by
  unfold lgV
  by_cases h : r ≤ j
  · rw [if_pos (by omega), if_pos (.inl h)]
  · rw [if_neg (by omega), if_neg (by omega)]
theorem lgV_set (x y : List Str) (r k j : Nat) : tbl (y.length + 1) (upN (lgV x y (r + 1) (k + 1)) r (upN (lgV x y (r + 1) (k + 1) r) k ((Lx x y r k : Nat) : Int)) j) = tbl (y.length + 1) (lgV x y (r + 1) k j) := tbl_ext fun l hl => by
  by_cases e : j = r
  · subst e
    rw [upN_same]
    by_cases e2 : l = k
    · subst e2
      rw [upN_same]
      unfold lgV
      rw [if_pos (by omega)]
    · rw [upN_ne _ _ e2]
      unfold lgV
      by_cases h : k ≤ l
      · rw [if_pos (by omega), if_pos (by omega)]
      · rw [if_neg (by omega), if_neg (by omega)]
  · rw [upN_ne _ _ e]
    unfold lgV
    by_cases h : r + 1 ≤ j
    · rw [if_pos (.inl h), if_pos (.inl h)]
    · rw [if_neg (by omega), if_neg (by omega)]
theorem lgV_skip (x y : List Str) (r k j : Nat) (h0 : Lx x y r k = 0) : tbl (y.length + 1) (lgV x y (r + 1) (k + 1) j) = tbl (y.length + 1) (lgV x y (r + 1) k j) := tbl_ext fun l hl => by
  unfold lgV
  by_cases h : r + 1 ≤ j
  · rw [if_pos (.inl h), if_pos (.inl h)]
  · by_cases e : j = r
    · subst e
      by_cases h2 : k + 1 ≤ l
      · rw [if_pos (by omega), if_pos (by omega)]
      · by_cases e2 : l = k
        · subst e2
          rw [if_neg (by omega), if_pos (by omega), h0]
          rfl
        · rw [if_neg (by omega), if_neg (by omega)]
    · rw [if_neg (by omega), if_neg (by omega)]
abbrev rnD (r : Rn) : D := .agg [.int .i64 (r.1 : Int), .int .i64 (r.2.1 : Int), .int .i64 (r.2.2 : Int)]
theorem runs_any (x y : List Str) (least : Int) (hx : x.length ≤ 600) (hy : y.length ≤ 600) (hl : 1 ≤ least ∧ least ≤ 100) : Does Tryd.prog 34 [.d (.sl (x.map D.str)), .d (.sl (y.map D.str)), I least] [] (.d (.sl ((rnF x y least).map rnD))) [] := by
  refine Does.of_AW (n := 126) Tryd.func34 rfl rfl rfl fun cx hcx => ?_
  have hxi : ((x.length : Nat) : Int) + 1 = ((x.length + 1 : Nat) : Int) := by omega
  have hyi : ((y.length : Nat) : Int) + 1 = ((y.length + 1 : Nat) : Int) := by omega
  generalize hR : x.length + 1 = R at *
  generalize hM : y.length + 1 = M at *
  repeat' (first | (refine AW.sreg rfl fun K hK => ?_; simp only [go_sem, Nat.reduceAdd, Nat.reduceMul, Int.reduceToNat, Nat.reduceLT, Nat.reduceLeDiff, Nat.le_refl, Nat.reduceEqDiff, ↓reduceIte, beq_self_eq_true, bne_self_eq_false, Int.reduceBEq, Int.reduceBNe, or_self, true_or, or_true, Option.map_some, Option.map_none, List.length_map, hxi, Int.toNat_natCast]) | (refine AW.seq_k fun K hK => ?_) | (refine AW.block ?_) | (refine hK _ ?_; clear hK K) | (with_reducible refine And.intro ?_ ?_; first | omega | assumption | (focus (decide)) | (focus (simp; done)) | (focus (simp; omega)) | (focus (constructor <;> omega)) | fail))
  rw [wv_nils 64000 R M]
  refine AW.loopF (ι := Nat) [0, 1, 2, 7, 19] (fun p => [(20, I p)]) (fun p => (256, some (wvO R (gW 64000 M p))) :: fmW 64000 M p (fun _ _ => 0)) 2000 (fun p => p ≤ R) (fun p => R - p) 0 (Nat.zero_le _) (Weak.rows hcx id M 64000 0 (fun _ _ => 0) [(256, some (wvO R (gW 64000 M 0)))] rfl rfl (by simp [go_sem, frzT_slr]) (by simp [go_sem, belL_gW, frzL_rf (gW_rf _ _ _), renL_rf (gW_rf _ _ _)]) (fun j hj => absurd hj (Nat.not_lt_zero _)) (fun _ _ h => h)) ?_
  simp only [St.at_nil, St.at_cons, lk, Nat.reduceEqDiff, ↓reduceIte, Option.getD_some, Option.getD_none, List.cons_append, List.nil_append, List.append_nil]
  intro i i1
  by_cases hi : i < R
  · have g1 := wv_get (gW 64000 M i) hi
    have e1 : gW 64000 M i i = .nils := by simp [gW]
    rw [e1] at g1
    have s1 := fun v => wv_set (gW 64000 M i) v hi
    repeat' (first | ((first | refine AW.sreg rfl fun K hK => ?_ | refine AW.reg rfl ?_); simp only [go_sem, Nat.reduceAdd, Nat.reduceMul, Int.reduceToNat, Nat.reduceLT, Nat.reduceLeDiff, Nat.le_refl, Nat.reduceEqDiff, ↓reduceIte, beq_self_eq_true, bne_self_eq_false, Int.reduceBEq, Int.reduceBNe, or_self, true_or, or_true, Option.map_some, Option.map_none, List.length_map, Int.toNat_natCast, Nat.zero_add, hyi, g1, s1]) | (refine AW.seq_k fun K hK => ?_) | (refine AW.block ?_) | (refine AW.skip ?_; simp only [Then, InBlock]) | (refine AW.condT rfl (by first | rfl | (simp; omega) | (simp [*]; done) | fail) ?_) | (refine hK _ ?_; clear hK K) | (with_reducible refine And.intro ?_ ?_; first | omega | assumption | (focus (decide)) | (focus (simp; done)) | (focus (simp; omega)) | (focus (constructor <;> omega)) | fail))
    have hs : swp (64000 + i) 128512 256 = 256 := swp_o (by omega) (by omega)
    refine ⟨i + 1, hi, by omega, Weak.rows hcx (swp (64000 + i) 128512) M 64000 (i + 1) (fun _ _ => 0) [(256, some (wvO R (gW 64000 M (i + 1))))] rfl rfl (by simp [go_sem, frzT_slr, hs]) (by simp [go_sem, belL_gW (show 64000 + (i + 1) ≤ 128000 by omega), frzL_rf (upN_rf (gW_rf _ _ _) _ _ _ _), renL_swp (show 64000 + i < 128512 by omega), hs]) (fun j hj => ⟨by simp only; omega, ?_⟩) (swp_inj _ _)⟩
    by_cases e : j = i
    · subst e
      rw [swp_a]
      simp [go_sem, tbl_zero]
    · rw [swp_o (by omega) (by omega)]
      exact hv_rows (a := [_, _, _]) (by omega) (by simp; omega)
  obtain rfl : i = R := by omega
  repeat' (first | (refine AW.sreg rfl fun K hK => ?_; simp only [go_sem, Nat.reduceAdd, Nat.reduceMul, Int.reduceToNat, Nat.reduceLT, Nat.reduceLeDiff, Nat.le_refl, Nat.reduceEqDiff, ↓reduceIte, beq_self_eq_true, bne_self_eq_false, Int.reduceBEq, Int.reduceBNe, or_self, true_or, or_true, Option.map_some, Option.map_none, List.length_map, Int.toNat_natCast, Nat.zero_add]) | (refine AW.seq_k fun K hK => ?_) | (refine AW.block ?_) | (refine AW.exit ?_; simp only [go_sem, ↓reduceIte]) | (refine AW.condF rfl (by first | rfl | (simp; omega) | (simp [*]; done) | fail) ?_) | (refine hK _ ?_; clear hK K) | (clear hK K; refine hK _ ?_; clear hK K) | (with_reducible refine And.intro ?_ ?_; first | omega | assumption | (focus (decide)) | (focus (simp; done)) | (focus (simp; omega)) | (focus (constructor <;> omega)) | fail))
  subst hM
  subst hR
  generalize hM : y.length + 1 = M at *
  generalize hR : x.length + 1 = R at *
  refine AW.loopF (ι := Nat) [0, 1, 2, 7] (fun p => [(9, I ((p : Int) - 1))]) (fun p => (256, some (wvO R (gW 64000 M R))) :: fmW 64000 M R (lgV x y p M)) 2000 (fun p => p ≤ x.length) (fun p => p) x.length (Nat.le_refl _) (Weak.rows hcx id M 64000 R (lgV x y x.length M) [(256, some (wvO R (gW 64000 M R)))] rfl rfl (by simp [go_sem, frzT_slr]) (by simp [go_sem, belL_gW (show 64000 + R ≤ 128000 by omega), frzL_rf (gW_rf _ _ _), renL_rf (gW_rf _ _ _)]) (fun j hj => ⟨by simp only; omega, (by have h := lgV_start x y j; rw [hM] at h; show _ = some (O.vec _ 1 (dv (tbl M (lgV x y x.length M j)))); rw [← h]; exact hv_rows (a := [_]) hj (by simp; omega))⟩) (fun _ _ h => h)) ?_
  simp only [St.at_nil, St.at_cons, lk, Nat.reduceEqDiff, ↓reduceIte, Option.getD_some, Option.getD_none, List.cons_append, List.nil_append, List.append_nil]
  intro r r1
  by_cases hr : 0 < r
  · obtain ⟨r, rfl⟩ : ∃ q, r = q + 1 := ⟨r - 1, by omega⟩
    have e9 : ((r + 1 : Nat) : Int) - 1 = (r : Int) := by omega
    rw [e9]
    have hr0 : (0 : Int) ≤ (r : Int) := by omega
    repeat' (first | (refine AW.sreg rfl fun K hK => ?_; simp only [go_sem, Nat.reduceAdd, Nat.reduceMul, Int.reduceToNat, Nat.reduceLT, Nat.reduceLeDiff, Nat.le_refl, Nat.reduceEqDiff, ↓reduceIte, beq_self_eq_true, bne_self_eq_false, Int.reduceBEq, Int.reduceBNe, or_self, true_or, or_true, Option.map_some, Option.map_none, List.length_map, hr0]) | (refine AW.seq_k fun K hK => ?_) | (refine AW.block ?_) | (refine AW.skip ?_; simp only [Then, InBlock]) | (refine AW.condT rfl (by first | rfl | (simp; omega) | (simp [*]; done) | fail) ?_) | (refine hK _ ?_; clear hK K) | (with_reducible refine And.intro ?_ ?_; first | omega | assumption | (focus (decide)) | (focus (simp; done)) | (focus (simp; omega)) | (focus (constructor <;> omega)) | fail))
    refine AW.loopF (ι := Nat) [0, 1, 2, 7, 9] (fun p => [(10, I ((p : Int) - 1))]) (fun p => (256, some (wvO R (gW 64000 M R))) :: fmW 64000 M R (lgV x y (r + 1) p)) 2000 (fun p => p ≤ y.length) (fun p => p) y.length (Nat.le_refl _) (Weak.rows hcx id M 64000 R (lgV x y (r + 1) y.length) [(256, some (wvO R (gW 64000 M R)))] rfl rfl (by simp [go_sem, frzT_slr]) (by simp [go_sem, belL_gW (show 64000 + R ≤ 128000 by omega), frzL_rf (gW_rf _ _ _), renL_rf (gW_rf _ _ _)]) (fun j hj => ⟨by simp only; omega, (by have h := lgV_row x y (r + 1) j; rw [hM] at h; show _ = some (O.vec _ 1 (dv (tbl M (lgV x y (r + 1) y.length j)))); rw [← h]; exact hv_rows (a := [_]) hj (by simp; omega))⟩) (fun _ _ h => h)) ?_
    simp only [St.at_nil, St.at_cons, lk, Nat.reduceEqDiff, ↓reduceIte, Option.getD_some, Option.getD_none, List.cons_append, List.nil_append, List.append_nil]
    intro k k1
    by_cases hk : 0 < k
    · obtain ⟨k, rfl⟩ : ∃ q, k = q + 1 := ⟨k - 1, by omega⟩
      have e10 : ((k + 1 : Nat) : Int) - 1 = (k : Int) := by omega
      rw [e10]
      have hk0 : (0 : Int) ≤ (k : Int) := by omega
      obtain ⟨a, ha, -, -⟩ := get_some (l := x) (i := r) (by omega)
      obtain ⟨b, hb, -, -⟩ := get_some (l := y) (i := k) (by omega)
      have ga : (x.map D.str)[r]? = some (.str a) := by rw [List.getElem?_map, ha]; rfl
      have gb : (y.map D.str)[k]? = some (.str b) := by rw [List.getElem?_map, hb]; rfl
      have hLx := Lx_step ha hb
      by_cases hab : a = b
      · have hbb : (a == b) = true := by simp [hab]
        rw [if_pos hab] at hLx
        have g1 := wv_get (n := R) (gW 64000 M R) (show r < R by omega)
        have g2 := wv_get (n := R) (gW 64000 M R) (show r + 1 < R by omega)
        have e1 : gW 64000 M R r = .slr (64000 + r) 0 M := by simp [gW]; omega
        have e2 : gW 64000 M R (r + 1) = .slr (64000 + (r + 1)) 0 M := by simp [gW]; omega
        rw [e1] at g1
        rw [e2] at g2
        have l1 := lk_rows (n := M) (B := 64000) (lgV x y (r + 1) (k + 1)) (show r < R by omega)
        have l2 := lk_rows (n := M) (B := 64000) (lgV x y (r + 1) (k + 1)) (show r + 1 < R by omega)
        have n1 : (256 = 64000 + r) = False := eq_false (by omega)
        have n2 : (256 = 64000 + (r + 1)) = False := eq_false (by omega)
        have n3 : (64000 + r = 256) = False := eq_false (by omega)
        have t2 := tbl_dv (lgV x y (r + 1) (k + 1) (r + 1)) (show k + 1 < M by omega)
        have ev : lgV x y (r + 1) (k + 1) (r + 1) (k + 1) = (Lx x y (r + 1) (k + 1) : Nat) := by unfold lgV; rw [if_pos (by omega)]
        rw [ev] at t2
        have t1 := tbl_dv (lgV x y (r + 1) (k + 1) r) (show k < M by omega)
        have s1 := fun v => tbl_set (lgV x y (r + 1) (k + 1) r) v (show k < M by omega)
        have er : ((r : Int) + 1).toNat = r + 1 := by omega
        have ek : ((k : Int) + 1).toNat = k + 1 := by omega
        have hLl := (Lx_le x y (r + 1) (k + 1)).1
        repeat' (first | ((first | refine AW.sreg rfl fun K hK => ?_ | refine AW.sregD hmix rfl fun K hK => ?_ | refine AW.reg rfl ?_ | refine AW.regD hmix rfl ?_); simp only [go_sem, Nat.reduceAdd, Nat.reduceMul, Int.reduceToNat, Nat.reduceLT, Nat.reduceLeDiff, Nat.le_refl, Nat.reduceEqDiff, ↓reduceIte, beq_self_eq_true, bne_self_eq_false, Int.reduceBEq, Int.reduceBNe, or_self, true_or, or_true, Option.map_some, Option.map_none, List.length_map, Int.toNat_natCast, Nat.zero_add, hk0, ga, gb, hbb, g1, g2, l1, l2, n1, n2, t1, t2, s1, er, ek]) | (refine AW.seq_k fun K hK => ?_) | (refine AW.block ?_) | (refine AW.skip ?_; simp only [Then, InBlock]) | (refine AW.condT rfl (by first | rfl | (simp; omega) | (simp [*]; done) | fail) ?_) | (refine hK _ ?_; clear hK K) | (with_reducible refine And.intro (?_ : regOk _ _ = true) ?_; exact regOk_swap (by kernel_rfl)) | (with_reducible refine And.intro ?_ ?_; first | omega | assumption | (focus (decide)) | (focus (simp; done)) | (focus (simp; omega)) | (focus (constructor <;> omega)) | fail))
        have hev : (1 : Int) + ((Lx x y (r + 1) (k + 1) : Nat) : Int) = ((Lx x y r k : Nat) : Int) := by omega
        refine ⟨k, by omega, by omega, Weak.rows hcx id M 64000 R (lgV x y (r + 1) k) [(256, some (wvO R (gW 64000 M R)))] rfl rfl (by simp [go_sem, frzT_slr]) (by simp [go_sem, n3, belL_gW (show 64000 + R ≤ 128000 by omega), frzL_rf (gW_rf _ _ _), renL_rf (gW_rf _ _ _)]) (fun j hj => ⟨by simp only; omega, ?_⟩) (fun _ _ h => h)⟩
        have h := lgV_set x y r k j
        rw [hM] at h
        show _ = some (O.vec _ 1 (dv (tbl M (lgV x y (r + 1) k j))))
        rw [← h, ← hev]
        by_cases e : j = r
        · subst e
          rw [upN_same]
          simp [go_sem]
        · rw [upN_ne _ _ e]
          exact hv_rows (a := [_, _]) hj (by simp; omega)
      · have hbb : (a == b) = false := by simp [hab]
        rw [if_neg hab] at hLx
        repeat' (first | ((first | refine AW.sreg rfl fun K hK => ?_ | refine AW.sregD hmix rfl fun K hK => ?_ | refine AW.reg rfl ?_); simp only [go_sem, Nat.reduceAdd, Nat.reduceMul, Int.reduceToNat, Nat.reduceLT, Nat.reduceLeDiff, Nat.le_refl, Nat.reduceEqDiff, ↓reduceIte, beq_self_eq_true, bne_self_eq_false, Int.reduceBEq, Int.reduceBNe, or_self, true_or, or_true, Option.map_some, Option.map_none, List.length_map, Int.toNat_natCast, Nat.zero_add, hk0, ga, gb, hbb]) | (refine AW.seq_k fun K hK => ?_) | (refine AW.block ?_) | (refine AW.skip ?_; simp only [Then, InBlock]) | (refine AW.condT rfl (by first | rfl | (simp; omega) | (simp [*]; done) | fail) ?_) | (refine AW.condF rfl (by first | rfl | (simp; omega) | (simp [*]; done) | fail) ?_) | (refine hK _ ?_; clear hK K) | (with_reducible refine And.intro (?_ : regOk _ _ = true) ?_; exact regOk_swap (by kernel_rfl)) | (with_reducible refine And.intro ?_ ?_; first | omega | assumption | (focus (decide)) | (focus (simp; done)) | (focus (simp; omega)) | (focus (constructor <;> omega)) | fail))
        exact ⟨k, by omega, by omega, Weak.rows hcx id M 64000 R (lgV x y (r + 1) k) [(256, some (wvO R (gW 64000 M R)))] rfl rfl (by simp [go_sem, frzT_slr]) (by simp [go_sem, belL_gW (show 64000 + R ≤ 128000 by omega), frzL_rf (gW_rf _ _ _), renL_rf (gW_rf _ _ _)]) (fun j hj => ⟨by simp only; omega, (by have h := lgV_skip x y r k j hLx; rw [hM] at h; show _ = some (O.vec _ 1 (dv (tbl M (lgV x y (r + 1) k j)))); rw [← h]; exact hv_rows (a := [_]) hj (by simp; omega))⟩) (fun _ _ h => h)⟩
    · obtain rfl : k = 0 := by omega
      repeat' (first | ((first | refine AW.sreg rfl fun K hK => ?_ | refine AW.reg rfl ?_); simp only [go_sem, Nat.reduceAdd, Nat.reduceMul, Int.reduceToNat, Nat.reduceLT, Nat.reduceLeDiff, Nat.le_refl, Nat.reduceEqDiff, ↓reduceIte, beq_self_eq_true, bne_self_eq_false, Int.reduceBEq, Int.reduceBNe, or_self, true_or, or_true, Option.map_some, Option.map_none, List.length_map]) | (refine AW.seq_k fun K hK => ?_) | (refine AW.exit ?_; simp only [go_sem, ↓reduceIte]) | (refine AW.condF rfl (by first | rfl | (simp; omega) | (simp [*]; done) | fail) ?_) | (refine hK _ ?_; clear hK K) | (clear hK K; refine hK _ ?_; clear hK K) | (with_reducible refine And.intro ?_ ?_; first | omega | assumption | (focus (decide)) | (focus (simp; done)) | (focus (simp; omega)) | (focus (constructor <;> omega)) | fail))
      exact ⟨r, by omega, by omega, Weak.rows hcx id M 64000 R (lgV x y r M) [(256, some (wvO R (gW 64000 M R)))] rfl rfl (by simp [go_sem, frzT_slr]) (by simp [go_sem, belL_gW (show 64000 + R ≤ 128000 by omega), frzL_rf (gW_rf _ _ _), renL_rf (gW_rf _ _ _)]) (fun j hj => ⟨by simp only; omega, (by have h := lgV_next x y r j; rw [hM] at h; show _ = some (O.vec _ 1 (dv (tbl M (lgV x y r M j)))); rw [← h]; exact hv_rows (a := [_]) hj (by simp; omega))⟩) (fun _ _ h => h)⟩
  obtain rfl : r = 0 := by omega
  have hrow : ∀ j, tbl M (lgV x y 0 M j) = tbl M fun l => ((Lx x y j l : Nat) : Int) := fun j => tbl_ext fun l _ => by
    unfold lgV
    rw [if_pos (.inl (Nat.zero_le _))]
  refine AW.weak (Weak.data hcx (st' := ⟨126, [(0, .d (.sl (x.map D.str))), (1, .d (.sl (y.map D.str))), (2, I least), (7, .d (.sl ((List.range R).map fun j => D.sl (tbl M (lgV x y 0 M j))))), (9, I (((0 : Nat) : Int) - 1))], [], 2000⟩) rfl rfl ?_) ?_
  · have hfz : ∀ hv : Nat → Option O, hv 256 = some (wvO R (gW 64000 M R)) → (∀ j, j < R → hv (64000 + j) = some (bvec M (lgV x y 0 M j))) → frz hv (fun _ => false) (.slr 256 0 R) = .d (.sl ((List.range R).map fun j => D.sl (tbl M (lgV x y 0 M j)))) := fun hv h1 h2 => frz_rows (B := 64000) rfl h1 (fun j hj => by simp [gW, hj]) (fun j hj => ⟨rfl, h2 j hj⟩)
    intro p hp
    simp only [List.mem_cons, List.not_mem_nil, or_false] at hp
    rcases hp with rfl | rfl | rfl | rfl | rfl
    · exact ⟨_, rfl, frz_d.trans rfl, rfl⟩
    · exact ⟨_, rfl, frz_d.trans rfl, rfl⟩
    · exact ⟨_, rfl, frz_d.trans rfl, rfl⟩
    · exact ⟨_, rfl, (hfz _ rfl (fun j hj => hv_rows (a := [_]) hj (by simp; omega))).trans rfl, rfl⟩
    · exact ⟨_, rfl, frz_d.trans rfl, rfl⟩
  simp only [hrow]
  repeat' (first | (refine AW.sreg rfl fun K hK => ?_; simp only [go_sem, Nat.reduceAdd, Nat.reduceMul, Int.reduceToNat, Nat.reduceLT, Nat.reduceLeDiff, Nat.le_refl, Nat.reduceEqDiff, ↓reduceIte, beq_self_eq_true, bne_self_eq_false, Int.reduceBEq, Int.reduceBNe, or_self, true_or, or_true, Option.map_some, Option.map_none, List.length_map]) | (refine AW.seq_k fun K hK => ?_) | (refine AW.block ?_) | (refine AW.exit ?_; simp only [go_sem, ↓reduceIte]) | (refine AW.condF rfl (by first | rfl | (simp; omega) | (simp [*]; done) | fail) ?_) | (refine hK _ ?_; clear hK K) | (clear hK K; refine hK _ ?_; clear hK K))
  refine AW.weak (Weak.nil 11 80 3 rfl) ?_
  refine AW.loopF (ι := Nat) [0, 1, 2, 7, 71] (fun p => [(11, .slr 128512 0 (rnA x y least p).length), (72, I p)]) (fun p => [(128512, some (O.vec 80 3 (dv ((rnA x y least p).map rnD))))]) 2010 (fun p => p ≤ x.length) (fun p => x.length - p) 0 (Nat.zero_le _) (Weak.auto hcx rfl rfl (Nat.le_of_ble_eq_true rfl) (by simp [go_sem, gL, kL, renOf, V.obj, lk, Nat.blt, Nat.ble, List.map_append, dv_push, rnA]) (by simp [go_sem, gL, kL, renOf, V.obj, lk, Nat.blt, Nat.ble, List.map_append, dv_push, rnA]) (by first | exact pk0 | exact pk1 ⟨_, rfl⟩ | exact pk2 ⟨_, rfl⟩ ⟨_, rfl⟩ | exact pk3 ⟨_, rfl⟩ ⟨_, rfl⟩ ⟨_, rfl⟩ | exact pk4 ⟨_, rfl⟩ ⟨_, rfl⟩ ⟨_, rfl⟩ ⟨_, rfl⟩) (by simp [go_sem, gL, kL, lk, renOf, V.obj, Nat.blt, Nat.ble, rnA])) ?_; simp only [St.at_nil, St.at_cons, lk, Nat.reduceEqDiff, ↓reduceIte, Option.getD_some, Option.getD_none, List.cons_append, List.nil_append, List.append_nil]
  intro i i1
  by_cases hi : i < x.length
  · repeat' (first | (refine AW.sreg rfl fun K hK => ?_; simp only [go_sem, Nat.reduceAdd, Nat.reduceMul, Int.reduceToNat, Nat.reduceLT, Nat.reduceLeDiff, Nat.le_refl, Nat.reduceEqDiff, ↓reduceIte, beq_self_eq_true, bne_self_eq_false, Int.reduceBEq, Int.reduceBNe, or_self, true_or, or_true, Option.map_some, Option.map_none, List.length_map]) | (refine AW.seq_k fun K hK => ?_) | (refine AW.block ?_) | (refine AW.skip ?_; simp only [Then, InBlock]) | (refine AW.condT rfl (by first | rfl | (simp; omega) | (simp [*]; done) | fail) ?_) | (refine hK _ ?_; clear hK K))
    have hli := rnA_len x y least i
    generalize hA : rnA x y least i = A at *
    refine AW.loopF (ι := Nat) [0, 1, 2, 7, 12, 71, 72, 76] (fun p => [(11, .slr 128512 0 (A ++ rnL x y least i p).length), (77, I p)]) (fun p => [(128512, some (O.vec 80 3 (dv ((A ++ rnL x y least i p).map rnD))))]) 2020 (fun p => p ≤ y.length) (fun p => y.length - p) 0 (Nat.zero_le _) (Weak.auto hcx rfl rfl (Nat.le_of_ble_eq_true rfl) (by simp [go_sem, gL, kL, renOf, V.obj, lk, Nat.blt, Nat.ble, List.map_append, dv_push, rnL]) (by simp [go_sem, gL, kL, renOf, V.obj, lk, Nat.blt, Nat.ble, List.map_append, dv_push, rnL]) (by first | exact pk0 | exact pk1 ⟨_, rfl⟩ | exact pk2 ⟨_, rfl⟩ ⟨_, rfl⟩ | exact pk3 ⟨_, rfl⟩ ⟨_, rfl⟩ ⟨_, rfl⟩ | exact pk4 ⟨_, rfl⟩ ⟨_, rfl⟩ ⟨_, rfl⟩ ⟨_, rfl⟩) (by simp [go_sem, gL, kL, lk, renOf, V.obj, Nat.blt, Nat.ble, rnL])) ?_; simp only [St.at_nil, St.at_cons, lk, Nat.reduceEqDiff, ↓reduceIte, Option.getD_some, Option.getD_none, List.cons_append, List.nil_append, List.append_nil]
    intro k k1
    have hAl : A.length ≤ 600 * 600 := Nat.le_trans hli (Nat.mul_le_mul (by omega) hy)
    have hrl := rnL_len x y least i k
    by_cases hk : k < y.length
    · have r1 : ((List.range R).map fun j => D.sl (tbl M fun l => ((Lx x y j l : Nat) : Int)))[i]? = some (.sl (tbl M fun l => ((Lx x y i l : Nat) : Int))) := by rw [List.getElem?_map, List.getElem?_range (by omega)]; rfl
      have r2 := tbl_get (fun l => ((Lx x y i l : Nat) : Int)) (show k < M by omega)
      have hsn := rnL_succ x y least i k
      have hrb : rnB x y least i k = (decide (least ≤ (Lx x y i k : Nat)) && stB x y i k) := rfl
      have hst : stB x y i k = (i == 0 || k == 0 || !(x.getD (i - 1) [] == y.getD (k - 1) [])) := rfl
      generalize Lx x y i k = L at *
      generalize hB : rnL x y least i k = B at *
      have hlen : (A ++ B).length ≤ 361000 := by simp only [List.length_append]; omega
      have key : ∀ b : Bool, rnB x y least i k = b → A ++ rnL x y least i (k + 1) = (A ++ B) ++ if b then [(i, k, L)] else [] := fun b hb => by rw [hsn, hb, List.append_assoc]
      clear hsn hB hrl
      generalize A ++ B = C at *
      have htl : List.take C.length (dv (C.map rnD)) = dv (C.map rnD) := List.take_of_length_le (by simp [dv])
      by_cases hL : least ≤ (L : Int)
      · rw [hst] at hrb
        simp only [hL, decide_true, Bool.true_and] at hrb
        by_cases h0 : i = 0
        · subst h0
          have e := key true (by rw [hrb]; simp)
          rw [if_pos rfl] at e
          repeat' (first | ((first | refine AW.sreg rfl fun K hK => ?_ | refine AW.sregD hmix rfl fun K hK => ?_ | refine AW.reg rfl ?_); simp only [go_sem, Nat.reduceAdd, Nat.reduceMul, Int.reduceToNat, Nat.reduceLT, Nat.reduceLeDiff, Nat.le_refl, Nat.reduceEqDiff, ↓reduceIte, beq_self_eq_true, bne_self_eq_false, Int.reduceBEq, Int.reduceBNe, or_self, true_or, or_true, Option.map_some, Option.map_none, List.length_map, List.length_range, tbl_len, Int.toNat_natCast, Nat.zero_add, r1, r2, hL, htl]) | (refine AW.seq_k fun K hK => ?_) | (refine AW.block ?_) | (refine AW.skip ?_; simp only [Then, InBlock]) | (refine AW.condT rfl (by first | rfl | (simp; omega) | (simp [*]; done) | fail) ?_) | (refine hK _ ?_; clear hK K) | (refine stepBT_split (fun h => ?_) (fun h => ?_) <;> (have hb0 := h) <;> (try simp only [Bool.not_eq_true', Bool.not_eq_false'] at hb0) <;> (try simp only [decide_eq_true_eq, decide_eq_false_iff_not, Bool.not_eq_true', Bool.not_eq_false', Bool.not_eq_eq_eq_not, Bool.not_true, Bool.not_false, beq_iff_eq, bne_iff_ne, beq_eq_false_iff_ne, ne_eq, Bool.and_eq_true, Bool.or_eq_true, Bool.or_eq_false_iff] at h) <;> simp only [go_sem, Nat.reduceAdd, Nat.reduceMul, Int.reduceToNat, Nat.reduceLT, Nat.reduceLeDiff, Nat.le_refl, Nat.reduceEqDiff, ↓reduceIte, beq_self_eq_true, bne_self_eq_false, Int.reduceBEq, Int.reduceBNe, or_self, true_or, or_true, Option.map_some, Option.map_none, hb0, h, decide_true, decide_false, List.length_map, List.length_range, tbl_len, Int.toNat_natCast, Nat.zero_add, r1, r2, hL, htl] <;> (try clear hb0)) | (with_reducible refine And.intro (?_ : regOk _ _ = true) ?_; kernel_rfl) | (with_reducible refine And.intro ?_ ?_; first | omega | assumption | (focus (decide)) | (focus (simp; done)) | (focus (simp; omega)) | (focus (constructor <;> omega)) | fail) | (exfalso; omega))
          have hz0 : rnD (0, k, L) = .agg [.int .i64 0, .int .i64 (k : Int), .int .i64 (L : Int)] := rfl
          exact ⟨k + 1, hk, by omega, (Weak.auto hcx rfl rfl (Nat.le_of_ble_eq_true rfl) (by simp [go_sem, gL, kL, renOf, V.obj, lk, Nat.blt, Nat.ble, List.map_append, dv_push, e, hz0]) (by simp [go_sem, gL, kL, renOf, V.obj, lk, Nat.blt, Nat.ble, List.map_append, dv_push, e, hz0]) (by first | exact pk0 | exact pk1 ⟨_, rfl⟩ | exact pk2 ⟨_, rfl⟩ ⟨_, rfl⟩ | exact pk3 ⟨_, rfl⟩ ⟨_, rfl⟩ ⟨_, rfl⟩ | exact pk4 ⟨_, rfl⟩ ⟨_, rfl⟩ ⟨_, rfl⟩ ⟨_, rfl⟩) (by simp [go_sem, gL, kL, lk, renOf, V.obj, Nat.blt, Nat.ble, e, hz0]))⟩
        · have hz : ((i : Int) == 0) = false := by simp; omega
          by_cases h1 : k = 0
          · subst h1
            have e := key true (by rw [hrb]; simp)
            rw [if_pos rfl] at e
            repeat' (first | ((first | refine AW.sreg rfl fun K hK => ?_ | refine AW.sregD hmix rfl fun K hK => ?_ | refine AW.reg rfl ?_); simp only [go_sem, Nat.reduceAdd, Nat.reduceMul, Int.reduceToNat, Nat.reduceLT, Nat.reduceLeDiff, Nat.le_refl, Nat.reduceEqDiff, ↓reduceIte, beq_self_eq_true, bne_self_eq_false, Int.reduceBEq, Int.reduceBNe, or_self, true_or, or_true, Option.map_some, Option.map_none, List.length_map, List.length_range, tbl_len, Int.toNat_natCast, Nat.zero_add, r1, r2, hL, htl, hz]) | (refine AW.seq_k fun K hK => ?_) | (refine AW.block ?_) | (refine AW.skip ?_; simp only [Then, InBlock]) | (refine AW.condT rfl (by first | rfl | (simp; omega) | (simp [*]; done) | fail) ?_) | (refine hK _ ?_; clear hK K) | (refine stepBT_split (fun h => ?_) (fun h => ?_) <;> (have hb0 := h) <;> (try simp only [Bool.not_eq_true', Bool.not_eq_false'] at hb0) <;> (try simp only [decide_eq_true_eq, decide_eq_false_iff_not, Bool.not_eq_true', Bool.not_eq_false', Bool.not_eq_eq_eq_not, Bool.not_true, Bool.not_false, beq_iff_eq, bne_iff_ne, beq_eq_false_iff_ne, ne_eq, Bool.and_eq_true, Bool.or_eq_true, Bool.or_eq_false_iff] at h) <;> simp only [go_sem, Nat.reduceAdd, Nat.reduceMul, Int.reduceToNat, Nat.reduceLT, Nat.reduceLeDiff, Nat.le_refl, Nat.reduceEqDiff, ↓reduceIte, beq_self_eq_true, bne_self_eq_false, Int.reduceBEq, Int.reduceBNe, or_self, true_or, or_true, Option.map_some, Option.map_none, hb0, h, decide_true, decide_false, List.length_map, List.length_range, tbl_len, Int.toNat_natCast, Nat.zero_add, r1, r2, hL, htl, hz] <;> (try clear hb0)) | (with_reducible refine And.intro (?_ : regOk _ _ = true) ?_; kernel_rfl) | (with_reducible refine And.intro ?_ ?_; first | omega | assumption | (focus (decide)) | (focus (simp; done)) | (focus (simp; omega)) | (focus (constructor <;> omega)) | fail) | (exfalso; omega))
            have hz0 : rnD (i, 0, L) = .agg [.int .i64 (i : Int), .int .i64 0, .int .i64 (L : Int)] := rfl
            exact ⟨0 + 1, hk, by omega, (Weak.auto hcx rfl rfl (Nat.le_of_ble_eq_true rfl) (by simp [go_sem, gL, kL, renOf, V.obj, lk, Nat.blt, Nat.ble, List.map_append, dv_push, e, hz0]) (by simp [go_sem, gL, kL, renOf, V.obj, lk, Nat.blt, Nat.ble, List.map_append, dv_push, e, hz0]) (by first | exact pk0 | exact pk1 ⟨_, rfl⟩ | exact pk2 ⟨_, rfl⟩ ⟨_, rfl⟩ | exact pk3 ⟨_, rfl⟩ ⟨_, rfl⟩ ⟨_, rfl⟩ | exact pk4 ⟨_, rfl⟩ ⟨_, rfl⟩ ⟨_, rfl⟩ ⟨_, rfl⟩) (by simp [go_sem, gL, kL, lk, renOf, V.obj, Nat.blt, Nat.ble, e, hz0]))⟩
          · have hz2 : ((k : Int) == 0) = false := by simp; omega
            have ei : ((i : Int) - 1).toNat = i - 1 := by omega
            have ek : ((k : Int) - 1).toNat = k - 1 := by omega
            have hgd : ∀ (z : List Str) (q : Nat), q < z.length → (z.map D.str)[q]? = some (.str (z.getD q [])) := fun z q hq => by
              rw [List.getElem?_map, List.getD, List.getElem?_eq_getElem hq]; rfl
            have ga := hgd x (i - 1) (by omega)
            have gb := hgd y (k - 1) (by omega)
            generalize x.getD (i - 1) [] = a at *
            generalize y.getD (k - 1) [] = b at *
            cases hab : (a == b) with
            | true =>
              have e := key false (by rw [hrb, hab]; simp; omega)
              rw [if_neg (by simp), List.append_nil] at e
              repeat' (first | ((first | refine AW.sreg rfl fun K hK => ?_ | refine AW.sregD hmix rfl fun K hK => ?_ | refine AW.reg rfl ?_); simp only [go_sem, Nat.reduceAdd, Nat.reduceMul, Int.reduceToNat, Nat.reduceLT, Nat.reduceLeDiff, Nat.le_refl, Nat.reduceEqDiff, ↓reduceIte, beq_self_eq_true, bne_self_eq_false, Int.reduceBEq, Int.reduceBNe, or_self, true_or, or_true, Option.map_some, Option.map_none, List.length_map, List.length_range, tbl_len, Int.toNat_natCast, Nat.zero_add, r1, r2, hL, htl, hz, hz2, ei, ek, ga, gb, hab]) | (refine AW.seq_k fun K hK => ?_) | (refine AW.block ?_) | (refine AW.skip ?_; simp only [Then, InBlock]) | (refine AW.condT rfl (by first | rfl | (simp; omega) | (simp [*]; done) | fail) ?_) | (refine AW.condF rfl (by first | rfl | (simp; omega) | (simp [*]; done) | fail) ?_) | (refine hK _ ?_; clear hK K) | (with_reducible refine And.intro (?_ : regOk _ _ = true) ?_; kernel_rfl) | (with_reducible refine And.intro ?_ ?_; first | omega | assumption | (focus (decide)) | (focus (simp; done)) | (focus (simp; omega)) | (focus (constructor <;> omega)) | fail))
              exact ⟨k + 1, hk, by omega, (Weak.auto hcx rfl rfl (Nat.le_of_ble_eq_true rfl) (by simp [go_sem, gL, kL, renOf, V.obj, lk, Nat.blt, Nat.ble, List.map_append, dv_push, e]) (by simp [go_sem, gL, kL, renOf, V.obj, lk, Nat.blt, Nat.ble, List.map_append, dv_push, e]) (by first | exact pk0 | exact pk1 ⟨_, rfl⟩ | exact pk2 ⟨_, rfl⟩ ⟨_, rfl⟩ | exact pk3 ⟨_, rfl⟩ ⟨_, rfl⟩ ⟨_, rfl⟩ | exact pk4 ⟨_, rfl⟩ ⟨_, rfl⟩ ⟨_, rfl⟩ ⟨_, rfl⟩) (by simp [go_sem, gL, kL, lk, renOf, V.obj, Nat.blt, Nat.ble, e]))⟩
            | false =>
              have e := key true (by rw [hrb, hab]; simp)
              rw [if_pos rfl] at e
              repeat' (first | ((first | refine AW.sreg rfl fun K hK => ?_ | refine AW.sregD hmix rfl fun K hK => ?_ | refine AW.reg rfl ?_); simp only [go_sem, Nat.reduceAdd, Nat.reduceMul, Int.reduceToNat, Nat.reduceLT, Nat.reduceLeDiff, Nat.le_refl, Nat.reduceEqDiff, ↓reduceIte, beq_self_eq_true, bne_self_eq_false, Int.reduceBEq, Int.reduceBNe, or_self, true_or, or_true, Option.map_some, Option.map_none, List.length_map, List.length_range, tbl_len, Int.toNat_natCast, Nat.zero_add, r1, r2, hL, htl, hz, hz2, ei, ek, ga, gb, hab]) | (refine AW.seq_k fun K hK => ?_) | (refine AW.block ?_) | (refine AW.skip ?_; simp only [Then, InBlock]) | (refine AW.condT rfl (by first | rfl | (simp; omega) | (simp [*]; done) | fail) ?_) | (refine hK _ ?_; clear hK K) | (with_reducible refine And.intro (?_ : regOk _ _ = true) ?_; kernel_rfl) | (with_reducible refine And.intro ?_ ?_; first | omega | assumption | (focus (decide)) | (focus (simp; done)) | (focus (simp; omega)) | (focus (constructor <;> omega)) | fail))
              exact ⟨k + 1, hk, by omega, (Weak.auto hcx rfl rfl (Nat.le_of_ble_eq_true rfl) (by simp [go_sem, gL, kL, renOf, V.obj, lk, Nat.blt, Nat.ble, List.map_append, dv_push, e]) (by simp [go_sem, gL, kL, renOf, V.obj, lk, Nat.blt, Nat.ble, List.map_append, dv_push, e]) (by first | exact pk0 | exact pk1 ⟨_, rfl⟩ | exact pk2 ⟨_, rfl⟩ ⟨_, rfl⟩ | exact pk3 ⟨_, rfl⟩ ⟨_, rfl⟩ ⟨_, rfl⟩ | exact pk4 ⟨_, rfl⟩ ⟨_, rfl⟩ ⟨_, rfl⟩ ⟨_, rfl⟩) (by simp [go_sem, gL, kL, lk, renOf, V.obj, Nat.blt, Nat.ble, e]))⟩
      · have e := key false (by rw [hrb]; simp [hL])
        rw [if_neg (by simp), List.append_nil] at e
        repeat' (first | ((first | refine AW.sreg rfl fun K hK => ?_ | refine AW.sregD hmix rfl fun K hK => ?_ | refine AW.reg rfl ?_); simp only [go_sem, Nat.reduceAdd, Nat.reduceMul, Int.reduceToNat, Nat.reduceLT, Nat.reduceLeDiff, Nat.le_refl, Nat.reduceEqDiff, ↓reduceIte, beq_self_eq_true, bne_self_eq_false, Int.reduceBEq, Int.reduceBNe, or_self, true_or, or_true, Option.map_some, Option.map_none, List.length_map, List.length_range, tbl_len, Int.toNat_natCast, Nat.zero_add, r1, r2, hL, htl]) | (refine AW.seq_k fun K hK => ?_) | (refine AW.block ?_) | (refine AW.skip ?_; simp only [Then, InBlock]) | (refine AW.condT rfl (by first | rfl | (simp; omega) | (simp [*]; done) | fail) ?_) | (refine AW.condF rfl (by first | rfl | (simp; omega) | (simp [*]; done) | fail) ?_) | (refine hK _ ?_; clear hK K) | (refine stepBT_split (fun h => ?_) (fun h => ?_) <;> (have hb0 := h) <;> (try simp only [Bool.not_eq_true', Bool.not_eq_false'] at hb0) <;> (try simp only [decide_eq_true_eq, decide_eq_false_iff_not, Bool.not_eq_true', Bool.not_eq_false', Bool.not_eq_eq_eq_not, Bool.not_true, Bool.not_false, beq_iff_eq, bne_iff_ne, beq_eq_false_iff_ne, ne_eq, Bool.and_eq_true, Bool.or_eq_true, Bool.or_eq_false_iff] at h) <;> simp only [go_sem, Nat.reduceAdd, Nat.reduceMul, Int.reduceToNat, Nat.reduceLT, Nat.reduceLeDiff, Nat.le_refl, Nat.reduceEqDiff, ↓reduceIte, beq_self_eq_true, bne_self_eq_false, Int.reduceBEq, Int.reduceBNe, or_self, true_or, or_true, Option.map_some, Option.map_none, hb0, h, decide_true, decide_false, List.length_map, List.length_range, tbl_len, Int.toNat_natCast, Nat.zero_add, r1, r2, hL, htl] <;> (try clear hb0)) | (with_reducible refine And.intro (?_ : regOk _ _ = true) ?_; kernel_rfl) | (with_reducible refine And.intro ?_ ?_; first | omega | assumption | (focus (decide)) | (focus (simp; done)) | (focus (simp; omega)) | (focus (constructor <;> omega)) | fail))
        exact ⟨k + 1, hk, by omega, (Weak.auto hcx rfl rfl (Nat.le_of_ble_eq_true rfl) (by simp [go_sem, gL, kL, renOf, V.obj, lk, Nat.blt, Nat.ble, List.map_append, dv_push, e]) (by simp [go_sem, gL, kL, renOf, V.obj, lk, Nat.blt, Nat.ble, List.map_append, dv_push, e]) (by first | exact pk0 | exact pk1 ⟨_, rfl⟩ | exact pk2 ⟨_, rfl⟩ ⟨_, rfl⟩ | exact pk3 ⟨_, rfl⟩ ⟨_, rfl⟩ ⟨_, rfl⟩ | exact pk4 ⟨_, rfl⟩ ⟨_, rfl⟩ ⟨_, rfl⟩ ⟨_, rfl⟩) (by simp [go_sem, gL, kL, lk, renOf, V.obj, Nat.blt, Nat.ble, e]))⟩
    · obtain rfl : k = y.length := by omega
      have hac := rnA_succ x y least i
      rw [hA] at hac
      repeat' (first | ((first | refine AW.sreg rfl fun K hK => ?_ | refine AW.reg rfl ?_); simp only [go_sem, Nat.reduceAdd, Nat.reduceMul, Int.reduceToNat, Nat.reduceLT, Nat.reduceLeDiff, Nat.le_refl, Nat.reduceEqDiff, ↓reduceIte, beq_self_eq_true, bne_self_eq_false, Int.reduceBEq, Int.reduceBNe, or_self, true_or, or_true, Option.map_some, Option.map_none, List.length_map]) | (refine AW.seq_k fun K hK => ?_) | (refine AW.exit ?_; simp only [go_sem, ↓reduceIte]) | (refine AW.condF rfl (by first | rfl | (simp; omega) | (simp [*]; done) | fail) ?_) | (refine hK _ ?_; clear hK K) | (clear hK K; refine hK _ ?_; clear hK K) | (with_reducible refine And.intro ?_ ?_; first | omega | assumption | (focus (decide)) | (focus (simp; done)) | (focus (simp; omega)) | (focus (constructor <;> omega)) | fail))
      exact ⟨i + 1, hi, by omega, (Weak.auto hcx rfl rfl (Nat.le_of_ble_eq_true rfl) (by simp [go_sem, gL, kL, renOf, V.obj, lk, Nat.blt, Nat.ble, List.map_append, dv_push, hac]) (by simp [go_sem, gL, kL, renOf, V.obj, lk, Nat.blt, Nat.ble, List.map_append, dv_push, hac]) (by first | exact pk0 | exact pk1 ⟨_, rfl⟩ | exact pk2 ⟨_, rfl⟩ ⟨_, rfl⟩ | exact pk3 ⟨_, rfl⟩ ⟨_, rfl⟩ ⟨_, rfl⟩ | exact pk4 ⟨_, rfl⟩ ⟨_, rfl⟩ ⟨_, rfl⟩ ⟨_, rfl⟩) (by simp [go_sem, gL, kL, lk, renOf, V.obj, Nat.blt, Nat.ble, hac]))⟩
  · obtain rfl : i = x.length := by omega
    repeat' (first | (refine AW.sreg rfl fun K hK => ?_; simp only [go_sem, Nat.reduceAdd, Nat.reduceMul, Int.reduceToNat, Nat.reduceLT, Nat.reduceLeDiff, Nat.le_refl, Nat.reduceEqDiff, ↓reduceIte, beq_self_eq_true, bne_self_eq_false, Int.reduceBEq, Int.reduceBNe, or_self, true_or, or_true, Option.map_some, Option.map_none, List.length_map]) | (refine AW.seq_k fun K hK => ?_) | (refine AW.exit ?_; simp only [go_sem, ↓reduceIte]) | (refine AW.condF rfl (by first | rfl | (simp; omega) | (simp [*]; done) | fail) ?_) | (refine hK _ ?_; clear hK K) | (clear hK K; refine hK _ ?_; clear hK K))
    exact AW.ret (Fin.data rfl ((frz_slr rfl rfl (by simp)).trans (by simp [go_sem, rnF])) rfl)
end Go.AX

namespace Go.AX
open Go Go.Proofs Go.RowKit
theorem at1_any (r : Rn) : Does Tryd.prog 36 [.d (rnD r)] [] (I (r.1 : Int)) [] := by
  refine Does.of_AW (n := 5) Tryd.func36 rfl rfl rfl fun cx hcx => ?_
  repeat' (first | (refine AW.sreg rfl fun K hK => ?_; simp only [go_sem, Nat.reduceAdd, Nat.reduceMul, Int.reduceToNat, Nat.reduceLT, Nat.reduceLeDiff, Nat.le_refl, Nat.reduceEqDiff, ↓reduceIte, beq_self_eq_true, bne_self_eq_false, Int.reduceBEq, Int.reduceBNe, or_self, true_or, or_true, Option.map_some, Option.map_none]) | (refine hK _ ?_; clear hK K) | (refine AW.ret (Fin.data rfl (by first | (simp only [go_sem]; done) | (simp [go_sem, *]; done) | (simp [go_sem]; omega) | rfl) rfl)))
theorem at2_any (r : Rn) : Does Tryd.prog 37 [.d (rnD r)] [] (I (r.2.1 : Int)) [] := by
  refine Does.of_AW (n := 5) Tryd.func37 rfl rfl rfl fun cx hcx => ?_
  repeat' (first | (refine AW.sreg rfl fun K hK => ?_; simp only [go_sem, Nat.reduceAdd, Nat.reduceMul, Int.reduceToNat, Nat.reduceLT, Nat.reduceLeDiff, Nat.le_refl, Nat.reduceEqDiff, ↓reduceIte, beq_self_eq_true, bne_self_eq_false, Int.reduceBEq, Int.reduceBNe, or_self, true_or, or_true, Option.map_some, Option.map_none]) | (refine hK _ ?_; clear hK K) | (refine AW.ret (Fin.data rfl (by first | (simp only [go_sem]; done) | (simp [go_sem, *]; done) | (simp [go_sem]; omega) | rfl) rfl)))
/-- Which places are in runs. -/
def blL (many : Nat) (c : Nat → Bool) : List D := (List.range many).map fun p => D.bool (c p)
theorem blL_len (many : Nat) (c : Nat → Bool) : (blL many c).length = many := by simp [blL]
theorem blL_dv {many p : Nat} (c : Nat → Bool) (h : p < many) : (dv (blL many c))[p]? = some (.d (.bool (c p))) := by
  unfold dv blL
  rw [List.getElem?_map, List.getElem?_map, List.getElem?_range h]
  rfl
def addB (c : Nat → Bool) (q : Nat) (p : Nat) : Bool := c p || p == q
theorem blL_set {many q : Nat} (c : Nat → Bool) (h : q < many) : (dv (blL many c)).set q (.d (.bool true)) = dv (blL many (addB c q)) := by
  apply List.ext_getElem?
  intro i
  rw [List.getElem?_set]
  have hl : (dv (blL many c)).length = many := by simp [dv, blL_len]
  rw [hl]
  by_cases e : q = i
  · subst e
    rw [if_pos rfl, if_pos h, blL_dv _ h]
    simp [addB]
  · rw [if_neg e]
    by_cases hi : i < many
    · rw [blL_dv _ hi, blL_dv _ hi]
      have : (i == q) = false := by simp; omega
      simp [addB, this]
    · rw [List.getElem?_eq_none (by simp [dv, blL_len]; omega), List.getElem?_eq_none (by simp [dv, blL_len]; omega)]
theorem blL_zero (many : Nat) : List.replicate many (V.d (.bool false)) = dv (blL many fun _ => false) := by
  apply List.ext_getElem?
  intro i
  rw [List.getElem?_replicate]
  by_cases hi : i < many
  · rw [blL_dv _ hi, if_pos hi]
  · rw [List.getElem?_eq_none (by simp [dv, blL_len]; omega), if_neg hi]
def cnB (many : Nat) (c : Nat → Bool) : Nat := ((List.range many).filter c).length
theorem cnB_le (many : Nat) (c : Nat → Bool) : cnB many c ≤ many := by
  have := List.length_filter_le c (List.range many)
  rwa [List.length_range] at this
theorem cnB_add {many q : Nat} {c : Nat → Bool} (h : q < many) (hc : c q = false) : cnB many (addB c q) = cnB many c + 1 := by
  have key : ∀ l : List Nat, l.Nodup → (l.filter (addB c q)).length = (l.filter c).length + if q ∈ l then 1 else 0 := by
    intro l
    induction l with
    | nil => intro _; rfl
    | cons a l ih =>
      intro hn
      have hn' := List.nodup_cons.1 hn
      have ih := ih hn'.2
      simp only [List.filter_cons, List.mem_cons]
      by_cases e : a = q
      · subst e
        rw [if_neg hn'.1] at ih
        have : addB c a a = true := by simp [addB]
        rw [this, hc]
        simp [ih]
      · have e2 : addB c q a = c a := by
          have : (a == q) = false := by simpa using e
          simp [addB, this]
        rw [e2]
        have e3 : (q = a ∨ q ∈ l) ↔ q ∈ l := by
          constructor
          · rintro (h | h)
            · exact absurd h.symm e
            · exact h
          · exact .inr
        simp only [e3]
        cases c a <;> simp [ih] <;> omega
  unfold cnB
  rw [key _ List.nodup_range, if_pos (List.mem_range.2 h)]
theorem addB_same {q : Nat} {c : Nat → Bool} (hc : c q = true) : addB c q = c := by
  funext p
  unfold addB
  by_cases e : p = q
  · subst e; simp [hc]
  · have : (p == q) = false := by simpa using e
    simp [this]
/-- Covered by some runs and the first q places of one more. -/
def cvR (l : List Rn) (f : Rn → Nat) (r : Rn) (q : Nat) (p : Nat) : Bool := inR l f p || (decide (f r ≤ p) && decide (p < f r + q))
theorem cvR_zero (l : List Rn) (f : Rn → Nat) (r : Rn) : cvR l f r 0 = inR l f := by
  funext p
  have h : (decide (f r ≤ p) && decide (p < f r + 0)) = false := by
    rw [Bool.and_eq_false_iff, decide_eq_false_iff_not, decide_eq_false_iff_not]
    omega
  unfold cvR
  rw [h, Bool.or_false]
theorem cvR_succ (l : List Rn) (f : Rn → Nat) (r : Rn) (q : Nat) : cvR l f r (q + 1) = addB (cvR l f r q) (f r + q) := by
  funext p
  unfold cvR addB
  rw [Bool.or_assoc]
  congr 1
  rw [Bool.eq_iff_iff]
  simp only [Bool.and_eq_true, Bool.or_eq_true, decide_eq_true_eq, beq_iff_eq]
  omega
theorem cvR_all (l : List Rn) (f : Rn → Nat) (r : Rn) : cvR l f r r.2.2 = inR (l ++ [r]) f := by
  funext p
  simp [cvR, inR, List.any_append]
theorem inR_nil (f : Rn → Nat) : inR [] f = fun _ => false := rfl
theorem cnB_zero (many : Nat) : cnB many (fun _ => false) = 0 := by simp [cnB]
theorem part_any (c : Nat) (f : Rn → Nat) (hc : ∀ r, Does Tryd.prog c [.d (rnD r)] [] (I (f r : Int)) []) (many : Nat) (h1 : 1 ≤ many) (h2 : many ≤ 600) (l : List Rn) (hl : l.length ≤ 361000) (hr : ∀ r ∈ l, f r + r.2.2 ≤ many) : Does Tryd.prog 35 [I many, .d (.sl (l.map rnD)), .fn c []] [] (.d (Fr (low (ctF many l f : Nat) many).1 (low (ctF many l f : Nat) many).2)) [] := by
  have hlow := lowest_any (ctF many l f : Nat) many (by have := ct_le many l f; omega) (by omega)
  refine Does.of_AW (n := 47) Tryd.func35 rfl rfl rfl fun cx hcx => ?_
  repeat' (first | (refine AW.sreg rfl fun K hK => ?_; simp only [go_sem, Nat.reduceAdd, Nat.reduceMul, Int.reduceToNat, Nat.reduceLT, Nat.reduceLeDiff, Nat.le_refl, Nat.reduceEqDiff, ↓reduceIte, beq_self_eq_true, bne_self_eq_false, Int.reduceBEq, Int.reduceBNe, or_self, true_or, or_true, Option.map_some, Option.map_none, List.length_map, Int.toNat_natCast]) | (refine AW.seq_k fun K hK => ?_) | (refine AW.block ?_) | (refine hK _ ?_; clear hK K) | (with_reducible refine And.intro ?_ ?_; first | omega | assumption | (focus (decide)) | (focus (simp; done)) | (focus (simp; omega)) | (focus (constructor <;> omega)) | fail))
  rw [blL_zero]
  refine AW.loopF (ι := Nat) [0, 2, 6, 7, 14, 15] (fun p => [(8, I (cnB many (inR (l.take p) f) : Nat)), (16, I p)]) (fun p => [(128, some (O.vec 4 1 (dv (blL many (inR (l.take p) f))))), (0, some (O.box 32 [I 0, I 0]))]) 8 (fun p => p ≤ l.length) (fun p => l.length - p) 0 (Nat.zero_le _) (Weak.auto hcx rfl rfl (Nat.le_of_ble_eq_true rfl) (by simp [go_sem, gL, kL, renOf, V.obj, lk, Nat.blt, Nat.ble, List.map_append, dv_push, List.take_zero, inR_nil, cnB_zero]) (by simp [go_sem, gL, kL, renOf, V.obj, lk, Nat.blt, Nat.ble, List.map_append, dv_push, List.take_zero, inR_nil, cnB_zero]) (by first | exact pk0 | exact pk1 ⟨_, rfl⟩ | exact pk2 ⟨_, rfl⟩ ⟨_, rfl⟩ | exact pk3 ⟨_, rfl⟩ ⟨_, rfl⟩ ⟨_, rfl⟩ | exact pk4 ⟨_, rfl⟩ ⟨_, rfl⟩ ⟨_, rfl⟩ ⟨_, rfl⟩) (by simp [go_sem, gL, kL, lk, renOf, V.obj, Nat.blt, Nat.ble, List.take_zero, inR_nil, cnB_zero])) ?_; simp only [St.at_nil, St.at_cons, lk, Nat.reduceEqDiff, ↓reduceIte, Option.getD_some, Option.getD_none, List.cons_append, List.nil_append, List.append_nil]
  intro i i1
  by_cases hi : i < l.length
  · obtain ⟨r, hx, hxm, -⟩ := get_some hi
    have hget : (l.map rnD)[i]? = some (rnD r) := by simp only [List.getElem?_map, hx, Option.map_some]
    have hcr := hc r
    have hrr := hr r hxm
    have hsn : inR (l.take (i + 1)) f = cvR (l.take i) f r r.2.2 := by
      rw [cvR_all, List.take_add_one, hx]
      rfl
    have hz := cvR_zero (l.take i) f r
    repeat' (first | ((first | refine AW.sreg rfl fun K hK => ?_ | refine run_call _ _ _ ((hcr).pure rfl rfl _ _) rfl rfl (dstOk_of rfl) rfl rfl rfl ?_); simp only [go_sem, Nat.reduceAdd, Nat.reduceMul, Int.reduceToNat, Nat.reduceLT, Nat.reduceLeDiff, Nat.le_refl, Nat.reduceEqDiff, ↓reduceIte, beq_self_eq_true, bne_self_eq_false, Int.reduceBEq, Int.reduceBNe, or_self, true_or, or_true, Option.map_some, Option.map_none, List.length_map, hget]) | (refine AW.seq_k fun K hK => ?_) | (refine AW.block ?_) | (refine AW.skip ?_; simp only [Then, InBlock]) | (refine AW.condT rfl (by first | rfl | (simp; omega) | (simp [*]; done) | fail) ?_) | (refine hK _ ?_; clear hK K) | (with_reducible refine And.intro ?_ ?_; first | omega | assumption | (focus (decide)) | (focus (simp; done)) | (focus (simp; omega)) | (focus (constructor <;> omega)) | fail))
    have hrI : ((f r : Int) + (r.2.2 : Int)) ≤ (many : Int) := by omega
    refine AW.loopF (ι := Nat) [0, 2, 6, 7, 10, 14, 15, 16] (fun p => [(8, I (cnB many (cvR (l.take i) f r p) : Nat)), (11, I ((f r : Int) + p))]) (fun p => [(128, some (O.vec 4 1 (dv (blL many (cvR (l.take i) f r p))))), (0, some (O.box 32 [I 0, I 0])), (704, some (O.box 80 [I r.1, I r.2.1, I r.2.2]))]) 20 (fun p => p ≤ r.2.2) (fun p => r.2.2 - p) 0 (Nat.zero_le _) (Weak.auto hcx rfl rfl (Nat.le_of_ble_eq_true rfl) (by simp [go_sem, gL, kL, renOf, V.obj, lk, Nat.blt, Nat.ble, List.map_append, dv_push, hz, Int.add_zero]) (by simp [go_sem, gL, kL, renOf, V.obj, lk, Nat.blt, Nat.ble, List.map_append, dv_push, hz, Int.add_zero]) (by first | exact pk0 | exact pk1 ⟨_, rfl⟩ | exact pk2 ⟨_, rfl⟩ ⟨_, rfl⟩ | exact pk3 ⟨_, rfl⟩ ⟨_, rfl⟩ ⟨_, rfl⟩ | exact pk4 ⟨_, rfl⟩ ⟨_, rfl⟩ ⟨_, rfl⟩ ⟨_, rfl⟩) (by simp [go_sem, gL, kL, lk, renOf, V.obj, Nat.blt, Nat.ble, hz, Int.add_zero])) ?_; simp only [St.at_nil, St.at_cons, lk, Nat.reduceEqDiff, ↓reduceIte, Option.getD_some, Option.getD_none, List.cons_append, List.nil_append, List.append_nil]
    intro q q1
    have hcn := cnB_le many (cvR (l.take i) f r q)
    by_cases hq : q < r.2.2
    · have hqm : f r + q < many := by omega
      have hsc := cvR_succ (l.take i) f r q
      have g1 := blL_dv (cvR (l.take i) f r q) hqm
      have s1 := blL_set (cvR (l.take i) f r q) hqm
      have ei : ((f r : Int) + (q : Int)).toNat = f r + q := by omega
      have hlt : ((f r : Int) + (q : Int)) < (f r : Int) + (r.2.2 : Int) := by omega
      cases hb : cvR (l.take i) f r q (f r + q) with
      | true =>
        rw [addB_same hb] at hsc
        rw [hb] at g1
        repeat' (first | ((first | refine AW.sreg rfl fun K hK => ?_ | refine AW.sregD hmix rfl fun K hK => ?_ | refine AW.reg rfl ?_ | refine runT_call _ _ [] (fun hv _ => (hcr).pure rfl rfl hv _) rfl rfl (dstOk_of rfl) rfl rfl ?_); simp only [go_sem, Nat.reduceAdd, Nat.reduceMul, Int.reduceToNat, Nat.reduceLT, Nat.reduceLeDiff, Nat.le_refl, Nat.reduceEqDiff, ↓reduceIte, beq_self_eq_true, bne_self_eq_false, Int.reduceBEq, Int.reduceBNe, or_self, true_or, or_true, Option.map_some, Option.map_none, List.length_map, Nat.zero_add, hlt, ei, g1]) | (refine AW.seq_k fun K hK => ?_) | (refine AW.block ?_) | (refine AW.skip ?_; simp only [Then, InBlock]) | (refine AW.condT rfl (by first | rfl | (simp; omega) | (simp [*]; done) | fail) ?_) | (refine AW.condF rfl (by first | rfl | (simp; omega) | (simp [*]; done) | fail) ?_) | (refine hK _ ?_; clear hK K) | (with_reducible refine And.intro (?_ : regOk _ _ = true) ?_; kernel_rfl) | (with_reducible refine And.intro ?_ ?_; first | omega | assumption | (focus (decide)) | (focus (simp; done)) | (focus (simp; omega)) | (focus (constructor <;> omega)) | fail))
        exact ⟨q + 1, hq, by omega, (Weak.auto hcx rfl rfl (Nat.le_of_ble_eq_true rfl) (by simp [go_sem, gL, kL, renOf, V.obj, lk, Nat.blt, Nat.ble, List.map_append, dv_push, hsc, Int.add_assoc]) (by simp [go_sem, gL, kL, renOf, V.obj, lk, Nat.blt, Nat.ble, List.map_append, dv_push, hsc, Int.add_assoc]) (by first | exact pk0 | exact pk1 ⟨_, rfl⟩ | exact pk2 ⟨_, rfl⟩ ⟨_, rfl⟩ | exact pk3 ⟨_, rfl⟩ ⟨_, rfl⟩ ⟨_, rfl⟩ | exact pk4 ⟨_, rfl⟩ ⟨_, rfl⟩ ⟨_, rfl⟩ ⟨_, rfl⟩) (by simp [go_sem, gL, kL, lk, renOf, V.obj, Nat.blt, Nat.ble, hsc, Int.add_assoc]))⟩
      | false =>
        have hca := cnB_add hqm hb
        rw [← hsc] at hca s1
        rw [hb] at g1
        repeat' (first | ((first | refine AW.sreg rfl fun K hK => ?_ | refine AW.sregD hmix rfl fun K hK => ?_ | refine AW.reg rfl ?_ | refine runT_call _ _ [] (fun hv _ => (hcr).pure rfl rfl hv _) rfl rfl (dstOk_of rfl) rfl rfl ?_); simp only [go_sem, Nat.reduceAdd, Nat.reduceMul, Int.reduceToNat, Nat.reduceLT, Nat.reduceLeDiff, Nat.le_refl, Nat.reduceEqDiff, ↓reduceIte, beq_self_eq_true, bne_self_eq_false, Int.reduceBEq, Int.reduceBNe, or_self, true_or, or_true, Option.map_some, Option.map_none, List.length_map, Nat.zero_add, hlt, ei, g1, s1]) | (refine AW.seq_k fun K hK => ?_) | (refine AW.block ?_) | (refine AW.skip ?_; simp only [Then, InBlock]) | (refine AW.condT rfl (by first | rfl | (simp; omega) | (simp [*]; done) | fail) ?_) | (refine hK _ ?_; clear hK K) | (with_reducible refine And.intro (?_ : regOk _ _ = true) ?_; kernel_rfl) | (with_reducible refine And.intro ?_ ?_; first | omega | assumption | (focus (decide)) | (focus (simp; done)) | (focus (simp; omega)) | (focus (constructor <;> omega)) | fail))
        exact ⟨q + 1, hq, by omega, (Weak.auto hcx rfl rfl (Nat.le_of_ble_eq_true rfl) (by simp [go_sem, gL, kL, renOf, V.obj, lk, Nat.blt, Nat.ble, List.map_append, dv_push, hca, Int.add_assoc]) (by simp [go_sem, gL, kL, renOf, V.obj, lk, Nat.blt, Nat.ble, List.map_append, dv_push, hca, Int.add_assoc]) (by first | exact pk0 | exact pk1 ⟨_, rfl⟩ | exact pk2 ⟨_, rfl⟩ ⟨_, rfl⟩ | exact pk3 ⟨_, rfl⟩ ⟨_, rfl⟩ ⟨_, rfl⟩ | exact pk4 ⟨_, rfl⟩ ⟨_, rfl⟩ ⟨_, rfl⟩ ⟨_, rfl⟩) (by simp [go_sem, gL, kL, lk, renOf, V.obj, Nat.blt, Nat.ble, hca, Int.add_assoc]))⟩
    · obtain rfl : q = r.2.2 := by omega
      rw [← hsn]
      have hnlt : ¬ ((f r : Int) + (r.2.2 : Int)) < (f r : Int) + (r.2.2 : Int) := by omega
      repeat' (first | ((first | refine AW.sregD hmix rfl fun K hK => ?_ | refine AW.reg rfl ?_ | refine runT_call _ _ [] (fun hv _ => (hcr).pure rfl rfl hv _) rfl rfl (dstOk_of rfl) rfl rfl ?_); simp only [go_sem, Nat.reduceAdd, Nat.reduceMul, Int.reduceToNat, Nat.reduceLT, Nat.reduceLeDiff, Nat.le_refl, Nat.reduceEqDiff, ↓reduceIte, beq_self_eq_true, bne_self_eq_false, Int.reduceBEq, Int.reduceBNe, or_self, true_or, or_true, Option.map_some, Option.map_none, List.length_map, hnlt]) | (refine AW.seq_k fun K hK => ?_) | (refine AW.exit ?_; simp only [go_sem, ↓reduceIte]) | (refine AW.condF rfl (by first | rfl | (simp; omega) | (simp [*]; done) | fail) ?_) | (refine hK _ ?_; clear hK K) | (clear hK K; refine hK _ ?_; clear hK K) | (with_reducible refine And.intro (?_ : regOk _ _ = true) ?_; kernel_rfl) | (with_reducible refine And.intro ?_ ?_; first | omega | assumption | (focus (decide)) | (focus (simp; done)) | (focus (simp; omega)) | (focus (constructor <;> omega)) | fail))
      exact ⟨i + 1, hi, by omega, (Weak.auto hcx rfl rfl (Nat.le_of_ble_eq_true rfl) (by simp [go_sem, gL, kL, renOf, V.obj, lk, Nat.blt, Nat.ble, List.map_append, dv_push]) (by simp [go_sem, gL, kL, renOf, V.obj, lk, Nat.blt, Nat.ble, List.map_append, dv_push]) (by first | exact pk0 | exact pk1 ⟨_, rfl⟩ | exact pk2 ⟨_, rfl⟩ ⟨_, rfl⟩ | exact pk3 ⟨_, rfl⟩ ⟨_, rfl⟩ ⟨_, rfl⟩ | exact pk4 ⟨_, rfl⟩ ⟨_, rfl⟩ ⟨_, rfl⟩ ⟨_, rfl⟩) (by simp [go_sem, gL, kL, lk, renOf, V.obj, Nat.blt, Nat.ble]))⟩
  · obtain rfl : i = l.length := by omega
    rw [List.take_length]
    change Does _ _ [I (cnB many (inR l f) : Nat), _] _ _ _ at hlow
    repeat' (first | ((first | refine AW.sreg rfl fun K hK => ?_ | refine run_call _ _ _ ((hlow).pure rfl rfl _ _) rfl rfl (dstOk_of rfl) rfl rfl rfl ?_); simp only [go_sem, Nat.reduceAdd, Nat.reduceMul, Int.reduceToNat, Nat.reduceLT, Nat.reduceLeDiff, Nat.le_refl, Nat.reduceEqDiff, ↓reduceIte, beq_self_eq_true, bne_self_eq_false, Int.reduceBEq, Int.reduceBNe, or_self, true_or, or_true, Option.map_some, Option.map_none, List.length_map]) | (refine AW.seq_k fun K hK => ?_) | (refine AW.exit ?_; simp only [go_sem, ↓reduceIte]) | (refine AW.condF rfl (by first | rfl | (simp; omega) | (simp [*]; done) | fail) ?_) | (refine hK _ ?_; clear hK K) | (clear hK K; refine hK _ ?_; clear hK K))
    exact AW.ret (Fin.data rfl (by simp [go_sem, fr_size]) rfl)
end Go.AX

namespace Go.AX
open Go Go.Proofs Go.RowKit
theorem low_fin {c n : Nat} (hn : 1 ≤ n) (h2 : n ≤ 600) (hc : c ≤ n) : 0 ≤ (low (c : Int) (n : Int)).1 ∧ (low (c : Int) (n : Int)).1 ≤ 600 ∧ 1 ≤ (low (c : Int) (n : Int)).2 ∧ (low (c : Int) (n : Int)).2 ≤ 600 := by
  have hn1 : (1 : Int) ≤ (n : Int) := by omega
  have d := low_den (a := (c : Int)) hn1
  have l1 := low_le (a := (c : Int)) (c := 1) hn1 (by omega)
  have l0 := low_nonneg (a := (c : Int)) hn1 (by omega)
  omega
theorem mul600 {a b : Int} (ha : 0 ≤ a ∧ a ≤ 600) (hb : 0 ≤ b ∧ b ≤ 600) : 0 ≤ a * b ∧ a * b ≤ 360000 := by
  have h1 := Int.mul_le_mul ha.2 hb.2 hb.1 (by omega)
  have h2 := Int.mul_nonneg ha.1 hb.1
  omega
theorem overlap_any (x y : List Str) (least : Int) (hx : x.length ≤ 600) (hy : y.length ≤ 600) (hl : 1 ≤ least ∧ least ≤ 100) : Does Tryd.prog 18 [.d (.sl (x.map D.str)), .d (.sl (y.map D.str)), I least] [] (.d (Fr (ovF x y least).1 (ovF x y least).2)) [] := by
  have h1 := runs_any x y least hx hy hl
  have hll : (rnF x y least).length ≤ 361000 := Nat.le_trans (rnA_len x y least x.length) (Nat.le_trans (Nat.mul_le_mul hx hy) (by omega))
  have hra : ∀ r ∈ rnF x y least, fA r + r.2.2 ≤ x.length := fun r hr => by
    obtain ⟨a1, a2, a3, a4⟩ := rnF_mem.1 hr
    have := Lx_le x y r.1 r.2.1
    unfold fA
    omega
  have hrb : ∀ r ∈ rnF x y least, fB r + r.2.2 ≤ y.length := fun r hr => by
    obtain ⟨a1, a2, a3, a4⟩ := rnF_mem.1 hr
    have := Lx_le x y r.1 r.2.1
    unfold fB
    omega
  unfold ovF
  by_cases h0 : x.length = 0 ∨ y.length = 0
  · rw [if_pos h0]
    refine Does.of_AW (n := 44) Tryd.func18 rfl rfl rfl fun cx hcx => ?_
    by_cases hx0 : x.length = 0
    · repeat' (first | (refine AW.sreg rfl fun K hK => ?_; simp only [go_sem, Nat.reduceAdd, Nat.reduceMul, Int.reduceToNat, Nat.reduceLT, Nat.reduceLeDiff, Nat.le_refl, Nat.reduceEqDiff, ↓reduceIte, beq_self_eq_true, bne_self_eq_false, Int.reduceBEq, Int.reduceBNe, or_self, true_or, or_true, Option.map_some, Option.map_none, List.length_map, hx0]) | (refine AW.seq_k fun K hK => ?_) | (refine AW.condT rfl (by first | rfl | (simp; omega) | (simp [*]; done) | fail) ?_) | (refine hK _ ?_; clear hK K) | (refine stepB_split (fun h => ?_) (fun h => ?_) <;> (have hb0 := h) <;> (try simp only [Bool.not_eq_true', Bool.not_eq_false'] at hb0) <;> (try simp only [decide_eq_true_eq, decide_eq_false_iff_not, Bool.not_eq_true', Bool.not_eq_false', Bool.not_eq_eq_eq_not, Bool.not_true, Bool.not_false, beq_iff_eq, bne_iff_ne, beq_eq_false_iff_ne, ne_eq, Bool.and_eq_true, Bool.or_eq_true, Bool.or_eq_false_iff] at h) <;> simp only [go_sem, Nat.reduceAdd, Nat.reduceMul, Int.reduceToNat, Nat.reduceLT, Nat.reduceLeDiff, Nat.le_refl, Nat.reduceEqDiff, ↓reduceIte, beq_self_eq_true, bne_self_eq_false, Int.reduceBEq, Int.reduceBNe, or_self, true_or, or_true, Option.map_some, Option.map_none, hb0, h, decide_true, decide_false, List.length_map, hx0] <;> (try clear hb0)) | (exfalso; omega))
      exact AW.ret (Fin.data rfl (by simp [go_sem, fr_size]) rfl)
    · have hy0 : y.length = 0 := h0.resolve_left hx0
      have hxz : ((x.length : Int) == 0) = false := by rw [beq_eq_false_iff_ne]; omega
      repeat' (first | (refine AW.sreg rfl fun K hK => ?_; simp only [go_sem, Nat.reduceAdd, Nat.reduceMul, Int.reduceToNat, Nat.reduceLT, Nat.reduceLeDiff, Nat.le_refl, Nat.reduceEqDiff, ↓reduceIte, beq_self_eq_true, bne_self_eq_false, Int.reduceBEq, Int.reduceBNe, or_self, true_or, or_true, Option.map_some, Option.map_none, List.length_map, hxz, hy0]) | (refine AW.seq_k fun K hK => ?_) | (refine AW.condT rfl (by first | rfl | (simp; omega) | (simp [*]; done) | fail) ?_) | (refine hK _ ?_; clear hK K))
      exact AW.ret (Fin.data rfl (by simp [go_sem, fr_size]) rfl)
  · rw [if_neg h0]
    have h2 := part_any 36 fA at1_any x.length (by omega) hx _ hll hra
    have h3 := part_any 37 fB at2_any y.length (by omega) hy _ hll hrb
    have ca := ct_le x.length (rnF x y least) fA
    have cb := ct_le y.length (rnF x y least) fB
    have f1 := low_fin (c := ctF x.length (rnF x y least) fA) (show 1 ≤ x.length by omega) hx ca
    have f2 := low_fin (c := ctF y.length (rnF x y least) fB) (show 1 ≤ y.length by omega) hy cb
    generalize low (ctF x.length (rnF x y least) fA : Nat) (x.length : Nat) = a at *
    generalize low (ctF y.length (rnF x y least) fB : Nat) (y.length : Nat) = b at *
    have hxz : ((x.length : Int) == 0) = false := by rw [beq_eq_false_iff_ne]; omega
    have hyz : ((y.length : Int) == 0) = false := by rw [beq_eq_false_iff_ne]; omega
    have m1 := mul600 (a := b.1) (b := a.2) (by omega) (by omega)
    have m2 := mul600 (a := a.1) (b := b.2) (by omega) (by omega)
    refine Does.of_AW (n := 44) Tryd.func18 rfl rfl rfl fun cx hcx => ?_
    by_cases hlt : a.1 * b.2 < b.1 * a.2
    · repeat' (first | ((first | refine AW.sreg rfl fun K hK => ?_ | refine run_call _ _ _ ((h1).pure rfl rfl _ _) rfl rfl (dstOk_of rfl) rfl rfl rfl ?_ | refine run_call _ _ _ ((h2).pure rfl rfl _ _) rfl rfl (dstOk_of rfl) rfl rfl rfl ?_ | refine run_call _ _ _ ((h3).pure rfl rfl _ _) rfl rfl (dstOk_of rfl) rfl rfl rfl ?_); simp only [go_sem, Nat.reduceAdd, Nat.reduceMul, Int.reduceToNat, Nat.reduceLT, Nat.reduceLeDiff, Nat.le_refl, Nat.reduceEqDiff, ↓reduceIte, beq_self_eq_true, bne_self_eq_false, Int.reduceBEq, Int.reduceBNe, or_self, true_or, or_true, Option.map_some, Option.map_none, List.length_map, hxz, hyz, hlt]) | (refine AW.seq_k fun K hK => ?_) | (refine AW.skip ?_; simp only [Then, InBlock]) | (refine AW.condT rfl (by first | rfl | (simp; omega) | (simp [*]; done) | fail) ?_) | (refine AW.condF rfl (by first | rfl | (simp; omega) | (simp [*]; done) | fail) ?_) | (refine hK _ ?_; clear hK K) | (with_reducible refine And.intro ?_ ?_; first | omega | assumption | (focus (decide)) | (focus (simp; done)) | (focus (simp; omega)) | (focus (constructor <;> omega)) | fail))

      exact AW.ret (Fin.data rfl (by simp [go_sem, fr_size, hlt]) rfl)
    · repeat' (first | ((first | refine AW.sreg rfl fun K hK => ?_ | refine run_call _ _ _ ((h1).pure rfl rfl _ _) rfl rfl (dstOk_of rfl) rfl rfl rfl ?_ | refine run_call _ _ _ ((h2).pure rfl rfl _ _) rfl rfl (dstOk_of rfl) rfl rfl rfl ?_ | refine run_call _ _ _ ((h3).pure rfl rfl _ _) rfl rfl (dstOk_of rfl) rfl rfl rfl ?_); simp only [go_sem, Nat.reduceAdd, Nat.reduceMul, Int.reduceToNat, Nat.reduceLT, Nat.reduceLeDiff, Nat.le_refl, Nat.reduceEqDiff, ↓reduceIte, beq_self_eq_true, bne_self_eq_false, Int.reduceBEq, Int.reduceBNe, or_self, true_or, or_true, Option.map_some, Option.map_none, List.length_map, hxz, hyz, hlt]) | (refine AW.seq_k fun K hK => ?_) | (refine AW.skip ?_; simp only [Then, InBlock]) | (refine AW.condF rfl (by first | rfl | (simp; omega) | (simp [*]; done) | fail) ?_) | (refine hK _ ?_; clear hK K) | (with_reducible refine And.intro ?_ ?_; first | omega | assumption | (focus (decide)) | (focus (simp; done)) | (focus (simp; omega)) | (focus (constructor <;> omega)) | fail))
      exact AW.ret (Fin.data rfl (by simp [go_sem, fr_size, hlt]) rfl)
theorem Overlap_any (a b : Str) (least : Int) (ha : OkT a) (hb : OkT b) (hl : 1 ≤ least ∧ least ≤ 100) : Does Tryd.prog 8 [S a, S b, I least] [] (.tup [.d (Fr (ovF (wsF a) (wsF b) least).1 (ovF (wsF a) (wsF b) least).2), I 0]) [] := by
  have h1 := pair_any a b least ha hb hl
  have l1 := wsF_len a
  have l2 := wsF_len b
  have k1 := ha.2
  have k2 := hb.2
  have h2 := overlap_any (wsF a) (wsF b) least (by omega) (by omega) hl
  generalize ovF (wsF a) (wsF b) least = o at *
  refine Does.of_AW (n := 27) Tryd.func8 rfl rfl rfl fun cx hcx => ?_
  repeat' (first | ((first | refine AW.sreg rfl fun K hK => ?_ | refine run_call _ _ _ ((h1).pure rfl rfl _ _) rfl rfl (dstOk_of rfl) rfl rfl rfl ?_ | refine run_call _ _ _ ((h2).pure rfl rfl _ _) rfl rfl (dstOk_of rfl) rfl rfl rfl ?_); simp only [go_sem, Nat.reduceAdd, Nat.reduceMul, Int.reduceToNat, Nat.reduceLT, Nat.reduceLeDiff, Nat.le_refl, Nat.reduceEqDiff, ↓reduceIte, beq_self_eq_true, bne_self_eq_false, Int.reduceBEq, Int.reduceBNe, or_self, true_or, or_true, Option.map_some, Option.map_none]) | (refine AW.seq_k fun K hK => ?_) | (refine AW.skip ?_; simp only [Then, InBlock]) | (refine AW.condF rfl (by first | rfl | (simp; omega) | (simp [*]; done) | fail) ?_) | (refine hK _ ?_; clear hK K))
  exact AW.ret (Fin.data rfl (by simp [go_sem, fr_size]) rfl)
theorem ov_fin (x y : List Str) (least : Int) (hx : x.length ≤ 600) (hy : y.length ≤ 600) : (0 ≤ (ovF x y least).1 ∧ (ovF x y least).1 ≤ 600) ∧ (0 ≤ (ovF x y least).2 ∧ (ovF x y least).2 ≤ 600) := by
  unfold ovF
  by_cases h0 : x.length = 0 ∨ y.length = 0
  · rw [if_pos h0]
    decide
  · rw [if_neg h0]
    have f1 := low_fin (show 1 ≤ x.length by omega) hx (ct_le x.length (rnF x y least) fA)
    have f2 := low_fin (show 1 ≤ y.length by omega) hy (ct_le y.length (rnF x y least) fB)
    simp only
    split <;> omega
theorem law_ok (l : List Int) (hl : l.length ≤ 9223372036854775807) : Does Tryd.prog 3 [Ls l] [] (B true) [] := by
  have d1 := draftI l hl 0 (by omega) (by omega)
  refine Does.of_AW (n := 104) Tryd.func3 rfl rfl rfl fun cx hcx => ?_
  repeat' (first | (refine AW.sreg rfl fun K hK => ?_; simp only [go_sem, Nat.reduceAdd, Nat.reduceMul, Int.reduceToNat, Nat.reduceLT, Nat.reduceLeDiff, Nat.le_refl, Nat.reduceEqDiff, ↓reduceIte, beq_self_eq_true, bne_self_eq_false, Int.reduceBEq, Int.reduceBNe, or_self, true_or, or_true, Option.map_some, Option.map_none]) | (refine AW.seq_k fun K hK => ?_) | (refine AW.skip ?_; simp only [Then, InBlock]) | (refine AW.cond rfl (fun h => ?_) (fun h => ?_) <;> (try simp only [decide_eq_true_eq, decide_eq_false_iff_not, Bool.not_eq_true', Bool.not_eq_false', Bool.not_eq_eq_eq_not, Bool.not_true, Bool.not_false, beq_iff_eq, bne_iff_ne, beq_eq_false_iff_ne, ne_eq, Bool.and_eq_true, Bool.or_eq_true, Bool.or_eq_false_iff] at h)) | (refine hK _ ?_; clear hK K) | (refine run_callI _ _ _ ((d1).objs [_] ⟨rfl, trivial⟩ rfl (by decide) (by simp [go_sem, renOs]) (by simp [go_sem]) (by simp [go_sem]) (fun j hj => ⟨by simp, by simp, by simp [go_sem], by simp [go_sem]⟩)) rfl rfl (dstOk_of rfl) rfl rfl rfl ?_; rintro ⟨a, p1⟩ ⟨a1, a2, a3⟩; (try dsimp only at a); (try dsimp only at p1); (try dsimp only at a1); (try dsimp only at a2); (try dsimp only at a3); simp only [go_sem, Nat.reduceAdd, Nat.reduceMul, Int.reduceToNat, Nat.reduceLT, Nat.reduceLeDiff, Nat.le_refl, Nat.reduceEqDiff, ↓reduceIte, beq_self_eq_true, bne_self_eq_false, Int.reduceBEq, Int.reduceBNe, or_self, true_or, or_true, Option.map_some, Option.map_none]) | (refine run_callI _ _ _ ((draftI l hl p1 (by omega) (by omega)).objs [_] ⟨rfl, trivial⟩ rfl (by decide) (by simp [go_sem, renOs]) (by simp [go_sem]) (by simp [go_sem]) (fun j hj => ⟨by simp, by simp, by simp [go_sem], by simp [go_sem]⟩)) rfl rfl (dstOk_of rfl) rfl rfl rfl ?_; rintro ⟨b, p2⟩ ⟨b1, b2, b3⟩; (try dsimp only at b); (try dsimp only at p2); (try dsimp only at b1); (try dsimp only at b2); (try dsimp only at b3); simp only [go_sem, Nat.reduceAdd, Nat.reduceMul, Int.reduceToNat, Nat.reduceLT, Nat.reduceLeDiff, Nat.le_refl, Nat.reduceEqDiff, ↓reduceIte, beq_self_eq_true, bne_self_eq_false, Int.reduceBEq, Int.reduceBNe, or_self, true_or, or_true, Option.map_some, Option.map_none]) | (refine run_callI _ _ _ ((rangeI l hl p2 1 4 (by omega) (by omega) (by omega) (by omega) (by omega)).objs [_] ⟨rfl, trivial⟩ rfl (by decide) (by simp [go_sem, renOs]) (by simp [go_sem]) (by simp [go_sem]) (fun j hj => ⟨by simp, by simp, by simp [go_sem], by simp [go_sem]⟩)) rfl rfl (dstOk_of rfl) rfl rfl rfl ?_; rintro least hle; (try dsimp only at least); (try dsimp only at hle); simp only [go_sem, Nat.reduceAdd, Nat.reduceMul, Int.reduceToNat, Nat.reduceLT, Nat.reduceLeDiff, Nat.le_refl, Nat.reduceEqDiff, ↓reduceIte, beq_self_eq_true, bne_self_eq_false, Int.reduceBEq, Int.reduceBNe, or_self, true_or, or_true, Option.map_some, Option.map_none]) | (refine run_callI _ _ _ ((runsFault_any a b least a1 b1).pure rfl (fun _ => rfl) _ _) rfl rfl (dstOk_of rfl) rfl rfl rfl ?_; rintro e he; (try dsimp only at e); (try dsimp only at he); simp only [go_sem, Nat.reduceAdd, Nat.reduceMul, Int.reduceToNat, Nat.reduceLT, Nat.reduceLeDiff, Nat.le_refl, Nat.reduceEqDiff, ↓reduceIte, beq_self_eq_true, bne_self_eq_false, Int.reduceBEq, Int.reduceBNe, or_self, true_or, or_true, Option.map_some, Option.map_none]))
  case' refine_1 => repeat' (first | (refine hK _ ?_; clear hK K) | (refine run_call _ _ _ ((submits_ok).pure rfl rfl _ _) rfl rfl (dstOk_of rfl) rfl rfl rfl ?_; simp only [go_sem, Nat.reduceAdd, Nat.reduceMul, Int.reduceToNat, Nat.reduceLT, Nat.reduceLeDiff, Nat.le_refl, Nat.reduceEqDiff, ↓reduceIte, beq_self_eq_true, bne_self_eq_false, Int.reduceBEq, Int.reduceBNe, or_self, true_or, or_true, Option.map_some, Option.map_none]) | (refine AW.ret (Fin.data rfl (by first | (simp only [go_sem]; done) | (simp [go_sem, *]; done) | (simp [go_sem]; omega) | rfl) rfl)))
  obtain ⟨ha, hb⟩ := he (by simpa using h)
  have o1 := Overlap_any a b least ha hb (by omega)
  have o2 := Overlap_any b a least hb ha (by omega)
  have o3 := Overlap_any a b (least + 1) ha hb (by omega)
  have o4 := Overlap_any a a least ha ha (by omega)
  have hw := Words_any a (bf0 ha.1).1
  rw [ov_turn (wsF b) (wsF a)] at o2
  have lx := wsF_len a
  have ly := wsF_len b
  have kx := ha.2
  have ky := hb.2
  have q1 := ov_fin (wsF a) (wsF b) least (by omega) (by omega)
  have q2 := ov_fin (wsF a) (wsF b) (least + 1) (by omega) (by omega)
  have hle2 := ov_less (wsF a) (wsF b) least
  have hse := ov_self (wsF a) least
  unfold leQ at hle2
  generalize ovF (wsF a) (wsF b) least = X at *
  generalize ovF (wsF a) (wsF b) (least + 1) = Z at *
  generalize hW : ovF (wsF a) (wsF a) least = W at *
  generalize wsF a = ws at *
  have m1 := mul600 q2.1 q1.2
  have m2 := mul600 q1.1 q2.2
  have hng : ¬ X.1 * Z.2 < Z.1 * X.2 := by omega
  by_cases hlt : ((ws.length : Nat) : Int) < least
  · repeat' (first | ((first | refine AW.sreg rfl fun K hK => ?_ | refine run_call _ _ _ ((o1).pure rfl rfl _ _) rfl rfl (dstOk_of rfl) rfl rfl rfl ?_ | refine run_call _ _ _ ((o2).pure rfl rfl _ _) rfl rfl (dstOk_of rfl) rfl rfl rfl ?_ | refine run_call _ _ _ ((o3).pure rfl rfl _ _) rfl rfl (dstOk_of rfl) rfl rfl rfl ?_ | refine run_call _ _ _ ((o4).pure rfl rfl _ _) rfl rfl (dstOk_of rfl) rfl rfl rfl ?_ | refine run_call _ _ _ ((submits_ok).pure rfl rfl _ _) rfl rfl (dstOk_of rfl) rfl rfl rfl ?_ | refine run_call _ _ _ ((hw).pure rfl rfl _ _) rfl rfl (dstOk_of rfl) rfl rfl rfl ?_); simp only [go_sem, Nat.reduceAdd, Nat.reduceMul, Int.reduceToNat, Nat.reduceLT, Nat.reduceLeDiff, Nat.le_refl, Nat.reduceEqDiff, ↓reduceIte, beq_self_eq_true, bne_self_eq_false, Int.reduceBEq, Int.reduceBNe, or_self, true_or, or_true, Option.map_some, Option.map_none, List.length_map, hng, hlt]) | (refine AW.seq_k fun K hK => ?_) | (refine AW.skip ?_; simp only [Then, InBlock]) | (refine AW.condF rfl (by first | rfl | (simp; omega) | (simp [*]; done) | fail) ?_) | (refine hK _ ?_; clear hK K) | (with_reducible refine And.intro ?_ ?_; first | omega | assumption | (focus (decide)) | (focus (simp; done)) | (focus (simp; omega)) | (focus (constructor <;> omega)) | fail) | (refine AW.ret (Fin.data rfl (by first | (simp only [go_sem]; done) | (simp [go_sem, *]; done) | (simp [go_sem]; omega) | rfl) rfl)))
  · have e := hse (by omega) (by omega)
    subst e
    repeat' (first | ((first | refine AW.sreg rfl fun K hK => ?_ | refine run_call _ _ _ ((o1).pure rfl rfl _ _) rfl rfl (dstOk_of rfl) rfl rfl rfl ?_ | refine run_call _ _ _ ((o2).pure rfl rfl _ _) rfl rfl (dstOk_of rfl) rfl rfl rfl ?_ | refine run_call _ _ _ ((o3).pure rfl rfl _ _) rfl rfl (dstOk_of rfl) rfl rfl rfl ?_ | refine run_call _ _ _ ((o4).pure rfl rfl _ _) rfl rfl (dstOk_of rfl) rfl rfl rfl ?_ | refine run_call _ _ _ ((submits_ok).pure rfl rfl _ _) rfl rfl (dstOk_of rfl) rfl rfl rfl ?_ | refine run_call _ _ _ ((hw).pure rfl rfl _ _) rfl rfl (dstOk_of rfl) rfl rfl rfl ?_); simp only [go_sem, Nat.reduceAdd, Nat.reduceMul, Int.reduceToNat, Nat.reduceLT, Nat.reduceLeDiff, Nat.le_refl, Nat.reduceEqDiff, ↓reduceIte, beq_self_eq_true, bne_self_eq_false, Int.reduceBEq, Int.reduceBNe, or_self, true_or, or_true, Option.map_some, Option.map_none, List.length_map, hng, hlt]) | (refine AW.seq_k fun K hK => ?_) | (refine AW.skip ?_; simp only [Then, InBlock]) | (refine AW.condF rfl (by first | rfl | (simp; omega) | (simp [*]; done) | fail) ?_) | (refine hK _ ?_; clear hK K) | (refine stepB_split (fun h => ?_) (fun h => ?_) <;> (have hb0 := h) <;> (try simp only [Bool.not_eq_true', Bool.not_eq_false'] at hb0) <;> (try simp only [decide_eq_true_eq, decide_eq_false_iff_not, Bool.not_eq_true', Bool.not_eq_false', Bool.not_eq_eq_eq_not, Bool.not_true, Bool.not_false, beq_iff_eq, bne_iff_ne, beq_eq_false_iff_ne, ne_eq, Bool.and_eq_true, Bool.or_eq_true, Bool.or_eq_false_iff] at h) <;> simp only [go_sem, Nat.reduceAdd, Nat.reduceMul, Int.reduceToNat, Nat.reduceLT, Nat.reduceLeDiff, Nat.le_refl, Nat.reduceEqDiff, ↓reduceIte, beq_self_eq_true, bne_self_eq_false, Int.reduceBEq, Int.reduceBNe, or_self, true_or, or_true, Option.map_some, Option.map_none, hb0, h, decide_true, decide_false, List.length_map, hng, hlt] <;> (try clear hb0)) | (with_reducible refine And.intro ?_ ?_; first | omega | assumption | (focus (decide)) | (focus (simp; done)) | (focus (simp; omega)) | (focus (constructor <;> omega)) | fail) | (refine AW.ret (Fin.data rfl (by first | (simp only [go_sem]; done) | (simp [go_sem, *]; done) | (simp [go_sem]; omega) | rfl) rfl)))
end Go.AX
