/- Volumes, drawn. -/
import Derived.Test.YtobgkoebiapciaaGreatDoorCB
import Derived.Test.YtobgkoebiapciaaGreatDoorCA
import Derived.Test.YtobgkoebiapciaaGreatDoorAx37
import Derived.Test.YtobgkoebiapciaaGreatDoorAx38
set_option linter.unusedSimpArgs false
set_option linter.unusedVariables false
set_option linter.unnecessarySimpa false
set_option maxRecDepth 1000000
set_option maxHeartbeats 4000000
namespace Go.AX
open Go Go.Proofs Go.RowKit
def TT : List Str := [[80, 108, 97, 110, 116, 115], [83, 116, 111, 110, 101, 115], []]
def TT2 : List Str := [[80, 108, 97, 110, 116, 115], [83, 116, 111, 110, 101, 115]]
def PP : List Str := [[112, 97], [110, 111, 110, 101]]
structure VolR (v : Vol) : Prop where
  first : -1099511627776 ≤ v.1 ∧ v.1 ≤ 1099511627776
  len : v.2.2.length ≤ 4
  chs : ∀ c ∈ v.2.2, c.1 ∈ TT ∧ c.2.length ≤ 8
def chR : RowS Chp := ⟨fun c => c.2.map D.str, 9, 1, fun c v => .agg [S c.1, v]⟩
theorem chR_ok : chR.Ok where
  frz := fun hv g v h => by
    rcases h with rfl | ⟨i, a, n, rfl⟩ <;> simp [chR, frz, frzL, mkAgg, pureL, V.asD]
  ren := fun f g v => by simp [chR, V.ren, renL]
  bel := fun n g v => by simp [chR, V.bel, belL]
theorem blt_big (q : Nat) : Nat.blt (6400 + q) 1 = false := by
  cases h : Nat.blt (6400 + q) 1 with
  | false => rfl
  | true => exact absurd (Nat.le_of_ble_eq_true h) (by omega)
theorem beq_big (q : Nat) : Nat.beq (6400 + q) 0 = false := by
  cases h : Nat.beq (6400 + q) 0 with
  | false => rfl
  | true => exact absurd (Nat.eq_of_beq_eq_true h) (by omega)
theorem frz_vol {hv : Nat → Option O} {keep : Nat → Bool} {e s : Nat} {f0 : Int} {rt : Bool} {cs : List Chp} (hk : keep 1664 = false) (h : hv 1664 = some (.vec e s (rowsV chR 6400 cs))) (hf : ∀ j g, cs[j]? = some g → chR.row g ≠ [] → keep (6400 + j) = false ∧ hv (6400 + j) = some (.vec chR.e chR.s (dv (chR.row g)))) : frz hv keep (.agg [I f0, B rt, .slr 1664 0 cs.length]) = .d (voD (f0, rt, cs)) := by
  have h1 := frz_slrR (R := chR) (dat := chD) hk h rfl (fun g v hv => by
    have h3 := hv 6 (by omega)
    simp only [chR] at h3 ⊢
    rw [toD]
    simp only [toDL, h3]
    simp [toD]) hf
  simp only [frz, frzL] at h1 ⊢
  rw [h1]
  rfl
theorem ht2 : ∀ t ∈ TT2, t ∈ TT := by decide
theorem volumeI (l : List Int) (hl2 : l.length ≤ 9223372036854775807) (at_ : Int) (ha : 0 ≤ at_) (hb : at_ ≤ 1000) (fs : List Fi) (hf : fs.length ≤ 4) :
    DoesI Tryz.prog 26 [.ptr 0 0, .d (.sl (fs.map fiD))] [Stm l at_] (fun q : Vol × Int => VolR q.1 ∧ at_ ≤ q.2 ∧ q.2 ≤ at_ + 200) (fun q => .d (voD q.1)) (fun q => [Stm l q.2]) := by
  have hord := orderI l hl2
  refine DoesI.of_AW (n := 107) Tryz.func26 rfl rfl rfl fun cx hcx => ?_
  repeat' (first | (refine AW.sreg rfl fun K hK => ?_; simp only [go_sem, Nat.reduceAdd, Nat.reduceMul, Int.reduceToNat, Nat.reduceLT, Nat.reduceLeDiff, Nat.le_refl, Nat.reduceEqDiff, ↓reduceIte, beq_self_eq_true, bne_self_eq_false, Int.reduceBEq, Int.reduceBNe, or_self, true_or, or_true, Option.map_some, Option.map_none, List.length_map]) | (refine AW.seq_k fun K hK => ?_) | (refine hK _ ?_; clear hK K) | (refine run_callI _ _ _ ((pickI l hl2 _ (by omega) (by omega) [1, 1, 2, 7, 10, 4990] (by simp) (by simp)).objs [0, _] ⟨rfl, rfl, trivial⟩ rfl (by decide) (by simp [go_sem, renOs]) (by simp [go_sem]) (by simp [go_sem]) (fun j hj => ⟨by simp, by simp, by simp [go_sem], by simp [go_sem]⟩)) rfl rfl (dstOk_of rfl) rfl rfl rfl ?_; rintro fi hfi; (try dsimp only at fi); (try dsimp only at hfi); simp only [go_sem, Nat.reduceAdd, Nat.reduceMul, Int.reduceToNat, Nat.reduceLT, Nat.reduceLeDiff, Nat.le_refl, Nat.reduceEqDiff, ↓reduceIte, beq_self_eq_true, bne_self_eq_false, Int.reduceBEq, Int.reduceBNe, or_self, true_or, or_true, Option.map_some, Option.map_none, List.length_map]) | (refine run_callI _ _ _ ((flipI l hl2 _ 2 (by omega) (by omega) (by omega) (by omega)).objs [0] ⟨rfl, trivial⟩ rfl (by decide) (by simp [go_sem, renOs]) (by simp [go_sem]) (by simp [go_sem]) (fun j hj => ⟨by simp, by simp, by simp [go_sem], by simp [go_sem]⟩)) rfl rfl (dstOk_of rfl) rfl rfl rfl ?_; rintro rt hrt; (try dsimp only at rt); (try dsimp only at hrt); simp only [go_sem, Nat.reduceAdd, Nat.reduceMul, Int.reduceToNat, Nat.reduceLT, Nat.reduceLeDiff, Nat.le_refl, Nat.reduceEqDiff, ↓reduceIte, beq_self_eq_true, bne_self_eq_false, Int.reduceBEq, Int.reduceBNe, or_self, true_or, or_true, Option.map_some, Option.map_none, List.length_map]))
  have hfi2 : 0 ≤ fi ∧ fi ≤ 5000 := by
    simp only [List.mem_cons, List.not_mem_nil, or_false] at hfi
    omega
  first | (refine run_callI _ _ _ ((flipI l hl2 _ 20 (by omega) (by omega) (by omega) (by omega)).objs [0] ⟨rfl, trivial⟩ rfl (by decide) (by simp [go_sem, renOs]) (by simp [go_sem]) (by simp [go_sem]) (fun j hj => ⟨by simp, by simp, by simp [go_sem], by simp [go_sem]⟩)) rfl rfl (dstOk_of rfl) rfl rfl rfl ?_; rintro r20 hr20; (try dsimp only at r20); (try dsimp only at hr20); simp only [go_sem, Nat.reduceAdd, Nat.reduceMul, Int.reduceToNat, Nat.reduceLT, Nat.reduceLeDiff, Nat.le_refl, Nat.reduceEqDiff, ↓reduceIte, beq_self_eq_true, bne_self_eq_false, Int.reduceBEq, Int.reduceBNe, or_self, true_or, or_true, Option.map_some, Option.map_none])
  refine hK _ ?_; (try clear hK K)
  refine AW.joinK (ι := Int × Int) (fun p => (-1099511627776 ≤ p.1 ∧ p.1 ≤ 1099511627776) ∧ at_ ≤ p.2 ∧ p.2 ≤ at_ + 10) (fun p => ⟨107, [(0, .ptr 0 0), (1, .d (.sl (fs.map fiD))), (4, .ptr 64 0), (5, .ptr 512 0)], [(0, some (Stm l p.2)), (64, some (O.box 70 [I 0, B false, .nils])), (512, some (O.box 70 [I p.1, B rt, .nils]))], 20⟩) ?_ ?_
  · repeat' (first | (refine AW.reg rfl ?_; simp only [go_sem, Nat.reduceAdd, Nat.reduceMul, Int.reduceToNat, Nat.reduceLT, Nat.reduceLeDiff, Nat.le_refl, Nat.reduceEqDiff, ↓reduceIte, beq_self_eq_true, bne_self_eq_false, Int.reduceBEq, Int.reduceBNe, or_self, true_or, or_true, Option.map_some, Option.map_none]) | (refine AW.skip ?_; simp only [Then, InBlock]) | (refine AW.cond rfl (fun h => ?_) (fun h => ?_) <;> (try simp only [decide_eq_true_eq, decide_eq_false_iff_not, Bool.not_eq_true', Bool.not_eq_false', Bool.not_eq_eq_eq_not, Bool.not_true, Bool.not_false, beq_iff_eq, bne_iff_ne, beq_eq_false_iff_ne, ne_eq, Bool.and_eq_true, Bool.or_eq_true, Bool.or_eq_false_iff] at h)) | (refine run_callI _ _ _ ((odd10I l hl2 _ 1 5000 (by omega) (by omega) (by omega) (by omega) (by omega)).objs [0] ⟨rfl, trivial⟩ rfl (by decide) (by simp [go_sem, renOs]) (by simp [go_sem]) (by simp [go_sem]) (fun j hj => ⟨by simp, by simp, by simp [go_sem], by simp [go_sem]⟩)) rfl rfl (dstOk_of rfl) rfl rfl rfl ?_; rintro r hr; (try dsimp only at r); (try dsimp only at hr); simp only [go_sem, Nat.reduceAdd, Nat.reduceMul, Int.reduceToNat, Nat.reduceLT, Nat.reduceLeDiff, Nat.le_refl, Nat.reduceEqDiff, ↓reduceIte, beq_self_eq_true, bne_self_eq_false, Int.reduceBEq, Int.reduceBNe, or_self, true_or, or_true, Option.map_some, Option.map_none]))
    · exact ⟨(r.1, r.2), ⟨hr.1, by simp only; omega, by simp only; omega⟩, (Weak.auto hcx rfl rfl (Nat.le_of_ble_eq_true rfl) (by simp [go_sem, gL, kL, renOf, V.obj, lk, Nat.blt, Nat.ble, List.map_append, dv_push]) (by simp [go_sem, gL, kL, renOf, V.obj, lk, Nat.blt, Nat.ble, List.map_append, dv_push]) (by first | exact pk0 | exact pk1 ⟨_, rfl⟩ | exact pk2 ⟨_, rfl⟩ ⟨_, rfl⟩ | exact pk3 ⟨_, rfl⟩ ⟨_, rfl⟩ ⟨_, rfl⟩ | exact pk4 ⟨_, rfl⟩ ⟨_, rfl⟩ ⟨_, rfl⟩ ⟨_, rfl⟩) (by simp [go_sem, gL, kL, lk, renOf, V.obj, Nat.blt, Nat.ble]))⟩
    · exact ⟨(fi, at_ + 1 + 1 + 1), ⟨by simp only; omega, by simp only; omega, by simp only; omega⟩, (Weak.auto hcx rfl rfl (Nat.le_of_ble_eq_true rfl) (by simp [go_sem, gL, kL, renOf, V.obj, lk, Nat.blt, Nat.ble, List.map_append, dv_push]) (by simp [go_sem, gL, kL, renOf, V.obj, lk, Nat.blt, Nat.ble, List.map_append, dv_push]) (by first | exact pk0 | exact pk1 ⟨_, rfl⟩ | exact pk2 ⟨_, rfl⟩ ⟨_, rfl⟩ | exact pk3 ⟨_, rfl⟩ ⟨_, rfl⟩ ⟨_, rfl⟩ | exact pk4 ⟨_, rfl⟩ ⟨_, rfl⟩ ⟨_, rfl⟩ ⟨_, rfl⟩) (by simp [go_sem, gL, kL, lk, renOf, V.obj, Nat.blt, Nat.ble]))⟩
  rintro s ⟨f0, a0⟩ ⟨hf0, ha0, ha1⟩ hw
  dsimp only at hf0 ha0 ha1 hw
  refine hK s (AW.weak hw ?_)
  clear hw hK K
  repeat' (first | (refine AW.sreg rfl fun K hK => ?_; simp only [go_sem, Nat.reduceAdd, Nat.reduceMul, Int.reduceToNat, Nat.reduceLT, Nat.reduceLeDiff, Nat.le_refl, Nat.reduceEqDiff, ↓reduceIte, beq_self_eq_true, bne_self_eq_false, Int.reduceBEq, Int.reduceBNe, or_self, true_or, or_true, Option.map_some, Option.map_none, List.length_map]) | (refine AW.seq_k fun K hK => ?_) | (refine AW.block ?_) | (refine hK _ ?_; clear hK K) | (refine run_callI _ _ _ ((hord _ (by omega) (by omega) fs.length (by omega)).objs [0] ⟨rfl, trivial⟩ rfl (by decide) (by simp [go_sem, renOs]) (by simp [go_sem]) (by simp [go_sem]) (fun j hj => ⟨by simp, by simp, by simp [go_sem], by simp [go_sem]⟩)) rfl rfl (dstOk_of rfl) rfl rfl rfl ?_; rintro os hos; (try dsimp only at os); (try dsimp only at hos); simp only [go_sem, Nat.reduceAdd, Nat.reduceMul, Int.reduceToNat, Nat.reduceLT, Nat.reduceLeDiff, Nat.le_refl, Nat.reduceEqDiff, ↓reduceIte, beq_self_eq_true, bne_self_eq_false, Int.reduceBEq, Int.reduceBNe, or_self, true_or, or_true, Option.map_some, Option.map_none, List.length_map]))
  refine AW.weak (Weak.nilB 512 2 70 132 2 (cells := [I f0, B rt, .nils]) rfl rfl) ?_
  have hosl : os.1.length = fs.length := by rw [hos.1.length_eq]; simp
  refine AW.loopF (ι := Nat × List Chp × Int) [0, 1, 4, 5, 24, 25] (fun p => [(26, I p.1)]) (fun p => (0, some (Stm l p.2.2)) :: (64, some (O.box 70 [I 0, B false, .nils])) :: (512, some (O.box 70 [I f0, B rt, .slr 1664 0 p.2.1.length])) :: (1664, some (O.vec 132 2 (rowsV chR 6400 p.2.1))) :: rowsH chR 6400 p.2.1) 200 (fun p => p.1 ≤ os.1.length ∧ p.2.1.length ≤ p.1 ∧ (∀ c ∈ p.2.1, c.1 ∈ TT ∧ c.2.length ≤ p.1) ∧ os.2 ≤ p.2.2 ∧ p.2.2 ≤ os.2 + 10 * p.1) (fun p => os.1.length - p.1) (0, [], os.2) ⟨Nat.zero_le _, Nat.le_refl _, by simp, by simp only; omega, by simp only; omega⟩ (Weak.objs hcx [(64, 64), (512, 512), (1664, 1664)] rfl rfl (Nat.le_of_ble_eq_true rfl) (by simp [go_sem, gL, kL, List.map_append, dv_push, rowsV_nil, rowsH_nil]) (by simp [go_sem, gL, kL, List.map_append, dv_push, rowsV_nil, rowsH_nil]) (by first | exact pk0 | exact pk1 ⟨_, rfl⟩ | exact pk2 ⟨_, rfl⟩ ⟨_, rfl⟩ | exact pk3 ⟨_, rfl⟩ ⟨_, rfl⟩ ⟨_, rfl⟩ | exact pk4 ⟨_, rfl⟩ ⟨_, rfl⟩ ⟨_, rfl⟩ ⟨_, rfl⟩) (by simp [gL, lk, rowsV_nil, rowsH_nil])) ?_; simp only [St.at_nil, St.at_cons, lk, Nat.reduceEqDiff, ↓reduceIte, Option.getD_some, Option.getD_none, List.cons_append, List.nil_append, List.append_nil]
  rintro ⟨i, cs, a⟩ ⟨h1, h2, h3, h4, h5⟩
  dsimp only at h1 h2 h3 h4 h5 ⊢
  by_cases hi : i < os.1.length
  · obtain ⟨k, hk, hkm, -⟩ := get_some hi
    have hkl : k < fs.length := by have := hos.1.mem_iff.1 hkm; simpa using this
    obtain ⟨f, hf2, hfm, -⟩ := get_some hkl
    have hgk : (os.1.map fun k : Nat => D.int .i64 (k : Int))[i]? = some (.int .i64 (k : Int)) := by simp [hk]
    have hgf : (fs.map fiD)[k]? = some (fiD f) := by simp [hf2]
    rcases List.eq_nil_or_concat cs with rfl | ⟨L, c, rfl⟩
    · have ho1 := one10_any l hl2 a (by omega) (by omega) TT2 (by simp [TT2]) (by simp [TT2])
      have ht1 := one_mem l a TT2 (by simp [TT2])
      generalize TT2.getD (nextV l a TT2.length).toNat [] = ti at ho1 ht1
      have e1 : 0 + (((1 : Nat) : Int) - 1).toNat = 0 := rfl
      have hgl2 : ∀ x : V, (rowsV chR 6400 [] ++ [x])[0]? = some x := fun x => rfl
      have hsetA : ∀ x y : V, (rowsV chR 6400 [] ++ [x]).set 0 y = rowsV chR 6400 [] ++ [y] := fun x y => rfl
      have htl : List.take 0 (rowsV chR 6400 []) = rowsV chR 6400 [] := rfl
      repeat' (first | ((first | refine AW.sreg rfl fun K hK => ?_ | refine AW.reg rfl ?_ | refine AW.regD hmix rfl ?_ | refine runT_call _ _ [0, 13760] (fun hv hag => (ho1).objs [0, 13760] ⟨((hag 0 (by simp)).trans rfl), ((hag 13760 (by simp)).trans rfl), trivial⟩ rfl (by decide) (by simp [go_sem, renOs]) (by simp) (by simp) (by simp [go_sem]) (by simp [go_sem]) (by simp [go_sem]) (by simp [go_sem])) rfl rfl (dstOk_of rfl) rfl rfl ?_); simp only [go_sem, Nat.reduceAdd, Nat.reduceMul, Int.reduceToNat, Nat.reduceLT, Nat.reduceLeDiff, Nat.le_refl, Nat.reduceEqDiff, ↓reduceIte, beq_self_eq_true, bne_self_eq_false, Int.reduceBEq, Int.reduceBNe, or_self, true_or, or_true, Option.map_some, Option.map_none, List.length_map, hgk, hgf, e1, hgl2, hsetA, htl, rowsV_len, List.length_append, List.length_cons, List.length_nil, Nat.zero_add]) | (refine AW.seq_k fun K hK => ?_) | (refine AW.block ?_) | (refine AW.skip ?_; simp only [Then, InBlock]) | (refine AW.condT rfl (by first | rfl | (simp; omega) | (simp [*]; done) | fail) ?_) | (refine AW.cond rfl (fun h => ?_) (fun h => ?_) <;> (try simp only [decide_eq_true_eq, decide_eq_false_iff_not, Bool.not_eq_true', Bool.not_eq_false', Bool.not_eq_eq_eq_not, Bool.not_true, Bool.not_false, beq_iff_eq, bne_iff_ne, beq_eq_false_iff_ne, ne_eq, Bool.and_eq_true, Bool.or_eq_true, Bool.or_eq_false_iff] at h)) | (refine hK _ ?_; clear hK K) | (refine stepB_split (fun h => ?_) (fun h => ?_) <;> (have hb0 := h) <;> (try simp only [Bool.not_eq_true', Bool.not_eq_false'] at hb0) <;> (try simp only [decide_eq_true_eq, decide_eq_false_iff_not, Bool.not_eq_true', Bool.not_eq_false', Bool.not_eq_eq_eq_not, Bool.not_true, Bool.not_false, beq_iff_eq, bne_iff_ne, beq_eq_false_iff_ne, ne_eq, Bool.and_eq_true, Bool.or_eq_true, Bool.or_eq_false_iff] at h) <;> simp only [go_sem, Nat.reduceAdd, Nat.reduceMul, Int.reduceToNat, Nat.reduceLT, Nat.reduceLeDiff, Nat.le_refl, Nat.reduceEqDiff, ↓reduceIte, beq_self_eq_true, bne_self_eq_false, Int.reduceBEq, Int.reduceBNe, or_self, true_or, or_true, Option.map_some, Option.map_none, hb0, h, decide_true, decide_false, List.length_map, hgk, hgf, e1, hgl2, hsetA, htl, rowsV_len, List.length_append, List.length_cons, List.length_nil, Nat.zero_add] <;> (try clear hb0)) | (with_reducible refine And.intro (?_ : regOk _ _ = true) ?_; kernel_rfl) | (refine run_callI _ _ _ ((flipI l hl2 _ 5 (by omega) (by omega) (by omega) (by omega)).objs [0] ⟨rfl, trivial⟩ rfl (by decide) (by simp [go_sem, renOs]) (by simp [go_sem]) (by simp [go_sem]) (fun j hj => ⟨by simp, by simp, by simp [go_sem], by simp [go_sem]⟩)) rfl rfl (dstOk_of rfl) rfl rfl rfl ?_; rintro r hr; (try dsimp only at r); (try dsimp only at hr); simp only [go_sem, Nat.reduceAdd, Nat.reduceMul, Int.reduceToNat, Nat.reduceLT, Nat.reduceLeDiff, Nat.le_refl, Nat.reduceEqDiff, ↓reduceIte, beq_self_eq_true, bne_self_eq_false, Int.reduceBEq, Int.reduceBNe, or_self, true_or, or_true, Option.map_some, Option.map_none, List.length_map, hgk, hgf, e1, hgl2, hsetA, htl, rowsV_len, List.length_append, List.length_cons, List.length_nil, Nat.zero_add]) | (with_reducible refine And.intro ?_ ?_; first | omega | assumption | (focus (decide)) | (focus (simp; done)) | (focus (simp; omega)) | (focus (constructor <;> omega)) | fail) | (exfalso; omega))
      · refine ⟨(i + 1, [] ++ [(ti, [f.1])], a + 1 + 1), ⟨hi, by simp, ?_, by simp only; omega, by simp only; omega⟩, by simp only; omega, (by
          have hgl0 : (([] : List Chp)).length ≤ 60 := by simp
          obtain ⟨F, hF⟩ : ∃ F : Nat → Nat, F = sw2 1664 14016 (6400 + (([] : List Chp)).length) 15616 := ⟨_, rfl⟩
          have w0 : F 0 = 0 := by rw [hF]; exact sw2_o (by omega) (by omega) (by omega) (by omega)
          have w64 : F 64 = 64 := by rw [hF]; exact sw2_o (by omega) (by omega) (by omega) (by omega)
          have w512 : F 512 = 512 := by rw [hF]; exact sw2_o (by omega) (by omega) (by omega) (by omega)
          have ws : F 1664 = 14016 := by rw [hF]; exact sw2_a (by omega) (by omega)
          have wj : F (6400 + (([] : List Chp)).length) = 15616 := by rw [hF]; exact sw2_c (by omega) (by omega)
          have wo : ∀ q, q < (([] : List Chp)).length → q ≠ (([] : List Chp)).length → F (6400 + q) = 6400 + q := fun q hq hne => by rw [hF]; exact sw2_o (by omega) (by omega) (by omega) (by omega)
          have hsp : ∀ hv, frzL hv (fun _ => true) (rowsV chR 6400 [] ++ [.agg [S ti, .slr 15616 0 1]]) = renL F (rowsV chR 6400 ((([] : List Chp)) ++ [(ti, [f.1])])) := sp_app chR_ok (g := (ti, [f.1])) wj (fun q hq => wo q hq (by omega)) (by simp [chR]) (by simp [chR])
          have hbl : belL (64 * 200) (rowsV chR 6400 ((([] : List Chp)) ++ [(ti, [f.1])])) = true := belL_rowsV chR_ok _ _ (by (try simp only [List.length_append, List.length_cons, List.length_nil, List.length_set] at hgl0 ⊢); omega)
          (try simp at hbl hsp)
          exact Weak.rowsH (R := chR) hcx F 6400 _ [_, _, _, _] rfl rfl (fun q hq => by first | exact absurd hq (Nat.not_lt_zero _) | (obtain rfl : q = 0 := (by simp only [List.length_cons, List.length_nil] at hq; omega); exact w0)) (by simp) (by simp [go_sem, frz, ws, w0, w64, w512]) (by simp [go_sem, ws, w0, w64, w512, hsp, hbl]) (fun q zz hq hx => by
              rcases Nat.lt_trichotomy q (([] : List Chp)).length with h | h | h
              · rw [List.getElem?_append_left h] at hq
                refine ⟨by (try simp only [List.length_append, List.length_cons, List.length_nil] at hgl0 h ⊢); omega, ?_⟩
                rw [wo q h (by omega)]
                repeat (refine (hv_skip (by omega)).trans ?_)
                exact hv_rowsE hq hx
              · subst h
                have hxe : zz = (ti, [f.1]) := by simpa using hq.symm
                subst hxe
                rw [wj]
                exact ⟨by (try simp only [List.length_append, List.length_cons, List.length_nil] at hgl0 ⊢); omega, by simp [St.hv, lk, chR, dv]⟩
              · rw [List.getElem?_eq_none (by simp only [List.length_append, List.length_cons, List.length_nil] at h ⊢; omega)] at hq
                cases hq) (fun q hq => by first | exact absurd hq (Nat.not_lt_zero _) | (obtain rfl : q = 0 := (by simp only [List.length_cons, List.length_nil] at hq; omega); exact ⟨_, List.mem_cons_self⟩)) (by rw [hF]; exact sw2_inj _ _ _ _))⟩
        intro c hc
        obtain rfl := List.mem_singleton.1 hc
        exact ⟨ht2 _ ht1, by simp⟩
      · refine ⟨(i + 1, [] ++ [(ti, [])], a + 1 + 1), ⟨hi, by simp, ?_, by simp only; omega, by simp only; omega⟩, by simp only; omega, (by
          have hgl0 : (([] : List Chp)).length ≤ 60 := by simp
          obtain ⟨F, hF⟩ : ∃ F : Nat → Nat, F = sw2 1664 14016 1664 1664 := ⟨_, rfl⟩
          have w0 : F 0 = 0 := by rw [hF]; exact sw2_o (by omega) (by omega) (by omega) (by omega)
          have w64 : F 64 = 64 := by rw [hF]; exact sw2_o (by omega) (by omega) (by omega) (by omega)
          have w512 : F 512 = 512 := by rw [hF]; exact sw2_o (by omega) (by omega) (by omega) (by omega)
          have ws : F 1664 = 14016 := by rw [hF]; simp [sw2, swpN]
          have wo : ∀ q, q < (([] : List Chp)).length → F (6400 + q) = 6400 + q := fun q hq => by rw [hF]; exact sw2_o (by omega) (by omega) (by omega) (by omega)
          have hsp : ∀ hv, frzL hv (fun _ => true) (rowsV chR 6400 [] ++ [.agg [S ti, .nils]]) = renL F (rowsV chR 6400 ((([] : List Chp)) ++ [(ti, [])])) := sp_app0 chR_ok (g := (ti, [])) wo rfl
          have hbl : belL (64 * 200) (rowsV chR 6400 ((([] : List Chp)) ++ [(ti, [])])) = true := belL_rowsV chR_ok _ _ (by (try simp only [List.length_append, List.length_cons, List.length_nil, List.length_set] at hgl0 ⊢); omega)
          (try simp at hbl hsp)
          exact Weak.rowsH (R := chR) hcx F 6400 _ [_, _, _, _] rfl rfl (fun q hq => by first | exact absurd hq (Nat.not_lt_zero _) | (obtain rfl : q = 0 := (by simp only [List.length_cons, List.length_nil] at hq; omega); exact w0)) (by simp) (by simp [go_sem, frz, ws, w0, w64, w512]) (by simp [go_sem, ws, w0, w64, w512, hsp, hbl]) (fun q zz hq hx => by
              rcases Nat.lt_trichotomy q (([] : List Chp)).length with h | h | h
              · rw [List.getElem?_append_left h] at hq
                refine ⟨by (try simp only [List.length_append, List.length_cons, List.length_nil] at hgl0 h ⊢); omega, ?_⟩
                rw [wo q h]
                repeat (refine (hv_skip (by omega)).trans ?_)
                exact hv_rowsE hq hx
              · subst h
                have hxe : zz = (ti, []) := by simpa using hq.symm
                subst hxe
                exact absurd rfl hx
              · rw [List.getElem?_eq_none (by simp only [List.length_append, List.length_cons, List.length_nil] at h ⊢; omega)] at hq
                cases hq) (fun q hq => by first | exact absurd hq (Nat.not_lt_zero _) | (obtain rfl : q = 0 := (by simp only [List.length_cons, List.length_nil] at hq; omega); exact ⟨_, List.mem_cons_self⟩)) (by rw [hF]; exact sw2_inj _ _ _ _))⟩
        intro c hc
        obtain rfl := List.mem_singleton.1 hc
        exact ⟨ht2 _ ht1, by simp⟩
    · simp only [List.concat_eq_append] at *
      have e1 : 0 + (((L.length + 1 : Nat) : Int) - 1).toNat = L.length := by omega
      have e2 : 0 + (((L.length + 1 + 1 : Nat) : Int) - 1).toNat = L.length + 1 := by omega
      have htl : List.take (L.length + 1) (rowsV chR 6400 (L ++ [c])) = rowsV chR 6400 (L ++ [c]) := List.take_of_length_le (by rw [rowsV_len]; simp)
      have hgl : (rowsV chR 6400 (L ++ [c]))[L.length]? = some (.agg [S c.1, rref (6400 + L.length) (c.2.map D.str)]) := by
        rw [rowsV_get]
        simp [chR]
      have hgl2 : ∀ x : V, (rowsV chR 6400 (L ++ [c]) ++ [x])[L.length + 1]? = some x := fun x => by
        rw [List.getElem?_append_right (by rw [rowsV_len]; simp)]
        simp [rowsV_len]
      have ho2 := one10_any l hl2 (a + 1) (by omega) (by omega) TT2 (by simp [TT2]) (by simp [TT2])
      have ht3 := one_mem l (a + 1) TT2 (by simp [TT2])
      generalize TT2.getD (nextV l (a + 1) TT2.length).toNat [] = ti at ho2 ht3
      have hll : L.length ≤ 4 := by simp at h2; omega
      have hN1 : ∀ n : Nat, 12800 ≤ n → (n = 6400 + L.length) = False := fun n hn => by simp; omega
      have hN0 : ∀ n : Nat, n ≤ 6399 → (n = 6400 + L.length) = False := fun n hn => by simp; omega
      have hN2 : ∀ n : Nat, n ≤ 6399 → (6400 + L.length = n) = False := fun n hn => by simp; omega
      have hN3 : ∀ n : Nat, 12800 ≤ n → (6400 + L.length = n) = False := fun n hn => by simp; omega
      have hlkL : c.2 ≠ [] → lk (rowsH chR 6400 (L ++ [c])) (6400 + L.length) = some (some (.vec 9 1 (dv (c.2.map D.str)))) := fun hne => rowsH_lk chR (gs := L ++ [c]) (g := c) (by simp) (by simpa [chR] using hne)
      have htk : List.take c.2.length (dv (c.2.map D.str)) = dv (c.2.map D.str) := List.take_of_length_le (by simp [dv])
      have hsetA : ∀ x y : V, (rowsV chR 6400 (L ++ [c]) ++ [x]).set (L.length + 1) y = rowsV chR 6400 (L ++ [c]) ++ [y] := fun x y => by
        rw [List.set_append_right _ _ (by rw [rowsV_len]; simp)]
        simp [rowsV_len]
      have hmn : ∀ (g : Chp), g.1 ∈ TT → g.2.length ≤ i + 1 → ∀ x ∈ L ++ [c] ++ [g], x.1 ∈ TT ∧ x.2.length ≤ i + 1 := by
        intro g g1 g2 x hx
        rcases List.mem_append.1 hx with hx | hx
        · exact ⟨(h3 x hx).1, by have := (h3 x hx).2; omega⟩
        · obtain rfl := List.mem_singleton.1 hx
          exact ⟨g1, g2⟩
      have hms : ∀ (g : Chp), g.1 ∈ TT → g.2.length ≤ i + 1 → ∀ x ∈ (L ++ [c]).set L.length g, x.1 ∈ TT ∧ x.2.length ≤ i + 1 := by
        intro g g1 g2 x hx
        rcases List.mem_or_eq_of_mem_set hx with hx | rfl
        · exact ⟨(h3 x hx).1, by have := (h3 x hx).2; omega⟩
        · exact ⟨g1, g2⟩
      obtain ⟨hc1, hc2⟩ := h3 c (by simp)
      by_cases hc0 : c.2 = []
      · have hrf : rref (6400 + L.length) (c.2.map D.str) = .nils := by rw [hc0]; rfl
        rw [hrf] at hgl
        repeat' (first | ((first | refine AW.sreg rfl fun K hK => ?_ | refine AW.reg rfl ?_ | refine AW.regD hmix rfl ?_ | refine runT_call _ _ [0, 13760] (fun hv hag => (ho2).objs [0, 13760] ⟨((hag 0 (by simp)).trans rfl), ((hag 13760 (by simp)).trans rfl), trivial⟩ rfl (by decide) (by simp [go_sem, renOs]) (by simp) (by simp) (by simp [go_sem]) (by simp [go_sem]) (by simp [go_sem]) (by simp [go_sem])) rfl rfl (dstOk_of rfl) rfl rfl ?_); simp only [go_sem, Nat.reduceAdd, Nat.reduceMul, Int.reduceToNat, Nat.reduceLT, Nat.reduceLeDiff, Nat.le_refl, Nat.reduceEqDiff, ↓reduceIte, beq_self_eq_true, bne_self_eq_false, Int.reduceBEq, Int.reduceBNe, or_self, true_or, or_true, Option.map_some, Option.map_none, List.length_map, hgk, hgf, e1, e2, htl, hgl, hgl2, hsetA, rowsV_len, List.length_append, List.length_cons, List.length_nil, Nat.zero_add]) | (refine AW.seq_k fun K hK => ?_) | (refine AW.block ?_) | (refine AW.skip ?_; simp only [Then, InBlock]) | (refine AW.condT rfl (by first | rfl | (simp; omega) | (simp [*]; done) | fail) ?_) | (refine AW.cond rfl (fun h => ?_) (fun h => ?_) <;> (try simp only [decide_eq_true_eq, decide_eq_false_iff_not, Bool.not_eq_true', Bool.not_eq_false', Bool.not_eq_eq_eq_not, Bool.not_true, Bool.not_false, beq_iff_eq, bne_iff_ne, beq_eq_false_iff_ne, ne_eq, Bool.and_eq_true, Bool.or_eq_true, Bool.or_eq_false_iff] at h)) | (refine hK _ ?_; clear hK K) | (refine stepB_split (fun h => ?_) (fun h => ?_) <;> (have hb0 := h) <;> (try simp only [Bool.not_eq_true', Bool.not_eq_false'] at hb0) <;> (try simp only [decide_eq_true_eq, decide_eq_false_iff_not, Bool.not_eq_true', Bool.not_eq_false', Bool.not_eq_eq_eq_not, Bool.not_true, Bool.not_false, beq_iff_eq, bne_iff_ne, beq_eq_false_iff_ne, ne_eq, Bool.and_eq_true, Bool.or_eq_true, Bool.or_eq_false_iff] at h) <;> simp only [go_sem, Nat.reduceAdd, Nat.reduceMul, Int.reduceToNat, Nat.reduceLT, Nat.reduceLeDiff, Nat.le_refl, Nat.reduceEqDiff, ↓reduceIte, beq_self_eq_true, bne_self_eq_false, Int.reduceBEq, Int.reduceBNe, or_self, true_or, or_true, Option.map_some, Option.map_none, hb0, h, decide_true, decide_false, List.length_map, hgk, hgf, e1, e2, htl, hgl, hgl2, hsetA, rowsV_len, List.length_append, List.length_cons, List.length_nil, Nat.zero_add] <;> (try clear hb0)) | (with_reducible refine And.intro (?_ : regOk _ _ = true) ?_; kernel_rfl) | (refine run_callI _ _ _ ((flipI l hl2 _ 3 (by omega) (by omega) (by omega) (by omega)).objs [0] ⟨rfl, trivial⟩ rfl (by decide) (by simp [go_sem, renOs]) (by simp [go_sem]) (by simp [go_sem]) (fun j hj => ⟨by simp, by simp, by simp [go_sem], by simp [go_sem]⟩)) rfl rfl (dstOk_of rfl) rfl rfl rfl ?_; rintro r3 hr3; (try dsimp only at r3); (try dsimp only at hr3); simp only [go_sem, Nat.reduceAdd, Nat.reduceMul, Int.reduceToNat, Nat.reduceLT, Nat.reduceLeDiff, Nat.le_refl, Nat.reduceEqDiff, ↓reduceIte, beq_self_eq_true, bne_self_eq_false, Int.reduceBEq, Int.reduceBNe, or_self, true_or, or_true, Option.map_some, Option.map_none, List.length_map, hgk, hgf, e1, e2, htl, hgl, hgl2, hsetA, rowsV_len, List.length_append, List.length_cons, List.length_nil, Nat.zero_add]) | (refine run_callI _ _ _ ((flipI l hl2 _ 5 (by omega) (by omega) (by omega) (by omega)).objs [0] ⟨rfl, trivial⟩ rfl (by decide) (by simp [go_sem, renOs]) (by simp [go_sem]) (by simp [go_sem]) (fun j hj => ⟨by simp, by simp, by simp [go_sem], by simp [go_sem]⟩)) rfl rfl (dstOk_of rfl) rfl rfl rfl ?_; rintro r hr; (try dsimp only at r); (try dsimp only at hr); simp only [go_sem, Nat.reduceAdd, Nat.reduceMul, Int.reduceToNat, Nat.reduceLT, Nat.reduceLeDiff, Nat.le_refl, Nat.reduceEqDiff, ↓reduceIte, beq_self_eq_true, bne_self_eq_false, Int.reduceBEq, Int.reduceBNe, or_self, true_or, or_true, Option.map_some, Option.map_none, List.length_map, hgk, hgf, e1, e2, htl, hgl, hgl2, hsetA, rowsV_len, List.length_append, List.length_cons, List.length_nil, Nat.zero_add]) | (with_reducible refine And.intro ?_ ?_; first | omega | assumption | (focus (decide)) | (focus (simp; done)) | (focus (simp; omega)) | (focus (constructor <;> omega)) | fail) | (exfalso; omega))
        · exact ⟨(i + 1, L ++ [c] ++ [(ti, [f.1])], a + 1 + 1 + 1), ⟨hi, by simp at h2 ⊢; omega, hmn _ (ht2 _ ht3) (by simp), by simp only; omega, by simp only; omega⟩, by simp only; omega, (by
            have hgl0 : (L ++ [c]).length ≤ 60 := by simp; omega
            obtain ⟨F, hF⟩ : ∃ F : Nat → Nat, F = sw2 1664 14016 (6400 + (L ++ [c]).length) 15616 := ⟨_, rfl⟩
            have w0 : F 0 = 0 := by rw [hF]; exact sw2_o (by omega) (by omega) (by omega) (by omega)
            have w64 : F 64 = 64 := by rw [hF]; exact sw2_o (by omega) (by omega) (by omega) (by omega)
            have w512 : F 512 = 512 := by rw [hF]; exact sw2_o (by omega) (by omega) (by omega) (by omega)
            have ws : F 1664 = 14016 := by rw [hF]; exact sw2_a (by omega) (by omega)
            have wj : F (6400 + (L ++ [c]).length) = 15616 := by rw [hF]; exact sw2_c (by omega) (by omega)
            have wo : ∀ q, q < (L ++ [c]).length → q ≠ (L ++ [c]).length → F (6400 + q) = 6400 + q := fun q hq hne => by rw [hF]; exact sw2_o (by omega) (by omega) (by omega) (by omega)
            have hsp : ∀ hv, frzL hv (fun _ => true) (rowsV chR 6400 (L ++ [c]) ++ [.agg [S ti, .slr 15616 0 1]]) = renL F (rowsV chR 6400 ((L ++ [c]) ++ [(ti, [f.1])])) := sp_app chR_ok (g := (ti, [f.1])) wj (fun q hq => wo q hq (by omega)) (by simp [chR]) (by simp [chR])
            have hbl : belL (64 * 200) (rowsV chR 6400 ((L ++ [c]) ++ [(ti, [f.1])])) = true := belL_rowsV chR_ok _ _ (by (try simp only [List.length_append, List.length_cons, List.length_nil, List.length_set] at hgl0 ⊢); omega)
            (try simp at hbl hsp)
            exact Weak.rowsH (R := chR) hcx F 6400 _ [_, _, _, _] rfl rfl (fun q hq => by first | exact absurd hq (Nat.not_lt_zero _) | (obtain rfl : q = 0 := (by simp only [List.length_cons, List.length_nil] at hq; omega); exact w0)) (by simp) (by simp [go_sem, frz, ws, w0, w64, w512]) (by simp [go_sem, ws, w0, w64, w512, hsp, hbl]) (fun q zz hq hx => by
                rcases Nat.lt_trichotomy q (L ++ [c]).length with h | h | h
                · rw [List.getElem?_append_left h] at hq
                  refine ⟨by (try simp only [List.length_append, List.length_cons, List.length_nil] at hgl0 h ⊢); omega, ?_⟩
                  rw [wo q h (by omega)]
                  repeat (refine (hv_skip (by omega)).trans ?_)
                  exact hv_rowsE hq hx
                · subst h
                  have hxe : zz = (ti, [f.1]) := by simpa using hq.symm
                  subst hxe
                  rw [wj]
                  exact ⟨by (try simp only [List.length_append, List.length_cons, List.length_nil] at hgl0 ⊢); omega, by simp [St.hv, lk, chR, dv]⟩
                · rw [List.getElem?_eq_none (by simp only [List.length_append, List.length_cons, List.length_nil] at h ⊢; omega)] at hq
                  cases hq) (fun q hq => by first | exact absurd hq (Nat.not_lt_zero _) | (obtain rfl : q = 0 := (by simp only [List.length_cons, List.length_nil] at hq; omega); exact ⟨_, List.mem_cons_self⟩)) (by rw [hF]; exact sw2_inj _ _ _ _))⟩
        · exact ⟨(i + 1, L ++ [c] ++ [(ti, [])], a + 1 + 1 + 1), ⟨hi, by simp at h2 ⊢; omega, hmn _ (ht2 _ ht3) (by simp), by simp only; omega, by simp only; omega⟩, by simp only; omega, (by
            have hgl0 : (L ++ [c]).length ≤ 60 := by simp; omega
            obtain ⟨F, hF⟩ : ∃ F : Nat → Nat, F = sw2 1664 14016 1664 1664 := ⟨_, rfl⟩
            have w0 : F 0 = 0 := by rw [hF]; exact sw2_o (by omega) (by omega) (by omega) (by omega)
            have w64 : F 64 = 64 := by rw [hF]; exact sw2_o (by omega) (by omega) (by omega) (by omega)
            have w512 : F 512 = 512 := by rw [hF]; exact sw2_o (by omega) (by omega) (by omega) (by omega)
            have ws : F 1664 = 14016 := by rw [hF]; simp [sw2, swpN]
            have wo : ∀ q, q < (L ++ [c]).length → F (6400 + q) = 6400 + q := fun q hq => by rw [hF]; exact sw2_o (by omega) (by omega) (by omega) (by omega)
            have hsp : ∀ hv, frzL hv (fun _ => true) (rowsV chR 6400 (L ++ [c]) ++ [.agg [S ti, .nils]]) = renL F (rowsV chR 6400 ((L ++ [c]) ++ [(ti, [])])) := sp_app0 chR_ok (g := (ti, [])) wo rfl
            have hbl : belL (64 * 200) (rowsV chR 6400 ((L ++ [c]) ++ [(ti, [])])) = true := belL_rowsV chR_ok _ _ (by (try simp only [List.length_append, List.length_cons, List.length_nil, List.length_set] at hgl0 ⊢); omega)
            (try simp at hbl hsp)
            exact Weak.rowsH (R := chR) hcx F 6400 _ [_, _, _, _] rfl rfl (fun q hq => by first | exact absurd hq (Nat.not_lt_zero _) | (obtain rfl : q = 0 := (by simp only [List.length_cons, List.length_nil] at hq; omega); exact w0)) (by simp) (by simp [go_sem, frz, ws, w0, w64, w512]) (by simp [go_sem, ws, w0, w64, w512, hsp, hbl]) (fun q zz hq hx => by
                rcases Nat.lt_trichotomy q (L ++ [c]).length with h | h | h
                · rw [List.getElem?_append_left h] at hq
                  refine ⟨by (try simp only [List.length_append, List.length_cons, List.length_nil] at hgl0 h ⊢); omega, ?_⟩
                  rw [wo q h]
                  repeat (refine (hv_skip (by omega)).trans ?_)
                  exact hv_rowsE hq hx
                · subst h
                  have hxe : zz = (ti, []) := by simpa using hq.symm
                  subst hxe
                  exact absurd rfl hx
                · rw [List.getElem?_eq_none (by simp only [List.length_append, List.length_cons, List.length_nil] at h ⊢; omega)] at hq
                  cases hq) (fun q hq => by first | exact absurd hq (Nat.not_lt_zero _) | (obtain rfl : q = 0 := (by simp only [List.length_cons, List.length_nil] at hq; omega); exact ⟨_, List.mem_cons_self⟩)) (by rw [hF]; exact sw2_inj _ _ _ _))⟩
        · exact ⟨(i + 1, (L ++ [c]).set L.length (c.1, [f.1]), a + 1 + 1), ⟨hi, by simp at h2 ⊢; omega, hms _ hc1 (by simp), by simp only; omega, by simp only; omega⟩, by simp only; omega, (by
            have hgl0 : (L ++ [c]).length ≤ 60 := by simp; omega
            obtain ⟨F, hF⟩ : ∃ F : Nat → Nat, F = sw2 1664 1664 (6400 + L.length) 14976 := ⟨_, rfl⟩
            have w0 : F 0 = 0 := by rw [hF]; exact sw2_o (by omega) (by omega) (by omega) (by omega)
            have w64 : F 64 = 64 := by rw [hF]; exact sw2_o (by omega) (by omega) (by omega) (by omega)
            have w512 : F 512 = 512 := by rw [hF]; exact sw2_o (by omega) (by omega) (by omega) (by omega)
            have ws : F 1664 = 1664 := by rw [hF]; exact sw2_a (by omega) (by omega)
            have wj : F (6400 + L.length) = 14976 := by rw [hF]; exact sw2_c (by omega) (by omega)
            have wo : ∀ q, q < (L ++ [c]).length → q ≠ L.length → F (6400 + q) = 6400 + q := fun q hq hne => by rw [hF]; exact sw2_o (by omega) (by omega) (by omega) (by omega)
            have hsp : ∀ hv, frzL hv (fun _ => true) ((rowsV chR 6400 (L ++ [c])).set L.length (.agg [S c.1, .slr 14976 0 1])) = renL F (rowsV chR 6400 ((L ++ [c]).set L.length (c.1, [f.1]))) := sp_set chR_ok (g := (c.1, [f.1])) (by simp) wj wo (by simp [chR]) (by simp [chR])
            have hbl : belL (64 * 200) (rowsV chR 6400 ((L ++ [c]).set L.length (c.1, [f.1]))) = true := belL_rowsV chR_ok _ _ (by (try simp only [List.length_append, List.length_cons, List.length_nil, List.length_set] at hgl0 ⊢); omega)
            (try simp at hbl hsp)
            exact Weak.rowsH (R := chR) hcx F 6400 _ [_, _, _, _] rfl rfl (fun q hq => by first | exact absurd hq (Nat.not_lt_zero _) | (obtain rfl : q = 0 := (by simp only [List.length_cons, List.length_nil] at hq; omega); exact w0)) (by simp) (by simp [go_sem, frz, ws, w0, w64, w512]) (by simp [go_sem, ws, w0, w64, w512, hsp, hbl]) (fun q zz hq hx => by
                have hql : q < (L ++ [c]).length := by have := get_lt hq; rwa [List.length_set] at this
                refine ⟨by (try simp only [List.length_append, List.length_cons, List.length_nil] at hgl0 hql ⊢); omega, ?_⟩
                by_cases h : L.length = q
                · subst h
                  rw [List.getElem?_set_self hql] at hq
                  have hxe : zz = (c.1, [f.1]) := (Option.some.inj hq).symm
                  subst hxe
                  rw [wj]
                  simp [St.hv, lk, chR, dv]
                · rw [List.getElem?_set_ne h] at hq
                  rw [wo q hql (Ne.symm h)]
                  repeat (refine (hv_skip (by omega)).trans ?_)
                  exact hv_rowsE hq hx) (fun q hq => by first | exact absurd hq (Nat.not_lt_zero _) | (obtain rfl : q = 0 := (by simp only [List.length_cons, List.length_nil] at hq; omega); exact ⟨_, List.mem_cons_self⟩)) (by rw [hF]; exact sw2_inj _ _ _ _))⟩
        · exact ⟨(i + 1, L ++ [c], a + 1 + 1), ⟨hi, by simp only; omega, fun x hx => ⟨(h3 x hx).1, by have := (h3 x hx).2; simp only; omega⟩, by simp only; omega, by simp only; omega⟩, by simp only; omega, (by
            have hgl0 : (L ++ [c]).length ≤ 60 := by simp; omega
            obtain ⟨F, hF⟩ : ∃ F : Nat → Nat, F = sw2 1664 1664 1664 1664 := ⟨_, rfl⟩
            have w0 : F 0 = 0 := by rw [hF]; exact sw2_o (by omega) (by omega) (by omega) (by omega)
            have w64 : F 64 = 64 := by rw [hF]; exact sw2_o (by omega) (by omega) (by omega) (by omega)
            have w512 : F 512 = 512 := by rw [hF]; exact sw2_o (by omega) (by omega) (by omega) (by omega)
            have ws : F 1664 = 1664 := by rw [hF]; simp [sw2, swpN]
            have wo : ∀ q, q < (L ++ [c]).length → F (6400 + q) = 6400 + q := fun q hq => by rw [hF]; exact sw2_o (by omega) (by omega) (by omega) (by omega)
            have hsp : ∀ hv, frzL hv (fun _ => true) (rowsV chR 6400 (L ++ [c])) = renL F (rowsV chR 6400 (L ++ [c])) := sp_id chR_ok wo
            have hbl : belL (64 * 200) (rowsV chR 6400 (L ++ [c])) = true := belL_rowsV chR_ok _ _ (by (try simp only [List.length_append, List.length_cons, List.length_nil, List.length_set] at hgl0 ⊢); omega)
            (try simp at hbl hsp)
            exact Weak.rowsH (R := chR) hcx F 6400 _ [_, _, _, _] rfl rfl (fun q hq => by first | exact absurd hq (Nat.not_lt_zero _) | (obtain rfl : q = 0 := (by simp only [List.length_cons, List.length_nil] at hq; omega); exact w0)) (by simp) (by simp [go_sem, frz, ws, w0, w64, w512]) (by simp [go_sem, ws, w0, w64, w512, hsp, hbl]) (fun q zz hq hx => by
                have hql : q < (L ++ [c]).length := get_lt hq
                refine ⟨by (try simp only [List.length_append, List.length_cons, List.length_nil] at hgl0 hql ⊢); omega, ?_⟩
                rw [wo q hql]
                repeat (refine (hv_skip (by omega)).trans ?_)
                exact hv_rowsE hq hx) (fun q hq => by first | exact absurd hq (Nat.not_lt_zero _) | (obtain rfl : q = 0 := (by simp only [List.length_cons, List.length_nil] at hq; omega); exact ⟨_, List.mem_cons_self⟩)) (by rw [hF]; exact sw2_inj _ _ _ _))⟩
      · have hrf : rref (6400 + L.length) (c.2.map D.str) = .slr (6400 + L.length) 0 c.2.length := by rw [rref_pos (by simpa using hc0), List.length_map]
        rw [hrf] at hgl
        have hlk := hlkL hc0
        repeat' (first | ((first | refine AW.sreg rfl fun K hK => ?_ | refine AW.reg rfl ?_ | refine AW.regD hmix rfl ?_ | refine runT_call _ _ [0, 13760] (fun hv hag => (ho2).objs [0, 13760] ⟨((hag 0 (by simp)).trans rfl), ((hag 13760 (by simp)).trans rfl), trivial⟩ rfl (by decide) (by simp [go_sem, renOs]) (by simp) (by simp) (by simp [go_sem]) (by simp [go_sem]) (by simp [go_sem]) (by simp [go_sem])) rfl rfl (dstOk_of rfl) rfl rfl ?_); simp only [go_sem, Nat.reduceAdd, Nat.reduceMul, Int.reduceToNat, Nat.reduceLT, Nat.reduceLeDiff, Nat.le_refl, Nat.reduceEqDiff, ↓reduceIte, beq_self_eq_true, bne_self_eq_false, Int.reduceBEq, Int.reduceBNe, or_self, true_or, or_true, Option.map_some, Option.map_none, List.length_map, hgk, hgf, e1, e2, htl, hgl, hgl2, hsetA, htk, hN0, hN1, hN2, hN3, hlk, rowsV_len, dv_length, List.length_append, List.length_cons, List.length_nil, Nat.zero_add]) | (refine AW.seq_k fun K hK => ?_) | (refine AW.block ?_) | (refine AW.skip ?_; simp only [Then, InBlock]) | (refine AW.condT rfl (by first | rfl | (simp; omega) | (simp [*]; done) | fail) ?_) | (refine AW.cond rfl (fun h => ?_) (fun h => ?_) <;> (try simp only [decide_eq_true_eq, decide_eq_false_iff_not, Bool.not_eq_true', Bool.not_eq_false', Bool.not_eq_eq_eq_not, Bool.not_true, Bool.not_false, beq_iff_eq, bne_iff_ne, beq_eq_false_iff_ne, ne_eq, Bool.and_eq_true, Bool.or_eq_true, Bool.or_eq_false_iff] at h)) | (refine hK _ ?_; clear hK K) | (refine stepB_split (fun h => ?_) (fun h => ?_) <;> (have hb0 := h) <;> (try simp only [Bool.not_eq_true', Bool.not_eq_false'] at hb0) <;> (try simp only [decide_eq_true_eq, decide_eq_false_iff_not, Bool.not_eq_true', Bool.not_eq_false', Bool.not_eq_eq_eq_not, Bool.not_true, Bool.not_false, beq_iff_eq, bne_iff_ne, beq_eq_false_iff_ne, ne_eq, Bool.and_eq_true, Bool.or_eq_true, Bool.or_eq_false_iff] at h) <;> simp only [go_sem, Nat.reduceAdd, Nat.reduceMul, Int.reduceToNat, Nat.reduceLT, Nat.reduceLeDiff, Nat.le_refl, Nat.reduceEqDiff, ↓reduceIte, beq_self_eq_true, bne_self_eq_false, Int.reduceBEq, Int.reduceBNe, or_self, true_or, or_true, Option.map_some, Option.map_none, hb0, h, decide_true, decide_false, List.length_map, hgk, hgf, e1, e2, htl, hgl, hgl2, hsetA, htk, hN0, hN1, hN2, hN3, hlk, rowsV_len, dv_length, List.length_append, List.length_cons, List.length_nil, Nat.zero_add] <;> (try clear hb0)) | (with_reducible refine And.intro (?_ : regOk _ _ = true) ?_; exact regOk_swap (by kernel_rfl)) | (refine run_callI _ _ _ ((flipI l hl2 _ 3 (by omega) (by omega) (by omega) (by omega)).objs [0] ⟨rfl, trivial⟩ rfl (by decide) (by simp [go_sem, renOs]) (by simp [go_sem]) (by simp [go_sem]) (fun j hj => ⟨by simp, by simp, by simp [go_sem], by simp [go_sem]⟩)) rfl rfl (dstOk_of rfl) rfl rfl rfl ?_; rintro r3 hr3; (try dsimp only at r3); (try dsimp only at hr3); simp only [go_sem, Nat.reduceAdd, Nat.reduceMul, Int.reduceToNat, Nat.reduceLT, Nat.reduceLeDiff, Nat.le_refl, Nat.reduceEqDiff, ↓reduceIte, beq_self_eq_true, bne_self_eq_false, Int.reduceBEq, Int.reduceBNe, or_self, true_or, or_true, Option.map_some, Option.map_none, List.length_map, hgk, hgf, e1, e2, htl, hgl, hgl2, hsetA, htk, hN0, hN1, hN2, hN3, hlk, rowsV_len, dv_length, List.length_append, List.length_cons, List.length_nil, Nat.zero_add]) | (refine run_callI _ _ _ ((flipI l hl2 _ 5 (by omega) (by omega) (by omega) (by omega)).objs [0] ⟨rfl, trivial⟩ rfl (by decide) (by simp [go_sem, renOs]) (by simp [go_sem]) (by simp [go_sem]) (fun j hj => ⟨by simp, by simp, by simp [go_sem], by simp [go_sem]⟩)) rfl rfl (dstOk_of rfl) rfl rfl rfl ?_; rintro r hr; (try dsimp only at r); (try dsimp only at hr); simp only [go_sem, Nat.reduceAdd, Nat.reduceMul, Int.reduceToNat, Nat.reduceLT, Nat.reduceLeDiff, Nat.le_refl, Nat.reduceEqDiff, ↓reduceIte, beq_self_eq_true, bne_self_eq_false, Int.reduceBEq, Int.reduceBNe, or_self, true_or, or_true, Option.map_some, Option.map_none, List.length_map, hgk, hgf, e1, e2, htl, hgl, hgl2, hsetA, htk, hN0, hN1, hN2, hN3, hlk, rowsV_len, dv_length, List.length_append, List.length_cons, List.length_nil, Nat.zero_add]) | (with_reducible refine And.intro ?_ ?_; first | omega | assumption | (focus (decide)) | (focus (simp; done)) | (focus (simp; omega)) | (focus (constructor <;> omega)) | fail) | (exfalso; omega))
        · exact ⟨(i + 1, L ++ [c] ++ [(ti, [f.1])], a + 1 + 1 + 1), ⟨hi, by simp at h2 ⊢; omega, hmn _ (ht2 _ ht3) (by simp), by simp only; omega, by simp only; omega⟩, by simp only; omega, (by
            have hgl0 : (L ++ [c]).length ≤ 60 := by simp; omega
            obtain ⟨F, hF⟩ : ∃ F : Nat → Nat, F = sw2 1664 14016 (6400 + (L ++ [c]).length) 15616 := ⟨_, rfl⟩
            have w0 : F 0 = 0 := by rw [hF]; exact sw2_o (by omega) (by omega) (by omega) (by omega)
            have w64 : F 64 = 64 := by rw [hF]; exact sw2_o (by omega) (by omega) (by omega) (by omega)
            have w512 : F 512 = 512 := by rw [hF]; exact sw2_o (by omega) (by omega) (by omega) (by omega)
            have ws : F 1664 = 14016 := by rw [hF]; exact sw2_a (by omega) (by omega)
            have wj : F (6400 + (L ++ [c]).length) = 15616 := by rw [hF]; exact sw2_c (by omega) (by omega)
            have wo : ∀ q, q < (L ++ [c]).length → q ≠ (L ++ [c]).length → F (6400 + q) = 6400 + q := fun q hq hne => by rw [hF]; exact sw2_o (by omega) (by omega) (by omega) (by omega)
            have hsp : ∀ hv, frzL hv (fun _ => true) (rowsV chR 6400 (L ++ [c]) ++ [.agg [S ti, .slr 15616 0 1]]) = renL F (rowsV chR 6400 ((L ++ [c]) ++ [(ti, [f.1])])) := sp_app chR_ok (g := (ti, [f.1])) wj (fun q hq => wo q hq (by omega)) (by simp [chR]) (by simp [chR])
            have hbl : belL (64 * 200) (rowsV chR 6400 ((L ++ [c]) ++ [(ti, [f.1])])) = true := belL_rowsV chR_ok _ _ (by (try simp only [List.length_append, List.length_cons, List.length_nil, List.length_set] at hgl0 ⊢); omega)
            (try simp at hbl hsp)
            exact Weak.rowsH (R := chR) hcx F 6400 _ [_, _, _, _] rfl rfl (fun q hq => by first | exact absurd hq (Nat.not_lt_zero _) | (obtain rfl : q = 0 := (by simp only [List.length_cons, List.length_nil] at hq; omega); exact w0)) (by simp) (by simp [go_sem, frz, ws, w0, w64, w512]) (by simp [go_sem, ws, w0, w64, w512, hsp, hbl]) (fun q zz hq hx => by
                rcases Nat.lt_trichotomy q (L ++ [c]).length with h | h | h
                · rw [List.getElem?_append_left h] at hq
                  refine ⟨by (try simp only [List.length_append, List.length_cons, List.length_nil] at hgl0 h ⊢); omega, ?_⟩
                  rw [wo q h (by omega)]
                  repeat (refine (hv_skip (by omega)).trans ?_)
                  exact hv_rowsE hq hx
                · subst h
                  have hxe : zz = (ti, [f.1]) := by simpa using hq.symm
                  subst hxe
                  rw [wj]
                  exact ⟨by (try simp only [List.length_append, List.length_cons, List.length_nil] at hgl0 ⊢); omega, by simp [St.hv, lk, chR, dv]⟩
                · rw [List.getElem?_eq_none (by simp only [List.length_append, List.length_cons, List.length_nil] at h ⊢; omega)] at hq
                  cases hq) (fun q hq => by first | exact absurd hq (Nat.not_lt_zero _) | (obtain rfl : q = 0 := (by simp only [List.length_cons, List.length_nil] at hq; omega); exact ⟨_, List.mem_cons_self⟩)) (by rw [hF]; exact sw2_inj _ _ _ _))⟩
        · exact ⟨(i + 1, L ++ [c] ++ [(ti, [])], a + 1 + 1 + 1), ⟨hi, by simp at h2 ⊢; omega, hmn _ (ht2 _ ht3) (by simp), by simp only; omega, by simp only; omega⟩, by simp only; omega, (by
            have hgl0 : (L ++ [c]).length ≤ 60 := by simp; omega
            obtain ⟨F, hF⟩ : ∃ F : Nat → Nat, F = sw2 1664 14016 1664 1664 := ⟨_, rfl⟩
            have w0 : F 0 = 0 := by rw [hF]; exact sw2_o (by omega) (by omega) (by omega) (by omega)
            have w64 : F 64 = 64 := by rw [hF]; exact sw2_o (by omega) (by omega) (by omega) (by omega)
            have w512 : F 512 = 512 := by rw [hF]; exact sw2_o (by omega) (by omega) (by omega) (by omega)
            have ws : F 1664 = 14016 := by rw [hF]; simp [sw2, swpN]
            have wo : ∀ q, q < (L ++ [c]).length → F (6400 + q) = 6400 + q := fun q hq => by rw [hF]; exact sw2_o (by omega) (by omega) (by omega) (by omega)
            have hsp : ∀ hv, frzL hv (fun _ => true) (rowsV chR 6400 (L ++ [c]) ++ [.agg [S ti, .nils]]) = renL F (rowsV chR 6400 ((L ++ [c]) ++ [(ti, [])])) := sp_app0 chR_ok (g := (ti, [])) wo rfl
            have hbl : belL (64 * 200) (rowsV chR 6400 ((L ++ [c]) ++ [(ti, [])])) = true := belL_rowsV chR_ok _ _ (by (try simp only [List.length_append, List.length_cons, List.length_nil, List.length_set] at hgl0 ⊢); omega)
            (try simp at hbl hsp)
            exact Weak.rowsH (R := chR) hcx F 6400 _ [_, _, _, _] rfl rfl (fun q hq => by first | exact absurd hq (Nat.not_lt_zero _) | (obtain rfl : q = 0 := (by simp only [List.length_cons, List.length_nil] at hq; omega); exact w0)) (by simp) (by simp [go_sem, frz, ws, w0, w64, w512]) (by simp [go_sem, ws, w0, w64, w512, hsp, hbl]) (fun q zz hq hx => by
                rcases Nat.lt_trichotomy q (L ++ [c]).length with h | h | h
                · rw [List.getElem?_append_left h] at hq
                  refine ⟨by (try simp only [List.length_append, List.length_cons, List.length_nil] at hgl0 h ⊢); omega, ?_⟩
                  rw [wo q h]
                  repeat (refine (hv_skip (by omega)).trans ?_)
                  exact hv_rowsE hq hx
                · subst h
                  have hxe : zz = (ti, []) := by simpa using hq.symm
                  subst hxe
                  exact absurd rfl hx
                · rw [List.getElem?_eq_none (by simp only [List.length_append, List.length_cons, List.length_nil] at h ⊢; omega)] at hq
                  cases hq) (fun q hq => by first | exact absurd hq (Nat.not_lt_zero _) | (obtain rfl : q = 0 := (by simp only [List.length_cons, List.length_nil] at hq; omega); exact ⟨_, List.mem_cons_self⟩)) (by rw [hF]; exact sw2_inj _ _ _ _))⟩
        · exact ⟨(i + 1, (L ++ [c]).set L.length (c.1, c.2 ++ [f.1]), a + 1 + 1), ⟨hi, by simp at h2 ⊢; omega, hms _ hc1 (by simp; omega), by simp only; omega, by simp only; omega⟩, by simp only; omega, (by
            have hgl0 : (L ++ [c]).length ≤ 60 := by simp; omega
            obtain ⟨F, hF⟩ : ∃ F : Nat → Nat, F = sw2 1664 1664 (6400 + L.length) 14976 := ⟨_, rfl⟩
            have w0 : F 0 = 0 := by rw [hF]; exact sw2_o (by omega) (by omega) (by omega) (by omega)
            have w64 : F 64 = 64 := by rw [hF]; exact sw2_o (by omega) (by omega) (by omega) (by omega)
            have w512 : F 512 = 512 := by rw [hF]; exact sw2_o (by omega) (by omega) (by omega) (by omega)
            have ws : F 1664 = 1664 := by rw [hF]; exact sw2_a (by omega) (by omega)
            have wj : F (6400 + L.length) = 14976 := by rw [hF]; exact sw2_c (by omega) (by omega)
            have wo : ∀ q, q < (L ++ [c]).length → q ≠ L.length → F (6400 + q) = 6400 + q := fun q hq hne => by rw [hF]; exact sw2_o (by omega) (by omega) (by omega) (by omega)
            have hsp : ∀ hv, frzL hv (fun _ => true) ((rowsV chR 6400 (L ++ [c])).set L.length (.agg [S c.1, .slr 14976 0 (c.2.length + 1)])) = renL F (rowsV chR 6400 ((L ++ [c]).set L.length (c.1, c.2 ++ [f.1]))) := sp_set chR_ok (g := (c.1, c.2 ++ [f.1])) (by simp) wj wo (by simp [chR]) (by simp [chR])
            have hbl : belL (64 * 200) (rowsV chR 6400 ((L ++ [c]).set L.length (c.1, c.2 ++ [f.1]))) = true := belL_rowsV chR_ok _ _ (by (try simp only [List.length_append, List.length_cons, List.length_nil, List.length_set] at hgl0 ⊢); omega)
            (try simp at hbl hsp)
            exact Weak.rowsH (R := chR) hcx F 6400 _ [_, _, _, _] rfl rfl (fun q hq => by first | exact absurd hq (Nat.not_lt_zero _) | (obtain rfl : q = 0 := (by simp only [List.length_cons, List.length_nil] at hq; omega); exact w0)) (by simp) (by simp [go_sem, frz, ws, w0, w64, w512]) (by simp [go_sem, ws, w0, w64, w512, hsp, hbl, hN2, hN3]) (fun q zz hq hx => by
                have hql : q < (L ++ [c]).length := by have := get_lt hq; rwa [List.length_set] at this
                refine ⟨by (try simp only [List.length_append, List.length_cons, List.length_nil] at hgl0 hql ⊢); omega, ?_⟩
                by_cases h : L.length = q
                · subst h
                  rw [List.getElem?_set_self hql] at hq
                  have hxe : zz = (c.1, c.2 ++ [f.1]) := (Option.some.inj hq).symm
                  subst hxe
                  rw [wj]
                  simp [St.hv, lk, chR, dv, hN2, hN3]
                · rw [List.getElem?_set_ne h] at hq
                  rw [wo q hql (Ne.symm h)]
                  repeat (refine (hv_skip (by omega)).trans ?_)
                  exact hv_rowsE hq hx) (fun q hq => by first | exact absurd hq (Nat.not_lt_zero _) | (obtain rfl : q = 0 := (by simp only [List.length_cons, List.length_nil] at hq; omega); exact ⟨_, List.mem_cons_self⟩)) (by rw [hF]; exact sw2_inj _ _ _ _))⟩
        · exact ⟨(i + 1, L ++ [c], a + 1 + 1), ⟨hi, by simp only; omega, fun x hx => ⟨(h3 x hx).1, by have := (h3 x hx).2; simp only; omega⟩, by simp only; omega, by simp only; omega⟩, by simp only; omega, (by
            have hgl0 : (L ++ [c]).length ≤ 60 := by simp; omega
            obtain ⟨F, hF⟩ : ∃ F : Nat → Nat, F = sw2 1664 1664 1664 1664 := ⟨_, rfl⟩
            have w0 : F 0 = 0 := by rw [hF]; exact sw2_o (by omega) (by omega) (by omega) (by omega)
            have w64 : F 64 = 64 := by rw [hF]; exact sw2_o (by omega) (by omega) (by omega) (by omega)
            have w512 : F 512 = 512 := by rw [hF]; exact sw2_o (by omega) (by omega) (by omega) (by omega)
            have ws : F 1664 = 1664 := by rw [hF]; simp [sw2, swpN]
            have wo : ∀ q, q < (L ++ [c]).length → F (6400 + q) = 6400 + q := fun q hq => by rw [hF]; exact sw2_o (by omega) (by omega) (by omega) (by omega)
            have hsp : ∀ hv, frzL hv (fun _ => true) (rowsV chR 6400 (L ++ [c])) = renL F (rowsV chR 6400 (L ++ [c])) := sp_id chR_ok wo
            have hbl : belL (64 * 200) (rowsV chR 6400 (L ++ [c])) = true := belL_rowsV chR_ok _ _ (by (try simp only [List.length_append, List.length_cons, List.length_nil, List.length_set] at hgl0 ⊢); omega)
            (try simp at hbl hsp)
            exact Weak.rowsH (R := chR) hcx F 6400 _ [_, _, _, _] rfl rfl (fun q hq => by first | exact absurd hq (Nat.not_lt_zero _) | (obtain rfl : q = 0 := (by simp only [List.length_cons, List.length_nil] at hq; omega); exact w0)) (by simp) (by simp [go_sem, frz, ws, w0, w64, w512]) (by simp [go_sem, ws, w0, w64, w512, hsp, hbl]) (fun q zz hq hx => by
                have hql : q < (L ++ [c]).length := get_lt hq
                refine ⟨by (try simp only [List.length_append, List.length_cons, List.length_nil] at hgl0 hql ⊢); omega, ?_⟩
                rw [wo q hql]
                repeat (refine (hv_skip (by omega)).trans ?_)
                exact hv_rowsE hq hx) (fun q hq => by first | exact absurd hq (Nat.not_lt_zero _) | (obtain rfl : q = 0 := (by simp only [List.length_cons, List.length_nil] at hq; omega); exact ⟨_, List.mem_cons_self⟩)) (by rw [hF]; exact sw2_inj _ _ _ _))⟩
  · obtain rfl : i = os.1.length := by omega
    have hne : 0 < cs.length ∨ cs.length = 0 := by omega
    rcases hne with hne | hne
    · have hl0 : ¬ ((cs.length : Nat) : Int) = 0 := by omega
      have hn1 := next_any l hl2 (a + 1) cs.length (by omega) (by omega) (by omega) (by omega)
      have hn2 := nextV_range l (a + 1) cs.length (by omega)
      generalize nextV l (a + 1) cs.length = j at hn1 hn2
      have hjl : j.toNat < cs.length := by omega
      obtain ⟨c, hc, hcm, -⟩ := get_some hjl
      have hT5 : ([[], [80, 108, 97, 110, 116, 115]] : List Str) ≠ [] := by simp
      have ho5 := one10_any l hl2 (a + 1 + 1) (by omega) (by omega) [[], [80, 108, 97, 110, 116, 115]] hT5 (by simp)
      have ht5 := one_mem l (a + 1 + 1) [[], [80, 108, 97, 110, 116, 115]] hT5
      generalize ([[], [80, 108, 97, 110, 116, 115]] : List Str).getD (nextV l (a + 1 + 1) ([[], [80, 108, 97, 110, 116, 115]] : List Str).length).toNat [] = ti at ho5 ht5
      have ho6 := one10_any l hl2 (a + 1 + 1 + 1) (by omega) (by omega) PP (by simp [PP]) (by simp [PP])
      generalize PP.getD (nextV l (a + 1 + 1 + 1) PP.length).toNat [] = pp at ho6
      repeat' (first | ((first | refine AW.sreg rfl fun K hK => ?_ | refine AW.sregD hmix rfl fun K hK => ?_); simp only [go_sem, Nat.reduceAdd, Nat.reduceMul, Int.reduceToNat, Nat.reduceLT, Nat.reduceLeDiff, Nat.le_refl, Nat.reduceEqDiff, ↓reduceIte, beq_self_eq_true, bne_self_eq_false, Int.reduceBEq, Int.reduceBNe, or_self, true_or, or_true, Option.map_some, Option.map_none, List.length_map, rowsV_len]) | (refine AW.seq_k fun K hK => ?_) | (refine AW.exit ?_; simp only [go_sem, ↓reduceIte]) | (refine AW.condT rfl (by first | rfl | (simp; omega) | (simp [*]; done) | fail) ?_) | (refine AW.condF rfl (by first | rfl | (simp; omega) | (simp [*]; done) | fail) ?_) | (refine hK _ ?_; clear hK K) | (clear hK K; refine hK _ ?_; clear hK K) | (refine stepB_split (fun h => ?_) (fun h => ?_) <;> (have hb0 := h) <;> (try simp only [Bool.not_eq_true', Bool.not_eq_false'] at hb0) <;> (try simp only [decide_eq_true_eq, decide_eq_false_iff_not, Bool.not_eq_true', Bool.not_eq_false', Bool.not_eq_eq_eq_not, Bool.not_true, Bool.not_false, beq_iff_eq, bne_iff_ne, beq_eq_false_iff_ne, ne_eq, Bool.and_eq_true, Bool.or_eq_true, Bool.or_eq_false_iff] at h) <;> simp only [go_sem, Nat.reduceAdd, Nat.reduceMul, Int.reduceToNat, Nat.reduceLT, Nat.reduceLeDiff, Nat.le_refl, Nat.reduceEqDiff, ↓reduceIte, beq_self_eq_true, bne_self_eq_false, Int.reduceBEq, Int.reduceBNe, or_self, true_or, or_true, Option.map_some, Option.map_none, hb0, h, decide_true, decide_false, List.length_map, rowsV_len] <;> (try clear hb0)) | (exfalso; omega))
      first | (refine run_callI _ _ _ ((flipI l hl2 _ 20 (by omega) (by omega) (by omega) (by omega)).objs [0] ⟨rfl, trivial⟩ rfl (by decide) (by simp [go_sem, renOs]) (by simp [go_sem]) (by simp [go_sem]) (fun j hj => ⟨by simp, by simp, by simp [go_sem], by simp [go_sem]⟩)) rfl rfl (dstOk_of rfl) rfl rfl rfl ?_; rintro r20 hr20; (try dsimp only at r20); (try dsimp only at hr20); simp only [go_sem, Nat.reduceAdd, Nat.reduceMul, Int.reduceToNat, Nat.reduceLT, Nat.reduceLeDiff, Nat.le_refl, Nat.reduceEqDiff, ↓reduceIte, beq_self_eq_true, bne_self_eq_false, Int.reduceBEq, Int.reduceBNe, or_self, true_or, or_true, Option.map_some, Option.map_none])
      refine hK _ ?_; (try clear hK K)
      refine AW.joinK (ι := List Chp × Int) (fun p => VolR (f0, rt, p.1) ∧ at_ ≤ p.2 ∧ p.2 ≤ at_ + 200) (fun p => ⟨107, [(0, .ptr 0 0), (4, .ptr 64 0), (5, .ptr 512 0)], (0, some (Stm l p.2)) :: (64, some (O.box 70 [I 0, B false, .nils])) :: (512, some (O.box 70 [I f0, B rt, .slr 1664 0 p.1.length])) :: (1664, some (O.vec 132 2 (rowsV chR 6400 p.1))) :: rowsH chR 6400 p.1, 400⟩) ?_ ?_
      · have hcl : cs.length ≤ 4 := by omega
        have hvr : ∀ x ∈ cs, x.1 ∈ TT ∧ x.2.length ≤ 7 := fun x hx => ⟨(h3 x hx).1, by have := (h3 x hx).2; omega⟩
        have hvs : ∀ g : Chp, g.1 ∈ TT → g.2.length ≤ 8 → VolR (f0, rt, cs.set j.toNat g) := fun g g1 g2 => ⟨hf0, by simpa using hcl, fun x hx => by
          rcases List.mem_or_eq_of_mem_set hx with hx | rfl
          · exact ⟨(hvr x hx).1, by have := (hvr x hx).2; omega⟩
          · exact ⟨g1, g2⟩⟩
        have hti : ti ∈ TT := by
          simp only [List.mem_cons, List.not_mem_nil, or_false] at ht5
          rcases ht5 with rfl | rfl <;> decide
        have hc7 := (hvr c hcm).2
        have hgj : (rowsV chR 6400 cs)[j.toNat]? = some (.agg [S c.1, rref (6400 + j.toNat) (c.2.map D.str)]) := by
          rw [rowsV_get, hc]; rfl
        have hgs : ∀ y : V, ((rowsV chR 6400 cs).set j.toNat y)[j.toNat]? = some y := fun y => List.getElem?_set_self (by rw [rowsV_len]; exact hjl)
        have hN0 : ∀ n : Nat, n ≤ 6399 → (n = 6400 + j.toNat) = False := fun n hn => by simp; omega
        have hN1 : ∀ n : Nat, 12800 ≤ n → (n = 6400 + j.toNat) = False := fun n hn => by simp; omega
        have hN2 : ∀ n : Nat, n ≤ 6399 → (6400 + j.toNat = n) = False := fun n hn => by simp; omega
        have hN3 : ∀ n : Nat, 12800 ≤ n → (6400 + j.toNat = n) = False := fun n hn => by simp; omega
        have htk : List.take c.2.length (dv (c.2.map D.str)) = dv (c.2.map D.str) := List.take_of_length_le (by simp [dv])
        by_cases hc0 : c.2 = []
        · have hrf : rref (6400 + j.toNat) (c.2.map D.str) = .nils := by rw [hc0]; rfl
          rw [hrf] at hgj
          repeat' (first | ((first | refine AW.sregD hmix rfl fun K hK => ?_ | refine AW.regD hmix rfl ?_ | refine runT_call _ _ [0] (fun hv hag => (hn1).objs [0] ⟨((hag 0 (by simp)).trans rfl), trivial⟩ rfl (by decide) (by simp [go_sem, renOs]) (by simp) (by simp) (by simp [go_sem]) (by simp [go_sem]) (by simp [go_sem]) (by simp [go_sem])) rfl rfl (dstOk_of rfl) rfl rfl ?_ | refine runT_call _ _ [0, 14144] (fun hv hag => (ho5).objs [0, 14144] ⟨((hag 0 (by simp)).trans rfl), ((hag 14144 (by simp)).trans rfl), trivial⟩ rfl (by decide) (by simp [go_sem, renOs]) (by simp) (by simp) (by simp [go_sem]) (by simp [go_sem]) (by simp [go_sem]) (by simp [go_sem])) rfl rfl (dstOk_of rfl) rfl rfl ?_ | refine runT_call _ _ [0, 14592] (fun hv hag => (ho6).objs [0, 14592] ⟨((hag 0 (by simp)).trans rfl), ((hag 14592 (by simp)).trans rfl), trivial⟩ rfl (by decide) (by simp [go_sem, renOs]) (by simp) (by simp) (by simp [go_sem]) (by simp [go_sem]) (by simp [go_sem]) (by simp [go_sem])) rfl rfl (dstOk_of rfl) rfl rfl ?_); simp only [go_sem, Nat.reduceAdd, Nat.reduceMul, Int.reduceToNat, Nat.reduceLT, Nat.reduceLeDiff, Nat.le_refl, Nat.reduceEqDiff, ↓reduceIte, beq_self_eq_true, bne_self_eq_false, Int.reduceBEq, Int.reduceBNe, or_self, true_or, or_true, Option.map_some, Option.map_none, List.length_map, rowsV_len, hgj, hgs, Nat.zero_add, List.set_set]) | (refine AW.skip ?_; simp only [Then, InBlock]) | (refine AW.cond rfl (fun h => ?_) (fun h => ?_) <;> (try simp only [decide_eq_true_eq, decide_eq_false_iff_not, Bool.not_eq_true', Bool.not_eq_false', Bool.not_eq_eq_eq_not, Bool.not_true, Bool.not_false, beq_iff_eq, bne_iff_ne, beq_eq_false_iff_ne, ne_eq, Bool.and_eq_true, Bool.or_eq_true, Bool.or_eq_false_iff] at h)) | (refine hK _ ?_; clear hK K) | (with_reducible refine And.intro (?_ : regOk _ _ = true) ?_; kernel_rfl) | (with_reducible refine And.intro ?_ ?_; first | omega | assumption | (focus (decide)) | (focus (simp; done)) | (focus (simp; omega)) | (focus (constructor <;> omega)) | fail))
          · exact ⟨(cs.set j.toNat (ti, [pp]), a + 1 + 1 + 1 + 1), ⟨hvs _ hti (by simp), by simp only; omega, by simp only; omega⟩, (by
              have hgl0 : (cs).length ≤ 60 := by omega
              obtain ⟨F, hF⟩ : ∃ F : Nat → Nat, F = sw2 1664 1664 (6400 + j.toNat) 14784 := ⟨_, rfl⟩
              have w0 : F 0 = 0 := by rw [hF]; exact sw2_o (by omega) (by omega) (by omega) (by omega)
              have w64 : F 64 = 64 := by rw [hF]; exact sw2_o (by omega) (by omega) (by omega) (by omega)
              have w512 : F 512 = 512 := by rw [hF]; exact sw2_o (by omega) (by omega) (by omega) (by omega)
              have ws : F 1664 = 1664 := by rw [hF]; exact sw2_a (by omega) (by omega)
              have wj : F (6400 + j.toNat) = 14784 := by rw [hF]; exact sw2_c (by omega) (by omega)
              have wo : ∀ q, q < (cs).length → q ≠ j.toNat → F (6400 + q) = 6400 + q := fun q hq hne => by rw [hF]; exact sw2_o (by omega) (by omega) (by omega) (by omega)
              have hsp : ∀ hv, frzL hv (fun _ => true) ((rowsV chR 6400 cs).set j.toNat (.agg [S ti, .slr 14784 0 1])) = renL F (rowsV chR 6400 ((cs).set j.toNat (ti, [pp]))) := sp_set chR_ok (g := (ti, [pp])) (hjl) wj wo (by simp [chR]) (by simp [chR])
              have hbl : belL (64 * 400) (rowsV chR 6400 ((cs).set j.toNat (ti, [pp]))) = true := belL_rowsV chR_ok _ _ (by (try simp only [List.length_append, List.length_cons, List.length_nil, List.length_set] at hgl0 ⊢); omega)
              (try simp at hbl hsp)
              exact Weak.rowsH (R := chR) hcx F 6400 _ [_, _, _, _] rfl rfl (fun q hq => by first | exact absurd hq (Nat.not_lt_zero _) | (obtain rfl : q = 0 := (by simp only [List.length_cons, List.length_nil] at hq; omega); exact w0)) (by simp) (by simp [go_sem, frz, ws, w0, w64, w512]) (by simp [go_sem, ws, w0, w64, w512, hsp, hbl]) (fun q zz hq hx => by
                  have hql : q < (cs).length := by have := get_lt hq; rwa [List.length_set] at this
                  refine ⟨by (try simp only [List.length_append, List.length_cons, List.length_nil] at hgl0 hql ⊢); omega, ?_⟩
                  by_cases h : j.toNat = q
                  · subst h
                    rw [List.getElem?_set_self hql] at hq
                    have hxe : zz = (ti, [pp]) := (Option.some.inj hq).symm
                    subst hxe
                    rw [wj]
                    simp [St.hv, lk, chR, dv]
                  · rw [List.getElem?_set_ne h] at hq
                    rw [wo q hql (Ne.symm h)]
                    repeat (refine (hv_skip (by omega)).trans ?_)
                    exact hv_rowsE hq hx) (fun q hq => by first | exact absurd hq (Nat.not_lt_zero _) | (obtain rfl : q = 0 := (by simp only [List.length_cons, List.length_nil] at hq; omega); exact ⟨_, List.mem_cons_self⟩)) (by rw [hF]; exact sw2_inj _ _ _ _))⟩
          · exact ⟨(cs, a + 1), ⟨⟨hf0, hcl, fun x hx => ⟨(hvr x hx).1, by have := (hvr x hx).2; omega⟩⟩, by simp only; omega, by simp only; omega⟩, (by
              have hgl0 : (cs).length ≤ 60 := by omega
              obtain ⟨F, hF⟩ : ∃ F : Nat → Nat, F = sw2 1664 1664 1664 1664 := ⟨_, rfl⟩
              have w0 : F 0 = 0 := by rw [hF]; exact sw2_o (by omega) (by omega) (by omega) (by omega)
              have w64 : F 64 = 64 := by rw [hF]; exact sw2_o (by omega) (by omega) (by omega) (by omega)
              have w512 : F 512 = 512 := by rw [hF]; exact sw2_o (by omega) (by omega) (by omega) (by omega)
              have ws : F 1664 = 1664 := by rw [hF]; simp [sw2, swpN]
              have wo : ∀ q, q < (cs).length → F (6400 + q) = 6400 + q := fun q hq => by rw [hF]; exact sw2_o (by omega) (by omega) (by omega) (by omega)
              have hsp : ∀ hv, frzL hv (fun _ => true) (rowsV chR 6400 cs) = renL F (rowsV chR 6400 (cs)) := sp_id chR_ok wo
              have hbl : belL (64 * 400) (rowsV chR 6400 (cs)) = true := belL_rowsV chR_ok _ _ (by (try simp only [List.length_append, List.length_cons, List.length_nil, List.length_set] at hgl0 ⊢); omega)
              (try simp at hbl hsp)
              exact Weak.rowsH (R := chR) hcx F 6400 _ [_, _, _, _] rfl rfl (fun q hq => by first | exact absurd hq (Nat.not_lt_zero _) | (obtain rfl : q = 0 := (by simp only [List.length_cons, List.length_nil] at hq; omega); exact w0)) (by simp) (by simp [go_sem, frz, ws, w0, w64, w512]) (by simp [go_sem, ws, w0, w64, w512, hsp, hbl]) (fun q zz hq hx => by
                  have hql : q < (cs).length := get_lt hq
                  refine ⟨by (try simp only [List.length_append, List.length_cons, List.length_nil] at hgl0 hql ⊢); omega, ?_⟩
                  rw [wo q hql]
                  repeat (refine (hv_skip (by omega)).trans ?_)
                  exact hv_rowsE hq hx) (fun q hq => by first | exact absurd hq (Nat.not_lt_zero _) | (obtain rfl : q = 0 := (by simp only [List.length_cons, List.length_nil] at hq; omega); exact ⟨_, List.mem_cons_self⟩)) (by rw [hF]; exact sw2_inj _ _ _ _))⟩
        · have hrf : rref (6400 + j.toNat) (c.2.map D.str) = .slr (6400 + j.toNat) 0 c.2.length := by rw [rref_pos (by simpa using hc0), List.length_map]
          rw [hrf] at hgj
          have hlk : lk (rowsH chR 6400 cs) (6400 + j.toNat) = some (some (.vec 9 1 (dv (c.2.map D.str)))) := rowsH_lk chR hc (by simpa [chR] using hc0)
          repeat' (first | ((first | refine AW.sregD hmix rfl fun K hK => ?_ | refine AW.regD hmix rfl ?_ | refine runT_call _ _ [0] (fun hv hag => (hn1).objs [0] ⟨((hag 0 (by simp)).trans rfl), trivial⟩ rfl (by decide) (by simp [go_sem, renOs]) (by simp) (by simp) (by simp [go_sem]) (by simp [go_sem]) (by simp [go_sem]) (by simp [go_sem])) rfl rfl (dstOk_of rfl) rfl rfl ?_ | refine runT_call _ _ [0, 14144] (fun hv hag => (ho5).objs [0, 14144] ⟨((hag 0 (by simp)).trans rfl), ((hag 14144 (by simp)).trans rfl), trivial⟩ rfl (by decide) (by simp [go_sem, renOs]) (by simp) (by simp) (by simp [go_sem]) (by simp [go_sem]) (by simp [go_sem]) (by simp [go_sem])) rfl rfl (dstOk_of rfl) rfl rfl ?_ | refine runT_call _ _ [0, 14592] (fun hv hag => (ho6).objs [0, 14592] ⟨((hag 0 (by simp)).trans rfl), ((hag 14592 (by simp)).trans rfl), trivial⟩ rfl (by decide) (by simp [go_sem, renOs]) (by simp) (by simp) (by simp [go_sem]) (by simp [go_sem]) (by simp [go_sem]) (by simp [go_sem])) rfl rfl (dstOk_of rfl) rfl rfl ?_); simp only [go_sem, Nat.reduceAdd, Nat.reduceMul, Int.reduceToNat, Nat.reduceLT, Nat.reduceLeDiff, Nat.le_refl, Nat.reduceEqDiff, ↓reduceIte, beq_self_eq_true, bne_self_eq_false, Int.reduceBEq, Int.reduceBNe, or_self, true_or, or_true, Option.map_some, Option.map_none, List.length_map, rowsV_len, hgj, hgs, hlk, htk, hN0, hN1, hN2, hN3, dv_length, Nat.zero_add, List.set_set]) | (refine AW.skip ?_; simp only [Then, InBlock]) | (refine AW.cond rfl (fun h => ?_) (fun h => ?_) <;> (try simp only [decide_eq_true_eq, decide_eq_false_iff_not, Bool.not_eq_true', Bool.not_eq_false', Bool.not_eq_eq_eq_not, Bool.not_true, Bool.not_false, beq_iff_eq, bne_iff_ne, beq_eq_false_iff_ne, ne_eq, Bool.and_eq_true, Bool.or_eq_true, Bool.or_eq_false_iff] at h)) | (refine hK _ ?_; clear hK K) | (with_reducible refine And.intro (?_ : regOk _ _ = true) ?_; exact regOk_swap (by kernel_rfl)) | (with_reducible refine And.intro ?_ ?_; first | omega | assumption | (focus (decide)) | (focus (simp; done)) | (focus (simp; omega)) | (focus (constructor <;> omega)) | fail))
          · exact ⟨(cs.set j.toNat (ti, c.2 ++ [pp]), a + 1 + 1 + 1 + 1), ⟨hvs _ hti (by simp; omega), by simp only; omega, by simp only; omega⟩, (by
              have hgl0 : (cs).length ≤ 60 := by omega
              obtain ⟨F, hF⟩ : ∃ F : Nat → Nat, F = sw2 1664 1664 (6400 + j.toNat) 14784 := ⟨_, rfl⟩
              have w0 : F 0 = 0 := by rw [hF]; exact sw2_o (by omega) (by omega) (by omega) (by omega)
              have w64 : F 64 = 64 := by rw [hF]; exact sw2_o (by omega) (by omega) (by omega) (by omega)
              have w512 : F 512 = 512 := by rw [hF]; exact sw2_o (by omega) (by omega) (by omega) (by omega)
              have ws : F 1664 = 1664 := by rw [hF]; exact sw2_a (by omega) (by omega)
              have wj : F (6400 + j.toNat) = 14784 := by rw [hF]; exact sw2_c (by omega) (by omega)
              have wo : ∀ q, q < (cs).length → q ≠ j.toNat → F (6400 + q) = 6400 + q := fun q hq hne => by rw [hF]; exact sw2_o (by omega) (by omega) (by omega) (by omega)
              have hsp : ∀ hv, frzL hv (fun _ => true) ((rowsV chR 6400 cs).set j.toNat (.agg [S ti, .slr 14784 0 (c.2.length + 1)])) = renL F (rowsV chR 6400 ((cs).set j.toNat (ti, c.2 ++ [pp]))) := sp_set chR_ok (g := (ti, c.2 ++ [pp])) (hjl) wj wo (by simp [chR]) (by simp [chR])
              have hbl : belL (64 * 400) (rowsV chR 6400 ((cs).set j.toNat (ti, c.2 ++ [pp]))) = true := belL_rowsV chR_ok _ _ (by (try simp only [List.length_append, List.length_cons, List.length_nil, List.length_set] at hgl0 ⊢); omega)
              (try simp at hbl hsp)
              exact Weak.rowsH (R := chR) hcx F 6400 _ [_, _, _, _] rfl rfl (fun q hq => by first | exact absurd hq (Nat.not_lt_zero _) | (obtain rfl : q = 0 := (by simp only [List.length_cons, List.length_nil] at hq; omega); exact w0)) (by simp) (by simp [go_sem, frz, ws, w0, w64, w512]) (by simp [go_sem, ws, w0, w64, w512, hsp, hbl, hN2, hN3]) (fun q zz hq hx => by
                  have hql : q < (cs).length := by have := get_lt hq; rwa [List.length_set] at this
                  refine ⟨by (try simp only [List.length_append, List.length_cons, List.length_nil] at hgl0 hql ⊢); omega, ?_⟩
                  by_cases h : j.toNat = q
                  · subst h
                    rw [List.getElem?_set_self hql] at hq
                    have hxe : zz = (ti, c.2 ++ [pp]) := (Option.some.inj hq).symm
                    subst hxe
                    rw [wj]
                    simp [St.hv, lk, chR, dv, hN2, hN3]
                  · rw [List.getElem?_set_ne h] at hq
                    rw [wo q hql (Ne.symm h)]
                    repeat (refine (hv_skip (by omega)).trans ?_)
                    exact hv_rowsE hq hx) (fun q hq => by first | exact absurd hq (Nat.not_lt_zero _) | (obtain rfl : q = 0 := (by simp only [List.length_cons, List.length_nil] at hq; omega); exact ⟨_, List.mem_cons_self⟩)) (by rw [hF]; exact sw2_inj _ _ _ _))⟩
          · exact ⟨(cs, a + 1), ⟨⟨hf0, hcl, fun x hx => ⟨(hvr x hx).1, by have := (hvr x hx).2; omega⟩⟩, by simp only; omega, by simp only; omega⟩, (by
              have hgl0 : (cs).length ≤ 60 := by omega
              obtain ⟨F, hF⟩ : ∃ F : Nat → Nat, F = sw2 1664 1664 1664 1664 := ⟨_, rfl⟩
              have w0 : F 0 = 0 := by rw [hF]; exact sw2_o (by omega) (by omega) (by omega) (by omega)
              have w64 : F 64 = 64 := by rw [hF]; exact sw2_o (by omega) (by omega) (by omega) (by omega)
              have w512 : F 512 = 512 := by rw [hF]; exact sw2_o (by omega) (by omega) (by omega) (by omega)
              have ws : F 1664 = 1664 := by rw [hF]; simp [sw2, swpN]
              have wo : ∀ q, q < (cs).length → F (6400 + q) = 6400 + q := fun q hq => by rw [hF]; exact sw2_o (by omega) (by omega) (by omega) (by omega)
              have hsp : ∀ hv, frzL hv (fun _ => true) (rowsV chR 6400 cs) = renL F (rowsV chR 6400 (cs)) := sp_id chR_ok wo
              have hbl : belL (64 * 400) (rowsV chR 6400 (cs)) = true := belL_rowsV chR_ok _ _ (by (try simp only [List.length_append, List.length_cons, List.length_nil, List.length_set] at hgl0 ⊢); omega)
              (try simp at hbl hsp)
              exact Weak.rowsH (R := chR) hcx F 6400 _ [_, _, _, _] rfl rfl (fun q hq => by first | exact absurd hq (Nat.not_lt_zero _) | (obtain rfl : q = 0 := (by simp only [List.length_cons, List.length_nil] at hq; omega); exact w0)) (by simp) (by simp [go_sem, frz, ws, w0, w64, w512]) (by simp [go_sem, ws, w0, w64, w512, hsp, hbl]) (fun q zz hq hx => by
                  have hql : q < (cs).length := get_lt hq
                  refine ⟨by (try simp only [List.length_append, List.length_cons, List.length_nil] at hgl0 hql ⊢); omega, ?_⟩
                  rw [wo q hql]
                  repeat (refine (hv_skip (by omega)).trans ?_)
                  exact hv_rowsE hq hx) (fun q hq => by first | exact absurd hq (Nat.not_lt_zero _) | (obtain rfl : q = 0 := (by simp only [List.length_cons, List.length_nil] at hq; omega); exact ⟨_, List.mem_cons_self⟩)) (by rw [hF]; exact sw2_inj _ _ _ _))⟩
      · rintro s2 ⟨cs2, a2⟩ ⟨hv2, ha2, ha3⟩ hw2
        dsimp only at hv2 ha2 ha3 hw2
        refine hK s2 (AW.weak hw2 ?_)
        clear hw2 hK K
        repeat' (first | (refine AW.sreg rfl fun K hK => ?_; simp only [go_sem, Nat.reduceAdd, Nat.reduceMul, Int.reduceToNat, Nat.reduceLT, Nat.reduceLeDiff, Nat.le_refl, Nat.reduceEqDiff, ↓reduceIte, beq_self_eq_true, bne_self_eq_false, Int.reduceBEq, Int.reduceBNe, or_self, true_or, or_true, Option.map_some, Option.map_none]) | (refine hK _ ?_; clear hK K))
        have hvq : ∀ q g, cs2[q]? = some g → chR.row g ≠ [] → St.hv ⟨107, [(106, V.agg [I f0, B rt, V.slr 1664 0 cs2.length]), (0, V.ptr 0 0), (4, V.ptr 64 0), (5, V.ptr 512 0)], (64, some (O.box 70 [I f0, B rt, V.slr 1664 0 cs2.length])) :: (0, some (Stm l a2)) :: (64, some (O.box 70 [I 0, B false, V.nils])) :: (512, some (O.box 70 [I f0, B rt, V.slr 1664 0 cs2.length])) :: (1664, some (O.vec 132 2 (rowsV chR 6400 cs2))) :: rowsH chR 6400 cs2, 402⟩ (6400 + q) = some (.vec chR.e chR.s (dv (chR.row g))) := fun q g hq hg => by
          repeat (refine (hv_skip (by omega)).trans ?_)
          exact hv_rowsE hq hg
        exact AW.ret ⟨((f0, rt, cs2), a2), ⟨hv2, ha2, ha3⟩, Fin.one rfl (frz_vol rfl rfl (fun q g hq hg => ⟨by first | exact beq_big q | exact blt_big q, hvq q g hq hg⟩)) ⟨_, rfl, by simp [go_sem]⟩ rfl rfl rfl⟩
    · obtain rfl : cs = [] := List.length_eq_zero_iff.1 hne
      repeat' (first | (refine AW.sreg rfl fun K hK => ?_; simp only [go_sem, Nat.reduceAdd, Nat.reduceMul, Int.reduceToNat, Nat.reduceLT, Nat.reduceLeDiff, Nat.le_refl, Nat.reduceEqDiff, ↓reduceIte, beq_self_eq_true, bne_self_eq_false, Int.reduceBEq, Int.reduceBNe, or_self, true_or, or_true, Option.map_some, Option.map_none, List.length_nil]) | (refine AW.seq_k fun K hK => ?_) | (refine AW.skip ?_; simp only [Then, InBlock]) | (refine AW.exit ?_; simp only [go_sem, ↓reduceIte]) | (refine AW.condF rfl (by first | rfl | (simp; omega) | (simp [*]; done) | fail) ?_) | (refine hK _ ?_; clear hK K) | (clear hK K; refine hK _ ?_; clear hK K) | (refine stepB_split (fun h => ?_) (fun h => ?_) <;> (have hb0 := h) <;> (try simp only [Bool.not_eq_true', Bool.not_eq_false'] at hb0) <;> (try simp only [decide_eq_true_eq, decide_eq_false_iff_not, Bool.not_eq_true', Bool.not_eq_false', Bool.not_eq_eq_eq_not, Bool.not_true, Bool.not_false, beq_iff_eq, bne_iff_ne, beq_eq_false_iff_ne, ne_eq, Bool.and_eq_true, Bool.or_eq_true, Bool.or_eq_false_iff] at h) <;> simp only [go_sem, Nat.reduceAdd, Nat.reduceMul, Int.reduceToNat, Nat.reduceLT, Nat.reduceLeDiff, Nat.le_refl, Nat.reduceEqDiff, ↓reduceIte, beq_self_eq_true, bne_self_eq_false, Int.reduceBEq, Int.reduceBNe, or_self, true_or, or_true, Option.map_some, Option.map_none, hb0, h, decide_true, decide_false, List.length_nil] <;> (try clear hb0)) | (exfalso; omega))
      exact AW.ret ⟨((f0, rt, []), a), ⟨⟨hf0, by simp, by simp⟩, by simp only; omega, by simp only; omega⟩, Fin.one rfl (frz_vol (cs := []) rfl rfl (by simp)) ⟨_, rfl, by simp [go_sem]⟩ rfl rfl rfl⟩
end Go.AX

namespace Go.AX
open Go Go.Proofs Go.RowKit
theorem final_in {fs : List Fi} (h : FinsF fs) (p : Str) (hp : p ∈ fs.map (·.1)) : ∃ m : Nat, fs[m]? = some (finAt fs p) ∧ Does Tryz.prog 61 [.d (.sl (fs.map fiD)), S p] [] (.tup [I m, B true]) [] := by
  obtain ⟨m, h1, h2⟩ := final_any fs (by have := fins_len h; omega) (risF_of h.1) p
  refine ⟨m, ?_, by rwa [decide_eq_true hp] at h2⟩
  obtain ⟨a, b⟩ := finAt_mem hp
  obtain ⟨i, hi⟩ := List.getElem?_of_mem a
  have := h1 i _ hi b
  rw [← this]; exact hi
theorem final_out {fs : List Fi} (h : FinsF fs) (p : Str) (hp : p ∉ fs.map (·.1)) : ∃ m : Nat, Does Tryz.prog 61 [.d (.sl (fs.map fiD)), S p] [] (.tup [I m, B false]) [] := by
  obtain ⟨m, h1, h2⟩ := final_any fs (by have := fins_len h; omega) (risF_of h.1) p
  exact ⟨m, by rwa [decide_eq_false hp] at h2⟩
theorem psV_drop {cs : List Chp} {i : Nat} {c : Chp} (h : cs[i]? = some c) : psV (cs.drop i) = c.2 ++ psV (cs.drop (i + 1)) := by
  have hl : i < cs.length := (List.getElem?_eq_some_iff.1 h).1
  obtain ⟨x, hx, -, hd⟩ := get_some hl
  rw [h] at hx; cases hx
  rw [hd]; simp [psV]
theorem psV_take {cs : List Chp} {i : Nat} {c : Chp} (h : cs[i]? = some c) : psV (cs.take (i + 1)) = psV (cs.take i) ++ c.2 := by
  rw [List.take_add_one, h]; simp [psV]
theorem leaves_any {fs : List Fi} (h : FinsF fs) (g0 : Int) (rt : Bool) (cs : List Chp) (hg : 1 ≤ g0 ∧ g0 ≤ 5000) (hin : ∀ p ∈ psV cs, p ∈ fs.map (·.1)) (hl4 : (psV cs).length ≤ 4) (hcl : cs.length ≤ 1000) :
    Does Tryz.prog 60 [.d (voD (g0, rt, cs)), .d (.sl (fs.map fiD))] [] (.d (.sl ((lvs rt fs (psV cs) g0).map leD))) [] := by
  have hl := fins_len h
  refine Does.of_AW (n := 68) Tryz.func60 rfl rfl rfl fun cx hcx => ?_
  generalize hR : lvs rt fs (psV cs) g0 = R
  have hRl : R.length ≤ 4 := by rw [← hR, lvs_len]; exact hl4
  repeat' (first | (refine AW.sreg rfl fun K hK => ?_; simp only [go_sem, Nat.reduceAdd, Nat.reduceMul, Int.reduceToNat, Nat.reduceLT, Nat.reduceLeDiff, Nat.le_refl, Nat.reduceEqDiff, ↓reduceIte, beq_self_eq_true, bne_self_eq_false, Int.reduceBEq, Int.reduceBNe, or_self, true_or, or_true, Option.map_some, Option.map_none, List.length_map]) | (refine AW.seq_k fun K hK => ?_) | (refine AW.block ?_) | (refine hK _ ?_; clear hK K))
  refine AW.weak (Weak.nil 5 80 3 rfl) ?_
  refine AW.loopF (ι := Nat × List Lea × Int) [1, 2, 16, 17] (fun p => [(5, .slr 320 0 p.2.1.length), (6, I p.2.2), (18, I p.1)]) (fun p => [(0, some (O.box 70 [I g0, B rt, .d (.sl (cs.map chD))])), (320, some (O.vec 80 3 (dv (p.2.1.map leD))))]) 10 (fun p => p.1 ≤ cs.length ∧ p.2.1 ++ lvs rt fs (psV (cs.drop p.1)) p.2.2 = R ∧ 1 ≤ p.2.2 ∧ p.2.2 ≤ 5000 + 101 * p.2.1.length) (fun p => cs.length - p.1) (0, [], g0) ⟨Nat.zero_le _, by simpa using hR, hg.1, by simp; omega⟩ (Weak.auto hcx rfl rfl (Nat.le_of_ble_eq_true rfl) (by simp [go_sem, gL, kL, renOf, V.obj, lk, Nat.blt, Nat.ble, List.map_append, dv_push]) (by simp [go_sem, gL, kL, renOf, V.obj, lk, Nat.blt, Nat.ble, List.map_append, dv_push]) (by first | exact pk0 | exact pk1 ⟨_, rfl⟩ | exact pk2 ⟨_, rfl⟩ ⟨_, rfl⟩ | exact pk3 ⟨_, rfl⟩ ⟨_, rfl⟩ ⟨_, rfl⟩ | exact pk4 ⟨_, rfl⟩ ⟨_, rfl⟩ ⟨_, rfl⟩ ⟨_, rfl⟩) (by simp [go_sem, gL, kL, lk, renOf, V.obj, Nat.blt, Nat.ble])) ?_; simp only [St.at_nil, St.at_cons, lk, Nat.reduceEqDiff, ↓reduceIte, Option.getD_some, Option.getD_none, List.cons_append, List.nil_append, List.append_nil]
  rintro ⟨i, out, page⟩ ⟨h1, h2, h3, h4⟩
  simp only at h1 h2 h3 h4 ⊢
  by_cases hi : i < cs.length
  · obtain ⟨c, hc, hcm, hcd⟩ := get_some hi
    have hget : (cs.map chD)[i]? = some (chD c) := by simp [hc]
    rw [psV_drop hc] at h2
    have hc2 : c.2.length ≤ 4 := by
      have : (psV cs).length = (psV (cs.take i)).length + (psV (cs.drop i)).length := by
        rw [← List.length_append]
        congr 1
        unfold psV
        rw [← List.flatMap_append, List.take_append_drop]
      rw [psV_drop hc, List.length_append] at this
      omega
    have hcin : ∀ p ∈ c.2, p ∈ fs.map (·.1) := fun p hp => hin p (List.mem_flatMap.2 ⟨c, hcm, hp⟩)
    repeat' (first | (refine AW.sreg rfl fun K hK => ?_; simp only [go_sem, Nat.reduceAdd, Nat.reduceMul, Int.reduceToNat, Nat.reduceLT, Nat.reduceLeDiff, Nat.le_refl, Nat.reduceEqDiff, ↓reduceIte, beq_self_eq_true, bne_self_eq_false, Int.reduceBEq, Int.reduceBNe, or_self, true_or, or_true, Option.map_some, Option.map_none, List.length_map, hget]) | (refine AW.seq_k fun K hK => ?_) | (refine AW.block ?_) | (refine AW.skip ?_; simp only [Then, InBlock]) | (refine AW.condT rfl (by first | rfl | (simp; omega) | (simp [*]; done) | fail) ?_) | (refine hK _ ?_; clear hK K) | (with_reducible refine And.intro ?_ ?_; first | omega | assumption | (focus (decide)) | (focus (simp; done)) | (focus (simp; omega)) | (focus (constructor <;> omega)) | fail))
    refine AW.loopF (ι := Nat × List Lea × Int) [1, 2, 16, 17, 18, 23, 24] (fun p => [(5, .slr 320 0 p.2.1.length), (6, I p.2.2), (25, I p.1)]) (fun p => [(0, some (O.box 70 [I g0, B rt, .d (.sl (cs.map chD))])), (320, some (O.vec 80 3 (dv (p.2.1.map leD))))]) 20 (fun p => p.1 ≤ c.2.length ∧ p.2.1 ++ lvs rt fs (c.2.drop p.1 ++ psV (cs.drop (i + 1))) p.2.2 = R ∧ 1 ≤ p.2.2 ∧ p.2.2 ≤ 5000 + 101 * p.2.1.length) (fun p => c.2.length - p.1) (0, out, page) ⟨Nat.zero_le _, h2, h3, h4⟩ (Weak.auto hcx rfl rfl (Nat.le_of_ble_eq_true rfl) (by simp [go_sem, gL, kL, renOf, V.obj, lk, Nat.blt, Nat.ble, List.map_append, dv_push]) (by simp [go_sem, gL, kL, renOf, V.obj, lk, Nat.blt, Nat.ble, List.map_append, dv_push]) (by first | exact pk0 | exact pk1 ⟨_, rfl⟩ | exact pk2 ⟨_, rfl⟩ ⟨_, rfl⟩ | exact pk3 ⟨_, rfl⟩ ⟨_, rfl⟩ ⟨_, rfl⟩ | exact pk4 ⟨_, rfl⟩ ⟨_, rfl⟩ ⟨_, rfl⟩ ⟨_, rfl⟩) (by simp [go_sem, gL, kL, lk, renOf, V.obj, Nat.blt, Nat.ble])) ?_; simp only [St.at_nil, St.at_cons, lk, Nat.reduceEqDiff, ↓reduceIte, Option.getD_some, Option.getD_none, List.cons_append, List.nil_append, List.append_nil]
    rintro ⟨k, o2, pg⟩ ⟨g1, g2, g3, g4⟩
    simp only at g1 g2 g3 g4 ⊢
    have ho : o2.length ≤ 4 := by
      have := congrArg List.length g2
      rw [List.length_append] at this
      omega
    by_cases hk : k < c.2.length
    · obtain ⟨q, hq, hqm, hqd⟩ := get_some hk
      have hgetq : (c.2.map D.str)[k]? = some (.str q) := by simp [hq]
      obtain ⟨m, hm, hfin⟩ := final_in h q (hcin q hqm)
      have hgetm : (fs.map fiD)[m]? = some (fiD (finAt fs q)) := by simp [hm]
      have hpg := pages_in _ (h.2 _ (List.mem_of_getElem? hm)).2.2.1
      have hpr := pgR_le rt pg
      have htl : List.take o2.length (dv (o2.map leD)) = dv (o2.map leD) := List.take_of_length_le (by simp [dv])
      rw [hqd, List.cons_append, lvs] at g2
      have hnx : pgN rt fs q pg = pgR rt pg + (finAt fs q).2.2.1 := rfl
      rw [hnx] at g2
      have hpe : (rt = true ∧ pg.tmod 2 = 0 ∧ pgR rt pg = pg + 1) ∨ (rt = false ∧ pgR rt pg = pg) ∨ (rt = true ∧ pg.tmod 2 ≠ 0 ∧ pgR rt pg = pg) := by
        unfold pgR
        cases rt
        · exact .inr (.inl ⟨rfl, by simp⟩)
        · by_cases hh : pg.tmod 2 = 0
          · exact .inl ⟨rfl, hh, by simp [hh]⟩
          · exact .inr (.inr ⟨rfl, hh, by simp [hh]⟩)
      generalize finAt fs q = f at *
      have hdone : ∀ z : Int, pgR rt pg = z → (o2 ++ [(q, z, z + f.2.2.1 - 1)]) ++ lvs rt fs (c.2.drop (k + 1) ++ psV (cs.drop (i + 1))) (z + f.2.2.1) = R := by
        intro z hz
        rw [← hz, ← g2]; simp
      rcases hpe with ⟨rfl, e2, e3⟩ | ⟨rfl, e3⟩ | ⟨rfl, e2, e3⟩
      · repeat' (first | ((first | refine AW.sreg rfl fun K hK => ?_ | refine AW.reg rfl ?_ | refine run_call _ _ _ ((hfin).pure rfl rfl _ _) rfl rfl (dstOk_of rfl) rfl rfl rfl ?_); simp only [go_sem, Nat.reduceAdd, Nat.reduceMul, Int.reduceToNat, Nat.reduceLT, Nat.reduceLeDiff, Nat.le_refl, Nat.reduceEqDiff, ↓reduceIte, beq_self_eq_true, bne_self_eq_false, Int.reduceBEq, Int.reduceBNe, or_self, true_or, or_true, Option.map_some, Option.map_none, List.length_map, hgetq, hgetm, htl, e2, Int.toNat_natCast, Bool.true_and]) | (refine AW.seq_k fun K hK => ?_) | (refine AW.block ?_) | (refine AW.skip ?_; simp only [Then, InBlock]) | (refine AW.condT rfl (by first | rfl | (simp; omega) | (simp [*]; done) | fail) ?_) | (refine hK _ ?_; clear hK K) | (with_reducible refine And.intro ?_ ?_; first | omega | assumption | (focus (decide)) | (focus (simp; done)) | (focus (simp; omega)) | (focus (constructor <;> omega)) | fail))
        all_goals first | (exfalso; omega) | exact ⟨(k + 1, o2 ++ [(q, pg + 1, pg + 1 + f.2.2.1 - 1)], pg + 1 + f.2.2.1), ⟨hk, hdone _ e3, by simp only; omega, by simp only [List.length_append, List.length_cons, List.length_nil]; omega⟩, by simp only; omega, (Weak.auto hcx rfl rfl (Nat.le_of_ble_eq_true rfl) (by simp [go_sem, gL, kL, renOf, V.obj, lk, Nat.blt, Nat.ble, List.map_append, dv_push, leD]) (by simp [go_sem, gL, kL, renOf, V.obj, lk, Nat.blt, Nat.ble, List.map_append, dv_push, leD]) (by first | exact pk0 | exact pk1 ⟨_, rfl⟩ | exact pk2 ⟨_, rfl⟩ ⟨_, rfl⟩ | exact pk3 ⟨_, rfl⟩ ⟨_, rfl⟩ ⟨_, rfl⟩ | exact pk4 ⟨_, rfl⟩ ⟨_, rfl⟩ ⟨_, rfl⟩ ⟨_, rfl⟩) (by simp [go_sem, gL, kL, lk, renOf, V.obj, Nat.blt, Nat.ble, leD]))⟩ | trace_state
      · repeat' (first | ((first | refine AW.sreg rfl fun K hK => ?_ | refine AW.reg rfl ?_ | refine run_call _ _ _ ((hfin).pure rfl rfl _ _) rfl rfl (dstOk_of rfl) rfl rfl rfl ?_); simp only [go_sem, Nat.reduceAdd, Nat.reduceMul, Int.reduceToNat, Nat.reduceLT, Nat.reduceLeDiff, Nat.le_refl, Nat.reduceEqDiff, ↓reduceIte, beq_self_eq_true, bne_self_eq_false, Int.reduceBEq, Int.reduceBNe, or_self, true_or, or_true, Option.map_some, Option.map_none, List.length_map, hgetq, hgetm, htl, Int.toNat_natCast]) | (refine AW.seq_k fun K hK => ?_) | (refine AW.block ?_) | (refine AW.skip ?_; simp only [Then, InBlock]) | (refine AW.condT rfl (by first | rfl | (simp; omega) | (simp [*]; done) | fail) ?_) | (refine AW.condF rfl (by first | rfl | (simp; omega) | (simp [*]; done) | fail) ?_) | (refine hK _ ?_; clear hK K) | (with_reducible refine And.intro ?_ ?_; first | omega | assumption | (focus (decide)) | (focus (simp; done)) | (focus (simp; omega)) | (focus (constructor <;> omega)) | fail))
        all_goals first | (exfalso; omega) | exact ⟨(k + 1, o2 ++ [(q, pg, pg + f.2.2.1 - 1)], pg + f.2.2.1), ⟨hk, hdone _ e3, by simp only; omega, by simp only [List.length_append, List.length_cons, List.length_nil]; omega⟩, by simp only; omega, (Weak.auto hcx rfl rfl (Nat.le_of_ble_eq_true rfl) (by simp [go_sem, gL, kL, renOf, V.obj, lk, Nat.blt, Nat.ble, List.map_append, dv_push, leD]) (by simp [go_sem, gL, kL, renOf, V.obj, lk, Nat.blt, Nat.ble, List.map_append, dv_push, leD]) (by first | exact pk0 | exact pk1 ⟨_, rfl⟩ | exact pk2 ⟨_, rfl⟩ ⟨_, rfl⟩ | exact pk3 ⟨_, rfl⟩ ⟨_, rfl⟩ ⟨_, rfl⟩ | exact pk4 ⟨_, rfl⟩ ⟨_, rfl⟩ ⟨_, rfl⟩ ⟨_, rfl⟩) (by simp [go_sem, gL, kL, lk, renOf, V.obj, Nat.blt, Nat.ble, leD]))⟩ | trace_state
      · repeat' (first | ((first | refine AW.sreg rfl fun K hK => ?_ | refine AW.reg rfl ?_ | refine run_call _ _ _ ((hfin).pure rfl rfl _ _) rfl rfl (dstOk_of rfl) rfl rfl rfl ?_); simp only [go_sem, Nat.reduceAdd, Nat.reduceMul, Int.reduceToNat, Nat.reduceLT, Nat.reduceLeDiff, Nat.le_refl, Nat.reduceEqDiff, ↓reduceIte, beq_self_eq_true, bne_self_eq_false, Int.reduceBEq, Int.reduceBNe, or_self, true_or, or_true, Option.map_some, Option.map_none, List.length_map, hgetq, hgetm, htl, e2, Int.toNat_natCast, Bool.true_and]) | (refine AW.seq_k fun K hK => ?_) | (refine AW.block ?_) | (refine AW.skip ?_; simp only [Then, InBlock]) | (refine AW.condT rfl (by first | rfl | (simp; omega) | (simp [*]; done) | fail) ?_) | (refine AW.condF rfl (by first | rfl | (simp; omega) | (simp [*]; done) | fail) ?_) | (refine hK _ ?_; clear hK K) | (with_reducible refine And.intro ?_ ?_; first | omega | assumption | (focus (decide)) | (focus (simp; done)) | (focus (simp; omega)) | (focus (constructor <;> omega)) | fail))
        all_goals first | (exfalso; omega) | exact ⟨(k + 1, o2 ++ [(q, pg, pg + f.2.2.1 - 1)], pg + f.2.2.1), ⟨hk, hdone _ e3, by simp only; omega, by simp only [List.length_append, List.length_cons, List.length_nil]; omega⟩, by simp only; omega, (Weak.auto hcx rfl rfl (Nat.le_of_ble_eq_true rfl) (by simp [go_sem, gL, kL, renOf, V.obj, lk, Nat.blt, Nat.ble, List.map_append, dv_push, leD]) (by simp [go_sem, gL, kL, renOf, V.obj, lk, Nat.blt, Nat.ble, List.map_append, dv_push, leD]) (by first | exact pk0 | exact pk1 ⟨_, rfl⟩ | exact pk2 ⟨_, rfl⟩ ⟨_, rfl⟩ | exact pk3 ⟨_, rfl⟩ ⟨_, rfl⟩ ⟨_, rfl⟩ | exact pk4 ⟨_, rfl⟩ ⟨_, rfl⟩ ⟨_, rfl⟩ ⟨_, rfl⟩) (by simp [go_sem, gL, kL, lk, renOf, V.obj, Nat.blt, Nat.ble, leD]))⟩ | trace_state
    · obtain rfl : k = c.2.length := by omega
      rw [List.drop_length, List.nil_append] at g2
      repeat' (first | ((first | refine AW.sreg rfl fun K hK => ?_ | refine AW.reg rfl ?_); simp only [go_sem, Nat.reduceAdd, Nat.reduceMul, Int.reduceToNat, Nat.reduceLT, Nat.reduceLeDiff, Nat.le_refl, Nat.reduceEqDiff, ↓reduceIte, beq_self_eq_true, bne_self_eq_false, Int.reduceBEq, Int.reduceBNe, or_self, true_or, or_true, Option.map_some, Option.map_none, List.length_map]) | (refine AW.seq_k fun K hK => ?_) | (refine AW.exit ?_; simp only [go_sem, ↓reduceIte]) | (refine AW.condF rfl (by first | rfl | (simp; omega) | (simp [*]; done) | fail) ?_) | (refine hK _ ?_; clear hK K) | (clear hK K; refine hK _ ?_; clear hK K) | (with_reducible refine And.intro ?_ ?_; first | omega | assumption | (focus (decide)) | (focus (simp; done)) | (focus (simp; omega)) | (focus (constructor <;> omega)) | fail))
      exact ⟨(i + 1, o2, pg), ⟨hi, g2, g3, g4⟩, by simp only; omega, (Weak.auto hcx rfl rfl (Nat.le_of_ble_eq_true rfl) (by simp [go_sem, gL, kL, renOf, V.obj, lk, Nat.blt, Nat.ble, List.map_append, dv_push]) (by simp [go_sem, gL, kL, renOf, V.obj, lk, Nat.blt, Nat.ble, List.map_append, dv_push]) (by first | exact pk0 | exact pk1 ⟨_, rfl⟩ | exact pk2 ⟨_, rfl⟩ ⟨_, rfl⟩ | exact pk3 ⟨_, rfl⟩ ⟨_, rfl⟩ ⟨_, rfl⟩ | exact pk4 ⟨_, rfl⟩ ⟨_, rfl⟩ ⟨_, rfl⟩ ⟨_, rfl⟩) (by simp [go_sem, gL, kL, lk, renOf, V.obj, Nat.blt, Nat.ble]))⟩
  · obtain rfl : i = cs.length := by omega
    rw [List.drop_length] at h2
    simp only [psV, List.flatMap_nil, lvs, List.append_nil] at h2
    subst h2
    repeat' (first | (refine AW.sreg rfl fun K hK => ?_; simp only [go_sem, Nat.reduceAdd, Nat.reduceMul, Int.reduceToNat, Nat.reduceLT, Nat.reduceLeDiff, Nat.le_refl, Nat.reduceEqDiff, ↓reduceIte, beq_self_eq_true, bne_self_eq_false, Int.reduceBEq, Int.reduceBNe, or_self, true_or, or_true, Option.map_some, Option.map_none, List.length_map]) | (refine AW.seq_k fun K hK => ?_) | (refine AW.exit ?_; simp only [go_sem, ↓reduceIte]) | (refine AW.condF rfl (by first | rfl | (simp; omega) | (simp [*]; done) | fail) ?_) | (refine hK _ ?_; clear hK K) | (clear hK K; refine hK _ ?_; clear hK K))
    exact AW.ret (Fin.data rfl ((frz_slr rfl rfl (by simp)).trans (by simp [go_sem])) rfl)
end Go.AX

namespace Go.AX
open Go Go.Proofs Go.RowKit
theorem titleT : ∀ s ∈ TT, Does Tryz.prog 68 [S s, I 200] [] (B (ttOk s)) [] := by
  have h : TT.all (fun s => evalsTo Tryz.prog (CN Tryz.prog) 68 [S s, I 200] (B (ttOk s))) = true := by kernel_rfl
  intro s hs
  exact evalsTo_ok CN_ok hmix (List.all_eq_true.1 h s hs)
abbrev seenM (l : List Str) : O := .map (l.map D.str) (dv (l.map fun _ => D.bool true))
theorem checkVolume_any {fs : List Fi} (h : FinsF fs) (g0 : Int) (rt : Bool) (cs : List Chp) (hv : VolR (g0, rt, cs)) :
    Does Tryz.prog 29 [.d (voD (g0, rt, cs)), .d (.sl (fs.map fiD))] [] (I (volF fs (g0, rt, cs))) [] := by
  have hcf := checkFinals_ok fs h
  have hlen : cs.length ≤ 4 := hv.len
  have hfirst : -1099511627776 ≤ g0 ∧ g0 ≤ 1099511627776 := hv.first
  have hlv := leaves_any h g0 rt cs
  refine Does.of_AW (n := 76) Tryz.func29 rfl rfl rfl fun cx hcx => ?_
  generalize hR : volF fs (g0, rt, cs) = R
  unfold volF at hR
  simp only at hR
  by_cases hb : g0 < 1 ∨ 5000 < g0
  · rw [if_pos hb] at hR
    subst hR
    repeat' (first | ((first | refine AW.sreg rfl fun K hK => ?_ | refine run_call _ _ _ ((hcf).pure rfl rfl _ _) rfl rfl (dstOk_of rfl) rfl rfl rfl ?_ | refine run_call _ _ _ ((outside_any _ _ _).pure rfl rfl _ _) rfl rfl (dstOk_of rfl) rfl rfl rfl ?_); simp only [go_sem, Nat.reduceAdd, Nat.reduceMul, Int.reduceToNat, Nat.reduceLT, Nat.reduceLeDiff, Nat.le_refl, Nat.reduceEqDiff, ↓reduceIte, beq_self_eq_true, bne_self_eq_false, Int.reduceBEq, Int.reduceBNe, or_self, true_or, or_true, Option.map_some, Option.map_none, List.length_map]) | (refine AW.seq_k fun K hK => ?_) | (refine AW.skip ?_; simp only [Then, InBlock]) | (refine AW.condT rfl (by first | rfl | (simp; omega) | (simp [*]; done) | fail) ?_) | (refine AW.condF rfl (by first | rfl | (simp; omega) | (simp [*]; done) | fail) ?_) | (refine hK _ ?_; clear hK K))
    all_goals first | (exfalso; omega) | exact AW.ret (Fin.data rfl rfl rfl) | trace_state
  · rw [if_neg hb] at hR
    have hd1 : decide (g0 < 1) = false := decide_eq_false (by omega)
    have hd2 : decide (5000 < g0) = false := decide_eq_false (by omega)
    have ho := outside_any g0 1 5000
    rw [hd1, hd2] at ho
    generalize hE : endV fs (g0, rt, cs) = E at hR
    repeat' (first | ((first | refine AW.sreg rfl fun K hK => ?_ | refine run_call _ _ _ ((hcf).pure rfl rfl _ _) rfl rfl (dstOk_of rfl) rfl rfl rfl ?_ | refine run_call _ _ _ ((ho).pure rfl rfl _ _) rfl rfl (dstOk_of rfl) rfl rfl rfl ?_); simp only [go_sem, Nat.reduceAdd, Nat.reduceMul, Int.reduceToNat, Nat.reduceLT, Nat.reduceLeDiff, Nat.le_refl, Nat.reduceEqDiff, ↓reduceIte, beq_self_eq_true, bne_self_eq_false, Int.reduceBEq, Int.reduceBNe, or_self, true_or, or_true, Option.map_some, Option.map_none, List.length_map]) | (refine AW.seq_k fun K hK => ?_) | (refine AW.block ?_) | (refine AW.skip ?_; simp only [Then, InBlock]) | (refine AW.condF rfl (by first | rfl | (simp; omega) | (simp [*]; done) | fail) ?_) | (refine hK _ ?_; clear hK K))
    refine AW.loopF (ι := Nat × List Str) [1, 2, 6, 28, 29] (fun p => [(30, I p.1)]) (fun p => [(0, some (O.box 70 [I g0, B rt, .d (.sl (cs.map chD))])), (896, some (seenM p.2))]) 20 (fun p => p.1 ≤ cs.length ∧ scanC fs E (cs.drop p.1) p.2 = R ∧ p.2 = psV (cs.take p.1) ∧ p.2.Nodup ∧ ∀ q ∈ p.2, q ∈ fs.map (·.1)) (fun p => cs.length - p.1) (0, []) ⟨Nat.zero_le _, hR, rfl, List.nodup_nil, by simp⟩ (Weak.auto hcx rfl rfl (Nat.le_of_ble_eq_true rfl) (by simp [go_sem, gL, kL, renOf, V.obj, lk, Nat.blt, Nat.ble, List.map_append, dv_push]) (by simp [go_sem, gL, kL, renOf, V.obj, lk, Nat.blt, Nat.ble, List.map_append, dv_push]) (by first | exact pk0 | exact pk1 ⟨_, rfl⟩ | exact pk2 ⟨_, rfl⟩ ⟨_, rfl⟩ | exact pk3 ⟨_, rfl⟩ ⟨_, rfl⟩ ⟨_, rfl⟩ | exact pk4 ⟨_, rfl⟩ ⟨_, rfl⟩ ⟨_, rfl⟩ ⟨_, rfl⟩) (by simp [go_sem, gL, kL, lk, renOf, V.obj, Nat.blt, Nat.ble])) ?_; simp only [St.at_nil, St.at_cons, lk, Nat.reduceEqDiff, ↓reduceIte, Option.getD_some, Option.getD_none, List.cons_append, List.nil_append, List.append_nil]
    rintro ⟨i, seen⟩ ⟨h1, h2, h3, h4, h5⟩
    dsimp only at h1 h2 h3 h4 h5 ⊢
    by_cases hi : i < cs.length
    · obtain ⟨c, hc, hcm, hcd⟩ := get_some hi
      have hget : (cs.map chD)[i]? = some (chD c) := by simp [hc]
      have htt := titleT c.1 (hv.chs c hcm).1
      have hc8 : c.2.length ≤ 8 := (hv.chs c hcm).2
      rw [hcd, scanC] at h2
      by_cases hto : ttOk c.1 = true
      · rw [if_pos hto] at h2
        rw [hto] at htt
        repeat' (first | ((first | refine AW.sreg rfl fun K hK => ?_ | refine run_call _ _ _ ((htt).pure rfl rfl _ _) rfl rfl (dstOk_of rfl) rfl rfl rfl ?_); simp only [go_sem, Nat.reduceAdd, Nat.reduceMul, Int.reduceToNat, Nat.reduceLT, Nat.reduceLeDiff, Nat.le_refl, Nat.reduceEqDiff, ↓reduceIte, beq_self_eq_true, bne_self_eq_false, Int.reduceBEq, Int.reduceBNe, or_self, true_or, or_true, Option.map_some, Option.map_none, List.length_map, hget]) | (refine AW.seq_k fun K hK => ?_) | (refine AW.block ?_) | (refine AW.skip ?_; simp only [Then, InBlock]) | (refine AW.condT rfl (by first | rfl | (simp; omega) | (simp [*]; done) | fail) ?_) | (refine AW.condF rfl (by first | rfl | (simp; omega) | (simp [*]; done) | fail) ?_) | (refine hK _ ?_; clear hK K) | (with_reducible refine And.intro ?_ ?_; first | omega | assumption | (focus (decide)) | (focus (simp; done)) | (focus (simp; omega)) | (focus (constructor <;> omega)) | fail))
        refine AW.loopF (ι := Nat × List Str) [1, 2, 6, 28, 29, 30, 39, 40] (fun p => [(41, I p.1)]) (fun p => [(0, some (O.box 70 [I g0, B rt, .d (.sl (cs.map chD))])), (896, some (seenM p.2))]) 40 (fun p => p.1 ≤ c.2.length ∧ scanP fs (c.2.drop p.1) p.2 (fun s => scanC fs E (cs.drop (i + 1)) s) = R ∧ p.2 = psV (cs.take i) ++ c.2.take p.1 ∧ p.2.Nodup ∧ ∀ q ∈ p.2, q ∈ fs.map (·.1)) (fun p => c.2.length - p.1) (0, seen) ⟨Nat.zero_le _, h2, by simpa using h3, h4, h5⟩ (Weak.auto hcx rfl rfl (Nat.le_of_ble_eq_true rfl) (by simp [go_sem, gL, kL, renOf, V.obj, lk, Nat.blt, Nat.ble, List.map_append, dv_push]) (by simp [go_sem, gL, kL, renOf, V.obj, lk, Nat.blt, Nat.ble, List.map_append, dv_push]) (by first | exact pk0 | exact pk1 ⟨_, rfl⟩ | exact pk2 ⟨_, rfl⟩ ⟨_, rfl⟩ | exact pk3 ⟨_, rfl⟩ ⟨_, rfl⟩ ⟨_, rfl⟩ | exact pk4 ⟨_, rfl⟩ ⟨_, rfl⟩ ⟨_, rfl⟩ ⟨_, rfl⟩) (by simp [go_sem, gL, kL, lk, renOf, V.obj, Nat.blt, Nat.ble])) ?_; simp only [St.at_nil, St.at_cons, lk, Nat.reduceEqDiff, ↓reduceIte, Option.getD_some, Option.getD_none, List.cons_append, List.nil_append, List.append_nil]
        rintro ⟨k, sn⟩ ⟨g1, g2, g3, g4, g5⟩
        dsimp only at g1 g2 g3 g4 g5 ⊢
        by_cases hk : k < c.2.length
        · obtain ⟨q, hq, hqm, hqd⟩ := get_some hk
          have hgetq : (c.2.map D.str)[k]? = some (.str q) := by simp [hq]
          have htk : c.2.take (k + 1) = c.2.take k ++ [q] := by rw [List.take_add_one, hq]; rfl
          rw [hqd, scanP] at g2
          by_cases hin : q ∈ fs.map (·.1)
          · rw [if_pos hin] at g2
            obtain ⟨m, -, hfin⟩ := final_in h q hin
            by_cases hsn : q ∈ sn
            · rw [if_pos hsn] at g2
              obtain ⟨j, hj⟩ := List.getElem?_of_mem hsn
              have hf : fndK (.str q) (sn.map D.str) = some (some j) := by rw [fndK_str, findIdx_at g4 hj]
              have hgb : (dv (sn.map fun _ => D.bool true))[j]? = some (.d (.bool true)) := by simp [dv, hj]
              repeat' (first | ((first | refine AW.sreg rfl fun K hK => ?_ | refine run_call _ _ _ ((hfin).pure rfl rfl _ _) rfl rfl (dstOk_of rfl) rfl rfl rfl ?_); simp only [go_sem, Nat.reduceAdd, Nat.reduceMul, Int.reduceToNat, Nat.reduceLT, Nat.reduceLeDiff, Nat.le_refl, Nat.reduceEqDiff, ↓reduceIte, beq_self_eq_true, bne_self_eq_false, Int.reduceBEq, Int.reduceBNe, or_self, true_or, or_true, Option.map_some, Option.map_none, List.length_map, hgetq, hf, hgb]) | (refine AW.seq_k fun K hK => ?_) | (refine AW.block ?_) | (refine AW.skip ?_; simp only [Then, InBlock]) | (refine AW.condT rfl (by first | rfl | (simp; omega) | (simp [*]; done) | fail) ?_) | (refine AW.condF rfl (by first | rfl | (simp; omega) | (simp [*]; done) | fail) ?_) | (refine hK _ ?_; clear hK K) | (with_reducible refine And.intro ?_ ?_; first | omega | assumption | (focus (decide)) | (focus (simp; done)) | (focus (simp; omega)) | (focus (constructor <;> omega)) | fail))
              all_goals first | (subst g2; exact AW.ret (Fin.data rfl (by simp [go_sem]) rfl)) | trace_state
            · rw [if_neg hsn] at g2
              have hf : fndK (.str q) (sn.map D.str) = some none := by rw [fndK_str, findIdx_none hsn]
              have hnd : (sn ++ [q]).Nodup := by
                rw [List.nodup_append]
                exact ⟨g4, by simp, fun a ha b hb => by
                  obtain rfl := List.mem_singleton.1 hb
                  rintro rfl
                  exact hsn ha⟩
              have hmm : ∀ x ∈ sn ++ [q], x ∈ fs.map (·.1) := fun x hx => by
                rcases List.mem_append.1 hx with hx | hx
                · exact g5 x hx
                · rw [List.mem_singleton.1 hx]; exact hin
              repeat' (first | ((first | refine AW.sreg rfl fun K hK => ?_ | refine AW.reg rfl ?_ | refine run_call _ _ _ ((hfin).pure rfl rfl _ _) rfl rfl (dstOk_of rfl) rfl rfl rfl ?_); simp only [go_sem, Nat.reduceAdd, Nat.reduceMul, Int.reduceToNat, Nat.reduceLT, Nat.reduceLeDiff, Nat.le_refl, Nat.reduceEqDiff, ↓reduceIte, beq_self_eq_true, bne_self_eq_false, Int.reduceBEq, Int.reduceBNe, or_self, true_or, or_true, Option.map_some, Option.map_none, List.length_map, hgetq, hf]) | (refine AW.seq_k fun K hK => ?_) | (refine AW.block ?_) | (refine AW.skip ?_; simp only [Then, InBlock]) | (refine AW.condT rfl (by first | rfl | (simp; omega) | (simp [*]; done) | fail) ?_) | (refine AW.condF rfl (by first | rfl | (simp; omega) | (simp [*]; done) | fail) ?_) | (refine hK _ ?_; clear hK K) | (with_reducible refine And.intro ?_ ?_; first | omega | assumption | (focus (decide)) | (focus (simp; done)) | (focus (simp; omega)) | (focus (constructor <;> omega)) | fail))
              all_goals first | exact ⟨(k + 1, sn ++ [q]), ⟨hk, g2, by rw [g3, htk, List.append_assoc], hnd, hmm⟩, by simp only; omega, (Weak.auto hcx rfl rfl (Nat.le_of_ble_eq_true rfl) (by simp [go_sem, gL, kL, renOf, V.obj, lk, Nat.blt, Nat.ble, List.map_append, dv_push]) (by simp [go_sem, gL, kL, renOf, V.obj, lk, Nat.blt, Nat.ble, List.map_append, dv_push]) (by first | exact pk0 | exact pk1 ⟨_, rfl⟩ | exact pk2 ⟨_, rfl⟩ ⟨_, rfl⟩ | exact pk3 ⟨_, rfl⟩ ⟨_, rfl⟩ ⟨_, rfl⟩ | exact pk4 ⟨_, rfl⟩ ⟨_, rfl⟩ ⟨_, rfl⟩ ⟨_, rfl⟩) (by simp [go_sem, gL, kL, lk, renOf, V.obj, Nat.blt, Nat.ble]))⟩ | trace_state
          · rw [if_neg hin] at g2
            obtain ⟨m, hfin⟩ := final_out h q hin
            repeat' (first | ((first | refine AW.sreg rfl fun K hK => ?_ | refine run_call _ _ _ ((hfin).pure rfl rfl _ _) rfl rfl (dstOk_of rfl) rfl rfl rfl ?_); simp only [go_sem, Nat.reduceAdd, Nat.reduceMul, Int.reduceToNat, Nat.reduceLT, Nat.reduceLeDiff, Nat.le_refl, Nat.reduceEqDiff, ↓reduceIte, beq_self_eq_true, bne_self_eq_false, Int.reduceBEq, Int.reduceBNe, or_self, true_or, or_true, Option.map_some, Option.map_none, List.length_map, hgetq]) | (refine AW.seq_k fun K hK => ?_) | (refine AW.block ?_) | (refine AW.skip ?_; simp only [Then, InBlock]) | (refine AW.condT rfl (by first | rfl | (simp; omega) | (simp [*]; done) | fail) ?_) | (refine hK _ ?_; clear hK K) | (with_reducible refine And.intro ?_ ?_; first | omega | assumption | (focus (decide)) | (focus (simp; done)) | (focus (simp; omega)) | (focus (constructor <;> omega)) | fail))
            all_goals first | (subst g2; exact AW.ret (Fin.data rfl (by simp [go_sem]) rfl)) | trace_state
        · obtain rfl : k = c.2.length := by omega
          rw [List.drop_length, scanP] at g2
          rw [List.take_length] at g3
          repeat' (first | ((first | refine AW.sreg rfl fun K hK => ?_ | refine AW.reg rfl ?_); simp only [go_sem, Nat.reduceAdd, Nat.reduceMul, Int.reduceToNat, Nat.reduceLT, Nat.reduceLeDiff, Nat.le_refl, Nat.reduceEqDiff, ↓reduceIte, beq_self_eq_true, bne_self_eq_false, Int.reduceBEq, Int.reduceBNe, or_self, true_or, or_true, Option.map_some, Option.map_none, List.length_map]) | (refine AW.seq_k fun K hK => ?_) | (refine AW.exit ?_; simp only [go_sem, ↓reduceIte]) | (refine AW.condF rfl (by first | rfl | (simp; omega) | (simp [*]; done) | fail) ?_) | (refine hK _ ?_; clear hK K) | (clear hK K; refine hK _ ?_; clear hK K) | (with_reducible refine And.intro ?_ ?_; first | omega | assumption | (focus (decide)) | (focus (simp; done)) | (focus (simp; omega)) | (focus (constructor <;> omega)) | fail))
          exact ⟨(i + 1, sn), ⟨hi, g2, by rw [psV_take hc]; exact g3, g4, g5⟩, by simp only; omega, (Weak.auto hcx rfl rfl (Nat.le_of_ble_eq_true rfl) (by simp [go_sem, gL, kL, renOf, V.obj, lk, Nat.blt, Nat.ble, List.map_append, dv_push]) (by simp [go_sem, gL, kL, renOf, V.obj, lk, Nat.blt, Nat.ble, List.map_append, dv_push]) (by first | exact pk0 | exact pk1 ⟨_, rfl⟩ | exact pk2 ⟨_, rfl⟩ ⟨_, rfl⟩ | exact pk3 ⟨_, rfl⟩ ⟨_, rfl⟩ ⟨_, rfl⟩ | exact pk4 ⟨_, rfl⟩ ⟨_, rfl⟩ ⟨_, rfl⟩ ⟨_, rfl⟩) (by simp [go_sem, gL, kL, lk, renOf, V.obj, Nat.blt, Nat.ble]))⟩
      · simp only [Bool.not_eq_true] at hto
        rw [if_neg (by simp [hto])] at h2
        rw [hto] at htt
        repeat' (first | ((first | refine AW.sreg rfl fun K hK => ?_ | refine run_call _ _ _ ((htt).pure rfl rfl _ _) rfl rfl (dstOk_of rfl) rfl rfl rfl ?_); simp only [go_sem, Nat.reduceAdd, Nat.reduceMul, Int.reduceToNat, Nat.reduceLT, Nat.reduceLeDiff, Nat.le_refl, Nat.reduceEqDiff, ↓reduceIte, beq_self_eq_true, bne_self_eq_false, Int.reduceBEq, Int.reduceBNe, or_self, true_or, or_true, Option.map_some, Option.map_none, List.length_map, hget]) | (refine AW.seq_k fun K hK => ?_) | (refine AW.block ?_) | (refine AW.skip ?_; simp only [Then, InBlock]) | (refine AW.condT rfl (by first | rfl | (simp; omega) | (simp [*]; done) | fail) ?_) | (refine hK _ ?_; clear hK K) | (with_reducible refine And.intro ?_ ?_; first | omega | assumption | (focus (decide)) | (focus (simp; done)) | (focus (simp; omega)) | (focus (constructor <;> omega)) | fail))
        all_goals first | (subst h2; exact AW.ret (Fin.data rfl (by simp [go_sem]) rfl)) | trace_state
    · obtain rfl : i = cs.length := by omega
      rw [List.drop_length, scanC] at h2
      subst h2
      rw [List.take_length] at h3
      subst h3
      have hlv2 := hlv ⟨by omega, by omega⟩ h5 (ps_len h.1 h4 h5) (by omega)
      have hend : E = match (lvs rt fs (psV cs) g0).getLast? with
        | some x => if 5000 < x.2.2 then 2 else 0
        | none => 0 := hE.symm
      have hL4 := lvs_len rt fs (psV cs) g0
      have hp4 := ps_len h.1 h4 h5
      generalize lvs rt fs (psV cs) g0 = L at *
      rcases List.eq_nil_or_concat L with rfl | ⟨L', x, rfl⟩
      · simp only [List.getLast?_nil] at hend
        subst hend
        repeat' (first | ((first | refine AW.sreg rfl fun K hK => ?_ | refine run_call _ _ _ ((hlv2).pure rfl rfl _ _) rfl rfl (dstOk_of rfl) rfl rfl rfl ?_); simp only [go_sem, Nat.reduceAdd, Nat.reduceMul, Int.reduceToNat, Nat.reduceLT, Nat.reduceLeDiff, Nat.le_refl, Nat.reduceEqDiff, ↓reduceIte, beq_self_eq_true, bne_self_eq_false, Int.reduceBEq, Int.reduceBNe, or_self, true_or, or_true, Option.map_some, Option.map_none, List.length_map, List.length_nil, List.map_nil]) | (refine AW.seq_k fun K hK => ?_) | (refine AW.skip ?_; simp only [Then, InBlock]) | (refine AW.exit ?_; simp only [go_sem, ↓reduceIte]) | (refine AW.condF rfl (by first | rfl | (simp; omega) | (simp [*]; done) | fail) ?_) | (refine hK _ ?_; clear hK K) | (clear hK K; refine hK _ ?_; clear hK K) | (refine stepB_split (fun h => ?_) (fun h => ?_) <;> (have hb0 := h) <;> (try simp only [Bool.not_eq_true', Bool.not_eq_false'] at hb0) <;> (try simp only [decide_eq_true_eq, decide_eq_false_iff_not, Bool.not_eq_true', Bool.not_eq_false', Bool.not_eq_eq_eq_not, Bool.not_true, Bool.not_false, beq_iff_eq, bne_iff_ne, beq_eq_false_iff_ne, ne_eq, Bool.and_eq_true, Bool.or_eq_true, Bool.or_eq_false_iff] at h) <;> simp only [go_sem, Nat.reduceAdd, Nat.reduceMul, Int.reduceToNat, Nat.reduceLT, Nat.reduceLeDiff, Nat.le_refl, Nat.reduceEqDiff, ↓reduceIte, beq_self_eq_true, bne_self_eq_false, Int.reduceBEq, Int.reduceBNe, or_self, true_or, or_true, Option.map_some, Option.map_none, hb0, h, decide_true, decide_false, List.length_map, List.length_nil, List.map_nil] <;> (try clear hb0)) | (with_reducible refine And.intro ?_ ?_; first | omega | assumption | (focus (decide)) | (focus (simp; done)) | (focus (simp; omega)) | (focus (constructor <;> omega)) | fail) | (exfalso; omega))
        all_goals first | exact AW.ret (Fin.data rfl (by simp [go_sem]) rfl) | trace_state
      · simp only [List.concat_eq_append] at *
        simp only [List.getLast?_append, List.getLast?_singleton, Option.some_or] at hend
        have e1 : (((L'.length + 1 : Nat) : Int) - 1).toNat = L'.length := by omega
        have hgx : ((L' ++ [x]).map leD)[L'.length]? = some (leD x) := by simp
        simp only [List.length_append, List.length_cons, List.length_nil] at hL4
        repeat' (first | ((first | refine AW.sreg rfl fun K hK => ?_ | refine run_call _ _ _ ((hlv2).pure rfl rfl _ _) rfl rfl (dstOk_of rfl) rfl rfl rfl ?_); simp only [go_sem, Nat.reduceAdd, Nat.reduceMul, Int.reduceToNat, Nat.reduceLT, Nat.reduceLeDiff, Nat.le_refl, Nat.reduceEqDiff, ↓reduceIte, beq_self_eq_true, bne_self_eq_false, Int.reduceBEq, Int.reduceBNe, or_self, true_or, or_true, Option.map_some, Option.map_none, List.length_map, List.length_append, List.length_cons, List.length_nil, Nat.zero_add, e1, hgx]) | (refine AW.seq_k fun K hK => ?_) | (refine AW.skip ?_; simp only [Then, InBlock]) | (refine AW.exit ?_; simp only [go_sem, ↓reduceIte]) | (refine AW.condT rfl (by first | rfl | (simp; omega) | (simp [*]; done) | fail) ?_) | (refine AW.condF rfl (by first | rfl | (simp; omega) | (simp [*]; done) | fail) ?_) | (refine AW.cond rfl (fun h => ?_) (fun h => ?_) <;> (try simp only [decide_eq_true_eq, decide_eq_false_iff_not, Bool.not_eq_true', Bool.not_eq_false', Bool.not_eq_eq_eq_not, Bool.not_true, Bool.not_false, beq_iff_eq, bne_iff_ne, beq_eq_false_iff_ne, ne_eq, Bool.and_eq_true, Bool.or_eq_true, Bool.or_eq_false_iff] at h)) | (refine hK _ ?_; clear hK K) | (clear hK K; refine hK _ ?_; clear hK K) | (refine stepB_split (fun h => ?_) (fun h => ?_) <;> (have hb0 := h) <;> (try simp only [Bool.not_eq_true', Bool.not_eq_false'] at hb0) <;> (try simp only [decide_eq_true_eq, decide_eq_false_iff_not, Bool.not_eq_true', Bool.not_eq_false', Bool.not_eq_eq_eq_not, Bool.not_true, Bool.not_false, beq_iff_eq, bne_iff_ne, beq_eq_false_iff_ne, ne_eq, Bool.and_eq_true, Bool.or_eq_true, Bool.or_eq_false_iff] at h) <;> simp only [go_sem, Nat.reduceAdd, Nat.reduceMul, Int.reduceToNat, Nat.reduceLT, Nat.reduceLeDiff, Nat.le_refl, Nat.reduceEqDiff, ↓reduceIte, beq_self_eq_true, bne_self_eq_false, Int.reduceBEq, Int.reduceBNe, or_self, true_or, or_true, Option.map_some, Option.map_none, hb0, h, decide_true, decide_false, List.length_map, List.length_append, List.length_cons, List.length_nil, Nat.zero_add, e1, hgx] <;> (try clear hb0)) | (with_reducible refine And.intro ?_ ?_; first | omega | assumption | (focus (decide)) | (focus (simp; done)) | (focus (simp; omega)) | (focus (constructor <;> omega)) | fail) | (exfalso; omega))
        all_goals first | (exfalso; omega) | (rw [if_pos (by assumption)] at hend; subst hend; exact AW.ret (Fin.data rfl (by simp [go_sem]) rfl)) | (rw [if_neg (by assumption)] at hend; subst hend; exact AW.ret (Fin.data rfl (by simp [go_sem]) rfl)) | trace_state
theorem pages_any {fs : List Fi} (h : FinsF fs) (g0 : Int) (rt : Bool) (cs : List Chp) (hv : VolR (g0, rt, cs)) :
    Does Tryz.prog 28 [.d (voD (g0, rt, cs)), .d (.sl (fs.map fiD))] [] (if volF fs (g0, rt, cs) = 0 then .tup [.d (.sl ((lvs rt fs (psV cs) g0).map leD)), I 0] else .tup [.nils, I (volF fs (g0, rt, cs))]) [] := by
  have hc := checkVolume_any h g0 rt cs hv
  by_cases h0 : volF fs (g0, rt, cs) = 0
  · rw [if_pos h0]
    have hg := volF_zero h0
    have hlv := leaves_any h g0 rt cs hg.first hg.inn (ps_len h.1 hg.nd hg.inn) (by have := hv.len; simp only at this; omega)
    rw [h0] at hc
    refine Does.of_AW (n := 16) Tryz.func28 rfl rfl rfl fun cx hcx => ?_
    repeat' (first | ((first | refine AW.sreg rfl fun K hK => ?_ | refine run_call _ _ _ ((hc).pure rfl rfl _ _) rfl rfl (dstOk_of rfl) rfl rfl rfl ?_ | refine run_call _ _ _ ((hlv).pure rfl rfl _ _) rfl rfl (dstOk_of rfl) rfl rfl rfl ?_); simp only [go_sem, Nat.reduceAdd, Nat.reduceMul, Int.reduceToNat, Nat.reduceLT, Nat.reduceLeDiff, Nat.le_refl, Nat.reduceEqDiff, ↓reduceIte, beq_self_eq_true, bne_self_eq_false, Int.reduceBEq, Int.reduceBNe, or_self, true_or, or_true, Option.map_some, Option.map_none]) | (refine AW.seq_k fun K hK => ?_) | (refine AW.skip ?_; simp only [Then, InBlock]) | (refine AW.condF rfl (by first | rfl | (simp; omega) | (simp [*]; done) | fail) ?_) | (refine hK _ ?_; clear hK K) | (refine AW.ret (Fin.data rfl (by first | (simp only [go_sem]; done) | (simp [go_sem, *]; done) | (simp [go_sem]; omega) | rfl) rfl)))
  · rw [if_neg h0]
    generalize volF fs (g0, rt, cs) = e at *
    refine Does.of_AW (n := 16) Tryz.func28 rfl rfl rfl fun cx hcx => ?_
    repeat' (first | ((first | refine AW.sreg rfl fun K hK => ?_ | refine run_call _ _ _ ((hc).pure rfl rfl _ _) rfl rfl (dstOk_of rfl) rfl rfl rfl ?_); simp only [go_sem, Nat.reduceAdd, Nat.reduceMul, Int.reduceToNat, Nat.reduceLT, Nat.reduceLeDiff, Nat.le_refl, Nat.reduceEqDiff, ↓reduceIte, beq_self_eq_true, bne_self_eq_false, Int.reduceBEq, Int.reduceBNe, or_self, true_or, or_true, Option.map_some, Option.map_none, h0]) | (refine AW.seq_k fun K hK => ?_) | (refine AW.condT rfl (by first | rfl | (simp; omega) | (simp [*]; done) | fail) ?_) | (refine hK _ ?_; clear hK K) | (refine AW.ret (Fin.data rfl (by first | (simp only [go_sem]; done) | (simp [go_sem, *]; done) | (simp [go_sem]; omega) | rfl) rfl)))
end Go.AX
