/- Sheets and answers, drawn. -/
import Derived.Test.YtecggjfjafnepaaGreatDoorCC
import Derived.Test.YtecggjfjafnepaaGreatDoorCE
import Derived.Test.YtecggjfjafnepaaGreatDoorCF
import Derived.Test.YtecggjfjafnepaaGreatDoorAx44
set_option linter.unusedSimpArgs false
set_option linter.unusedVariables false
set_option linter.unnecessarySimpa false
set_option maxRecDepth 1000000
set_option maxHeartbeats 4000000
namespace Go.AX
open Go Go.Proofs Go.RowKit
theorem shR_of {m1 m2 : Int} {n1 s2 n3 s3 s4 : Bool} (h1 : m1 ∈ ([10, 10, 5, 100] : List Int)) (h2 : m2 ∈ ([1, 20, 5000] : List Int)) (n : Nat) (hn : 1 ≤ n ∧ n ≤ 4) :
  ShR (([(KQ.getD 0 [], 1, m1, [], n1, false), (KQ.getD 1 [], 3, m2, [], false, s2), (KQ.getD 2 [], 2, 0, O3, n3, s3), (KQ.getD 3 [], 1, 3, [], false, s4)] : List Qu).take n) where
 pos := by simp; omega
 len := by simp; omega
 keys := by
  obtain rfl | rfl | rfl | rfl : n = 1 ∨ n = 2 ∨ n = 3 ∨ n = 4 := by omega
  all_goals rfl
 ok := by
  intro q hq
  have hq := List.mem_of_mem_take hq
  simp only [List.mem_cons, List.not_mem_nil, or_false] at hq h1 h2
  rcases hq with rfl | rfl | rfl | rfl
  ·exact .inl ⟨rfl, by simp only; omega, rfl⟩
  ·exact .inr (.inl ⟨rfl, by simp only; omega, rfl⟩)
  ·exact .inr (.inr ⟨rfl, rfl, rfl⟩)
  ·exact .inl ⟨rfl, by simp only; omega, rfl⟩
theorem rightSheetI (l : List Int) (hl2 : l.length ≤ 9223372036854775807) (at_ : Int) (ha : 0 ≤ at_) (hb : at_ ≤ 100000) :
  DoesI Tryz.prog 26 [.ptr 0 0] [Stm l at_] (fun sh : List Qu => ShR sh) (fun sh => .d (.sl (sh.map quD))) (fun _ => [Stm l (at_ + 8)]) := by
 refine DoesI.of_AW (n := 31) Tryz.func26 rfl rfl rfl fun cx hcx => ?_
 repeat' (first | (refine AW.sreg rfl fun K hK => ?_; simp only [go_sem, ↓reduceIte]) | (refine hK _ ?_; clear hK K) | (refine run_callI _ _ _ ((pickI l hl2 _ (by omega) (by omega) [10, 10, 5, 100] (by simp) (by simp)).objs [0, _] ⟨rfl, rfl, trivial⟩ rfl (by decide) (by simp [go_sem, renOs]) (by simp [go_sem]) (by simp [go_sem]) (fun j hj => ⟨by simp, by simp, by simp [go_sem], by simp [go_sem]⟩)) rfl rfl (dstOk_of rfl) rfl rfl rfl ?_; rintro m1 hm1; (try dsimp only at m1); (try dsimp only at hm1); simp only [go_sem, ↓reduceIte]) | (refine run_callI _ _ _ ((pickI l hl2 _ (by omega) (by omega) [1, 20, 5000] (by simp) (by simp)).objs [0, _] ⟨rfl, rfl, trivial⟩ rfl (by decide) (by simp [go_sem, renOs]) (by simp [go_sem]) (by simp [go_sem]) (fun j hj => ⟨by simp, by simp, by simp [go_sem], by simp [go_sem]⟩)) rfl rfl (dstOk_of rfl) rfl rfl rfl ?_; rintro m2 hm2; (try dsimp only at m2); (try dsimp only at hm2); simp only [go_sem, ↓reduceIte]) | (refine run_callI _ _ _ ((pickI l hl2 _ (by omega) (by omega) [1, 2, 3, 4, 4] (by simp) (by simp)).objs [0, _] ⟨rfl, rfl, trivial⟩ rfl (by decide) (by simp [go_sem, renOs]) (by simp [go_sem]) (by simp [go_sem]) (fun j hj => ⟨by simp, by simp, by simp [go_sem], by simp [go_sem]⟩)) rfl rfl (dstOk_of rfl) rfl rfl rfl ?_; rintro nn hnn; (try dsimp only at nn); (try dsimp only at hnn); simp only [go_sem, ↓reduceIte]) | (refine run_callI _ _ _ ((flipI l hl2 _ _ (by omega) (by omega) (by omega) (by omega)).objs [0] ⟨rfl, trivial⟩ rfl (by decide) (by simp [go_sem, renOs]) (by simp [go_sem]) (by simp [go_sem]) (fun j hj => ⟨by simp, by simp, by simp [go_sem], by simp [go_sem]⟩)) rfl rfl (dstOk_of rfl) rfl rfl rfl ?_; rintro fl hfl; (try dsimp only at fl); (try dsimp only at hfl); simp only [go_sem, ↓reduceIte]))
 rename_i f1 _ f2 _ f3 _ f4 _
 have hn : nn = 1 ∨ nn = 2 ∨ nn = 3 ∨ nn = 4 := by simpa using hnn
 rcases hn with rfl | rfl | rfl | rfl
 ·exact ⟨by omega, hK _ (AW.ret ⟨_, shR_of (n1 := f1) (s2 := f2) (n3 := f3) (s3 := f4) (s4 := fl) hm1 hm2 1 (by omega), Fin.one rfl (by rfl) ⟨_, rfl, by simp [go_sem]; omega⟩ rfl rfl rfl⟩)⟩
 ·exact ⟨by omega, hK _ (AW.ret ⟨_, shR_of (n1 := f1) (s2 := f2) (n3 := f3) (s3 := f4) (s4 := fl) hm1 hm2 2 (by omega), Fin.one rfl (by rfl) ⟨_, rfl, by simp [go_sem]; omega⟩ rfl rfl rfl⟩)⟩
 ·exact ⟨by omega, hK _ (AW.ret ⟨_, shR_of (n1 := f1) (s2 := f2) (n3 := f3) (s3 := f4) (s4 := fl) hm1 hm2 3 (by omega), Fin.one rfl (by rfl) ⟨_, rfl, by simp [go_sem]; omega⟩ rfl rfl rfl⟩)⟩
 ·exact ⟨by omega, hK _ (AW.ret ⟨_, shR_of (n1 := f1) (s2 := f2) (n3 := f3) (s3 := f4) (s4 := fl) hm1 hm2 4 (by omega), Fin.one rfl (by rfl) ⟨_, rfl, by simp [go_sem]; omega⟩ rfl rfl rfl⟩)⟩
end Go.AX

namespace Go.AX
open Go Go.Proofs Go.RowKit
theorem rightSetupI (l : List Int) (hl2 : l.length ≤ 9223372036854775807) :
  DoesI Tryz.prog 7 [.ptr 0 0] [Stm l 0] (fun q : Su × Int => SuR q.1 ∧ 0 ≤ q.2 ∧ q.2 ≤ 200) (fun q => .d (suD q.1)) (fun q => [Stm l q.2]) := by
 refine DoesI.of_AW (n := 99) Tryz.func7 rfl rfl rfl fun cx hcx => ?_
 repeat' (first | (refine AW.sreg rfl fun K hK => ?_; simp only [go_sem, ↓reduceIte]) | (refine hK _ ?_; clear hK K))
 suffices hA : ∀ (sh : List Qu) (due rep : Int) (ch : List Str), ShR sh → (0 ≤ due ∧ due ≤ 5761440) → (0 ≤ rep ∧ rep ≤ 5761440) → ch ∈ Ch3 → ∀ s, Weak cx s (⟨99, [(3, .ptr 1152 0), (2, .ptr 64 0), (0, .ptr 0 0)], [(0, some (Stm l 11)), (64, some (O.box 31 [.nils, .nils, .nils, .nils, .nils, I 0, I 0])), (1152, some (O.box 31 [.d (.sl (sh.map quD)), .nils, .nils, .nils, .d (.sl (ch.map D.str)), I due, I rep]))], 22⟩ : St) → K s by
  clear hK
  have n3 := next_any l hl2 (0 + 8 + 1 + 1) 3 (by omega) (by omega) (by omega) (by omega)
  have r3 := nextV_range l (0 + 8 + 1 + 1) 3 (by omega)
  generalize nextV l (0 + 8 + 1 + 1) 3 = kk at n3 r3
  have hkk : kk = 0 ∨ kk = 1 ∨ kk = 2 := by omega
  rcases hkk with rfl | rfl | rfl
  all_goals
   repeat' (first | (refine run_callI _ _ _ ((rightSheetI l hl2 0 (by omega) (by omega)).objs [0] ⟨rfl, trivial⟩ rfl (by decide) (by simp [go_sem, renOs]) (by simp [go_sem]) (by simp [go_sem]) (fun j hj => ⟨by simp, by simp, by simp [go_sem], by simp [go_sem]⟩)) rfl rfl (dstOk_of rfl) rfl rfl rfl ?_; rintro sh hsh; (try dsimp only at sh); (try dsimp only at hsh); simp only [go_sem, ↓reduceIte, List.set_cons_zero]) | (refine run_callI _ _ _ ((pickB l hl2 _ (by omega) (by omega) [1440, 2880, 3000, 5761440] 0 5761440 (by simp) (by simp) (by decide)).objs [0, _] ⟨rfl, rfl, trivial⟩ rfl (by decide) (by simp [go_sem, renOs]) (by simp [go_sem]) (by simp [go_sem]) (fun j hj => ⟨by simp, by simp, by simp [go_sem], by simp [go_sem]⟩)) rfl rfl (dstOk_of rfl) rfl rfl rfl ?_; rintro due hdue; (try dsimp only at due); (try dsimp only at hdue); simp only [go_sem, ↓reduceIte, List.set_cons_zero]) | (refine run_callI _ _ _ ((pickB l hl2 _ (by omega) (by omega) [0, 2000, 5000, 5761440] 0 5761440 (by simp) (by simp) (by decide)).objs [0, _] ⟨rfl, rfl, trivial⟩ rfl (by decide) (by simp [go_sem, renOs]) (by simp [go_sem]) (by simp [go_sem]) (fun j hj => ⟨by simp, by simp, by simp [go_sem], by simp [go_sem]⟩)) rfl rfl (dstOk_of rfl) rfl rfl rfl ?_; rintro rep hrep; (try dsimp only at rep); (try dsimp only at hrep); simp only [go_sem, ↓reduceIte, List.set_cons_zero]) | (refine run_call _ _ _ ((n3).objA [0]) rfl rfl (dstOk_of rfl) rfl rfl rfl ?_; simp only [go_sem, ↓reduceIte, List.set_cons_zero]) | (with_reducible refine andI ?_))
  ·exact hA sh due rep [] hsh hdue hrep (by decide) _ (Weak.trans (Weak.nilB 1152 4 31 9 1 rfl rfl) (Weak.oC hcx [(64, 64), (1152, 1152)] (by refine ⟨?_, ?_, ?_⟩ <;> simp [go_sem, gL, kL, List.map_append, dv_push])))
  ·exact hA sh due rep [[101, 118, 101]] hsh hdue hrep (by decide) _ (Weak.oC hcx [(64, 64), (1152, 1152)] (by refine ⟨?_, ?_, ?_⟩ <;> simp [go_sem, gL, kL, List.map_append, dv_push]))
  ·exact hA sh due rep [[97, 110, 110], [101, 118, 101]] hsh hdue hrep (by decide) _ (Weak.oC hcx [(64, 64), (1152, 1152)] (by refine ⟨?_, ?_, ?_⟩ <;> simp [go_sem, gL, kL, List.map_append, dv_push]))
 intro sh due rep ch hsh hdue hrep hch s hw
 refine hK s (AW.weak hw ?_)
 clear hw hK K s
 refine AW.weak (Weak.nilB 1152 1 31 56 5 rfl rfl) ?_
 refine AW.weak (Weak.nilB 1152 2 31 60 2 rfl rfl) ?_
 refine AW.weak (Weak.nilB 1152 3 31 60 2 rfl rfl) ?_
 simp only [List.set_cons_zero, List.set_cons_succ, Nat.reduceMul, Nat.reduceAdd]
 repeat' (first | (refine AW.sreg rfl fun K hK => ?_; simp only [go_sem, ↓reduceIte, List.length_map]) | (refine AW.seq_k fun K hK => ?_) | (refine AW.block ?_) | (refine hK _ ?_; clear hK K) | (refine run_callI _ _ _ ((papersOf10I l hl2 11 (by omega) (by omega) 3 (by omega)).objs [0] ⟨rfl, trivial⟩ rfl (by decide) (by simp [go_sem, renOs]) (by simp [go_sem]) (by simp [go_sem]) (fun j hj => ⟨by simp, by simp, by simp [go_sem], by simp [go_sem]⟩)) rfl rfl (dstOk_of rfl) rfl rfl rfl ?_; rintro q hq; (try dsimp only at q); (try dsimp only at hq); simp only [go_sem, ↓reduceIte, List.length_map]))
 obtain ⟨⟨hql, hqp⟩, hq3, hq4⟩ := hq
 refine AW.loopF (ι := Nat × List Pa) [0, 2, 3, 28, 29] (fun p => [(30, I p.1)]) (fun p => [(0, some (Stm l q.2)), (64, some (O.box 31 [.nils, .nils, .nils, .nils, .nils, I 0, I 0])), (1152, some (O.box 31 [.d (.sl (sh.map quD)), .slr 1408 0 p.2.length, .slr 1472 0 0, .slr 1536 0 0, .d (.sl (ch.map D.str)), I due, I rep])), (1408, some (O.vec 56 5 (dv (p.2.map paD)))), (1472, some (O.vec 60 2 [])), (1536, some (O.vec 60 2 []))]) 60 (fun p => p.1 ≤ q.1.length ∧ p.2.length ≤ p.1 ∧ ∀ x ∈ p.2, PaR x ∧ x.2.2.2.2 ∈ ToL) (fun p => q.1.length - p.1) (0, []) ⟨by simp, by simp, by simp⟩ (Weak.oC hcx [(64, 64), (1152, 1152), (1408, 1408), (1472, 1472), (1536, 1536)] (by refine ⟨?_, ?_, ?_⟩ <;> simp [go_sem, gL, kL, List.map_append, dv_push, dv])) ?_; simp only [St.at_nil, St.at_cons, lk, Nat.reduceEqDiff, ↓reduceIte, Option.getD_some, Option.getD_none, List.cons_append, List.nil_append, List.append_nil]
 rintro ⟨i, ps⟩ ⟨h1, h2, h3⟩
 dsimp only at h1 h2 h3 ⊢
 by_cases hi : i < q.1.length
 ·obtain ⟨pp, hp, hpm, -⟩ := get_some hi
  have hget : (q.1.map paD)[i]? = some (paD pp) := by simp only [List.getElem?_map, hp, Option.map_some]
  have hf := paperForms_any [pp] (by simp) (by simpa using hqp pp hpm)
  generalize goF pasF [] [pp] = F at hf
  have htl : ps.length ≤ 3 := by omega
  by_cases hF : F = 0
  ·subst hF
   repeat' (first | ((first | refine AW.sreg rfl fun K hK => ?_ | refine AW.reg rfl ?_ | refine run_call _ _ _ ((hf).lend (by repeat' (first | exact frzL_nil | refine frzL_cons (by first | exact frz_d | exact frz_slr rfl rfl (by first | (simp; done) | (simp; omega) | (simp [*]; done) | fail) | rfl) ?_)) rfl rfl rfl) rfl rfl (dstOk_of rfl) rfl rfl rfl ?_); simp only [go_sem, ↓reduceIte, hget, List.length_map]) | (refine AW.seq_k fun K hK => ?_) | (refine AW.block ?_) | (refine AW.skip ?_; simp only [Then, InBlock]) | (refine AW.cT ?_) | (refine hK _ ?_; clear hK K) | (with_reducible refine andI ?_))
   refine ⟨(i + 1, ps ++ [pp]), ⟨hi, by simp; omega, fun x hx => ?_⟩, by simp only; omega, (Weak.oC hcx [(64, 64), (1152, 1152), (1408, 4672), (1472, 1472), (1536, 1536)] (by refine ⟨?_, ?_, ?_⟩ <;> simp [go_sem, gL, kL, List.map_append, dv_push]))⟩
   rcases List.mem_append.1 hx with hx | hx
   ·exact h3 x hx
   ·obtain rfl := List.mem_singleton.1 hx
    exact hqp _ hpm
  ·have e1 : (F == 0) = false := by simpa using hF
   repeat' (first | ((first | refine AW.sreg rfl fun K hK => ?_ | refine AW.reg rfl ?_ | refine run_call _ _ _ ((hf).lend (by repeat' (first | exact frzL_nil | refine frzL_cons (by first | exact frz_d | exact frz_slr rfl rfl (by first | (simp; done) | (simp; omega) | (simp [*]; done) | fail) | rfl) ?_)) rfl rfl rfl) rfl rfl (dstOk_of rfl) rfl rfl rfl ?_); simp only [go_sem, ↓reduceIte, hget, List.length_map, e1]) | (refine AW.seq_k fun K hK => ?_) | (refine AW.block ?_) | (refine AW.skip ?_; simp only [Then, InBlock]) | (refine AW.cT ?_) | (refine AW.cF ?_) | (refine hK _ ?_; clear hK K) | (with_reducible refine andI ?_))
   exact ⟨(i + 1, ps), ⟨hi, by simp only; omega, h3⟩, by simp only; omega, (Weak.oC hcx [(64, 64), (1152, 1152), (1408, 1408), (1472, 1472), (1536, 1536)] (by refine ⟨?_, ?_, ?_⟩ <;> simp [go_sem, gL, kL, List.map_append, dv_push]))⟩
 ·obtain rfl : i = q.1.length := by omega
  have hpl : ps.length ≤ 3 := by omega
  have hf := paperForms_any ps (by omega) h3
  generalize goF pasF [] ps = F at hf
  by_cases hF : F = 0
  rotate_left
  ·have e1 : (F != 0) = true := by simpa using hF
   repeat' (first | ((first | refine AW.sreg rfl fun K hK => ?_ | refine AW.reg rfl ?_ | refine run_call _ _ _ ((hf).lend (by repeat' (first | exact frzL_nil | refine frzL_cons (by first | exact frz_d | exact frz_slr rfl rfl (by first | (simp; done) | (simp; omega) | (simp [*]; done) | fail) | rfl) ?_)) rfl rfl rfl) rfl rfl (dstOk_of rfl) rfl rfl rfl ?_); simp only [go_sem, ↓reduceIte, List.length_map, e1]) | (refine AW.seq_k fun K hK => ?_) | (refine AW.block ?_) | (refine AW.exit ?_; simp only [go_sem, ↓reduceIte]) | (refine AW.cT ?_) | (refine AW.cF ?_) | (refine hK _ ?_; clear hK K) | (clear hK K; refine hK _ ?_; clear hK K))
   refine AW.weak (Weak.nilB 1152 1 31 56 5 rfl rfl) ?_
   simp only [List.set_cons_zero, List.set_cons_succ, Nat.reduceMul, Nat.reduceAdd]
   repeat' (first | (refine AW.sreg rfl fun K hK => ?_; simp only [go_sem, ↓reduceIte, Int.lt_irrefl]) | (refine AW.seq_k fun K hK => ?_) | (refine AW.exit ?_; simp only [go_sem, ↓reduceIte]) | (refine AW.cF ?_) | (refine hK _ ?_; clear hK K) | (clear hK K; refine hK _ ?_; clear hK K) | (refine AW.unroll 1 ?_; simp only [AWr]))
   exact AW.ret ⟨(⟨sh, [], [], [], ch, due, rep⟩, q.2), ⟨⟨hsh, by simp, by simp, by simp, by simp, by simp, by simp, hch, hdue, hrep⟩, by simp only; omega, by simp only; omega⟩, Fin.one rfl (by rfl) ⟨_, rfl, by simp [go_sem]⟩ rfl rfl rfl⟩
  ·subst hF
   repeat' (first | ((first | refine AW.sreg rfl fun K hK => ?_ | refine run_call _ _ _ ((hf).lend (by repeat' (first | exact frzL_nil | refine frzL_cons (by first | exact frz_d | exact frz_slr rfl rfl (by first | (simp; done) | (simp; omega) | (simp [*]; done) | fail) | rfl) ?_)) rfl rfl rfl) rfl rfl (dstOk_of rfl) rfl rfl rfl ?_); simp only [go_sem, ↓reduceIte, List.length_map]) | (refine AW.seq_k fun K hK => ?_) | (refine AW.block ?_) | (refine AW.skip ?_; simp only [Then, InBlock]) | (refine AW.exit ?_; simp only [go_sem, ↓reduceIte]) | (refine AW.cF ?_) | (refine hK _ ?_; clear hK K) | (clear hK K; refine hK _ ?_; clear hK K))
   have d0 : dv [] = [] := rfl
   refine AW.weak (?wk : Weak cx _ (⟨99, [(53, I 0), (52, I ps.length), (51, .d (.sl (ps.map paD))), (3, .ptr 1152 0), (2, .ptr 64 0), (0, .ptr 0 0)], [(0, some (Stm l q.2)), (64, some (O.box 31 [.nils, .nils, .nils, .nils, .nils, I 0, I 0])), (1152, some (O.box 31 [.d (.sl (sh.map quD)), .d (.sl (ps.map paD)), .slr 1472 0 0, .slr 1536 0 0, .d (.sl (ch.map D.str)), I due, I rep])), (1472, some (O.vec 60 2 [])), (1536, some (O.vec 60 2 []))], 71⟩ : St)) ?_
   case wk => exact (Weak.oC hcx [(64, 64), (1152, 1152), (1472, 1472), (1536, 1536)] (by refine ⟨?_, ?_, ?_⟩ <;> simp [go_sem, gL, kL, List.map_append, dv_push, toDL_dvF]))
   refine AW.loopF (ι := Nat × List Pr × List Pr × Int) [0, 2, 3, 51, 52] (fun p => [(53, I p.1)]) (fun p => [(0, some (Stm l p.2.2.2)), (64, some (O.box 31 [.nils, .nils, .nils, .nils, .nils, I 0, I 0])), (1152, some (O.box 31 [.d (.sl (sh.map quD)), .d (.sl (ps.map paD)), .slr 1472 0 p.2.1.length, .slr 1536 0 p.2.2.1.length, .d (.sl (ch.map D.str)), I due, I rep])), (1472, some (O.vec 60 2 (dv (p.2.1.map prD)))), (1536, some (O.vec 60 2 (dv (p.2.2.1.map prD))))]) 71 (fun p => p.1 ≤ ps.length ∧ (p.2.1.length ≤ 4 * p.1 ∧ ∀ c ∈ p.2.1, c.1 ∈ IdS ∧ c.2 ∈ Wh4) ∧ (p.2.2.1.length ≤ 4 * p.1 ∧ ∀ c ∈ p.2.2.1, c.1 ∈ IdS ∧ c.2 ∈ Wh4) ∧ q.2 ≤ p.2.2.2 ∧ p.2.2.2 ≤ q.2 + 4 * p.1) (fun p => ps.length - p.1) (0, [], [], q.2) ⟨by simp, ⟨by simp, by simp⟩, ⟨by simp, by simp⟩, by simp, by simp⟩ (Weak.oC hcx [(64, 64), (1152, 1152), (1472, 1472), (1536, 1536)] (by refine ⟨?_, ?_, ?_⟩ <;> simp [go_sem, gL, kL, List.map_append, dv_push, d0, toDL_dvF])) ?_; simp only [St.at_nil, St.at_cons, lk, Nat.reduceEqDiff, ↓reduceIte, Option.getD_some, Option.getD_none, List.cons_append, List.nil_append, List.append_nil]
   rintro ⟨i, prs, bas, a⟩ ⟨g1, ⟨g2, g3⟩, ⟨g4, g5⟩, g6, g7⟩
   dsimp only at g1 g2 g3 g4 g5 g6 g7 ⊢
   by_cases hi2 : i < ps.length
   ·obtain ⟨pp, hp, hpm, -⟩ := get_some hi2
    have hget : (ps.map paD)[i]? = some (paD pp) := by simp only [List.getElem?_map, hp, Option.map_some]
    repeat' (first | (refine AW.sreg rfl fun K hK => ?_; simp only [go_sem, ↓reduceIte, hget, List.length_map]) | (refine AW.seq_k fun K hK => ?_) | (refine AW.block ?_) | (refine AW.skip ?_; simp only [Then, InBlock]) | (refine AW.cT ?_) | (refine hK _ ?_; clear hK K) | (with_reducible refine andI ?_))
    have d4 : dv (Wh4.map D.str) = [V.d (D.str [98, 111, 98]), V.d (D.str [99, 105, 100]), V.d (D.str [100, 101, 101]), V.d (D.str [102, 97, 121])] := rfl
    refine AW.loopF (ι := Nat × List Pr × List Pr × Int) [0, 2, 3, 7, 51, 52, 53, 57, 58] (fun p => [(59, I p.1)]) (fun p => [(0, some (Stm l p.2.2.2)), (64, some (O.box 31 [.nils, .nils, .nils, .nils, .nils, I 0, I 0])), (1152, some (O.box 31 [.d (.sl (sh.map quD)), .d (.sl (ps.map paD)), .slr 1472 0 p.2.1.length, .slr 1536 0 p.2.2.1.length, .d (.sl (ch.map D.str)), I due, I rep])), (1472, some (O.vec 60 2 (dv (p.2.1.map prD)))), (1536, some (O.vec 60 2 (dv (p.2.2.1.map prD)))), (4736, some (O.box 56 [S pp.1, S pp.2.1, S pp.2.2.1, .d (.sl (pp.2.2.2.1.map D.str)), .d (.sl (pp.2.2.2.2.map D.str))])), (4864, some (SV Wh4))]) 82 (fun p => p.1 ≤ 4 ∧ (p.2.1.length ≤ 4 * i + p.1 ∧ ∀ c ∈ p.2.1, c.1 ∈ IdS ∧ c.2 ∈ Wh4) ∧ (p.2.2.1.length ≤ 4 * i + p.1 ∧ ∀ c ∈ p.2.2.1, c.1 ∈ IdS ∧ c.2 ∈ Wh4) ∧ q.2 ≤ p.2.2.2 ∧ p.2.2.2 ≤ q.2 + 4 * i + p.1) (fun p => 4 - p.1) (0, prs, bas, a) ⟨by simp, ⟨by simp only; omega, g3⟩, ⟨by simp only; omega, g5⟩, by simp only; omega, by simp only; omega⟩ (Weak.oC hcx [(64, 64), (1152, 1152), (1472, 1472), (1536, 1536), (4736, 4736), (4864, 4864)] (by refine ⟨?_, ?_, ?_⟩ <;> simp [go_sem, gL, kL, List.map_append, dv_push, d4])) ?_; simp only [St.at_nil, St.at_cons, lk, Nat.reduceEqDiff, ↓reduceIte, Option.getD_some, Option.getD_none, List.cons_append, List.nil_append, List.append_nil]
    rintro ⟨j, prs2, bas2, b⟩ ⟨k1, ⟨k2, k3⟩, ⟨k4, k5⟩, k6, k7⟩
    dsimp only at k1 k2 k3 k4 k5 k6 k7 ⊢
    have kl1 : prs2.length ≤ 16 := by omega
    have kl2 : bas2.length ≤ 16 := by omega
    by_cases hj : j < 4
    ·obtain ⟨x, hx, hxm, -⟩ := get_some (l := Wh4) (i := j) (by simpa [Wh4] using hj)
     have hgx : (dv (Wh4.map D.str))[0 + j]? = some (.d (.str x)) := by simp only [dv, Nat.zero_add, List.getElem?_map, hx, Option.map_some]
     have hap : ∀ cs : List Pr, (∀ c ∈ cs, c.1 ∈ IdS ∧ c.2 ∈ Wh4) → ∀ c ∈ cs ++ [(pp.1, x)], c.1 ∈ IdS ∧ c.2 ∈ Wh4 := by
      intro cs hcs c hc
      rcases List.mem_append.1 hc with hc | hc
      ·exact hcs c hc
      ·obtain rfl := List.mem_singleton.1 hc
       exact ⟨(h3 pp hpm).1.id, hxm⟩
     have hct := contains_St pp.2.2.2.1 (by have := (h3 pp hpm).1.aul; omega) x
     generalize (pp.2.2.2.1.any fun y => x == y) = cb at hct
     have n4 := next_any l hl2 b 4 (by omega) (by omega) (by omega) (by omega)
     have r4 := nextV_range l b 4 (by omega)
     generalize nextV l b 4 = kk at n4 r4
     have hkk : kk = 0 ∨ (kk = 1 ∨ kk = 2) ∨ kk = 3 := by omega
     rcases hkk with rfl | hkk | rfl
     ·repeat' (first | ((first | refine AW.sreg rfl fun K hK => ?_ | refine AW.reg rfl ?_ | refine run_call _ _ _ ((n4).objA [0]) rfl rfl (dstOk_of rfl) rfl rfl rfl ?_); simp only [go_sem, ↓reduceIte, hgx, List.length_map]) | (refine AW.seq_k fun K hK => ?_) | (refine AW.block ?_) | (refine AW.skip ?_; simp only [Then, InBlock]) | (refine AW.cT ?_) | (refine hK _ ?_; clear hK K) | (with_reducible refine andI ?_))
      exact ⟨(j + 1, prs2, bas2 ++ [(pp.1, x)], b + 1), ⟨by simp only; omega, ⟨by simp only; omega, k3⟩, ⟨by simp; omega, hap _ k5⟩, by simp only; omega, by simp only; omega⟩, by simp only; omega, (Weak.oC hcx [(64, 64), (1152, 1152), (1472, 1472), (1536, 6336), (4736, 4736), (4864, 4864)] (by refine ⟨?_, ?_, ?_⟩ <;> simp [go_sem, gL, kL, List.map_append, dv_push]))⟩
     ·have e1 : (kk == 0) = false := beq_eq_false_iff_ne.2 (by omega)
      have e2 : decide (kk < 3) = true := decide_eq_true (by omega)
      cases cb
      ·repeat' (first | ((first | refine AW.sreg rfl fun K hK => ?_ | refine AW.reg rfl ?_ | refine run_call _ _ _ ((n4).objA [0]) rfl rfl (dstOk_of rfl) rfl rfl rfl ?_ | refine run_call _ _ _ ((hct).pure rfl rfl _ _) rfl rfl (dstOk_of rfl) rfl rfl rfl ?_); simp only [go_sem, ↓reduceIte, hgx, List.length_map, e1, e2]) | (refine AW.seq_k fun K hK => ?_) | (refine AW.block ?_) | (refine AW.skip ?_; simp only [Then, InBlock]) | (refine AW.cT ?_) | (refine AW.cF ?_) | (refine hK _ ?_; clear hK K) | (with_reducible refine andI ?_))
       exact ⟨(j + 1, prs2 ++ [(pp.1, x)], bas2, b + 1), ⟨by simp only; omega, ⟨by simp; omega, hap _ k3⟩, ⟨by simp only; omega, k5⟩, by simp only; omega, by simp only; omega⟩, by simp only; omega, (Weak.oC hcx [(64, 64), (1152, 1152), (1472, 6976), (1536, 1536), (4736, 4736), (4864, 4864)] (by refine ⟨?_, ?_, ?_⟩ <;> simp [go_sem, gL, kL, List.map_append, dv_push]))⟩
      ·repeat' (first | ((first | refine AW.sreg rfl fun K hK => ?_ | refine AW.reg rfl ?_ | refine run_call _ _ _ ((n4).objA [0]) rfl rfl (dstOk_of rfl) rfl rfl rfl ?_ | refine run_call _ _ _ ((hct).pure rfl rfl _ _) rfl rfl (dstOk_of rfl) rfl rfl rfl ?_); simp only [go_sem, ↓reduceIte, hgx, List.length_map, e1, e2]) | (refine AW.seq_k fun K hK => ?_) | (refine AW.block ?_) | (refine AW.skip ?_; simp only [Then, InBlock]) | (refine AW.cT ?_) | (refine AW.cF ?_) | (refine hK _ ?_; clear hK K) | (with_reducible refine andI ?_))
       exact ⟨(j + 1, prs2, bas2, b + 1), ⟨by simp only; omega, ⟨by simp only; omega, k3⟩, ⟨by simp only; omega, k5⟩, by simp only; omega, by simp only; omega⟩, by simp only; omega, (Weak.oC hcx [(64, 64), (1152, 1152), (1472, 1472), (1536, 1536), (4736, 4736), (4864, 4864)] (by refine ⟨?_, ?_, ?_⟩ <;> simp [go_sem, gL, kL, List.map_append, dv_push]))⟩
     ·repeat' (first | ((first | refine AW.sreg rfl fun K hK => ?_ | refine AW.reg rfl ?_ | refine run_call _ _ _ ((n4).objA [0]) rfl rfl (dstOk_of rfl) rfl rfl rfl ?_); simp only [go_sem, ↓reduceIte, hgx, List.length_map]) | (refine AW.seq_k fun K hK => ?_) | (refine AW.block ?_) | (refine AW.skip ?_; simp only [Then, InBlock]) | (refine AW.cT ?_) | (refine AW.cF ?_) | (refine hK _ ?_; clear hK K) | (refine stepB_split (fun h => ?_) (fun h => ?_) <;> (have hb0 := h) <;> (try simp only [Bool.not_eq_true', Bool.not_eq_false'] at hb0) <;> (try simp only [decide_eq_true_eq, decide_eq_false_iff_not, Bool.not_eq_true', Bool.not_eq_false', Bool.not_eq_eq_eq_not, Bool.not_true, Bool.not_false, beq_iff_eq, bne_iff_ne, beq_eq_false_iff_ne, ne_eq, Bool.and_eq_true, Bool.or_eq_true, Bool.or_eq_false_iff] at h) <;> simp only [go_sem, ↓reduceIte, hb0, h, decide_true, decide_false, hgx, List.length_map] <;> (try clear hb0)) | (with_reducible refine andI ?_) | (exfalso; omega))
      exact ⟨(j + 1, prs2, bas2, b + 1), ⟨by simp only; omega, ⟨by simp only; omega, k3⟩, ⟨by simp only; omega, k5⟩, by simp only; omega, by simp only; omega⟩, by simp only; omega, (Weak.oC hcx [(64, 64), (1152, 1152), (1472, 1472), (1536, 1536), (4736, 4736), (4864, 4864)] (by refine ⟨?_, ?_, ?_⟩ <;> simp [go_sem, gL, kL, List.map_append, dv_push]))⟩
    ·obtain rfl : j = 4 := by omega
     repeat' (first | ((first | refine AW.sreg rfl fun K hK => ?_ | refine AW.reg rfl ?_); simp only [go_sem, ↓reduceIte, List.length_map]) | (refine AW.seq_k fun K hK => ?_) | (refine AW.exit ?_; simp only [go_sem, ↓reduceIte]) | (refine AW.cF ?_) | (refine hK _ ?_; clear hK K) | (clear hK K; refine hK _ ?_; clear hK K) | (with_reducible refine andI ?_))
     exact ⟨(i + 1, prs2, bas2, b), ⟨by simp only; omega, ⟨by simp only; omega, k3⟩, ⟨by simp only; omega, k5⟩, by simp only; omega, by simp only; omega⟩, by simp only; omega, (Weak.oC hcx [(64, 64), (1152, 1152), (1472, 1472), (1536, 1536)] (by refine ⟨?_, ?_, ?_⟩ <;> simp [go_sem, gL, kL, List.map_append, dv_push]))⟩
   ·obtain rfl : i = ps.length := by omega
    repeat' (first | (refine AW.sreg rfl fun K hK => ?_; simp only [go_sem, ↓reduceIte, List.length_map]) | (refine AW.seq_k fun K hK => ?_) | (refine AW.exit ?_; simp only [go_sem, ↓reduceIte]) | (refine AW.cF ?_) | (refine hK _ ?_; clear hK K) | (clear hK K; refine hK _ ?_; clear hK K))
    refine AW.ret ⟨(⟨sh, ps, prs, bas, ch, due, rep⟩, a), ⟨⟨hsh, hpl, h3, by simp only; omega, g3, by simp only; omega, g5, hch, hdue, hrep⟩, by simp only; omega, by simp only; omega⟩, Fin.one rfl ?_ ⟨_, rfl, by simp [go_sem]⟩ rfl rfl rfl⟩
    have f1 : ∀ hv keep, keep 1472 = false → hv 1472 = some (.vec 60 2 (dv (prs.map prD))) → frz hv keep (.slr 1472 0 prs.length) = .d (.sl (prs.map prD)) := fun hv keep e1 e2 => frz_slr e1 e2 (by simp)
    have f2 : ∀ hv keep, keep 1536 = false → hv 1536 = some (.vec 60 2 (dv (bas.map prD))) → frz hv keep (.slr 1536 0 bas.length) = .d (.sl (bas.map prD)) := fun hv keep e1 e2 => frz_slr e1 e2 (by simp)
    show frz _ _ (.agg [_, _, .slr 1472 0 prs.length, .slr 1536 0 bas.length, _, _, _]) = _
    rw [frz, frzL, frzL, frzL, frzL, frzL, frzL, frzL, frzL, f1 _ _ rfl rfl, f2 _ _ rfl rfl]
    rfl
end Go.AX

namespace Go.AX
open Go Go.Proofs Go.RowKit
def W4 : List Str := [[97, 10], [10], [121, 101, 115, 32, 97, 110, 100, 32, 110, 111, 10], [111, 110, 101, 10, 10, 116, 119, 111, 10]]
theorem answersI (l : List Int) (hl2 : l.length ≤ 9223372036854775807) (at_ : Int) (ha : 0 ≤ at_) (hb : at_ ≤ 90000) {sh : List Qu} (h : ShR sh) :
  DoesI Tryz.prog 44 [.ptr 0 0, .d (.sl (sh.map quD))] [Stm l at_] (fun q : List An × Int => (q.1.length ≤ 5 ∧ ∀ a ∈ q.1, AnB a) ∧ at_ ≤ q.2 ∧ q.2 ≤ at_ + 18) (fun q => .d (.sl (q.1.map anD))) (fun q => [Stm l q.2]) := by
 have hsl := h.len
 refine DoesI.of_AW (n := 92) Tryz.func44 rfl rfl rfl fun cx hcx => ?_
 repeat' (first | (refine AW.sreg rfl fun K hK => ?_; simp only [go_sem, ↓reduceIte, List.length_map]) | (refine AW.seq_k fun K hK => ?_) | (refine AW.block ?_) | (refine hK _ ?_; clear hK K))
 refine AW.weak (Weak.nil 5 62 4 rfl) ?_
 refine AW.loopF (ι := Nat × List An × Int) [0, 10, 11] (fun p => [(12, I p.1), (5, .slr 192 0 p.2.1.length)]) (fun p => [(0, some (Stm l p.2.2)), (192, some (O.vec 62 4 (dv (p.2.1.map anD))))]) 12 (fun p => p.1 ≤ sh.length ∧ (p.2.1.length ≤ p.1 ∧ ∀ a ∈ p.2.1, AnB a) ∧ at_ ≤ p.2.2 ∧ p.2.2 ≤ at_ + 3 * p.1) (fun p => sh.length - p.1) (0, [], at_) ⟨by simp, ⟨by simp, by simp⟩, by simp, by simp⟩ (Weak.aC hcx (by refine ⟨?_, ?_, ?_⟩ <;> simp [go_sem, gL, kL, renOf, V.obj, Nat.blt, Nat.ble, List.map_append, dv_push, dv])) ?_; simp only [St.at_nil, St.at_cons, lk, Nat.reduceEqDiff, ↓reduceIte, Option.getD_some, Option.getD_none, List.cons_append, List.nil_append, List.append_nil]
 rintro ⟨i, out, a⟩ ⟨h1, ⟨h2, h3⟩, h4, h5⟩
 dsimp only at h1 h2 h3 h4 h5 ⊢
 by_cases hi : i < sh.length
 rotate_left
 ·obtain rfl : i = sh.length := by omega
  have h2' : out.length ≤ 4 := by omega
  repeat' (first | ((first | refine AW.sreg rfl fun K hK => ?_ | refine AW.reg rfl ?_); simp only [go_sem, ↓reduceIte, List.length_map]) | (refine AW.seq_k fun K hK => ?_) | (refine AW.skip ?_; simp only [Then, InBlock]) | (refine AW.exit ?_; simp only [go_sem, ↓reduceIte]) | (refine AW.cF ?_) | (refine AW.cond rfl (fun h => ?_) (fun h => ?_) <;> (try simp only [decide_eq_true_eq, decide_eq_false_iff_not, Bool.not_eq_true', Bool.not_eq_false', Bool.not_eq_eq_eq_not, Bool.not_true, Bool.not_false, beq_iff_eq, bne_iff_ne, beq_eq_false_iff_ne, ne_eq, Bool.and_eq_true, Bool.or_eq_true, Bool.or_eq_false_iff] at h)) | (refine hK _ ?_; clear hK K) | (clear hK K; refine hK _ ?_; clear hK K) | (refine run_callI _ _ _ ((flipI l hl2 _ _ (by omega) (by omega) (by omega) (by omega)).objs [0] ⟨rfl, trivial⟩ rfl (by decide) (by simp [go_sem, renOs]) (by simp [go_sem]) (by simp [go_sem]) (fun j hj => ⟨by simp, by simp, by simp [go_sem], by simp [go_sem]⟩)) rfl rfl (dstOk_of rfl) rfl rfl rfl ?_; rintro r hr; (try dsimp only at r); (try dsimp only at hr); simp only [go_sem, ↓reduceIte, List.length_map]) | (refine run_callI _ _ _ ((one10I l hl2 _ (by omega) (by omega) [[115, 99, 111, 114, 101], [110, 111, 110, 101], [110, 111, 116, 101], [100, 101, 112, 116, 104]] (by simp) (by simp)).objs [0, _] ⟨rfl, rfl, trivial⟩ rfl (by decide) (by simp [go_sem, renOs]) (by simp [go_sem]) (by simp [go_sem]) (fun j hj => ⟨by simp, by simp, by simp [go_sem], by simp [go_sem]⟩)) rfl rfl (dstOk_of rfl) rfl rfl rfl ?_; rintro s1 hs1; (try dsimp only at s1); (try dsimp only at hs1); simp only [go_sem, ↓reduceIte, List.length_map]) | (refine run_callI _ _ _ ((odd10I l hl2 _ 0 10 (by omega) (by omega) (by omega) (by omega) (by omega)).objs [0] ⟨rfl, trivial⟩ rfl (by decide) (by simp [go_sem, renOs]) (by simp [go_sem]) (by simp [go_sem]) (fun j hj => ⟨by simp, by simp, by simp [go_sem], by simp [go_sem]⟩)) rfl rfl (dstOk_of rfl) rfl rfl rfl ?_; rintro od hod; (try dsimp only at od); (try dsimp only at hod); simp only [go_sem, ↓reduceIte, List.length_map]) | (refine run_callI _ _ _ ((one10I l hl2 _ (by omega) (by omega) [[], [], [121, 101, 115]] (by simp) (by simp)).objs [0, _] ⟨rfl, rfl, trivial⟩ rfl (by decide) (by simp [go_sem, renOs]) (by simp [go_sem]) (by simp [go_sem]) (fun j hj => ⟨by simp, by simp, by simp [go_sem], by simp [go_sem]⟩)) rfl rfl (dstOk_of rfl) rfl rfl rfl ?_; rintro s2 hs2; (try dsimp only at s2); (try dsimp only at hs2); simp only [go_sem, ↓reduceIte, List.length_map]) | (refine run_callI _ _ _ ((one10I l hl2 _ (by omega) (by omega) [[], [], [120], [10]] (by simp) (by simp)).objs [0, _] ⟨rfl, rfl, trivial⟩ rfl (by decide) (by simp [go_sem, renOs]) (by simp [go_sem]) (by simp [go_sem]) (fun j hj => ⟨by simp, by simp, by simp [go_sem], by simp [go_sem]⟩)) rfl rfl (dstOk_of rfl) rfl rfl rfl ?_; rintro s3 hs3; (try dsimp only at s3); (try dsimp only at hs3); simp only [go_sem, ↓reduceIte, List.length_map]) | (with_reducible refine andI ?_))
  ·have hx : ∀ y ∈ out ++ [(s1, od.1, s2, s3)], AnB y := by
    intro y hy
    rcases List.mem_append.1 hy with hy | hy
    ·exact h3 y hy
    ·obtain rfl := List.mem_singleton.1 hy
     refine ⟨(show ∀ s ∈ ([[115, 99, 111, 114, 101], [110, 111, 110, 101], [110, 111, 116, 101], [100, 101, 112, 116, 104]] : List Str), s.length ≤ 1000 by decide) _ hs1, (show ∀ s ∈ ([[], [], [121, 101, 115]] : List Str), s.length ≤ 1000 by decide) _ hs2, (show ∀ s ∈ ([[], [], [120], [10]] : List Str), s.length ≤ 10000 by decide) _ hs3⟩
   exact AW.ret ⟨(out ++ [(s1, od.1, s2, s3)], od.2 + 1 + 1), ⟨⟨by simp; omega, hx⟩, by simp only; omega, by simp only; omega⟩, Fin.one rfl ((frz_slr (e := 62) (s := 4) (xs := (out ++ [(s1, od.1, s2, s3)]).map anD) rfl (by simp [go_sem, dv]) (by simp)).trans (by simp [go_sem])) ⟨_, rfl, by simp [go_sem]⟩ rfl rfl rfl⟩
  ·exact AW.ret ⟨(out, a + 1), ⟨⟨by simp only; omega, h3⟩, by simp only; omega, by simp only; omega⟩, Fin.one rfl ((frz_slr rfl rfl (by simp)).trans (by simp [go_sem])) ⟨_, rfl, by simp [go_sem]⟩ rfl rfl rfl⟩
 ·obtain ⟨q, hq, hqm, -⟩ := get_some hi
  have hget : (sh.map quD)[i]? = some (quD q) := by simp only [List.getElem?_map, hq, Option.map_some]
  have hqo := h.ok q hqm
  have hkl := (key_KQ _ (h.mem hqm)).2
  clear hq hqm
  obtain ⟨k, kd, mo, op, nd, sc⟩ := q
  unfold QuOk at hqo
  dsimp only at hqo hkl
  have h2' : out.length ≤ 4 := by omega
  have hap : ∀ x : An, AnB x → ∀ y ∈ out ++ [x], AnB y := by
   intro x hx y hy
   rcases List.mem_append.1 hy with hy | hy
   ·exact h3 y hy
   ·obtain rfl := List.mem_singleton.1 hy
    exact hx
  have hmx : 0 ≤ (if (if (10 : Int) < mo then 10 else mo) > 0 then if (10 : Int) < mo then 10 else mo else 0) := by split <;> omega
  have hmx2 : (if (if (10 : Int) < mo then 10 else mo) > 0 then if (10 : Int) < mo then 10 else mo else 0) ≤ 10 := by split <;> (try split) <;> omega
  rcases hqo with ⟨rfl, ⟨m1, m2⟩, rfl⟩ | ⟨rfl, ⟨m1, m2⟩, rfl⟩ | ⟨rfl, rfl, rfl⟩
  ·have hs0 : ∀ n : Int, AnB (k, n, [], []) := fun n => ⟨by simp only; omega, by simp, by simp⟩
   cases nd
   ·repeat' (first | ((first | refine AW.sreg rfl fun K hK => ?_ | refine AW.reg rfl ?_); simp only [go_sem, ↓reduceIte, hget, List.length_map]) | (refine AW.seq_k fun K hK => ?_) | (refine AW.block ?_) | (refine AW.skip ?_; simp only [Then, InBlock]) | (refine AW.exit ?_; simp only [go_sem, ↓reduceIte]) | (refine AW.cT ?_) | (refine AW.cond rfl (fun h => ?_) (fun h => ?_) <;> (try simp only [decide_eq_true_eq, decide_eq_false_iff_not, Bool.not_eq_true', Bool.not_eq_false', Bool.not_eq_eq_eq_not, Bool.not_true, Bool.not_false, beq_iff_eq, bne_iff_ne, beq_eq_false_iff_ne, ne_eq, Bool.and_eq_true, Bool.or_eq_true, Bool.or_eq_false_iff] at h)) | (refine hK _ ?_; clear hK K) | (clear hK K; refine hK _ ?_; clear hK K) | (refine stepB_split (fun h => ?_) (fun h => ?_) <;> (have hb0 := h) <;> (try simp only [Bool.not_eq_true', Bool.not_eq_false'] at hb0) <;> (try simp only [decide_eq_true_eq, decide_eq_false_iff_not, Bool.not_eq_true', Bool.not_eq_false', Bool.not_eq_eq_eq_not, Bool.not_true, Bool.not_false, beq_iff_eq, bne_iff_ne, beq_eq_false_iff_ne, ne_eq, Bool.and_eq_true, Bool.or_eq_true, Bool.or_eq_false_iff] at h) <;> simp only [go_sem, ↓reduceIte, hb0, h, decide_true, decide_false, hget, List.length_map] <;> (try clear hb0)) | (refine run_callI _ _ _ ((flipI l hl2 _ _ (by omega) (by omega) (by omega) (by omega)).objs [0] ⟨rfl, trivial⟩ rfl (by decide) (by simp [go_sem, renOs]) (by simp [go_sem]) (by simp [go_sem]) (fun j hj => ⟨by simp, by simp, by simp [go_sem], by simp [go_sem]⟩)) rfl rfl (dstOk_of rfl) rfl rfl rfl ?_; rintro r hr; (try dsimp only at r); (try dsimp only at hr); simp only [go_sem, ↓reduceIte, hget, List.length_map]) | (refine run_callI _ _ _ ((rangeI l hl2 _ 0 _ hmx (by omega) (by omega) (by omega) (by omega)).objs [0] ⟨rfl, trivial⟩ rfl (by decide) (by simp [go_sem, renOs]) (by simp [go_sem]) (by simp [go_sem]) (fun j hj => ⟨by simp, by simp, by simp [go_sem], by simp [go_sem]⟩)) rfl rfl (dstOk_of rfl) rfl rfl rfl ?_; rintro n hn; (try dsimp only at n); (try dsimp only at hn); simp only [go_sem, ↓reduceIte, hget, List.length_map]) | (with_reducible refine andI ?_))
    ·exact ⟨(i + 1, out, a + 1 + 1), ⟨by simp only; omega, ⟨by simp only; omega, h3⟩, by simp only; omega, by simp only; omega⟩, by simp only; omega, (Weak.aC hcx (by refine ⟨?_, ?_, ?_⟩ <;> simp [go_sem, gL, kL, renOf, V.obj, Nat.blt, Nat.ble, List.map_append, dv_push]))⟩
    ·exact ⟨(i + 1, out ++ [(k, n, [], [])], a + 1 + 1 + 1), ⟨by simp only; omega, ⟨by simp; omega, hap (k, n, [], []) (hs0 n)⟩, by simp only; omega, by simp only; omega⟩, by simp only; omega, (Weak.aC hcx (by refine ⟨?_, ?_, ?_⟩ <;> simp [go_sem, gL, kL, renOf, V.obj, Nat.blt, Nat.ble, List.map_append, dv_push]))⟩
    ·exact ⟨(i + 1, out, a + 1), ⟨by simp only; omega, ⟨by simp only; omega, h3⟩, by simp only; omega, by simp only; omega⟩, by simp only; omega, (Weak.aC hcx (by refine ⟨?_, ?_, ?_⟩ <;> simp [go_sem, gL, kL, renOf, V.obj, Nat.blt, Nat.ble, List.map_append, dv_push]))⟩
   ·repeat' (first | ((first | refine AW.sreg rfl fun K hK => ?_ | refine AW.reg rfl ?_); simp only [go_sem, ↓reduceIte, hget, List.length_map]) | (refine AW.seq_k fun K hK => ?_) | (refine AW.block ?_) | (refine AW.skip ?_; simp only [Then, InBlock]) | (refine AW.exit ?_; simp only [go_sem, ↓reduceIte]) | (refine AW.cT ?_) | (refine AW.cond rfl (fun h => ?_) (fun h => ?_) <;> (try simp only [decide_eq_true_eq, decide_eq_false_iff_not, Bool.not_eq_true', Bool.not_eq_false', Bool.not_eq_eq_eq_not, Bool.not_true, Bool.not_false, beq_iff_eq, bne_iff_ne, beq_eq_false_iff_ne, ne_eq, Bool.and_eq_true, Bool.or_eq_true, Bool.or_eq_false_iff] at h)) | (refine hK _ ?_; clear hK K) | (clear hK K; refine hK _ ?_; clear hK K) | (refine run_callI _ _ _ ((flipI l hl2 _ _ (by omega) (by omega) (by omega) (by omega)).objs [0] ⟨rfl, trivial⟩ rfl (by decide) (by simp [go_sem, renOs]) (by simp [go_sem]) (by simp [go_sem]) (fun j hj => ⟨by simp, by simp, by simp [go_sem], by simp [go_sem]⟩)) rfl rfl (dstOk_of rfl) rfl rfl rfl ?_; rintro r hr; (try dsimp only at r); (try dsimp only at hr); simp only [go_sem, ↓reduceIte, hget, List.length_map]) | (refine run_callI _ _ _ ((rangeI l hl2 _ 0 _ hmx (by omega) (by omega) (by omega) (by omega)).objs [0] ⟨rfl, trivial⟩ rfl (by decide) (by simp [go_sem, renOs]) (by simp [go_sem]) (by simp [go_sem]) (fun j hj => ⟨by simp, by simp, by simp [go_sem], by simp [go_sem]⟩)) rfl rfl (dstOk_of rfl) rfl rfl rfl ?_; rintro n hn; (try dsimp only at n); (try dsimp only at hn); simp only [go_sem, ↓reduceIte, hget, List.length_map]) | (with_reducible refine andI ?_))
    ·exact ⟨(i + 1, out, a + 1), ⟨by simp only; omega, ⟨by simp only; omega, h3⟩, by simp only; omega, by simp only; omega⟩, by simp only; omega, (Weak.aC hcx (by refine ⟨?_, ?_, ?_⟩ <;> simp [go_sem, gL, kL, renOf, V.obj, Nat.blt, Nat.ble, List.map_append, dv_push]))⟩
    ·exact ⟨(i + 1, out ++ [(k, n, [], [])], a + 1 + 1), ⟨by simp only; omega, ⟨by simp; omega, hap (k, n, [], []) (hs0 n)⟩, by simp only; omega, by simp only; omega⟩, by simp only; omega, (Weak.aC hcx (by refine ⟨?_, ?_, ?_⟩ <;> simp [go_sem, gL, kL, renOf, V.obj, Nat.blt, Nat.ble, List.map_append, dv_push]))⟩
  ·have hs1 : ∀ w : Str, w.length ≤ 10000 → AnB (k, 0, [], w) := fun w hw => ⟨by simp only; omega, by simp, hw⟩
   have hw4 : ∀ w ∈ W4, w.length ≤ 10000 := by decide
   cases nd
   ·repeat' (first | ((first | refine AW.sreg rfl fun K hK => ?_ | refine AW.reg rfl ?_); simp only [go_sem, ↓reduceIte, hget, List.length_map]) | (refine AW.seq_k fun K hK => ?_) | (refine AW.block ?_) | (refine AW.skip ?_; simp only [Then, InBlock]) | (refine AW.exit ?_; simp only [go_sem, ↓reduceIte]) | (refine AW.cT ?_) | (refine AW.cF ?_) | (refine AW.cond rfl (fun h => ?_) (fun h => ?_) <;> (try simp only [decide_eq_true_eq, decide_eq_false_iff_not, Bool.not_eq_true', Bool.not_eq_false', Bool.not_eq_eq_eq_not, Bool.not_true, Bool.not_false, beq_iff_eq, bne_iff_ne, beq_eq_false_iff_ne, ne_eq, Bool.and_eq_true, Bool.or_eq_true, Bool.or_eq_false_iff] at h)) | (refine hK _ ?_; clear hK K) | (clear hK K; refine hK _ ?_; clear hK K) | (refine stepB_split (fun h => ?_) (fun h => ?_) <;> (have hb0 := h) <;> (try simp only [Bool.not_eq_true', Bool.not_eq_false'] at hb0) <;> (try simp only [decide_eq_true_eq, decide_eq_false_iff_not, Bool.not_eq_true', Bool.not_eq_false', Bool.not_eq_eq_eq_not, Bool.not_true, Bool.not_false, beq_iff_eq, bne_iff_ne, beq_eq_false_iff_ne, ne_eq, Bool.and_eq_true, Bool.or_eq_true, Bool.or_eq_false_iff] at h) <;> simp only [go_sem, ↓reduceIte, hb0, h, decide_true, decide_false, hget, List.length_map] <;> (try clear hb0)) | (refine run_callI _ _ _ ((flipI l hl2 _ _ (by omega) (by omega) (by omega) (by omega)).objs [0] ⟨rfl, trivial⟩ rfl (by decide) (by simp [go_sem, renOs]) (by simp [go_sem]) (by simp [go_sem]) (fun j hj => ⟨by simp, by simp, by simp [go_sem], by simp [go_sem]⟩)) rfl rfl (dstOk_of rfl) rfl rfl rfl ?_; rintro r hr; (try dsimp only at r); (try dsimp only at hr); simp only [go_sem, ↓reduceIte, hget, List.length_map]) | (refine run_callI _ _ _ ((one10I l hl2 _ (by omega) (by omega) W4 (by simp [W4]) (by simp [W4])).objs [0, _] ⟨rfl, rfl, trivial⟩ rfl (by decide) (by simp [go_sem, renOs]) (by simp [go_sem]) (by simp [go_sem]) (fun j hj => ⟨by simp, by simp, by simp [go_sem], by simp [go_sem]⟩)) rfl rfl (dstOk_of rfl) rfl rfl rfl ?_; rintro wd hwd; (try dsimp only at wd); (try dsimp only at hwd); simp only [go_sem, ↓reduceIte, hget, List.length_map]) | (with_reducible refine andI ?_))
    ·exact ⟨(i + 1, out, a + 1 + 1), ⟨by simp only; omega, ⟨by simp only; omega, h3⟩, by simp only; omega, by simp only; omega⟩, by simp only; omega, (Weak.aC hcx (by refine ⟨?_, ?_, ?_⟩ <;> simp [go_sem, gL, kL, renOf, V.obj, Nat.blt, Nat.ble, List.map_append, dv_push]))⟩
    ·exact ⟨(i + 1, out ++ [(k, 0, [], [10])], a + 1 + 1 + 1), ⟨by simp only; omega, ⟨by simp; omega, hap (k, 0, [], [10]) (hs1 _ (by simp))⟩, by simp only; omega, by simp only; omega⟩, by simp only; omega, (Weak.aC hcx (by refine ⟨?_, ?_, ?_⟩ <;> simp [go_sem, gL, kL, renOf, V.obj, Nat.blt, Nat.ble, List.map_append, dv_push]))⟩
    ·exact ⟨(i + 1, out ++ [(k, 0, [], wd)], a + 1 + 1 + 1), ⟨by simp only; omega, ⟨by simp; omega, hap (k, 0, [], wd) (hs1 _ (hw4 _ hwd))⟩, by simp only; omega, by simp only; omega⟩, by simp only; omega, (Weak.aC hcx (by refine ⟨?_, ?_, ?_⟩ <;> simp [go_sem, gL, kL, renOf, V.obj, Nat.blt, Nat.ble, List.map_append, dv_push]))⟩
    ·exact ⟨(i + 1, out, a + 1), ⟨by simp only; omega, ⟨by simp only; omega, h3⟩, by simp only; omega, by simp only; omega⟩, by simp only; omega, (Weak.aC hcx (by refine ⟨?_, ?_, ?_⟩ <;> simp [go_sem, gL, kL, renOf, V.obj, Nat.blt, Nat.ble, List.map_append, dv_push]))⟩
   ·repeat' (first | ((first | refine AW.sreg rfl fun K hK => ?_ | refine AW.reg rfl ?_); simp only [go_sem, ↓reduceIte, hget, List.length_map]) | (refine AW.seq_k fun K hK => ?_) | (refine AW.block ?_) | (refine AW.skip ?_; simp only [Then, InBlock]) | (refine AW.exit ?_; simp only [go_sem, ↓reduceIte]) | (refine AW.cT ?_) | (refine AW.cF ?_) | (refine AW.cond rfl (fun h => ?_) (fun h => ?_) <;> (try simp only [decide_eq_true_eq, decide_eq_false_iff_not, Bool.not_eq_true', Bool.not_eq_false', Bool.not_eq_eq_eq_not, Bool.not_true, Bool.not_false, beq_iff_eq, bne_iff_ne, beq_eq_false_iff_ne, ne_eq, Bool.and_eq_true, Bool.or_eq_true, Bool.or_eq_false_iff] at h)) | (refine hK _ ?_; clear hK K) | (clear hK K; refine hK _ ?_; clear hK K) | (refine run_callI _ _ _ ((flipI l hl2 _ _ (by omega) (by omega) (by omega) (by omega)).objs [0] ⟨rfl, trivial⟩ rfl (by decide) (by simp [go_sem, renOs]) (by simp [go_sem]) (by simp [go_sem]) (fun j hj => ⟨by simp, by simp, by simp [go_sem], by simp [go_sem]⟩)) rfl rfl (dstOk_of rfl) rfl rfl rfl ?_; rintro r hr; (try dsimp only at r); (try dsimp only at hr); simp only [go_sem, ↓reduceIte, hget, List.length_map]) | (refine run_callI _ _ _ ((one10I l hl2 _ (by omega) (by omega) W4 (by simp [W4]) (by simp [W4])).objs [0, _] ⟨rfl, rfl, trivial⟩ rfl (by decide) (by simp [go_sem, renOs]) (by simp [go_sem]) (by simp [go_sem]) (fun j hj => ⟨by simp, by simp, by simp [go_sem], by simp [go_sem]⟩)) rfl rfl (dstOk_of rfl) rfl rfl rfl ?_; rintro wd hwd; (try dsimp only at wd); (try dsimp only at hwd); simp only [go_sem, ↓reduceIte, hget, List.length_map]) | (with_reducible refine andI ?_))
    ·exact ⟨(i + 1, out, a + 1), ⟨by simp only; omega, ⟨by simp only; omega, h3⟩, by simp only; omega, by simp only; omega⟩, by simp only; omega, (Weak.aC hcx (by refine ⟨?_, ?_, ?_⟩ <;> simp [go_sem, gL, kL, renOf, V.obj, Nat.blt, Nat.ble, List.map_append, dv_push]))⟩
    ·exact ⟨(i + 1, out ++ [(k, 0, [], [10])], a + 1 + 1), ⟨by simp only; omega, ⟨by simp; omega, hap (k, 0, [], [10]) (hs1 _ (by simp))⟩, by simp only; omega, by simp only; omega⟩, by simp only; omega, (Weak.aC hcx (by refine ⟨?_, ?_, ?_⟩ <;> simp [go_sem, gL, kL, renOf, V.obj, Nat.blt, Nat.ble, List.map_append, dv_push]))⟩
    ·exact ⟨(i + 1, out ++ [(k, 0, [], wd)], a + 1 + 1), ⟨by simp only; omega, ⟨by simp; omega, hap (k, 0, [], wd) (hs1 _ (hw4 _ hwd))⟩, by simp only; omega, by simp only; omega⟩, by simp only; omega, (Weak.aC hcx (by refine ⟨?_, ?_, ?_⟩ <;> simp [go_sem, gL, kL, renOf, V.obj, Nat.blt, Nat.ble, List.map_append, dv_push]))⟩
  ·have hs2 : ∀ w ∈ O3, AnB (k, 0, w, []) := fun w hw => ⟨by simp only; omega, (show ∀ w ∈ O3, w.length ≤ 1000 by decide) w hw, by simp⟩
   cases nd
   ·have n3 := next_any l hl2 (a + 1 + 1) 3 (by omega) (by omega) (by omega) (by omega)
    have r3 := nextV_range l (a + 1 + 1) 3 (by omega)
    generalize nextV l (a + 1 + 1) 3 = kk at n3 r3
    have hkk : kk = 0 ∨ kk = 1 ∨ kk = 2 := by omega
    rcases hkk with rfl | rfl | rfl
    ·repeat' (first | ((first | refine AW.sreg rfl fun K hK => ?_ | refine AW.reg rfl ?_ | refine AW.regD hmix rfl ?_ | refine runT_call _ _ [0] (fun hv hag => (n3).objs [0] ⟨((hag 0 (by simp)).trans rfl), trivial⟩ rfl (by decide) (by simp [go_sem, renOs]) (by simp) (by simp) (by simp [go_sem]) (by simp [go_sem]) (by simp [go_sem]) (by simp [go_sem])) rfl rfl (dstOk_of rfl) rfl rfl ?_); simp only [go_sem, ↓reduceIte, hget, List.length_map, O3]) | (refine AW.seq_k fun K hK => ?_) | (refine AW.block ?_) | (refine AW.skip ?_; simp only [Then, InBlock]) | (refine AW.exit ?_; simp only [go_sem, ↓reduceIte]) | (refine AW.cT ?_) | (refine AW.cF ?_) | (refine AW.cond rfl (fun h => ?_) (fun h => ?_) <;> (try simp only [decide_eq_true_eq, decide_eq_false_iff_not, Bool.not_eq_true', Bool.not_eq_false', Bool.not_eq_eq_eq_not, Bool.not_true, Bool.not_false, beq_iff_eq, bne_iff_ne, beq_eq_false_iff_ne, ne_eq, Bool.and_eq_true, Bool.or_eq_true, Bool.or_eq_false_iff] at h)) | (refine hK _ ?_; clear hK K) | (clear hK K; refine hK _ ?_; clear hK K) | (refine stepB_split (fun h => ?_) (fun h => ?_) <;> (have hb0 := h) <;> (try simp only [Bool.not_eq_true', Bool.not_eq_false'] at hb0) <;> (try simp only [decide_eq_true_eq, decide_eq_false_iff_not, Bool.not_eq_true', Bool.not_eq_false', Bool.not_eq_eq_eq_not, Bool.not_true, Bool.not_false, beq_iff_eq, bne_iff_ne, beq_eq_false_iff_ne, ne_eq, Bool.and_eq_true, Bool.or_eq_true, Bool.or_eq_false_iff] at h) <;> simp only [go_sem, ↓reduceIte, hb0, h, decide_true, decide_false, hget, List.length_map, O3] <;> (try clear hb0)) | (with_reducible refine And.intro (?_ : regOk _ _ = true) ?_; kernel_rfl) | (refine run_callI _ _ _ ((flipI l hl2 _ _ (by omega) (by omega) (by omega) (by omega)).objs [0] ⟨rfl, trivial⟩ rfl (by decide) (by simp [go_sem, renOs]) (by simp [go_sem]) (by simp [go_sem]) (fun j hj => ⟨by simp, by simp, by simp [go_sem], by simp [go_sem]⟩)) rfl rfl (dstOk_of rfl) rfl rfl rfl ?_; rintro r hr; (try dsimp only at r); (try dsimp only at hr); simp only [go_sem, ↓reduceIte, hget, List.length_map, O3]) | (with_reducible refine andI ?_))
     ·exact ⟨(i + 1, out, a + 1 + 1), ⟨by simp only; omega, ⟨by simp only; omega, h3⟩, by simp only; omega, by simp only; omega⟩, by simp only; omega, (Weak.aC hcx (by refine ⟨?_, ?_, ?_⟩ <;> simp [go_sem, gL, kL, renOf, V.obj, Nat.blt, Nat.ble, List.map_append, dv_push]))⟩
     ·exact ⟨(i + 1, out ++ [(k, 0, [121, 101, 115], [])], a + 1 + 1 + 1), ⟨by simp only; omega, ⟨by simp; omega, hap (k, 0, [121, 101, 115], []) (hs2 _ (by decide))⟩, by simp only; omega, by simp only; omega⟩, by simp only; omega, (Weak.aC hcx (by refine ⟨?_, ?_, ?_⟩ <;> simp [go_sem, gL, kL, renOf, V.obj, Nat.blt, Nat.ble, List.map_append, dv_push]))⟩
     ·exact ⟨(i + 1, out, a + 1), ⟨by simp only; omega, ⟨by simp only; omega, h3⟩, by simp only; omega, by simp only; omega⟩, by simp only; omega, (Weak.aC hcx (by refine ⟨?_, ?_, ?_⟩ <;> simp [go_sem, gL, kL, renOf, V.obj, Nat.blt, Nat.ble, List.map_append, dv_push]))⟩
    ·repeat' (first | ((first | refine AW.sreg rfl fun K hK => ?_ | refine AW.reg rfl ?_ | refine AW.regD hmix rfl ?_ | refine runT_call _ _ [0] (fun hv hag => (n3).objs [0] ⟨((hag 0 (by simp)).trans rfl), trivial⟩ rfl (by decide) (by simp [go_sem, renOs]) (by simp) (by simp) (by simp [go_sem]) (by simp [go_sem]) (by simp [go_sem]) (by simp [go_sem])) rfl rfl (dstOk_of rfl) rfl rfl ?_); simp only [go_sem, ↓reduceIte, hget, List.length_map, O3]) | (refine AW.seq_k fun K hK => ?_) | (refine AW.block ?_) | (refine AW.skip ?_; simp only [Then, InBlock]) | (refine AW.exit ?_; simp only [go_sem, ↓reduceIte]) | (refine AW.cT ?_) | (refine AW.cF ?_) | (refine AW.cond rfl (fun h => ?_) (fun h => ?_) <;> (try simp only [decide_eq_true_eq, decide_eq_false_iff_not, Bool.not_eq_true', Bool.not_eq_false', Bool.not_eq_eq_eq_not, Bool.not_true, Bool.not_false, beq_iff_eq, bne_iff_ne, beq_eq_false_iff_ne, ne_eq, Bool.and_eq_true, Bool.or_eq_true, Bool.or_eq_false_iff] at h)) | (refine hK _ ?_; clear hK K) | (clear hK K; refine hK _ ?_; clear hK K) | (refine stepB_split (fun h => ?_) (fun h => ?_) <;> (have hb0 := h) <;> (try simp only [Bool.not_eq_true', Bool.not_eq_false'] at hb0) <;> (try simp only [decide_eq_true_eq, decide_eq_false_iff_not, Bool.not_eq_true', Bool.not_eq_false', Bool.not_eq_eq_eq_not, Bool.not_true, Bool.not_false, beq_iff_eq, bne_iff_ne, beq_eq_false_iff_ne, ne_eq, Bool.and_eq_true, Bool.or_eq_true, Bool.or_eq_false_iff] at h) <;> simp only [go_sem, ↓reduceIte, hb0, h, decide_true, decide_false, hget, List.length_map, O3] <;> (try clear hb0)) | (with_reducible refine And.intro (?_ : regOk _ _ = true) ?_; kernel_rfl) | (refine run_callI _ _ _ ((flipI l hl2 _ _ (by omega) (by omega) (by omega) (by omega)).objs [0] ⟨rfl, trivial⟩ rfl (by decide) (by simp [go_sem, renOs]) (by simp [go_sem]) (by simp [go_sem]) (fun j hj => ⟨by simp, by simp, by simp [go_sem], by simp [go_sem]⟩)) rfl rfl (dstOk_of rfl) rfl rfl rfl ?_; rintro r hr; (try dsimp only at r); (try dsimp only at hr); simp only [go_sem, ↓reduceIte, hget, List.length_map, O3]) | (with_reducible refine andI ?_))
     ·exact ⟨(i + 1, out, a + 1 + 1), ⟨by simp only; omega, ⟨by simp only; omega, h3⟩, by simp only; omega, by simp only; omega⟩, by simp only; omega, (Weak.aC hcx (by refine ⟨?_, ?_, ?_⟩ <;> simp [go_sem, gL, kL, renOf, V.obj, Nat.blt, Nat.ble, List.map_append, dv_push]))⟩
     ·exact ⟨(i + 1, out ++ [(k, 0, [110, 111], [])], a + 1 + 1 + 1), ⟨by simp only; omega, ⟨by simp; omega, hap (k, 0, [110, 111], []) (hs2 _ (by decide))⟩, by simp only; omega, by simp only; omega⟩, by simp only; omega, (Weak.aC hcx (by refine ⟨?_, ?_, ?_⟩ <;> simp [go_sem, gL, kL, renOf, V.obj, Nat.blt, Nat.ble, List.map_append, dv_push]))⟩
     ·exact ⟨(i + 1, out, a + 1), ⟨by simp only; omega, ⟨by simp only; omega, h3⟩, by simp only; omega, by simp only; omega⟩, by simp only; omega, (Weak.aC hcx (by refine ⟨?_, ?_, ?_⟩ <;> simp [go_sem, gL, kL, renOf, V.obj, Nat.blt, Nat.ble, List.map_append, dv_push]))⟩
    ·repeat' (first | ((first | refine AW.sreg rfl fun K hK => ?_ | refine AW.reg rfl ?_ | refine AW.regD hmix rfl ?_ | refine runT_call _ _ [0] (fun hv hag => (n3).objs [0] ⟨((hag 0 (by simp)).trans rfl), trivial⟩ rfl (by decide) (by simp [go_sem, renOs]) (by simp) (by simp) (by simp [go_sem]) (by simp [go_sem]) (by simp [go_sem]) (by simp [go_sem])) rfl rfl (dstOk_of rfl) rfl rfl ?_); simp only [go_sem, ↓reduceIte, hget, List.length_map, O3]) | (refine AW.seq_k fun K hK => ?_) | (refine AW.block ?_) | (refine AW.skip ?_; simp only [Then, InBlock]) | (refine AW.exit ?_; simp only [go_sem, ↓reduceIte]) | (refine AW.cT ?_) | (refine AW.cF ?_) | (refine AW.cond rfl (fun h => ?_) (fun h => ?_) <;> (try simp only [decide_eq_true_eq, decide_eq_false_iff_not, Bool.not_eq_true', Bool.not_eq_false', Bool.not_eq_eq_eq_not, Bool.not_true, Bool.not_false, beq_iff_eq, bne_iff_ne, beq_eq_false_iff_ne, ne_eq, Bool.and_eq_true, Bool.or_eq_true, Bool.or_eq_false_iff] at h)) | (refine hK _ ?_; clear hK K) | (clear hK K; refine hK _ ?_; clear hK K) | (refine stepB_split (fun h => ?_) (fun h => ?_) <;> (have hb0 := h) <;> (try simp only [Bool.not_eq_true', Bool.not_eq_false'] at hb0) <;> (try simp only [decide_eq_true_eq, decide_eq_false_iff_not, Bool.not_eq_true', Bool.not_eq_false', Bool.not_eq_eq_eq_not, Bool.not_true, Bool.not_false, beq_iff_eq, bne_iff_ne, beq_eq_false_iff_ne, ne_eq, Bool.and_eq_true, Bool.or_eq_true, Bool.or_eq_false_iff] at h) <;> simp only [go_sem, ↓reduceIte, hb0, h, decide_true, decide_false, hget, List.length_map, O3] <;> (try clear hb0)) | (with_reducible refine And.intro (?_ : regOk _ _ = true) ?_; kernel_rfl) | (refine run_callI _ _ _ ((flipI l hl2 _ _ (by omega) (by omega) (by omega) (by omega)).objs [0] ⟨rfl, trivial⟩ rfl (by decide) (by simp [go_sem, renOs]) (by simp [go_sem]) (by simp [go_sem]) (fun j hj => ⟨by simp, by simp, by simp [go_sem], by simp [go_sem]⟩)) rfl rfl (dstOk_of rfl) rfl rfl rfl ?_; rintro r hr; (try dsimp only at r); (try dsimp only at hr); simp only [go_sem, ↓reduceIte, hget, List.length_map, O3]) | (with_reducible refine andI ?_))
     ·exact ⟨(i + 1, out, a + 1 + 1), ⟨by simp only; omega, ⟨by simp only; omega, h3⟩, by simp only; omega, by simp only; omega⟩, by simp only; omega, (Weak.aC hcx (by refine ⟨?_, ?_, ?_⟩ <;> simp [go_sem, gL, kL, renOf, V.obj, Nat.blt, Nat.ble, List.map_append, dv_push]))⟩
     ·exact ⟨(i + 1, out ++ [(k, 0, [109, 97, 121, 98, 101], [])], a + 1 + 1 + 1), ⟨by simp only; omega, ⟨by simp; omega, hap (k, 0, [109, 97, 121, 98, 101], []) (hs2 _ (by decide))⟩, by simp only; omega, by simp only; omega⟩, by simp only; omega, (Weak.aC hcx (by refine ⟨?_, ?_, ?_⟩ <;> simp [go_sem, gL, kL, renOf, V.obj, Nat.blt, Nat.ble, List.map_append, dv_push]))⟩
     ·exact ⟨(i + 1, out, a + 1), ⟨by simp only; omega, ⟨by simp only; omega, h3⟩, by simp only; omega, by simp only; omega⟩, by simp only; omega, (Weak.aC hcx (by refine ⟨?_, ?_, ?_⟩ <;> simp [go_sem, gL, kL, renOf, V.obj, Nat.blt, Nat.ble, List.map_append, dv_push]))⟩
   ·have n3 := next_any l hl2 (a + 1) 3 (by omega) (by omega) (by omega) (by omega)
    have r3 := nextV_range l (a + 1) 3 (by omega)
    generalize nextV l (a + 1) 3 = kk at n3 r3
    have hkk : kk = 0 ∨ kk = 1 ∨ kk = 2 := by omega
    rcases hkk with rfl | rfl | rfl
    ·repeat' (first | ((first | refine AW.sreg rfl fun K hK => ?_ | refine AW.reg rfl ?_ | refine AW.regD hmix rfl ?_ | refine runT_call _ _ [0] (fun hv hag => (n3).objs [0] ⟨((hag 0 (by simp)).trans rfl), trivial⟩ rfl (by decide) (by simp [go_sem, renOs]) (by simp) (by simp) (by simp [go_sem]) (by simp [go_sem]) (by simp [go_sem]) (by simp [go_sem])) rfl rfl (dstOk_of rfl) rfl rfl ?_); simp only [go_sem, ↓reduceIte, hget, List.length_map, O3]) | (refine AW.seq_k fun K hK => ?_) | (refine AW.block ?_) | (refine AW.skip ?_; simp only [Then, InBlock]) | (refine AW.exit ?_; simp only [go_sem, ↓reduceIte]) | (refine AW.cT ?_) | (refine AW.cF ?_) | (refine AW.cond rfl (fun h => ?_) (fun h => ?_) <;> (try simp only [decide_eq_true_eq, decide_eq_false_iff_not, Bool.not_eq_true', Bool.not_eq_false', Bool.not_eq_eq_eq_not, Bool.not_true, Bool.not_false, beq_iff_eq, bne_iff_ne, beq_eq_false_iff_ne, ne_eq, Bool.and_eq_true, Bool.or_eq_true, Bool.or_eq_false_iff] at h)) | (refine hK _ ?_; clear hK K) | (clear hK K; refine hK _ ?_; clear hK K) | (with_reducible refine And.intro (?_ : regOk _ _ = true) ?_; kernel_rfl) | (refine run_callI _ _ _ ((flipI l hl2 _ _ (by omega) (by omega) (by omega) (by omega)).objs [0] ⟨rfl, trivial⟩ rfl (by decide) (by simp [go_sem, renOs]) (by simp [go_sem]) (by simp [go_sem]) (fun j hj => ⟨by simp, by simp, by simp [go_sem], by simp [go_sem]⟩)) rfl rfl (dstOk_of rfl) rfl rfl rfl ?_; rintro r hr; (try dsimp only at r); (try dsimp only at hr); simp only [go_sem, ↓reduceIte, hget, List.length_map, O3]) | (with_reducible refine andI ?_))
     ·exact ⟨(i + 1, out, a + 1), ⟨by simp only; omega, ⟨by simp only; omega, h3⟩, by simp only; omega, by simp only; omega⟩, by simp only; omega, (Weak.aC hcx (by refine ⟨?_, ?_, ?_⟩ <;> simp [go_sem, gL, kL, renOf, V.obj, Nat.blt, Nat.ble, List.map_append, dv_push]))⟩
     ·exact ⟨(i + 1, out ++ [(k, 0, [121, 101, 115], [])], a + 1 + 1), ⟨by simp only; omega, ⟨by simp; omega, hap (k, 0, [121, 101, 115], []) (hs2 _ (by decide))⟩, by simp only; omega, by simp only; omega⟩, by simp only; omega, (Weak.aC hcx (by refine ⟨?_, ?_, ?_⟩ <;> simp [go_sem, gL, kL, renOf, V.obj, Nat.blt, Nat.ble, List.map_append, dv_push]))⟩
    ·repeat' (first | ((first | refine AW.sreg rfl fun K hK => ?_ | refine AW.reg rfl ?_ | refine AW.regD hmix rfl ?_ | refine runT_call _ _ [0] (fun hv hag => (n3).objs [0] ⟨((hag 0 (by simp)).trans rfl), trivial⟩ rfl (by decide) (by simp [go_sem, renOs]) (by simp) (by simp) (by simp [go_sem]) (by simp [go_sem]) (by simp [go_sem]) (by simp [go_sem])) rfl rfl (dstOk_of rfl) rfl rfl ?_); simp only [go_sem, ↓reduceIte, hget, List.length_map, O3]) | (refine AW.seq_k fun K hK => ?_) | (refine AW.block ?_) | (refine AW.skip ?_; simp only [Then, InBlock]) | (refine AW.exit ?_; simp only [go_sem, ↓reduceIte]) | (refine AW.cT ?_) | (refine AW.cF ?_) | (refine AW.cond rfl (fun h => ?_) (fun h => ?_) <;> (try simp only [decide_eq_true_eq, decide_eq_false_iff_not, Bool.not_eq_true', Bool.not_eq_false', Bool.not_eq_eq_eq_not, Bool.not_true, Bool.not_false, beq_iff_eq, bne_iff_ne, beq_eq_false_iff_ne, ne_eq, Bool.and_eq_true, Bool.or_eq_true, Bool.or_eq_false_iff] at h)) | (refine hK _ ?_; clear hK K) | (clear hK K; refine hK _ ?_; clear hK K) | (with_reducible refine And.intro (?_ : regOk _ _ = true) ?_; kernel_rfl) | (refine run_callI _ _ _ ((flipI l hl2 _ _ (by omega) (by omega) (by omega) (by omega)).objs [0] ⟨rfl, trivial⟩ rfl (by decide) (by simp [go_sem, renOs]) (by simp [go_sem]) (by simp [go_sem]) (fun j hj => ⟨by simp, by simp, by simp [go_sem], by simp [go_sem]⟩)) rfl rfl (dstOk_of rfl) rfl rfl rfl ?_; rintro r hr; (try dsimp only at r); (try dsimp only at hr); simp only [go_sem, ↓reduceIte, hget, List.length_map, O3]) | (with_reducible refine andI ?_))
     ·exact ⟨(i + 1, out, a + 1), ⟨by simp only; omega, ⟨by simp only; omega, h3⟩, by simp only; omega, by simp only; omega⟩, by simp only; omega, (Weak.aC hcx (by refine ⟨?_, ?_, ?_⟩ <;> simp [go_sem, gL, kL, renOf, V.obj, Nat.blt, Nat.ble, List.map_append, dv_push]))⟩
     ·exact ⟨(i + 1, out ++ [(k, 0, [110, 111], [])], a + 1 + 1), ⟨by simp only; omega, ⟨by simp; omega, hap (k, 0, [110, 111], []) (hs2 _ (by decide))⟩, by simp only; omega, by simp only; omega⟩, by simp only; omega, (Weak.aC hcx (by refine ⟨?_, ?_, ?_⟩ <;> simp [go_sem, gL, kL, renOf, V.obj, Nat.blt, Nat.ble, List.map_append, dv_push]))⟩
    ·repeat' (first | ((first | refine AW.sreg rfl fun K hK => ?_ | refine AW.reg rfl ?_ | refine AW.regD hmix rfl ?_ | refine runT_call _ _ [0] (fun hv hag => (n3).objs [0] ⟨((hag 0 (by simp)).trans rfl), trivial⟩ rfl (by decide) (by simp [go_sem, renOs]) (by simp) (by simp) (by simp [go_sem]) (by simp [go_sem]) (by simp [go_sem]) (by simp [go_sem])) rfl rfl (dstOk_of rfl) rfl rfl ?_); simp only [go_sem, ↓reduceIte, hget, List.length_map, O3]) | (refine AW.seq_k fun K hK => ?_) | (refine AW.block ?_) | (refine AW.skip ?_; simp only [Then, InBlock]) | (refine AW.exit ?_; simp only [go_sem, ↓reduceIte]) | (refine AW.cT ?_) | (refine AW.cF ?_) | (refine AW.cond rfl (fun h => ?_) (fun h => ?_) <;> (try simp only [decide_eq_true_eq, decide_eq_false_iff_not, Bool.not_eq_true', Bool.not_eq_false', Bool.not_eq_eq_eq_not, Bool.not_true, Bool.not_false, beq_iff_eq, bne_iff_ne, beq_eq_false_iff_ne, ne_eq, Bool.and_eq_true, Bool.or_eq_true, Bool.or_eq_false_iff] at h)) | (refine hK _ ?_; clear hK K) | (clear hK K; refine hK _ ?_; clear hK K) | (with_reducible refine And.intro (?_ : regOk _ _ = true) ?_; kernel_rfl) | (refine run_callI _ _ _ ((flipI l hl2 _ _ (by omega) (by omega) (by omega) (by omega)).objs [0] ⟨rfl, trivial⟩ rfl (by decide) (by simp [go_sem, renOs]) (by simp [go_sem]) (by simp [go_sem]) (fun j hj => ⟨by simp, by simp, by simp [go_sem], by simp [go_sem]⟩)) rfl rfl (dstOk_of rfl) rfl rfl rfl ?_; rintro r hr; (try dsimp only at r); (try dsimp only at hr); simp only [go_sem, ↓reduceIte, hget, List.length_map, O3]) | (with_reducible refine andI ?_))
     ·exact ⟨(i + 1, out, a + 1), ⟨by simp only; omega, ⟨by simp only; omega, h3⟩, by simp only; omega, by simp only; omega⟩, by simp only; omega, (Weak.aC hcx (by refine ⟨?_, ?_, ?_⟩ <;> simp [go_sem, gL, kL, renOf, V.obj, Nat.blt, Nat.ble, List.map_append, dv_push]))⟩
     ·exact ⟨(i + 1, out ++ [(k, 0, [109, 97, 121, 98, 101], [])], a + 1 + 1), ⟨by simp only; omega, ⟨by simp; omega, hap (k, 0, [109, 97, 121, 98, 101], []) (hs2 _ (by decide))⟩, by simp only; omega, by simp only; omega⟩, by simp only; omega, (Weak.aC hcx (by refine ⟨?_, ?_, ?_⟩ <;> simp [go_sem, gL, kL, renOf, V.obj, Nat.blt, Nat.ble, List.map_append, dv_push]))⟩
end Go.AX

namespace Go.AX
open Go Go.Proofs Go.RowKit
theorem all_ok_Rv (xs : List Rv) : (dv (xs.map rvD)).all (elemOk 7) = true := by
 simp only [dv, List.map_map, List.all_eq_true, List.mem_map, Function.comp_apply, forall_exists_index, and_imp, forall_apply_eq_imp_iff₂]
 intro x _
 rfl
theorem cloneO_Rv (xs : List (Rv)) (hl : xs.length ≤ 1000) : Does Tryz.prog 47 [.slr 0 0 xs.length] [.vec 50 7 (dv (xs.map rvD))] (.slr 1 0 xs.length) [.vec 50 7 (dv (xs.map rvD)), .vec 50 7 (dv (xs.map rvD))] := by
 refine Does.of_AW (n := 8) Tryz.func47 rfl rfl rfl fun cx hcx => ?_
 refine AW.sreg rfl fun K hK => ?_; simp only [go_sem, ↓reduceIte]
 refine hK _ ?_; (try clear hK K)
 refine AW.seq_k fun K1 hK1 => ?_
 refine AW.seq_k fun K2 hK2 => ?_
 refine AW.nilCmpO rfl rfl rfl rfl rfl rfl (by simp only [go_sem]; rfl) (by simp) (by simp) rfl (fun b hb => ?_)
 refine hK2 _ ?_
 refine AW.cond rfl (fun h => ?_) (fun h => ?_)
 ·have h0 : xs = [] := by simpa using hb h
  subst h0
  repeat' (first | (refine AW.sreg rfl fun K hK => ?_; simp only [go_sem, ↓reduceIte, List.length_map]) | (refine hK _ ?_; clear hK K))
  refine AW.weak (Weak.nil 2 50 7 rfl) ?_
  exact AW.ret (Fin.objs [0, 320] rfl (by simp [go_sem, inI, gI]) ⟨⟨_, rfl, by simp [go_sem, inI, gI]⟩, ⟨_, rfl, by simp [go_sem, inI, gI]⟩, trivial⟩ (by simp) rfl (by simp [go_sem]) (by simp [go_sem]) rfl)
 ·refine AW.skip (hK1 _ ?_)
  repeat' (first | (refine AW.sreg rfl fun K hK => ?_; simp only [go_sem, ↓reduceIte, List.length_map, all_ok_Rv]) | (refine hK _ ?_; clear hK K) | (with_reducible refine andI ?_))
  exact AW.ret (Fin.objs [0, 384] rfl (by simp [go_sem, inI, gI]) ⟨⟨_, rfl, by simp [go_sem, inI, gI]⟩, ⟨_, rfl, by simp [go_sem, inI, gI]⟩, trivial⟩ (by simp) rfl (by simp [go_sem]) (by simp [go_sem]) rfl)

/-- A slice with one element more is frozen. -/
theorem frz_app1 {hv : Nat → Option O} {keep : Nat → Bool} {id e s n : Nat} {xs : List D} {y : V} {d : D} (hk : keep id = false) (h : hv id = some (.vec e s (dv xs ++ [y]))) (hy : toD hv keep 7 y = some d) (hn : n = xs.length + 1) : frz hv keep (.slr id 0 n) = .d (.sl (xs ++ [d])) := by
 subst hn
 have e : toD hv keep 8 (.slr id 0 (xs.length + 1)) = some (.sl (xs ++ [d])) := by
  rw [toD]
  have h1 : 0 + (xs.length + 1) ≤ (dv xs ++ [y]).length := by simp [dv_length]
  have h2 : (dv xs ++ [y]).take (xs.length + 1) = dv xs ++ [y] := List.take_of_length_le (by simp [dv_length])
  have h3 : toDL (toD hv keep 7) (dv xs ++ [y]) = some (xs ++ [d]) := by
   clear h1 h2 h
   induction xs with
   | nil => simp [dv, toDL, hy]
   | cons x r ih =>
    have hd : dv (x :: r) = V.d x :: dv r := rfl
    rw [hd, List.cons_append, toDL, show toD hv keep 7 (.d x) = some x from rfl, ih]
    rfl
  simp only [hk, Bool.false_eq_true, if_false, h, h1, if_true, List.drop_zero, h2, h3]
 simp only [frz, hk, Bool.false_eq_true, if_false, e]
def By5 : List Str := [[], [], [103, 117, 115], [98, 111, 98], [104, 97, 108]]
def ByS : List Str := By5 ++ [[65]]
theorem keyR_By : ∀ s ∈ ByS, KeyR s := by
 have h : ByS.all (fun s => evalsTo Tryz.prog (CS Tryz.prog) 81 [S s] (B (keyB s))) = true := by kernel_rfl
 exact fun s hs => evalsTo_ok CS_ok hmix (List.all_eq_true.1 h s hs)
theorem byOk {s : Str} (h : s ∈ ByS ∨ s ∈ Wh4) : KeyR s ∧ s.length ≤ 1000 := by
 rcases h with h | h
 ·exact ⟨keyR_By s h, (show ∀ s ∈ ByS, s.length ≤ 1000 by decide) s h⟩
 ·exact ⟨keyR_Wh s h, (show ∀ s ∈ Wh4, s.length ≤ 1000 by decide) s h⟩
abbrev GoodRv (r : Rv) : Prop := RvB r ∧ KeyR r.2.2.2.2.1
theorem reviewsI (l : List Int) (hl2 : l.length ≤ 9223372036854775807) (at_ : Int) (ha : 0 ≤ at_) (hb : at_ ≤ 10000) {x : Su} (h : SuR x) (many : Nat) (hm : many ≤ 9) :
  DoesI Tryz.prog 11 [.ptr 0 0, .d (suD x), I many] [Stm l at_] (fun q : List Rv × Int => (q.1.length ≤ many ∧ ∀ r ∈ q.1, GoodRv r) ∧ at_ ≤ q.2 ∧ q.2 ≤ at_ + 40 * many) (fun q => .d (.sl (q.1.map rvD))) (fun q => [Stm l q.2]) := by
 have hql := h.qlen
 refine DoesI.of_AW (n := 114) Tryz.func11 rfl rfl rfl fun cx hcx => ?_
 repeat' (first | (refine AW.sreg rfl fun K hK => ?_; simp only [go_sem, ↓reduceIte]) | (refine AW.seq_k fun K hK => ?_) | (refine AW.block ?_) | (refine hK _ ?_; clear hK K))
 refine AW.weak (Weak.nil 7 50 7 rfl) ?_
 refine AW.loopF (ι := Nat × List Rv × Int × Int) [0, 4, 11] (fun p => [(12, I p.1), (7, .slr 448 0 p.2.1.length), (8, I p.2.2.1)]) (fun p => [(0, some (Stm l p.2.2.2)), (64, some (O.box 31 (suV x))), (448, some (O.vec 50 7 (dv (p.2.1.map rvD))))]) 16 (fun p => p.1 ≤ many ∧ (p.2.1.length ≤ p.1 ∧ ∀ r ∈ p.2.1, GoodRv r) ∧ (0 ≤ p.2.2.1 ∧ p.2.2.1 ≤ 1440 * p.1) ∧ at_ ≤ p.2.2.2 ∧ p.2.2.2 ≤ at_ + 40 * p.1) (fun p => many - p.1) (0, [], 0, at_) ⟨by simp, ⟨by simp, by simp⟩, ⟨by simp, by simp⟩, by simp, by simp⟩ (Weak.oC hcx [(64, 64), (448, 448)] (by refine ⟨?_, ?_, ?_⟩ <;> simp [go_sem, gL, kL, List.map_append, dv_push, dv])) ?_; simp only [St.at_nil, St.at_cons, lk, Nat.reduceEqDiff, ↓reduceIte, Option.getD_some, Option.getD_none, List.cons_append, List.nil_append, List.append_nil]
 rintro ⟨i, out, m, a⟩ ⟨h1, ⟨h2, h3⟩, ⟨m1, m2⟩, h4, h5⟩
 dsimp only at h1 h2 h3 m1 m2 h4 h5 ⊢
 have hol : out.length ≤ 9 := by omega
 by_cases hi : i < many
 rotate_left
 ·obtain rfl : i = many := by omega
  repeat' (first | ((first | refine AW.sreg rfl fun K hK => ?_ | refine AW.exit ?_); simp only [go_sem, ↓reduceIte]) | (refine AW.seq_k fun K hK => ?_) | (refine AW.cF ?_) | (refine hK _ ?_; clear hK K) | (clear hK K; refine hK _ ?_; clear hK K))
  exact AW.ret ⟨(out, a), ⟨⟨h2, h3⟩, h4, h5⟩, Fin.one rfl ((frz_slr rfl rfl (by simp)).trans (by simp [go_sem])) ⟨_, rfl, by simp [go_sem]⟩ rfl rfl rfl⟩
 ·rcases Nat.eq_zero_or_pos x.pairs.length with hz | hz
  ·have e0 : ((x.pairs.length : Int) == 0) = true := by simp [hz]
   repeat' (first | (refine AW.sreg rfl fun K hK => ?_; simp only [go_sem, ↓reduceIte, e0, List.length_map]) | (refine AW.seq_k fun K hK => ?_) | (refine AW.block ?_) | (refine AW.skip ?_; simp only [Then, InBlock]) | (refine AW.exit ?_; simp only [go_sem, ↓reduceIte]) | (refine AW.cT ?_) | (refine hK _ ?_; clear hK K) | (clear hK K; clear hK K; refine hK _ ?_; clear hK K))
   exact AW.ret ⟨(out, a), ⟨⟨by simp only; omega, h3⟩, h4, by simp only; omega⟩, Fin.one rfl ((frz_slr rfl rfl (by simp)).trans (by simp [go_sem])) ⟨_, rfl, by simp [go_sem]⟩ rfl rfl rfl⟩
  ·have e0 : ((x.pairs.length : Int) == 0) = false := beq_eq_false_iff_ne.2 (by omega)
   have n5 := next_any l hl2 (a + 1) x.pairs.length (by omega) (by omega) (by omega) (by omega)
   have r5 := nextV_range l (a + 1) x.pairs.length (by omega)
   generalize nextV l (a + 1) x.pairs.length = kk at n5 r5
   obtain ⟨kn, rfl⟩ : ∃ kn : Nat, kk = (kn : Int) := ⟨kk.toNat, by omega⟩
   obtain ⟨pr, hpr, hprm, -⟩ := get_some (l := x.pairs) (i := kn) (by omega)
   have hgp : (x.pairs.map prD)[kn]? = some (prD pr) := by simp only [List.getElem?_map, hpr, Option.map_some]
   repeat' (first | ((first | refine AW.sreg rfl fun K hK => ?_ | refine AW.sregD hmix rfl fun K hK => ?_); simp only [go_sem, ↓reduceIte, e0, List.length_map, hgp]) | (refine AW.seq_k fun K hK => ?_) | (refine AW.block ?_) | (refine AW.skip ?_; simp only [Then, InBlock]) | (refine AW.cT ?_) | (refine AW.cF ?_) | (refine hK _ ?_; clear hK K) | (refine run_callI _ _ _ ((pickB l hl2 _ (by omega) (by omega) [0, 10, 100, 1000, 1440] 0 1440 (by simp) (by simp) (by decide)).objs [0, _] ⟨rfl, rfl, trivial⟩ rfl (by decide) (by simp [go_sem, renOs]) (by simp [go_sem]) (by simp [go_sem]) (fun j hj => ⟨by simp, by simp, by simp [go_sem], by simp [go_sem]⟩)) rfl rfl (dstOk_of rfl) rfl rfl rfl ?_; rintro dt hdt; (try dsimp only at dt); (try dsimp only at hdt); simp only [go_sem, ↓reduceIte, e0, List.length_map, hgp]) | (with_reducible refine andI ?_))
   first | (refine runT_call _ _ [0] (fun hv hag => (n5).objs [0] ⟨((hag 0 (by simp)).trans rfl), trivial⟩ rfl (by decide) (by simp [go_sem, renOs]) (by simp) (by simp) (by simp [go_sem]) (by simp [go_sem]) (by simp [go_sem]) (by simp [go_sem])) rfl rfl (dstOk_of rfl) rfl rfl ?_; simp only [go_sem, ↓reduceIte, e0, List.length_map, hgp])
   refine ⟨by omega, by kernel_rfl, ?_⟩
   refine hK _ ?_; (try clear hK K)
   have o5 := one10_any l hl2 (a + 1 + 1) (by omega) (by omega) By5 (by simp [By5]) (by simp [By5])
   have p5 := one_mem l (a + 1 + 1) By5 (by simp [By5])
   generalize By5.getD (nextV l (a + 1 + 1) By5.length).toNat [] = by0 at o5 p5
   have f5 := flip_any l hl2 (a + 1 + 1 + 1) 2 (by omega) (by omega) (by omega) (by omega)
   generalize (nextV l (a + 1 + 1 + 1) 2 == 0) = dn at f5
   refine AW.sregDS hmix [0, 1, 2, 3, 4, 5, 6, 7, 8, 9, 10, 11, 12, 13, 14, 15, 18, 16, 17, 19] [0, 1, 2, 3, 4, 5, 6, 7, 8, 9, 10, 11, 12, 13, 14, 15, 17, 18, 16, 19] [17] rfl (by decide) (by simp only [permOps, renOp, List.map_cons, List.map_nil, List.getD_cons_zero, List.getD_cons_succ]; exact rfl) fun K hK => ?_; simp only [go_sem, ↓reduceIte, List.take_succ_cons, List.take_zero, List.drop_succ_cons, List.drop_zero]
   refine ⟨by omega, ?_⟩
   first | (refine runT_call _ _ [0, 3008] (fun hv hag => (o5).objs [0, 3008] ⟨((hag 0 (by simp)).trans rfl), ((hag 3008 (by simp)).trans rfl), trivial⟩ rfl (by decide) (by simp [go_sem, renOs]) (by simp) (by simp) (by simp [go_sem]) (by simp [go_sem]) (by simp [go_sem]) (by simp [go_sem])) rfl rfl (dstOk_of rfl) rfl rfl ?_; simp only [go_sem, ↓reduceIte, By5])
   first | (refine runT_call _ _ [0] (fun hv hag => (f5).objs [0] ⟨((hag 0 (by simp)).trans rfl), trivial⟩ rfl (by decide) (by simp [go_sem, renOs]) (by simp) (by simp) (by simp [go_sem]) (by simp [go_sem]) (by simp [go_sem]) (by simp [go_sem])) rfl rfl (dstOk_of rfl) rfl rfl ?_; simp only [go_sem, ↓reduceIte])
   first | (refine relStep_call _ _ [0] (fun hv hag => (answersI l hl2 (a + 1 + 1 + 1 + 1) (by omega) (by omega) h.sheet).objs [0] ⟨((hag 0 (by simp)).trans rfl), trivial⟩ rfl (by decide) (by simp [go_sem, renOs]) (by simp [go_sem]) (by simp [go_sem]) (fun j hj => ⟨by simp, by simp, by simp [go_sem], by simp [go_sem]⟩)) rfl rfl (dstOk_of rfl) rfl rfl ⟨by kernel_rfl, by kernel_rfl⟩ ?_; rintro ans hans; (try dsimp only at ans); (try dsimp only at hans); simp only [go_sem, ↓reduceIte])
   refine ⟨by kernel_rfl, ?_⟩
   refine hK _ ?_; (try clear hK K)
   obtain ⟨⟨ha1, ha2⟩, ha3, ha4⟩ := hans
   refine AW.seq_k fun K hK => ?_
   suffices hA : ∀ by1 : Str, by1 ∈ By5 → ∀ s, Weak cx s (⟨114, [(10, .ptr 3456 0), (7, .slr 448 0 out.length), (8, I (m + dt)), (12, I i), (0, .ptr 0 0), (4, .ptr 64 0), (11, I many)], [(0, some (Stm l ans.2)), (64, some (O.box 31 (suV x))), (448, some (O.vec 50 7 (dv (out.map rvD)))), (3456, some (O.box 50 [I (out.length + 1), I (m + dt), S pr.1, S pr.2, S by1, B dn, .d (.sl (ans.1.map anD))]))], 60⟩ : St) → K s by
    clear hK
    cases e : (by0 == pr.2)
    ·repeat' (first | (refine AW.sreg rfl fun K hK => ?_; simp only [go_sem, ↓reduceIte, e]) | (refine AW.skip ?_; simp only [Then, InBlock]) | (refine AW.cF ?_) | (refine hK _ ?_; clear hK K))
     exact hA by0 p5 _ (Weak.oC hcx [(64, 64), (448, 448), (3456, 3456)] (by refine ⟨?_, ?_, ?_⟩ <;> simp [go_sem, gL, kL, List.map_append, dv_push]))
    ·repeat' (first | ((first | refine AW.sreg rfl fun K hK => ?_ | refine AW.reg rfl ?_); simp only [go_sem, ↓reduceIte, e]) | (refine AW.cT ?_) | (refine hK _ ?_; clear hK K))
     exact hA [] (by decide) _ (Weak.oC hcx [(64, 64), (448, 448), (3456, 3456)] (by refine ⟨?_, ?_, ?_⟩ <;> simp [go_sem, gL, kL, List.map_append, dv_push]))
   intro by1 hby1 s hw
   refine hK s (AW.weak hw ?_)
   clear hw hK K s o5 p5 f5
   refine AW.seq_k fun K hK => ?_
   suffices hB : ∀ (no t0 : Int) (pe by2 : Str) (dn2 : Bool) (A : Int), KeyR by2 ∧ by2.length ≤ 1000 → ans.2 ≤ A → A ≤ ans.2 + 4 → ∀ s, Weak cx s (⟨114, [(10, .ptr 3456 0), (7, .slr 448 0 out.length), (8, I (m + dt)), (12, I i), (0, .ptr 0 0), (4, .ptr 64 0), (11, I many)], [(0, some (Stm l A)), (64, some (O.box 31 (suV x))), (448, some (O.vec 50 7 (dv (out.map rvD)))), (3456, some (O.box 50 [I no, I t0, S pr.1, S pe, S by2, B dn2, .d (.sl (ans.1.map anD))]))], 95⟩ : St) → K s by
    clear hK
    have hb1 := byOk (.inl (List.mem_append_left _ hby1))
    have hpq := (h.pairs pr hprm).2
    have n6 := next_any l hl2 (ans.2 + 1) 5 (by omega) (by omega) (by omega) (by omega)
    have r6 := nextV_range l (ans.2 + 1) 5 (by omega)
    generalize nextV l (ans.2 + 1) 5 = k6 at n6 r6
    have hk6 : k6 = 0 ∨ k6 = 1 ∨ k6 = 2 ∨ k6 = 3 ∨ k6 = 4 := by omega
    rcases hk6 with rfl | rfl | rfl | rfl | rfl
    ·repeat' (first | ((first | refine AW.sreg rfl fun K hK => ?_ | refine AW.reg rfl ?_ | refine run_call _ _ _ ((n6).objA [0]) rfl rfl (dstOk_of rfl) rfl rfl rfl ?_); simp only [go_sem, ↓reduceIte]) | (refine AW.block ?_) | (refine AW.skip ?_; simp only [Then, InBlock]) | (refine AW.cT ?_) | (refine AW.cond rfl (fun h => ?_) (fun h => ?_) <;> (try simp only [decide_eq_true_eq, decide_eq_false_iff_not, Bool.not_eq_true', Bool.not_eq_false', Bool.not_eq_eq_eq_not, Bool.not_true, Bool.not_false, beq_iff_eq, bne_iff_ne, beq_eq_false_iff_ne, ne_eq, Bool.and_eq_true, Bool.or_eq_true, Bool.or_eq_false_iff] at h)) | (refine hK _ ?_; clear hK K) | (refine run_callI _ _ _ ((flipI l hl2 _ _ (by omega) (by omega) (by omega) (by omega)).objs [0] ⟨rfl, trivial⟩ rfl (by decide) (by simp [go_sem, renOs]) (by simp [go_sem]) (by simp [go_sem]) (fun j hj => ⟨by simp, by simp, by simp [go_sem], by simp [go_sem]⟩)) rfl rfl (dstOk_of rfl) rfl rfl rfl ?_; rintro r hr; (try dsimp only at r); (try dsimp only at hr); simp only [go_sem, ↓reduceIte]) | (refine run_callI _ _ _ ((odd10I l hl2 _ 1 9 (by omega) (by omega) (by omega) (by omega) (by omega)).objs [0] ⟨rfl, trivial⟩ rfl (by decide) (by simp [go_sem, renOs]) (by simp [go_sem]) (by simp [go_sem]) (fun j hj => ⟨by simp, by simp, by simp [go_sem], by simp [go_sem]⟩)) rfl rfl (dstOk_of rfl) rfl rfl rfl ?_; rintro od hod; (try dsimp only at od); (try dsimp only at hod); simp only [go_sem, ↓reduceIte]))
     ·exact hB od.1 (m + dt) pr.2 by1 dn od.2 hb1 (by omega) (by omega) _ (Weak.oC hcx [(64, 64), (448, 448), (3456, 3456)] (by refine ⟨?_, ?_, ?_⟩ <;> simp [go_sem, gL, kL, List.map_append, dv_push]))
     ·exact hB (out.length + 1) (m + dt) pr.2 by1 dn (ans.2 + 1) hb1 (by omega) (by omega) _ (Weak.oC hcx [(64, 64), (448, 448), (3456, 3456)] (by refine ⟨?_, ?_, ?_⟩ <;> simp [go_sem, gL, kL, List.map_append, dv_push]))
    ·repeat' (first | ((first | refine AW.sreg rfl fun K hK => ?_ | refine AW.reg rfl ?_ | refine run_call _ _ _ ((n6).objA [0]) rfl rfl (dstOk_of rfl) rfl rfl rfl ?_); simp only [go_sem, ↓reduceIte]) | (refine AW.block ?_) | (refine AW.skip ?_; simp only [Then, InBlock]) | (refine AW.cT ?_) | (refine AW.cF ?_) | (refine AW.cond rfl (fun h => ?_) (fun h => ?_) <;> (try simp only [decide_eq_true_eq, decide_eq_false_iff_not, Bool.not_eq_true', Bool.not_eq_false', Bool.not_eq_eq_eq_not, Bool.not_true, Bool.not_false, beq_iff_eq, bne_iff_ne, beq_eq_false_iff_ne, ne_eq, Bool.and_eq_true, Bool.or_eq_true, Bool.or_eq_false_iff] at h)) | (refine hK _ ?_; clear hK K) | (refine run_callI _ _ _ ((flipI l hl2 _ _ (by omega) (by omega) (by omega) (by omega)).objs [0] ⟨rfl, trivial⟩ rfl (by decide) (by simp [go_sem, renOs]) (by simp [go_sem]) (by simp [go_sem]) (fun j hj => ⟨by simp, by simp, by simp [go_sem], by simp [go_sem]⟩)) rfl rfl (dstOk_of rfl) rfl rfl rfl ?_; rintro r hr; (try dsimp only at r); (try dsimp only at hr); simp only [go_sem, ↓reduceIte]) | (refine run_callI _ _ _ ((odd10I l hl2 _ 0 100 (by omega) (by omega) (by omega) (by omega) (by omega)).objs [0] ⟨rfl, trivial⟩ rfl (by decide) (by simp [go_sem, renOs]) (by simp [go_sem]) (by simp [go_sem]) (fun j hj => ⟨by simp, by simp, by simp [go_sem], by simp [go_sem]⟩)) rfl rfl (dstOk_of rfl) rfl rfl rfl ?_; rintro od hod; (try dsimp only at od); (try dsimp only at hod); simp only [go_sem, ↓reduceIte]))
     ·exact hB (out.length + 1) od.1 pr.2 by1 dn od.2 hb1 (by omega) (by omega) _ (Weak.oC hcx [(64, 64), (448, 448), (3456, 3456)] (by refine ⟨?_, ?_, ?_⟩ <;> simp [go_sem, gL, kL, List.map_append, dv_push]))
     ·exact hB (out.length + 1) (m + dt) pr.2 by1 dn (ans.2 + 1) hb1 (by omega) (by omega) _ (Weak.oC hcx [(64, 64), (448, 448), (3456, 3456)] (by refine ⟨?_, ?_, ?_⟩ <;> simp [go_sem, gL, kL, List.map_append, dv_push]))
    ·repeat' (first | ((first | refine AW.sreg rfl fun K hK => ?_ | refine AW.reg rfl ?_ | refine run_call _ _ _ ((n6).objA [0]) rfl rfl (dstOk_of rfl) rfl rfl rfl ?_); simp only [go_sem, ↓reduceIte]) | (refine AW.block ?_) | (refine AW.skip ?_; simp only [Then, InBlock]) | (refine AW.cT ?_) | (refine AW.cF ?_) | (refine AW.cond rfl (fun h => ?_) (fun h => ?_) <;> (try simp only [decide_eq_true_eq, decide_eq_false_iff_not, Bool.not_eq_true', Bool.not_eq_false', Bool.not_eq_eq_eq_not, Bool.not_true, Bool.not_false, beq_iff_eq, bne_iff_ne, beq_eq_false_iff_ne, ne_eq, Bool.and_eq_true, Bool.or_eq_true, Bool.or_eq_false_iff] at h)) | (refine hK _ ?_; clear hK K) | (refine run_callI _ _ _ ((flipI l hl2 _ _ (by omega) (by omega) (by omega) (by omega)).objs [0] ⟨rfl, trivial⟩ rfl (by decide) (by simp [go_sem, renOs]) (by simp [go_sem]) (by simp [go_sem]) (fun j hj => ⟨by simp, by simp, by simp [go_sem], by simp [go_sem]⟩)) rfl rfl (dstOk_of rfl) rfl rfl rfl ?_; rintro r hr; (try dsimp only at r); (try dsimp only at hr); simp only [go_sem, ↓reduceIte]) | (refine run_callI _ _ _ ((one10I l hl2 _ (by omega) (by omega) [[122, 101, 100], [97, 110, 110]] (by simp) (by simp)).objs [0, _] ⟨rfl, rfl, trivial⟩ rfl (by decide) (by simp [go_sem, renOs]) (by simp [go_sem]) (by simp [go_sem]) (fun j hj => ⟨by simp, by simp, by simp [go_sem], by simp [go_sem]⟩)) rfl rfl (dstOk_of rfl) rfl rfl rfl ?_; rintro pe hpe; (try dsimp only at pe); (try dsimp only at hpe); simp only [go_sem, ↓reduceIte]))
     ·exact hB (out.length + 1) (m + dt) pe by1 dn (ans.2 + 1 + 1 + 1) hb1 (by omega) (by omega) _ (Weak.oC hcx [(64, 64), (448, 448), (3456, 3456)] (by refine ⟨?_, ?_, ?_⟩ <;> simp [go_sem, gL, kL, List.map_append, dv_push]))
     ·exact hB (out.length + 1) (m + dt) pr.2 by1 dn (ans.2 + 1) hb1 (by omega) (by omega) _ (Weak.oC hcx [(64, 64), (448, 448), (3456, 3456)] (by refine ⟨?_, ?_, ?_⟩ <;> simp [go_sem, gL, kL, List.map_append, dv_push]))
    ·repeat' (first | ((first | refine AW.sreg rfl fun K hK => ?_ | refine AW.reg rfl ?_ | refine run_call _ _ _ ((n6).objA [0]) rfl rfl (dstOk_of rfl) rfl rfl rfl ?_); simp only [go_sem, ↓reduceIte]) | (refine AW.block ?_) | (refine AW.skip ?_; simp only [Then, InBlock]) | (refine AW.cT ?_) | (refine AW.cF ?_) | (refine AW.cond rfl (fun h => ?_) (fun h => ?_) <;> (try simp only [decide_eq_true_eq, decide_eq_false_iff_not, Bool.not_eq_true', Bool.not_eq_false', Bool.not_eq_eq_eq_not, Bool.not_true, Bool.not_false, beq_iff_eq, bne_iff_ne, beq_eq_false_iff_ne, ne_eq, Bool.and_eq_true, Bool.or_eq_true, Bool.or_eq_false_iff] at h)) | (refine hK _ ?_; clear hK K) | (refine run_callI _ _ _ ((flipI l hl2 _ _ (by omega) (by omega) (by omega) (by omega)).objs [0] ⟨rfl, trivial⟩ rfl (by decide) (by simp [go_sem, renOs]) (by simp [go_sem]) (by simp [go_sem]) (fun j hj => ⟨by simp, by simp, by simp [go_sem], by simp [go_sem]⟩)) rfl rfl (dstOk_of rfl) rfl rfl rfl ?_; rintro r hr; (try dsimp only at r); (try dsimp only at hr); simp only [go_sem, ↓reduceIte]) | (refine run_callI _ _ _ ((one10I l hl2 _ (by omega) (by omega) [[65], pr.2] (by simp) (by simp)).objs [0, _] ⟨rfl, rfl, trivial⟩ rfl (by decide) (by simp [go_sem, renOs]) (by simp [go_sem]) (by simp [go_sem]) (fun j hj => ⟨by simp, by simp, by simp [go_sem], by simp [go_sem]⟩)) rfl rfl (dstOk_of rfl) rfl rfl rfl ?_; rintro by2 hby2; (try dsimp only at by2); (try dsimp only at hby2); simp only [go_sem, ↓reduceIte]))
     ·exact hB (out.length + 1) (m + dt) pr.2 by2 dn (ans.2 + 1 + 1 + 1) (byOk (by simp at hby2; rcases hby2 with rfl | rfl; exact .inl (by decide); exact .inr hpq)) (by omega) (by omega) _ (Weak.oC hcx [(64, 64), (448, 448), (3456, 3456)] (by refine ⟨?_, ?_, ?_⟩ <;> simp [go_sem, gL, kL, List.map_append, dv_push]))
     ·exact hB (out.length + 1) (m + dt) pr.2 by1 dn (ans.2 + 1) hb1 (by omega) (by omega) _ (Weak.oC hcx [(64, 64), (448, 448), (3456, 3456)] (by refine ⟨?_, ?_, ?_⟩ <;> simp [go_sem, gL, kL, List.map_append, dv_push]))
    ·repeat' (first | ((first | refine AW.sreg rfl fun K hK => ?_ | refine AW.reg rfl ?_ | refine run_call _ _ _ ((n6).objA [0]) rfl rfl (dstOk_of rfl) rfl rfl rfl ?_); simp only [go_sem, ↓reduceIte]) | (refine AW.block ?_) | (refine AW.skip ?_; simp only [Then, InBlock]) | (refine AW.cF ?_) | (refine AW.cond rfl (fun h => ?_) (fun h => ?_) <;> (try simp only [decide_eq_true_eq, decide_eq_false_iff_not, Bool.not_eq_true', Bool.not_eq_false', Bool.not_eq_eq_eq_not, Bool.not_true, Bool.not_false, beq_iff_eq, bne_iff_ne, beq_eq_false_iff_ne, ne_eq, Bool.and_eq_true, Bool.or_eq_true, Bool.or_eq_false_iff] at h)) | (refine hK _ ?_; clear hK K) | (refine run_callI _ _ _ ((flipI l hl2 _ _ (by omega) (by omega) (by omega) (by omega)).objs [0] ⟨rfl, trivial⟩ rfl (by decide) (by simp [go_sem, renOs]) (by simp [go_sem]) (by simp [go_sem]) (fun j hj => ⟨by simp, by simp, by simp [go_sem], by simp [go_sem]⟩)) rfl rfl (dstOk_of rfl) rfl rfl rfl ?_; rintro r hr; (try dsimp only at r); (try dsimp only at hr); simp only [go_sem, ↓reduceIte]))
     ·exact hB (out.length + 1) (m + dt) pr.2 by1 true (ans.2 + 1 + 1) hb1 (by omega) (by omega) _ (Weak.oC hcx [(64, 64), (448, 448), (3456, 3456)] (by refine ⟨?_, ?_, ?_⟩ <;> simp [go_sem, gL, kL, List.map_append, dv_push]))
     ·exact hB (out.length + 1) (m + dt) pr.2 by1 dn (ans.2 + 1) hb1 (by omega) (by omega) _ (Weak.oC hcx [(64, 64), (448, 448), (3456, 3456)] (by refine ⟨?_, ?_, ?_⟩ <;> simp [go_sem, gL, kL, List.map_append, dv_push]))
   intro no t0 pe by2 dn2 A hby2 hA1 hA2 s hw
   refine hK s (AW.weak hw ?_)
   clear hw hK K s
   refine AW.seq_k fun K hK => ?_
   suffices hC : ∀ (dn3 : Bool) (an3 : List An), an3.length ≤ 30 ∧ (∀ y ∈ an3, AnB y) → ∀ s, Weak cx s (⟨114, [(10, .ptr 3456 0), (7, .slr 448 0 out.length), (8, I (m + dt)), (12, I i), (0, .ptr 0 0), (4, .ptr 64 0), (11, I many)], [(0, some (Stm l (A + 1))), (64, some (O.box 31 (suV x))), (448, some (O.vec 50 7 (dv (out.map rvD)))), (3456, some (O.box 50 [I no, I t0, S pr.1, S pe, S by2, B dn3, .d (.sl (an3.map anD))]))], 150⟩ : St) → K s by
    clear hK
    have f7 := flip_any l hl2 A 40 (by omega) (by omega) (by omega) (by omega)
    generalize (nextV l A 40 == 0) = fl at f7
    cases fl
    ·have hgood : ∀ r ∈ out ++ [((no, t0, pr.1, pe, by2, dn2, ans.1) : Rv)], GoodRv r := by
      intro r hr
      rcases List.mem_append.1 hr with hr | hr
      ·exact h3 r hr
      ·obtain rfl := List.mem_singleton.1 hr
       exact ⟨⟨hby2.2, by simp only; omega, ha2⟩, hby2.1⟩
     have hrf := reviewsFault_any h (out ++ [(no, t0, pr.1, pe, by2, dn2, ans.1)]) (by simp; omega) hgood
     generalize rfG x (out ++ [(no, t0, pr.1, pe, by2, dn2, ans.1)]) = F at hrf
     repeat' (first | ((first | refine AW.sregD hmix rfl fun K hK => ?_ | refine runT_call _ _ [0] (fun hv hag => (f7).objs [0] ⟨((hag 0 (by simp)).trans rfl), trivial⟩ rfl (by decide) (by simp [go_sem, renOs]) (by simp) (by simp) (by simp [go_sem]) (by simp [go_sem]) (by simp [go_sem]) (by simp [go_sem])) rfl rfl (dstOk_of rfl) rfl rfl ?_ | refine runT_call _ _ [448] (fun hv hag => (cloneO_Rv out (by omega)).objs [448] ⟨((hag 448 (by simp)).trans rfl), trivial⟩ rfl (by decide) (by simp [go_sem, renOs]) (by simp) (by simp) (by simp [go_sem]) (by simp [go_sem]) (by simp [go_sem]) (by simp [go_sem])) rfl rfl (dstOk_of rfl) rfl rfl ?_); simp only [go_sem, ↓reduceIte, List.length_map, Nat.reduceSub, Nat.add_zero, dv_length, List.length_append, List.length_cons, List.length_nil]) | (with_reducible refine andI ?_))
     refine runT_call _ _ [6656] (fun hv hag => (hrf).lend (frzL_cons frz_d (frzL_cons ((frz_app1 (xs := out.map rvD) rfl ((hag 6656 (by simp)).trans rfl) rfl (by simp)).trans (by rw [List.map_append]; rfl)) frzL_nil)) rfl rfl rfl) rfl rfl (dstOk_of rfl) rfl rfl ?_
     by_cases hF : F = 0
     ·subst hF
      simp only [go_sem, ↓reduceIte, List.length_map, Nat.reduceSub, Nat.add_zero, dv_length, List.length_append, List.length_cons, List.length_nil, bne_self_eq_false]
      repeat' (first | (refine AW.skip ?_; simp only [Then, InBlock]) | (refine AW.cF ?_) | (refine hK _ ?_; clear hK K) | (with_reducible refine And.intro (?_ : regOk _ _ = true) ?_; kernel_rfl))
      exact hC dn2 ans.1 ⟨by omega, ha2⟩ _ (Weak.oC hcx [(64, 64), (448, 448), (3456, 3456)] (by refine ⟨?_, ?_, ?_⟩ <;> simp [go_sem, gL, kL, List.map_append, dv_push]))
     ·have eF : (F != 0) = true := by simpa using hF
      have hgood2 : ∀ r ∈ out ++ [((no, t0, pr.1, pe, by2, false, []) : Rv)], GoodRv r := by
       intro r hr
       rcases List.mem_append.1 hr with hr | hr
       ·exact h3 r hr
       ·obtain rfl := List.mem_singleton.1 hr
        exact ⟨⟨hby2.2, by simp, by simp⟩, hby2.1⟩
      have hrf2 := reviewsFault_any h (out ++ [(no, t0, pr.1, pe, by2, false, [])]) (by simp; omega) hgood2
      generalize rfG x (out ++ [(no, t0, pr.1, pe, by2, false, [])]) = F2 at hrf2
      simp only [go_sem, ↓reduceIte, List.length_map, Nat.reduceSub, Nat.add_zero, dv_length, List.length_append, List.length_cons, List.length_nil, eF]
      repeat' (first | ((first | refine AW.sreg rfl fun K hK => ?_ | refine AW.sregD hmix rfl fun K hK => ?_ | refine runT_call _ _ [448] (fun hv hag => (cloneO_Rv out (by omega)).objs [448] ⟨((hag 448 (by simp)).trans rfl), trivial⟩ rfl (by decide) (by simp [go_sem, renOs]) (by simp) (by simp) (by simp [go_sem]) (by simp [go_sem]) (by simp [go_sem]) (by simp [go_sem])) rfl rfl (dstOk_of rfl) rfl rfl ?_); simp only [go_sem, ↓reduceIte, List.length_map, Nat.reduceSub, Nat.add_zero, dv_length, List.length_append, List.length_cons, List.length_nil, eF]) | (refine AW.cT ?_) | (refine hK _ ?_; clear hK K) | (with_reducible refine And.intro (?_ : regOk _ _ = true) ?_; kernel_rfl) | (with_reducible refine andI ?_))
      refine runT_call _ _ [7488] (fun hv hag => (hrf2).lend (frzL_cons frz_d (frzL_cons ((frz_app1 (xs := out.map rvD) rfl ((hag 7488 (by simp)).trans rfl) rfl (by simp)).trans (by rw [List.map_append]; rfl)) frzL_nil)) rfl rfl rfl) rfl rfl (dstOk_of rfl) rfl rfl ?_
      by_cases hF2 : F2 = 0
      ·subst hF2
       simp only [go_sem, ↓reduceIte, List.length_map, Nat.reduceSub, Nat.add_zero, dv_length, List.length_append, List.length_cons, List.length_nil, bne_self_eq_false]
       repeat' (first | (refine AW.skip ?_; simp only [Then, InBlock]) | (refine AW.cF ?_) | (refine hK _ ?_; clear hK K) | (with_reducible refine And.intro (?_ : regOk _ _ = true) ?_; kernel_rfl))
       exact hC false [] ⟨by simp, by simp⟩ _ (Weak.trans (Weak.nilB 3456 6 50 62 4 rfl rfl) (Weak.oC hcx [(64, 64), (448, 448), (3456, 3456)] (by refine ⟨?_, ?_, ?_⟩ <;> simp [go_sem, gL, kL, List.map_append, dv_push])))
      ·have eF2 : (F2 != 0) = true := by simpa using hF2
       simp only [go_sem, ↓reduceIte, List.length_map, Nat.reduceSub, Nat.add_zero, dv_length, List.length_append, List.length_cons, List.length_nil, eF2]
       repeat' (first | (refine AW.exit ?_; simp only [go_sem, ↓reduceIte]) | (refine AW.cT ?_) | (refine hK _ ?_; clear hK K) | (with_reducible refine And.intro (?_ : regOk _ _ = true) ?_; kernel_rfl))
       refine hK _ ?_
       clear hC hK
       repeat' (first | (refine AW.reg rfl ?_; simp only [go_sem, ↓reduceIte]) | (with_reducible refine andI ?_))
       exact ⟨(i + 1, out, m + dt, A + 1), ⟨by simp only; omega, ⟨by simp only; omega, h3⟩, ⟨by simp only; omega, by simp only; omega⟩, by simp only; omega, by simp only; omega⟩, by simp only; omega, (Weak.oC hcx [(64, 64), (448, 448)] (by refine ⟨?_, ?_, ?_⟩ <;> simp [go_sem, gL, kL, List.map_append, dv_push]))⟩
    ·repeat' (first | ((first | refine AW.sregD hmix rfl fun K hK => ?_ | refine runT_call _ _ [0] (fun hv hag => (f7).objs [0] ⟨((hag 0 (by simp)).trans rfl), trivial⟩ rfl (by decide) (by simp [go_sem, renOs]) (by simp) (by simp) (by simp [go_sem]) (by simp [go_sem]) (by simp [go_sem]) (by simp [go_sem])) rfl rfl (dstOk_of rfl) rfl rfl ?_); simp only [go_sem, ↓reduceIte]) | (refine AW.skip ?_; simp only [Then, InBlock]) | (refine AW.cF ?_) | (refine hK _ ?_; clear hK K) | (with_reducible refine And.intro (?_ : regOk _ _ = true) ?_; kernel_rfl))
     exact hC dn2 ans.1 ⟨by omega, ha2⟩ _ (Weak.oC hcx [(64, 64), (448, 448), (3456, 3456)] (by refine ⟨?_, ?_, ?_⟩ <;> simp [go_sem, gL, kL, List.map_append, dv_push]))
   intro dn3 an3 han s hw
   refine hK s (AW.weak hw ?_)
   clear hw hK K s
   have hg3 : ∀ r ∈ out ++ [((no, t0, pr.1, pe, by2, dn3, an3) : Rv)], GoodRv r := by
    intro r hr
    rcases List.mem_append.1 hr with hr | hr
    ·exact h3 r hr
    ·obtain rfl := List.mem_singleton.1 hr
     exact ⟨⟨hby2.2, han.1, han.2⟩, hby2.1⟩
   repeat' (first | (refine AW.reg rfl ?_; simp only [go_sem, ↓reduceIte, List.length_map, dv_length]) | (refine hK _ ?_; clear hK K) | (with_reducible refine andI ?_))
   exact ⟨(i + 1, out ++ [(no, t0, pr.1, pe, by2, dn3, an3)], m + dt, A + 1), ⟨by simp only; omega, ⟨by simp; omega, hg3⟩, ⟨by simp only; omega, by simp only; omega⟩, by simp only; omega, by simp only; omega⟩, by simp only; omega, (Weak.aC hcx (by refine ⟨?_, ?_, ?_⟩ <;> simp [go_sem, gL, kL, renOf, V.obj, Nat.blt, Nat.ble, List.map_append, dv_push]))⟩
end Go.AX
