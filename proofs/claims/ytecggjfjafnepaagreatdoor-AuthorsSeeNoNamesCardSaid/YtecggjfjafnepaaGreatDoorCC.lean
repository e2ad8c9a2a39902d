/- Papers, drawn. -/
import Derived.Test.YtecggjfjafnepaaGreatDoorCB
import Derived.Test.YtecggjfjafnepaaGreatDoorAx36
import Derived.Test.YtecggjfjafnepaaGreatDoorAx38
import Derived.Test.YtecggjfjafnepaaGreatDoorCA
set_option linter.unusedSimpArgs false
set_option linter.unusedVariables false
set_option linter.unnecessarySimpa false
set_option maxRecDepth 1000000
set_option maxHeartbeats 4000000
namespace Go.AX
open Go Go.Proofs Go.RowKit
theorem reverse_St (xs : List Str) (hl : xs.length ≤ 1000) : Does Tryz.prog 77 [.slr 0 0 xs.length] [.vec 9 1 (dv (xs.map D.str))] (.tup []) [.vec 9 1 (dv (xs.reverse.map D.str))] := by
 refine Does.of_AW (n := 28) Tryz.func77 rfl rfl rfl fun cx hcx => ?_
 repeat' (first | (refine AW.sreg rfl fun K hK => ?_; simp only [go_sem, ↓reduceIte]) | (refine AW.block ?_) | (refine hK _ ?_; clear hK K) | (with_reducible refine andI ?_))
 refine AW.loopF (ι := Nat × List Str) [0] (fun p => [(2, I p.1), (3, I ((xs.length : Int) - 1 - p.1))]) (fun p => [(0, some (O.vec 9 1 (dv (p.2.map D.str))))]) 6 (fun p => 2 * p.1 ≤ xs.length + 1 ∧ p.2.length = xs.length ∧ ∀ k, k < xs.length → p.2[k]? = if k < p.1 ∨ xs.length ≤ k + p.1 then xs[xs.length - 1 - k]? else xs[k]?) (fun p => xs.length - p.1) (0, xs) ⟨by omega, rfl, fun k hk => by rw [if_neg (by omega)]⟩ (Weak.aC hcx (by refine ⟨?_, ?_, ?_⟩ <;> simp [go_sem, gL, kL, renOf, V.obj, Nat.blt, Nat.ble, List.map_append, dv_push])) ?_; simp only [St.at_nil, St.at_cons, lk, Nat.reduceEqDiff, ↓reduceIte, Option.getD_some, Option.getD_none, List.cons_append, List.nil_append, List.append_nil]
 rintro ⟨i, ys⟩ ⟨h1, h2, h3⟩
 simp only at h1 h2 h3 ⊢
 by_cases hi : 2 * i + 1 < xs.length
 ·obtain ⟨a, ha, -, -⟩ := get_some (l := xs) (i := i) (by omega)
  obtain ⟨b, hb, -, -⟩ := get_some (l := xs) (i := xs.length - 1 - i) (by omega)
  have hya : ys[i]? = some a := by rw [h3 i (by omega), if_neg (by omega), ha]
  have hyb : ys[xs.length - 1 - i]? = some b := by rw [h3 _ (by omega), if_neg (by omega), hb]
  have ej : ((xs.length : Int) - 1 - i).toNat = xs.length - 1 - i := by omega
  have g1 : (dv (ys.map D.str))[0 + i]? = some (.d (.str a)) := by simp [dv, hya]
  have g2 : (dv (ys.map D.str))[0 + (xs.length - 1 - i)]? = some (.d (.str b)) := by simp [dv, hyb]
  have s1 : (dv (ys.map D.str)).set (0 + i) (.d (.str b)) = dv ((ys.set i b).map D.str) := by simp [dv, List.map_set]
  have s2 : (dv ((ys.set i b).map D.str)).set (0 + (xs.length - 1 - i)) (.d (.str a)) = dv (((ys.set i b).set (xs.length - 1 - i) a).map D.str) := by simp [dv, List.map_set]
  have g3 : ∃ z, (dv ((ys.set i b).map D.str))[0 + (xs.length - 1 - i)]? = some (.d (.str z)) := by
   obtain ⟨z, hz, -, -⟩ := get_some (l := ys.set i b) (i := xs.length - 1 - i) (by simp; omega)
   exact ⟨z, by simp only [dv, Nat.zero_add, List.getElem?_map, hz, Option.map_some]⟩
  obtain ⟨z, g3⟩ := g3
  repeat' (first | ((first | refine AW.sreg rfl fun K hK => ?_ | refine AW.reg rfl ?_ | refine AW.regD hmix rfl ?_); simp only [go_sem, ↓reduceIte, ej, g1, g2, g3, s1, s2, dv_length, List.length_map, h2]) | (refine AW.seq_k fun K hK => ?_) | (refine AW.block ?_) | (refine AW.skip ?_; simp only [Then, InBlock]) | (refine AW.cT ?_) | (refine hK _ ?_; clear hK K) | (with_reducible refine And.intro (?_ : regOk _ _ = true) ?_; kernel_rfl) | (with_reducible refine andI ?_))
  all_goals first | (exfalso; omega) | skip
  refine ⟨(i + 1, (ys.set i b).set (xs.length - 1 - i) a), ⟨by simp only; omega, by simp [h2], fun k hk => ?_⟩, by simp only; omega, (Weak.aC hcx (by refine ⟨?_, ?_, ?_⟩ <;> simp [go_sem, gL, kL, renOf, V.obj, Nat.blt, Nat.ble, List.map_append, dv_push, show (xs.length : Int) - 1 - i - 1 = (xs.length : Int) - 1 - (i + 1) by omega]))⟩
  rw [List.getElem?_set, List.getElem?_set]
  by_cases e1 : xs.length - 1 - i = k
  ·rw [if_pos e1, if_pos (by simp; omega), if_pos (by omega), ← e1, show xs.length - 1 - (xs.length - 1 - i) = i by omega, ha]
  ·rw [if_neg e1]
   by_cases e2 : i = k
   ·rw [if_pos e2, if_pos (by omega), if_pos (by omega), ← e2, hb]
   ·rw [if_neg e2, h3 k hk]
    by_cases e3 : k < i ∨ xs.length ≤ k + i
    ·rw [if_pos e3, if_pos (by omega)]
    ·rw [if_neg e3, if_neg (by omega)]
 ·have he : ys = xs.reverse := by
   apply List.ext_getElem?
   intro k
   rcases Nat.lt_or_ge k xs.length with hk | hk
   ·rw [h3 k hk, List.getElem?_reverse hk]
    split
    ·rfl
    ·rw [show xs.length - 1 - k = k by omega]
   ·rw [List.getElem?_eq_none (by omega), List.getElem?_eq_none (by simp; omega)]
  subst he
  repeat' (first | ((first | refine AW.sreg rfl fun K hK => ?_ | refine AW.exit ?_); simp only [go_sem, ↓reduceIte]) | (refine AW.seq_k fun K hK => ?_) | (refine AW.cF ?_) | (refine hK _ ?_; clear hK K))
  all_goals first | (exfalso; omega) | exact Fin.objs [0] rfl (by simp [go_sem, inI, gI]) ⟨⟨_, rfl, by simp [go_sem, inI, gI]⟩, trivial⟩ (by simp) rfl (by simp [go_sem]) (by simp [go_sem]) rfl
theorem ext105 : Builder.Extra Tryz.prog Tryz.l105_ren where
 sizeBuilder := by kernel_rfl
 liesBuilder := by kernel_rfl
 t5 := Tryz.underlying5
 a5 := Tryz.isAgg5
 z5 := Tryz.sizeOf5
 v5 := Tryz.zeroValue5
 infoByte := by kernel_rfl
 cellsByte := by kernel_rfl
 sizeByte := by kernel_rfl
 neB5 := by decide
theorem repeat_t (c : Nat) (hc : c ≤ 100000) : Does Tryz.prog 78 [S [116], I c] [] (S (Lib.repeatL [116] c)) [] := by
 refine Does.of_below ⟨Tryz.f78, Tryz.func78, rfl, by kernel_rfl⟩ fun w ok vs hg hok hargs => ?_
 simp only [RVl, RV, RD] at hargs
 obtain ⟨v1, r1, e1, rfl, v2, r2, e2, rfl, rfl⟩ := hargs
 subst e2
 obtain rfl : vs = #[.string ⟨#[116]⟩, .int .i64 c] := by cases vs; simp_all
 refine (Any.strings_Repeat Tryz.l105 ext105 ⟨#[116]⟩ c w (by omega) (by simp [ByteArray.size]; omega)).mono fun e w' ⟨h1, h2⟩ => ⟨_, h1, h2, ?_⟩
 simp only [RV, RD]
theorem toDL_dvF {F : V → Option D} (h : ∀ x : D, F (.d x) = some x) : ∀ xs : List D, toDL F (dv xs) = some xs
 | [] => rfl
 | x :: xs => by
  have := toDL_dvF h xs
  simp only [dv, List.map_cons] at this ⊢
  simp only [toDL, h, this]
def ToL3 : List (List Str) := [[], [[97, 105]], [[97, 105], [100, 98]]]
theorem papersOf10I (l : List Int) (hl2 : l.length ≤ 9223372036854775807) (at_ : Int) (ha : 0 ≤ at_) (hb : at_ ≤ 10000) (n : Nat) (hn : n ≤ 6) :
  DoesI Tryz.prog 29 [.ptr 0 0, I n] [Stm l at_] (fun q : List Pa × Int => (q.1.length = n ∧ ∀ p ∈ q.1, PaR p ∧ p.2.2.2.2 ∈ ToL) ∧ at_ ≤ q.2 ∧ q.2 ≤ at_ + 20 * n) (fun q => .d (.sl (q.1.map paD))) (fun q => [Stm l q.2]) := by
 refine DoesI.of_AW (n := 116) Tryz.func29 rfl rfl rfl fun cx hcx => ?_
 have hmin : (if (6 : Int) < (n : Int) then 6 else (n : Int)) = n := if_neg (by omega)
 repeat' (first | (refine AW.sreg rfl fun K hK => ?_; simp only [go_sem, ↓reduceIte, hmin, Int.toNat_natCast, Nat.zero_add, Nat.sub_zero]) | (refine AW.seq_k fun K hK => ?_) | (refine AW.block ?_) | (refine hK _ ?_; clear hK K) | (with_reducible refine andI ?_))
 refine AW.weak (Weak.nil 5 56 5 rfl) ?_
 refine AW.loopF (ι := Nat × List Pa × Int) [0, 14, 15] (fun p => [(16, I p.1), (5, .slr 576 0 p.2.1.length)]) (fun p => [(192, some (SV Id6)), (0, some (Stm l p.2.2)), (576, some (O.vec 56 5 (dv (p.2.1.map paD))))]) 12 (fun p => p.1 ≤ n ∧ (p.2.1.length = p.1 ∧ ∀ x ∈ p.2.1, PaR x ∧ x.2.2.2.2 ∈ ToL) ∧ at_ ≤ p.2.2 ∧ p.2.2 ≤ at_ + 20 * p.1) (fun p => n - p.1) (0, [], at_) ⟨by simp, ⟨by simp, by simp⟩, by simp, by simp⟩ (Weak.aC hcx (by refine ⟨?_, ?_, ?_⟩ <;> simp [go_sem, gL, kL, renOf, V.obj, Nat.blt, Nat.ble, List.map_append, dv_push, Id6, dv])) ?_; simp only [St.at_nil, St.at_cons, lk, Nat.reduceEqDiff, ↓reduceIte, Option.getD_some, Option.getD_none, List.cons_append, List.nil_append, List.append_nil]
 rintro ⟨i, out, a⟩ ⟨h1, ⟨h2, h3⟩, h4, h5⟩
 dsimp only at h1 h2 h3 h4 h5 ⊢
 by_cases hi : i < n
 rotate_left
 ·obtain rfl : i = n := by omega
  repeat' (first | (refine AW.sreg rfl fun K hK => ?_; simp only [go_sem, ↓reduceIte, List.length_map]) | (refine AW.seq_k fun K hK => ?_) | (refine AW.exit ?_; simp only [go_sem, ↓reduceIte]) | (refine AW.cF ?_) | (refine hK _ ?_; clear hK K) | (clear hK K; refine hK _ ?_; clear hK K))
  exact AW.ret ⟨(out, a), ⟨⟨h2, h3⟩, by simp only; omega, by simp only; omega⟩, Fin.one rfl ((frz_slr rfl rfl (by simp)).trans (by simp [go_sem])) ⟨_, rfl, by simp [go_sem]⟩ rfl rfl rfl⟩
 ·obtain ⟨pid, hpid, hpm, -⟩ := get_some (l := Id6) (i := i) (by simp [Id6]; omega)
  have hget : (dv (Id6.map D.str))[0 + i]? = some (.d (.str pid)) := by simp only [dv, Nat.zero_add, List.getElem?_map, hpid, Option.map_some]
  have hpS : pid ∈ IdS := List.mem_append_left _ hpm
  have d0 : dv [] = [] := rfl
  have t0 : ∀ F : V → Option D, toDL F [] = some [] := fun _ => rfl
  have d1 : ∀ x : D, dv [x] = [V.d x] := fun _ => rfl
  have d2 : ∀ x y : D, dv [x, y] = [V.d x, V.d y] := fun _ _ => rfl
  have d4 : dv (Au4.map D.str) = [V.d (D.str [97, 110, 110]), V.d (D.str [98, 111, 98]), V.d (D.str [99, 105, 100]), V.d (D.str [100, 101, 101])] := rfl
  repeat' (first | (refine AW.sreg rfl fun K hK => ?_; simp only [go_sem, ↓reduceIte, hget, Int.reduceAdd]) | (refine AW.seq_k fun K hK => ?_) | (refine AW.block ?_) | (refine AW.skip ?_; simp only [Then, InBlock]) | (refine AW.cT ?_) | (refine hK _ ?_; clear hK K) | (with_reducible refine andI ?_))
  suffices hA : ∀ (tr ti : Str) (tp : List Str), tr ∈ TrS → ti ∈ TiS → tp ∈ ToL3 → ∀ s, Weak cx s (⟨116, [(0, .ptr 0 0), (5, .slr 576 0 out.length), (7, S pid), (8, .ptr 1984 0), (14, .slr 192 0 n), (15, I n), (16, I i)], [(0, some (Stm l (a + 1 + 1 + 1))), (192, some (SV Id6)), (576, some (O.vec 56 5 (dv (out.map paD)))), (1984, some (O.box 56 [S pid, S tr, S ti, .nils, .slr 2048 0 tp.length])), (2048, some (O.vec 9 1 (dv (tp.map D.str))))], 40⟩ : St) → K s by
   clear hK
   have n3 := next_any l hl2 (a + 1 + 1) 3 (by omega) (by omega) (by omega) (by omega)
   have r3 := nextV_range l (a + 1 + 1) 3 (by omega)
   generalize nextV l (a + 1 + 1) 3 = kk at n3 r3
   have hkk : kk = 0 ∨ kk = 1 ∨ kk = 2 := by omega
   rcases hkk with rfl | rfl | rfl
   all_goals
    repeat' (first | (refine run_callI _ _ _ ((one10I l hl2 _ (by omega) (by omega) [[109, 97, 105, 110], [109, 97, 105, 110], [100, 101, 109, 111]] (by simp) (by simp)).objs [0, _] ⟨rfl, rfl, trivial⟩ rfl (by decide) (by simp [go_sem, renOs]) (by simp [go_sem]) (by simp [go_sem]) (fun j hj => ⟨by simp, by simp, by simp [go_sem], by simp [go_sem]⟩)) rfl rfl (dstOk_of rfl) rfl rfl rfl ?_; rintro tr htr; (try dsimp only at tr); (try dsimp only at htr); simp only [go_sem, ↓reduceIte, List.set_cons_zero]) | (refine run_callI _ _ _ ((one10I l hl2 _ (by omega) (by omega) Ti3 (by simp [Ti3]) (by simp [Ti3])).objs [0, _] ⟨rfl, rfl, trivial⟩ rfl (by decide) (by simp [go_sem, renOs]) (by simp [go_sem]) (by simp [go_sem]) (fun j hj => ⟨by simp, by simp, by simp [go_sem], by simp [go_sem]⟩)) rfl rfl (dstOk_of rfl) rfl rfl rfl ?_; rintro ti hti; (try dsimp only at ti); (try dsimp only at hti); simp only [go_sem, ↓reduceIte, List.set_cons_zero]) | (refine run_call _ _ _ ((n3).objA [0]) rfl rfl (dstOk_of rfl) rfl rfl rfl ?_; simp only [go_sem, ↓reduceIte, List.set_cons_zero]) | (with_reducible refine andI ?_))
   ·exact hA tr ti [] ((show ∀ x ∈ ([[109, 97, 105, 110], [109, 97, 105, 110], [100, 101, 109, 111]] : List Str), x ∈ TrS by decide) _ htr) (List.mem_append_left _ (List.mem_append_left _ hti)) (by simp [ToL3]) _ (Weak.trans (Weak.nilB 1984 4 56 9 1 rfl rfl) (Weak.oC hcx [(192, 192), (576, 576), (1984, 1984), (2048, 2112)] (by refine ⟨?_, ?_, ?_⟩ <;> simp [go_sem, gL, kL, List.map_append, dv_push, d0])))
   ·exact hA tr ti [[97, 105]] ((show ∀ x ∈ ([[109, 97, 105, 110], [109, 97, 105, 110], [100, 101, 109, 111]] : List Str), x ∈ TrS by decide) _ htr) (List.mem_append_left _ (List.mem_append_left _ hti)) (by simp [ToL3]) _ (Weak.oC hcx [(192, 192), (576, 576), (1984, 1984), (2048, 1472)] (by refine ⟨?_, ?_, ?_⟩ <;> simp [go_sem, gL, kL, List.map_append, dv_push, d1]))
   ·exact hA tr ti [[97, 105], [100, 98]] ((show ∀ x ∈ ([[109, 97, 105, 110], [109, 97, 105, 110], [100, 101, 109, 111]] : List Str), x ∈ TrS by decide) _ htr) (List.mem_append_left _ (List.mem_append_left _ hti)) (by simp [ToL3]) _ (Weak.oC hcx [(192, 192), (576, 576), (1984, 1984), (2048, 1536)] (by refine ⟨?_, ?_, ?_⟩ <;> simp [go_sem, gL, kL, List.map_append, dv_push, d2]))
  intro tr ti tp htr hti htp s hw
  refine hK s (AW.weak hw ?_)
  clear hw hK K
  refine AW.weak (Weak.nilB 1984 3 56 9 1 rfl rfl) ?_
  simp only [List.set_cons_zero, List.set_cons_succ, Nat.reduceMul, Nat.reduceAdd]
  repeat' (first | (refine AW.sreg rfl fun K hK => ?_; simp only [go_sem, ↓reduceIte]) | (refine AW.seq_k fun K hK => ?_) | (refine AW.block ?_) | (refine hK _ ?_; clear hK K))
  refine AW.loopF (ι := Nat × List Str × Int) [0, 5, 7, 8, 14, 15, 16, 35, 36] (fun p => [(37, I p.1)]) (fun p => [(0, some (Stm l p.2.2)), (192, some (SV Id6)), (576, some (O.vec 56 5 (dv (out.map paD)))), (1984, some (O.box 56 [S pid, S tr, S ti, .slr 2560 0 p.2.1.length, .slr 2048 0 tp.length])), (2048, some (O.vec 9 1 (dv (tp.map D.str)))), (2560, some (O.vec 9 1 (dv (p.2.1.map D.str)))), (2624, some (O.vec 9 1 (dv (Au4.map D.str))))]) 46 (fun p => p.1 ≤ 4 ∧ p.2.1.length ≤ p.1 ∧ (∀ x ∈ p.2.1, x ∈ AuS) ∧ a + 1 + 1 + 1 ≤ p.2.2 ∧ p.2.2 ≤ a + 1 + 1 + 1 + p.1) (fun p => 4 - p.1) (0, [], a + 1 + 1 + 1) ⟨by simp, by simp, by simp, by simp, by simp⟩ (Weak.oC hcx [(192, 192), (576, 576), (1984, 1984), (2048, 2048), (2560, 2560), (2624, 2624)] (by refine ⟨?_, ?_, ?_⟩ <;> simp [go_sem, gL, kL, List.map_append, dv_push, d0, d4])) ?_; simp only [St.at_nil, St.at_cons, lk, Nat.reduceEqDiff, ↓reduceIte, Option.getD_some, Option.getD_none, List.cons_append, List.nil_append, List.append_nil]
  rintro ⟨j, au, b⟩ ⟨j1, j2, j3, j4, j5⟩
  dsimp only at j1 j2 j3 j4 j5 ⊢
  have htk : List.take au.length (dv (au.map D.str)) = dv (au.map D.str) := List.take_of_length_le (by simp [dv])
  by_cases hj : j < 4
  ·obtain ⟨x, hx, hxm, -⟩ := get_some (l := Au4) (i := j) (by simpa [Au4] using hj)
   have hgx : (dv (Au4.map D.str))[0 + j]? = some (.d (.str x)) := by simp only [dv, Nat.zero_add, List.getElem?_map, hx, Option.map_some]
   repeat' (first | ((first | refine AW.sreg rfl fun K hK => ?_ | refine AW.reg rfl ?_); simp only [go_sem, ↓reduceIte, hgx, htk, List.set_cons_zero, Int.reduceAdd]) | (refine AW.seq_k fun K hK => ?_) | (refine AW.block ?_) | (refine AW.skip ?_; simp only [Then, InBlock]) | (refine AW.cT ?_) | (refine AW.cond rfl (fun h => ?_) (fun h => ?_) <;> (try simp only [decide_eq_true_eq, decide_eq_false_iff_not, Bool.not_eq_true', Bool.not_eq_false', Bool.not_eq_eq_eq_not, Bool.not_true, Bool.not_false, beq_iff_eq, bne_iff_ne, beq_eq_false_iff_ne, ne_eq, Bool.and_eq_true, Bool.or_eq_true, Bool.or_eq_false_iff] at h)) | (refine hK _ ?_; clear hK K) | (refine run_callI _ _ _ ((flipI l hl2 b 3 (by omega) (by omega) (by omega) (by omega)).objs [0] ⟨rfl, trivial⟩ rfl (by decide) (by simp [go_sem, renOs]) (by simp [go_sem]) (by simp [go_sem]) (fun j hj => ⟨by simp, by simp, by simp [go_sem], by simp [go_sem]⟩)) rfl rfl (dstOk_of rfl) rfl rfl rfl ?_; rintro r hr; (try dsimp only at r); (try dsimp only at hr); simp only [go_sem, ↓reduceIte, hgx, htk, List.set_cons_zero, Int.reduceAdd]) | (with_reducible refine andI ?_))
   ·refine ⟨(j + 1, au ++ [x], b + 1), ⟨hj, by simp; omega, fun y hy => ?_, by simp only; omega, by simp only; omega⟩, by simp only; omega, (Weak.oC hcx [(192, 192), (576, 576), (1984, 1984), (2048, 2048), (2560, 3584), (2624, 2624)] (by refine ⟨?_, ?_, ?_⟩ <;> simp [go_sem, gL, kL, List.map_append, dv_push]))⟩
    rcases List.mem_append.1 hy with hy | hy
    ·exact j3 y hy
    ·obtain rfl := List.mem_singleton.1 hy
     exact List.mem_append_left _ hxm
   ·exact ⟨(j + 1, au, b + 1), ⟨hj, by simp only; omega, j3, by simp only; omega, by simp only; omega⟩, by simp only; omega, (Weak.oC hcx [(192, 192), (576, 576), (1984, 1984), (2048, 2048), (2560, 2560), (2624, 2624)] (by refine ⟨?_, ?_, ?_⟩ <;> simp [go_sem, gL, kL, List.map_append, dv_push]))⟩
  ·obtain rfl : j = 4 := by omega
   refine AW.sreg rfl fun K hK => ?_; simp only [go_sem, ↓reduceIte]
   refine hK _ ?_; (try clear hK K)
   refine AW.seq_k fun K hK => ?_
   refine AW.cF ?_
   refine AW.exit ?_
   simp only [go_sem, ↓reduceIte]
   clear hK K
   refine hK _ ?_
   clear hK K
   refine AW.seq_k fun K hK => ?_
   refine AW.joinK (ι := List Str × Int) (fun p => (∀ x ∈ p.1, x ∈ AuS) ∧ p.1.length ≤ 4 ∧ a + 1 + 1 + 1 ≤ p.2 ∧ p.2 ≤ a + 8) (fun p => ⟨116, [(0, .ptr 0 0), (5, .slr 576 0 out.length), (7, S pid), (8, .ptr 1984 0), (14, .slr 192 0 n), (15, I n), (16, I i)], [(0, some (Stm l p.2)), (192, some (SV Id6)), (576, some (O.vec 56 5 (dv (out.map paD)))), (1984, some (O.box 56 [S pid, S tr, S ti, .slr 2560 0 p.1.length, .slr 2048 0 tp.length])), (2048, some (O.vec 9 1 (dv (tp.map D.str)))), (2560, some (O.vec 9 1 (dv (p.1.map D.str))))], 80⟩) ?_ ?_
   ·by_cases hau : au = []
    ·subst hau
     repeat' (first | ((first | refine AW.sreg rfl fun K hK => ?_ | refine AW.reg rfl ?_); simp only [go_sem, ↓reduceIte, List.length_nil, Int.reduceAdd]) | (refine AW.cT ?_) | (refine hK _ ?_; clear hK K) | (refine run_callI _ _ _ ((one10I l hl2 b (by omega) (by omega) [[97, 110, 110], [98, 111, 98]] (by simp) (by simp)).objs [0, _] ⟨rfl, rfl, trivial⟩ rfl (by decide) (by simp [go_sem, renOs]) (by simp [go_sem]) (by simp [go_sem]) (fun j hj => ⟨by simp, by simp, by simp [go_sem], by simp [go_sem]⟩)) rfl rfl (dstOk_of rfl) rfl rfl rfl ?_; rintro x hx; (try dsimp only at x); (try dsimp only at hx); simp only [go_sem, ↓reduceIte, List.length_nil, Int.reduceAdd]))
     exact ⟨([x], b + 1), ⟨fun y hy => by obtain rfl := List.mem_singleton.1 hy; exact (show ∀ x ∈ ([[97, 110, 110], [98, 111, 98]] : List Str), x ∈ AuS by decide) _ hx, by simp, by simp only; omega, by simp only; omega⟩, (Weak.oC hcx [(192, 192), (576, 576), (1984, 1984), (2048, 2048), (2560, 3456)] (by refine ⟨?_, ?_, ?_⟩ <;> simp [go_sem, gL, kL, List.map_append, dv_push, d1]))⟩
    ·have hpos : 0 < au.length := List.length_pos_iff.2 hau
     have h0b : ((au.length : Int) == 0) = false := by simp; omega
     repeat' (first | (refine AW.sreg rfl fun K hK => ?_; simp only [go_sem, ↓reduceIte, List.length_map, h0b]) | (refine AW.skip ?_; simp only [Then, InBlock]) | (refine AW.cF ?_) | (refine hK _ ?_; clear hK K))
     exact ⟨(au, b), ⟨j3, by simp only; omega, by simp only; omega, by simp only; omega⟩, (Weak.oC hcx [(192, 192), (576, 576), (1984, 1984), (2048, 2048), (2560, 2560)] (by refine ⟨?_, ?_, ?_⟩ <;> simp [go_sem, gL, kL, List.map_append, dv_push]))⟩
   rintro s2 ⟨au2, b2⟩ ⟨u1, u2, u3, u4⟩ hw2
   dsimp only at u1 u2 u3 u4 hw2
   refine hK s2 (AW.weak hw2 ?_)
   clear hw2 hK K htk j1 j2 j3 j4 j5
   refine AW.seq_k fun K hK => ?_
   refine AW.joinK (ι := List Str × Int) (fun p => (∀ x ∈ p.1, x ∈ AuS) ∧ p.1.length ≤ 4 ∧ a + 1 + 1 + 1 ≤ p.2 ∧ p.2 ≤ a + 9) (fun p => ⟨116, [(0, .ptr 0 0), (5, .slr 576 0 out.length), (7, S pid), (8, .ptr 1984 0), (14, .slr 192 0 n), (15, I n), (16, I i)], [(0, some (Stm l p.2)), (192, some (SV Id6)), (576, some (O.vec 56 5 (dv (out.map paD)))), (1984, some (O.box 56 [S pid, S tr, S ti, .slr 2560 0 p.1.length, .slr 2048 0 tp.length])), (2048, some (O.vec 9 1 (dv (tp.map D.str)))), (2560, some (O.vec 9 1 (dv (p.1.map D.str))))], 100⟩) ?_ ?_
   ·repeat' (first | ((first | refine AW.sreg rfl fun K hK => ?_ | refine AW.reg rfl ?_ | refine run_call _ _ _ ((reverse_St au2 (by omega)).objA [2560]) rfl rfl (dstOk_of rfl) rfl rfl rfl ?_); simp only [go_sem, ↓reduceIte, List.length_map, List.set_cons_zero]) | (refine AW.skip ?_; simp only [Then, InBlock]) | (refine AW.cond rfl (fun h => ?_) (fun h => ?_) <;> (try simp only [decide_eq_true_eq, decide_eq_false_iff_not, Bool.not_eq_true', Bool.not_eq_false', Bool.not_eq_eq_eq_not, Bool.not_true, Bool.not_false, beq_iff_eq, bne_iff_ne, beq_eq_false_iff_ne, ne_eq, Bool.and_eq_true, Bool.or_eq_true, Bool.or_eq_false_iff] at h)) | (refine hK _ ?_; clear hK K) | (refine run_callI _ _ _ ((flipI l hl2 b2 2 (by omega) (by omega) (by omega) (by omega)).objs [0] ⟨rfl, trivial⟩ rfl (by decide) (by simp [go_sem, renOs]) (by simp [go_sem]) (by simp [go_sem]) (fun j hj => ⟨by simp, by simp, by simp [go_sem], by simp [go_sem]⟩)) rfl rfl (dstOk_of rfl) rfl rfl rfl ?_; rintro r hr; (try dsimp only at r); (try dsimp only at hr); simp only [go_sem, ↓reduceIte, List.length_map, List.set_cons_zero]))
    ·exact ⟨(au2.reverse, b2 + 1), ⟨fun y hy => u1 y (List.mem_reverse.1 hy), by simpa using u2, by simp only; omega, by simp only; omega⟩, (Weak.oC hcx [(192, 192), (576, 576), (1984, 1984), (2048, 2048), (2560, 2560)] (by refine ⟨?_, ?_, ?_⟩ <;> simp [go_sem, gL, kL, List.map_append, dv_push]))⟩
    ·exact ⟨(au2, b2 + 1), ⟨u1, u2, by simp only; omega, by simp only; omega⟩, (Weak.oC hcx [(192, 192), (576, 576), (1984, 1984), (2048, 2048), (2560, 2560)] (by refine ⟨?_, ?_, ?_⟩ <;> simp [go_sem, gL, kL, List.map_append, dv_push]))⟩
   rintro s2 ⟨au3, b3⟩ ⟨v1, v2, v3, v4⟩ hw2
   dsimp only at v1 v2 v3 v4 hw2
   refine hK s2 (AW.weak hw2 ?_)
   clear hw2 hK K u1 u2 u3 u4
   have htk : List.take au3.length (dv (au3.map D.str)) = dv (au3.map D.str) := List.take_of_length_le (by simp [dv])
   have htk2 : List.take tp.length (dv (tp.map D.str)) = dv (tp.map D.str) := List.take_of_length_le (by simp [dv])
   have htpl : tp ∈ ToL ∧ tp.length ≤ 2 ∧ (∀ x ∈ tp, x ∈ ToS) ∧ ∀ x ∈ ([[], [97, 105], [65]] : List Str), tp ++ [x] ∈ ToL ∧ x ∈ ToS := (show ∀ tp ∈ ToL3, tp ∈ ToL ∧ tp.length ≤ 2 ∧ (∀ x ∈ tp, x ∈ ToS) ∧ ∀ x ∈ ([[], [97, 105], [65]] : List Str), tp ++ [x] ∈ ToL ∧ x ∈ ToS by decide) tp htp
   obtain ⟨hl1, hl2', hl3, hl4⟩ := htpl
   have hok : ∀ (p1 p2 p3 : Str) (p4 p5 : List Str), p1 ∈ IdS → p2 ∈ TrS → p3 ∈ TiS → (∀ x ∈ p4, x ∈ AuS) → p4.length ≤ 5 → p5 ∈ ToL → (∀ x ∈ p5, x ∈ ToS) → p5.length ≤ 3 → PaR (p1, p2, p3, p4, p5) ∧ p5 ∈ ToL := fun p1 p2 p3 p4 p5 q1 q2 q3 q4 q5 q6 q7 q8 => ⟨⟨q1, q2, q3, q4, q5, q7, q8⟩, q6⟩
   refine AW.seq_k fun K hK => ?_
   refine AW.joinK (ι := Pa × Int) (fun p => (PaR p.1 ∧ p.1.2.2.2.2 ∈ ToL) ∧ a ≤ p.2 ∧ p.2 ≤ a + 20) (fun p => ⟨116, [(0, .ptr 0 0), (5, .slr 576 0 out.length), (7, S pid), (8, .ptr 1984 0), (14, .slr 192 0 n), (15, I n), (16, I i)], [(0, some (Stm l p.2)), (192, some (SV Id6)), (576, some (O.vec 56 5 (dv (out.map paD)))), (1984, some (O.box 56 [S p.1.1, S p.1.2.1, S p.1.2.2.1, .d (.sl (p.1.2.2.2.1.map D.str)), .d (.sl (p.1.2.2.2.2.map D.str))]))], 200⟩) ?_ ?_
   ·repeat' (first | (refine AW.sreg rfl fun K hK => ?_; simp only [go_sem, ↓reduceIte, List.length_map, List.set_cons_zero]) | (refine AW.skip ?_; simp only [Then, InBlock]) | (refine AW.cond rfl (fun h => ?_) (fun h => ?_) <;> (try simp only [decide_eq_true_eq, decide_eq_false_iff_not, Bool.not_eq_true', Bool.not_eq_false', Bool.not_eq_eq_eq_not, Bool.not_true, Bool.not_false, beq_iff_eq, bne_iff_ne, beq_eq_false_iff_ne, ne_eq, Bool.and_eq_true, Bool.or_eq_true, Bool.or_eq_false_iff] at h)) | (refine hK _ ?_; clear hK K) | (refine run_callI _ _ _ ((flipI l hl2 b3 50 (by omega) (by omega) (by omega) (by omega)).objs [0] ⟨rfl, trivial⟩ rfl (by decide) (by simp [go_sem, renOs]) (by simp [go_sem]) (by simp [go_sem]) (fun j hj => ⟨by simp, by simp, by simp [go_sem], by simp [go_sem]⟩)) rfl rfl (dstOk_of rfl) rfl rfl rfl ?_; rintro r hr; (try dsimp only at r); (try dsimp only at hr); simp only [go_sem, ↓reduceIte, List.length_map, List.set_cons_zero]))
    rotate_left
    ·exact ⟨((pid, tr, ti, au3, tp), b3 + 1), ⟨hok _ _ _ _ _ hpS htr hti v1 (by omega) hl1 hl3 (by omega), by simp only; omega, by simp only; omega⟩, (Weak.oC hcx [(192, 192), (576, 576), (1984, 1984)] (by refine ⟨?_, ?_, ?_⟩ <;> simp [go_sem, gL, kL, List.map_append, dv_push, toDL_dvF, frz, frzL, toD, mkAgg, htk, htk2]))⟩
    ·have n5 := next_any l hl2 (b3 + 1) 5 (by omega) (by omega) (by omega) (by omega)
     have r5 := nextV_range l (b3 + 1) 5 (by omega)
     generalize nextV l (b3 + 1) 5 = kk at n5 r5
     have hkk : kk = 0 ∨ kk = 1 ∨ kk = 2 ∨ kk = 3 ∨ kk = 4 := by omega
     rcases hkk with rfl | rfl | rfl | rfl | rfl
     ·repeat' (first | ((first | refine AW.sreg rfl fun K hK => ?_ | refine AW.reg rfl ?_ | refine run_call _ _ _ ((n5).objA [0]) rfl rfl (dstOk_of rfl) rfl rfl rfl ?_); simp only [go_sem, ↓reduceIte, List.length_map, List.set_cons_zero, List.set_cons_succ]) | (refine AW.block ?_) | (refine AW.cT ?_) | (refine hK _ ?_; clear hK K) | (refine run_callI _ _ _ ((one10I l hl2 _ (by omega) (by omega) [[], [65], pid] (by simp) (by simp)).objs [0, _] ⟨rfl, rfl, trivial⟩ rfl (by decide) (by simp [go_sem, renOs]) (by simp [go_sem]) (by simp [go_sem]) (fun j hj => ⟨by simp, by simp, by simp [go_sem], by simp [go_sem]⟩)) rfl rfl (dstOk_of rfl) rfl rfl rfl ?_; rintro x hx; (try dsimp only at x); (try dsimp only at hx); simp only [go_sem, ↓reduceIte, List.length_map, List.set_cons_zero, List.set_cons_succ]) | (refine run_callI _ _ _ ((one10I l hl2 _ (by omega) (by omega) [[], [109, 97, 105, 110]] (by simp) (by simp)).objs [0, _] ⟨rfl, rfl, trivial⟩ rfl (by decide) (by simp [go_sem, renOs]) (by simp [go_sem]) (by simp [go_sem]) (fun j hj => ⟨by simp, by simp, by simp [go_sem], by simp [go_sem]⟩)) rfl rfl (dstOk_of rfl) rfl rfl rfl ?_; rintro y hy; (try dsimp only at y); (try dsimp only at hy); simp only [go_sem, ↓reduceIte, List.length_map, List.set_cons_zero, List.set_cons_succ]))
      refine ⟨((x, y, ti, au3, tp), b3 + 1 + 1 + 1 + 1), ⟨hok _ _ _ _ _ ?_ ?_ hti v1 (by omega) hl1 hl3 (by omega), by simp only; omega, by simp only; omega⟩, (Weak.oC hcx [(192, 192), (576, 576), (1984, 1984)] (by refine ⟨?_, ?_, ?_⟩ <;> simp [go_sem, gL, kL, List.map_append, dv_push, toDL_dvF, frz, frzL, toD, mkAgg, htk, htk2]))⟩
      ·simp only [List.mem_cons, List.not_mem_nil, or_false] at hx
       rcases hx with rfl | rfl | rfl
       ·decide
       ·decide
       ·exact hpS
      ·exact (show ∀ y ∈ ([[], [109, 97, 105, 110]] : List Str), y ∈ TrS by decide) _ hy
     ·have hp2 := pick_any l hl2 (b3 + 1 + 1) (by omega) (by omega) [200, 201] (by simp) (by simp)
      have hd2 := pick_mem l (b3 + 1 + 1) [200, 201] (by simp)
      generalize ([200, 201] : List Int).getD (nextV l (b3 + 1 + 1) ([200, 201] : List Int).length).toNat 0 = d at hp2 hd2
      simp only [List.mem_cons, List.not_mem_nil, or_false] at hd2
      have hrp := repeat_t d.toNat (by omega)
      rw [Int.toNat_of_nonneg (by omega)] at hrp
      have hrl : Lib.repeatL [116] d.toNat ∈ TiS := by
       rcases hd2 with rfl | rfl <;> decide
      generalize Lib.repeatL [116] d.toNat = rr at hrp hrl
      repeat' (first | ((first | refine AW.sreg rfl fun K hK => ?_ | refine AW.reg rfl ?_ | refine run_call _ _ _ ((n5).objA [0]) rfl rfl (dstOk_of rfl) rfl rfl rfl ?_ | refine run_call _ _ _ ((hp2).objA [0, _]) rfl rfl (dstOk_of rfl) rfl rfl rfl ?_ | refine run_call _ _ _ ((hrp).pure rfl rfl _ _) rfl rfl (dstOk_of rfl) rfl rfl rfl ?_); simp only [go_sem, ↓reduceIte, List.length_map, List.set_cons_zero, List.set_cons_succ]) | (refine AW.block ?_) | (refine AW.cT ?_) | (refine AW.cF ?_) | (refine hK _ ?_; clear hK K) | (refine run_callI _ _ _ ((one10I l hl2 _ (by omega) (by omega) [[], [32, 120], [97, 32, 32, 98], rr] (by simp) (by simp)).objs [0, _] ⟨rfl, rfl, trivial⟩ rfl (by decide) (by simp [go_sem, renOs]) (by simp [go_sem]) (by simp [go_sem]) (fun j hj => ⟨by simp, by simp, by simp [go_sem], by simp [go_sem]⟩)) rfl rfl (dstOk_of rfl) rfl rfl rfl ?_; rintro x hx; (try dsimp only at x); (try dsimp only at hx); simp only [go_sem, ↓reduceIte, List.length_map, List.set_cons_zero, List.set_cons_succ]))
      refine ⟨((pid, tr, x, au3, tp), b3 + 1 + 1 + 1 + 1), ⟨hok _ _ _ _ _ hpS htr ?_ v1 (by omega) hl1 hl3 (by omega), by simp only; omega, by simp only; omega⟩, (Weak.oC hcx [(192, 192), (576, 576), (1984, 1984)] (by refine ⟨?_, ?_, ?_⟩ <;> simp [go_sem, gL, kL, List.map_append, dv_push, toDL_dvF, frz, frzL, toD, mkAgg, htk, htk2]))⟩
      simp only [List.mem_cons, List.not_mem_nil, or_false] at hx
      rcases hx with rfl | rfl | rfl | rfl
      ·decide
      ·decide
      ·decide
      ·exact hrl
     ·have ho := one10_any l hl2 (b3 + 1 + 1) (by omega) (by omega) [[110, 111, 110, 101], [97, 110, 110], [], [65]] (by simp) (by simp)
      have hom := one_mem l (b3 + 1 + 1) [[110, 111, 110, 101], [97, 110, 110], [], [65]] (by simp)
      generalize ([[110, 111, 110, 101], [97, 110, 110], [], [65]] : List Str).getD (nextV l (b3 + 1 + 1) ([[110, 111, 110, 101], [97, 110, 110], [], [65]] : List Str).length).toNat [] = x at ho hom
      have htk3 : List.take (au3.length + 1) (dv (au3.map D.str ++ [D.str x])) = dv (au3.map D.str ++ [D.str x]) := List.take_of_length_le (by simp [dv])
      repeat' (first | ((first | refine AW.sreg rfl fun K hK => ?_ | refine AW.regD hmix rfl ?_ | refine run_call _ _ _ ((n5).objA [0]) rfl rfl (dstOk_of rfl) rfl rfl rfl ?_ | refine runT_call _ _ [0, 7232] (fun hv hag => (ho).objs [0, 7232] ⟨((hag 0 (by simp)).trans rfl), ((hag 7232 (by simp)).trans rfl), trivial⟩ rfl (by decide) (by simp [go_sem, renOs]) (by simp) (by simp) (by simp [go_sem]) (by simp [go_sem]) (by simp [go_sem]) (by simp [go_sem])) rfl rfl (dstOk_of rfl) rfl rfl ?_); simp only [go_sem, ↓reduceIte, List.length_map, List.set_cons_zero, List.set_cons_succ, htk]) | (refine AW.block ?_) | (refine AW.cT ?_) | (refine AW.cF ?_) | (refine hK _ ?_; clear hK K) | (with_reducible refine And.intro (?_ : regOk _ _ = true) ?_; kernel_rfl) | (with_reducible refine andI ?_))
      refine ⟨((pid, tr, ti, au3 ++ [x], tp), b3 + 1 + 1 + 1), ⟨hok _ _ _ _ _ hpS htr hti (fun y hy => ?_) (by simp; omega) hl1 hl3 (by omega), by simp only; omega, by simp only; omega⟩, (Weak.oC hcx [(192, 192), (576, 576), (1984, 1984)] (by refine ⟨?_, ?_, ?_⟩ <;> simp [go_sem, gL, kL, List.map_append, dv_push, toDL_dvF, frz, frzL, toD, mkAgg, htk, htk2, htk3]))⟩
      rcases List.mem_append.1 hy with hy | hy
      ·exact v1 y hy
      ·obtain rfl := List.mem_singleton.1 hy
       exact (show ∀ y ∈ ([[110, 111, 110, 101], [97, 110, 110], [], [65]] : List Str), y ∈ AuS by decide) _ hom
     ·repeat' (first | ((first | refine AW.sreg rfl fun K hK => ?_ | refine AW.reg rfl ?_ | refine run_call _ _ _ ((n5).objA [0]) rfl rfl (dstOk_of rfl) rfl rfl rfl ?_); simp only [go_sem, ↓reduceIte, List.length_map, List.set_cons_zero, List.set_cons_succ]) | (refine AW.block ?_) | (refine AW.cT ?_) | (refine AW.cF ?_) | (refine hK _ ?_; clear hK K))
      exact ⟨((pid, tr, ti, [], tp), b3 + 1 + 1), ⟨hok _ _ _ _ _ hpS htr hti (by simp) (by simp) hl1 hl3 (by omega), by simp only; omega, by simp only; omega⟩, Weak.trans (Weak.nilB 1984 3 56 9 1 rfl rfl) (Weak.oC hcx [(192, 192), (576, 576), (1984, 1984)] (by refine ⟨?_, ?_, ?_⟩ <;> simp [go_sem, gL, kL, List.map_append, dv_push, toDL_dvF, t0, frz, frzL, toD, mkAgg, htk, htk2, d0]))⟩
     ·have ho := one10_any l hl2 (b3 + 1 + 1) (by omega) (by omega) [[], [97, 105], [65]] (by simp) (by simp)
      have hom := one_mem l (b3 + 1 + 1) [[], [97, 105], [65]] (by simp)
      generalize ([[], [97, 105], [65]] : List Str).getD (nextV l (b3 + 1 + 1) ([[], [97, 105], [65]] : List Str).length).toNat [] = x at ho hom
      have htk3 : List.take (tp.length + 1) (dv (tp.map D.str ++ [D.str x])) = dv (tp.map D.str ++ [D.str x]) := List.take_of_length_le (by simp [dv])
      repeat' (first | ((first | refine AW.sreg rfl fun K hK => ?_ | refine AW.regD hmix rfl ?_ | refine run_call _ _ _ ((n5).objA [0]) rfl rfl (dstOk_of rfl) rfl rfl rfl ?_ | refine runT_call _ _ [0, 7360] (fun hv hag => (ho).objs [0, 7360] ⟨((hag 0 (by simp)).trans rfl), ((hag 7360 (by simp)).trans rfl), trivial⟩ rfl (by decide) (by simp [go_sem, renOs]) (by simp) (by simp) (by simp [go_sem]) (by simp [go_sem]) (by simp [go_sem]) (by simp [go_sem])) rfl rfl (dstOk_of rfl) rfl rfl ?_); simp only [go_sem, ↓reduceIte, List.length_map, List.set_cons_zero, List.set_cons_succ, htk2]) | (refine AW.block ?_) | (refine AW.cF ?_) | (refine hK _ ?_; clear hK K) | (with_reducible refine And.intro (?_ : regOk _ _ = true) ?_; kernel_rfl) | (with_reducible refine andI ?_))
      refine ⟨((pid, tr, ti, au3, tp ++ [x]), b3 + 1 + 1 + 1), ⟨hok _ _ _ _ _ hpS htr hti v1 (by omega) (hl4 x hom).1 (fun y hy => ?_) (by simp; omega), by simp only; omega, by simp only; omega⟩, (Weak.oC hcx [(192, 192), (576, 576), (1984, 1984)] (by refine ⟨?_, ?_, ?_⟩ <;> simp [go_sem, gL, kL, List.map_append, dv_push, toDL_dvF, frz, frzL, toD, mkAgg, htk, htk2, htk3]))⟩
      rcases List.mem_append.1 hy with hy | hy
      ·exact hl3 y hy
      ·obtain rfl := List.mem_singleton.1 hy
       exact (hl4 _ hom).2
   rintro s2 ⟨p, b4⟩ ⟨⟨w1, w2⟩, w3, w4⟩ hw2
   dsimp only at w1 w2 w3 w4 hw2
   refine hK s2 (AW.weak hw2 ?_)
   clear hw2 hK K v1 v2 v3 v4 htk htk2 hok
   have htk : List.take out.length (dv (out.map paD)) = dv (out.map paD) := List.take_of_length_le (by simp [dv])
   obtain ⟨p1, p2, p3, p4, p5⟩ := p
   repeat' (first | (refine AW.reg rfl ?_; simp only [go_sem, ↓reduceIte, List.length_map, htk]) | (refine hK _ ?_; clear hK K) | (with_reducible refine andI ?_))
   refine ⟨(i + 1, out ++ [(p1, p2, p3, p4, p5)], b4), ⟨hi, ⟨by simp; omega, fun y hy => ?_⟩, by simp only; omega, by simp only; omega⟩, by simp only; omega, (Weak.aC hcx (by refine ⟨?_, ?_, ?_⟩ <;> simp [go_sem, gL, kL, renOf, V.obj, Nat.blt, Nat.ble, List.map_append, dv_push]))⟩
   rcases List.mem_append.1 hy with hy | hy
   ·exact h3 y hy
   ·obtain rfl := List.mem_singleton.1 hy
    exact ⟨w1, w2⟩
end Go.AX

namespace Go.AX
open Go Go.Proofs Go.RowKit
attribute [go_sem] aRange aEntry mapOf Lf.done Lf.may Lf.next
theorem nodup_subN : ∀ (l r : List Nat), l.Nodup → (∀ x ∈ l, x ∈ r) → l.length ≤ r.length
 | [], _, _, _ => Nat.zero_le _
 | x :: l, r, hn, h => by
  have hn' := List.nodup_cons.1 hn
  have hx := h x (by simp)
  have ih := nodup_subN l (r.erase x) hn'.2 fun y hy => by
   have hne : y ≠ x := by rintro rfl; exact hn'.1 hy
   exact (List.mem_erase_of_ne hne).2 (h y (List.mem_cons_of_mem _ hy))
  rw [List.length_erase_of_mem hx] at ih
  have := List.length_pos_of_mem hx
  simp only [List.length_cons]
  omega
/-- Places of a map that were seen. -/
structure Sd (n : Nat) (seen : List Nat) : Prop where
 nd : seen.Nodup
 lt : ∀ j ∈ seen, j < n
theorem Sd.nil (n : Nat) : Sd n [] := ⟨List.nodup_nil, by simp⟩
theorem Sd.add {n : Nat} {seen : List Nat} (h : Sd n seen) {j : Nat} (hj : j ∉ seen) (hl : j < n) : Sd n (seen ++ [j]) where
 nd := by rw [List.nodup_append]; exact ⟨h.nd, by simp, fun a ha b hb => by simp at hb; subst hb; rintro rfl; exact hj ha⟩
 lt := fun i hi => by
  rcases List.mem_append.1 hi with hi | hi
  ·exact h.lt i hi
  ·obtain rfl := List.mem_singleton.1 hi
   exact hl
theorem Sd.len {n : Nat} {seen : List Nat} (h : Sd n seen) {j : Nat} (hj : j ∉ seen) (hl : j < n) : seen.length < n := by
 have := nodup_subN (seen ++ [j]) (List.range n) (h.add hj hl).nd fun i hi => List.mem_range.2 ((h.add hj hl).lt i hi)
 simp at this
 omega
theorem frz_ok2 {hv : Nat → Option O} {keep : Nat → Bool} {x : V} {d : D} (h : frz hv keep x = .d d) (c : Int) : frz hv keep (resV [x, I c]) = V.ren id (.tup [.d d, I c]) := by
 simp [resV, go_sem, h]
end Go.AX

namespace Go.AX
open Go Go.Proofs Go.RowKit
theorem pr_beq (x y : Pr) : (x.1 == y.1 && x.2 == y.2) = decide (x = y) := by
 by_cases h : x = y
 ·subst h; simp
 ·have : ¬ (x.1 = y.1 ∧ x.2 = y.2) := fun e => h (Prod.ext e.1 e.2)
  simp only [h, decide_false]
  rw [Bool.eq_false_iff]
  intro e
  simp at e
  exact this e
theorem index_Pr (xs : List Pr) (hl : xs.length ≤ 1000) (v : Pr) :
  Does Tryz.prog 73 [.d (.sl (xs.map prD)), .d (prD v)] [] (I (idxG (fun x => v.1 == x.1 && v.2 == x.2) xs 0)) [] := by
 refine Does.of_AW (n := 19) Tryz.func73 rfl rfl rfl fun cx hcx => ?_
 generalize hR : idxG (fun x => v.1 == x.1 && v.2 == x.2) xs 0 = R
 repeat' (first | (refine AW.sreg rfl fun K hK => ?_; simp only [go_sem, ↓reduceIte, List.length_map]) | (refine AW.seq_k fun K hK => ?_) | (refine AW.block ?_) | (refine hK _ ?_; clear hK K))
 refine AW.loopF (ι := Nat) [0, 3, 7] (fun p => [(8, I p)]) (fun p => [(0, some (O.box 60 [S v.1, S v.2]))]) 4 (fun p => p ≤ xs.length ∧ idxG (fun x => v.1 == x.1 && v.2 == x.2) (xs.drop p) p = R) (fun p => xs.length - p) 0 ⟨by simp, hR⟩ (Weak.aC hcx (by refine ⟨?_, ?_, ?_⟩ <;> simp [go_sem, gL, kL, renOf, V.obj, Nat.blt, Nat.ble, List.map_append, dv_push])) ?_; simp only [St.at_nil, St.at_cons, lk, Nat.reduceEqDiff, ↓reduceIte, Option.getD_some, Option.getD_none, List.cons_append, List.nil_append, List.append_nil]
 rintro i ⟨h1, h2⟩
 by_cases hi : i < xs.length
 ·obtain ⟨x, hx, hxm, hxd⟩ := get_some hi
  have hget : (xs.map prD)[i]? = some (prD x) := by simp [hx]
  rw [hxd, idxG] at h2
  repeat' (first | ((first | refine AW.sreg rfl fun K hK => ?_ | refine AW.sregD hmix rfl fun K hK => ?_ | refine AW.reg rfl ?_); simp only [go_sem, ↓reduceIte, List.length_map, hget]) | (refine AW.seq_k fun K hK => ?_) | (refine AW.block ?_) | (refine AW.skip ?_; simp only [Then, InBlock]) | (refine AW.cT ?_) | (refine AW.cond rfl (fun h => ?_) (fun h => ?_) <;> (try simp only [decide_eq_true_eq, decide_eq_false_iff_not, Bool.not_eq_true', Bool.not_eq_false', Bool.not_eq_eq_eq_not, Bool.not_true, Bool.not_false, beq_iff_eq, bne_iff_ne, beq_eq_false_iff_ne, ne_eq, Bool.and_eq_true, Bool.or_eq_true, Bool.or_eq_false_iff] at h)) | (refine hK _ ?_; clear hK K) | (with_reducible refine And.intro (?_ : regOk _ _ = true) ?_; kernel_rfl) | (with_reducible refine andI ?_))
  ·rw [if_pos (by simp [h])] at h2
   subst h2
   exact AW.ret (Fin.data rfl (by simp [go_sem]) rfl)
  ·rw [if_neg (by rw [h]; simp)] at h2
   exact ⟨i + 1, ⟨hi, h2⟩, by omega, (Weak.aC hcx (by refine ⟨?_, ?_, ?_⟩ <;> simp [go_sem, gL, kL, renOf, V.obj, Nat.blt, Nat.ble, List.map_append, dv_push]))⟩
 ·obtain rfl : i = xs.length := by omega
  simp only [List.drop_length, idxG] at h2
  subst h2
  repeat' (first | (refine AW.sreg rfl fun K hK => ?_; simp only [go_sem, ↓reduceIte, List.length_map]) | (refine AW.seq_k fun K hK => ?_) | (refine AW.exit ?_; simp only [go_sem, ↓reduceIte]) | (refine AW.cF ?_) | (refine hK _ ?_; clear hK K) | (clear hK K; refine hK _ ?_; clear hK K) | (refine AW.ret (Fin.data rfl (by first | (simp only [go_sem]; done) | (simp [go_sem, *]; done) | (simp [go_sem]; omega) | rfl) rfl)))
theorem contains_Pr (xs : List Pr) (hl : xs.length ≤ 1000) (v : Pr) :
  Does Tryz.prog 21 [.d (.sl (xs.map prD)), .d (prD v)] [] (B (decide (v ∈ xs))) [] := by
 have e : decide (v ∈ xs) = xs.any (fun x => v.1 == x.1 && v.2 == x.2) := by
  rw [Bool.eq_iff_iff]
  simp only [decide_eq_true_eq, List.any_eq_true, pr_beq]
  exact ⟨fun h => ⟨v, h, rfl⟩, fun ⟨x, h, e⟩ => e ▸ h⟩
 rw [e, ← idxG_any (fun x => v.1 == x.1 && v.2 == x.2) xs 0]
 refine Does.of_AW (n := 9) Tryz.func21 rfl rfl rfl fun cx hcx => ?_
 repeat' (first | ((first | refine AW.sreg rfl fun K hK => ?_ | refine run_call _ _ _ ((index_Pr xs hl v).pure rfl rfl _ _) rfl rfl (dstOk_of rfl) rfl rfl rfl ?_); simp only [go_sem, ↓reduceIte]) | (refine hK _ ?_; clear hK K) | (refine AW.ret (Fin.data rfl (by first | (simp only [go_sem]; done) | (simp [go_sem, *]; done) | (simp [go_sem]; omega) | rfl) rfl)))
theorem isMoment_any (n : Int) : Does Tryz.prog 63 [I n] [] (B (decide (0 ≤ n) && decide (n < 5761440))) [] := by
 refine Does.of_AW (n := 9) Tryz.func63 rfl rfl rfl fun cx hcx => ?_
 repeat' (first | (refine AW.sreg rfl fun K hK => ?_; simp only [go_sem, ↓reduceIte]) | (refine hK _ ?_; clear hK K) | (refine stepB_split (fun h => ?_) (fun h => ?_) <;> (have hb0 := h) <;> (try simp only [Bool.not_eq_true', Bool.not_eq_false'] at hb0) <;> (try simp only [decide_eq_true_eq, decide_eq_false_iff_not, Bool.not_eq_true', Bool.not_eq_false', Bool.not_eq_eq_eq_not, Bool.not_true, Bool.not_false, beq_iff_eq, bne_iff_ne, beq_eq_false_iff_ne, ne_eq, Bool.and_eq_true, Bool.or_eq_true, Bool.or_eq_false_iff] at h) <;> simp only [go_sem, ↓reduceIte, hb0, h, decide_true, decide_false] <;> (try clear hb0)) | (refine AW.ret (Fin.data rfl (by first | (simp only [go_sem]; done) | (simp [go_sem, *]; done) | (simp [go_sem]; omega) | rfl) rfl)))
def sufN (s : Str) : Bool := decide (1 ≤ s.length) && s.drop (s.length - 1) == [10]
theorem hasSuffix_any (s : Str) (hl : s.length ≤ 1000000) : Does Tryz.prog 252 [S s, S [10]] [] (B (sufN s)) [] := by
 have h1 : Does Tryz.prog 274 [S s, S [10]] [] (B (sufN s)) [] := by
  refine Does.of_AW (n := 21) Tryz.func274 rfl rfl rfl fun cx hcx => ?_
  unfold sufN
  by_cases h0 : 1 ≤ s.length
  ·have e1 : ((s.length : Int) - ((1 : Nat) : Int)).toNat = s.length - 1 := by omega
   have e2 : (s.drop (s.length - 1)).take (s.length - (s.length - 1)) = s.drop (s.length - 1) := List.take_of_length_le (by simp)
   repeat' (first | (refine AW.sreg rfl fun K hK => ?_; simp only [go_sem, ↓reduceIte, List.length_cons, List.length_nil, e1, e2]) | (refine hK _ ?_; clear hK K) | (refine stepB_split (fun h => ?_) (fun h => ?_) <;> (have hb0 := h) <;> (try simp only [Bool.not_eq_true', Bool.not_eq_false'] at hb0) <;> (try simp only [decide_eq_true_eq, decide_eq_false_iff_not, Bool.not_eq_true', Bool.not_eq_false', Bool.not_eq_eq_eq_not, Bool.not_true, Bool.not_false, beq_iff_eq, bne_iff_ne, beq_eq_false_iff_ne, ne_eq, Bool.and_eq_true, Bool.or_eq_true, Bool.or_eq_false_iff] at h) <;> simp only [go_sem, ↓reduceIte, hb0, h, decide_true, decide_false, List.length_cons, List.length_nil, e1, e2] <;> (try clear hb0)) | (with_reducible refine andI ?_) | (exfalso; omega))
   exact AW.ret (Fin.data rfl (by simp [go_sem, h0]) rfl)
  ·have e0 : s = [] := List.eq_nil_of_length_eq_zero (by omega)
   subst e0
   repeat' (first | (refine AW.sreg rfl fun K hK => ?_; simp only [go_sem, ↓reduceIte]) | (refine hK _ ?_; clear hK K) | (refine stepB_split (fun h => ?_) (fun h => ?_) <;> (have hb0 := h) <;> (try simp only [Bool.not_eq_true', Bool.not_eq_false'] at hb0) <;> (try simp only [decide_eq_true_eq, decide_eq_false_iff_not, Bool.not_eq_true', Bool.not_eq_false', Bool.not_eq_eq_eq_not, Bool.not_true, Bool.not_false, beq_iff_eq, bne_iff_ne, beq_eq_false_iff_ne, ne_eq, Bool.and_eq_true, Bool.or_eq_true, Bool.or_eq_false_iff] at h) <;> simp only [go_sem, ↓reduceIte, hb0, h, decide_true, decide_false] <;> (try clear hb0)) | (with_reducible refine andI ?_) | (refine AW.ret (Fin.data rfl (by first | (simp only [go_sem]; done) | (simp [go_sem, *]; done) | (simp [go_sem]; omega) | rfl) rfl)))
 refine Does.of_AW (n := 8) Tryz.func252 rfl rfl rfl fun cx hcx => ?_
 repeat' (first | ((first | refine AW.sreg rfl fun K hK => ?_ | refine run_call _ _ _ ((h1).pure rfl rfl _ _) rfl rfl (dstOk_of rfl) rfl rfl rfl ?_); simp only [go_sem, ↓reduceIte]) | (refine hK _ ?_; clear hK K) | (refine AW.ret (Fin.data rfl (by first | (simp only [go_sem]; done) | (simp [go_sem, *]; done) | (simp [go_sem]; omega) | rfl) rfl)))
def okT (c : UInt8) : Bool := !((decide ((c.toNat : Int) < 32) && !((c.toNat : Int) == 10)) || (c.toNat : Int) == 127)
def textB (s : Str) : Bool := s.all okT && (Lib.validD s && (s == [] || sufN s))
theorem isText_any (s : Str) (hl : s.length ≤ 1000000) : Does Tryz.prog 209 [S s] [] (B (textB s)) [] := by
  have hv := valid_any s hl
  have hs := hasSuffix_any s hl
  refine Does.of_AW (n := 36) Tryz.func209 rfl rfl rfl fun cx hcx => ?_
  unfold textB
  generalize hR : (s.all okT && (Lib.validD s && (s == [] || sufN s))) = R
  generalize hU : (Lib.validD s && (s == [] || sufN s)) = U at hR
  repeat' (first | (refine AW.sreg rfl fun K hK => ?_; simp only [go_sem, ↓reduceIte]) | (refine AW.seq_k fun K hK => ?_) | (refine AW.block ?_) | (refine hK _ ?_; clear hK K))
  refine AW.loopF (ι := Nat) [0] (fun p => [(3, I p)]) (fun p => []) 1 (fun p => p ≤ s.length ∧ ((s.drop p).all okT && U) = R) (fun p => s.length - p) 0 ⟨by simp, by simpa using hR⟩ (Weak.aC hcx (by refine ⟨?_, ?_, ?_⟩ <;> simp [go_sem, gL, kL, renOf, V.obj, Nat.blt, Nat.ble, List.map_append, dv_push])) ?_; simp only [St.at_nil, St.at_cons, lk, Nat.reduceEqDiff, ↓reduceIte, Option.getD_some, Option.getD_none, List.cons_append, List.nil_append, List.append_nil]
  rintro i ⟨h1, h2⟩
  by_cases hi : i < s.length
  · obtain ⟨c, hc, hcm, hcd⟩ := get_some hi
    rw [hcd, List.all_cons] at h2
    repeat' (first | ((first | refine AW.sreg rfl fun K hK => ?_ | refine AW.reg rfl ?_); simp only [go_sem, ↓reduceIte, hc]) | (refine AW.seq_k fun K hK => ?_) | (refine AW.block ?_) | (refine AW.skip ?_; simp only [Then, InBlock]) | (refine AW.cT ?_) | (refine AW.cF ?_) | (refine AW.cond rfl (fun h => ?_) (fun h => ?_) <;> (try simp only [decide_eq_true_eq, decide_eq_false_iff_not, Bool.not_eq_true', Bool.not_eq_false', Bool.not_eq_eq_eq_not, Bool.not_true, Bool.not_false, beq_iff_eq, bne_iff_ne, beq_eq_false_iff_ne, ne_eq, Bool.and_eq_true, Bool.or_eq_true, Bool.or_eq_false_iff] at h)) | (refine hK _ ?_; clear hK K) | (refine stepB_split (fun h => ?_) (fun h => ?_) <;> (have hb0 := h) <;> (try simp only [Bool.not_eq_true', Bool.not_eq_false'] at hb0) <;> (try simp only [decide_eq_true_eq, decide_eq_false_iff_not, Bool.not_eq_true', Bool.not_eq_false', Bool.not_eq_eq_eq_not, Bool.not_true, Bool.not_false, beq_iff_eq, bne_iff_ne, beq_eq_false_iff_ne, ne_eq, Bool.and_eq_true, Bool.or_eq_true, Bool.or_eq_false_iff] at h) <;> simp only [go_sem, ↓reduceIte, hb0, h, decide_true, decide_false, hc] <;> (try clear hb0)) | (with_reducible refine andI ?_))
    all_goals first
      | (have hok : okT c = true := by (try simp only [bne_eq_false_iff_eq] at *); simp [okT]; omega
         rw [hok, Bool.true_and] at h2
         exact ⟨i + 1, ⟨hi, h2⟩, by omega, (Weak.aC hcx (by refine ⟨?_, ?_, ?_⟩ <;> simp [go_sem, gL, kL, renOf, V.obj, Nat.blt, Nat.ble, List.map_append, dv_push]))⟩)
      | (have hok : okT c = false := by (try simp only [bne_eq_false_iff_eq] at *); simp [okT]; omega
         rw [hok, Bool.false_and, Bool.false_and] at h2
         subst h2
         exact AW.ret (Fin.data rfl (by simp [go_sem]; done) rfl))
      | (have hok : okT c = false := by (try simp only [bne_eq_false_iff_eq] at *); simp [okT]; omega
         rw [hok, Bool.false_and, Bool.false_and] at h2
         subst h2
         exact AW.ret (Fin.data rfl (by simp [go_sem]; omega) rfl))
      | trace_state
  · obtain rfl : i = s.length := by omega
    simp only [List.drop_length, List.all_nil, Bool.true_and] at h2
    subst h2
    subst hU
    repeat' (first | ((first | refine AW.sreg rfl fun K hK => ?_ | refine AW.exit ?_ | refine run_call _ _ _ ((hv).pure rfl rfl _ _) rfl rfl (dstOk_of rfl) rfl rfl rfl ?_ | refine run_call _ _ _ ((hs).pure rfl rfl _ _) rfl rfl (dstOk_of rfl) rfl rfl rfl ?_); simp only [go_sem, ↓reduceIte]) | (refine AW.seq_k fun K hK => ?_) | (refine AW.cF ?_) | (refine hK _ ?_; clear hK K) | (clear hK K; refine hK _ ?_; clear hK K) | (refine stepB_split (fun h => ?_) (fun h => ?_) <;> (have hb0 := h) <;> (try simp only [Bool.not_eq_true', Bool.not_eq_false'] at hb0) <;> (try simp only [decide_eq_true_eq, decide_eq_false_iff_not, Bool.not_eq_true', Bool.not_eq_false', Bool.not_eq_eq_eq_not, Bool.not_true, Bool.not_false, beq_iff_eq, bne_iff_ne, beq_eq_false_iff_ne, ne_eq, Bool.and_eq_true, Bool.or_eq_true, Bool.or_eq_false_iff] at h) <;> simp only [go_sem, ↓reduceIte, hb0, h, decide_true, decide_false] <;> (try clear hb0)))
    all_goals first | exact AW.ret (Fin.data rfl (by simp_all [go_sem]; done) rfl) | trace_state
theorem inR_any (n lo hi : Int) : Does Tryz.prog 135 [I n, I lo, I hi] [] (B (decide (lo ≤ n) && decide (n ≤ hi))) [] := by
 refine Does.of_AW (n := 15) Tryz.func135 rfl rfl rfl fun cx hcx => ?_
 by_cases h : lo ≤ n
 ·repeat' (first | (refine AW.sreg rfl fun K hK => ?_; simp only [go_sem, ↓reduceIte, h]) | (refine hK _ ?_; clear hK K) | (refine AW.ret (Fin.data rfl (by first | (simp only [go_sem]; done) | (simp [go_sem, *]; done) | (simp [go_sem]; omega) | rfl) rfl)))
 ·repeat' (first | (refine AW.sreg rfl fun K hK => ?_; simp only [go_sem, ↓reduceIte, h]) | (refine hK _ ?_; clear hK K) | (refine stepB_split (fun h => ?_) (fun h => ?_) <;> (have hb0 := h) <;> (try simp only [Bool.not_eq_true', Bool.not_eq_false'] at hb0) <;> (try simp only [decide_eq_true_eq, decide_eq_false_iff_not, Bool.not_eq_true', Bool.not_eq_false', Bool.not_eq_eq_eq_not, Bool.not_true, Bool.not_false, beq_iff_eq, bne_iff_ne, beq_eq_false_iff_ne, ne_eq, Bool.and_eq_true, Bool.or_eq_true, Bool.or_eq_false_iff] at h) <;> simp only [go_sem, ↓reduceIte, hb0, h, decide_true, decide_false, h] <;> (try clear hb0)) | (refine AW.ret (Fin.data rfl (by first | (simp only [go_sem]; done) | (simp [go_sem, *]; done) | (simp [go_sem]; omega) | rfl) rfl)))
def momB (n : Int) : Bool := decide (0 ≤ n) && decide (n < 5761440)
theorem momR_any (n : Int) : Does Tryz.prog 150 [I n] [] (B (momB n)) [] := by
 have h := inR_any n 0 5761439
 have e : momB n = (decide (0 ≤ n) && decide (n ≤ 5761439)) := by
  unfold momB
  congr 1
  exact decide_eq_decide.2 (by omega)
 rw [e]
 refine Does.of_AW (n := 5) Tryz.func150 rfl rfl rfl fun cx hcx => ?_
 repeat' (first | ((first | refine AW.sreg rfl fun K hK => ?_ | refine run_call _ _ _ ((h).pure rfl rfl _ _) rfl rfl (dstOk_of rfl) rfl rfl rfl ?_); simp only [go_sem, ↓reduceIte]) | (refine hK _ ?_; clear hK K) | (refine AW.ret (Fin.data rfl (by first | (simp only [go_sem]; done) | (simp [go_sem, *]; done) | (simp [go_sem]; omega) | rfl) rfl)))
/-- The last byte is a newline. -/
def endN (s : Str) : Bool := (s[s.length - 1]?.getD 0).toNat == 10
def textR (s : Str) : Bool := s.all okT && (Lib.validD s && (s == [] || endN s))
theorem isTextR_any (s : Str) (hl : s.length ≤ 1000000) : Does Tryz.prog 249 [S s] [] (B (textR s)) [] := by
  have hv := valid_any s hl
  refine Does.of_AW (n := 40) Tryz.func249 rfl rfl rfl fun cx hcx => ?_
  unfold textR
  generalize hR : (s.all okT && (Lib.validD s && (s == [] || endN s))) = R
  generalize hU : (Lib.validD s && (s == [] || endN s)) = U at hR
  repeat' (first | (refine AW.sreg rfl fun K hK => ?_; simp only [go_sem, ↓reduceIte]) | (refine AW.seq_k fun K hK => ?_) | (refine AW.block ?_) | (refine hK _ ?_; clear hK K))
  refine AW.loopF (ι := Nat) [0, 5] (fun p => [(6, I p)]) (fun p => []) 1 (fun p => p ≤ s.length ∧ ((s.drop p).all okT && U) = R) (fun p => s.length - p) 0 ⟨by simp, by simpa using hR⟩ (Weak.aC hcx (by refine ⟨?_, ?_, ?_⟩ <;> simp [go_sem, gL, kL, renOf, V.obj, Nat.blt, Nat.ble, List.map_append, dv_push])) ?_; simp only [St.at_nil, St.at_cons, lk, Nat.reduceEqDiff, ↓reduceIte, Option.getD_some, Option.getD_none, List.cons_append, List.nil_append, List.append_nil]
  rintro i ⟨h1, h2⟩
  by_cases hi : i < s.length
  · obtain ⟨c, hc, hcm, hcd⟩ := get_some hi
    rw [hcd, List.all_cons] at h2
    repeat' (first | ((first | refine AW.sreg rfl fun K hK => ?_ | refine AW.reg rfl ?_); simp only [go_sem, ↓reduceIte, hc]) | (refine AW.seq_k fun K hK => ?_) | (refine AW.block ?_) | (refine AW.skip ?_; simp only [Then, InBlock]) | (refine AW.cT ?_) | (refine AW.cF ?_) | (refine AW.cond rfl (fun h => ?_) (fun h => ?_) <;> (try simp only [decide_eq_true_eq, decide_eq_false_iff_not, Bool.not_eq_true', Bool.not_eq_false', Bool.not_eq_eq_eq_not, Bool.not_true, Bool.not_false, beq_iff_eq, bne_iff_ne, beq_eq_false_iff_ne, ne_eq, Bool.and_eq_true, Bool.or_eq_true, Bool.or_eq_false_iff] at h)) | (refine hK _ ?_; clear hK K) | (refine stepB_split (fun h => ?_) (fun h => ?_) <;> (have hb0 := h) <;> (try simp only [Bool.not_eq_true', Bool.not_eq_false'] at hb0) <;> (try simp only [decide_eq_true_eq, decide_eq_false_iff_not, Bool.not_eq_true', Bool.not_eq_false', Bool.not_eq_eq_eq_not, Bool.not_true, Bool.not_false, beq_iff_eq, bne_iff_ne, beq_eq_false_iff_ne, ne_eq, Bool.and_eq_true, Bool.or_eq_true, Bool.or_eq_false_iff] at h) <;> simp only [go_sem, ↓reduceIte, hb0, h, decide_true, decide_false, hc] <;> (try clear hb0)) | (with_reducible refine andI ?_))
    all_goals first
      | (have hok : okT c = true := by (try simp only [bne_eq_false_iff_eq] at *); simp [okT]; omega
         rw [hok, Bool.true_and] at h2
         exact ⟨i + 1, ⟨hi, h2⟩, by omega, (Weak.aC hcx (by refine ⟨?_, ?_, ?_⟩ <;> simp [go_sem, gL, kL, renOf, V.obj, Nat.blt, Nat.ble, List.map_append, dv_push]))⟩)
      | (have hok : okT c = false := by (try simp only [bne_eq_false_iff_eq] at *); simp [okT]; omega
         rw [hok, Bool.false_and, Bool.false_and] at h2
         subst h2
         exact AW.ret (Fin.data rfl (by simp [go_sem]; done) rfl))
      | (have hok : okT c = false := by (try simp only [bne_eq_false_iff_eq] at *); simp [okT]; omega
         rw [hok, Bool.false_and, Bool.false_and] at h2
         subst h2
         exact AW.ret (Fin.data rfl (by simp [go_sem]; omega) rfl))
      | trace_state
  · obtain rfl : i = s.length := by omega
    simp only [List.drop_length, List.all_nil, Bool.true_and] at h2
    subst h2
    subst hU
    by_cases h0 : s = []
    · subst h0
      repeat' (first | ((first | refine AW.sreg rfl fun K hK => ?_ | refine AW.exit ?_ | refine run_call _ _ _ ((hv).pure rfl rfl _ _) rfl rfl (dstOk_of rfl) rfl rfl rfl ?_); simp only [go_sem, ↓reduceIte]) | (refine AW.seq_k fun K hK => ?_) | (refine AW.cF ?_) | (refine hK _ ?_; clear hK K) | (clear hK K; refine hK _ ?_; clear hK K) | (refine stepB_split (fun h => ?_) (fun h => ?_) <;> (have hb0 := h) <;> (try simp only [Bool.not_eq_true', Bool.not_eq_false'] at hb0) <;> (try simp only [decide_eq_true_eq, decide_eq_false_iff_not, Bool.not_eq_true', Bool.not_eq_false', Bool.not_eq_eq_eq_not, Bool.not_true, Bool.not_false, beq_iff_eq, bne_iff_ne, beq_eq_false_iff_ne, ne_eq, Bool.and_eq_true, Bool.or_eq_true, Bool.or_eq_false_iff] at h) <;> simp only [go_sem, ↓reduceIte, hb0, h, decide_true, decide_false] <;> (try clear hb0)))
      all_goals first | exact AW.ret (Fin.data rfl (by simp_all [go_sem]; done) rfl) | trace_state
    · have hpos : 0 < s.length := List.length_pos_iff.2 h0
      obtain ⟨c, hc, -, -⟩ := get_some (l := s) (i := s.length - 1) (by omega)
      have e1 : ((s.length : Int) - 1).toNat = s.length - 1 := by omega
      have he : endN s = ((c.toNat : Int) == 10) := by
        unfold endN
        rw [hc]
        by_cases h : c.toNat = 10
        · simp [h]
        · have h2 : ¬ (c.toNat : Int) = 10 := by omega
          rw [Option.getD_some, beq_eq_false_iff_ne.2 h, beq_eq_false_iff_ne.2 h2]
      have hb : (s == []) = false := by simpa using h0
      repeat' (first | ((first | refine AW.sreg rfl fun K hK => ?_ | refine run_call _ _ _ ((hv).pure rfl rfl _ _) rfl rfl (dstOk_of rfl) rfl rfl rfl ?_); simp only [go_sem, ↓reduceIte, e1, hc, hb]) | (refine AW.seq_k fun K hK => ?_) | (refine AW.exit ?_; simp only [go_sem, ↓reduceIte]) | (refine AW.cF ?_) | (refine hK _ ?_; clear hK K) | (clear hK K; refine hK _ ?_; clear hK K) | (refine stepB_split (fun h => ?_) (fun h => ?_) <;> (have hb0 := h) <;> (try simp only [Bool.not_eq_true', Bool.not_eq_false'] at hb0) <;> (try simp only [decide_eq_true_eq, decide_eq_false_iff_not, Bool.not_eq_true', Bool.not_eq_false', Bool.not_eq_eq_eq_not, Bool.not_true, Bool.not_false, beq_iff_eq, bne_iff_ne, beq_eq_false_iff_ne, ne_eq, Bool.and_eq_true, Bool.or_eq_true, Bool.or_eq_false_iff] at h) <;> simp only [go_sem, ↓reduceIte, hb0, h, decide_true, decide_false, e1, hc, hb] <;> (try clear hb0)) | (with_reducible refine andI ?_))
      all_goals first | exact AW.ret (Fin.data rfl (by simp_all [go_sem]; done) rfl) | trace_state
/-! posts -/
theorem isIn_any (xs : List Pr) (hl : xs.length ≤ 1000) (hr : RiseP xs) (tg : Pr) : Does Tryz.prog 75 [.d (.sl (xs.map prD)), .d (prD tg)] [] (B (decide (tg ∈ xs))) [] := by
 obtain ⟨i, hb⟩ := bsearch_any xs hl hr tg
 refine Does.of_AW (n := 14) Tryz.func75 rfl rfl rfl fun cx hcx => ?_
 repeat' (first | ((first | refine AW.sreg rfl fun K hK => ?_ | refine run_call _ _ _ ((hb).pure rfl rfl _ _) rfl rfl (dstOk_of rfl) rfl rfl rfl ?_); simp only [go_sem, ↓reduceIte]) | (refine hK _ ?_; clear hK K) | (refine AW.ret (Fin.data rfl (by first | (simp only [go_sem]; done) | (simp [go_sem, *]; done) | (simp [go_sem]; omega) | rfl) rfl)))
end Go.AX

namespace Go.AX
open Go Go.Proofs Go.RowKit
/-- A question: key, kind, most, options, needed, secret. -/
abbrev Qu := Str × Int × Int × List Str × Bool × Bool
abbrev quD (q : Qu) : D := .agg [.str q.1, .int .i64 q.2.1, .int .i64 q.2.2.1, .sl (q.2.2.2.1.map D.str), .bool q.2.2.2.2.1, .bool q.2.2.2.2.2]
def O3 : List Str := [[121, 101, 115], [110, 111], [109, 97, 121, 98, 101]]
def KQ : List Str := [[115, 99, 111, 114, 101], [110, 111, 116, 101], [114, 97, 110, 107], [100, 101, 112, 116, 104]]
/-- What a question's kind has. -/
def QuOk (q : Qu) : Prop := (q.2.1 = 1 ∧ (1 ≤ q.2.2.1 ∧ q.2.2.1 ≤ 100) ∧ q.2.2.2.1 = []) ∨ (q.2.1 = 3 ∧ (1 ≤ q.2.2.1 ∧ q.2.2.1 ≤ 5000) ∧ q.2.2.2.1 = []) ∨ (q.2.1 = 2 ∧ q.2.2.1 = 0 ∧ q.2.2.2.1 = O3)
/-- A sheet that is drawn. -/
structure ShR (sh : List Qu) : Prop where
 pos : 1 ≤ sh.length
 len : sh.length ≤ 4
 keys : sh.map (·.1) = KQ.take sh.length
 ok : ∀ q ∈ sh, QuOk q
theorem keyR_KQ : ∀ s ∈ KQ ++ O3, KeyR s := by
 have h : (KQ ++ O3).all (fun s => evalsTo Tryz.prog (CS Tryz.prog) 81 [S s] (B (keyB s))) = true := by kernel_rfl
 exact fun s hs => evalsTo_ok CS_ok hmix (List.all_eq_true.1 h s hs)
theorem key_KQ : ∀ s ∈ KQ, keyB s = true ∧ s.length ≤ 40 := by decide
theorem ShR.mem {sh : List Qu} (h : ShR sh) {q : Qu} (hq : q ∈ sh) : q.1 ∈ KQ := by
 have : q.1 ∈ sh.map (·.1) := List.mem_map_of_mem hq
 rw [h.keys] at this
 exact List.mem_of_mem_take this
theorem ShR.nd {sh : List Qu} (h : ShR sh) : (sh.map (·.1)).Nodup := by
 rw [h.keys]
 exact List.Nodup.sublist (List.take_sublist _ _) (by decide)
theorem indexFunc_Qu (xs : List Qu) (hl : xs.length ≤ 1000) (c : Nat) (cap : D) (q : Qu → Bool) (hc : ∀ x ∈ xs, Does Tryz.prog c [.d (quD x), .d cap] [] (B (q x)) []) :
  Does Tryz.prog 74 [.d (.sl (xs.map quD)), .fn c [.d cap]] [] (I (idxG q xs 0)) [] := by
 refine Does.of_AW (n := 19) Tryz.func74 rfl rfl rfl fun cx hcx => ?_
 generalize hR : idxG q xs 0 = R
 repeat' (first | (refine AW.sreg rfl fun K hK => ?_; simp only [go_sem, ↓reduceIte, List.length_map]) | (refine AW.seq_k fun K hK => ?_) | (refine AW.block ?_) | (refine hK _ ?_; clear hK K))
 refine AW.loopF (ι := Nat) [0, 1, 7] (fun p => [(8, I p)]) (fun p => []) 1 (fun p => p ≤ xs.length ∧ idxG q (xs.drop p) p = R) (fun p => xs.length - p) 0 ⟨by simp, hR⟩ (Weak.aC hcx (by refine ⟨?_, ?_, ?_⟩ <;> simp [go_sem, gL, kL, renOf, V.obj, Nat.blt, Nat.ble, List.map_append, dv_push])) ?_; simp only [St.at_nil, St.at_cons, lk, Nat.reduceEqDiff, ↓reduceIte, Option.getD_some, Option.getD_none, List.cons_append, List.nil_append, List.append_nil]
 rintro i ⟨h1, h2⟩
 by_cases hi : i < xs.length
 ·obtain ⟨x, hx, hxm, hxd⟩ := get_some hi
  have hget : (xs.map quD)[i]? = some (quD x) := by simp [hx]
  rw [hxd, idxG] at h2
  repeat' (first | ((first | refine AW.sreg rfl fun K hK => ?_ | refine AW.reg rfl ?_ | refine run_call _ _ _ ((hc x hxm).pure rfl rfl _ _) rfl rfl (dstOk_of rfl) rfl rfl rfl ?_); simp only [go_sem, ↓reduceIte, List.length_map, hget]) | (refine AW.seq_k fun K hK => ?_) | (refine AW.block ?_) | (refine AW.skip ?_; simp only [Then, InBlock]) | (refine AW.cT ?_) | (refine AW.cond rfl (fun h => ?_) (fun h => ?_) <;> (try simp only [decide_eq_true_eq, decide_eq_false_iff_not, Bool.not_eq_true', Bool.not_eq_false', Bool.not_eq_eq_eq_not, Bool.not_true, Bool.not_false, beq_iff_eq, bne_iff_ne, beq_eq_false_iff_ne, ne_eq, Bool.and_eq_true, Bool.or_eq_true, Bool.or_eq_false_iff] at h)) | (refine hK _ ?_; clear hK K) | (with_reducible refine andI ?_) | (refine AW.ret (Fin.data rfl (by first | (simp only [go_sem]; done) | ((rw [if_pos h] at h2; subst h2; simp [go_sem]); done) | (simp [go_sem]; omega) | rfl) rfl)))
  rw [if_neg (by simp [h])] at h2
  exact ⟨i + 1, ⟨hi, h2⟩, by omega, (Weak.aC hcx (by refine ⟨?_, ?_, ?_⟩ <;> simp [go_sem, gL, kL, renOf, V.obj, Nat.blt, Nat.ble, List.map_append, dv_push]))⟩
 ·obtain rfl : i = xs.length := by omega
  simp only [List.drop_length, idxG] at h2
  subst h2
  repeat' (first | (refine AW.sreg rfl fun K hK => ?_; simp only [go_sem, ↓reduceIte, List.length_map]) | (refine AW.seq_k fun K hK => ?_) | (refine AW.exit ?_; simp only [go_sem, ↓reduceIte]) | (refine AW.cF ?_) | (refine hK _ ?_; clear hK K) | (clear hK K; refine hK _ ?_; clear hK K) | (refine AW.ret (Fin.data rfl (by first | (simp only [go_sem]; done) | (simp [go_sem, *]; done) | (simp [go_sem]; omega) | rfl) rfl)))
theorem containsFunc_Qu (xs : List Qu) (hl : xs.length ≤ 1000) (c : Nat) (cap : D) (q : Qu → Bool) (hc : ∀ x ∈ xs, Does Tryz.prog c [.d (quD x), .d cap] [] (B (q x)) []) :
  Does Tryz.prog 22 [.d (.sl (xs.map quD)), .fn c [.d cap]] [] (B (xs.any q)) [] := by
 rw [← idxG_any q xs 0]
 refine Does.of_AW (n := 9) Tryz.func22 rfl rfl rfl fun cx hcx => ?_
 repeat' (first | ((first | refine AW.sreg rfl fun K hK => ?_ | refine run_call _ _ _ ((indexFunc_Qu xs hl c cap q hc).pure rfl rfl _ _) rfl rfl (dstOk_of rfl) rfl rfl rfl ?_); simp only [go_sem, ↓reduceIte]) | (refine hK _ ?_; clear hK K) | (refine AW.ret (Fin.data rfl (by first | (simp only [go_sem]; done) | (simp [go_sem, *]; done) | (simp [go_sem]; omega) | rfl) rfl)))

theorem place1_any (x : Qu) (k : Str) : Does Tryz.prog 137 [.d (quD x), .d (.ptr [.str k] 0)] [] (B (x.1 == k)) [] := by
 refine Does.of_AW (n := 8) Tryz.func137 rfl rfl rfl fun cx hcx => ?_
 repeat' (first | (refine AW.sreg rfl fun K hK => ?_; simp only [go_sem, ↓reduceIte]) | (refine hK _ ?_; clear hK K) | (refine AW.ret (Fin.data rfl (by first | (simp only [go_sem]; done) | (simp [go_sem, *]; done) | (simp [go_sem]; omega) | rfl) rfl)))
/-- Where a question is. -/
def plF (sh : List Qu) (k : Str) : Int := idxG (fun x => x.1 == k) sh 0
theorem place_any (sh : List Qu) (hl : sh.length ≤ 1000) (k : Str) : Does Tryz.prog 83 [.d (.sl (sh.map quD)), S k] [] (I (plF sh k)) [] := by
 have hx := indexFunc_Qu sh hl 137 (.ptr [.str k] 0) (fun x => x.1 == k) (fun x _ => place1_any x k)
 refine Does.of_AW (n := 8) Tryz.func83 rfl rfl rfl fun cx hcx => ?_
 repeat' (first | ((first | refine AW.sreg rfl fun K hK => ?_ | refine run_call _ _ _ ((hx).lend (by repeat' (first | exact frzL_nil | refine frzL_cons (by first | exact frz_d | exact frz_slr rfl rfl (by first | (simp; done) | (simp; omega) | (simp [*]; done) | fail) | rfl) ?_)) rfl rfl rfl) rfl rfl (dstOk_of rfl) rfl rfl rfl ?_); simp only [go_sem, ↓reduceIte]) | (refine hK _ ?_; clear hK K) | (refine AW.ret (Fin.data rfl (by first | (simp only [go_sem]; done) | (simp [go_sem, *]; done) | (simp [go_sem]; omega) | rfl) rfl)))
theorem qAt1_any (x : Qu) (k : Str) : Does Tryz.prog 248 [.d (quD x), .d (.ptr [.str k] 0)] [] (B (x.1 == k)) [] := by
 refine Does.of_AW (n := 8) Tryz.func248 rfl rfl rfl fun cx hcx => ?_
 repeat' (first | (refine AW.sreg rfl fun K hK => ?_; simp only [go_sem, ↓reduceIte]) | (refine hK _ ?_; clear hK K) | (refine AW.ret (Fin.data rfl (by first | (simp only [go_sem]; done) | (simp [go_sem, *]; done) | (simp [go_sem]; omega) | rfl) rfl)))
theorem qAt_any (sh : List Qu) (hl : sh.length ≤ 1000) (k : Str) : Does Tryz.prog 200 [.d (.sl (sh.map quD)), S k] [] (I (plF sh k)) [] := by
 have hx := indexFunc_Qu sh hl 248 (.ptr [.str k] 0) (fun x => x.1 == k) (fun x _ => qAt1_any x k)
 refine Does.of_AW (n := 8) Tryz.func200 rfl rfl rfl fun cx hcx => ?_
 repeat' (first | ((first | refine AW.sreg rfl fun K hK => ?_ | refine run_call _ _ _ ((hx).lend (by repeat' (first | exact frzL_nil | refine frzL_cons (by first | exact frz_d | exact frz_slr rfl rfl (by first | (simp; done) | (simp; omega) | (simp [*]; done) | fail) | rfl) ?_)) rfl rfl rfl) rfl rfl (dstOk_of rfl) rfl rfl rfl ?_); simp only [go_sem, ↓reduceIte]) | (refine hK _ ?_; clear hK K) | (refine AW.ret (Fin.data rfl (by first | (simp only [go_sem]; done) | (simp [go_sem, *]; done) | (simp [go_sem]; omega) | rfl) rfl)))
theorem idxG_nd : ∀ {sh : List Qu} {i : Nat} {q : Qu} (n : Nat), (sh.map (·.1)).Nodup → sh[i]? = some q → idxG (fun x : Qu => x.1 == q.1) sh n = ((n + i : Nat) : Int)
 | [], i, q, n, _, h => by simp at h
 | x :: r, 0, q, n, hn, h => by
  simp only [List.getElem?_cons_zero, Option.some.injEq] at h
  subst h
  simp [idxG]
 | x :: r, i + 1, q, n, hn, h => by
  simp only [List.getElem?_cons_succ] at h
  rw [List.map_cons, List.nodup_cons] at hn
  have hne : ¬ x.1 = q.1 := fun e => hn.1 (by rw [e]; exact List.mem_map_of_mem (List.mem_of_getElem? h))
  rw [idxG, if_neg (by simpa using hne), idxG_nd (n + 1) hn.2 h]
  congr 1
  omega
theorem ShR.at {sh : List Qu} (h : ShR sh) {i : Nat} {q : Qu} (hq : sh[i]? = some q) : plF sh q.1 = (i : Int) := by
 unfold plF
 rw [idxG_nd 0 h.nd hq, Nat.zero_add]
theorem questionFault_ok {q : Qu} (h : QuOk q) : Does Tryz.prog 84 [.d (quD q)] [] (I 0) [] := by
 obtain ⟨k, kd, mo, op, nd, sc⟩ := q
 unfold QuOk at h
 dsimp only at h
 have hd1 := diffKeys_any [] (by simp) (by simp)
 have hd2 := diffKeys_any O3 (by decide) (by decide)
 rw [show goF dfK [] ([] : List Str) = 0 from rfl] at hd1
 rw [show goF dfK [] O3 = 0 by decide] at hd2
 refine Does.of_AW (n := 53) Tryz.func84 rfl rfl rfl fun cx hcx => ?_
 rcases h with ⟨rfl, ⟨h1, h2⟩, rfl⟩ | ⟨rfl, ⟨h1, h2⟩, rfl⟩ | ⟨rfl, rfl, rfl⟩
 ·have o1 := outside_any 1 1 3
  have o2 := outside_any mo 1 100
  rw [show (decide (mo < 1) || decide (100 < mo)) = false by simp; omega] at o2
  repeat' (first | ((first | refine AW.sreg rfl fun K hK => ?_ | refine run_call _ _ _ ((o1).pure rfl rfl _ _) rfl rfl (dstOk_of rfl) rfl rfl rfl ?_ | refine run_call _ _ _ ((o2).pure rfl rfl _ _) rfl rfl (dstOk_of rfl) rfl rfl rfl ?_ | refine run_call _ _ _ ((hd1).pure rfl rfl _ _) rfl rfl (dstOk_of rfl) rfl rfl rfl ?_); simp only [go_sem, ↓reduceIte]) | (refine AW.seq_k fun K hK => ?_) | (refine AW.block ?_) | (refine AW.skip ?_; simp only [Then, InBlock]) | (refine AW.cF ?_) | (refine hK _ ?_; clear hK K) | (refine AW.ret (Fin.data rfl (by first | (simp only [go_sem]; done) | (simp [go_sem, *]; done) | (simp [go_sem]; omega) | rfl) rfl)))
 ·have o1 := outside_any 3 1 3
  have o2 := outside_any mo 1 5000
  rw [show (decide (mo < 1) || decide (5000 < mo)) = false by simp; omega] at o2
  repeat' (first | ((first | refine AW.sreg rfl fun K hK => ?_ | refine run_call _ _ _ ((o1).pure rfl rfl _ _) rfl rfl (dstOk_of rfl) rfl rfl rfl ?_ | refine run_call _ _ _ ((o2).pure rfl rfl _ _) rfl rfl (dstOk_of rfl) rfl rfl rfl ?_ | refine run_call _ _ _ ((hd1).pure rfl rfl _ _) rfl rfl (dstOk_of rfl) rfl rfl rfl ?_); simp only [go_sem, ↓reduceIte]) | (refine AW.seq_k fun K hK => ?_) | (refine AW.block ?_) | (refine AW.skip ?_; simp only [Then, InBlock]) | (refine AW.cF ?_) | (refine hK _ ?_; clear hK K) | (refine AW.ret (Fin.data rfl (by first | (simp only [go_sem]; done) | (simp [go_sem, *]; done) | (simp [go_sem]; omega) | rfl) rfl)))
 ·have o1 := outside_any 2 1 3
  repeat' (first | ((first | refine AW.sreg rfl fun K hK => ?_ | refine run_call _ _ _ ((o1).pure rfl rfl _ _) rfl rfl (dstOk_of rfl) rfl rfl rfl ?_ | refine run_call _ _ _ ((hd2).pure rfl rfl _ _) rfl rfl (dstOk_of rfl) rfl rfl rfl ?_); simp only [go_sem, ↓reduceIte, O3]) | (refine AW.seq_k fun K hK => ?_) | (refine AW.block ?_) | (refine AW.skip ?_; simp only [Then, InBlock]) | (refine AW.cF ?_) | (refine hK _ ?_; clear hK K) | (refine AW.ret (Fin.data rfl (by first | (simp only [go_sem]; done) | (simp [go_sem, *]; done) | (simp [go_sem]; omega) | rfl) rfl)))
theorem checkSheet_ok {sh : List Qu} (h : ShR sh) : Does Tryz.prog 32 [.d (.sl (sh.map quD))] [] (I 0) [] := by
 have hl := h.len
 have hp := h.pos
 have h0 : ((sh.length : Int) == 0) = false := beq_eq_false_iff_ne.2 (by omega)
 refine Does.of_AW (n := 35) Tryz.func32 rfl rfl rfl fun cx hcx => ?_
 repeat' (first | (refine AW.sreg rfl fun K hK => ?_; simp only [go_sem, ↓reduceIte, List.length_map, h0]) | (refine AW.seq_k fun K hK => ?_) | (refine AW.block ?_) | (refine AW.skip ?_; simp only [Then, InBlock]) | (refine AW.cF ?_) | (refine hK _ ?_; clear hK K))
 refine AW.loopF (ι := Nat) [0, 12, 13] (fun p => [(14, I p)]) (fun p => []) 20 (fun p => p ≤ sh.length) (fun p => sh.length - p) 0 (Nat.zero_le _) (Weak.aC hcx (by refine ⟨?_, ?_, ?_⟩ <;> simp [go_sem, gL, kL, renOf, V.obj, Nat.blt, Nat.ble, List.map_append, dv_push])) ?_; simp only [St.at_nil, St.at_cons, lk, Nat.reduceEqDiff, ↓reduceIte, Option.getD_some, Option.getD_none, List.cons_append, List.nil_append, List.append_nil]
 intro i h1
 by_cases hi : i < sh.length
 ·obtain ⟨x, hx, hxm, -⟩ := get_some hi
  have hget : (sh.map quD)[i]? = some (quD x) := by simp only [List.getElem?_map, hx, Option.map_some]
  have hk := isKey_any x.1 (by have := (key_KQ _ (h.mem hxm)).2; omega)
  rw [(key_KQ _ (h.mem hxm)).1] at hk
  have hpl := place_any sh (by omega) x.1
  rw [h.at hx] at hpl
  have hq := questionFault_ok (h.ok x hxm)
  repeat' (first | ((first | refine AW.sreg rfl fun K hK => ?_ | refine AW.reg rfl ?_ | refine run_call _ _ _ ((hk).pure rfl rfl _ _) rfl rfl (dstOk_of rfl) rfl rfl rfl ?_ | refine run_call _ _ _ ((hpl).pure rfl rfl _ _) rfl rfl (dstOk_of rfl) rfl rfl rfl ?_ | refine run_call _ _ _ ((hq).pure rfl rfl _ _) rfl rfl (dstOk_of rfl) rfl rfl rfl ?_); simp only [go_sem, ↓reduceIte, List.length_map, hget, Int.lt_irrefl]) | (refine AW.seq_k fun K hK => ?_) | (refine AW.block ?_) | (refine AW.skip ?_; simp only [Then, InBlock]) | (refine AW.cT ?_) | (refine AW.cF ?_) | (refine hK _ ?_; clear hK K) | (with_reducible refine andI ?_))
  exact ⟨i + 1, hi, by omega, (Weak.aC hcx (by refine ⟨?_, ?_, ?_⟩ <;> simp [go_sem, gL, kL, renOf, V.obj, Nat.blt, Nat.ble, List.map_append, dv_push]))⟩
 ·obtain rfl : i = sh.length := by omega
  repeat' (first | (refine AW.sreg rfl fun K hK => ?_; simp only [go_sem, ↓reduceIte, List.length_map]) | (refine AW.seq_k fun K hK => ?_) | (refine AW.exit ?_; simp only [go_sem, ↓reduceIte]) | (refine AW.cF ?_) | (refine hK _ ?_; clear hK K) | (clear hK K; refine hK _ ?_; clear hK K) | (refine AW.ret (Fin.data rfl (by first | (simp only [go_sem]; done) | (simp [go_sem, *]; done) | (simp [go_sem]; omega) | rfl) rfl)))
theorem sheetFault_ok {sh : List Qu} (h : ShR sh) : Does Tryz.prog 145 [.d (.sl (sh.map quD))] [] (I 0) [] := by
 have hl := h.len
 have hp := h.pos
 have h0 : ((sh.length : Int) == 0) = false := beq_eq_false_iff_ne.2 (by omega)
 refine Does.of_AW (n := 99) Tryz.func145 rfl rfl rfl fun cx hcx => ?_
 repeat' (first | (refine AW.sreg rfl fun K hK => ?_; simp only [go_sem, ↓reduceIte, List.length_map, h0]) | (refine AW.seq_k fun K hK => ?_) | (refine AW.block ?_) | (refine AW.skip ?_; simp only [Then, InBlock]) | (refine AW.cF ?_) | (refine hK _ ?_; clear hK K))
 refine AW.loopF (ι := Nat) [0, 15, 16] (fun p => [(17, I p)]) (fun p => []) 40 (fun p => p ≤ sh.length) (fun p => sh.length - p) 0 (Nat.zero_le _) (Weak.aC hcx (by refine ⟨?_, ?_, ?_⟩ <;> simp [go_sem, gL, kL, renOf, V.obj, Nat.blt, Nat.ble, List.map_append, dv_push])) ?_; simp only [St.at_nil, St.at_cons, lk, Nat.reduceEqDiff, ↓reduceIte, Option.getD_some, Option.getD_none, List.cons_append, List.nil_append, List.append_nil]
 intro i h1
 by_cases hi : i < sh.length
 ·obtain ⟨x, hx, hxm, -⟩ := get_some hi
  have hget : (sh.map quD)[i]? = some (quD x) := by simp only [List.getElem?_map, hx, Option.map_some]
  have hk := keyR_KQ x.1 (List.mem_append_left _ (h.mem hxm))
  unfold KeyR at hk
  rw [(key_KQ _ (h.mem hxm)).1] at hk
  have hpl := qAt_any sh (by omega) x.1
  rw [h.at hx] at hpl
  have hq := h.ok x hxm
  clear hxm hx
  obtain ⟨k, kd, mo, op, nd, sc⟩ := x
  unfold QuOk at hq
  dsimp only at hq hk hpl
  have o1 := inR_any kd 1 3
  rcases hq with ⟨rfl, ⟨h1, h2⟩, rfl⟩ | ⟨rfl, ⟨h1, h2⟩, rfl⟩ | ⟨rfl, rfl, rfl⟩
  ·have o2 := inR_any mo 1 100
   rw [show (decide (1 ≤ mo) && decide (mo ≤ 100)) = true by simp; omega] at o2
   repeat' (first | ((first | refine AW.sreg rfl fun K hK => ?_ | refine AW.reg rfl ?_ | refine run_call _ _ _ ((hk).pure rfl rfl _ _) rfl rfl (dstOk_of rfl) rfl rfl rfl ?_ | refine run_call _ _ _ ((hpl).pure rfl rfl _ _) rfl rfl (dstOk_of rfl) rfl rfl rfl ?_ | refine run_call _ _ _ ((o1).pure rfl rfl _ _) rfl rfl (dstOk_of rfl) rfl rfl rfl ?_ | refine run_call _ _ _ ((o2).pure rfl rfl _ _) rfl rfl (dstOk_of rfl) rfl rfl rfl ?_); simp only [go_sem, ↓reduceIte, List.length_map, hget, Int.lt_irrefl]) | (refine AW.seq_k fun K hK => ?_) | (refine AW.block ?_) | (refine AW.skip ?_; simp only [Then, InBlock]) | (refine AW.exit ?_; simp only [go_sem, ↓reduceIte]) | (refine AW.cT ?_) | (refine AW.cF ?_) | (refine hK _ ?_; clear hK K) | (clear hK K; refine hK _ ?_; clear hK K) | (refine AW.unroll 1 ?_; simp only [AWr]) | (with_reducible refine andI ?_))
   exact ⟨i + 1, hi, by omega, (Weak.aC hcx (by refine ⟨?_, ?_, ?_⟩ <;> simp [go_sem, gL, kL, renOf, V.obj, Nat.blt, Nat.ble, List.map_append, dv_push]))⟩
  ·have o2 := inR_any mo 1 5000
   rw [show (decide (1 ≤ mo) && decide (mo ≤ 5000)) = true by simp; omega] at o2
   repeat' (first | ((first | refine AW.sreg rfl fun K hK => ?_ | refine AW.reg rfl ?_ | refine run_call _ _ _ ((hk).pure rfl rfl _ _) rfl rfl (dstOk_of rfl) rfl rfl rfl ?_ | refine run_call _ _ _ ((hpl).pure rfl rfl _ _) rfl rfl (dstOk_of rfl) rfl rfl rfl ?_ | refine run_call _ _ _ ((o1).pure rfl rfl _ _) rfl rfl (dstOk_of rfl) rfl rfl rfl ?_ | refine run_call _ _ _ ((o2).pure rfl rfl _ _) rfl rfl (dstOk_of rfl) rfl rfl rfl ?_); simp only [go_sem, ↓reduceIte, List.length_map, hget, Int.lt_irrefl]) | (refine AW.seq_k fun K hK => ?_) | (refine AW.block ?_) | (refine AW.skip ?_; simp only [Then, InBlock]) | (refine AW.exit ?_; simp only [go_sem, ↓reduceIte]) | (refine AW.cT ?_) | (refine AW.cF ?_) | (refine hK _ ?_; clear hK K) | (clear hK K; refine hK _ ?_; clear hK K) | (refine AW.unroll 1 ?_; simp only [AWr]) | (with_reducible refine andI ?_))
   exact ⟨i + 1, hi, by omega, (Weak.aC hcx (by refine ⟨?_, ?_, ?_⟩ <;> simp [go_sem, gL, kL, renOf, V.obj, Nat.blt, Nat.ble, List.map_append, dv_push]))⟩
  ·have k1 : Does Tryz.prog 81 [S [121, 101, 115]] [] (B true) [] := keyR_KQ [121, 101, 115] (by decide)
   have k2 : Does Tryz.prog 81 [S [110, 111]] [] (B true) [] := keyR_KQ [110, 111] (by decide)
   have k3 : Does Tryz.prog 81 [S [109, 97, 121, 98, 101]] [] (B true) [] := keyR_KQ [109, 97, 121, 98, 101] (by decide)
   have c1 : Does Tryz.prog 31 [.d (.sl []), S [121, 101, 115]] [] (B false) [] := contains_St [] (by simp) [121, 101, 115]
   have c2 : Does Tryz.prog 31 [.d (.sl [.str [121, 101, 115]]), S [110, 111]] [] (B false) [] := contains_St [[121, 101, 115]] (by simp) [110, 111]
   have c3 : Does Tryz.prog 31 [.d (.sl [.str [121, 101, 115], .str [110, 111]]), S [109, 97, 121, 98, 101]] [] (B false) [] := contains_St [[121, 101, 115], [110, 111]] (by simp) [109, 97, 121, 98, 101]
   repeat' (first | ((first | refine AW.sreg rfl fun K hK => ?_ | refine AW.reg rfl ?_ | refine run_call _ _ _ ((hk).pure rfl rfl _ _) rfl rfl (dstOk_of rfl) rfl rfl rfl ?_ | refine run_call _ _ _ ((hpl).pure rfl rfl _ _) rfl rfl (dstOk_of rfl) rfl rfl rfl ?_ | refine run_call _ _ _ ((o1).pure rfl rfl _ _) rfl rfl (dstOk_of rfl) rfl rfl rfl ?_ | refine run_call _ _ _ ((k1).pure rfl rfl _ _) rfl rfl (dstOk_of rfl) rfl rfl rfl ?_ | refine run_call _ _ _ ((k2).pure rfl rfl _ _) rfl rfl (dstOk_of rfl) rfl rfl rfl ?_ | refine run_call _ _ _ ((k3).pure rfl rfl _ _) rfl rfl (dstOk_of rfl) rfl rfl rfl ?_ | refine run_call _ _ _ ((c1).pure rfl rfl _ _) rfl rfl (dstOk_of rfl) rfl rfl rfl ?_ | refine run_call _ _ _ ((c2).pure rfl rfl _ _) rfl rfl (dstOk_of rfl) rfl rfl rfl ?_ | refine run_call _ _ _ ((c3).pure rfl rfl _ _) rfl rfl (dstOk_of rfl) rfl rfl rfl ?_); simp only [go_sem, ↓reduceIte, List.length_map, hget, Int.lt_irrefl, O3, Int.zero_add, Int.reduceAdd]) | (refine AW.seq_k fun K hK => ?_) | (refine AW.block ?_) | (refine AW.skip ?_; simp only [Then, InBlock]) | (refine AW.exit ?_; simp only [go_sem, ↓reduceIte]) | (refine AW.cT ?_) | (refine AW.cF ?_) | (refine hK _ ?_; clear hK K) | (clear hK K; refine hK _ ?_; clear hK K) | (refine AW.unroll 4 ?_; simp only [AWr]) | (with_reducible refine andI ?_))
   exact ⟨i + 1, hi, by omega, (Weak.aC hcx (by refine ⟨?_, ?_, ?_⟩ <;> simp [go_sem, gL, kL, renOf, V.obj, Nat.blt, Nat.ble, List.map_append, dv_push]))⟩
 ·obtain rfl : i = sh.length := by omega
  repeat' (first | (refine AW.sreg rfl fun K hK => ?_; simp only [go_sem, ↓reduceIte, List.length_map]) | (refine AW.seq_k fun K hK => ?_) | (refine AW.exit ?_; simp only [go_sem, ↓reduceIte]) | (refine AW.cF ?_) | (refine hK _ ?_; clear hK K) | (clear hK K; refine hK _ ?_; clear hK K) | (refine AW.ret (Fin.data rfl (by first | (simp only [go_sem]; done) | (simp [go_sem, *]; done) | (simp [go_sem]; omega) | rfl) rfl)))
end Go.AX

namespace Go.AX
open Go Go.Proofs Go.RowKit
/-- An answer: question, number, option, words. -/
abbrev An := Str × Int × Str × Str
abbrev anD (a : An) : D := .agg [.str a.1, .int .i64 a.2.1, .str a.2.2.1, .str a.2.2.2]
/-- Lengths. -/
def AnB (a : An) : Prop := a.1.length ≤ 1000 ∧ a.2.2.1.length ≤ 1000 ∧ a.2.2.2.length ≤ 10000
def usedF (k : Int) (a : An) : An := if k = 1 then (a.1, a.2.1, [], []) else if k = 2 then (a.1, 0, a.2.2.1, []) else (a.1, 0, [], a.2.2.2)
/-- The fault of an answer. -/
def anF (q : Qu) (a : An) : Int :=
 if q.2.1 = 1 then (if ([] == a.2.2.1 && [] == a.2.2.2) = false then 3 else if (decide (a.2.1 < 0) || decide (q.2.2.1 < a.2.1)) = true then 1 else 0)
 else if q.2.1 = 2 then (if (0 == a.2.1 && [] == a.2.2.2) = false then 3 else if (q.2.2.2.1.any fun x => a.2.2.1 == x) = false then 8 else 0)
 else (if (0 == a.2.1 && [] == a.2.2.1) = false then 3 else if (textB a.2.2.2 && !(a.2.2.2 == [])) = false then 3 else if decide (q.2.2.1 < a.2.2.2.length) = true then 2 else 0)
theorem used_any (k : Int) (a : An) : Does Tryz.prog 208 [I k, .d (anD a)] [] (.d (anD (usedF k a))) [] := by
 refine Does.of_AW (n := 24) Tryz.func208 rfl rfl rfl fun cx hcx => ?_
 unfold usedF
 by_cases h1 : k = 1
 ·subst h1
  repeat' (first | ((first | refine AW.sreg rfl fun K hK => ?_ | refine AW.reg rfl ?_); simp only [go_sem, ↓reduceIte]) | (refine AW.seq_k fun K hK => ?_) | (refine AW.block ?_) | (refine AW.cT ?_) | (refine hK _ ?_; clear hK K) | (refine AW.ret (Fin.data rfl (by first | (simp only [go_sem]; done) | (simp [go_sem, *]; done) | (simp [go_sem]; omega) | rfl) rfl)))
 ·by_cases h2 : k = 2
  ·subst h2
   repeat' (first | ((first | refine AW.sreg rfl fun K hK => ?_ | refine AW.reg rfl ?_); simp only [go_sem, ↓reduceIte]) | (refine AW.seq_k fun K hK => ?_) | (refine AW.block ?_) | (refine AW.cT ?_) | (refine AW.cF ?_) | (refine hK _ ?_; clear hK K) | (refine AW.ret (Fin.data rfl (by first | (simp only [go_sem]; done) | (simp [go_sem, *]; done) | (simp [go_sem]; omega) | rfl) rfl)))
  ·rw [if_neg h1, if_neg h2]
   have e1 : (k == 1) = false := by simpa using h1
   have e2 : (k == 2) = false := by simpa using h2
   repeat' (first | ((first | refine AW.sreg rfl fun K hK => ?_ | refine AW.reg rfl ?_); simp only [go_sem, ↓reduceIte, e1, e2]) | (refine AW.seq_k fun K hK => ?_) | (refine AW.block ?_) | (refine AW.cF ?_) | (refine hK _ ?_; clear hK K) | (refine AW.ret (Fin.data rfl (by first | (simp only [go_sem]; done) | (simp [go_sem, *]; done) | (simp [go_sem]; omega) | rfl) rfl)))
theorem answerFault_any {q : Qu} (hq : QuOk q) {a : An} (hb : AnB a) : Does Tryz.prog 154 [.d (quD q), .d (anD a)] [] (I (anF q a)) [] := by
 obtain ⟨k, kd, mo, op, nd, sc⟩ := q
 obtain ⟨ak, an, ao, aw⟩ := a
 obtain ⟨b1, b2, b3⟩ := hb
 unfold QuOk at hq
 dsimp only at hq b1 b2 b3
 have hu := used_any kd (ak, an, ao, aw)
 have ht := isText_any aw (by omega)
 refine Does.of_AW (n := 62) Tryz.func154 rfl rfl rfl fun cx hcx => ?_
 generalize hF : anF (k, kd, mo, op, nd, sc) (ak, an, ao, aw) = F
 rcases hq with ⟨rfl, ⟨h1, h2⟩, rfl⟩ | ⟨rfl, ⟨h1, h2⟩, rfl⟩ | ⟨rfl, rfl, rfl⟩
 ·have ho := outside_any an 0 mo
  simp only [usedF, reduceIte] at hu
  simp only [anF, reduceIte] at hF
  generalize (decide (an < 0) || decide (mo < an)) = o at hF ho
  repeat' (first | ((first | refine AW.sreg rfl fun K hK => ?_ | refine AW.sregD hmix rfl fun K hK => ?_ | refine runT_call _ _ [] (fun hv _ => (hu).pure rfl rfl hv _) rfl rfl (dstOk_of rfl) rfl rfl ?_ | refine run_call _ _ _ ((ho).pure rfl rfl _ _) rfl rfl (dstOk_of rfl) rfl rfl rfl ?_); simp only [go_sem, ↓reduceIte]) | (refine AW.seq_k fun K hK => ?_) | (refine AW.block ?_) | (refine AW.skip ?_; simp only [Then, InBlock]) | (refine AW.cF ?_) | (refine AW.cond rfl (fun h => ?_) (fun h => ?_) <;> (try simp only [decide_eq_true_eq, decide_eq_false_iff_not, Bool.not_eq_true', Bool.not_eq_false', Bool.not_eq_eq_eq_not, Bool.not_true, Bool.not_false, beq_iff_eq, bne_iff_ne, beq_eq_false_iff_ne, ne_eq, Bool.and_eq_true, Bool.or_eq_true, Bool.or_eq_false_iff] at h)) | (refine hK _ ?_; clear hK K) | (with_reducible refine And.intro (?_ : regOk _ _ = true) ?_; kernel_rfl) | (refine AW.ret (Fin.data rfl (by first | (simp only [go_sem]; done) | ((simp only [go_sem]; simp_all); done) | (simp [go_sem]; omega) | rfl) rfl)))
 ·simp only [usedF, Int.reduceEq, reduceIte] at hu
  simp only [anF, Int.reduceEq, reduceIte] at hF
  generalize textB aw = b at hF ht
  repeat' (first | ((first | refine AW.sreg rfl fun K hK => ?_ | refine AW.sregD hmix rfl fun K hK => ?_ | refine runT_call _ _ [] (fun hv _ => (hu).pure rfl rfl hv _) rfl rfl (dstOk_of rfl) rfl rfl ?_ | refine run_call _ _ _ ((ht).pure rfl rfl _ _) rfl rfl (dstOk_of rfl) rfl rfl rfl ?_); simp only [go_sem, ↓reduceIte]) | (refine AW.seq_k fun K hK => ?_) | (refine AW.block ?_) | (refine AW.skip ?_; simp only [Then, InBlock]) | (refine AW.cT ?_) | (refine AW.cF ?_) | (refine AW.cond rfl (fun h => ?_) (fun h => ?_) <;> (try simp only [decide_eq_true_eq, decide_eq_false_iff_not, Bool.not_eq_true', Bool.not_eq_false', Bool.not_eq_eq_eq_not, Bool.not_true, Bool.not_false, beq_iff_eq, bne_iff_ne, beq_eq_false_iff_ne, ne_eq, Bool.and_eq_true, Bool.or_eq_true, Bool.or_eq_false_iff] at h)) | (refine hK _ ?_; clear hK K) | (refine stepB_split (fun h => ?_) (fun h => ?_) <;> (have hb0 := h) <;> (try simp only [Bool.not_eq_true', Bool.not_eq_false'] at hb0) <;> (try simp only [decide_eq_true_eq, decide_eq_false_iff_not, Bool.not_eq_true', Bool.not_eq_false', Bool.not_eq_eq_eq_not, Bool.not_true, Bool.not_false, beq_iff_eq, bne_iff_ne, beq_eq_false_iff_ne, ne_eq, Bool.and_eq_true, Bool.or_eq_true, Bool.or_eq_false_iff] at h) <;> simp only [go_sem, ↓reduceIte, hb0, h, decide_true, decide_false] <;> (try clear hb0)) | (with_reducible refine And.intro (?_ : regOk _ _ = true) ?_; kernel_rfl) | (refine AW.ret (Fin.data rfl (by first | (simp only [go_sem]; done) | ((simp only [go_sem]; simp_all); done) | (simp [go_sem]; omega) | rfl) rfl)))
 ·simp only [usedF, Int.reduceEq, reduceIte] at hu
  simp only [anF, Int.reduceEq, reduceIte] at hF
  have hc := contains_St O3 (by decide) ao
  generalize (O3.any fun x => ao == x) = b at hF hc
  repeat' (first | ((first | refine AW.sreg rfl fun K hK => ?_ | refine AW.sregD hmix rfl fun K hK => ?_ | refine runT_call _ _ [] (fun hv _ => (hu).pure rfl rfl hv _) rfl rfl (dstOk_of rfl) rfl rfl ?_ | refine run_call _ _ _ ((hc).pure rfl rfl _ _) rfl rfl (dstOk_of rfl) rfl rfl rfl ?_); simp only [go_sem, ↓reduceIte, O3]) | (refine AW.seq_k fun K hK => ?_) | (refine AW.block ?_) | (refine AW.skip ?_; simp only [Then, InBlock]) | (refine AW.cF ?_) | (refine AW.cond rfl (fun h => ?_) (fun h => ?_) <;> (try simp only [decide_eq_true_eq, decide_eq_false_iff_not, Bool.not_eq_true', Bool.not_eq_false', Bool.not_eq_eq_eq_not, Bool.not_true, Bool.not_false, beq_iff_eq, bne_iff_ne, beq_eq_false_iff_ne, ne_eq, Bool.and_eq_true, Bool.or_eq_true, Bool.or_eq_false_iff] at h)) | (refine hK _ ?_; clear hK K) | (with_reducible refine And.intro (?_ : regOk _ _ = true) ?_; kernel_rfl) | (refine AW.ret (Fin.data rfl (by first | (simp only [go_sem]; done) | ((simp only [go_sem]; simp_all); done) | (simp [go_sem]; omega) | rfl) rfl)))
end Go.AX

namespace Go.AX
open Go Go.Proofs Go.RowKit
theorem indexFunc_An (xs : List An) (hl : xs.length ≤ 1000) (c : Nat) (cap : D) (q : An → Bool) (hc : ∀ x ∈ xs, Does Tryz.prog c [.d (anD x), .d cap] [] (B (q x)) []) :
  Does Tryz.prog 184 [.d (.sl (xs.map anD)), .fn c [.d cap]] [] (I (idxG q xs 0)) [] := by
 refine Does.of_AW (n := 19) Tryz.func184 rfl rfl rfl fun cx hcx => ?_
 generalize hR : idxG q xs 0 = R
 repeat' (first | (refine AW.sreg rfl fun K hK => ?_; simp only [go_sem, ↓reduceIte, List.length_map]) | (refine AW.seq_k fun K hK => ?_) | (refine AW.block ?_) | (refine hK _ ?_; clear hK K))
 refine AW.loopF (ι := Nat) [0, 1, 7] (fun p => [(8, I p)]) (fun p => []) 1 (fun p => p ≤ xs.length ∧ idxG q (xs.drop p) p = R) (fun p => xs.length - p) 0 ⟨by simp, hR⟩ (Weak.aC hcx (by refine ⟨?_, ?_, ?_⟩ <;> simp [go_sem, gL, kL, renOf, V.obj, Nat.blt, Nat.ble, List.map_append, dv_push])) ?_; simp only [St.at_nil, St.at_cons, lk, Nat.reduceEqDiff, ↓reduceIte, Option.getD_some, Option.getD_none, List.cons_append, List.nil_append, List.append_nil]
 rintro i ⟨h1, h2⟩
 by_cases hi : i < xs.length
 ·obtain ⟨x, hx, hxm, hxd⟩ := get_some hi
  have hget : (xs.map anD)[i]? = some (anD x) := by simp [hx]
  rw [hxd, idxG] at h2
  repeat' (first | ((first | refine AW.sreg rfl fun K hK => ?_ | refine AW.reg rfl ?_ | refine run_call _ _ _ ((hc x hxm).pure rfl rfl _ _) rfl rfl (dstOk_of rfl) rfl rfl rfl ?_); simp only [go_sem, ↓reduceIte, List.length_map, hget]) | (refine AW.seq_k fun K hK => ?_) | (refine AW.block ?_) | (refine AW.skip ?_; simp only [Then, InBlock]) | (refine AW.cT ?_) | (refine AW.cond rfl (fun h => ?_) (fun h => ?_) <;> (try simp only [decide_eq_true_eq, decide_eq_false_iff_not, Bool.not_eq_true', Bool.not_eq_false', Bool.not_eq_eq_eq_not, Bool.not_true, Bool.not_false, beq_iff_eq, bne_iff_ne, beq_eq_false_iff_ne, ne_eq, Bool.and_eq_true, Bool.or_eq_true, Bool.or_eq_false_iff] at h)) | (refine hK _ ?_; clear hK K) | (with_reducible refine andI ?_) | (refine AW.ret (Fin.data rfl (by first | (simp only [go_sem]; done) | ((rw [if_pos h] at h2; subst h2; simp [go_sem]); done) | (simp [go_sem]; omega) | rfl) rfl)))
  rw [if_neg (by simp [h])] at h2
  exact ⟨i + 1, ⟨hi, h2⟩, by omega, (Weak.aC hcx (by refine ⟨?_, ?_, ?_⟩ <;> simp [go_sem, gL, kL, renOf, V.obj, Nat.blt, Nat.ble, List.map_append, dv_push]))⟩
 ·obtain rfl : i = xs.length := by omega
  simp only [List.drop_length, idxG] at h2
  subst h2
  repeat' (first | (refine AW.sreg rfl fun K hK => ?_; simp only [go_sem, ↓reduceIte, List.length_map]) | (refine AW.seq_k fun K hK => ?_) | (refine AW.exit ?_; simp only [go_sem, ↓reduceIte]) | (refine AW.cF ?_) | (refine hK _ ?_; clear hK K) | (clear hK K; refine hK _ ?_; clear hK K) | (refine AW.ret (Fin.data rfl (by first | (simp only [go_sem]; done) | (simp [go_sem, *]; done) | (simp [go_sem]; omega) | rfl) rfl)))
theorem containsFunc_An (xs : List An) (hl : xs.length ≤ 1000) (c : Nat) (cap : D) (q : An → Bool) (hc : ∀ x ∈ xs, Does Tryz.prog c [.d (anD x), .d cap] [] (B (q x)) []) :
  Does Tryz.prog 210 [.d (.sl (xs.map anD)), .fn c [.d cap]] [] (B (xs.any q)) [] := by
 rw [← idxG_any q xs 0]
 refine Does.of_AW (n := 9) Tryz.func210 rfl rfl rfl fun cx hcx => ?_
 repeat' (first | ((first | refine AW.sreg rfl fun K hK => ?_ | refine run_call _ _ _ ((indexFunc_An xs hl c cap q hc).pure rfl rfl _ _) rfl rfl (dstOk_of rfl) rfl rfl rfl ?_); simp only [go_sem, ↓reduceIte]) | (refine hK _ ?_; clear hK K) | (refine AW.ret (Fin.data rfl (by first | (simp only [go_sem]; done) | (simp [go_sem, *]; done) | (simp [go_sem]; omega) | rfl) rfl)))

/-- The fault of answers. -/
def asF (sh : List Qu) : Int → List An → Int
 | _, [] => 0
 | la, a :: r => if plF sh a.1 < 0 then 8 else if plF sh a.1 ≤ la then 7 else match sh[(plF sh a.1).toNat]? with
  | none => 0
  | some q => if anF q a ≠ 0 then anF q a else asF sh (plF sh a.1) r
theorem plF_get {sh : List Qu} {k : Str} (h : ¬ plF sh k < 0) : ∃ q, sh[(plF sh k).toNat]? = some q ∧ q ∈ sh ∧ q.1 = k := by
 have ha : sh.any (fun x => x.1 == k) = true := by
  rw [← idxG_any (fun x : Qu => x.1 == k) sh 0]
  exact decide_eq_true (by unfold plF at h; omega)
 obtain ⟨j, c, e, hj, hc, -⟩ := idxG_at (q := fun x : Qu => x.1 == k) (l := sh) 0 ha
 refine ⟨c, ?_, List.mem_of_getElem? hj, by simpa using hc⟩
 unfold plF
 rw [e, Nat.zero_add]
 exact hj
theorem answersFault_any {sh : List Qu} (h : ShR sh) (l : List An) (hl : l.length ≤ 30) (hb : ∀ a ∈ l, AnB a) :
  Does Tryz.prog 104 [.d (.sl (sh.map quD)), .d (.sl (l.map anD))] [] (I (asF sh (-1) l)) [] := by
 have hsl := h.len
 refine Does.of_AW (n := 39) Tryz.func104 rfl rfl rfl fun cx hcx => ?_
 generalize hR : asF sh (-1) l = R
 have h30 : decide ((30 : Int) < (l.length : Int)) = false := by simp; omega
 repeat' (first | (refine AW.sreg rfl fun K hK => ?_; simp only [go_sem, ↓reduceIte, List.length_map, h30]) | (refine AW.seq_k fun K hK => ?_) | (refine AW.block ?_) | (refine AW.skip ?_; simp only [Then, InBlock]) | (refine AW.cF ?_) | (refine hK _ ?_; clear hK K))
 refine AW.loopF (ι := Nat × Int) [0, 13, 14] (fun p => [(15, I p.1), (5, I p.2)]) (fun p => []) 10 (fun p => p.1 ≤ l.length ∧ asF sh p.2 (l.drop p.1) = R) (fun p => l.length - p.1) (0, -1) ⟨by simp, hR⟩ (Weak.aC hcx (by refine ⟨?_, ?_, ?_⟩ <;> simp [go_sem, gL, kL, renOf, V.obj, Nat.blt, Nat.ble, List.map_append, dv_push])) ?_; simp only [St.at_nil, St.at_cons, lk, Nat.reduceEqDiff, ↓reduceIte, Option.getD_some, Option.getD_none, List.cons_append, List.nil_append, List.append_nil]
 rintro ⟨i, la⟩ ⟨h1, h2⟩
 dsimp only at h1 h2 ⊢
 by_cases hi : i < l.length
 ·obtain ⟨x, hx, hxm, hxd⟩ := get_some hi
  have hget : (l.map anD)[i]? = some (anD x) := by simp only [List.getElem?_map, hx, Option.map_some]
  have hpl := place_any sh (by omega) x.1
  rw [hxd, asF] at h2
  by_cases c1 : plF sh x.1 < 0
  ·rw [if_pos c1] at h2
   subst h2
   repeat' (first | ((first | refine AW.sreg rfl fun K hK => ?_ | refine run_call _ _ _ ((hpl).pure rfl rfl _ _) rfl rfl (dstOk_of rfl) rfl rfl rfl ?_); simp only [go_sem, ↓reduceIte, List.length_map, hget, c1]) | (refine AW.seq_k fun K hK => ?_) | (refine AW.block ?_) | (refine AW.skip ?_; simp only [Then, InBlock]) | (refine AW.cT ?_) | (refine hK _ ?_; clear hK K) | (with_reducible refine andI ?_) | (refine AW.ret (Fin.data rfl (by first | (simp only [go_sem]; done) | (simp [go_sem, *]; done) | (simp [go_sem]; omega) | rfl) rfl)))
  ·rw [if_neg c1] at h2
   by_cases c2 : plF sh x.1 ≤ la
   ·rw [if_pos c2] at h2
    subst h2
    repeat' (first | ((first | refine AW.sreg rfl fun K hK => ?_ | refine run_call _ _ _ ((hpl).pure rfl rfl _ _) rfl rfl (dstOk_of rfl) rfl rfl rfl ?_); simp only [go_sem, ↓reduceIte, List.length_map, hget, c1, c2]) | (refine AW.seq_k fun K hK => ?_) | (refine AW.block ?_) | (refine AW.skip ?_; simp only [Then, InBlock]) | (refine AW.cT ?_) | (refine AW.cF ?_) | (refine hK _ ?_; clear hK K) | (with_reducible refine andI ?_) | (refine AW.ret (Fin.data rfl (by first | (simp only [go_sem]; done) | (simp [go_sem, *]; done) | (simp [go_sem]; omega) | rfl) rfl)))
   ·rw [if_neg c2] at h2
    obtain ⟨q, hq, hqm, -⟩ := plF_get c1
    rw [hq] at h2
    dsimp only at h2
    have hq2 : (sh.map quD)[(plF sh x.1).toNat]? = some (quD q) := by simp only [List.getElem?_map, hq, Option.map_some]
    have ha := answerFault_any (h.ok q hqm) (hb x hxm)
    have hnn : 0 ≤ plF sh x.1 := by omega
    generalize plF sh x.1 = k at *
    generalize anF q x = F at *
    by_cases c3 : F = 0
    ·subst c3
     rw [if_neg (by simp)] at h2
     repeat' (first | ((first | refine AW.sreg rfl fun K hK => ?_ | refine AW.sregD hmix rfl fun K hK => ?_ | refine AW.reg rfl ?_ | refine run_call _ _ _ ((hpl).pure rfl rfl _ _) rfl rfl (dstOk_of rfl) rfl rfl rfl ?_ | refine runT_call _ _ [] (fun hv _ => (ha).pure rfl rfl hv _) rfl rfl (dstOk_of rfl) rfl rfl ?_); simp only [go_sem, ↓reduceIte, List.length_map, hget, c1, c2, hq2]) | (refine AW.seq_k fun K hK => ?_) | (refine AW.block ?_) | (refine AW.skip ?_; simp only [Then, InBlock]) | (refine AW.cT ?_) | (refine AW.cF ?_) | (refine hK _ ?_; clear hK K) | (with_reducible refine And.intro (?_ : regOk _ _ = true) ?_; kernel_rfl) | (with_reducible refine andI ?_))
     exact ⟨(i + 1, k), ⟨hi, h2⟩, by simp only; omega, (Weak.aC hcx (by refine ⟨?_, ?_, ?_⟩ <;> simp [go_sem, gL, kL, renOf, V.obj, Nat.blt, Nat.ble, List.map_append, dv_push]))⟩
    ·rw [if_pos c3] at h2
     subst h2
     have c4 : (F != 0) = true := by simpa using c3
     repeat' (first | ((first | refine AW.sreg rfl fun K hK => ?_ | refine AW.sregD hmix rfl fun K hK => ?_ | refine run_call _ _ _ ((hpl).pure rfl rfl _ _) rfl rfl (dstOk_of rfl) rfl rfl rfl ?_ | refine runT_call _ _ [] (fun hv _ => (ha).pure rfl rfl hv _) rfl rfl (dstOk_of rfl) rfl rfl ?_); simp only [go_sem, ↓reduceIte, List.length_map, hget, c1, c2, hq2, c4]) | (refine AW.seq_k fun K hK => ?_) | (refine AW.block ?_) | (refine AW.skip ?_; simp only [Then, InBlock]) | (refine AW.cT ?_) | (refine AW.cF ?_) | (refine hK _ ?_; clear hK K) | (with_reducible refine And.intro (?_ : regOk _ _ = true) ?_; kernel_rfl) | (with_reducible refine andI ?_) | (refine AW.ret (Fin.data rfl (by first | (simp only [go_sem]; done) | (simp [go_sem, *]; done) | (simp [go_sem]; omega) | rfl) rfl)))
 ·obtain rfl : i = l.length := by omega
  simp only [List.drop_length, asF] at h2
  subst h2
  repeat' (first | (refine AW.sreg rfl fun K hK => ?_; simp only [go_sem, ↓reduceIte, List.length_map]) | (refine AW.seq_k fun K hK => ?_) | (refine AW.exit ?_; simp only [go_sem, ↓reduceIte]) | (refine AW.cF ?_) | (refine hK _ ?_; clear hK K) | (clear hK K; refine hK _ ?_; clear hK K) | (refine AW.ret (Fin.data rfl (by first | (simp only [go_sem]; done) | (simp [go_sem, *]; done) | (simp [go_sem]; omega) | rfl) rfl)))
theorem has1_any (x : An) (k : Str) : Does Tryz.prog 211 [.d (anD x), .d (.ptr [.str k] 0)] [] (B (x.1 == k)) [] := by
 refine Does.of_AW (n := 8) Tryz.func211 rfl rfl rfl fun cx hcx => ?_
 repeat' (first | (refine AW.sreg rfl fun K hK => ?_; simp only [go_sem, ↓reduceIte]) | (refine hK _ ?_; clear hK K) | (refine AW.ret (Fin.data rfl (by first | (simp only [go_sem]; done) | (simp [go_sem, *]; done) | (simp [go_sem]; omega) | rfl) rfl)))
/-- Whether there is an answer. -/
def hasF (l : List An) (k : Str) : Bool := l.any fun x => x.1 == k
theorem has_any (l : List An) (hl : l.length ≤ 1000) (k : Str) : Does Tryz.prog 155 [.d (.sl (l.map anD)), S k] [] (B (hasF l k)) [] := by
 have hx := containsFunc_An l hl 211 (.ptr [.str k] 0) (fun x => x.1 == k) (fun x _ => has1_any x k)
 refine Does.of_AW (n := 8) Tryz.func155 rfl rfl rfl fun cx hcx => ?_
 repeat' (first | ((first | refine AW.sreg rfl fun K hK => ?_ | refine run_call _ _ _ ((hx).lend (by repeat' (first | exact frzL_nil | refine frzL_cons (by first | exact frz_d | exact frz_slr rfl rfl (by first | (simp; done) | (simp; omega) | (simp [*]; done) | fail) | rfl) ?_)) rfl rfl rfl) rfl rfl (dstOk_of rfl) rfl rfl rfl ?_); simp only [go_sem, ↓reduceIte]) | (refine hK _ ?_; clear hK K) | (refine AW.ret (Fin.data rfl (by first | (simp only [go_sem]; done) | (simp [go_sem, *]; done) | (simp [go_sem]; omega) | rfl) rfl)))
/-- The questions that have no answer. -/
def miF (sh : List Qu) (l : List An) : List Str := (sh.filter fun q => q.2.2.2.2.1 && !hasF l q.1).map (·.1)
theorem missing_any (sh : List Qu) (hs : sh.length ≤ 1000) (l : List An) (hl : l.length ≤ 1000) :
  Does Tryz.prog 105 [.d (.sl (sh.map quD)), .d (.sl (l.map anD))] [] (.d (.sl ((miF sh l).map D.str))) [] := by
 refine Does.of_AW (n := 30) Tryz.func105 rfl rfl rfl fun cx hcx => ?_
 repeat' (first | (refine AW.sreg rfl fun K hK => ?_; simp only [go_sem, ↓reduceIte, List.length_map]) | (refine AW.seq_k fun K hK => ?_) | (refine AW.block ?_) | (refine hK _ ?_; clear hK K))
 refine AW.weak (Weak.nil 5 9 1 rfl) ?_
 refine AW.loopF (ι := Nat) [1, 8, 9] (fun p => [(10, I p), (5, .slr 192 0 (miF (sh.take p) l).length)]) (fun p => [(192, some (O.vec 9 1 (dv ((miF (sh.take p) l).map D.str))))]) 12 (fun p => p ≤ sh.length) (fun p => sh.length - p) 0 (Nat.zero_le _) (Weak.aC hcx (by refine ⟨?_, ?_, ?_⟩ <;> simp [go_sem, gL, kL, renOf, V.obj, Nat.blt, Nat.ble, List.map_append, dv_push, miF, dv])) ?_; simp only [St.at_nil, St.at_cons, lk, Nat.reduceEqDiff, ↓reduceIte, Option.getD_some, Option.getD_none, List.cons_append, List.nil_append, List.append_nil]
 intro i h1
 by_cases hi : i < sh.length
 ·obtain ⟨x, hx, hxm, hxd⟩ := get_some hi
  have hget : (sh.map quD)[i]? = some (quD x) := by simp only [List.getElem?_map, hx, Option.map_some]
  have hh := has_any l hl x.1
  have ht : sh.take (i + 1) = sh.take i ++ [x] := by rw [List.take_add_one, hx]; rfl
  have hm : (miF (sh.take i) l).length ≤ 1000 := by
   simp only [miF, List.length_map]
   exact Nat.le_trans (List.length_filter_le _ _) (by simp; omega)
  cases hn : x.2.2.2.2.1 with
  | false =>
   have e : miF (sh.take (i + 1)) l = miF (sh.take i) l := by rw [ht]; simp [miF, List.filter_append, hn]
   repeat' (first | ((first | refine AW.sreg rfl fun K hK => ?_ | refine AW.reg rfl ?_); simp only [go_sem, ↓reduceIte, List.length_map, hget, hn]) | (refine AW.seq_k fun K hK => ?_) | (refine AW.block ?_) | (refine AW.skip ?_; simp only [Then, InBlock]) | (refine AW.cT ?_) | (refine AW.cF ?_) | (refine hK _ ?_; clear hK K) | (with_reducible refine andI ?_))
   exact ⟨i + 1, hi, by omega, (Weak.aC hcx (by refine ⟨?_, ?_, ?_⟩ <;> simp [go_sem, gL, kL, renOf, V.obj, Nat.blt, Nat.ble, List.map_append, dv_push, e]))⟩
  | true =>
   generalize hH : hasF l x.1 = H at hh
   cases H with
   | true =>
    have e : miF (sh.take (i + 1)) l = miF (sh.take i) l := by rw [ht]; simp [miF, List.filter_append, hn, hH]
    repeat' (first | ((first | refine AW.sreg rfl fun K hK => ?_ | refine AW.reg rfl ?_ | refine run_call _ _ _ ((hh).pure rfl rfl _ _) rfl rfl (dstOk_of rfl) rfl rfl rfl ?_); simp only [go_sem, ↓reduceIte, List.length_map, hget, hn]) | (refine AW.seq_k fun K hK => ?_) | (refine AW.block ?_) | (refine AW.skip ?_; simp only [Then, InBlock]) | (refine AW.cT ?_) | (refine AW.cF ?_) | (refine hK _ ?_; clear hK K) | (with_reducible refine andI ?_))
    exact ⟨i + 1, hi, by omega, (Weak.aC hcx (by refine ⟨?_, ?_, ?_⟩ <;> simp [go_sem, gL, kL, renOf, V.obj, Nat.blt, Nat.ble, List.map_append, dv_push, e]))⟩
   | false =>
    have e : miF (sh.take (i + 1)) l = miF (sh.take i) l ++ [x.1] := by rw [ht]; simp [miF, List.filter_append, hn, hH]
    repeat' (first | ((first | refine AW.sreg rfl fun K hK => ?_ | refine AW.reg rfl ?_ | refine run_call _ _ _ ((hh).pure rfl rfl _ _) rfl rfl (dstOk_of rfl) rfl rfl rfl ?_); simp only [go_sem, ↓reduceIte, List.length_map, hget, hn]) | (refine AW.seq_k fun K hK => ?_) | (refine AW.block ?_) | (refine AW.skip ?_; simp only [Then, InBlock]) | (refine AW.cT ?_) | (refine hK _ ?_; clear hK K) | (with_reducible refine andI ?_))
    exact ⟨i + 1, hi, by omega, (Weak.aC hcx (by refine ⟨?_, ?_, ?_⟩ <;> simp [go_sem, gL, kL, renOf, V.obj, Nat.blt, Nat.ble, List.map_append, dv_push, e]))⟩
 ·obtain rfl : i = sh.length := by omega
  rw [List.take_length]
  repeat' (first | (refine AW.sreg rfl fun K hK => ?_; simp only [go_sem, ↓reduceIte, List.length_map]) | (refine AW.seq_k fun K hK => ?_) | (refine AW.exit ?_; simp only [go_sem, ↓reduceIte]) | (refine AW.cF ?_) | (refine hK _ ?_; clear hK K) | (clear hK K; refine hK _ ?_; clear hK K))
  exact AW.ret (Fin.data rfl ((frz_slr rfl rfl (by simp)).trans (by simp [go_sem])) rfl)
end Go.AX
