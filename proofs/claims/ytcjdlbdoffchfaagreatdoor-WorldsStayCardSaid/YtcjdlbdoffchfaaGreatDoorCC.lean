/- Names, drawn; SimpleOf. -/
import Derived.Test.YtcjdlbdoffchfaaGreatDoorCB
import Derived.Test.YtcjdlbdoffchfaaGreatDoorCA
set_option linter.unusedSimpArgs false
set_option linter.unusedVariables false
set_option linter.unnecessarySimpa false
set_option maxRecDepth 1000000
set_option maxHeartbeats 4000000
namespace Go.AX
open Go Go.Proofs Go.RowKit
theorem ext105 : Builder.Extra Tryz.prog Tryz.l105_ren where
  sizeBuilder := by kernel_rfl
  liesBuilder := by kernel_rfl
  t5 := Tryz.underlying5
  a5 := Tryz.isAgg5
  z5 := Tryz.sizeOf5
  v5 := Tryz.zeroValue5
  infoByte := by kernel_rfl
  cellsByte := by kernel_rfl
  sizeByte := by kernel_rfl
  neB5 := by decide
theorem repeat_n (c : Nat) (hc : c ≤ 100000) : Does Tryz.prog 88 [S [110], I c] [] (S (Lib.repeatL [110] c)) [] := by
  refine Does.of_below ⟨Tryz.f88, Tryz.func88, rfl, by kernel_rfl⟩ fun w ok vs hg hok hargs => ?_
  simp only [RVl, RV, RD] at hargs
  obtain ⟨v1, r1, e1, rfl, v2, r2, e2, rfl, rfl⟩ := hargs
  subst e2
  obtain rfl : vs = #[.string ⟨#[110]⟩, .int .i64 c] := by cases vs; simp_all
  refine (Any.strings_Repeat Tryz.l105 ext105 ⟨#[110]⟩ c w (by omega) (by simp [ByteArray.size]; omega)).mono fun e w' ⟨h1, h2⟩ => ⟨_, h1, h2, ?_⟩
  simp only [RV, RD]
/-- The names that are drawn. -/
def SA : List Str := [[65, 110, 110, 32, 76, 101, 101], [66, 111, 98, 32, 66, 46, 32, 82, 97, 121], [67, 105, 100, 32, 77, 111, 101], [65, 110, 110, 32, 82, 111, 101], [97, 110, 110, 32, 108, 101, 101], [68, 101, 101, 44, 32, 68, 46], [69, 118, 101, 32, 118, 97, 110, 32, 82, 97, 121], [74, 101, 97, 110, 45, 76, 117, 99, 32, 100, 101, 32, 108, 97, 32, 67, 114, 117, 122], [80, 108, 97, 116, 111], EZ]
def SBf (k : Nat) : List Str := [[], [32, 97], [97, 32, 32, 98], [97, 10], Lib.repeatL [110] k, [255]]
def SNm : List Str := SA ++ (SBf 100 ++ SBf 101)
def lowB (c : UInt8) : Str := if 65 ≤ c.toNat ∧ c.toNat ≤ 90 then [c + 32] else if c.toNat ≠ 46 ∧ c.toNat ≠ 44 then [c] else []
def lowS : Str → Str
  | [] => []
  | c :: r => lowB c ++ lowS r
/-- The words of a name. -/
def wdS (s : Str) : List Str := (Lib.split (lowS s) [32]).filter fun w => !(w == [])
def smS (s : Str) : Str := Lib.join (wdS s) [32]
theorem split_own (s : Str) (c : UInt8) (h : s.length ≤ 1000000) : Does Tryz.prog 89 [S s, S [c]] [] (.slr 0 0 (Lib.split s [c]).length) [.vec 9 1 (dv ((Lib.split s [c]).map D.str))] := by
  have hd := Lib.splitB_data ⟨#[c]⟩ 0 (Lib.countB ⟨s.toArray⟩ ⟨#[c]⟩) ⟨s.toArray⟩
  have hlen := Lib.splitB_all ⟨#[c]⟩ (by simp [ByteArray.size]) 0 _ ⟨s.toArray⟩ rfl
  have hq : (Lib.split s [c]).map D.str = (Lib.splitB ⟨#[c]⟩ 0 (Lib.countB ⟨s.toArray⟩ ⟨#[c]⟩) ⟨s.toArray⟩).map (fun b => D.str b.data.toList) := by
    have e3 : Lib.countB ⟨s.toArray⟩ ⟨#[c]⟩ = Lib.count s [c] := rfl
    rw [Lib.split, ← e3]
    have := congrArg (List.map D.str) hd
    rw [List.map_map] at this
    exact this.symm
  have hl2 : (Lib.split s [c]).length = Lib.countB ⟨s.toArray⟩ ⟨#[c]⟩ + 1 := by
    have := congrArg List.length hq
    simp only [List.length_map] at this
    omega
  have h0 : ∀ n, n = (dv ((Lib.split s [c]).map D.str)).length → Does Tryz.prog 89 [S s, S [c]] [] (.slr 0 0 n) [.vec 9 1 (dv ((Lib.split s [c]).map D.str))] := by
    rintro n rfl
    refine Does.of_alloc ⟨Tryz.f89, Tryz.func89, rfl, by kernel_rfl⟩ fun w ok vs hg hok hargs => ?_
    simp only [RVl, RV, RD] at hargs
    obtain ⟨v1, r1, e1, rfl, v2, r2, e2, rfl, rfl⟩ := hargs
    subst e2
    obtain rfl : vs = #[.string ⟨s.toArray⟩, .string ⟨#[c]⟩] := by cases vs; simp_all
    obtain ⟨m, hm⟩ := hg.max (g := 0) (by kernel_rfl)
    refine (Any.strings_Split Tryz.l146 (by kernel_rfl) ⟨s.toArray⟩ ⟨#[c]⟩ m w (by simp [ByteArray.size]; omega) hm (by simp [ByteArray.size])).mono fun e w' ⟨h1, h2⟩ => ?_
    refine ⟨_, _, h2, ?_, ?_, ?_, ?_⟩
    · intro i hi hc
      omega
    · simp only [List.size_toArray, List.length_map, dv]
      omega
    · rw [h1]
      simp only [List.length_map, dv, hl2]
    · intro w2 ok2 σ2
      rw [hq]
      exact RVels_strs _ []
  exact h0 _ (by simp [dv])
theorem wd1_any (x : Str) : Does Tryz.prog 90 [S x] [] (B (x == [])) [] := by
  refine Does.of_AW (n := 5) Tryz.func90 rfl rfl rfl fun cx hcx => ?_
  repeat' (first | (refine AW.sreg rfl fun K hK => ?_; simp only [go_sem, ↓reduceIte]) | (refine hK _ ?_; clear hK K) | (refine AW.ret (Fin.data rfl (by first | (simp only [go_sem]; done) | (simp [go_sem, *]; done) | (simp [go_sem]; omega) | rfl) rfl)))
theorem indexFuncP_St (xs : List Str) (hl : xs.length ≤ 1000) (c : Nat) (q : Str → Bool) (hc : ∀ x ∈ xs, Does Tryz.prog c [.d (D.str x)] [] (B (q x)) []) :
    Does Tryz.prog 142 [.d (.sl (xs.map D.str)), .fn c []] [] (I (idxG q xs 0)) [] := by
  refine Does.of_AW (n := 19) Tryz.func142 rfl rfl rfl fun cx hcx => ?_
  generalize hR : idxG q xs 0 = R
  repeat' (first | (refine AW.sreg rfl fun K hK => ?_; simp only [go_sem, ↓reduceIte, List.length_map]) | (refine AW.seq_k fun K hK => ?_) | (refine AW.block ?_) | (refine hK _ ?_; clear hK K))
  refine AW.loopF (ι := Nat) [0, 1, 7] (fun p => [(8, I p)]) (fun p => []) 1 (fun p => p ≤ xs.length ∧ idxG q (xs.drop p) p = R) (fun p => xs.length - p) 0 ⟨by simp, hR⟩ (Weak.aC hcx (by refine ⟨?_, ?_, ?_⟩ <;> simp [go_sem, gL, kL, renOf, V.obj, Nat.blt, Nat.ble, List.map_append, dv_push])) ?_; simp only [St.at_nil, St.at_cons, lk, Nat.reduceEqDiff, ↓reduceIte, Option.getD_some, Option.getD_none, List.cons_append, List.nil_append, List.append_nil]
  rintro i ⟨h1, h2⟩
  by_cases hi : i < xs.length
  · obtain ⟨x, hx, hxm, hxd⟩ := get_some hi
    have hget : (xs.map D.str)[i]? = some (D.str x) := by simp [hx]
    rw [hxd, idxG] at h2
    repeat' (first | ((first | refine AW.sreg rfl fun K hK => ?_ | refine AW.reg rfl ?_ | refine run_call _ _ _ ((hc x hxm).pure rfl rfl _ _) rfl rfl (dstOk_of rfl) rfl rfl rfl ?_); simp only [go_sem, ↓reduceIte, List.length_map, hget]) | (refine AW.seq_k fun K hK => ?_) | (refine AW.block ?_) | (refine AW.skip ?_; simp only [Then, InBlock]) | (refine AW.cT ?_) | (refine AW.cond rfl (fun h => ?_) (fun h => ?_) <;> (try simp only [decide_eq_true_eq, decide_eq_false_iff_not, Bool.not_eq_true', Bool.not_eq_false', Bool.not_eq_eq_eq_not, Bool.not_true, Bool.not_false, beq_iff_eq, bne_iff_ne, beq_eq_false_iff_ne, ne_eq, Bool.and_eq_true, Bool.or_eq_true, Bool.or_eq_false_iff] at h)) | (refine hK _ ?_; clear hK K) | (with_reducible refine andI ?_) | (refine AW.ret (Fin.data rfl (by first | (simp only [go_sem]; done) | ((rw [if_pos h] at h2; subst h2; simp [go_sem]); done) | (simp [go_sem]; omega) | rfl) rfl)))
    rw [if_neg (by simp [h])] at h2
    exact ⟨i + 1, ⟨hi, h2⟩, by omega, (Weak.aC hcx (by refine ⟨?_, ?_, ?_⟩ <;> simp [go_sem, gL, kL, renOf, V.obj, Nat.blt, Nat.ble, List.map_append, dv_push]))⟩
  · obtain rfl : i = xs.length := by omega
    simp only [List.drop_length, idxG] at h2
    subst h2
    repeat' (first | (refine AW.sreg rfl fun K hK => ?_; simp only [go_sem, ↓reduceIte, List.length_map]) | (refine AW.seq_k fun K hK => ?_) | (refine AW.exit ?_; simp only [go_sem, ↓reduceIte]) | (refine AW.cF ?_) | (refine hK _ ?_; clear hK K) | (clear hK K; refine hK _ ?_; clear hK K) | (refine AW.ret (Fin.data rfl (by first | (simp only [go_sem]; done) | (simp [go_sem, *]; done) | (simp [go_sem]; omega) | rfl) rfl)))
theorem deleteFuncP_St (xs : List (Str)) (hl : xs.length ≤ 1000) (c : Nat) (q : Str → Bool) (hc : ∀ x ∈ xs, Does Tryz.prog c [.d (D.str x)] [] (B (q x)) []) :
    Does Tryz.prog 75 [.slr 0 0 xs.length, .fn c []] [.vec 9 1 (dv (xs.map D.str))] (.slr 0 0 (xs.filter fun x => !q x).length) [.vec 9 1 (dv ((xs.filter fun x => !q x).map D.str ++ List.replicate (xs.length - (xs.filter fun x => !q x).length) (D.str [])))] := by
  have hix := indexFuncP_St xs hl c q hc
  refine Does.of_AW (n := 42) Tryz.func75 rfl rfl rfl fun cx hcx => ?_
  generalize hF : (xs.filter fun x => !q x) = F
  cases hany : xs.any q with
  | false =>
    have hno : ∀ x ∈ xs, q x = false := by simpa using hany
    have hid : idxG q xs 0 = -1 := idxG_none 0 hany
    rw [hid] at hix
    have : F = xs := by
      rw [← hF, List.filter_eq_self]
      intro x hx; rw [hno x hx]; rfl
    subst this
    repeat' (first | ((first | refine AW.sreg rfl fun K hK => ?_ | refine run_call _ _ _ ((hix).lend (by repeat' (first | exact frzL_nil | refine frzL_cons (by first | exact frz_d | exact frz_slr rfl rfl (by first | (simp; done) | (simp; omega) | (simp [*]; done) | fail) | rfl) ?_)) rfl rfl rfl) rfl rfl (dstOk_of rfl) rfl rfl rfl ?_); simp only [go_sem, ↓reduceIte, List.length_map]) | (refine AW.seq_k fun K hK => ?_) | (refine AW.cT ?_) | (refine hK _ ?_; clear hK K))
    exact AW.ret (Fin.one rfl (by simp [go_sem]) ⟨_, rfl, by simp [go_sem]⟩ rfl (by simp [go_sem]) rfl)
  | true =>
    obtain ⟨k, x, hk, hkx, hqx, hpre⟩ := idxG_at 0 hany
    rw [hk, Nat.zero_add] at hix
    have hkl : k < xs.length := by
      rcases Nat.lt_or_ge k xs.length with h | h
      · exact h
      · simp [List.getElem?_eq_none h] at hkx
    have hd : xs.drop k = x :: xs.drop (k + 1) := by
      rw [List.drop_eq_getElem_cons hkl]; congr 1; rw [List.getElem?_eq_getElem hkl] at hkx; exact Option.some.inj hkx
    have hf0 : xs.take k ++ (xs.drop (k + 1)).filter (fun x => !q x) = F := by
      rw [← hF]
      conv => rhs; rw [← List.take_append_drop k xs, List.filter_append, hd, List.filter_cons_of_neg (by simp [hqx])]
      congr 1
      rw [List.filter_eq_self.2]
      intro y hy; rw [hpre y hy]; rfl
    repeat' (first | ((first | refine AW.sreg rfl fun K hK => ?_ | refine run_call _ _ _ ((hix).lend (by repeat' (first | exact frzL_nil | refine frzL_cons (by first | exact frz_d | exact frz_slr rfl rfl (by first | (simp; done) | (simp; omega) | (simp [*]; done) | fail) | rfl) ?_)) rfl rfl rfl) rfl rfl (dstOk_of rfl) rfl rfl rfl ?_); simp only [go_sem, ↓reduceIte, List.length_map]) | (refine AW.seq_k fun K hK => ?_) | (refine AW.block ?_) | (refine AW.skip ?_; simp only [Then, InBlock]) | (refine AW.cF ?_) | (refine hK _ ?_; clear hK K) | (with_reducible refine andI ?_))
    refine AW.loopF (ι := Nat × List (Str) × List (Str)) [0, 1] (fun p => [(5, I p.2.1.length), (6, I p.1)]) (fun p => [(0, some (O.vec 9 1 (dv ((p.2.1 ++ (p.2.2 ++ xs.drop p.1)).map D.str))))]) 1 (fun p => p.1 ≤ xs.length ∧ p.2.1.length + p.2.2.length = p.1 ∧ 1 ≤ p.2.2.length ∧ p.2.1 ++ (xs.drop p.1).filter (fun x => !q x) = F) (fun p => xs.length - p.1) (k + 1, xs.take k, [x]) ⟨by simp only; omega, by simp; omega, by simp, hf0⟩ (Weak.aC hcx (by refine ⟨?_, ?_, ?_⟩ <;> simp [go_sem, gL, kL, renOf, V.obj, Nat.blt, Nat.ble, List.map_append, dv_push, ← hd, List.take_append_drop, Nat.min_eq_left (Nat.le_of_lt hkl)])) ?_; simp only [St.at_nil, St.at_cons, lk, Nat.reduceEqDiff, ↓reduceIte, Option.getD_some, Option.getD_none, List.cons_append, List.nil_append, List.append_nil]
    rintro ⟨j, A, G⟩ ⟨g1, g2, g3, g4⟩
    simp only at g1 g2 g3 g4 ⊢
    have hlen : (A ++ (G ++ xs.drop j)).length = xs.length := by simp; omega
    by_cases hj : j < xs.length
    · obtain ⟨z, hz, hzm, hzd⟩ := get_some hj
      obtain ⟨g0, G, rfl⟩ : ∃ g0 G', G = g0 :: G' := by
        cases G with
        | nil => simp at g3
        | cons a b => exact ⟨a, b, rfl⟩
      have e1 : (dv ((A ++ ((g0 :: G) ++ xs.drop j)).map D.str))[0 + j]? = some (.d (D.str z)) := by
        have : (A ++ ((g0 :: G) ++ xs.drop j))[j]? = some z := by
          rw [show A ++ ((g0 :: G) ++ xs.drop j) = (A ++ (g0 :: G)) ++ xs.drop j by simp, List.getElem?_append_right (by simp at g2 ⊢; omega), show j - (A ++ (g0 :: G)).length = 0 by simp at g2 ⊢; omega, hzd]
          rfl
        simp only [dv, Nat.zero_add, List.getElem?_map, this, Option.map_some]
      have e3 : (dv ((A ++ ((g0 :: G) ++ xs.drop j)).map D.str))[0 + A.length]? = some (.d (D.str g0)) := by
        have := get_mid A g0 (G ++ xs.drop j)
        simp only [dv, Nat.zero_add, List.getElem?_map, List.cons_append, this, Option.map_some]
      have hset : (dv ((A ++ ((g0 :: G) ++ xs.drop j)).map D.str)).set (0 + A.length) (.d (D.str z)) = dv (((A ++ [z]) ++ (G ++ xs.drop j)).map D.str) := by
        have := set_mid (dv (A.map D.str)) (V.d (D.str g0)) (dv ((G ++ xs.drop j).map D.str)) (V.d (D.str z))
        simpa [dv] using this
      simp only [List.cons_append] at e1 e3 hset hlen
      rw [hzd] at g4
      have hcz := hc z hzm
      cases hqz : q z with
      | true =>
        rw [hqz] at hcz
        rw [List.filter_cons_of_neg (by simp [hqz])] at g4
        repeat' (first | ((first | refine AW.sreg rfl fun K hK => ?_ | refine AW.reg rfl ?_ | refine run_call _ _ _ ((hcz).pure rfl rfl _ _) rfl rfl (dstOk_of rfl) rfl rfl rfl ?_); simp only [go_sem, ↓reduceIte, List.length_map, e1, List.cons_append]) | (refine AW.seq_k fun K hK => ?_) | (refine AW.block ?_) | (refine AW.skip ?_; simp only [Then, InBlock]) | (refine AW.cT ?_) | (refine AW.cF ?_) | (refine hK _ ?_; clear hK K) | (with_reducible refine andI ?_))
        exact ⟨(j + 1, A, g0 :: (G ++ [z])), ⟨hj, by simp at g2 ⊢; omega, by simp, g4⟩, by simp only; omega, (Weak.aC hcx (by refine ⟨?_, ?_, ?_⟩ <;> simp [go_sem, gL, kL, renOf, V.obj, Nat.blt, Nat.ble, List.map_append, dv_push, hzd]))⟩
      | false =>
        rw [hqz] at hcz
        rw [List.filter_cons_of_pos (by simp [hqz])] at g4
        repeat' (first | ((first | refine AW.sreg rfl fun K hK => ?_ | refine AW.reg rfl ?_ | refine run_call _ _ _ ((hcz).pure rfl rfl _ _) rfl rfl (dstOk_of rfl) rfl rfl rfl ?_); simp only [go_sem, ↓reduceIte, List.length_map, e1, e3, hset, List.cons_append]) | (refine AW.seq_k fun K hK => ?_) | (refine AW.block ?_) | (refine AW.skip ?_; simp only [Then, InBlock]) | (refine AW.cT ?_) | (refine hK _ ?_; clear hK K) | (with_reducible refine andI ?_))
        exact ⟨(j + 1, A ++ [z], G ++ [z]), ⟨hj, by simp at g2 ⊢; omega, by simp, by simpa using g4⟩, by simp only; omega, (Weak.aC hcx (by refine ⟨?_, ?_, ?_⟩ <;> simp [go_sem, gL, kL, renOf, V.obj, Nat.blt, Nat.ble, List.map_append, dv_push, hzd]))⟩
    · obtain rfl : j = xs.length := by omega
      simp only [List.drop_length, List.filter_nil, List.append_nil] at g4 hlen
      subst g4
      have hcl : (dv ((A ++ G).map D.str)).take (0 + A.length) ++ List.replicate (xs.length - A.length) (V.d (D.str [])) ++ (dv ((A ++ G).map D.str)).drop (0 + A.length + (xs.length - A.length)) = dv (A.map D.str ++ List.replicate (xs.length - A.length) (D.str [])) := by
        rw [List.drop_eq_nil_of_le (by simp [dv]; omega), List.append_nil]
        simp [dv]
      clear hf0 hF
      repeat' (first | (refine AW.sreg rfl fun K hK => ?_; simp only [go_sem, ↓reduceIte, List.length_map, List.drop_length, List.append_nil, hcl]) | (refine AW.seq_k fun K hK => ?_) | (refine AW.exit ?_; simp only [go_sem, ↓reduceIte]) | (refine AW.cF ?_) | (refine hK _ ?_; clear hK K) | (clear hK K; refine hK _ ?_; clear hK K) | (with_reducible refine andI ?_))
      exact AW.ret (Fin.one rfl (by simp [go_sem]) ⟨_, rfl, by simp [go_sem]⟩ rfl (by simp [go_sem]) rfl)

theorem simpleOf_any (s : Str) (hl : s.length ≤ 10000) (hw : (Lib.split (lowS s) [32]).length ≤ 1000) (h0 : 0 < (wdS s).length) (hj : (smS s).length ≤ 1000000) (hll : (lowS s).length ≤ 1000000) : Does Tryz.prog 26 [S s] [] (S (smS s)) [] := by
  have hsp := split_own (lowS s) 32 hll
  have hdl := deleteFuncP_St (Lib.split (lowS s) [32]) hw 90 (fun w => w == []) (fun x _ => wd1_any x)
  have hjn := join_any (wdS s) h0 (by have := List.length_filter_le (fun w : Str => !(w == [])) (Lib.split (lowS s) [32]); unfold wdS; omega) hj
  simp only [smS, wdS] at hjn ⊢
  refine Does.of_AW (n := 45) Tryz.func26 rfl rfl rfl fun cx hcx => ?_
  generalize hR : lowS s = R at *
  repeat' (first | (refine AW.sreg rfl fun K hK => ?_; simp only [go_sem, ↓reduceIte]) | (refine AW.seq_k fun K hK => ?_) | (refine AW.block ?_) | (refine hK _ ?_; clear hK K))
  refine AW.weak (Weak.nil 3 5 1 rfl) ?_
  refine AW.loopF (ι := Nat × Str) [0, 8] (fun p => [(3, .slr 192 0 p.2.length), (9, I p.1)]) (fun p => [(192, some (O.vec 5 1 (dv (p.2.map u8D))))]) 20 (fun p => p.1 ≤ s.length ∧ p.2 ++ lowS (s.drop p.1) = R ∧ p.2.length ≤ p.1) (fun p => s.length - p.1) (0, []) ⟨Nat.zero_le _, by simpa using hR, Nat.le_refl _⟩ (Weak.aC hcx (by refine ⟨?_, ?_, ?_⟩ <;> simp [go_sem, gL, kL, renOf, V.obj, Nat.blt, Nat.ble, List.map_append, dv_push])) ?_; simp only [St.at_nil, St.at_cons, lk, Nat.reduceEqDiff, ↓reduceIte, Option.getD_some, Option.getD_none, List.cons_append, List.nil_append, List.append_nil]
  rintro ⟨i, bs⟩ ⟨h1, h2, h3⟩
  dsimp only at h1 h2 h3 ⊢
  by_cases hi : i < s.length
  · obtain ⟨c, hc, hcm, hcd⟩ := get_some hi
    have hget : s[i]? = some c := hc
    rw [hcd, lowS] at h2
    have ht := take_u8 bs rfl
    have hcl := c.toNat_lt
    by_cases hcap : 65 ≤ c.toNat ∧ c.toNat ≤ 90
    · have e2 : (c + 32).toNat = c.toNat + 32 := by rw [UInt8.toNat_add]; simp; omega
      have hw : IntKind.u8.wrap ((c.toNat : Int) + 32) = ((c + 32 : UInt8).toNat : Int) := by
        rw [e2]
        have : IntKind.u8.wrap ((c.toNat : Int) + 32) = ((c.toNat : Int) + 32) % 256 := by simp [IntKind.wrap, IntKind.signed, IntKind.bits]
        omega
      have e : lowB c = [c + 32] := if_pos hcap
      rw [e] at h2
      generalize c + 32 = d at *
      repeat' (first | ((first | refine AW.sreg rfl fun K hK => ?_ | refine AW.reg rfl ?_); simp only [go_sem, ↓reduceIte, hget, ht, hw]) | (refine AW.seq_k fun K hK => ?_) | (refine AW.block ?_) | (refine AW.skip ?_; simp only [Then, InBlock]) | (refine AW.cT ?_) | (refine hK _ ?_; clear hK K) | (refine stepB_split (fun h => ?_) (fun h => ?_) <;> (have hb0 := h) <;> (try simp only [Bool.not_eq_true', Bool.not_eq_false'] at hb0) <;> (try simp only [decide_eq_true_eq, decide_eq_false_iff_not, Bool.not_eq_true', Bool.not_eq_false', Bool.not_eq_eq_eq_not, Bool.not_true, Bool.not_false, beq_iff_eq, bne_iff_ne, beq_eq_false_iff_ne, ne_eq, Bool.and_eq_true, Bool.or_eq_true, Bool.or_eq_false_iff] at h) <;> simp only [go_sem, ↓reduceIte, hb0, h, decide_true, decide_false, hget, ht, hw] <;> (try clear hb0)) | (with_reducible refine andI ?_) | (exfalso; omega))
      all_goals first | (exfalso; omega) | exact ⟨(i + 1, bs ++ [d]), ⟨hi, by simpa using h2, by simp only [List.length_append, List.length_cons, List.length_nil]; omega⟩, by simp only; omega, (Weak.aC hcx (by refine ⟨?_, ?_, ?_⟩ <;> simp [go_sem, gL, kL, renOf, V.obj, Nat.blt, Nat.ble, List.map_append, dv_push]))⟩ | trace_state
    · by_cases hp : c.toNat ≠ 46 ∧ c.toNat ≠ 44
      · have e : lowB c = [c] := by unfold lowB; rw [if_neg hcap, if_pos hp]
        rw [e] at h2
        obtain ⟨hp1, hp2⟩ := hp
        have b1 : ((c.toNat : Int) != 46) = true := by simp; omega
        have b2 : ((c.toNat : Int) != 44) = true := by simp; omega
        repeat' (first | ((first | refine AW.sreg rfl fun K hK => ?_ | refine AW.reg rfl ?_); simp only [go_sem, ↓reduceIte, hget, ht, b1, b2]) | (refine AW.seq_k fun K hK => ?_) | (refine AW.block ?_) | (refine AW.skip ?_; simp only [Then, InBlock]) | (refine AW.cT ?_) | (refine AW.cF ?_) | (refine hK _ ?_; clear hK K) | (refine stepB_split (fun h => ?_) (fun h => ?_) <;> (have hb0 := h) <;> (try simp only [Bool.not_eq_true', Bool.not_eq_false'] at hb0) <;> (try simp only [decide_eq_true_eq, decide_eq_false_iff_not, Bool.not_eq_true', Bool.not_eq_false', Bool.not_eq_eq_eq_not, Bool.not_true, Bool.not_false, beq_iff_eq, bne_iff_ne, beq_eq_false_iff_ne, ne_eq, Bool.and_eq_true, Bool.or_eq_true, Bool.or_eq_false_iff] at h) <;> simp only [go_sem, ↓reduceIte, hb0, h, decide_true, decide_false, hget, ht, b1, b2] <;> (try clear hb0)) | (with_reducible refine andI ?_))
        all_goals first | (exfalso; omega) | exact ⟨(i + 1, bs ++ [c]), ⟨hi, by simpa using h2, by simp only [List.length_append, List.length_cons, List.length_nil]; omega⟩, by simp only; omega, (Weak.aC hcx (by refine ⟨?_, ?_, ?_⟩ <;> simp [go_sem, gL, kL, renOf, V.obj, Nat.blt, Nat.ble, List.map_append, dv_push]))⟩ | trace_state
      · have e : lowB c = [] := by unfold lowB; rw [if_neg hcap, if_neg hp]
        rw [e] at h2
        by_cases hc4 : c.toNat = 46
        · have b1 : ((c.toNat : Int) != 46) = false := by simp; omega
          repeat' (first | ((first | refine AW.sreg rfl fun K hK => ?_ | refine AW.reg rfl ?_); simp only [go_sem, ↓reduceIte, hget, ht, b1]) | (refine AW.seq_k fun K hK => ?_) | (refine AW.block ?_) | (refine AW.skip ?_; simp only [Then, InBlock]) | (refine AW.cT ?_) | (refine AW.cF ?_) | (refine hK _ ?_; clear hK K) | (refine stepB_split (fun h => ?_) (fun h => ?_) <;> (have hb0 := h) <;> (try simp only [Bool.not_eq_true', Bool.not_eq_false'] at hb0) <;> (try simp only [decide_eq_true_eq, decide_eq_false_iff_not, Bool.not_eq_true', Bool.not_eq_false', Bool.not_eq_eq_eq_not, Bool.not_true, Bool.not_false, beq_iff_eq, bne_iff_ne, beq_eq_false_iff_ne, ne_eq, Bool.and_eq_true, Bool.or_eq_true, Bool.or_eq_false_iff] at h) <;> simp only [go_sem, ↓reduceIte, hb0, h, decide_true, decide_false, hget, ht, b1] <;> (try clear hb0)) | (with_reducible refine andI ?_) | (exfalso; omega))
          all_goals first | (exfalso; omega) | exact ⟨(i + 1, bs), ⟨hi, by simpa using h2, by simp only; omega⟩, by simp only; omega, (Weak.aC hcx (by refine ⟨?_, ?_, ?_⟩ <;> simp [go_sem, gL, kL, renOf, V.obj, Nat.blt, Nat.ble, List.map_append, dv_push]))⟩ | trace_state
        · have b1 : ((c.toNat : Int) != 46) = true := by simp; omega
          have b2 : ((c.toNat : Int) != 44) = false := by simp; omega
          repeat' (first | ((first | refine AW.sreg rfl fun K hK => ?_ | refine AW.reg rfl ?_); simp only [go_sem, ↓reduceIte, hget, ht, b1, b2]) | (refine AW.seq_k fun K hK => ?_) | (refine AW.block ?_) | (refine AW.skip ?_; simp only [Then, InBlock]) | (refine AW.cT ?_) | (refine AW.cF ?_) | (refine hK _ ?_; clear hK K) | (refine stepB_split (fun h => ?_) (fun h => ?_) <;> (have hb0 := h) <;> (try simp only [Bool.not_eq_true', Bool.not_eq_false'] at hb0) <;> (try simp only [decide_eq_true_eq, decide_eq_false_iff_not, Bool.not_eq_true', Bool.not_eq_false', Bool.not_eq_eq_eq_not, Bool.not_true, Bool.not_false, beq_iff_eq, bne_iff_ne, beq_eq_false_iff_ne, ne_eq, Bool.and_eq_true, Bool.or_eq_true, Bool.or_eq_false_iff] at h) <;> simp only [go_sem, ↓reduceIte, hb0, h, decide_true, decide_false, hget, ht, b1, b2] <;> (try clear hb0)) | (with_reducible refine andI ?_) | (exfalso; omega))
          all_goals first | (exfalso; omega) | exact ⟨(i + 1, bs), ⟨hi, by simpa using h2, by simp only; omega⟩, by simp only; omega, (Weak.aC hcx (by refine ⟨?_, ?_, ?_⟩ <;> simp [go_sem, gL, kL, renOf, V.obj, Nat.blt, Nat.ble, List.map_append, dv_push]))⟩ | trace_state
  · obtain rfl : i = s.length := by omega
    have ht := take_u8 bs rfl
    rw [List.drop_length, lowS, List.append_nil] at h2
    subst h2
    repeat' (first | ((first | refine AW.sreg rfl fun K hK => ?_ | refine run_call _ _ _ ((hsp).objA []) rfl rfl (dstOk_of rfl) rfl rfl rfl ?_ | refine run_call _ _ _ ((hdl).objA [_]) rfl rfl (dstOk_of rfl) rfl rfl rfl ?_ | refine run_call _ _ _ ((hjn).lend (by repeat' (first | exact frzL_nil | refine frzL_cons (by first | exact frz_d | exact frz_slrP rfl rfl (by first | (simp; done) | (simp; omega) | (simp [*]; done) | fail) | rfl) ?_)) rfl rfl rfl) rfl rfl (dstOk_of rfl) rfl rfl rfl ?_); simp only [go_sem, ↓reduceIte, List.length_map, Nat.zero_add, ht, strOf_u8, all_u8]) | (refine AW.seq_k fun K hK => ?_) | (refine AW.exit ?_; simp only [go_sem, ↓reduceIte]) | (refine AW.cF ?_) | (refine hK _ ?_; clear hK K) | (clear hK K; refine hK _ ?_; clear hK K))
    all_goals first | exact AW.ret (Fin.data rfl (by simp [go_sem]) rfl) | trace_state
end Go.AX

namespace Go.AX
open Go Go.Proofs Go.RowKit
section
variable {α β : Type} (f : α → β) (lt : β → β → Bool)
theorem insP_map : ∀ (pr : List α) (x : α) (q : List α), (insP (fun a b => lt (f a) (f b)) pr x q).map f = insP lt (pr.map f) (f x) (q.map f)
  | [], x, q => by simp [insP]
  | y :: pr, x, q => by
    simp only [insP, List.map_cons]
    split
    · rw [insP_map pr x (y :: q)]; rfl
    · simp
theorem isGo_map : ∀ (r d : List α), (isGo (fun a b => lt (f a) (f b)) d r).map f = isGo lt (d.map f) (r.map f)
  | [], d => rfl
  | x :: r, d => by
    simp only [isGo, List.map_cons]
    rw [isGo_map r, insP_map]
    simp
theorem isort_map (xs : List α) : (isort (fun a b => lt (f a) (f b)) xs).map f = isort lt (xs.map f) := by
  unfold isort
  rw [isGo_map, List.map_take, List.map_drop]
end
theorem exists_sub {α : Type} {p : α → Prop} (xs : List α) (h : ∀ x ∈ xs, p x) : ∃ ys : List {x // p x}, ys.map (·.1) = xs ∧ ys.length = xs.length :=
  ⟨xs.pmap Subtype.mk h, by simp [List.map_pmap], by simp⟩
theorem signR (n : Int) : Does Tryz.prog 98 [I n] [] (I (cmpZ n 0)) [] := by
  unfold cmpZ
  refine Does.of_AW (n := 9) Tryz.func98 rfl rfl rfl fun cx hcx => ?_
  by_cases h1 : n < 0
  · repeat' (first | (refine AW.sreg rfl fun K hK => ?_; simp only [go_sem, ↓reduceIte, h1]) | (refine AW.seq_k fun K hK => ?_) | (refine AW.block ?_) | (refine AW.cT ?_) | (refine hK _ ?_; clear hK K))
    all_goals exact AW.ret (Fin.data rfl (by simp [go_sem, h1]) rfl)
  · by_cases h2 : 0 < n
    · repeat' (first | (refine AW.sreg rfl fun K hK => ?_; simp only [go_sem, ↓reduceIte, h1, h2]) | (refine AW.seq_k fun K hK => ?_) | (refine AW.block ?_) | (refine AW.cT ?_) | (refine AW.cF ?_) | (refine hK _ ?_; clear hK K))
      all_goals exact AW.ret (Fin.data rfl (by simp [go_sem, h1, h2]) rfl)
    · repeat' (first | (refine AW.sreg rfl fun K hK => ?_; simp only [go_sem, ↓reduceIte, h1, h2]) | (refine AW.seq_k fun K hK => ?_) | (refine AW.block ?_) | (refine AW.skip ?_; simp only [Then, InBlock]) | (refine AW.cF ?_) | (refine hK _ ?_; clear hK K))
      all_goals exact AW.ret (Fin.data rfl (by simp [go_sem, h1, h2]) rfl)
abbrev hmB (h : Hm) : Prop := -1000000 ≤ h.2.1 ∧ h.2.1 ≤ 1000000 ∧ -1000000 ≤ h.2.2 ∧ h.2.2 ≤ 1000000
abbrev HmS := {h : Hm // hmB h}
abbrev hmS (h : HmS) : D := hmD h.1
theorem homeOrder_any (a b : HmS) : Does Tryz.prog 85 [.d (hmS a), .d (hmS b)] [] (I (cpH a.1 b.1)) [] := by
  obtain ⟨⟨ap, af, at_⟩, ha⟩ := a
  obtain ⟨⟨bp, bf, bt⟩, hb⟩ := b
  simp only [hmB] at ha hb
  have hs : ∀ x y : Int, cmpZ (x - y) 0 = cmpZ x y := fun x y => by unfold cmpZ; (repeat' split) <;> first | rfl | omega
  have s1 := signR (af - bf)
  have s2 := signR (at_ - bt)
  rw [hs] at s1 s2
  simp only [hmS]
  rw [cpH_lex]
  by_cases e1 : af = bf
  · subst e1
    have z1 : cmpZ af af = 0 := (cp_int.eq _ _).2 rfl
    by_cases e2 : ap = bp
    · subst e2
      have z2 : Lib.compareBytes ap ap = 0 := (cp_str.eq _ _).2 rfl
      have e : lexC cmpZ (lexC Lib.compareBytes cmpZ) (af, ap, at_) (af, ap, bt) = cmpZ at_ bt := by simp [lexC, z1, z2]
      rw [e]
      generalize cmpZ at_ bt = v at *
      refine Does.of_AW (n := 34) Tryz.func85 rfl rfl rfl fun cx hcx => ?_
      repeat' (first | ((first | refine AW.sreg rfl fun K hK => ?_ | refine run_call _ _ _ ((s2).pure rfl rfl _ _) rfl rfl (dstOk_of rfl) rfl rfl rfl ?_); simp only [go_sem, ↓reduceIte, bne_self_eq_false, beq_self_eq_true]) | (refine AW.seq_k fun K hK => ?_) | (refine AW.block ?_) | (refine AW.skip ?_; simp only [Then, InBlock]) | (refine AW.cF ?_) | (refine hK _ ?_; clear hK K) | (with_reducible refine andI ?_))
      all_goals first | exact AW.ret (Fin.data rfl (by simp [go_sem]) rfl) | trace_state
    · have z2 : Lib.compareBytes ap bp ≠ 0 := fun h => e2 ((cp_str.eq _ _).1 h)
      have e : lexC cmpZ (lexC Lib.compareBytes cmpZ) (af, ap, at_) (af, bp, bt) = Lib.compareBytes ap bp := by simp [lexC, z1, z2]
      rw [e]
      have hc := compareStr_any ap bp
      have e3 : (ap == bp) = false := by simp [e2]
      generalize Lib.compareBytes ap bp = v at *
      refine Does.of_AW (n := 34) Tryz.func85 rfl rfl rfl fun cx hcx => ?_
      repeat' (first | ((first | refine AW.sreg rfl fun K hK => ?_ | refine run_call _ _ _ ((hc).pure rfl rfl _ _) rfl rfl (dstOk_of rfl) rfl rfl rfl ?_); simp only [go_sem, ↓reduceIte, bne_self_eq_false, beq_self_eq_true, e3]) | (refine AW.seq_k fun K hK => ?_) | (refine AW.block ?_) | (refine AW.cT ?_) | (refine AW.cF ?_) | (refine hK _ ?_; clear hK K))
      all_goals first | exact AW.ret (Fin.data rfl (by simp [go_sem]) rfl) | trace_state
  · have z1 : cmpZ af bf ≠ 0 := fun h => e1 ((cp_int.eq _ _).1 h)
    have e : lexC cmpZ (lexC Lib.compareBytes cmpZ) (af, ap, at_) (bf, bp, bt) = cmpZ af bf := by simp [lexC, z1]
    rw [e]
    have e3 : (af != bf) = true := by simp [e1]
    generalize cmpZ af bf = v at *
    refine Does.of_AW (n := 34) Tryz.func85 rfl rfl rfl fun cx hcx => ?_
    repeat' (first | ((first | refine AW.sreg rfl fun K hK => ?_ | refine run_call _ _ _ ((s1).pure rfl rfl _ _) rfl rfl (dstOk_of rfl) rfl rfl rfl ?_); simp only [go_sem, ↓reduceIte, e3]) | (refine AW.seq_k fun K hK => ?_) | (refine AW.block ?_) | (refine AW.cT ?_) | (refine hK _ ?_; clear hK K) | (with_reducible refine andI ?_))
    all_goals first | exact AW.ret (Fin.data rfl (by simp [go_sem]) rfl) | trace_state
theorem insertionSort_Hm (lt : HmS → HmS → Bool) (cv : HmS → HmS → Int) (hlt : ∀ x y, lt x y = decide (cv x y < 0)) (c : Nat) (hc : ∀ x y, Does Tryz.prog c [.d (hmS x), .d (hmS y)] [] (I (cv x y)) []) (xs : List HmS) (hl : xs.length ≤ 1000) :
    Does Tryz.prog 204 [.slr 0 0 xs.length, I 0, I xs.length, .fn c []] [.vec 98 3 (dv (xs.map hmS))] (.tup []) [.vec 98 3 (dv ((isort lt xs).map hmS))] := by
  refine Does.of_AW (n := 53) Tryz.func204 rfl rfl rfl fun cx hcx => ?_
  generalize hR : isort lt xs = R
  repeat' (first | (refine AW.sreg rfl fun K hK => ?_; simp only [go_sem, ↓reduceIte, List.length_map]) | (refine AW.block ?_) | (refine hK _ ?_; clear hK K) | (with_reducible refine andI ?_))
  refine AW.loopF (ι := Nat × List HmS × List HmS) [0, 1, 2, 3] (fun p => [(8, I p.1)]) (fun p => [(0, some (O.vec 98 3 (dv ((p.2.1 ++ p.2.2).map hmS))))]) 1 (fun p => 1 ≤ p.1 ∧ p.2.1.length + p.2.2.length = xs.length ∧ (p.2.1.length = p.1 ∨ xs.length = 0) ∧ isGo lt p.2.1 p.2.2 = R) (fun p => xs.length - p.1) (1, xs.take 1, xs.drop 1) ⟨by simp, by simp only [List.length_take, List.length_drop]; omega, by simp only [List.length_take]; omega, hR⟩ (Weak.aC hcx (by refine ⟨?_, ?_, ?_⟩ <;> simp [go_sem, gL, kL, renOf, V.obj, Nat.blt, Nat.ble, List.map_append, dv_push, take1_tail])) ?_; simp only [St.at_nil, St.at_cons, lk, Nat.reduceEqDiff, ↓reduceIte, Option.getD_some, Option.getD_none, List.cons_append, List.nil_append, List.append_nil]
  rintro ⟨i, d, r⟩ ⟨h1, h2, h3, h4⟩
  simp only at h1 h2 h3 h4 ⊢
  by_cases hi : i < xs.length
  · obtain ⟨x, r, rfl⟩ : ∃ x r', r = x :: r' := by
      cases r with
      | nil => simp at h2; omega
      | cons x r' => exact ⟨x, r', rfl⟩
    obtain rfl : i = d.length := by omega
    simp only [isGo] at h4
    repeat' (first | (refine AW.sreg rfl fun K hK => ?_; simp only [go_sem, ↓reduceIte, List.length_map]) | (refine AW.seq_k fun K hK => ?_) | (refine AW.block ?_) | (refine AW.skip ?_; simp only [Then, InBlock]) | (refine AW.cT ?_) | (refine hK _ ?_; clear hK K))
    generalize hR2 : insP lt d.reverse x [] = R2 at h4
    refine AW.loopF (ι := List HmS × List HmS) [0, 1, 2, 3, 8] (fun p => [(9, I p.1.length)]) (fun p => [(0, some (O.vec 98 3 (dv ((p.1.reverse ++ x :: (p.2 ++ r)).map hmS))))]) 1 (fun p => p.1.length + p.2.length = d.length ∧ insP lt p.1 x p.2 = R2) (fun p => p.1.length) (d.reverse, []) ⟨by simp, hR2⟩ (Weak.aC hcx (by refine ⟨?_, ?_, ?_⟩ <;> simp [go_sem, gL, kL, renOf, V.obj, Nat.blt, Nat.ble, List.map_append, dv_push])) ?_; simp only [St.at_nil, St.at_cons, lk, Nat.reduceEqDiff, ↓reduceIte, Option.getD_some, Option.getD_none, List.cons_append, List.nil_append, List.append_nil]
    rintro ⟨pr, q⟩ ⟨g1, g2⟩
    simp only at g1 g2 ⊢
    rcases pr with _ | ⟨y, pr⟩
    · simp only [insP] at g2
      subst g2
      simp only [List.length_cons, List.length_nil] at g1 h2
      repeat' (first | ((first | refine AW.sregD hmix rfl fun K hK => ?_ | refine AW.reg rfl ?_); simp only [go_sem, ↓reduceIte, List.length_map]) | (refine AW.seq_k fun K hK => ?_) | (refine AW.exit ?_; simp only [go_sem, ↓reduceIte]) | (refine AW.cF ?_) | (refine hK _ ?_; clear hK K) | (clear hK K; refine hK _ ?_; clear hK K) | (refine stepBT_split (fun h => ?_) (fun h => ?_) <;> (have hb0 := h) <;> (try simp only [Bool.not_eq_true', Bool.not_eq_false'] at hb0) <;> (try simp only [decide_eq_true_eq, decide_eq_false_iff_not, Bool.not_eq_true', Bool.not_eq_false', Bool.not_eq_eq_eq_not, Bool.not_true, Bool.not_false, beq_iff_eq, bne_iff_ne, beq_eq_false_iff_ne, ne_eq, Bool.and_eq_true, Bool.or_eq_true, Bool.or_eq_false_iff] at h) <;> simp only [go_sem, ↓reduceIte, hb0, h, decide_true, decide_false, List.length_map] <;> (try clear hb0)) | (with_reducible refine And.intro (?_ : regOk _ _ = true) ?_; kernel_rfl) | (with_reducible refine andI ?_) | (exfalso; omega))
      exact ⟨(d.length + 1, x :: q, r), ⟨by simp only; omega, by simp only [List.length_cons]; omega, .inl (by simp only [List.length_cons]; omega), h4⟩, by simp only; omega, (Weak.aC hcx (by refine ⟨?_, ?_, ?_⟩ <;> simp [go_sem, gL, kL, renOf, V.obj, Nat.blt, Nat.ble, List.map_append, dv_push]))⟩
    · have e1 : (dv ((List.reverse (y :: pr) ++ x :: (q ++ r)).map hmS))[0 + (pr.length + 1)]? = some (.d (hmS x)) := by
        have := get_mid (List.reverse (y :: pr)) x (q ++ r)
        simp only [List.length_reverse, List.length_cons] at this
        simp only [dv, Nat.zero_add, List.getElem?_map, this, Option.map_some]
      have e2 : (dv ((List.reverse (y :: pr) ++ x :: (q ++ r)).map hmS))[0 + pr.length]? = some (.d (hmS y)) := by
        have := get_mid (List.reverse pr) y (x :: (q ++ r))
        simp only [List.length_reverse] at this
        simp only [dv, Nat.zero_add, List.getElem?_map, List.reverse_cons, List.append_assoc, List.cons_append, List.nil_append, this, Option.map_some]
      have e3 : (((pr.length + 1 : Nat) : Int) - 1).toNat = pr.length := by omega
      simp only [List.length_cons] at g1 h2
      simp only [insP, hlt] at g2
      have e4 : (((dv ((List.reverse (y :: pr) ++ x :: (q ++ r)).map hmS)).set (0 + (pr.length + 1)) (.d (hmS y))).set (0 + pr.length) (.d (hmS x))) = dv ((pr.reverse ++ x :: ((y :: q) ++ r)).map hmS) := by
        have := swap_mid (dv (pr.reverse.map hmS)) (V.d (hmS x)) (V.d (hmS y)) (dv ((q ++ r).map hmS))
        simp only [dv, List.length_map, List.length_reverse, List.map_append, List.map_cons, List.reverse_cons, List.append_assoc, List.cons_append, List.nil_append, List.map_nil] at this ⊢
        exact this
      have e5 : ((dv ((List.reverse (y :: pr) ++ x :: (q ++ r)).map hmS)).set (0 + (pr.length + 1)) (.d (hmS y)))[0 + pr.length]? = some (.d (hmS y)) := by
        rw [List.getElem?_set_ne (by omega)]
        exact e2
      repeat' (first | ((first | refine AW.sregD hmix rfl fun K hK => ?_ | refine AW.reg rfl ?_ | refine AW.regD hmix rfl ?_ | refine runT_call _ _ [] (fun hv _ => (hc x y).pure rfl rfl hv _) rfl rfl (dstOk_of rfl) rfl rfl ?_); simp only [go_sem, ↓reduceIte, List.length_map, e1, e2, e3, e4, e5, List.length_cons, or_self, true_or, or_true]) | (refine AW.seq_k fun K hK => ?_) | (refine AW.block ?_) | (refine AW.skip ?_; simp only [Then, InBlock]) | (refine AW.exit ?_; simp only [go_sem, ↓reduceIte]) | (refine AW.cT ?_) | (refine AW.cond rfl (fun h => ?_) (fun h => ?_) <;> (try simp only [decide_eq_true_eq, decide_eq_false_iff_not, Bool.not_eq_true', Bool.not_eq_false', Bool.not_eq_eq_eq_not, Bool.not_true, Bool.not_false, beq_iff_eq, bne_iff_ne, beq_eq_false_iff_ne, ne_eq, Bool.and_eq_true, Bool.or_eq_true, Bool.or_eq_false_iff] at h)) | (refine hK _ ?_; clear hK K) | (clear hK K; refine hK _ ?_; clear hK K) | (refine stepBT_split (fun h => ?_) (fun h => ?_) <;> (have hb0 := h) <;> (try simp only [Bool.not_eq_true', Bool.not_eq_false'] at hb0) <;> (try simp only [decide_eq_true_eq, decide_eq_false_iff_not, Bool.not_eq_true', Bool.not_eq_false', Bool.not_eq_eq_eq_not, Bool.not_true, Bool.not_false, beq_iff_eq, bne_iff_ne, beq_eq_false_iff_ne, ne_eq, Bool.and_eq_true, Bool.or_eq_true, Bool.or_eq_false_iff] at h) <;> simp only [go_sem, ↓reduceIte, hb0, h, decide_true, decide_false, List.length_map, e1, e2, e3, e4, e5, List.length_cons, or_self, true_or, or_true] <;> (try clear hb0)) | (with_reducible refine And.intro (?_ : regOk _ _ = true) ?_; kernel_rfl) | (with_reducible refine andI ?_) | (exfalso; omega))
      · rw [if_pos (by simpa using h)] at g2
        exact ⟨(pr, y :: q), ⟨by simp only [List.length_cons]; omega, g2⟩, by simp only [List.length_cons]; omega, (Weak.aC hcx (by refine ⟨?_, ?_, ?_⟩ <;> simp [go_sem, gL, kL, renOf, V.obj, Nat.blt, Nat.ble, List.map_append, dv_push]))⟩
      · rw [if_neg (by simpa using h)] at g2
        subst g2
        exact ⟨(d.length + 1, (y :: pr).reverse ++ x :: q, r), ⟨by simp only; omega, by simp only [List.length_append, List.length_reverse, List.length_cons]; omega, .inl (by simp only [List.length_append, List.length_reverse, List.length_cons]; omega), h4⟩, by simp only; omega, (Weak.aC hcx (by refine ⟨?_, ?_, ?_⟩ <;> simp [go_sem, gL, kL, renOf, V.obj, Nat.blt, Nat.ble, List.map_append, dv_push]))⟩
  · have hr : r = [] := by
      cases r with
      | nil => rfl
      | cons x r => simp only [List.length_cons] at h2; omega
    subst hr
    simp only [isGo] at h4
    subst h4
    repeat' (first | (refine AW.sreg rfl fun K hK => ?_; simp only [go_sem, ↓reduceIte, List.length_map, List.append_nil]) | (refine AW.seq_k fun K hK => ?_) | (refine AW.exit ?_; simp only [go_sem, ↓reduceIte]) | (refine AW.cF ?_) | (refine hK _ ?_; clear hK K))
    exact Fin.one rfl rfl ⟨_, rfl, by simp [go_sem]⟩ rfl (by simp [go_sem]) rfl
theorem pdqsort_Hm (lt : HmS → HmS → Bool) (cv : HmS → HmS → Int) (hlt : ∀ x y, lt x y = decide (cv x y < 0)) (c : Nat) (hc : ∀ x y, Does Tryz.prog c [.d (hmS x), .d (hmS y)] [] (I (cv x y)) []) (xs : List HmS) (hl : xs.length ≤ 12) (m : Int) :
    Does Tryz.prog 147 [.slr 0 0 xs.length, I 0, I xs.length, I m, .fn c []] [.vec 98 3 (dv (xs.map hmS))] (.tup []) [.vec 98 3 (dv ((isort lt xs).map hmS))] := by
  refine Does.of_AW (n := 148) Tryz.func147 rfl rfl rfl fun cx hcx => ?_
  repeat' (first | (refine AW.sreg rfl fun K hK => ?_; simp only [go_sem, ↓reduceIte, List.length_map]) | (refine AW.block ?_) | (refine hK _ ?_; clear hK K))
  refine AW.loopF (ι := Unit) [0, 4] (fun p => [(1, I 0), (2, I xs.length), (3, I m), (10, B true), (11, B true)]) (fun p => [(0, some (O.vec 98 3 (dv (xs.map hmS))))]) 1 (fun p => True) (fun p => 0) () trivial (Weak.aC hcx (by refine ⟨?_, ?_, ?_⟩ <;> simp [go_sem, gL, kL, renOf, V.obj, Nat.blt, Nat.ble, List.map_append, dv_push])) ?_; simp only [St.at_nil, St.at_cons, lk, Nat.reduceEqDiff, ↓reduceIte, Option.getD_some, Option.getD_none, List.cons_append, List.nil_append, List.append_nil]
  rintro ⟨⟩ _
  repeat' (first | ((first | refine AW.sreg rfl fun K hK => ?_ | refine run_call _ _ _ ((insertionSort_Hm lt cv hlt c hc xs (by omega)).objA [0]) rfl rfl (dstOk_of rfl) rfl rfl rfl ?_); simp only [go_sem, ↓reduceIte, List.length_map, Int.sub_zero]) | (refine AW.seq_k fun K hK => ?_) | (refine AW.block ?_) | (refine AW.cT ?_) | (refine hK _ ?_; clear hK K) | (with_reducible refine andI ?_))
  exact AW.ret (Fin.one rfl rfl ⟨_, rfl, by simp [go_sem]⟩ rfl (by simp [go_sem]) rfl)
theorem sortFunc_Hm (lt : HmS → HmS → Bool) (cv : HmS → HmS → Int) (hlt : ∀ x y, lt x y = decide (cv x y < 0)) (c : Nat) (hc : ∀ x y, Does Tryz.prog c [.d (hmS x), .d (hmS y)] [] (I (cv x y)) []) (xs : List HmS) (hl : xs.length ≤ 12) :
    Does Tryz.prog 84 [.slr 0 0 xs.length, .fn c []] [.vec 98 3 (dv (xs.map hmS))] (.tup []) [.vec 98 3 (dv ((isort lt xs).map hmS))] := by
  refine Does.of_AW (n := 14) Tryz.func84 rfl rfl rfl fun cx hcx => ?_
  have hw := wrap_small xs.length (by omega)
  repeat' (first | ((first | refine AW.sreg rfl fun K hK => ?_ | refine AW.reg rfl ?_ | refine run_call _ _ _ ((len_ok xs.length hl).pure rfl rfl _ _) rfl rfl (dstOk_of rfl) rfl rfl rfl ?_ | refine run_call _ _ _ ((pdqsort_Hm lt cv hlt c hc xs hl _).objA [0]) rfl rfl (dstOk_of rfl) rfl rfl rfl ?_); simp only [go_sem, ↓reduceIte, List.length_map, hw]) | (refine hK _ ?_; clear hK K))
  exact Fin.one rfl rfl ⟨_, rfl, by simp [go_sem]⟩ rfl (by simp [go_sem]) rfl

theorem compact_Hm (xs : List (Hm)) (hl : xs.length ≤ 1000) :
    Does Tryz.prog 86 [.slr 0 0 xs.length] [.vec 98 3 (dv (xs.map hmD))] (.slr 0 0 (compactM xs).length) [.vec 98 3 (dv ((compactM xs).map hmD ++ List.replicate (xs.length - (compactM xs).length) (hmD ([], 0, 0))))] := by
  cases xs with
  | nil =>
    refine Does.of_AW (n := 61) Tryz.func86 rfl rfl rfl fun cx hcx => ?_
    repeat' (first | (refine AW.sreg rfl fun K hK => ?_; simp only [go_sem, ↓reduceIte]) | (refine AW.seq_k fun K hK => ?_) | (refine AW.cT ?_) | (refine hK _ ?_; clear hK K))
    exact AW.ret (Fin.one rfl (by simp [go_sem, compactM]) ⟨_, rfl, by simp [go_sem, compactM]⟩ rfl (by simp [go_sem]) rfl)
  | cons x0 r0 =>
  generalize hxs : x0 :: r0 = xs at *
  refine Does.of_AW (n := 61) Tryz.func86 rfl rfl rfl fun cx hcx => ?_
  repeat' (first | (refine AW.sreg rfl fun K hK => ?_; simp only [go_sem, ↓reduceIte, List.length_map]) | (refine AW.seq_k fun K hK => ?_) | (refine AW.block ?_) | (refine AW.skip ?_; simp only [Then, InBlock]) | (refine AW.cond rfl (fun h => ?_) (fun h => ?_) <;> (try simp only [decide_eq_true_eq, decide_eq_false_iff_not, Bool.not_eq_true', Bool.not_eq_false', Bool.not_eq_eq_eq_not, Bool.not_true, Bool.not_false, beq_iff_eq, bne_iff_ne, beq_eq_false_iff_ne, ne_eq, Bool.and_eq_true, Bool.or_eq_true, Bool.or_eq_false_iff] at h)) | (refine hK _ ?_; clear hK K))
  · have : r0 = [] := by
      rw [← hxs] at h; cases r0 with
      | nil => rfl
      | cons => simp at h; omega
    subst this
    subst hxs
    exact AW.ret (Fin.one rfl (by simp [go_sem, compactM, ctM]) ⟨_, rfl, by simp [go_sem, compactM, ctM]⟩ rfl (by simp [go_sem]) rfl)
  refine AW.loopF (ι := Nat) [0] (fun p => [(3, I p)]) (fun p => [(0, some (O.vec 98 3 (dv (xs.map hmD))))]) 1 (fun p => 1 ≤ p ∧ p ≤ xs.length ∧ ∀ y, xs[p - 1]? = some y → xs.take p ++ ctM y (xs.drop p) = compactM xs) (fun p => xs.length - p) 1 ⟨by simp, by omega, by rw [← hxs]; intro y hy; simp at hy; subst hy; simp [compactM]⟩ (Weak.aC hcx (by refine ⟨?_, ?_, ?_⟩ <;> simp [go_sem, gL, kL, renOf, V.obj, Nat.blt, Nat.ble, List.map_append, dv_push])) ?_; simp only [St.at_nil, St.at_cons, lk, Nat.reduceEqDiff, ↓reduceIte, Option.getD_some, Option.getD_none, List.cons_append, List.nil_append, List.append_nil]
  rintro k ⟨h1, h2, h3⟩
  by_cases hi : k < xs.length
  · obtain ⟨x, hx, hxm, hxd⟩ := get_some hi
    obtain ⟨y, hy, hym, hyd⟩ := get_some (show k - 1 < xs.length by omega)
    have hget : (dv (xs.map hmD))[0 + k]? = some (.d (hmD x)) := by simp only [dv, Nat.zero_add, List.getElem?_map, hx, Option.map_some]
    have hget2 : (dv (xs.map hmD))[0 + ((k : Int) - 1).toNat]? = some (.d (hmD y)) := by
      rw [show ((k : Int) - 1).toNat = k - 1 by omega]
      simp only [dv, Nat.zero_add, List.getElem?_map, hy, Option.map_some]
    have h3 := h3 y hy
    rw [hxd, ctM] at h3
    have heq : ((fun (x y : Hm) => x.1 == y.1 && (x.2.1 == y.2.1 && x.2.2 == y.2.2)) x y) = (x == y) := rfl
    dsimp only at heq
    cases hb : (x == y) with
    | false =>
      rw [hb] at heq h3
      simp only [Bool.false_eq_true, if_false] at h3
      repeat' (first | ((first | refine AW.sreg rfl fun K hK => ?_ | refine AW.sregD hmix rfl fun K hK => ?_ | refine AW.reg rfl ?_); simp only [go_sem, ↓reduceIte, List.length_map, hget, hget2, heq]) | (refine AW.seq_k fun K hK => ?_) | (refine AW.block ?_) | (refine AW.skip ?_; simp only [Then, InBlock]) | (refine AW.cT ?_) | (refine AW.cF ?_) | (refine hK _ ?_; clear hK K) | (with_reducible refine And.intro (?_ : regOk _ _ = true) ?_; kernel_rfl) | (with_reducible refine andI ?_))
      refine ⟨k + 1, ⟨by omega, hi, fun z hz => ?_⟩, by omega, (Weak.aC hcx (by refine ⟨?_, ?_, ?_⟩ <;> simp [go_sem, gL, kL, renOf, V.obj, Nat.blt, Nat.ble, List.map_append, dv_push]))⟩
      rw [Nat.add_sub_cancel, hx] at hz
      cases hz
      rw [← h3, List.take_add_one, hx]
      simp
    | true =>
      rw [hb] at heq h3
      simp only [if_true] at h3
      obtain rfl : x = y := by simpa using hb
      repeat' (first | ((first | refine AW.sreg rfl fun K hK => ?_ | refine AW.sregD hmix rfl fun K hK => ?_); simp only [go_sem, ↓reduceIte, List.length_map, hget, hget2, heq]) | (refine AW.seq_k fun K hK => ?_) | (refine AW.block ?_) | (refine AW.skip ?_; simp only [Then, InBlock]) | (refine AW.cT ?_) | (refine hK _ ?_; clear hK K) | (with_reducible refine And.intro (?_ : regOk _ _ = true) ?_; kernel_rfl) | (with_reducible refine andI ?_))
      refine AW.loopF (ι := Nat × List (Hm) × List (Hm) × Hm) [0, 4] (fun p => [(3, I p.2.1.length), (5, I p.1)]) (fun p => [(0, some (O.vec 98 3 (dv ((p.2.1 ++ (p.2.2.1 ++ p.2.2.2 :: xs.drop (k + p.1))).map hmD))))]) 1 (fun p => 1 ≤ p.1 ∧ k + p.1 ≤ xs.length ∧ p.2.1.length + p.2.2.1.length + 1 = k + p.1 ∧ p.2.1 ++ ctM p.2.2.2 (xs.drop (k + p.1)) = compactM xs) (fun p => xs.length - p.1) (1, xs.take k, [], x) ⟨by simp, by simp only; omega, by simp; omega, h3⟩ (Weak.aC hcx (by refine ⟨?_, ?_, ?_⟩ <;> simp [go_sem, gL, kL, renOf, V.obj, Nat.blt, Nat.ble, List.map_append, dv_push, ← hxd, List.take_append_drop, Nat.min_eq_left (Nat.le_of_lt hi)])) ?_; simp only [St.at_nil, St.at_cons, lk, Nat.reduceEqDiff, ↓reduceIte, Option.getD_some, Option.getD_none, List.cons_append, List.nil_append, List.append_nil]
      rintro ⟨k2, A, G, y⟩ ⟨g1, g2, g3, g4⟩
      simp only at g1 g2 g3 g4 ⊢
      by_cases hj : k + k2 < xs.length
      · obtain ⟨z, hz, hzm, hzd⟩ := get_some hj
        have e1 : (dv ((A ++ (G ++ y :: xs.drop (k + k2))).map hmD))[0 + k + k2]? = some (.d (hmD z)) := by
          have : (A ++ (G ++ y :: xs.drop (k + k2)))[k + k2]? = some z := by
            rw [show A ++ (G ++ y :: xs.drop (k + k2)) = (A ++ (G ++ [y])) ++ xs.drop (k + k2) by simp, List.getElem?_append_right (by simp; omega), show k + k2 - (A ++ (G ++ [y])).length = 0 by simp; omega, hzd]
            rfl
          simp only [dv, Nat.zero_add, List.getElem?_map, this, Option.map_some]
        have e2 : (dv ((A ++ (G ++ y :: xs.drop (k + k2))).map hmD))[0 + k + ((k2 : Int) - 1).toNat]? = some (.d (hmD y)) := by
          have : (A ++ (G ++ y :: xs.drop (k + k2)))[k + ((k2 : Int) - 1).toNat]? = some y := by
            rw [show A ++ (G ++ y :: xs.drop (k + k2)) = (A ++ G) ++ (y :: xs.drop (k + k2)) by simp, List.getElem?_append_right (by simp; omega), show k + ((k2 : Int) - 1).toNat - (A ++ G).length = 0 by simp; omega]
            rfl
          simp only [dv, Nat.zero_add, List.getElem?_map, this, Option.map_some]
        have hlen : (A ++ (G ++ y :: xs.drop (k + k2))).length = xs.length := by simp; omega
        have heq2 : ((fun (x y : Hm) => x.1 == y.1 && (x.2.1 == y.2.1 && x.2.2 == y.2.2)) z y) = (z == y) := rfl
        dsimp only at heq2
        rw [hzd, ctM] at g4
        cases hb2 : (z == y) with
        | true =>
          rw [hb2] at heq2 g4
          simp only [if_true] at g4
          obtain rfl : z = y := by simpa using hb2
          repeat' (first | ((first | refine AW.sreg rfl fun K hK => ?_ | refine AW.sregD hmix rfl fun K hK => ?_ | refine AW.reg rfl ?_); simp only [go_sem, ↓reduceIte, List.length_map, e1, e2, heq2]) | (refine AW.seq_k fun K hK => ?_) | (refine AW.block ?_) | (refine AW.skip ?_; simp only [Then, InBlock]) | (refine AW.cT ?_) | (refine AW.cF ?_) | (refine hK _ ?_; clear hK K) | (with_reducible refine And.intro (?_ : regOk _ _ = true) ?_; kernel_rfl) | (with_reducible refine andI ?_))
          refine ⟨(k2 + 1, A, G ++ [z], z), ⟨by simp only; omega, by simp only; omega, by simp; omega, by simpa [Nat.add_assoc] using g4⟩, by simp only; omega, (Weak.aC hcx (by refine ⟨?_, ?_, ?_⟩ <;> simp [go_sem, gL, kL, renOf, V.obj, Nat.blt, Nat.ble, List.map_append, dv_push, hzd, Nat.add_assoc]))⟩
        | false =>
          rw [hb2] at heq2 g4
          simp only [Bool.false_eq_true, if_false] at g4
          rcases G with _ | ⟨g0, G⟩
          · have hset : (dv ((A ++ ([] ++ y :: xs.drop (k + k2))).map hmD)).set (0 + A.length) (.d (hmD z)) = dv (((A ++ [z]) ++ xs.drop (k + k2)).map hmD) := by
              have := set_mid (dv (A.map hmD)) (V.d (hmD y)) (dv ((xs.drop (k + k2)).map hmD)) (V.d (hmD z))
              simpa [dv] using this
            simp only [List.nil_append, List.cons_append] at e1 e2 hset hlen
            have e3 : (dv ((A ++ y :: xs.drop (k + k2)).map hmD))[0 + A.length]? = some (.d (hmD y)) := by
              have := get_mid A y (xs.drop (k + k2))
              simp only [dv, Nat.zero_add, List.getElem?_map, this, Option.map_some]
            repeat' (first | ((first | refine AW.sreg rfl fun K hK => ?_ | refine AW.sregD hmix rfl fun K hK => ?_ | refine AW.reg rfl ?_); simp only [go_sem, ↓reduceIte, List.length_map, e1, e2, e3, heq2, hset]) | (refine AW.seq_k fun K hK => ?_) | (refine AW.block ?_) | (refine AW.skip ?_; simp only [Then, InBlock]) | (refine AW.cT ?_) | (refine hK _ ?_; clear hK K) | (with_reducible refine And.intro (?_ : regOk _ _ = true) ?_; kernel_rfl) | (with_reducible refine andI ?_))
            refine ⟨(k2 + 1, A ++ [z], [], z), ⟨by simp only; omega, by simp only; omega, by simp at g3 ⊢; omega, by simpa [Nat.add_assoc] using g4⟩, by simp only; omega, (Weak.aC hcx (by refine ⟨?_, ?_, ?_⟩ <;> simp [go_sem, gL, kL, renOf, V.obj, Nat.blt, Nat.ble, List.map_append, dv_push, hzd, Nat.add_assoc]))⟩
          · have hset : (dv ((A ++ ((g0 :: G) ++ y :: xs.drop (k + k2))).map hmD)).set (0 + A.length) (.d (hmD z)) = dv (((A ++ [z]) ++ (G ++ y :: xs.drop (k + k2))).map hmD) := by
              have := set_mid (dv (A.map hmD)) (V.d (hmD g0)) (dv ((G ++ y :: xs.drop (k + k2)).map hmD)) (V.d (hmD z))
              simpa [dv] using this
            simp only [List.nil_append, List.cons_append] at e1 e2 hset hlen
            have e3 : (dv ((A ++ g0 :: (G ++ y :: xs.drop (k + k2))).map hmD))[0 + A.length]? = some (.d (hmD g0)) := by
              have := get_mid A g0 (G ++ y :: xs.drop (k + k2))
              simp only [dv, Nat.zero_add, List.getElem?_map, this, Option.map_some]
            repeat' (first | ((first | refine AW.sreg rfl fun K hK => ?_ | refine AW.sregD hmix rfl fun K hK => ?_ | refine AW.reg rfl ?_); simp only [go_sem, ↓reduceIte, List.length_map, e1, e2, e3, heq2, hset]) | (refine AW.seq_k fun K hK => ?_) | (refine AW.block ?_) | (refine AW.skip ?_; simp only [Then, InBlock]) | (refine AW.cT ?_) | (refine hK _ ?_; clear hK K) | (with_reducible refine And.intro (?_ : regOk _ _ = true) ?_; kernel_rfl) | (with_reducible refine andI ?_))
            refine ⟨(k2 + 1, A ++ [z], G ++ [y], z), ⟨by simp only; omega, by simp only; omega, by simp at g3 ⊢; omega, by simpa [Nat.add_assoc] using g4⟩, by simp only; omega, (Weak.aC hcx (by refine ⟨?_, ?_, ?_⟩ <;> simp [go_sem, gL, kL, renOf, V.obj, Nat.blt, Nat.ble, List.map_append, dv_push, hzd, Nat.add_assoc]))⟩
      · have hn : k + k2 = xs.length := by omega
        rw [hn, List.drop_length, ctM, List.append_nil] at g4
        subst g4
        have hcl : (dv ((compactM xs ++ (G ++ [y])).map hmD)).take (0 + (compactM xs).length) ++ List.replicate (xs.length - (compactM xs).length) (V.d (hmD ([], 0, 0))) ++ (dv ((compactM xs ++ (G ++ [y])).map hmD)).drop (0 + (compactM xs).length + (xs.length - (compactM xs).length)) = dv ((compactM xs).map hmD ++ List.replicate (xs.length - (compactM xs).length) (hmD ([], 0, 0))) := by
          rw [List.drop_eq_nil_of_le (by simp [dv]; omega), List.append_nil]
          simp [dv]
        repeat' (first | (refine AW.sreg rfl fun K hK => ?_; simp only [go_sem, ↓reduceIte, List.length_map, hn, List.drop_length, hcl]) | (refine AW.seq_k fun K hK => ?_) | (refine AW.exit ?_; simp only [go_sem, ↓reduceIte]) | (refine AW.cF ?_) | (refine hK _ ?_; clear hK K) | (clear hK K; refine hK _ ?_; clear hK K) | (with_reducible refine andI ?_))
        exact AW.ret (Fin.one rfl (by simp [go_sem]) ⟨_, rfl, by simp [go_sem]⟩ rfl (by simp [go_sem]) rfl)
  · obtain rfl : k = xs.length := by omega
    obtain ⟨y, hy, -, -⟩ := get_some (show xs.length - 1 < xs.length by omega)
    replace h3 := h3 y hy
    simp only [List.take_length, List.drop_length, ctM, List.append_nil] at h3
    replace h3 := h3.symm
    clear hxs hy h1 h2
    repeat' (first | (refine AW.sreg rfl fun K hK => ?_; simp only [go_sem, ↓reduceIte, List.length_map]) | (refine AW.seq_k fun K hK => ?_) | (refine AW.exit ?_; simp only [go_sem, ↓reduceIte]) | (refine AW.cF ?_) | (refine hK _ ?_; clear hK K) | (clear hK K; refine hK _ ?_; clear hK K))
    exact AW.ret (Fin.one rfl (by simp [go_sem, h3]) ⟨_, rfl, by simp [go_sem, h3]⟩ rfl (by simp [go_sem]) rfl)

theorem sortHm (xs : List Hm) (hb : ∀ x ∈ xs, hmB x) (hl : xs.length ≤ 12) :
    Does Tryz.prog 84 [.slr 0 0 xs.length, .fn 85 []] [.vec 98 3 (dv (xs.map hmD))] (.tup []) [.vec 98 3 (dv ((isort (fun a b => decide (cpH a b < 0)) xs).map hmD))] := by
  obtain ⟨ys, hy, hyl⟩ := exists_sub xs hb
  have h := sortFunc_Hm (fun a b => decide (cpH a.1 b.1 < 0)) (fun a b => cpH a.1 b.1) (fun _ _ => rfl) 85 homeOrder_any ys (by omega)
  have e1 : ys.map hmS = xs.map hmD := by rw [← hy, List.map_map]; rfl
  have e2 : (isort (fun a b : HmS => decide (cpH a.1 b.1 < 0)) ys).map hmS = (isort (fun a b => decide (cpH a b < 0)) xs).map hmD := by
    rw [← hy, ← isort_map (fun y : HmS => y.1) (fun a b => decide (cpH a b < 0)) ys, List.map_map]
    rfl
  rw [e1, e2, hyl] at h
  exact h
structure HmR (ks : List Str) (l : List Hm) : Prop where
  len : l.length ≤ 3
  hm : ∀ h ∈ l, h.1 ∈ ks ∧ 0 ≤ h.2.1 ∧ h.2.1 ≤ 200 ∧ h.2.1 < h.2.2 ∧ h.2.2 ≤ 3200 ∧ h.2.1 ∈ DY ∧ h.2.2 ∈ DY
theorem HmR.ok {ps : List Pl} {l : List Hm} (h : HmR (ps.map (·.1)) l) : (srtC cpH l).length ≤ 3 ∧ OkHm ps (srtC cpH l) := by
  have h1 := srtC_len cpH l
  have h2 := h.len
  refine ⟨by omega, by omega, ?_, srtC_rise cp_home l⟩
  intro x hx
  have := h.hm x ((srtC_mem cpH l x).1 hx)
  obtain ⟨t1, t2, t3, t4, t5, t6⟩ := this
  exact ⟨t1, by omega, by omega, by omega, t6⟩
theorem dy_home : ∀ f ∈ ([0, 0, 30, 50, 100, 200] : List Int), ∀ d ∈ ([1, 20, 50, 100, 3000] : List Int), f ∈ DY ∧ f + d ∈ DY := by decide
theorem pickFr (l : List Int) (hl2 : l.length ≤ 9223372036854775807) (at_ : Int) (ha : 0 ≤ at_) (hb : at_ ≤ 1000000) :
    DoesI Tryz.prog 14 [.ptr 0 0, .slr 1 0 6] [Stm l at_, IV [0, 0, 30, 50, 100, 200]] (fun r : Int => (0 ≤ r ∧ r ≤ 200) ∧ r ∈ ([0, 0, 30, 50, 100, 200] : List Int)) (fun r => I r) (fun _ => [Stm l (at_ + 1), IV [0, 0, 30, 50, 100, 200]]) :=
  (pickI l hl2 at_ ha hb [0, 0, 30, 50, 100, 200] (by simp) (by simp)).weaken fun r hr => ⟨r, ⟨by simp only [List.mem_cons, List.not_mem_nil, or_false] at hr; omega, hr⟩, rfl, rfl⟩
theorem homesI (l : List Int) (hl2 : l.length ≤ 9223372036854775807) (at_ : Int) (ha : 0 ≤ at_) (hb : at_ ≤ 100000) (ps : List Pl) (hp : ps.length ≤ 4) :
    DoesI Tryz.prog 24 [.ptr 0 0, .d (.sl (ps.map plD))] [Stm l at_] (fun q : List Hm × Int => (q.1.length ≤ 3 ∧ OkHm ps q.1) ∧ at_ ≤ q.2 ∧ q.2 ≤ at_ + 20) (fun q => .d (.sl (q.1.map hmD))) (fun q => [Stm l q.2]) := by
  refine DoesI.of_AW (n := 58) Tryz.func24 rfl rfl rfl fun cx hcx => ?_
  repeat' (first | (refine AW.sreg rfl fun K hK => ?_; simp only [go_sem, ↓reduceIte, List.length_map]) | (refine AW.seq_k fun K hK => ?_) | (refine AW.block ?_) | (refine hK _ ?_; clear hK K) | (refine run_callI _ _ _ ((pickI l hl2 _ (by omega) (by omega) [0, 1, 1, 2, 3] (by simp) (by simp)).objs [0, _] ⟨rfl, rfl, trivial⟩ rfl (by decide) (by simp [go_sem, renOs]) (by simp [go_sem]) (by simp [go_sem]) (fun j hj => ⟨by simp, by simp, by simp [go_sem], by simp [go_sem]⟩)) rfl rfl (dstOk_of rfl) rfl rfl rfl ?_; rintro many hmany; (try dsimp only at many); (try dsimp only at hmany); simp only [go_sem, ↓reduceIte, List.length_map]))
  have hmany2 : 0 ≤ many ∧ many ≤ 3 := by
    simp only [List.mem_cons, List.not_mem_nil, or_false] at hmany
    omega
  obtain ⟨n, rfl⟩ := Int.eq_ofNat_of_zero_le hmany2.1
  refine AW.weak (Weak.nil 5 98 3 rfl) ?_
  refine AW.loopF (ι := Nat × List Hm × Int) [0, 1, 10] (fun p => [(5, .slr 320 0 p.2.1.length), (11, I p.1)]) (fun p => [(0, some (Stm l p.2.2)), (320, some (O.vec 98 3 (dv (p.2.1.map hmD))))]) 20 (fun p => p.1 ≤ n ∧ p.2.1.length ≤ p.1 ∧ HmR (ps.map (·.1)) p.2.1 ∧ (ps = [] → p.2.1 = []) ∧ at_ + 1 ≤ p.2.2 ∧ p.2.2 ≤ at_ + 1 + 3 * p.1) (fun p => n - p.1) (0, [], at_ + 1) ⟨Nat.zero_le _, Nat.le_refl _, ⟨by simp, by simp⟩, fun _ => rfl, by simp only; omega, by simp only; omega⟩ (Weak.aC hcx (by refine ⟨?_, ?_, ?_⟩ <;> simp [go_sem, gL, kL, renOf, V.obj, Nat.blt, Nat.ble, List.map_append, dv_push])) ?_; simp only [St.at_nil, St.at_cons, lk, Nat.reduceEqDiff, ↓reduceIte, Option.getD_some, Option.getD_none, List.cons_append, List.nil_append, List.append_nil]
  rintro ⟨i, hs, a⟩ ⟨h1, h2, hm, h4, h5, h6⟩
  dsimp only at h1 h2 hm h4 h5 h6 ⊢
  by_cases hi : i < n
  · by_cases hps : ps = []
    · obtain rfl := h4 hps
      have hl0 : ((ps.length : Nat) : Int) = 0 := by simp [hps]
      have hl1 : (((ps.length : Nat) : Int) == 0) = true := by simp [hps]
      have z01 : ((0 : Nat) = 1) = False := by simp
      repeat' (first | (refine AW.sreg rfl fun K hK => ?_; simp only [go_sem, ↓reduceIte, List.length_map, hl0, hl1, z01]) | (refine AW.seq_k fun K hK => ?_) | (refine AW.block ?_) | (refine AW.skip ?_; simp only [Then, InBlock]) | (refine AW.exit ?_; simp only [go_sem, ↓reduceIte]) | (refine AW.cT ?_) | (refine hK _ ?_; clear hK K) | (clear hK K; clear hK K; refine hK _ ?_; clear hK K))
      refine AW.loopF (ι := Unit) [5, 39] (fun p => [(40, I 0)]) (fun p => [(0, some (Stm l a)), (320, some (O.vec 98 3 (dv (([] : List Hm).map hmD))))]) 60 (fun p => True) (fun p => 0) () trivial (Weak.aC hcx (by refine ⟨?_, ?_, ?_⟩ <;> simp [go_sem, gL, kL, renOf, V.obj, Nat.blt, Nat.ble, List.map_append, dv_push])) ?_; simp only [St.at_nil, St.at_cons, lk, Nat.reduceEqDiff, ↓reduceIte, Option.getD_some, Option.getD_none, List.cons_append, List.nil_append, List.append_nil]
      rintro ⟨⟩ _
      have hst := sortHm [] (by simp) (by simp)
      have hcm := compact_Hm [] (by simp)
      have hok := hm.ok
      have e1 : isort (fun a b => decide (cpH a b < 0)) [] = [] := rfl
      rw [e1] at hst
      have e2 : srtC cpH ([] : List Hm) = [] := rfl
      rw [e2] at hok
      repeat' (first | ((first | refine AW.sreg rfl fun K hK => ?_ | refine run_call _ _ _ ((hst).objA [_]) rfl rfl (dstOk_of rfl) rfl rfl rfl ?_ | refine run_call _ _ _ ((hcm).objA [_]) rfl rfl (dstOk_of rfl) rfl rfl rfl ?_); simp only [go_sem, ↓reduceIte, List.length_nil]) | (refine AW.seq_k fun K hK => ?_) | (refine AW.exit ?_; simp only [go_sem, ↓reduceIte]) | (refine AW.cF ?_) | (refine hK _ ?_; clear hK K) | (clear hK K; refine hK _ ?_; clear hK K))
      all_goals first | exact AW.ret ⟨(([] : List Hm), a), ⟨hok, by simp only; omega, by simp only; omega⟩, Fin.one rfl (by simp [go_sem, compactM, frz, toD, toDL]) ⟨_, rfl, by simp [go_sem]⟩ rfl rfl rfl⟩ | trace_state
    · have hpl : 0 < ps.length := List.length_pos_iff.2 hps
      have hl0 : ¬ ((ps.length : Nat) : Int) = 0 := by omega
      have hn1 := next_any l hl2 (a + 1) ps.length (by omega) (by omega) (by omega) (by omega)
      have hn2 := nextV_range l (a + 1) ps.length (by omega)
      generalize nextV l (a + 1) ps.length = j at hn1 hn2
      have hjl : j.toNat < ps.length := by omega
      obtain ⟨c, hc, hcm, -⟩ := get_some hjl
      have hget : (ps.map plD)[j.toNat]? = some (plD c) := by simp [hc]
      have htk : List.take hs.length (dv (hs.map hmD)) = dv (hs.map hmD) := List.take_of_length_le (by simp [dv])
      have hp2 := pick_any l hl2 (a + 1 + 1) (by omega) (by omega) [1, 20, 50, 100, 3000] (by simp) (by simp)
      have hd2 := pick_mem l (a + 1 + 1) [1, 20, 50, 100, 3000] (by simp)
      generalize ([1, 20, 50, 100, 3000] : List Int).getD (nextV l (a + 1 + 1) ([1, 20, 50, 100, 3000] : List Int).length).toNat 0 = du at hp2 hd2
      have hd3 : 1 ≤ du ∧ du ≤ 3000 := by
        simp only [List.mem_cons, List.not_mem_nil, or_false] at hd2
        omega
      repeat' (first | ((first | refine AW.sreg rfl fun K hK => ?_ | refine AW.reg rfl ?_ | refine AW.regD hmix rfl ?_ | refine runT_call _ _ [0] (fun hv hag => (hn1).objs [0] ⟨((hag 0 (by simp)).trans rfl), trivial⟩ rfl (by decide) (by simp [go_sem, renOs]) (by simp) (by simp) (by simp [go_sem]) (by simp [go_sem]) (by simp [go_sem]) (by simp [go_sem])) rfl rfl (dstOk_of rfl) rfl rfl ?_ | refine runT_call _ _ [0, 2560] (fun hv hag => (hp2).objs [0, 2560] ⟨((hag 0 (by simp)).trans rfl), ((hag 2560 (by simp)).trans rfl), trivial⟩ rfl (by decide) (by simp [go_sem, renOs]) (by simp) (by simp) (by simp [go_sem]) (by simp [go_sem]) (by simp [go_sem]) (by simp [go_sem])) rfl rfl (dstOk_of rfl) rfl rfl ?_); simp only [go_sem, ↓reduceIte, List.length_map, hl0, hget, htk]) | (refine AW.seq_k fun K hK => ?_) | (refine AW.block ?_) | (refine AW.skip ?_; simp only [Then, InBlock]) | (refine AW.cT ?_) | (refine AW.cF ?_) | (refine hK _ ?_; clear hK K) | (with_reducible refine And.intro (?_ : regOk _ _ = true) ?_; kernel_rfl) | (refine run_callI _ _ _ ((pickFr l hl2 a (by omega) (by omega)).objs [0, _] ⟨rfl, rfl, trivial⟩ rfl (by decide) (by simp [go_sem, renOs]) (by simp [go_sem]) (by simp [go_sem]) (fun j hj => ⟨by simp, by simp, by simp [go_sem], by simp [go_sem]⟩)) rfl rfl (dstOk_of rfl) rfl rfl rfl ?_; rintro fr ⟨hfr, hfr2⟩; (try dsimp only at fr); (try dsimp only at hfr); (try dsimp only at hfr2); simp only [go_sem, ↓reduceIte, List.length_map, hl0, hget, htk]) | (with_reducible refine andI ?_))
      refine ⟨(i + 1, hs ++ [(c.1, fr, fr + du)], a + 1 + 1 + 1), ⟨hi, by simp; omega, ⟨?_, ?_⟩, fun h => absurd h hps, by simp only; omega, by simp only; omega⟩, by simp only; omega, (Weak.aC hcx (by refine ⟨?_, ?_, ?_⟩ <;> simp [go_sem, gL, kL, renOf, V.obj, Nat.blt, Nat.ble, List.map_append, dv_push]))⟩
      · simp only [List.length_append, List.length_cons, List.length_nil]; omega
      · intro x hx
        rcases List.mem_append.1 hx with hx | hx
        · exact hm.hm x hx
        · obtain rfl := List.mem_singleton.1 hx
          exact ⟨List.mem_map_of_mem hcm, by simp only; omega, by simp only; omega, by simp only; omega, by simp only; omega, dy_home fr hfr2 du hd2⟩
  · obtain rfl : i = n := by omega
    repeat' (first | (refine AW.sreg rfl fun K hK => ?_; simp only [go_sem, ↓reduceIte, List.length_map]) | (refine AW.seq_k fun K hK => ?_) | (refine AW.block ?_) | (refine AW.exit ?_; simp only [go_sem, ↓reduceIte]) | (refine AW.cF ?_) | (refine hK _ ?_; clear hK K) | (clear hK K; refine hK _ ?_; clear hK K))
    refine AW.loopF (ι := Nat) [5, 39] (fun p => [(40, I p)]) (fun p => [(0, some (Stm l a)), (320, some (O.vec 98 3 (dv (hs.map hmD))))]) 60 (fun p => p ≤ hs.length) (fun p => hs.length - p) 0 (Nat.zero_le _) (Weak.aC hcx (by refine ⟨?_, ?_, ?_⟩ <;> simp [go_sem, gL, kL, renOf, V.obj, Nat.blt, Nat.ble, List.map_append, dv_push])) ?_; simp only [St.at_nil, St.at_cons, lk, Nat.reduceEqDiff, ↓reduceIte, Option.getD_some, Option.getD_none, List.cons_append, List.nil_append, List.append_nil]
    intro k q1
    by_cases hk : k < hs.length
    · obtain ⟨x, hx, hxm, hxd⟩ := get_some hk
      have hget : (dv (hs.map hmD))[0 + k]? = some (.d (hmD x)) := by simp [dv, hx]
      have hto := (hm.hm x hxm)
      have hmin : (if (4001 : Int) < x.2.2 then 4001 else x.2.2) = x.2.2 := if_neg (by omega)
      have hset : (dv (hs.map hmD)).set k (.d (hmD x)) = dv (hs.map hmD) := by
        have h3 : (dv (hs.map hmD))[k]? = some (.d (hmD x)) := by simp [dv, hx]
        obtain ⟨h4, h5⟩ := List.getElem?_eq_some_iff.1 h3
        rw [← h5]
        exact List.set_getElem_self h4
      repeat' (first | ((first | refine AW.sreg rfl fun K hK => ?_ | refine AW.reg rfl ?_); simp only [go_sem, ↓reduceIte, List.length_map, hget, hmin, hset]) | (refine AW.seq_k fun K hK => ?_) | (refine AW.block ?_) | (refine AW.skip ?_; simp only [Then, InBlock]) | (refine AW.cT ?_) | (refine hK _ ?_; clear hK K) | (with_reducible refine andI ?_))
      all_goals first | exact ⟨k + 1, hk, by omega, (Weak.aC hcx (by refine ⟨?_, ?_, ?_⟩ <;> simp [go_sem, gL, kL, renOf, V.obj, Nat.blt, Nat.ble, List.map_append, dv_push, hset]))⟩ | trace_state
    · obtain rfl : k = hs.length := by omega
      have hbs : ∀ x ∈ hs, hmB x := fun x hx => by have := hm.hm x hx; simp only [hmB]; omega
      have hil := (isort_perm (fun a b => decide (cpH a b < 0)) hs).length_eq
      have hln := hm.len
      have hst := sortHm hs hbs (by omega)
      have hcm := compact_Hm (isort (fun a b => decide (cpH a b < 0)) hs) (by omega)
      rw [hil] at hcm
      have hok := hm.ok
      repeat' (first | ((first | refine AW.sreg rfl fun K hK => ?_ | refine run_call _ _ _ ((hst).objA [_]) rfl rfl (dstOk_of rfl) rfl rfl rfl ?_ | refine run_call _ _ _ ((hcm).objA [_]) rfl rfl (dstOk_of rfl) rfl rfl rfl ?_); simp only [go_sem, ↓reduceIte, List.length_map]) | (refine AW.seq_k fun K hK => ?_) | (refine AW.exit ?_; simp only [go_sem, ↓reduceIte]) | (refine AW.cF ?_) | (refine hK _ ?_; clear hK K) | (clear hK K; refine hK _ ?_; clear hK K))
      all_goals first | exact AW.ret ⟨(srtC cpH hs, a), ⟨hok, by simp only; omega, by simp only; omega⟩, Fin.one rfl (frz_slrP rfl rfl (by simp [srtC])) ⟨_, rfl, by simp [go_sem]⟩ rfl rfl rfl⟩ | trace_state
end Go.AX

namespace Go.AX
open Go Go.Proofs Go.RowKit
theorem keyQ : ∀ s ∈ K7 ++ K4, Does Tryz.prog 153 [S s] [] (B true) [] := by
  have h : (K7 ++ K4).all (fun s => evalsTo Tryz.prog (CP Tryz.prog) 153 [S s] (B true)) = true := by kernel_rfl
  intro s hs
  exact evalsTo_ok CP_ok hmix (List.all_eq_true.1 h s hs)
def tblQ : List (Nat × List V × V) := [(316, [.d (.str EZ)], .d (.bool true)), (316, [.d (.str [255])], .d (.bool false))]
theorem tblQ_ok : TblOk Tryz.prog tblQ := by
  intro e he
  simp only [tblQ, List.mem_cons, List.not_mem_nil, or_false] at he
  rcases he with rfl | rfl
  · exact ⟨(show Lib.validD EZ = true from by kernel_rfl) ▸ valid_any _ (by simp [EZ]), rfl, rfl⟩
  · exact ⟨(show Lib.validD [255] = false from by kernel_rfl) ▸ valid_any _ (by simp), rfl, rfl⟩
def SQ (P : Program) : Orc := orc2 (tblT tblQ) (SO P)
theorem SQ_ok : OrcOk Tryz.prog (SQ Tryz.prog) := orc2_ok (tblT_ok tblQ_ok) SO_ok
def CQ (P : Program) : Orc := evF P (SQ P) (fun _ => false) 10000 30
theorem CQ_ok : OrcOk Tryz.prog (CQ Tryz.prog) := evF_ok SQ_ok hmix 30
theorem namedR : ∀ s ∈ SNm, Does Tryz.prog 221 [S s, I 100] [] (B (decide (s ∈ NG))) [] := by
  have h : SNm.all (fun s => evalsTo Tryz.prog (CQ Tryz.prog) 221 [S s, I 100] (B (decide (s ∈ NG)))) = true := by kernel_rfl
  intro s hs
  exact evalsTo_ok CQ_ok hmix (List.all_eq_true.1 h s hs)
theorem mailR : ∀ s ∈ MG, Does Tryz.prog 157 [S s] [] (B true) [] := by
  have h : MG.all (fun s => evalsTo Tryz.prog (CQ Tryz.prog) 157 [S s] (B true)) = true := by kernel_rfl
  intro s hs
  exact evalsTo_ok CQ_ok hmix (List.all_eq_true.1 h s hs)
theorem namesFaultR (ns : List Nm) (hl : ns.length ≤ 10) (hn : ∀ n ∈ ns, n.1 ∈ SNm) : DoesI Tryz.prog 155 [.d (.sl (ns.map nmD))] [] (fun e : Int => e = 0 → ∀ n ∈ ns, n.1 ∈ NG) (fun e => I e) (fun _ => []) := by
  refine DoesI.of_AW (n := 53) Tryz.func155 rfl rfl rfl fun cx hcx => ?_
  repeat' (first | (refine AW.sreg rfl fun K hK => ?_; simp only [go_sem, ↓reduceIte, List.length_map]) | (refine AW.seq_k fun K hK => ?_) | (refine AW.block ?_) | (refine AW.skip ?_; simp only [Then, InBlock]) | (refine AW.cF ?_) | (refine AW.cond rfl (fun h => ?_) (fun h => ?_) <;> (try simp only [decide_eq_true_eq, decide_eq_false_iff_not, Bool.not_eq_true', Bool.not_eq_false', Bool.not_eq_eq_eq_not, Bool.not_true, Bool.not_false, beq_iff_eq, bne_iff_ne, beq_eq_false_iff_ne, ne_eq, Bool.and_eq_true, Bool.or_eq_true, Bool.or_eq_false_iff] at h)) | (refine hK _ ?_; clear hK K))
  · exact AW.ret ⟨(3 : Int), fun h => absurd h (by decide), Fin.data rfl (by simp [go_sem]) rfl⟩
  refine AW.loopF (ι := Nat) [0, 13, 14] (fun p => [(15, I p)]) (fun p => []) 20 (fun p => p ≤ ns.length ∧ ∀ n ∈ ns.take p, n.1 ∈ NG) (fun p => ns.length - p) 0 ⟨Nat.zero_le _, by simp⟩ (Weak.aC hcx (by refine ⟨?_, ?_, ?_⟩ <;> simp [go_sem, gL, kL, renOf, V.obj, Nat.blt, Nat.ble, List.map_append, dv_push])) ?_; simp only [St.at_nil, St.at_cons, lk, Nat.reduceEqDiff, ↓reduceIte, Option.getD_some, Option.getD_none, List.cons_append, List.nil_append, List.append_nil]
  rintro i ⟨h1, h2⟩
  by_cases hi : i < ns.length
  · obtain ⟨x, hx, hxm, hxd⟩ := get_some hi
    have hget : (ns.map nmD)[i]? = some (nmD x) := by simp [hx]
    have hnm := namedR x.1 (hn x hxm)
    by_cases hg : x.1 ∈ NG
    · rw [decide_eq_true hg] at hnm
      have hnext : ∀ n ∈ ns.take (i + 1), n.1 ∈ NG := by
        rw [List.take_add_one, hx]
        intro n hnn
        rcases List.mem_append.1 hnn with hnn | hnn
        · exact h2 n hnn
        · obtain rfl : n = x := by simpa using hnn
          exact hg
      rcases i with _ | j
      · repeat' (first | ((first | refine AW.sreg rfl fun K hK => ?_ | refine AW.sregD hmix rfl fun K hK => ?_ | refine AW.reg rfl ?_ | refine run_call _ _ _ ((hnm).pure rfl rfl _ _) rfl rfl (dstOk_of rfl) rfl rfl rfl ?_); simp only [go_sem, ↓reduceIte, List.length_map, hget]) | (refine AW.seq_k fun K hK => ?_) | (refine AW.block ?_) | (refine AW.skip ?_; simp only [Then, InBlock]) | (refine AW.cT ?_) | (refine AW.cF ?_) | (refine AW.cond rfl (fun h => ?_) (fun h => ?_) <;> (try simp only [decide_eq_true_eq, decide_eq_false_iff_not, Bool.not_eq_true', Bool.not_eq_false', Bool.not_eq_eq_eq_not, Bool.not_true, Bool.not_false, beq_iff_eq, bne_iff_ne, beq_eq_false_iff_ne, ne_eq, Bool.and_eq_true, Bool.or_eq_true, Bool.or_eq_false_iff] at h)) | (refine hK _ ?_; clear hK K) | (refine stepBT_split (fun h => ?_) (fun h => ?_) <;> (have hb0 := h) <;> (try simp only [Bool.not_eq_true', Bool.not_eq_false'] at hb0) <;> (try simp only [decide_eq_true_eq, decide_eq_false_iff_not, Bool.not_eq_true', Bool.not_eq_false', Bool.not_eq_eq_eq_not, Bool.not_true, Bool.not_false, beq_iff_eq, bne_iff_ne, beq_eq_false_iff_ne, ne_eq, Bool.and_eq_true, Bool.or_eq_true, Bool.or_eq_false_iff] at h) <;> simp only [go_sem, ↓reduceIte, hb0, h, decide_true, decide_false, List.length_map, hget] <;> (try clear hb0)) | (with_reducible refine And.intro (?_ : regOk _ _ = true) ?_; kernel_rfl) | (with_reducible refine andI ?_) | (exfalso; omega))
        all_goals first | (exfalso; omega) | exact ⟨_ + 1, ⟨hi, hnext⟩, by omega, (Weak.aC hcx (by refine ⟨?_, ?_, ?_⟩ <;> simp [go_sem, gL, kL, renOf, V.obj, Nat.blt, Nat.ble, List.map_append, dv_push]))⟩ | (refine AW.ret ⟨(7 : Int), fun h => absurd h (by decide), Fin.data rfl ?_ rfl⟩; simp [go_sem]; done) | (refine AW.ret ⟨(1 : Int), fun h => absurd h (by decide), Fin.data rfl ?_ rfl⟩; simp [go_sem]; done) | trace_state
      · obtain ⟨y, hy, hym, hyd⟩ := get_some (show j < ns.length by omega)
        have hget2 : (ns.map nmD)[(((j + 1 : Nat) : Int) - 1).toNat]? = some (nmD y) := by
          rw [show (((j + 1 : Nat) : Int) - 1).toNat = j by omega]; simp [hy]
        repeat' (first | ((first | refine AW.sreg rfl fun K hK => ?_ | refine AW.sregD hmix rfl fun K hK => ?_ | refine AW.reg rfl ?_ | refine run_call _ _ _ ((hnm).pure rfl rfl _ _) rfl rfl (dstOk_of rfl) rfl rfl rfl ?_); simp only [go_sem, ↓reduceIte, List.length_map, hget, hget2]) | (refine AW.seq_k fun K hK => ?_) | (refine AW.block ?_) | (refine AW.skip ?_; simp only [Then, InBlock]) | (refine AW.cT ?_) | (refine AW.cF ?_) | (refine AW.cond rfl (fun h => ?_) (fun h => ?_) <;> (try simp only [decide_eq_true_eq, decide_eq_false_iff_not, Bool.not_eq_true', Bool.not_eq_false', Bool.not_eq_eq_eq_not, Bool.not_true, Bool.not_false, beq_iff_eq, bne_iff_ne, beq_eq_false_iff_ne, ne_eq, Bool.and_eq_true, Bool.or_eq_true, Bool.or_eq_false_iff] at h)) | (refine hK _ ?_; clear hK K) | (refine stepBT_split (fun h => ?_) (fun h => ?_) <;> (have hb0 := h) <;> (try simp only [Bool.not_eq_true', Bool.not_eq_false'] at hb0) <;> (try simp only [decide_eq_true_eq, decide_eq_false_iff_not, Bool.not_eq_true', Bool.not_eq_false', Bool.not_eq_eq_eq_not, Bool.not_true, Bool.not_false, beq_iff_eq, bne_iff_ne, beq_eq_false_iff_ne, ne_eq, Bool.and_eq_true, Bool.or_eq_true, Bool.or_eq_false_iff] at h) <;> simp only [go_sem, ↓reduceIte, hb0, h, decide_true, decide_false, List.length_map, hget, hget2] <;> (try clear hb0)) | (with_reducible refine And.intro (?_ : regOk _ _ = true) ?_; kernel_rfl) | (with_reducible refine andI ?_) | (exfalso; omega))
        all_goals first | (exfalso; omega) | exact ⟨_ + 1, ⟨hi, hnext⟩, by omega, (Weak.aC hcx (by refine ⟨?_, ?_, ?_⟩ <;> simp [go_sem, gL, kL, renOf, V.obj, Nat.blt, Nat.ble, List.map_append, dv_push]))⟩ | (refine AW.ret ⟨(7 : Int), fun h => absurd h (by decide), Fin.data rfl ?_ rfl⟩; simp [go_sem]; done) | (refine AW.ret ⟨(1 : Int), fun h => absurd h (by decide), Fin.data rfl ?_ rfl⟩; simp [go_sem]; done) | trace_state
    · rw [decide_eq_false hg] at hnm
      repeat' (first | ((first | refine AW.sreg rfl fun K hK => ?_ | refine run_call _ _ _ ((hnm).pure rfl rfl _ _) rfl rfl (dstOk_of rfl) rfl rfl rfl ?_); simp only [go_sem, ↓reduceIte, List.length_map, hget]) | (refine AW.seq_k fun K hK => ?_) | (refine AW.block ?_) | (refine AW.skip ?_; simp only [Then, InBlock]) | (refine AW.cT ?_) | (refine hK _ ?_; clear hK K) | (with_reducible refine andI ?_))
      all_goals first | (exfalso; omega) | (refine AW.ret ⟨(3 : Int), fun h => absurd h (by decide), Fin.data rfl ?_ rfl⟩; simp [go_sem]; done) | trace_state
  · obtain rfl : i = ns.length := by omega
    rw [List.take_length] at h2
    repeat' (first | (refine AW.sreg rfl fun K hK => ?_; simp only [go_sem, ↓reduceIte, List.length_map]) | (refine AW.seq_k fun K hK => ?_) | (refine AW.exit ?_; simp only [go_sem, ↓reduceIte]) | (refine AW.cF ?_) | (refine hK _ ?_; clear hK K) | (clear hK K; refine hK _ ?_; clear hK K))
    exact AW.ret ⟨(0 : Int), fun _ => h2, Fin.data rfl (by simp [go_sem]) rfl⟩
end Go.AX

namespace Go.AX
open Go Go.Proofs Go.RowKit
theorem indexFunc_Pl (xs : List Pl) (hl : xs.length ≤ 1000) (c : Nat) (cap : D) (q : Pl → Bool) (hc : ∀ x ∈ xs, Does Tryz.prog c [.d (plD x), .d cap] [] (B (q x)) []) :
    Does Tryz.prog 82 [.d (.sl (xs.map plD)), .fn c [.d cap]] [] (I (idxG q xs 0)) [] := by
  refine Does.of_AW (n := 19) Tryz.func82 rfl rfl rfl fun cx hcx => ?_
  generalize hR : idxG q xs 0 = R
  repeat' (first | (refine AW.sreg rfl fun K hK => ?_; simp only [go_sem, ↓reduceIte, List.length_map]) | (refine AW.seq_k fun K hK => ?_) | (refine AW.block ?_) | (refine hK _ ?_; clear hK K))
  refine AW.loopF (ι := Nat) [0, 1, 7] (fun p => [(8, I p)]) (fun p => []) 1 (fun p => p ≤ xs.length ∧ idxG q (xs.drop p) p = R) (fun p => xs.length - p) 0 ⟨by simp, hR⟩ (Weak.aC hcx (by refine ⟨?_, ?_, ?_⟩ <;> simp [go_sem, gL, kL, renOf, V.obj, Nat.blt, Nat.ble, List.map_append, dv_push])) ?_; simp only [St.at_nil, St.at_cons, lk, Nat.reduceEqDiff, ↓reduceIte, Option.getD_some, Option.getD_none, List.cons_append, List.nil_append, List.append_nil]
  rintro i ⟨h1, h2⟩
  by_cases hi : i < xs.length
  · obtain ⟨x, hx, hxm, hxd⟩ := get_some hi
    have hget : (xs.map plD)[i]? = some (plD x) := by simp [hx]
    rw [hxd, idxG] at h2
    repeat' (first | ((first | refine AW.sreg rfl fun K hK => ?_ | refine AW.reg rfl ?_ | refine run_call _ _ _ ((hc x hxm).pure rfl rfl _ _) rfl rfl (dstOk_of rfl) rfl rfl rfl ?_); simp only [go_sem, ↓reduceIte, List.length_map, hget]) | (refine AW.seq_k fun K hK => ?_) | (refine AW.block ?_) | (refine AW.skip ?_; simp only [Then, InBlock]) | (refine AW.cT ?_) | (refine AW.cond rfl (fun h => ?_) (fun h => ?_) <;> (try simp only [decide_eq_true_eq, decide_eq_false_iff_not, Bool.not_eq_true', Bool.not_eq_false', Bool.not_eq_eq_eq_not, Bool.not_true, Bool.not_false, beq_iff_eq, bne_iff_ne, beq_eq_false_iff_ne, ne_eq, Bool.and_eq_true, Bool.or_eq_true, Bool.or_eq_false_iff] at h)) | (refine hK _ ?_; clear hK K) | (with_reducible refine andI ?_) | (refine AW.ret (Fin.data rfl (by first | (simp only [go_sem]; done) | ((rw [if_pos h] at h2; subst h2; simp [go_sem]); done) | (simp [go_sem]; omega) | rfl) rfl)))
    rw [if_neg (by simp [h])] at h2
    exact ⟨i + 1, ⟨hi, h2⟩, by omega, (Weak.aC hcx (by refine ⟨?_, ?_, ?_⟩ <;> simp [go_sem, gL, kL, renOf, V.obj, Nat.blt, Nat.ble, List.map_append, dv_push]))⟩
  · obtain rfl : i = xs.length := by omega
    simp only [List.drop_length, idxG] at h2
    subst h2
    repeat' (first | (refine AW.sreg rfl fun K hK => ?_; simp only [go_sem, ↓reduceIte, List.length_map]) | (refine AW.seq_k fun K hK => ?_) | (refine AW.exit ?_; simp only [go_sem, ↓reduceIte]) | (refine AW.cF ?_) | (refine hK _ ?_; clear hK K) | (clear hK K; refine hK _ ?_; clear hK K) | (refine AW.ret (Fin.data rfl (by first | (simp only [go_sem]; done) | (simp [go_sem, *]; done) | (simp [go_sem]; omega) | rfl) rfl)))
theorem placeAt1_any (k : Str) (p : Pl) : Does Tryz.prog 83 [.d (plD p), .d (.ptr [.str k] 0)] [] (B (p.1 == k)) [] := by
  refine Does.of_AW (n := 8) Tryz.func83 rfl rfl rfl fun cx hcx => ?_
  repeat' (first | (refine AW.sreg rfl fun K hK => ?_; simp only [go_sem, ↓reduceIte]) | (refine hK _ ?_; clear hK K) | (refine AW.ret (Fin.data rfl (by first | (simp only [go_sem]; done) | (simp [go_sem, *]; done) | (simp [go_sem]; omega) | rfl) rfl)))
def ixP (ps : List Pl) (k : Str) : Int := idxG (fun p => p.1 == k) ps 0
theorem placeAt_any (ps : List Pl) (hl : ps.length ≤ 1000) (k : Str) : Does Tryz.prog 23 [.d (.sl (ps.map plD)), S k] [] (I (ixP ps k)) [] := by
  have hix := indexFunc_Pl ps (by omega) 83 (.ptr [.str k] 0) (fun p => p.1 == k) (fun p _ => placeAt1_any k p)
  unfold ixP
  refine Does.of_AW (n := 8) Tryz.func23 rfl rfl rfl fun cx hcx => ?_
  repeat' (first | ((first | refine AW.sreg rfl fun K hK => ?_ | refine run_call _ _ _ ((hix).borrow rfl rfl rfl) rfl rfl (dstOk_of rfl) rfl rfl rfl ?_); simp only [go_sem, ↓reduceIte]) | (refine hK _ ?_; clear hK K) | (refine AW.ret (Fin.data rfl (by first | (simp only [go_sem]; done) | (simp [go_sem, *]; done) | (simp [go_sem]; omega) | rfl) rfl)))
theorem ixP_cases (ps : List Pl) (k : Str) : (ixP ps k = -1 ∧ k ∉ ps.map (·.1)) ∨ ∃ (j : Nat) (p : Pl), ixP ps k = (j : Int) ∧ ps[j]? = some p ∧ p.1 = k := by
  cases hany : ps.any (fun p => p.1 == k) with
  | false =>
    refine .inl ⟨idxG_none 0 hany, ?_⟩
    intro hm
    obtain ⟨p, hp, e⟩ := List.mem_map.1 hm
    rw [List.any_eq_false] at hany
    exact hany p hp (by simpa using e)
  | true =>
    obtain ⟨j, p, h1, h2, h3, -⟩ := idxG_at 0 hany
    exact .inr ⟨j, p, by unfold ixP; rw [h1]; simp, h2, by simpa using h3⟩
theorem aboveOf_any (ps : List Pl) (hl : ps.length ≤ 1000) (hn : (ps.map (·.1)).Nodup) (k : Str) : Does Tryz.prog 154 [.d (.sl (ps.map plD)), S k] [] (.d (.sl ((abvN ps (ps.length + 1) k).map .str))) [] := by
  refine Does.of_AW (n := 35) Tryz.func154 rfl rfl rfl fun cx hcx => ?_
  generalize hR : abvN ps (ps.length + 1) k = R
  repeat' (first | (refine AW.sreg rfl fun K hK => ?_; simp only [go_sem, ↓reduceIte]) | (refine AW.seq_k fun K hK => ?_) | (refine AW.block ?_) | (refine hK _ ?_; clear hK K))
  refine AW.weak (Weak.nil 5 9 1 rfl) ?_
  refine AW.loopF (ι := Str × List Str) [0] (fun p => [(1, S p.1), (5, .slr 320 0 p.2.length)]) (fun p => [(320, some (O.vec 9 1 (dv (p.2.map D.str))))]) 20 (fun p => p.2.length ≤ ps.length + 1 ∧ p.2 ++ abvN ps (ps.length + 1 - p.2.length) p.1 = R) (fun p => ps.length + 1 - p.2.length) (k, []) ⟨Nat.zero_le _, by simpa using hR⟩ (Weak.aC hcx (by refine ⟨?_, ?_, ?_⟩ <;> simp [go_sem, gL, kL, renOf, V.obj, Nat.blt, Nat.ble, List.map_append, dv_push])) ?_; simp only [St.at_nil, St.at_cons, lk, Nat.reduceEqDiff, ↓reduceIte, Option.getD_some, Option.getD_none, List.cons_append, List.nil_append, List.append_nil]
  rintro ⟨a, L⟩ ⟨h1, h2⟩
  dsimp only at h1 h2 ⊢
  by_cases hi : L.length ≤ ps.length
  · have hpa := placeAt_any ps hl a
    have htk : List.take L.length (dv (L.map D.str)) = dv (L.map D.str) := List.take_of_length_le (by simp [dv])
    rw [show ps.length + 1 - L.length = (ps.length - L.length) + 1 by omega, abvN] at h2
    rcases ixP_cases ps a with ⟨e1, e2⟩ | ⟨j, p, e1, e2, e3⟩
    · rw [e1] at hpa
      rw [if_pos (par_none e2), List.append_nil] at h2
      subst h2
      have z01 : ((0 : Nat) = 1) = False := by simp
      repeat' (first | ((first | refine AW.sreg rfl fun K hK => ?_ | refine run_call _ _ _ ((hpa).pure rfl rfl _ _) rfl rfl (dstOk_of rfl) rfl rfl rfl ?_); simp only [go_sem, ↓reduceIte, List.length_map, z01]) | (refine AW.seq_k fun K hK => ?_) | (refine AW.block ?_) | (refine AW.skip ?_; simp only [Then, InBlock]) | (refine AW.exit ?_; simp only [go_sem, ↓reduceIte]) | (refine AW.cT ?_) | (refine hK _ ?_; clear hK K) | (clear hK K; refine hK _ ?_; clear hK K) | (refine stepB_split (fun h => ?_) (fun h => ?_) <;> (have hb0 := h) <;> (try simp only [Bool.not_eq_true', Bool.not_eq_false'] at hb0) <;> (try simp only [decide_eq_true_eq, decide_eq_false_iff_not, Bool.not_eq_true', Bool.not_eq_false', Bool.not_eq_eq_eq_not, Bool.not_true, Bool.not_false, beq_iff_eq, bne_iff_ne, beq_eq_false_iff_ne, ne_eq, Bool.and_eq_true, Bool.or_eq_true, Bool.or_eq_false_iff] at h) <;> simp only [go_sem, ↓reduceIte, hb0, h, decide_true, decide_false, List.length_map, z01] <;> (try clear hb0)) | (exfalso; omega))
      all_goals first | (exfalso; omega) | exact AW.ret (Fin.data rfl ((frz_slr (e := 9) (s := 1) (xs := L.map D.str) rfl rfl (by simp)).trans (by simp [go_sem])) rfl)
    · rw [e1] at hpa
      have hget : (ps.map plD)[j]? = some (plD p) := by simp [e2]
      have hpr : par ps a = p.2 := by rw [← e3]; exact par_of hn (List.mem_of_getElem? e2)
      rw [hpr] at h2
      by_cases hp : p.2 = []
      · have e0 : (p.2 == []) = true := by simp [hp]
        rw [if_pos hp, List.append_nil] at h2
        subst h2
        repeat' (first | ((first | refine AW.sreg rfl fun K hK => ?_ | refine run_call _ _ _ ((hpa).pure rfl rfl _ _) rfl rfl (dstOk_of rfl) rfl rfl rfl ?_); simp only [go_sem, ↓reduceIte, List.length_map, hget, e0]) | (refine AW.seq_k fun K hK => ?_) | (refine AW.block ?_) | (refine AW.skip ?_; simp only [Then, InBlock]) | (refine AW.exit ?_; simp only [go_sem, ↓reduceIte]) | (refine AW.cT ?_) | (refine hK _ ?_; clear hK K) | (clear hK K; refine hK _ ?_; clear hK K) | (refine stepB_split (fun h => ?_) (fun h => ?_) <;> (have hb0 := h) <;> (try simp only [Bool.not_eq_true', Bool.not_eq_false'] at hb0) <;> (try simp only [decide_eq_true_eq, decide_eq_false_iff_not, Bool.not_eq_true', Bool.not_eq_false', Bool.not_eq_eq_eq_not, Bool.not_true, Bool.not_false, beq_iff_eq, bne_iff_ne, beq_eq_false_iff_ne, ne_eq, Bool.and_eq_true, Bool.or_eq_true, Bool.or_eq_false_iff] at h) <;> simp only [go_sem, ↓reduceIte, hb0, h, decide_true, decide_false, List.length_map, hget, e0] <;> (try clear hb0)) | (with_reducible refine andI ?_) | (exfalso; omega))
        all_goals first | (exfalso; omega) | exact AW.ret (Fin.data rfl ((frz_slr (e := 9) (s := 1) (xs := L.map D.str) rfl rfl (by simp)).trans (by simp [go_sem])) rfl)
      · have e0 : (p.2 == []) = false := by simp [hp]
        rw [if_neg hp] at h2
        repeat' (first | ((first | refine AW.sreg rfl fun K hK => ?_ | refine AW.reg rfl ?_ | refine run_call _ _ _ ((hpa).pure rfl rfl _ _) rfl rfl (dstOk_of rfl) rfl rfl rfl ?_); simp only [go_sem, ↓reduceIte, List.length_map, hget, e0, htk]) | (refine AW.seq_k fun K hK => ?_) | (refine AW.block ?_) | (refine AW.skip ?_; simp only [Then, InBlock]) | (refine AW.exit ?_; simp only [go_sem, ↓reduceIte]) | (refine AW.cT ?_) | (refine AW.cF ?_) | (refine hK _ ?_; clear hK K) | (clear hK K; refine hK _ ?_; clear hK K) | (refine stepB_split (fun h => ?_) (fun h => ?_) <;> (have hb0 := h) <;> (try simp only [Bool.not_eq_true', Bool.not_eq_false'] at hb0) <;> (try simp only [decide_eq_true_eq, decide_eq_false_iff_not, Bool.not_eq_true', Bool.not_eq_false', Bool.not_eq_eq_eq_not, Bool.not_true, Bool.not_false, beq_iff_eq, bne_iff_ne, beq_eq_false_iff_ne, ne_eq, Bool.and_eq_true, Bool.or_eq_true, Bool.or_eq_false_iff] at h) <;> simp only [go_sem, ↓reduceIte, hb0, h, decide_true, decide_false, List.length_map, hget, e0, htk] <;> (try clear hb0)) | (with_reducible refine andI ?_) | (exfalso; omega))
        all_goals first | exact ⟨(p.2, L ++ [p.2]), ⟨by simp; omega, by simp only [List.length_append, List.length_cons, List.length_nil, List.append_assoc, List.cons_append, List.nil_append]; rw [show ps.length + 1 - (L.length + (0 + 1)) = ps.length - L.length by omega]; exact h2⟩, by simp; omega, (Weak.aC hcx (by refine ⟨?_, ?_, ?_⟩ <;> simp [go_sem, gL, kL, renOf, V.obj, Nat.blt, Nat.ble, List.map_append, dv_push]))⟩ | trace_state
  · rw [show ps.length + 1 - L.length = 0 by omega, abvN, List.append_nil] at h2
    subst h2
    repeat' (first | (refine AW.sreg rfl fun K hK => ?_; simp only [go_sem, ↓reduceIte, List.length_map]) | (refine AW.seq_k fun K hK => ?_) | (refine AW.exit ?_; simp only [go_sem, ↓reduceIte]) | (refine AW.cF ?_) | (refine hK _ ?_; clear hK K) | (clear hK K; refine hK _ ?_; clear hK K))
    all_goals first | (exfalso; omega) | exact AW.ret (Fin.data rfl ((frz_slr (e := 9) (s := 1) (xs := L.map D.str) rfl rfl (by simp)).trans (by simp [go_sem])) rfl)
end Go.AX

namespace Go.AX
open Go Go.Proofs Go.RowKit
theorem index_St (xs : List Str) (hl : xs.length ≤ 100000) (v : Str) :
    Does Tryz.prog 198 [.d (.sl (xs.map D.str)), S v] [] (I (idxG (fun x => v == x) xs 0)) [] := by
  refine Does.of_AW (n := 19) Tryz.func198 rfl rfl rfl fun cx hcx => ?_
  generalize hR : idxG (fun x => v == x) xs 0 = R
  repeat' (first | (refine AW.sreg rfl fun K hK => ?_; simp only [go_sem, ↓reduceIte, List.length_map]) | (refine AW.seq_k fun K hK => ?_) | (refine AW.block ?_) | (refine hK _ ?_; clear hK K))
  refine AW.loopF (ι := Nat) [0, 1, 7] (fun p => [(8, I p)]) (fun p => []) 1 (fun p => p ≤ xs.length ∧ idxG (fun x => v == x) (xs.drop p) p = R) (fun p => xs.length - p) 0 ⟨by simp, hR⟩ (Weak.aC hcx (by refine ⟨?_, ?_, ?_⟩ <;> simp [go_sem, gL, kL, renOf, V.obj, Nat.blt, Nat.ble, List.map_append, dv_push])) ?_; simp only [St.at_nil, St.at_cons, lk, Nat.reduceEqDiff, ↓reduceIte, Option.getD_some, Option.getD_none, List.cons_append, List.nil_append, List.append_nil]
  rintro i ⟨h1, h2⟩
  by_cases hi : i < xs.length
  · obtain ⟨x, hx, hxm, hxd⟩ := get_some hi
    have hget : (xs.map D.str)[i]? = some (.str x) := by simp [hx]
    rw [hxd, idxG] at h2
    repeat' (first | ((first | refine AW.sreg rfl fun K hK => ?_ | refine AW.reg rfl ?_); simp only [go_sem, ↓reduceIte, List.length_map, hget]) | (refine AW.seq_k fun K hK => ?_) | (refine AW.block ?_) | (refine AW.skip ?_; simp only [Then, InBlock]) | (refine AW.cT ?_) | (refine AW.cond rfl (fun h => ?_) (fun h => ?_) <;> (try simp only [decide_eq_true_eq, decide_eq_false_iff_not, Bool.not_eq_true', Bool.not_eq_false', Bool.not_eq_eq_eq_not, Bool.not_true, Bool.not_false, beq_iff_eq, bne_iff_ne, beq_eq_false_iff_ne, ne_eq, Bool.and_eq_true, Bool.or_eq_true, Bool.or_eq_false_iff] at h)) | (refine hK _ ?_; clear hK K) | (with_reducible refine andI ?_) | (refine AW.ret (Fin.data rfl (by first | (simp only [go_sem]; done) | ((rw [if_pos (by simpa using h)] at h2; subst h2; simp [go_sem]); done) | (simp [go_sem]; omega) | rfl) rfl)))
    rw [if_neg (by simpa using h)] at h2
    exact ⟨i + 1, ⟨hi, h2⟩, by omega, (Weak.aC hcx (by refine ⟨?_, ?_, ?_⟩ <;> simp [go_sem, gL, kL, renOf, V.obj, Nat.blt, Nat.ble, List.map_append, dv_push]))⟩
  · obtain rfl : i = xs.length := by omega
    simp only [List.drop_length, idxG] at h2
    subst h2
    repeat' (first | (refine AW.sreg rfl fun K hK => ?_; simp only [go_sem, ↓reduceIte, List.length_map]) | (refine AW.seq_k fun K hK => ?_) | (refine AW.exit ?_; simp only [go_sem, ↓reduceIte]) | (refine AW.cF ?_) | (refine hK _ ?_; clear hK K) | (clear hK K; refine hK _ ?_; clear hK K) | (refine AW.ret (Fin.data rfl (by first | (simp only [go_sem]; done) | (simp [go_sem, *]; done) | (simp [go_sem]; omega) | rfl) rfl)))
theorem contains_St (xs : List Str) (hl : xs.length ≤ 100000) (v : Str) :
    Does Tryz.prog 126 [.d (.sl (xs.map D.str)), S v] [] (B (xs.any fun x => v == x)) [] := by
  rw [← idxG_any (fun x => v == x) xs 0]
  refine Does.of_AW (n := 9) Tryz.func126 rfl rfl rfl fun cx hcx => ?_
  repeat' (first | ((first | refine AW.sreg rfl fun K hK => ?_ | refine run_call _ _ _ ((index_St xs hl v).pure rfl rfl _ _) rfl rfl (dstOk_of rfl) rfl rfl rfl ?_); simp only [go_sem, ↓reduceIte]) | (refine hK _ ?_; clear hK K) | (refine AW.ret (Fin.data rfl (by first | (simp only [go_sem]; done) | (simp [go_sem, *]; done) | (simp [go_sem]; omega) | rfl) rfl)))

end Go.AX

namespace Go.AX
open Go Go.Proofs Go.RowKit
/-- Places as they are drawn. -/
structure PlC (ps : List Pl) : Prop where
  ok : OkPl ps
  len : ps.length ≤ 4
  key : ∀ p ∈ ps, p.1 ∈ K4 ∧ (p.2 = [] ∨ p.2 ∈ K4)
theorem abvN_len (ps : List Pl) : ∀ (n : Nat) (k : Str), n ≤ 1000 → (abvN ps n k).length ≤ 100000 := by
  have : ∀ (n : Nat) (k : Str), (abvN ps n k).length ≤ n := by
    intro n
    induction n with
    | zero => intro k; simp [abvN]
    | succ n ih =>
      intro k
      rw [abvN]
      split
      · simp
      · simp only [List.length_cons]
        have := ih (par ps k)
        omega
  intro n k hn
  have := this n k
  omega
theorem key4 {k : Str} (h : k ∈ K4) : Does Tryz.prog 153 [S k] [] (B true) [] := keyQ k (List.mem_append_right _ h)
theorem placesFaultR (ps : List Pl) (h : PlC ps) : DoesI Tryz.prog 92 [.d (.sl (ps.map plD))] [] (fun _ : Int => True) (fun e => I e) (fun _ => []) := by
  have hl := h.len
  refine DoesI.of_AW (n := 73) Tryz.func92 rfl rfl rfl fun cx hcx => ?_
  repeat' (first | (refine AW.sreg rfl fun K hK => ?_; simp only [go_sem, ↓reduceIte, List.length_map]) | (refine AW.seq_k fun K hK => ?_) | (refine AW.block ?_) | (refine AW.skip ?_; simp only [Then, InBlock]) | (refine AW.cF ?_) | (refine hK _ ?_; clear hK K))
  refine AW.loopF (ι := Nat × Str) [0, 13, 14] (fun p => [(15, I p.1), (3, S p.2)]) (fun p => []) 20 (fun p => p.1 ≤ ps.length) (fun p => ps.length - p.1) (0, []) (Nat.zero_le _) (Weak.aC hcx (by refine ⟨?_, ?_, ?_⟩ <;> simp [go_sem, gL, kL, renOf, V.obj, Nat.blt, Nat.ble, List.map_append, dv_push])) ?_; simp only [St.at_nil, St.at_cons, lk, Nat.reduceEqDiff, ↓reduceIte, Option.getD_some, Option.getD_none, List.cons_append, List.nil_append, List.append_nil]
  rintro ⟨i, la⟩ h1
  dsimp only at h1 ⊢
  by_cases hi : i < ps.length
  · obtain ⟨x, hx, hxm, hxd⟩ := get_some hi
    have hget : (ps.map plD)[i]? = some (plD x) := by simp [hx]
    obtain ⟨k1, k2⟩ := h.key x hxm
    have hk := key4 k1
    by_cases hp : x.2 = []
    · have e0 : (x.2 == []) = true := by simp [hp]
      repeat' (first | ((first | refine AW.sreg rfl fun K hK => ?_ | refine AW.reg rfl ?_ | refine run_call _ _ _ ((hk).pure rfl rfl _ _) rfl rfl (dstOk_of rfl) rfl rfl rfl ?_); simp only [go_sem, ↓reduceIte, List.length_map, hget, e0]) | (refine AW.seq_k fun K hK => ?_) | (refine AW.block ?_) | (refine AW.skip ?_; simp only [Then, InBlock]) | (refine AW.cT ?_) | (refine AW.cF ?_) | (refine AW.cond rfl (fun h => ?_) (fun h => ?_) <;> (try simp only [decide_eq_true_eq, decide_eq_false_iff_not, Bool.not_eq_true', Bool.not_eq_false', Bool.not_eq_eq_eq_not, Bool.not_true, Bool.not_false, beq_iff_eq, bne_iff_ne, beq_eq_false_iff_ne, ne_eq, Bool.and_eq_true, Bool.or_eq_true, Bool.or_eq_false_iff] at h)) | (refine hK _ ?_; clear hK K) | (with_reducible refine andI ?_))
      all_goals first | (exfalso; omega) | exact ⟨(i + 1, x.1), hi, by simp only; omega, (Weak.aC hcx (by refine ⟨?_, ?_, ?_⟩ <;> simp [go_sem, gL, kL, renOf, V.obj, Nat.blt, Nat.ble, List.map_append, dv_push]))⟩ | (refine AW.ret ⟨(7 : Int), trivial, Fin.data rfl ?_ rfl⟩; simp [go_sem]; done) | trace_state
    · have e0 : (x.2 == []) = false := by simp [hp]
      have hk2 := key4 (k2.resolve_left hp)
      repeat' (first | ((first | refine AW.sreg rfl fun K hK => ?_ | refine AW.reg rfl ?_ | refine run_call _ _ _ ((hk).pure rfl rfl _ _) rfl rfl (dstOk_of rfl) rfl rfl rfl ?_ | refine run_call _ _ _ ((hk2).pure rfl rfl _ _) rfl rfl (dstOk_of rfl) rfl rfl rfl ?_); simp only [go_sem, ↓reduceIte, List.length_map, hget, e0]) | (refine AW.seq_k fun K hK => ?_) | (refine AW.block ?_) | (refine AW.skip ?_; simp only [Then, InBlock]) | (refine AW.cT ?_) | (refine AW.cF ?_) | (refine AW.cond rfl (fun h => ?_) (fun h => ?_) <;> (try simp only [decide_eq_true_eq, decide_eq_false_iff_not, Bool.not_eq_true', Bool.not_eq_false', Bool.not_eq_eq_eq_not, Bool.not_true, Bool.not_false, beq_iff_eq, bne_iff_ne, beq_eq_false_iff_ne, ne_eq, Bool.and_eq_true, Bool.or_eq_true, Bool.or_eq_false_iff] at h)) | (refine hK _ ?_; clear hK K) | (with_reducible refine andI ?_))
      all_goals first | (exfalso; omega) | exact ⟨(i + 1, x.1), hi, by simp only; omega, (Weak.aC hcx (by refine ⟨?_, ?_, ?_⟩ <;> simp [go_sem, gL, kL, renOf, V.obj, Nat.blt, Nat.ble, List.map_append, dv_push]))⟩ | (refine AW.ret ⟨(7 : Int), trivial, Fin.data rfl ?_ rfl⟩; simp [go_sem]; done) | trace_state
  · obtain rfl : i = ps.length := by omega
    repeat' (first | (refine AW.sreg rfl fun K hK => ?_; simp only [go_sem, ↓reduceIte, List.length_map]) | (refine AW.seq_k fun K hK => ?_) | (refine AW.block ?_) | (refine AW.exit ?_; simp only [go_sem, ↓reduceIte]) | (refine AW.cF ?_) | (refine hK _ ?_; clear hK K) | (clear hK K; refine hK _ ?_; clear hK K))
    refine AW.loopF (ι := Nat) [0, 42, 43] (fun p => [(44, I p)]) (fun p => []) 60 (fun p => p ≤ ps.length) (fun p => ps.length - p) 0 (Nat.zero_le _) (Weak.aC hcx (by refine ⟨?_, ?_, ?_⟩ <;> simp [go_sem, gL, kL, renOf, V.obj, Nat.blt, Nat.ble, List.map_append, dv_push])) ?_; simp only [St.at_nil, St.at_cons, lk, Nat.reduceEqDiff, ↓reduceIte, Option.getD_some, Option.getD_none, List.cons_append, List.nil_append, List.append_nil]
    intro i h1
    by_cases hi : i < ps.length
    · obtain ⟨x, hx, hxm, hxd⟩ := get_some hi
      have hget : (ps.map plD)[i]? = some (plD x) := by simp [hx]
      have hpa := placeAt_any ps (by omega) x.2
      by_cases hp : x.2 = []
      · have e0 : (x.2 == []) = true := by simp [hp]
        repeat' (first | ((first | refine AW.sreg rfl fun K hK => ?_ | refine AW.reg rfl ?_); simp only [go_sem, ↓reduceIte, List.length_map, hget, e0]) | (refine AW.seq_k fun K hK => ?_) | (refine AW.block ?_) | (refine AW.skip ?_; simp only [Then, InBlock]) | (refine AW.cT ?_) | (refine AW.cF ?_) | (refine hK _ ?_; clear hK K) | (with_reducible refine andI ?_))
        all_goals first | (exfalso; omega) | exact ⟨i + 1, hi, by omega, (Weak.aC hcx (by refine ⟨?_, ?_, ?_⟩ <;> simp [go_sem, gL, kL, renOf, V.obj, Nat.blt, Nat.ble, List.map_append, dv_push]))⟩ | trace_state
      · have e0 : (x.2 == []) = false := by simp [hp]
        repeat' (first | ((first | refine AW.sreg rfl fun K hK => ?_ | refine AW.reg rfl ?_ | refine run_call _ _ _ ((hpa).pure rfl rfl _ _) rfl rfl (dstOk_of rfl) rfl rfl rfl ?_); simp only [go_sem, ↓reduceIte, List.length_map, hget, e0]) | (refine AW.seq_k fun K hK => ?_) | (refine AW.block ?_) | (refine AW.skip ?_; simp only [Then, InBlock]) | (refine AW.cT ?_) | (refine AW.cond rfl (fun h => ?_) (fun h => ?_) <;> (try simp only [decide_eq_true_eq, decide_eq_false_iff_not, Bool.not_eq_true', Bool.not_eq_false', Bool.not_eq_eq_eq_not, Bool.not_true, Bool.not_false, beq_iff_eq, bne_iff_ne, beq_eq_false_iff_ne, ne_eq, Bool.and_eq_true, Bool.or_eq_true, Bool.or_eq_false_iff] at h)) | (refine hK _ ?_; clear hK K) | (with_reducible refine andI ?_))
        all_goals first | (exfalso; omega) | exact ⟨i + 1, hi, by omega, (Weak.aC hcx (by refine ⟨?_, ?_, ?_⟩ <;> simp [go_sem, gL, kL, renOf, V.obj, Nat.blt, Nat.ble, List.map_append, dv_push]))⟩ | (refine AW.ret ⟨(8 : Int), trivial, Fin.data rfl ?_ rfl⟩; simp [go_sem]; done) | trace_state
    · obtain rfl : i = ps.length := by omega
      repeat' (first | (refine AW.sreg rfl fun K hK => ?_; simp only [go_sem, ↓reduceIte, List.length_map]) | (refine AW.seq_k fun K hK => ?_) | (refine AW.block ?_) | (refine AW.exit ?_; simp only [go_sem, ↓reduceIte]) | (refine AW.cF ?_) | (refine hK _ ?_; clear hK K) | (clear hK K; refine hK _ ?_; clear hK K))
      refine AW.loopF (ι := Nat) [0, 59, 60] (fun p => [(61, I p)]) (fun p => []) 120 (fun p => p ≤ ps.length) (fun p => ps.length - p) 0 (Nat.zero_le _) (Weak.aC hcx (by refine ⟨?_, ?_, ?_⟩ <;> simp [go_sem, gL, kL, renOf, V.obj, Nat.blt, Nat.ble, List.map_append, dv_push])) ?_; simp only [St.at_nil, St.at_cons, lk, Nat.reduceEqDiff, ↓reduceIte, Option.getD_some, Option.getD_none, List.cons_append, List.nil_append, List.append_nil]
      intro i h1
      by_cases hi : i < ps.length
      · obtain ⟨x, hx, hxm, hxd⟩ := get_some hi
        have hget : (ps.map plD)[i]? = some (plD x) := by simp [hx]
        have hab := aboveOf_any ps (by omega) h.ok.nd x.1
        have hct := contains_St (abvN ps (ps.length + 1) x.1) (abvN_len ps _ _ (by omega)) x.1
        generalize abvN ps (ps.length + 1) x.1 = L at hab hct
        repeat' (first | ((first | refine AW.sreg rfl fun K hK => ?_ | refine AW.sregD hmix rfl fun K hK => ?_ | refine AW.reg rfl ?_ | refine runT_call _ _ [] (fun hv _ => (hab).pure rfl rfl hv _) rfl rfl (dstOk_of rfl) rfl rfl ?_ | refine runT_call _ _ [] (fun hv _ => (hct).pure rfl rfl hv _) rfl rfl (dstOk_of rfl) rfl rfl ?_); simp only [go_sem, ↓reduceIte, List.length_map, hget]) | (refine AW.seq_k fun K hK => ?_) | (refine AW.block ?_) | (refine AW.skip ?_; simp only [Then, InBlock]) | (refine AW.cT ?_) | (refine AW.cond rfl (fun h => ?_) (fun h => ?_) <;> (try simp only [decide_eq_true_eq, decide_eq_false_iff_not, Bool.not_eq_true', Bool.not_eq_false', Bool.not_eq_eq_eq_not, Bool.not_true, Bool.not_false, beq_iff_eq, bne_iff_ne, beq_eq_false_iff_ne, ne_eq, Bool.and_eq_true, Bool.or_eq_true, Bool.or_eq_false_iff] at h)) | (refine hK _ ?_; clear hK K) | (with_reducible refine And.intro (?_ : regOk _ _ = true) ?_; kernel_rfl) | (with_reducible refine andI ?_))
        all_goals first | (exfalso; omega) | exact ⟨i + 1, hi, by omega, (Weak.aC hcx (by refine ⟨?_, ?_, ?_⟩ <;> simp [go_sem, gL, kL, renOf, V.obj, Nat.blt, Nat.ble, List.map_append, dv_push]))⟩ | (refine AW.ret ⟨(14 : Int), trivial, Fin.data rfl ?_ rfl⟩; simp [go_sem]; done) | trace_state
      · obtain rfl : i = ps.length := by omega
        repeat' (first | (refine AW.sreg rfl fun K hK => ?_; simp only [go_sem, ↓reduceIte, List.length_map]) | (refine AW.seq_k fun K hK => ?_) | (refine AW.exit ?_; simp only [go_sem, ↓reduceIte]) | (refine AW.cF ?_) | (refine hK _ ?_; clear hK K) | (clear hK K; refine hK _ ?_; clear hK K))
        exact AW.ret ⟨(0 : Int), trivial, Fin.data rfl (by simp [go_sem]) rfl⟩
end Go.AX

namespace Go.AX
open Go Go.Proofs Go.RowKit
theorem risingR (l : List Str) (hl : l.length ≤ 1000) (hm : ∀ s ∈ l, s ∈ MG) : DoesI Tryz.prog 156 [.d (.sl (l.map .str)), .fn 157 [], I 3] [] (fun _ : Int => True) (fun e => I e) (fun _ => []) := by
  refine DoesI.of_AW (n := 33) Tryz.func156 rfl rfl rfl fun cx hcx => ?_
  repeat' (first | (refine AW.sreg rfl fun K hK => ?_; simp only [go_sem, ↓reduceIte, List.length_map]) | (refine AW.seq_k fun K hK => ?_) | (refine AW.block ?_) | (refine hK _ ?_; clear hK K))
  refine AW.loopF (ι := Nat) [0, 1, 2, 9, 10] (fun p => [(11, I p)]) (fun p => []) 20 (fun p => p ≤ l.length) (fun p => l.length - p) 0 (Nat.zero_le _) (Weak.aC hcx (by refine ⟨?_, ?_, ?_⟩ <;> simp [go_sem, gL, kL, renOf, V.obj, Nat.blt, Nat.ble, List.map_append, dv_push])) ?_; simp only [St.at_nil, St.at_cons, lk, Nat.reduceEqDiff, ↓reduceIte, Option.getD_some, Option.getD_none, List.cons_append, List.nil_append, List.append_nil]
  intro i h1
  by_cases hi : i < l.length
  · obtain ⟨x, hx, hxm, hxd⟩ := get_some hi
    have hget : (l.map D.str)[i]? = some (.str x) := by simp [hx]
    have hk := mailR x (hm x hxm)
    rcases i with _ | j
    · repeat' (first | ((first | refine AW.sreg rfl fun K hK => ?_ | refine AW.reg rfl ?_ | refine run_call _ _ _ ((hk).pure rfl rfl _ _) rfl rfl (dstOk_of rfl) rfl rfl rfl ?_); simp only [go_sem, ↓reduceIte, List.length_map, hget]) | (refine AW.seq_k fun K hK => ?_) | (refine AW.block ?_) | (refine AW.skip ?_; simp only [Then, InBlock]) | (refine AW.cT ?_) | (refine AW.cF ?_) | (refine hK _ ?_; clear hK K) | (refine stepB_split (fun h => ?_) (fun h => ?_) <;> (have hb0 := h) <;> (try simp only [Bool.not_eq_true', Bool.not_eq_false'] at hb0) <;> (try simp only [decide_eq_true_eq, decide_eq_false_iff_not, Bool.not_eq_true', Bool.not_eq_false', Bool.not_eq_eq_eq_not, Bool.not_true, Bool.not_false, beq_iff_eq, bne_iff_ne, beq_eq_false_iff_ne, ne_eq, Bool.and_eq_true, Bool.or_eq_true, Bool.or_eq_false_iff] at h) <;> simp only [go_sem, ↓reduceIte, hb0, h, decide_true, decide_false, List.length_map, hget] <;> (try clear hb0)) | (with_reducible refine andI ?_) | (exfalso; omega))
      all_goals first | (exfalso; omega) | exact ⟨_ + 1, hi, by omega, (Weak.aC hcx (by refine ⟨?_, ?_, ?_⟩ <;> simp [go_sem, gL, kL, renOf, V.obj, Nat.blt, Nat.ble, List.map_append, dv_push]))⟩ | (refine AW.ret ⟨(7 : Int), trivial, Fin.data rfl ?_ rfl⟩; simp [go_sem]; done) | trace_state
    · obtain ⟨y, hy, hym, hyd⟩ := get_some (show j < l.length by omega)
      have hget2 : (l.map D.str)[(((j + 1 : Nat) : Int) - 1).toNat]? = some (.str y) := by
        rw [show (((j + 1 : Nat) : Int) - 1).toNat = j by omega]; simp [hy]
      repeat' (first | ((first | refine AW.sreg rfl fun K hK => ?_ | refine AW.reg rfl ?_ | refine run_call _ _ _ ((hk).pure rfl rfl _ _) rfl rfl (dstOk_of rfl) rfl rfl rfl ?_); simp only [go_sem, ↓reduceIte, List.length_map, hget, hget2]) | (refine AW.seq_k fun K hK => ?_) | (refine AW.block ?_) | (refine AW.skip ?_; simp only [Then, InBlock]) | (refine AW.cT ?_) | (refine AW.cF ?_) | (refine AW.cond rfl (fun h => ?_) (fun h => ?_) <;> (try simp only [decide_eq_true_eq, decide_eq_false_iff_not, Bool.not_eq_true', Bool.not_eq_false', Bool.not_eq_eq_eq_not, Bool.not_true, Bool.not_false, beq_iff_eq, bne_iff_ne, beq_eq_false_iff_ne, ne_eq, Bool.and_eq_true, Bool.or_eq_true, Bool.or_eq_false_iff] at h)) | (refine hK _ ?_; clear hK K) | (refine stepB_split (fun h => ?_) (fun h => ?_) <;> (have hb0 := h) <;> (try simp only [Bool.not_eq_true', Bool.not_eq_false'] at hb0) <;> (try simp only [decide_eq_true_eq, decide_eq_false_iff_not, Bool.not_eq_true', Bool.not_eq_false', Bool.not_eq_eq_eq_not, Bool.not_true, Bool.not_false, beq_iff_eq, bne_iff_ne, beq_eq_false_iff_ne, ne_eq, Bool.and_eq_true, Bool.or_eq_true, Bool.or_eq_false_iff] at h) <;> simp only [go_sem, ↓reduceIte, hb0, h, decide_true, decide_false, List.length_map, hget, hget2] <;> (try clear hb0)) | (with_reducible refine andI ?_) | (exfalso; omega))
      all_goals first | (exfalso; omega) | exact ⟨_ + 1, hi, by omega, (Weak.aC hcx (by refine ⟨?_, ?_, ?_⟩ <;> simp [go_sem, gL, kL, renOf, V.obj, Nat.blt, Nat.ble, List.map_append, dv_push]))⟩ | (refine AW.ret ⟨(7 : Int), trivial, Fin.data rfl ?_ rfl⟩; simp [go_sem]; done) | trace_state
  · obtain rfl : i = l.length := by omega
    repeat' (first | (refine AW.sreg rfl fun K hK => ?_; simp only [go_sem, ↓reduceIte, List.length_map]) | (refine AW.seq_k fun K hK => ?_) | (refine AW.exit ?_; simp only [go_sem, ↓reduceIte]) | (refine AW.cF ?_) | (refine hK _ ?_; clear hK K) | (clear hK K; refine hK _ ?_; clear hK K))
    exact AW.ret ⟨(0 : Int), trivial, Fin.data rfl (by simp [go_sem]) rfl⟩
end Go.AX

namespace Go.AX
open Go Go.Proofs Go.RowKit
theorem personFaultR (ps : List Pl) (hc : PlC ps) (key : Str) (hk : key ∈ K7) (ns : List Nm) (hn : ns.length ≤ 10 ∧ ∀ n ∈ ns, n.1 ∈ SNm) (hs : List Hm) (hh : OkHm ps hs) (ms : List Str) (hm : ms.length ≤ 10 ∧ ∀ m ∈ ms, m ∈ MG) (la : Str) :
    DoesI Tryz.prog 93 [.d (.sl (ps.map plD)), .d (peD ⟨key, ns, hs, ms, []⟩), S la] [] (fun e : Int => e = 0 → ∀ n ∈ ns, n.1 ∈ NG) (fun e => I e) (fun _ => []) := by
  have hkk := keyQ key (List.mem_append_left _ hk)
  have hnf := namesFaultR ns hn.1 hn.2
  have hri := risingR ms (by have := hm.1; omega) hm.2
  have hl1 := hh.len
  have hl2 := hm.1
  refine DoesI.of_AW (n := 115) Tryz.func93 rfl rfl rfl fun cx hcx => ?_
  repeat' (first | ((first | refine AW.sreg rfl fun K hK => ?_ | refine run_call _ _ _ ((hkk).pure rfl rfl _ _) rfl rfl (dstOk_of rfl) rfl rfl rfl ?_); simp only [go_sem, ↓reduceIte, List.length_map]) | (refine AW.seq_k fun K hK => ?_) | (refine AW.block ?_) | (refine AW.skip ?_; simp only [Then, InBlock]) | (refine AW.cF ?_) | (refine AW.cond rfl (fun h => ?_) (fun h => ?_) <;> (try simp only [decide_eq_true_eq, decide_eq_false_iff_not, Bool.not_eq_true', Bool.not_eq_false', Bool.not_eq_eq_eq_not, Bool.not_true, Bool.not_false, beq_iff_eq, bne_iff_ne, beq_eq_false_iff_ne, ne_eq, Bool.and_eq_true, Bool.or_eq_true, Bool.or_eq_false_iff] at h)) | (refine hK _ ?_; clear hK K) | (refine run_callI _ _ _ ((hnf).pure rfl (fun _ => rfl) _ _) rfl rfl (dstOk_of rfl) rfl rfl rfl ?_; rintro e he; (try dsimp only at e); (try dsimp only at he); simp only [go_sem, ↓reduceIte, List.length_map]))
  · (refine AW.ret ⟨(7 : Int), fun h => absurd h (by decide), Fin.data rfl ?_ rfl⟩; simp [go_sem]; done)
  · exact AW.ret ⟨e, he, Fin.data rfl (by simp [go_sem]) rfl⟩
  have he0 : e = 0 := by first | omega | simp_all
  have hng := he he0
  refine AW.loopF (ι := Nat) [0, 4, 35, 36] (fun p => [(37, I p)]) (fun p => [(0, some (O.box 50 [S key, .d (.sl (ns.map nmD)), .d (.sl (hs.map hmD)), .d (.sl (ms.map D.str)), .d (.sl [])]))]) 40 (fun p => p ≤ hs.length) (fun p => hs.length - p) 0 (Nat.zero_le _) (Weak.aC hcx (by refine ⟨?_, ?_, ?_⟩ <;> simp [go_sem, gL, kL, renOf, V.obj, Nat.blt, Nat.ble, List.map_append, dv_push])) ?_; simp only [St.at_nil, St.at_cons, lk, Nat.reduceEqDiff, ↓reduceIte, Option.getD_some, Option.getD_none, List.cons_append, List.nil_append, List.append_nil]
  intro i h1
  by_cases hi : i < hs.length
  · obtain ⟨x, hx, hxm, hxd⟩ := get_some hi
    have hget : (hs.map hmD)[i]? = some (hmD x) := by simp [hx]
    have hpa := placeAt_any ps (by have := hc.len; omega) x.1
    have hxb := hh.hm x hxm
    rcases i with _ | j
    · repeat' (first | ((first | refine AW.sreg rfl fun K hK => ?_ | refine AW.sregD hmix rfl fun K hK => ?_ | refine AW.reg rfl ?_ | refine run_call _ _ _ ((hpa).pure rfl rfl _ _) rfl rfl (dstOk_of rfl) rfl rfl rfl ?_); simp only [go_sem, ↓reduceIte, List.length_map, hget]) | (refine AW.seq_k fun K hK => ?_) | (refine AW.block ?_) | (refine AW.skip ?_; simp only [Then, InBlock]) | (refine AW.cT ?_) | (refine AW.cF ?_) | (refine AW.cond rfl (fun h => ?_) (fun h => ?_) <;> (try simp only [decide_eq_true_eq, decide_eq_false_iff_not, Bool.not_eq_true', Bool.not_eq_false', Bool.not_eq_eq_eq_not, Bool.not_true, Bool.not_false, beq_iff_eq, bne_iff_ne, beq_eq_false_iff_ne, ne_eq, Bool.and_eq_true, Bool.or_eq_true, Bool.or_eq_false_iff] at h)) | (refine hK _ ?_; clear hK K) | (refine stepB_split (fun h => ?_) (fun h => ?_) <;> (have hb0 := h) <;> (try simp only [Bool.not_eq_true', Bool.not_eq_false'] at hb0) <;> (try simp only [decide_eq_true_eq, decide_eq_false_iff_not, Bool.not_eq_true', Bool.not_eq_false', Bool.not_eq_eq_eq_not, Bool.not_true, Bool.not_false, beq_iff_eq, bne_iff_ne, beq_eq_false_iff_ne, ne_eq, Bool.and_eq_true, Bool.or_eq_true, Bool.or_eq_false_iff] at h) <;> simp only [go_sem, ↓reduceIte, hb0, h, decide_true, decide_false, List.length_map, hget] <;> (try clear hb0)) | (refine stepBT_split (fun h => ?_) (fun h => ?_) <;> (have hb0 := h) <;> (try simp only [Bool.not_eq_true', Bool.not_eq_false'] at hb0) <;> (try simp only [decide_eq_true_eq, decide_eq_false_iff_not, Bool.not_eq_true', Bool.not_eq_false', Bool.not_eq_eq_eq_not, Bool.not_true, Bool.not_false, beq_iff_eq, bne_iff_ne, beq_eq_false_iff_ne, ne_eq, Bool.and_eq_true, Bool.or_eq_true, Bool.or_eq_false_iff] at h) <;> simp only [go_sem, ↓reduceIte, hb0, h, decide_true, decide_false, List.length_map, hget] <;> (try clear hb0)) | (with_reducible refine And.intro (?_ : regOk _ _ = true) ?_; kernel_rfl) | (with_reducible refine andI ?_) | (exfalso; omega))
      all_goals first | (exfalso; omega) | exact ⟨_ + 1, hi, by omega, (Weak.aC hcx (by refine ⟨?_, ?_, ?_⟩ <;> simp [go_sem, gL, kL, renOf, V.obj, Nat.blt, Nat.ble, List.map_append, dv_push]))⟩ | (refine AW.ret ⟨(8 : Int), fun h => absurd h (by decide), Fin.data rfl ?_ rfl⟩; simp [go_sem]; done) | (refine AW.ret ⟨(1 : Int), fun h => absurd h (by decide), Fin.data rfl ?_ rfl⟩; simp [go_sem]; done) | (refine AW.ret ⟨(7 : Int), fun h => absurd h (by decide), Fin.data rfl ?_ rfl⟩; simp [go_sem]; done) | trace_state
    · obtain ⟨y, hy, hym, hyd⟩ := get_some (show j < hs.length by omega)
      have hget2 : (hs.map hmD)[(((j + 1 : Nat) : Int) - 1).toNat]? = some (hmD y) := by
        rw [show (((j + 1 : Nat) : Int) - 1).toNat = j by omega]; simp [hy]
      have hyb := hh.hm y hym
      have hho := homeOrder_any ⟨y, by simp only [hmB]; omega⟩ ⟨x, by simp only [hmB]; omega⟩
      repeat' (first | ((first | refine AW.sreg rfl fun K hK => ?_ | refine AW.sregD hmix rfl fun K hK => ?_ | refine AW.reg rfl ?_ | refine run_call _ _ _ ((hpa).pure rfl rfl _ _) rfl rfl (dstOk_of rfl) rfl rfl rfl ?_ | refine runT_call _ _ [] (fun hv _ => (hho).pure rfl rfl hv _) rfl rfl (dstOk_of rfl) rfl rfl ?_); simp only [go_sem, ↓reduceIte, List.length_map, hget, hget2]) | (refine AW.seq_k fun K hK => ?_) | (refine AW.block ?_) | (refine AW.skip ?_; simp only [Then, InBlock]) | (refine AW.cT ?_) | (refine AW.cF ?_) | (refine AW.cond rfl (fun h => ?_) (fun h => ?_) <;> (try simp only [decide_eq_true_eq, decide_eq_false_iff_not, Bool.not_eq_true', Bool.not_eq_false', Bool.not_eq_eq_eq_not, Bool.not_true, Bool.not_false, beq_iff_eq, bne_iff_ne, beq_eq_false_iff_ne, ne_eq, Bool.and_eq_true, Bool.or_eq_true, Bool.or_eq_false_iff] at h)) | (refine hK _ ?_; clear hK K) | (refine stepB_split (fun h => ?_) (fun h => ?_) <;> (have hb0 := h) <;> (try simp only [Bool.not_eq_true', Bool.not_eq_false'] at hb0) <;> (try simp only [decide_eq_true_eq, decide_eq_false_iff_not, Bool.not_eq_true', Bool.not_eq_false', Bool.not_eq_eq_eq_not, Bool.not_true, Bool.not_false, beq_iff_eq, bne_iff_ne, beq_eq_false_iff_ne, ne_eq, Bool.and_eq_true, Bool.or_eq_true, Bool.or_eq_false_iff] at h) <;> simp only [go_sem, ↓reduceIte, hb0, h, decide_true, decide_false, List.length_map, hget, hget2] <;> (try clear hb0)) | (refine stepBT_split (fun h => ?_) (fun h => ?_) <;> (have hb0 := h) <;> (try simp only [Bool.not_eq_true', Bool.not_eq_false'] at hb0) <;> (try simp only [decide_eq_true_eq, decide_eq_false_iff_not, Bool.not_eq_true', Bool.not_eq_false', Bool.not_eq_eq_eq_not, Bool.not_true, Bool.not_false, beq_iff_eq, bne_iff_ne, beq_eq_false_iff_ne, ne_eq, Bool.and_eq_true, Bool.or_eq_true, Bool.or_eq_false_iff] at h) <;> simp only [go_sem, ↓reduceIte, hb0, h, decide_true, decide_false, List.length_map, hget, hget2] <;> (try clear hb0)) | (with_reducible refine And.intro (?_ : regOk _ _ = true) ?_; kernel_rfl) | (with_reducible refine andI ?_) | (exfalso; omega))
      all_goals first | (exfalso; omega) | exact ⟨_ + 1, hi, by omega, (Weak.aC hcx (by refine ⟨?_, ?_, ?_⟩ <;> simp [go_sem, gL, kL, renOf, V.obj, Nat.blt, Nat.ble, List.map_append, dv_push]))⟩ | (refine AW.ret ⟨(8 : Int), fun h => absurd h (by decide), Fin.data rfl ?_ rfl⟩; simp [go_sem]; done) | (refine AW.ret ⟨(1 : Int), fun h => absurd h (by decide), Fin.data rfl ?_ rfl⟩; simp [go_sem]; done) | (refine AW.ret ⟨(7 : Int), fun h => absurd h (by decide), Fin.data rfl ?_ rfl⟩; simp [go_sem]; done) | trace_state
  · obtain rfl : i = hs.length := by omega
    repeat' (first | (refine AW.sreg rfl fun K hK => ?_; simp only [go_sem, ↓reduceIte, List.length_map, List.length_nil]) | (refine AW.seq_k fun K hK => ?_) | (refine AW.block ?_) | (refine AW.skip ?_; simp only [Then, InBlock]) | (refine AW.exit ?_; simp only [go_sem, ↓reduceIte]) | (refine AW.cF ?_) | (refine AW.cond rfl (fun h => ?_) (fun h => ?_) <;> (try simp only [decide_eq_true_eq, decide_eq_false_iff_not, Bool.not_eq_true', Bool.not_eq_false', Bool.not_eq_eq_eq_not, Bool.not_true, Bool.not_false, beq_iff_eq, bne_iff_ne, beq_eq_false_iff_ne, ne_eq, Bool.and_eq_true, Bool.or_eq_true, Bool.or_eq_false_iff] at h)) | (refine hK _ ?_; clear hK K) | (clear hK K; refine hK _ ?_; clear hK K) | (refine run_callI _ _ _ ((hri).pure rfl (fun _ => rfl) _ _) rfl rfl (dstOk_of rfl) rfl rfl rfl ?_; rintro e2 he2; (try dsimp only at e2); (try dsimp only at he2); simp only [go_sem, ↓reduceIte, List.length_map, List.length_nil]))
    · exact AW.ret ⟨e2, fun _ => hng, Fin.data rfl (by simp [go_sem]) rfl⟩
    refine AW.loopF (ι := Unit) [4, 94, 95] (fun p => [(96, I 0)]) (fun p => []) 120 (fun p => True) (fun p => 0) () trivial (Weak.aC hcx (by refine ⟨?_, ?_, ?_⟩ <;> simp [go_sem, gL, kL, renOf, V.obj, Nat.blt, Nat.ble, List.map_append, dv_push])) ?_; simp only [St.at_nil, St.at_cons, lk, Nat.reduceEqDiff, ↓reduceIte, Option.getD_some, Option.getD_none, List.cons_append, List.nil_append, List.append_nil]
    rintro ⟨⟩ _
    repeat' (first | (refine AW.sreg rfl fun K hK => ?_; simp only [go_sem, ↓reduceIte, List.length_nil]) | (refine AW.seq_k fun K hK => ?_) | (refine AW.exit ?_; simp only [go_sem, ↓reduceIte]) | (refine AW.cF ?_) | (refine hK _ ?_; clear hK K) | (clear hK K; refine hK _ ?_; clear hK K))
    exact AW.ret ⟨(0 : Int), fun _ => hng, Fin.data rfl (by simp [go_sem]) rfl⟩
end Go.AX

namespace Go.AX
open Go Go.Proofs Go.RowKit
theorem worksFaultR (ps : List Pl) (p : Pe) : Does Tryz.prog 95 [.agg [.d (.sl (ps.map plD)), .d (.sl [peD p]), .nils, .nils]] [] (I 0) [] := by
  obtain ⟨key, ns, hs, ms, ads⟩ := p
  refine Does.of_AW (n := 103) Tryz.func95 rfl rfl rfl fun cx hcx => ?_
  repeat' (first | (refine AW.sreg rfl fun K hK => ?_; simp only [go_sem, ↓reduceIte, List.map_nil, List.length_nil, Value.oneCell']) | (refine AW.seq_k fun K hK => ?_) | (refine AW.block ?_) | (refine AW.skip ?_; simp only [Then, InBlock]) | (refine AW.exit ?_; simp only [go_sem, ↓reduceIte]) | (refine AW.cF ?_) | (refine hK _ ?_; clear hK K) | (clear hK K; refine hK _ ?_; clear hK K) | (refine AW.unroll 1 ?_; simp only [AWr]) | (refine AW.ret (Fin.data rfl (by first | (simp only [go_sem]; done) | (simp [go_sem, *]; done) | (simp [go_sem]; omega) | rfl) rfl)))
theorem worldFaultR (ps : List Pl) (hc : PlC ps) (key : Str) (hk : key ∈ K7) (ns : List Nm) (hn : ns.length ≤ 10 ∧ ∀ n ∈ ns, n.1 ∈ SNm) (hs : List Hm) (hh : OkHm ps hs) (ms : List Str) (hm : ms.length ≤ 10 ∧ ∀ m ∈ ms, m ∈ MG) :
    DoesI Tryz.prog 27 [.agg [.d (.sl (ps.map plD)), .d (.sl [peD ⟨key, ns, hs, ms, []⟩]), .nils, .nils]] [] (fun e : Int => e = 0 → ∀ n ∈ ns, n.1 ∈ NG) (fun e => I e) (fun _ => []) := by
  have h1 := placesFaultR ps hc
  have h2 := personFaultR ps hc key hk ns hn hs hh ms hm []
  have h3 := worksFaultR ps ⟨key, ns, hs, ms, []⟩
  refine DoesI.of_AW (n := 62) Tryz.func27 rfl rfl rfl fun cx hcx => ?_
  repeat' (first | ((first | refine AW.sreg rfl fun K hK => ?_ | refine AW.reg rfl ?_ | refine run_call _ _ _ ((h3).pure rfl rfl _ _) rfl rfl (dstOk_of rfl) rfl rfl rfl ?_); simp only [go_sem, ↓reduceIte, List.map_nil, List.map_cons, List.length_nil, List.length_cons, List.getElem?_cons_zero, Int.zero_add, Int.reduceAdd, Nat.zero_add]) | (refine AW.seq_k fun K hK => ?_) | (refine AW.block ?_) | (refine AW.skip ?_; simp only [Then, InBlock]) | (refine AW.exit ?_; simp only [go_sem, ↓reduceIte]) | (refine AW.cT ?_) | (refine AW.cF ?_) | (refine AW.cond rfl (fun h => ?_) (fun h => ?_) <;> (try simp only [decide_eq_true_eq, decide_eq_false_iff_not, Bool.not_eq_true', Bool.not_eq_false', Bool.not_eq_eq_eq_not, Bool.not_true, Bool.not_false, beq_iff_eq, bne_iff_ne, beq_eq_false_iff_ne, ne_eq, Bool.and_eq_true, Bool.or_eq_true, Bool.or_eq_false_iff] at h)) | (refine hK _ ?_; clear hK K) | (clear hK K; refine hK _ ?_; clear hK K) | (refine run_callI _ _ _ ((h1).pure rfl (fun _ => rfl) _ _) rfl rfl (dstOk_of rfl) rfl rfl rfl ?_; rintro e1 he1; (try dsimp only at e1); (try dsimp only at he1); simp only [go_sem, ↓reduceIte, List.map_nil, List.map_cons, List.length_nil, List.length_cons, List.getElem?_cons_zero, Int.zero_add, Int.reduceAdd, Nat.zero_add]) | (refine run_callI _ _ _ ((h2).pure rfl (fun _ => rfl) _ _) rfl rfl (dstOk_of rfl) rfl rfl rfl ?_; rintro e2 he2; (try dsimp only at e2); (try dsimp only at he2); simp only [go_sem, ↓reduceIte, List.map_nil, List.map_cons, List.length_nil, List.length_cons, List.getElem?_cons_zero, Int.zero_add, Int.reduceAdd, Nat.zero_add]) | (refine AW.unroll 2 ?_; simp only [AWr]) | (with_reducible refine andI ?_))
  all_goals first | (exfalso; omega) | (refine AW.ret ⟨(0 : Int), fun _ => he2 (by simpa using h), Fin.data rfl ?_ rfl⟩; simp [go_sem]; done) | (refine AW.ret ⟨e2, he2, Fin.data rfl ?_ rfl⟩; simp [go_sem]; done) | (refine AW.ret ⟨e1, fun h => absurd h (by omega), Fin.data rfl ?_ rfl⟩; simp [go_sem]; done) | trace_state
end Go.AX

namespace Go.AX
open Go Go.Proofs Go.RowKit
theorem someName_any (l : List Int) (hl2 : l.length ≤ 9223372036854775807) (at_ : Int) (ha : 0 ≤ at_) (hb : at_ ≤ 100000) :
    ∃ (t : Str) (a : Int), t ∈ SNm ∧ at_ ≤ a ∧ a ≤ at_ + 3 ∧ Does Tryz.prog 25 [.ptr 0 0] [Stm l at_] (S t) [Stm l a] := by
  have hf := flip_any l hl2 at_ 40 (by omega) (by omega) (by omega) (by omega)
  cases hr : (nextV l at_ 40 == 0) with
  | true =>
    rw [hr] at hf
    have hp := pick_any l hl2 (at_ + 1) (by omega) (by omega) [100, 101] (by simp) (by simp)
    have hp2 := pick_mem l (at_ + 1) [100, 101] (by simp)
    generalize ([100, 101] : List Int).getD (nextV l (at_ + 1) ([100, 101] : List Int).length).toNat 0 = k at hp hp2
    obtain ⟨q, rfl, hq⟩ : ∃ q : Nat, k = (q : Int) ∧ (q = 100 ∨ q = 101) := by
      simp only [List.mem_cons, List.not_mem_nil, or_false] at hp2
      rcases hp2 with rfl | rfl
      · exact ⟨100, rfl, .inl rfl⟩
      · exact ⟨101, rfl, .inr rfl⟩
    have h2 := one10_any l hl2 (at_ + 1 + 1) (by omega) (by omega) (SBf q) (by simp [SBf]) (by simp [SBf])
    have h3 := one_mem l (at_ + 1 + 1) (SBf q) (by simp [SBf])
    generalize (SBf q).getD (nextV l (at_ + 1 + 1) (SBf q).length).toNat [] = t2 at h2 h3
    have hr1 := repeat_n q (by omega)
    refine ⟨t2, at_ + 1 + 1 + 1, by rcases hq with rfl | rfl <;> simp [SNm, h3], by omega, by omega, ?_⟩
    refine Does.of_AW (n := 15) Tryz.func25 rfl rfl rfl fun cx hcx => ?_
    repeat' (first | ((first | refine AW.sreg rfl fun K hK => ?_ | refine run_call _ _ _ ((hf).objA [0]) rfl rfl (dstOk_of rfl) rfl rfl rfl ?_ | refine run_call _ _ _ ((hp).objA [0, _]) rfl rfl (dstOk_of rfl) rfl rfl rfl ?_ | refine run_call _ _ _ ((hr1).pure rfl rfl _ _) rfl rfl (dstOk_of rfl) rfl rfl rfl ?_ | refine run_call _ _ _ ((h2).objA [0, _]) rfl rfl (dstOk_of rfl) rfl rfl rfl ?_); simp only [go_sem, ↓reduceIte]) | (refine AW.seq_k fun K hK => ?_) | (refine AW.cT ?_) | (refine hK _ ?_; clear hK K))
    all_goals first | exact AW.ret (Fin.one rfl rfl ⟨_, rfl, by simp [go_sem]⟩ rfl rfl rfl) | trace_state
  | false =>
    rw [hr] at hf
    have ho1 := one10_any l hl2 (at_ + 1) (by omega) (by omega) SA (by simp [SA]) (by simp [SA])
    have ht1 := one_mem l (at_ + 1) SA (by simp [SA])
    generalize SA.getD (nextV l (at_ + 1) SA.length).toNat [] = t1 at ho1 ht1
    refine ⟨t1, at_ + 1 + 1, by simp [SNm, ht1], by omega, by omega, ?_⟩
    refine Does.of_AW (n := 15) Tryz.func25 rfl rfl rfl fun cx hcx => ?_
    repeat' (first | ((first | refine AW.sreg rfl fun K hK => ?_ | refine run_call _ _ _ ((hf).objA [0]) rfl rfl (dstOk_of rfl) rfl rfl rfl ?_ | refine run_call _ _ _ ((ho1).objA [0, _]) rfl rfl (dstOk_of rfl) rfl rfl rfl ?_); simp only [go_sem, ↓reduceIte]) | (refine AW.seq_k fun K hK => ?_) | (refine AW.skip ?_; simp only [Then, InBlock]) | (refine AW.cF ?_) | (refine hK _ ?_; clear hK K))
    all_goals first | exact AW.ret (Fin.one rfl rfl ⟨_, rfl, by simp [go_sem]⟩ rfl rfl rfl) | trace_state
def smQ (s : Str) : Bool := (s == []) || (decide (s.length ≤ 10000) && (decide ((Lib.split (lowS s) [32]).length ≤ 1000) && (decide (0 < (wdS s).length) && (decide ((smS s).length ≤ 1000000) && (decide ((lowS s).length ≤ 1000000) && !(smS s == []))))))
theorem SNm_sm : SNm.all smQ = true := by kernel_rfl
theorem simpleN {s : Str} (h : s ∈ SNm) (hne : s ≠ []) : Does Tryz.prog 26 [S s] [] (S (smS s)) [] ∧ (smS s == []) = false := by
  have h1 := List.all_eq_true.1 SNm_sm s h
  have h2 : (s == []) = false := by simp [hne]
  unfold smQ at h1
  rw [h2] at h1
  simp only [Bool.false_or, Bool.and_eq_true, decide_eq_true_eq, Bool.not_eq_true'] at h1
  obtain ⟨a1, a2, a3, a4, a5, a6⟩ := h1
  exact ⟨simpleOf_any s a1 a2 a3 a4 a5, a6⟩
theorem annLee : ([65, 110, 110, 32, 76, 101, 101] : Str) ∈ SNm := by simp [SNm, SA]
end Go.AX
