/- Posts, drawn: what is drawn. -/
import Derived.Test.YtgjmekhidpldnaaGreatDoorRD
set_option linter.unusedSimpArgs false
set_option linter.unusedVariables false
set_option linter.unnecessarySimpa false
set_option maxRecDepth 1000000
set_option maxHeartbeats 4000000
namespace Go.AX
open Go Go.Proofs Go.RowKit
theorem ext105 : Builder.Extra Tryz.prog Tryz.l105_ren where
  sizeBuilder := by kernel_rfl
  liesBuilder := by kernel_rfl
  t5 := Tryz.underlying5
  a5 := Tryz.isAgg5
  z5 := Tryz.sizeOf5
  v5 := Tryz.zeroValue5
  infoByte := by kernel_rfl
  cellsByte := by kernel_rfl
  sizeByte := by kernel_rfl
  neB5 := by decide
theorem repeat_w (c : Nat) (hc : c ≤ 100000) : Does Tryz.prog 26 [S [119], I c] [] (S (Lib.repeatL [119] c)) [] := by
  refine Does.of_below ⟨Tryz.f26, Tryz.func26, rfl, by kernel_rfl⟩ fun w ok vs hg hok hargs => ?_
  simp only [RVl, RV, RD] at hargs
  obtain ⟨v1, r1, e1, rfl, v2, r2, e2, rfl, rfl⟩ := hargs
  subst e2
  obtain rfl : vs = #[.string ⟨#[119]⟩, .int .i64 c] := by cases vs; simp_all
  refine (Any.strings_Repeat Tryz.l105 ext105 ⟨#[119]⟩ c w (by omega) (by simp [ByteArray.size]; omega)).mono fun e w' ⟨h1, h2⟩ => ⟨_, h1, h2, ?_⟩
  simp only [RV, RD]
def odF (l : List Int) (a lo hi : Int) : Int := if fl l a 12 = true then pk l (a + 1) [lo - 1, hi + 1, lo, hi, -1099511627776, 1099511627776] else rg l (a + 1) lo hi
theorem odd_f (l : List Int) (hl2 : l.length ≤ 9223372036854775807) (at_ lo hi : Int) (h1 : lo ≤ hi) (h2 : -1000000000 ≤ lo) (h3 : hi ≤ 1000000000) (ha : 0 ≤ at_) (hb : at_ ≤ 100000) :
    Does Tryz.prog 25 [.ptr 0 0, I lo, I hi] [Stm l at_] (I (odF l at_ lo hi)) [Stm l (at_ + 1 + 1)] := by
  refine Does.of_AW (n := 22) Tryz.func25 rfl rfl rfl fun cx hcx => ?_
  have c1 := flip_f l hl2 at_ 12 (by omega) (by omega) (by omega) (by omega)
  have c2 := pick_f l hl2 (at_ + 1) (by omega) (by omega) [lo - 1, hi + 1, lo, hi, -1099511627776, 1099511627776] (by simp) (by simp)
  have c3 := range_f l hl2 (at_ + 1) lo hi (by omega) (by omega) (by omega) (by omega) (by omega)
  unfold odF
  cases hf : fl l at_ 12 with
  | true =>
    rw [hf] at c1
    rw [if_pos rfl]
    repeat' (first | ((first | refine AW.sreg rfl fun K hK => ?_ | refine run_call _ _ _ ((c1).objs [0] ⟨rfl, trivial⟩ rfl (by decide) (by simp [go_sem, renOs]) (by simp) (by simp) (by simp [go_sem]) (by simp [go_sem]) (by simp [go_sem]) (by simp [go_sem])) rfl rfl (dstOk_of rfl) rfl rfl rfl ?_ | refine run_call _ _ _ ((c2).objs [0, _] ⟨rfl, rfl, trivial⟩ rfl (by decide) (by simp [go_sem, renOs]) (by simp) (by simp) (by simp [go_sem]) (by simp [go_sem]) (by simp [go_sem]) (by simp [go_sem])) rfl rfl (dstOk_of rfl) rfl rfl rfl ?_); simp only [go_sem, Nat.reduceAdd, Nat.reduceMul, Int.reduceToNat, Nat.reduceLT, Nat.reduceLeDiff, Nat.le_refl, Nat.reduceEqDiff, ↓reduceIte, beq_self_eq_true, bne_self_eq_false, Int.reduceBEq, Int.reduceBNe, or_self, true_or, or_true, Option.map_some, Option.map_none]) | (refine AW.seq_k fun K hK => ?_) | (refine AW.condT rfl (by first | rfl | (simp; omega) | (simp [*]; done) | fail) ?_) | (refine hK _ ?_; clear hK K) | (with_reducible refine And.intro ?_ ?_; first | omega | assumption | (focus (decide)) | (focus (simp; done)) | (focus (simp; omega)) | (focus (constructor <;> omega)) | fail) | (refine AW.ret (Fin.one rfl (by first | (simp only [go_sem]; done) | (simp [go_sem, *]; done) | (simp [go_sem]; omega) | fail) ⟨_, rfl, by first | (simp only [go_sem]; done) | (simp [go_sem, *]; done) | fail⟩ rfl rfl rfl)))
  | false =>
    rw [hf] at c1
    rw [if_neg (by simp)]
    repeat' (first | ((first | refine AW.sreg rfl fun K hK => ?_ | refine run_call _ _ _ ((c1).objs [0] ⟨rfl, trivial⟩ rfl (by decide) (by simp [go_sem, renOs]) (by simp) (by simp) (by simp [go_sem]) (by simp [go_sem]) (by simp [go_sem]) (by simp [go_sem])) rfl rfl (dstOk_of rfl) rfl rfl rfl ?_ | refine run_call _ _ _ ((c3).objs [0] ⟨rfl, trivial⟩ rfl (by decide) (by simp [go_sem, renOs]) (by simp) (by simp) (by simp [go_sem]) (by simp [go_sem]) (by simp [go_sem]) (by simp [go_sem])) rfl rfl (dstOk_of rfl) rfl rfl rfl ?_); simp only [go_sem, Nat.reduceAdd, Nat.reduceMul, Int.reduceToNat, Nat.reduceLT, Nat.reduceLeDiff, Nat.le_refl, Nat.reduceEqDiff, ↓reduceIte, beq_self_eq_true, bne_self_eq_false, Int.reduceBEq, Int.reduceBNe, or_self, true_or, or_true, Option.map_some, Option.map_none]) | (refine AW.seq_k fun K hK => ?_) | (refine AW.skip ?_; simp only [Then, InBlock]) | (refine AW.condF rfl (by first | rfl | (simp; omega) | (simp [*]; done) | fail) ?_) | (refine hK _ ?_; clear hK K) | (refine AW.ret (Fin.one rfl (by first | (simp only [go_sem]; done) | (simp [go_sem, *]; done) | (simp [go_sem]; omega) | fail) ⟨_, rfl, by first | (simp only [go_sem]; done) | (simp [go_sem, *]; done) | fail⟩ rfl rfl rfl)))
theorem odF_range (l : List Int) (a lo hi : Int) (h1 : lo ≤ hi) (h2 : -1000000000 ≤ lo) (h3 : hi ≤ 1000000000) : -1099511627776 ≤ odF l a lo hi ∧ odF l a lo hi ≤ 1099511627776 := by
  unfold odF
  split
  · have := pk_mem l (a + 1) [lo - 1, hi + 1, lo, hi, -1099511627776, 1099511627776] (by simp)
    simp only [List.mem_cons, List.not_mem_nil, or_false] at this
    omega
  · have := rg_range l (a + 1) lo hi h1
    omega
theorem odF_mom (l : List Int) (a : Int) : momB (odF l a 0 100) = true → odF l a 0 100 ≤ 101 := by
  intro h
  simp only [momB, Bool.and_eq_true, decide_eq_true_eq] at h
  unfold odF at *
  split
  · rename_i hf
    rw [if_pos hf] at h
    have := pk_mem l (a + 1) [0 - 1, 100 + 1, 0, 100, -1099511627776, 1099511627776] (by simp)
    simp only [List.mem_cons, List.not_mem_nil, or_false] at this
    omega
  · have := rg_range l (a + 1) 0 100 (by omega)
    omega
abbrev Pe5 : List Str := [[97, 110, 110], [98, 111, 98], [99, 105, 100], [100, 101, 101], [101, 118, 101]]
abbrev Wo3 : List Str := [[97, 10], [111, 110, 101, 10, 116, 119, 111, 10], [10]]
abbrev Dt4 : List Int := [0, 1, 5, 10]
def woL (c : Int) : Str := Lib.repeatL [119] c.toNat ++ [10]
/-- The post that is drawn behind n others from the place a on; the place behind it. -/
def psP (l : List Int) (a : Int) (n : Nat) (at_ : Int) : Po × Int :=
  if fl l (a + 1 + 1 + 1 + 1) 30 = true then
    (if nextV l (a + 1 + 1 + 1 + 1 + 1) 4 = 0 then ((odF l (a + 1 + 1 + 1 + 1 + 1 + 1) 1 9, odF l (a + 1 + 1 + 1 + 1 + 1 + 1 + 1 + 1) 0 100, og l a Pa4, og l (a + 1) Pe5, rg l (a + 1 + 1) 0 n, og l (a + 1 + 1 + 1) Wo3), a + 1 + 1 + 1 + 1 + 1 + 1 + 1 + 1 + 1 + 1)
    else if nextV l (a + 1 + 1 + 1 + 1 + 1) 4 = 1 then (((n : Int) + 1, at_, og l (a + 1 + 1 + 1 + 1 + 1 + 1) [[112, 97], [65]], og l (a + 1 + 1 + 1 + 1 + 1 + 1 + 1) [[122, 101, 100], []], rg l (a + 1 + 1) 0 n, og l (a + 1 + 1 + 1) Wo3), a + 1 + 1 + 1 + 1 + 1 + 1 + 1 + 1)
    else if nextV l (a + 1 + 1 + 1 + 1 + 1) 4 = 2 then (((n : Int) + 1, at_, og l a Pa4, og l (a + 1) Pe5, odF l (a + 1 + 1 + 1 + 1 + 1 + 1) 0 9, og l (a + 1 + 1 + 1) Wo3), a + 1 + 1 + 1 + 1 + 1 + 1 + 1 + 1)
    else (((n : Int) + 1, at_, og l a Pa4, og l (a + 1) Pe5, rg l (a + 1 + 1) 0 n, og l (a + 1 + 1 + 1 + 1 + 1 + 1 + 1) [[], [120], woL (pk l (a + 1 + 1 + 1 + 1 + 1 + 1) [3999, 4000])]), a + 1 + 1 + 1 + 1 + 1 + 1 + 1 + 1))
  else (((n : Int) + 1, at_, og l a Pa4, og l (a + 1) Pe5, rg l (a + 1 + 1) 0 n, og l (a + 1 + 1 + 1) Wo3), a + 1 + 1 + 1 + 1 + 1)
/-- What a drawn post is made of. -/
abbrev PaS : List Str := Pa4 ++ [[65]]
abbrev PeS : List Str := Pe5 ++ [[122, 101, 100], []]
structure FinPo (p : Po) : Prop where
  no : -1099511627776 ≤ p.1 ∧ p.1 ≤ 1099511627776
  at_ : (-1099511627776 ≤ p.2.1 ∧ p.2.1 ≤ 1099511627776) ∧ (momB p.2.1 = true → p.2.1 ≤ 101)
  pa : p.2.2.1 ∈ PaS
  pe : p.2.2.2.1 ∈ PeS
  tt : -1099511627776 ≤ p.2.2.2.2.1 ∧ p.2.2.2.2.1 ≤ 1099511627776
  wo : p.2.2.2.2.2 ∈ Wo3 ∨ p.2.2.2.2.2 = [] ∨ p.2.2.2.2.2 = [120] ∨ p.2.2.2.2.2 = woL 3999 ∨ p.2.2.2.2.2 = woL 4000
theorem psP_at (l : List Int) (a : Int) (n : Nat) (at_ : Int) : a + 5 ≤ (psP l a n at_).2 ∧ (psP l a n at_).2 ≤ a + 10 := by
  unfold psP
  repeat' split
  all_goals (simp only; omega)
theorem psP_fin (l : List Int) (a : Int) (n : Nat) (hn : n ≤ 1000) (at_ : Int) (h1 : 0 ≤ at_) (h2 : at_ ≤ 101) : FinPo (psP l a n at_).1 := by
  have r1 := rg_range l (a + 1 + 1) 0 n (by omega)
  have m1 : og l a Pa4 ∈ PaS := List.mem_append_left _ (og_mem _ _ _ (by simp))
  have m2 : og l (a + 1) Pe5 ∈ PeS := List.mem_append_left _ (og_mem _ _ _ (by simp))
  have m3 : og l (a + 1 + 1 + 1) Wo3 ∈ Wo3 := og_mem _ _ _ (by simp)
  unfold psP
  repeat' split
  · have o1 := odF_range l (a + 1 + 1 + 1 + 1 + 1 + 1) 1 9 (by omega) (by omega) (by omega)
    have o2 := odF_range l (a + 1 + 1 + 1 + 1 + 1 + 1 + 1 + 1) 0 100 (by omega) (by omega) (by omega)
    exact ⟨o1, ⟨o2, odF_mom l _⟩, m1, m2, ⟨by simp only; omega, by simp only; omega⟩, .inl m3⟩
  · refine ⟨⟨by simp only; omega, by simp only; omega⟩, ⟨⟨by simp only; omega, by simp only; omega⟩, fun _ => h2⟩, ?_, List.mem_append_right _ (og_mem _ _ _ (by simp)), ⟨by simp only; omega, by simp only; omega⟩, .inl m3⟩
    have := og_mem l (a + 1 + 1 + 1 + 1 + 1 + 1) [[112, 97], [65]] (by simp)
    simp only [List.mem_cons, List.not_mem_nil, or_false] at this
    rcases this with h | h <;> (simp only [h]; decide)
  · have o1 := odF_range l (a + 1 + 1 + 1 + 1 + 1 + 1) 0 9 (by omega) (by omega) (by omega)
    exact ⟨⟨by simp only; omega, by simp only; omega⟩, ⟨⟨by simp only; omega, by simp only; omega⟩, fun _ => h2⟩, m1, m2, o1, .inl m3⟩
  · refine ⟨⟨by simp only; omega, by simp only; omega⟩, ⟨⟨by simp only; omega, by simp only; omega⟩, fun _ => h2⟩, m1, m2, ⟨by simp only; omega, by simp only; omega⟩, ?_⟩
    have h1 := og_mem l (a + 1 + 1 + 1 + 1 + 1 + 1 + 1) [[], [120], woL (pk l (a + 1 + 1 + 1 + 1 + 1 + 1) [3999, 4000])] (by simp)
    have h2 := pk_mem l (a + 1 + 1 + 1 + 1 + 1 + 1) [3999, 4000] (by simp)
    simp only
    generalize og l (a + 1 + 1 + 1 + 1 + 1 + 1 + 1) [[], [120], woL (pk l (a + 1 + 1 + 1 + 1 + 1 + 1) [3999, 4000])] = q at *
    generalize pk l (a + 1 + 1 + 1 + 1 + 1 + 1) [3999, 4000] = c at *
    simp only [List.mem_cons, List.not_mem_nil, or_false] at h1 h2
    rcases h1 with h | h | h
    · exact .inr (.inl h)
    · exact .inr (.inr (.inl h))
    · rcases h2 with e | e
      · exact .inr (.inr (.inr (.inl (by rw [h, e]))))
      · exact .inr (.inr (.inr (.inr (by rw [h, e]))))
  · exact ⟨⟨by simp only; omega, by simp only; omega⟩, ⟨⟨by simp only; omega, by simp only; omega⟩, fun _ => h2⟩, m1, m2, ⟨by simp only; omega, by simp only; omega⟩, .inl m3⟩
theorem woL_len (c : Int) (h : 0 ≤ c) : ((woL c).length : Int) = c + 1 := by
  unfold woL
  rw [List.length_append, Lib.repeatL_length]
  simp
  omega
theorem FinPo.wl {p : Po} (h : FinPo p) : p.2.2.2.2.2.length ≤ 4001 := by
  have h3 := woL_len 3999 (by omega)
  have h4 := woL_len 4000 (by omega)
  rcases h.wo with h | h | h | h | h
  · simp only [List.mem_cons, List.not_mem_nil, or_false] at h
    rcases h with h | h | h <;> rw [h] <;> simp
  · rw [h]; simp
  · rw [h]; simp
  · rw [h]; omega
  · rw [h]; omega
/-! names -/
theorem keyPo : ∀ s ∈ PaS ++ PeS, KeyOk s := by
  have h : (PaS ++ PeS).all (fun s => evalsTo Tryz.prog (CS Tryz.prog) 98 [S s] (B (keyB s))) = true := by kernel_rfl
  exact fun s hs => evalsTo_ok CS_ok hmix (List.all_eq_true.1 h s hs)
theorem FinPo.keys {p : Po} (h : FinPo p) : KeyOk p.2.2.1 ∧ KeyOk p.2.2.2.1 ∧ p.2.2.2.2.2.length ≤ 1000000 :=
  ⟨keyPo _ (List.mem_append_left _ h.pa), keyPo _ (List.mem_append_right _ h.pe), by have := h.wl; omega⟩
theorem risingH : ∀ n ∈ ([0, 1, 2] : List Int), Does Tryz.prog 97 [.d (.sl ((hdF n).map .str)), .fn 98 [], I 5] [] (I 0) [] := by
  have h : ([0, 1, 2] : List Int).all (fun n => evalsTo Tryz.prog (CS Tryz.prog) 97 [.d (.sl ((hdF n).map .str)), .fn 98 [], I 5] (I 0)) = true := by kernel_rfl
  exact fun s hs => evalsTo_ok CS_ok hmix (List.all_eq_true.1 h s hs)
theorem bdF_s (l : List Int) (a : Int) : BdS (bdF l a) := by
  have r1 := rg_range l (a + 1) 0 2 (by omega)
  have r2 := rg_range l (a2F l a) 0 6 (by omega)
  have r3 := rg_range l (a3F l a) 0 6 (by omega)
  constructor
  · have h1 := prs10_len l Pa3 Qb3 (a2F l a + 1) (rg l (a2F l a) 0 6).toNat
    have h2 := List.length_filter_le (fun p => !decide (p ∈ baF l a)) (qaF l a)
    simp only [bdF, paF]
    unfold qaF at h2 ⊢
    omega
  · have := prs10_len l Pa2 Qa3 (a + 1 + 1) (rg l (a + 1) 0 2).toNat
    simp only [bdF, baF]
    omega
  · simp only [bdF, hdF]
    repeat' split
    all_goals simp
  · simp only [bdF]
    rw [(tnF_at l _ _).2.1]
    omega
theorem bdF_k (l : List Int) (a : Int) : BdK (bdF l a) := by
  constructor
  · intro c hc
    simp only [bdF, paF] at hc
    have hc := (List.mem_filter.1 hc).1
    obtain ⟨m1, m2⟩ := prs10_mem l Pa3 Qb3 (by simp) (by simp) _ _ c hc
    refine ⟨keyPo _ (List.mem_append_left _ ?_), keyPo _ (List.mem_append_right _ ?_)⟩
    · simp only [List.mem_cons, List.not_mem_nil, or_false] at m1
      rcases m1 with h | h | h <;> (rw [h]; decide)
    · simp only [List.mem_cons, List.not_mem_nil, or_false] at m2
      rcases m2 with h | h | h <;> (rw [h]; decide)
  · intro c hc
    simp only [bdF, baF] at hc
    obtain ⟨m1, m2⟩ := prs10_mem l Pa2 Qa3 (by simp) (by simp) _ _ c hc
    refine ⟨keyPo _ (List.mem_append_left _ ?_), keyPo _ (List.mem_append_right _ ?_)⟩
    · simp only [List.mem_cons, List.not_mem_nil, or_false] at m1
      rcases m1 with h | h <;> (rw [h]; decide)
    · simp only [List.mem_cons, List.not_mem_nil, or_false] at m2
      rcases m2 with h | h | h <;> (rw [h]; decide)
  · intro t ht
    simp only [bdF] at ht
    exact keyPo _ (List.mem_append_left _ (List.mem_append_left _ (tnF_mem l _ _ t ht).1))
  · have r0 := nextV_range l a 3 (by omega)
    exact risingH _ (by simp only [List.mem_cons, List.not_mem_nil, or_false]; omega)
end Go.AX

namespace Go.AX
open Go Go.Proofs Go.RowKit
theorem all_ok_Po (xs : List Po) : (dv (xs.map poD)).all (elemOk 6) = true := by
  simp only [dv, List.map_map, List.all_eq_true, List.mem_map, Function.comp_apply, forall_exists_index, and_imp, forall_apply_eq_imp_iff₂]
  intro x _
  rfl
theorem clone_Po (xs : List Po) (hl : xs.length ≤ 1000) : Does Tryz.prog 28 [.d (.sl (xs.map poD))] [] (.slr 0 0 xs.length) [.vec 44 6 (dv (xs.map poD))] := by
  refine Does.of_AW (n := 8) Tryz.func28 rfl rfl rfl fun cx hcx => ?_
  refine AW.sreg rfl fun K hK => ?_; simp only [go_sem, Nat.reduceAdd, Nat.reduceMul, Int.reduceToNat, Nat.reduceLT, Nat.reduceLeDiff, Nat.le_refl, Nat.reduceEqDiff, ↓reduceIte, beq_self_eq_true, bne_self_eq_false, Int.reduceBEq, Int.reduceBNe, or_self, true_or, or_true, Option.map_some, Option.map_none]
  refine hK _ ?_; (try clear hK K)
  refine AW.seq_k fun K1 hK1 => ?_
  refine AW.seq_k fun K2 hK2 => ?_
  refine AW.nilCmp rfl rfl rfl rfl rfl rfl (by simp only [go_sem]; rfl) (by simp) (by simp) rfl (fun b hb => ?_)
  refine hK2 _ ?_
  refine AW.cond rfl (fun h => ?_) (fun h => ?_)
  · have h0 : xs = [] := by simpa using hb h
    subst h0
    repeat' (first | (refine AW.sreg rfl fun K hK => ?_; simp only [go_sem, Nat.reduceAdd, Nat.reduceMul, Int.reduceToNat, Nat.reduceLT, Nat.reduceLeDiff, Nat.le_refl, Nat.reduceEqDiff, ↓reduceIte, beq_self_eq_true, bne_self_eq_false, Int.reduceBEq, Int.reduceBNe, or_self, true_or, or_true, Option.map_some, Option.map_none, List.length_map]) | (refine hK _ ?_; clear hK K))
    refine AW.weak (Weak.nil 2 44 6 rfl) ?_
    exact AW.ret (Fin.objs [256] rfl (by simp [go_sem, inI, gI]) ⟨⟨_, rfl, by simp [go_sem, inI, gI]⟩, trivial⟩ (by simp) rfl (by simp [go_sem]) (by simp [go_sem]) rfl)
  · refine AW.skip (hK1 _ ?_)
    repeat' (first | (refine AW.sreg rfl fun K hK => ?_; simp only [go_sem, Nat.reduceAdd, Nat.reduceMul, Int.reduceToNat, Nat.reduceLT, Nat.reduceLeDiff, Nat.le_refl, Nat.reduceEqDiff, ↓reduceIte, beq_self_eq_true, bne_self_eq_false, Int.reduceBEq, Int.reduceBNe, or_self, true_or, or_true, Option.map_some, Option.map_none, List.length_map, all_ok_Po]) | (refine hK _ ?_; clear hK K) | (with_reducible refine And.intro ?_ ?_; first | omega | assumption | (focus (decide)) | (focus (simp; done)) | (focus (simp; omega)) | (focus (constructor <;> omega)) | fail))
    exact AW.ret (Fin.objs [320] rfl (by simp [go_sem, inI, gI]) ⟨⟨_, rfl, by simp [go_sem, inI, gI]⟩, trivial⟩ (by simp) rfl (by simp [go_sem]) (by simp [go_sem]) rfl)

theorem cloneO_Po (xs : List (Po)) (hl : xs.length ≤ 1000) : Does Tryz.prog 28 [.slr 0 0 xs.length] [.vec 44 6 (dv (xs.map poD))] (.slr 1 0 xs.length) [.vec 44 6 (dv (xs.map poD)), .vec 44 6 (dv (xs.map poD))] := by
  refine Does.of_AW (n := 8) Tryz.func28 rfl rfl rfl fun cx hcx => ?_
  refine AW.sreg rfl fun K hK => ?_; simp only [go_sem, Nat.reduceAdd, Nat.reduceMul, Int.reduceToNat, Nat.reduceLT, Nat.reduceLeDiff, Nat.le_refl, Nat.reduceEqDiff, ↓reduceIte, beq_self_eq_true, bne_self_eq_false, Int.reduceBEq, Int.reduceBNe, or_self, true_or, or_true, Option.map_some, Option.map_none]
  refine hK _ ?_; (try clear hK K)
  refine AW.seq_k fun K1 hK1 => ?_
  refine AW.seq_k fun K2 hK2 => ?_
  refine AW.nilCmpO rfl rfl rfl rfl rfl rfl (by simp only [go_sem]; rfl) (by simp) (by simp) rfl (fun b hb => ?_)
  refine hK2 _ ?_
  refine AW.cond rfl (fun h => ?_) (fun h => ?_)
  · have h0 : xs = [] := by simpa using hb h
    subst h0
    repeat' (first | (refine AW.sreg rfl fun K hK => ?_; simp only [go_sem, Nat.reduceAdd, Nat.reduceMul, Int.reduceToNat, Nat.reduceLT, Nat.reduceLeDiff, Nat.le_refl, Nat.reduceEqDiff, ↓reduceIte, beq_self_eq_true, bne_self_eq_false, Int.reduceBEq, Int.reduceBNe, or_self, true_or, or_true, Option.map_some, Option.map_none, List.length_map]) | (refine hK _ ?_; clear hK K))
    refine AW.weak (Weak.nil 2 44 6 rfl) ?_
    exact AW.ret (Fin.objs [0, 320] rfl (by simp [go_sem, inI, gI]) ⟨⟨_, rfl, by simp [go_sem, inI, gI]⟩, ⟨_, rfl, by simp [go_sem, inI, gI]⟩, trivial⟩ (by simp) rfl (by simp [go_sem]) (by simp [go_sem]) rfl)
  · refine AW.skip (hK1 _ ?_)
    repeat' (first | (refine AW.sreg rfl fun K hK => ?_; simp only [go_sem, Nat.reduceAdd, Nat.reduceMul, Int.reduceToNat, Nat.reduceLT, Nat.reduceLeDiff, Nat.le_refl, Nat.reduceEqDiff, ↓reduceIte, beq_self_eq_true, bne_self_eq_false, Int.reduceBEq, Int.reduceBNe, or_self, true_or, or_true, Option.map_some, Option.map_none, List.length_map, all_ok_Po]) | (refine hK _ ?_; clear hK K) | (with_reducible refine And.intro ?_ ?_; first | omega | assumption | (focus (decide)) | (focus (simp; done)) | (focus (simp; omega)) | (focus (constructor <;> omega)) | fail))
    exact AW.ret (Fin.objs [0, 384] rfl (by simp [go_sem, inI, gI]) ⟨⟨_, rfl, by simp [go_sem, inI, gI]⟩, ⟨_, rfl, by simp [go_sem, inI, gI]⟩, trivial⟩ (by simp) rfl (by simp [go_sem]) (by simp [go_sem]) rfl)

def psFl (b : Bd) (ps : List Po) : Int := if bfR b ≠ 0 then bfR b else goF (pF (mayR b) textR) [] ps
def psS (l : List Int) (b : Bd) (z : List Po × Int × Int) : List Po × Int × Int :=
  (if (fl l (psP l (z.2.2 + 1) z.1.length (z.2.1 + pk l z.2.2 Dt4)).2 40 || psFl b (z.1 ++ [(psP l (z.2.2 + 1) z.1.length (z.2.1 + pk l z.2.2 Dt4)).1]) == 0) = true then z.1 ++ [(psP l (z.2.2 + 1) z.1.length (z.2.1 + pk l z.2.2 Dt4)).1] else z.1,
    z.2.1 + pk l z.2.2 Dt4, (psP l (z.2.2 + 1) z.1.length (z.2.1 + pk l z.2.2 Dt4)).2 + 1)
def psF (l : List Int) (b : Bd) (a : Int) : Nat → List Po × Int × Int
  | 0 => ([], 0, a)
  | n + 1 => psS l b (psF l b a n)
theorem psF_succ (l : List Int) (b : Bd) (a : Int) (n : Nat) : psF l b a (n + 1) = psS l b (psF l b a n) := rfl
theorem dt_range (l : List Int) (a : Int) : 0 ≤ pk l a Dt4 ∧ pk l a Dt4 ≤ 10 := by
  have := pk_mem l a Dt4 (by simp)
  simp only [List.mem_cons, List.not_mem_nil, or_false] at this
  omega
theorem psF_at (l : List Int) (b : Bd) (a : Int) : ∀ n : Nat, (psF l b a n).1.length ≤ n ∧ 0 ≤ (psF l b a n).2.1 ∧ (psF l b a n).2.1 ≤ 10 * n ∧ a ≤ (psF l b a n).2.2 ∧ (psF l b a n).2.2 ≤ a + 12 * n
  | 0 => by simp [psF]
  | n + 1 => by
    obtain ⟨h1, h2, h3, h4, h5⟩ := psF_at l b a n
    rw [psF_succ]
    generalize psF l b a n = z at *
    have d := dt_range l z.2.2
    have p := psP_at l (z.2.2 + 1) z.1.length (z.2.1 + pk l z.2.2 Dt4)
    refine ⟨?_, ?_, ?_, ?_, ?_⟩
    · simp only [psS]
      split
      · simp; omega
      · omega
    · simp only [psS]; omega
    · simp only [psS]; omega
    · simp only [psS]; omega
    · simp only [psS]; omega
theorem psF_fin (l : List Int) (b : Bd) (a : Int) : ∀ n : Nat, n ≤ 8 → ∀ p ∈ (psF l b a n).1, FinPo p
  | 0, _, p, h => by simp [psF] at h
  | n + 1, hn, p, h => by
    have ih := psF_fin l b a n (by omega)
    obtain ⟨h1, h2, h3, h4, h5⟩ := psF_at l b a n
    rw [psF_succ] at h
    generalize psF l b a n = z at *
    have d := dt_range l z.2.2
    have hf := psP_fin l (z.2.2 + 1) z.1.length (by omega) (z.2.1 + pk l z.2.2 Dt4) (by omega) (by omega)
    simp only [psS] at h
    split at h
    · rcases List.mem_append.1 h with h | h
      · exact ih p h
      · obtain rfl := List.mem_singleton.1 h; exact hf
    · exact ih p h
theorem share {P : Program} {cx : Cx} {code : Code} {Q : Exit → St → Prop} {K : St → Prop} {S : St} (hK : ∀ s, AW P cx code Q s → K s) (h : AW P cx code Q S) : ∀ s, Weak cx s S → K s := fun s w => hK s (AW.weak w h)
theorem po_size (h : 44 < Tryz.prog.types.size) : (Tryz.prog.types[44]'h).size = 6 := by kernel_rfl
theorem postsOf_f (l : List Int) (hl2 : l.length ≤ 9223372036854775807) (a : Int) (ha : 0 ≤ a) (hb : a ≤ 10000) (b : Bd) (hs : BdS b) (hk : BdK b) (many : Nat) (hm : many ≤ 8) :
    Does Tryz.prog 6 [.ptr 0 0, .d (bdD b), I many] [Stm l a] (.d (.sl ((psF l b a many).1.map poD))) [Stm l (psF l b a many).2.2] := by
  refine Does.of_AW (n := 90) Tryz.func6 rfl rfl rfl fun cx hcx => ?_
  repeat' (first | (refine AW.sreg rfl fun K hK => ?_; simp only [go_sem, Nat.reduceAdd, Nat.reduceMul, Int.reduceToNat, Nat.reduceLT, Nat.reduceLeDiff, Nat.le_refl, Nat.reduceEqDiff, ↓reduceIte, beq_self_eq_true, bne_self_eq_false, Int.reduceBEq, Int.reduceBNe, or_self, true_or, or_true, Option.map_some, Option.map_none]) | (refine AW.seq_k fun K hK => ?_) | (refine AW.block ?_) | (refine hK _ ?_; clear hK K))
  refine AW.weak (Weak.nil 7 44 6 rfl) ?_
  refine AW.loopF (ι := Nat) [0, 4, 10] (fun p => [(7, .slr 448 0 (psF l b a p).1.length), (8, I (psF l b a p).2.1), (11, I p)]) (fun p => [(0, some (Stm l (psF l b a p).2.2)), (64, some (O.box 30 (bdV b))), (448, some (O.vec 44 6 (dv ((psF l b a p).1.map poD))))]) 8 (fun p => p ≤ many) (fun p => many - p) 0 (Nat.zero_le _) (Weak.auto hcx rfl rfl (Nat.le_of_ble_eq_true rfl) (by simp [go_sem, gL, kL, renOf, V.obj, lk, Nat.blt, Nat.ble, List.map_append, dv_push, psF]) (by simp [go_sem, gL, kL, renOf, V.obj, lk, Nat.blt, Nat.ble, List.map_append, dv_push, psF]) (by first | (intro i hi; exact absurd hi (Nat.not_lt_zero _)) | (intro i0 hi0; match i0, hi0 with | 0, _ => exact ⟨_, rfl⟩ | n0+1, h0 => exact absurd h0 (Nat.not_lt.2 (Nat.le_add_left 1 n0))) | (intro i0 hi0; match i0, hi0 with | 0, _ => exact ⟨_, rfl⟩ | 1, _ => exact ⟨_, rfl⟩ | n0+2, h0 => exact absurd h0 (Nat.not_lt.2 (Nat.le_add_left 2 n0))) | (intro i0 hi0; match i0, hi0 with | 0, _ => exact ⟨_, rfl⟩ | 1, _ => exact ⟨_, rfl⟩ | 2, _ => exact ⟨_, rfl⟩ | n0+3, h0 => exact absurd h0 (Nat.not_lt.2 (Nat.le_add_left 3 n0))) | (intro i0 hi0; match i0, hi0 with | 0, _ => exact ⟨_, rfl⟩ | 1, _ => exact ⟨_, rfl⟩ | 2, _ => exact ⟨_, rfl⟩ | 3, _ => exact ⟨_, rfl⟩ | n0+4, h0 => exact absurd h0 (Nat.not_lt.2 (Nat.le_add_left 4 n0)))) (by simp [go_sem, gL, kL, lk, renOf, V.obj, Nat.blt, Nat.ble, psF])) ?_; simp only [St.at_nil, St.at_cons, lk, Nat.reduceEqDiff, ↓reduceIte, Option.getD_some, Option.getD_none, List.cons_append, List.nil_append, List.append_nil]
  intro i hi1
  have hat := psF_at l b a i
  have hfi := psF_fin l b a i (by omega)
  by_cases hi : i < many
  · have hst := psF_succ l b a i
    unfold psS at hst
    generalize psF l b a i = z at *
    obtain ⟨out, at_, po⟩ := z
    simp only at hat hfi hst ⊢
    obtain ⟨z1, z2, z3, z4, z5⟩ := hat
    have d := dt_range l po
    have c0 := pick_f l hl2 po (by omega) (by omega) Dt4 (by simp) (by simp)
    have hpf := psP_fin l (po + 1) out.length (by omega) (at_ + pk l po Dt4) (by omega) (by omega)
    have hpff : ∀ p, FinPo p → Does Tryz.prog 27 [.d (bdD b), .d (.sl (out.map poD ++ [poD p]))] [] (I (psFl b (out ++ [p]))) [] := by
      intro p hp
      have := postsFault_any b hs hk (out ++ [p]) (by simp; omega) (fun q hq => by
        rcases List.mem_append.1 hq with hq | hq
        · exact (hfi q hq).keys
        · obtain rfl := List.mem_singleton.1 hq; exact hp.keys)
      simpa [psFl] using this
    have hcl := cloneO_Po out (by omega)
    generalize pk l po Dt4 = dt at *
    have c1 := one_f l hl2 (po + 1) (by omega) (by omega) Pa4 (by simp) (by simp)
    have c2 := one_f l hl2 (po + 1 + 1) (by omega) (by omega) Pe5 (by simp) (by simp)
    have c3 := range_f l hl2 (po + 1 + 1 + 1) 0 out.length (by omega) (by omega) (by omega) (by omega) (by omega)
    have c4 := one_f l hl2 (po + 1 + 1 + 1 + 1) (by omega) (by omega) Wo3 (by simp) (by simp)
    have c5 := flip_f l hl2 (po + 1 + 1 + 1 + 1 + 1) 30 (by omega) (by omega) (by omega) (by omega)
    have htl : List.take out.length (dv (out.map poD)) = dv (out.map poD) := List.take_of_length_le (by simp [dv])
    have hln : ∀ x : D, (dv (out.map poD ++ [x])).length = out.length + 1 := fun x => by simp [dv]
    generalize hq : psP l (po + 1) out.length (at_ + dt) = q at *
    repeat' (first | ((first | refine AW.sreg rfl fun K hK => ?_ | refine run_call _ _ _ ((c0).objs [0, _] ⟨rfl, rfl, trivial⟩ rfl (by decide) (by simp [go_sem, renOs]) (by simp) (by simp) (by simp [go_sem]) (by simp [go_sem]) (by simp [go_sem]) (by simp [go_sem])) rfl rfl (dstOk_of rfl) rfl rfl rfl ?_ | refine run_call _ _ _ ((c1).objs [0, _] ⟨rfl, rfl, trivial⟩ rfl (by decide) (by simp [go_sem, renOs]) (by simp) (by simp) (by simp [go_sem]) (by simp [go_sem]) (by simp [go_sem]) (by simp [go_sem])) rfl rfl (dstOk_of rfl) rfl rfl rfl ?_ | refine run_call _ _ _ ((c2).objs [0, _] ⟨rfl, rfl, trivial⟩ rfl (by decide) (by simp [go_sem, renOs]) (by simp) (by simp) (by simp [go_sem]) (by simp [go_sem]) (by simp [go_sem]) (by simp [go_sem])) rfl rfl (dstOk_of rfl) rfl rfl rfl ?_ | refine run_call _ _ _ ((c3).objs [0] ⟨rfl, trivial⟩ rfl (by decide) (by simp [go_sem, renOs]) (by simp) (by simp) (by simp [go_sem]) (by simp [go_sem]) (by simp [go_sem]) (by simp [go_sem])) rfl rfl (dstOk_of rfl) rfl rfl rfl ?_ | refine run_call _ _ _ ((c4).objs [0, _] ⟨rfl, rfl, trivial⟩ rfl (by decide) (by simp [go_sem, renOs]) (by simp) (by simp) (by simp [go_sem]) (by simp [go_sem]) (by simp [go_sem]) (by simp [go_sem])) rfl rfl (dstOk_of rfl) rfl rfl rfl ?_); simp only [go_sem, Nat.reduceAdd, Nat.reduceMul, Int.reduceToNat, Nat.reduceLT, Nat.reduceLeDiff, Nat.le_refl, Nat.reduceEqDiff, ↓reduceIte, beq_self_eq_true, bne_self_eq_false, Int.reduceBEq, Int.reduceBNe, or_self, true_or, or_true, Option.map_some, Option.map_none, List.length_map, dv_length]) | (refine AW.seq_k fun K hK => ?_) | (refine AW.block ?_) | (refine AW.skip ?_; simp only [Then, InBlock]) | (refine AW.condT rfl (by first | rfl | (simp; omega) | (simp [*]; done) | fail) ?_) | (refine hK _ ?_; clear hK K) | (with_reducible refine And.intro ?_ ?_; first | omega | assumption | (focus (decide)) | (focus (simp; done)) | (focus (simp; omega)) | (focus (constructor <;> omega)) | fail))
    rename_i K hK K hK K0 hK0
    have fin := share (cx := cx) (S := (⟨90, [(0, .ptr 0 0), (4, .ptr 64 0), (7, .slr 448 0 out.length), (8, I (at_ + dt)), (9, .ptr 2112 0), (10, I many), (11, I i)],
      [(0, some (Stm l q.2)), (64, some (O.box 30 (bdV b))), (448, some (O.vec 44 6 (dv (out.map poD)))), (2112, some (O.box 44 [I q.1.1, I q.1.2.1, S q.1.2.2.1, S q.1.2.2.2.1, I q.1.2.2.2.2.1, S q.1.2.2.2.2.2]))], 34⟩ : St)) hK0 (by
      clear hK K
      clear hK0 K0
      have hqp := psP_at l (po + 1) out.length (at_ + dt)
      rw [hq] at hqp
      have cz := flip_f l hl2 q.2 40 (by omega) (by omega) (by omega) (by omega)
      have hc := hpff _ hpf
      obtain ⟨p, pos⟩ := q
      simp only at hst hpf hqp cz hc ⊢
      clear hq hpff c0 c1 c2 c3 c4 c5
      generalize psFl b _ = F at hst hc
      generalize fl l pos 40 = g at hst cz
      cases g with
      | true =>
        rw [Bool.true_or, if_pos rfl] at hst
        repeat' (first | ((first | refine AW.sregD hmix rfl fun K hK => ?_ | refine AW.reg rfl ?_ | refine runT_call _ _ [0] (fun hv hag => (cz).objs [0] ⟨((hag 0 (by simp)).trans rfl), trivial⟩ rfl (by decide) (by simp [go_sem, renOs]) (by simp) (by simp) (by simp [go_sem]) (by simp [go_sem]) (by simp [go_sem]) (by simp [go_sem])) rfl rfl (dstOk_of rfl) rfl rfl ?_); simp only [go_sem, Nat.reduceAdd, Nat.reduceMul, Int.reduceToNat, Nat.reduceLT, Nat.reduceLeDiff, Nat.le_refl, Nat.reduceEqDiff, ↓reduceIte, beq_self_eq_true, bne_self_eq_false, Int.reduceBEq, Int.reduceBNe, or_self, true_or, or_true, Option.map_some, Option.map_none, List.length_map, dv_length, htl, hln, dv_push, Nat.reduceSub, Nat.add_zero]) | (refine AW.condT rfl (by first | rfl | (simp; omega) | (simp [*]; done) | fail) ?_) | (refine hK _ ?_; clear hK K) | (with_reducible refine And.intro (?_ : regOk _ _ = true) ?_; kernel_rfl) | (with_reducible refine And.intro ?_ ?_; first | omega | assumption | (focus (decide)) | (focus (simp; done)) | (focus (simp; omega)) | (focus (constructor <;> omega)) | fail))
        exact ⟨i + 1, hi, by omega, (Weak.auto hcx rfl rfl (Nat.le_of_ble_eq_true rfl) (by simp [go_sem, gL, kL, renOf, V.obj, lk, Nat.blt, Nat.ble, List.map_append, dv_push, hst]) (by simp [go_sem, gL, kL, renOf, V.obj, lk, Nat.blt, Nat.ble, List.map_append, dv_push, hst]) (by first | (intro i hi; exact absurd hi (Nat.not_lt_zero _)) | (intro i0 hi0; match i0, hi0 with | 0, _ => exact ⟨_, rfl⟩ | n0+1, h0 => exact absurd h0 (Nat.not_lt.2 (Nat.le_add_left 1 n0))) | (intro i0 hi0; match i0, hi0 with | 0, _ => exact ⟨_, rfl⟩ | 1, _ => exact ⟨_, rfl⟩ | n0+2, h0 => exact absurd h0 (Nat.not_lt.2 (Nat.le_add_left 2 n0))) | (intro i0 hi0; match i0, hi0 with | 0, _ => exact ⟨_, rfl⟩ | 1, _ => exact ⟨_, rfl⟩ | 2, _ => exact ⟨_, rfl⟩ | n0+3, h0 => exact absurd h0 (Nat.not_lt.2 (Nat.le_add_left 3 n0))) | (intro i0 hi0; match i0, hi0 with | 0, _ => exact ⟨_, rfl⟩ | 1, _ => exact ⟨_, rfl⟩ | 2, _ => exact ⟨_, rfl⟩ | 3, _ => exact ⟨_, rfl⟩ | n0+4, h0 => exact absurd h0 (Nat.not_lt.2 (Nat.le_add_left 4 n0)))) (by simp [go_sem, gL, kL, lk, renOf, V.obj, Nat.blt, Nat.ble, hst]))⟩
      | false =>
      by_cases hF : F = 0
      · subst hF
        rw [if_pos (by simp)] at hst
        repeat' (first | ((first | refine AW.sregD hmix rfl fun K hK => ?_ | refine AW.reg rfl ?_ | refine runT_call _ _ [0] (fun hv hag => (cz).objs [0] ⟨((hag 0 (by simp)).trans rfl), trivial⟩ rfl (by decide) (by simp [go_sem, renOs]) (by simp) (by simp) (by simp [go_sem]) (by simp [go_sem]) (by simp [go_sem]) (by simp [go_sem])) rfl rfl (dstOk_of rfl) rfl rfl ?_ | refine runT_call _ _ [448] (fun hv hag => (hcl).objs [448] ⟨((hag 448 (by simp)).trans rfl), trivial⟩ rfl (by decide) (by simp [go_sem, renOs]) (by simp) (by simp) (by simp [go_sem]) (by simp [go_sem]) (by simp [go_sem]) (by simp [go_sem])) rfl rfl (dstOk_of rfl) rfl rfl ?_ | refine runT_call _ _ [2688] (fun hv hag => (hc).lend (by repeat' (first | exact frzL_nil | refine frzL_cons (by first | exact frz_d | exact frz_slr rfl ((hag 2688 (by simp)).trans rfl) (by first | (simp; done) | (simp; omega) | (simp [*]; done) | fail) | rfl) ?_)) rfl rfl rfl) rfl rfl (dstOk_of rfl) rfl rfl ?_); simp only [go_sem, Nat.reduceAdd, Nat.reduceMul, Int.reduceToNat, Nat.reduceLT, Nat.reduceLeDiff, Nat.le_refl, Nat.reduceEqDiff, ↓reduceIte, beq_self_eq_true, bne_self_eq_false, Int.reduceBEq, Int.reduceBNe, or_self, true_or, or_true, Option.map_some, Option.map_none, List.length_map, dv_length, htl, hln, dv_push, Nat.reduceSub, Nat.add_zero]) | (refine AW.condT rfl (by first | rfl | (simp; omega) | (simp [*]; done) | fail) ?_) | (refine hK _ ?_; clear hK K) | (with_reducible refine And.intro (?_ : regOk _ _ = true) ?_; kernel_rfl) | (with_reducible refine And.intro ?_ ?_; first | omega | assumption | (focus (decide)) | (focus (simp; done)) | (focus (simp; omega)) | (focus (constructor <;> omega)) | fail))
        exact ⟨i + 1, hi, by omega, (Weak.auto hcx rfl rfl (Nat.le_of_ble_eq_true rfl) (by simp [go_sem, gL, kL, renOf, V.obj, lk, Nat.blt, Nat.ble, List.map_append, dv_push, hst]) (by simp [go_sem, gL, kL, renOf, V.obj, lk, Nat.blt, Nat.ble, List.map_append, dv_push, hst]) (by first | (intro i hi; exact absurd hi (Nat.not_lt_zero _)) | (intro i0 hi0; match i0, hi0 with | 0, _ => exact ⟨_, rfl⟩ | n0+1, h0 => exact absurd h0 (Nat.not_lt.2 (Nat.le_add_left 1 n0))) | (intro i0 hi0; match i0, hi0 with | 0, _ => exact ⟨_, rfl⟩ | 1, _ => exact ⟨_, rfl⟩ | n0+2, h0 => exact absurd h0 (Nat.not_lt.2 (Nat.le_add_left 2 n0))) | (intro i0 hi0; match i0, hi0 with | 0, _ => exact ⟨_, rfl⟩ | 1, _ => exact ⟨_, rfl⟩ | 2, _ => exact ⟨_, rfl⟩ | n0+3, h0 => exact absurd h0 (Nat.not_lt.2 (Nat.le_add_left 3 n0))) | (intro i0 hi0; match i0, hi0 with | 0, _ => exact ⟨_, rfl⟩ | 1, _ => exact ⟨_, rfl⟩ | 2, _ => exact ⟨_, rfl⟩ | 3, _ => exact ⟨_, rfl⟩ | n0+4, h0 => exact absurd h0 (Nat.not_lt.2 (Nat.le_add_left 4 n0)))) (by simp [go_sem, gL, kL, lk, renOf, V.obj, Nat.blt, Nat.ble, hst]))⟩
      · have hFb : (F == 0) = false := by simpa using hF
        rw [hFb, if_neg (by simp)] at hst
        repeat' (first | ((first | refine AW.sregD hmix rfl fun K hK => ?_ | refine AW.reg rfl ?_ | refine runT_call _ _ [0] (fun hv hag => (cz).objs [0] ⟨((hag 0 (by simp)).trans rfl), trivial⟩ rfl (by decide) (by simp [go_sem, renOs]) (by simp) (by simp) (by simp [go_sem]) (by simp [go_sem]) (by simp [go_sem]) (by simp [go_sem])) rfl rfl (dstOk_of rfl) rfl rfl ?_ | refine runT_call _ _ [448] (fun hv hag => (hcl).objs [448] ⟨((hag 448 (by simp)).trans rfl), trivial⟩ rfl (by decide) (by simp [go_sem, renOs]) (by simp) (by simp) (by simp [go_sem]) (by simp [go_sem]) (by simp [go_sem]) (by simp [go_sem])) rfl rfl (dstOk_of rfl) rfl rfl ?_ | refine runT_call _ _ [2688] (fun hv hag => (hc).lend (by repeat' (first | exact frzL_nil | refine frzL_cons (by first | exact frz_d | exact frz_slr rfl ((hag 2688 (by simp)).trans rfl) (by first | (simp; done) | (simp; omega) | (simp [*]; done) | fail) | rfl) ?_)) rfl rfl rfl) rfl rfl (dstOk_of rfl) rfl rfl ?_); simp only [go_sem, Nat.reduceAdd, Nat.reduceMul, Int.reduceToNat, Nat.reduceLT, Nat.reduceLeDiff, Nat.le_refl, Nat.reduceEqDiff, ↓reduceIte, beq_self_eq_true, bne_self_eq_false, Int.reduceBEq, Int.reduceBNe, or_self, true_or, or_true, Option.map_some, Option.map_none, List.length_map, dv_length, htl, hln, dv_push, Nat.reduceSub, Nat.add_zero, hFb]) | (refine AW.skip ?_; simp only [Then, InBlock]) | (refine AW.condF rfl (by first | rfl | (simp; omega) | (simp [*]; done) | fail) ?_) | (refine hK _ ?_; clear hK K) | (with_reducible refine And.intro (?_ : regOk _ _ = true) ?_; kernel_rfl) | (with_reducible refine And.intro ?_ ?_; first | omega | assumption | (focus (decide)) | (focus (simp; done)) | (focus (simp; omega)) | (focus (constructor <;> omega)) | fail))
        exact ⟨i + 1, hi, by omega, (Weak.auto hcx rfl rfl (Nat.le_of_ble_eq_true rfl) (by simp [go_sem, gL, kL, renOf, V.obj, lk, Nat.blt, Nat.ble, List.map_append, dv_push, hst]) (by simp [go_sem, gL, kL, renOf, V.obj, lk, Nat.blt, Nat.ble, List.map_append, dv_push, hst]) (by first | (intro i hi; exact absurd hi (Nat.not_lt_zero _)) | (intro i0 hi0; match i0, hi0 with | 0, _ => exact ⟨_, rfl⟩ | n0+1, h0 => exact absurd h0 (Nat.not_lt.2 (Nat.le_add_left 1 n0))) | (intro i0 hi0; match i0, hi0 with | 0, _ => exact ⟨_, rfl⟩ | 1, _ => exact ⟨_, rfl⟩ | n0+2, h0 => exact absurd h0 (Nat.not_lt.2 (Nat.le_add_left 2 n0))) | (intro i0 hi0; match i0, hi0 with | 0, _ => exact ⟨_, rfl⟩ | 1, _ => exact ⟨_, rfl⟩ | 2, _ => exact ⟨_, rfl⟩ | n0+3, h0 => exact absurd h0 (Nat.not_lt.2 (Nat.le_add_left 3 n0))) | (intro i0 hi0; match i0, hi0 with | 0, _ => exact ⟨_, rfl⟩ | 1, _ => exact ⟨_, rfl⟩ | 2, _ => exact ⟨_, rfl⟩ | 3, _ => exact ⟨_, rfl⟩ | n0+4, h0 => exact absurd h0 (Nat.not_lt.2 (Nat.le_add_left 4 n0)))) (by simp [go_sem, gL, kL, lk, renOf, V.obj, Nat.blt, Nat.ble, hst]))⟩)
    clear hK0 hcl hpff hpf hst c0 c1 c2 c3 c4
    cases hf : fl l (po + 1 + 1 + 1 + 1 + 1) 30 with
    | false =>
      rw [hf] at c5
      have hp : q = (((out.length : Int) + 1, at_ + dt, og l (po + 1) Pa4, og l (po + 1 + 1) Pe5, rg l (po + 1 + 1 + 1) 0 out.length, og l (po + 1 + 1 + 1 + 1) Wo3), po + 1 + 1 + 1 + 1 + 1 + 1) := by
        rw [← hq]
        unfold psP
        rw [hf, if_neg (by simp)]
      subst hp
      clear hq
      repeat' (first | (refine AW.skip ?_; simp only [Then, InBlock]) | (refine AW.condF rfl (by first | rfl | (simp; omega) | (simp [*]; done) | fail) ?_) | (refine hK _ ?_; clear hK K) | (refine run_call _ _ _ ((c5).objs [0] ⟨rfl, trivial⟩ rfl (by decide) (by simp [go_sem, renOs]) (by simp) (by simp) (by simp [go_sem]) (by simp [go_sem]) (by simp [go_sem]) (by simp [go_sem])) rfl rfl (dstOk_of rfl) rfl rfl rfl ?_; simp only [go_sem, Nat.reduceAdd, Nat.reduceMul, Int.reduceToNat, Nat.reduceLT, Nat.reduceLeDiff, Nat.le_refl, Nat.reduceEqDiff, ↓reduceIte, beq_self_eq_true, bne_self_eq_false, Int.reduceBEq, Int.reduceBNe, or_self, true_or, or_true, Option.map_some, Option.map_none, List.length_map, dv_length]))
      exact fin _ (Weak.auto hcx rfl rfl (Nat.le_of_ble_eq_true rfl) (by simp [go_sem, gL, kL, renOf, V.obj, lk, Nat.blt, Nat.ble, List.map_append, dv_push]) (by simp [go_sem, gL, kL, renOf, V.obj, lk, Nat.blt, Nat.ble, List.map_append, dv_push]) (by first | (intro i hi; exact absurd hi (Nat.not_lt_zero _)) | (intro i0 hi0; match i0, hi0 with | 0, _ => exact ⟨_, rfl⟩ | n0+1, h0 => exact absurd h0 (Nat.not_lt.2 (Nat.le_add_left 1 n0))) | (intro i0 hi0; match i0, hi0 with | 0, _ => exact ⟨_, rfl⟩ | 1, _ => exact ⟨_, rfl⟩ | n0+2, h0 => exact absurd h0 (Nat.not_lt.2 (Nat.le_add_left 2 n0))) | (intro i0 hi0; match i0, hi0 with | 0, _ => exact ⟨_, rfl⟩ | 1, _ => exact ⟨_, rfl⟩ | 2, _ => exact ⟨_, rfl⟩ | n0+3, h0 => exact absurd h0 (Nat.not_lt.2 (Nat.le_add_left 3 n0))) | (intro i0 hi0; match i0, hi0 with | 0, _ => exact ⟨_, rfl⟩ | 1, _ => exact ⟨_, rfl⟩ | 2, _ => exact ⟨_, rfl⟩ | 3, _ => exact ⟨_, rfl⟩ | n0+4, h0 => exact absurd h0 (Nat.not_lt.2 (Nat.le_add_left 4 n0)))) (by simp [go_sem, gL, kL, lk, renOf, V.obj, Nat.blt, Nat.ble]))
    | true =>
      rw [hf] at c5
      have rn := nextV_range l (po + 1 + 1 + 1 + 1 + 1 + 1) 4 (by omega)
      have n6 := next_any l hl2 (po + 1 + 1 + 1 + 1 + 1 + 1) 4 (by omega) (by omega) (by omega) (by omega)
      have h4 : nextV l (po + 1 + 1 + 1 + 1 + 1 + 1) 4 = 0 ∨ nextV l (po + 1 + 1 + 1 + 1 + 1 + 1) 4 = 1 ∨ nextV l (po + 1 + 1 + 1 + 1 + 1 + 1) 4 = 2 ∨ nextV l (po + 1 + 1 + 1 + 1 + 1 + 1) 4 = 3 := by omega
      rcases h4 with h4 | h4 | h4 | h4
      · rw [h4] at n6
        have d1 := odd_f l hl2 (po + 1 + 1 + 1 + 1 + 1 + 1 + 1) 1 9 (by omega) (by omega) (by omega) (by omega) (by omega)
        have d2 := odd_f l hl2 (po + 1 + 1 + 1 + 1 + 1 + 1 + 1 + 1 + 1) 0 100 (by omega) (by omega) (by omega) (by omega) (by omega)
        have hp : q = ((odF l (po + 1 + 1 + 1 + 1 + 1 + 1 + 1) 1 9, odF l (po + 1 + 1 + 1 + 1 + 1 + 1 + 1 + 1 + 1) 0 100, og l (po + 1) Pa4, og l (po + 1 + 1) Pe5, rg l (po + 1 + 1 + 1) 0 out.length, og l (po + 1 + 1 + 1 + 1) Wo3), po + 1 + 1 + 1 + 1 + 1 + 1 + 1 + 1 + 1 + 1 + 1) := by
          rw [← hq]
          unfold psP
          rw [hf, if_pos rfl, h4, if_pos rfl]
        subst hp
        clear hq
        repeat' (first | ((first | refine AW.sreg rfl fun K hK => ?_ | refine AW.reg rfl ?_ | refine run_call _ _ _ ((c5).objs [0] ⟨rfl, trivial⟩ rfl (by decide) (by simp [go_sem, renOs]) (by simp) (by simp) (by simp [go_sem]) (by simp [go_sem]) (by simp [go_sem]) (by simp [go_sem])) rfl rfl (dstOk_of rfl) rfl rfl rfl ?_ | refine run_call _ _ _ ((n6).objs [0] ⟨rfl, trivial⟩ rfl (by decide) (by simp [go_sem, renOs]) (by simp) (by simp) (by simp [go_sem]) (by simp [go_sem]) (by simp [go_sem]) (by simp [go_sem])) rfl rfl (dstOk_of rfl) rfl rfl rfl ?_ | refine run_call _ _ _ ((d1).objs [0] ⟨rfl, trivial⟩ rfl (by decide) (by simp [go_sem, renOs]) (by simp) (by simp) (by simp [go_sem]) (by simp [go_sem]) (by simp [go_sem]) (by simp [go_sem])) rfl rfl (dstOk_of rfl) rfl rfl rfl ?_ | refine run_call _ _ _ ((d2).objs [0] ⟨rfl, trivial⟩ rfl (by decide) (by simp [go_sem, renOs]) (by simp) (by simp) (by simp [go_sem]) (by simp [go_sem]) (by simp [go_sem]) (by simp [go_sem])) rfl rfl (dstOk_of rfl) rfl rfl rfl ?_); simp only [go_sem, Nat.reduceAdd, Nat.reduceMul, Int.reduceToNat, Nat.reduceLT, Nat.reduceLeDiff, Nat.le_refl, Nat.reduceEqDiff, ↓reduceIte, beq_self_eq_true, bne_self_eq_false, Int.reduceBEq, Int.reduceBNe, or_self, true_or, or_true, Option.map_some, Option.map_none, List.length_map, dv_length]) | (refine AW.block ?_) | (refine AW.condT rfl (by first | rfl | (simp; omega) | (simp [*]; done) | fail) ?_) | (refine hK _ ?_; clear hK K))
        exact fin _ (Weak.auto hcx rfl rfl (Nat.le_of_ble_eq_true rfl) (by simp [go_sem, gL, kL, renOf, V.obj, lk, Nat.blt, Nat.ble, List.map_append, dv_push]) (by simp [go_sem, gL, kL, renOf, V.obj, lk, Nat.blt, Nat.ble, List.map_append, dv_push]) (by first | (intro i hi; exact absurd hi (Nat.not_lt_zero _)) | (intro i0 hi0; match i0, hi0 with | 0, _ => exact ⟨_, rfl⟩ | n0+1, h0 => exact absurd h0 (Nat.not_lt.2 (Nat.le_add_left 1 n0))) | (intro i0 hi0; match i0, hi0 with | 0, _ => exact ⟨_, rfl⟩ | 1, _ => exact ⟨_, rfl⟩ | n0+2, h0 => exact absurd h0 (Nat.not_lt.2 (Nat.le_add_left 2 n0))) | (intro i0 hi0; match i0, hi0 with | 0, _ => exact ⟨_, rfl⟩ | 1, _ => exact ⟨_, rfl⟩ | 2, _ => exact ⟨_, rfl⟩ | n0+3, h0 => exact absurd h0 (Nat.not_lt.2 (Nat.le_add_left 3 n0))) | (intro i0 hi0; match i0, hi0 with | 0, _ => exact ⟨_, rfl⟩ | 1, _ => exact ⟨_, rfl⟩ | 2, _ => exact ⟨_, rfl⟩ | 3, _ => exact ⟨_, rfl⟩ | n0+4, h0 => exact absurd h0 (Nat.not_lt.2 (Nat.le_add_left 4 n0)))) (by simp [go_sem, gL, kL, lk, renOf, V.obj, Nat.blt, Nat.ble]))
      · rw [h4] at n6
        have d1 := one_f l hl2 (po + 1 + 1 + 1 + 1 + 1 + 1 + 1) (by omega) (by omega) [[112, 97], [65]] (by simp) (by simp)
        have d2 := one_f l hl2 (po + 1 + 1 + 1 + 1 + 1 + 1 + 1 + 1) (by omega) (by omega) [[122, 101, 100], []] (by simp) (by simp)
        have hp : q = (((out.length : Int) + 1, at_ + dt, og l (po + 1 + 1 + 1 + 1 + 1 + 1 + 1) [[112, 97], [65]], og l (po + 1 + 1 + 1 + 1 + 1 + 1 + 1 + 1) [[122, 101, 100], []], rg l (po + 1 + 1 + 1) 0 out.length, og l (po + 1 + 1 + 1 + 1) Wo3), po + 1 + 1 + 1 + 1 + 1 + 1 + 1 + 1 + 1) := by
          rw [← hq]
          unfold psP
          rw [hf, if_pos rfl, h4, if_neg (by decide), if_pos rfl]
        subst hp
        clear hq
        repeat' (first | ((first | refine AW.sreg rfl fun K hK => ?_ | refine AW.reg rfl ?_ | refine run_call _ _ _ ((c5).objs [0] ⟨rfl, trivial⟩ rfl (by decide) (by simp [go_sem, renOs]) (by simp) (by simp) (by simp [go_sem]) (by simp [go_sem]) (by simp [go_sem]) (by simp [go_sem])) rfl rfl (dstOk_of rfl) rfl rfl rfl ?_ | refine run_call _ _ _ ((n6).objs [0] ⟨rfl, trivial⟩ rfl (by decide) (by simp [go_sem, renOs]) (by simp) (by simp) (by simp [go_sem]) (by simp [go_sem]) (by simp [go_sem]) (by simp [go_sem])) rfl rfl (dstOk_of rfl) rfl rfl rfl ?_ | refine run_call _ _ _ ((d1).objs [0, _] ⟨rfl, rfl, trivial⟩ rfl (by decide) (by simp [go_sem, renOs]) (by simp) (by simp) (by simp [go_sem]) (by simp [go_sem]) (by simp [go_sem]) (by simp [go_sem])) rfl rfl (dstOk_of rfl) rfl rfl rfl ?_ | refine run_call _ _ _ ((d2).objs [0, _] ⟨rfl, rfl, trivial⟩ rfl (by decide) (by simp [go_sem, renOs]) (by simp) (by simp) (by simp [go_sem]) (by simp [go_sem]) (by simp [go_sem]) (by simp [go_sem])) rfl rfl (dstOk_of rfl) rfl rfl rfl ?_); simp only [go_sem, Nat.reduceAdd, Nat.reduceMul, Int.reduceToNat, Nat.reduceLT, Nat.reduceLeDiff, Nat.le_refl, Nat.reduceEqDiff, ↓reduceIte, beq_self_eq_true, bne_self_eq_false, Int.reduceBEq, Int.reduceBNe, or_self, true_or, or_true, Option.map_some, Option.map_none, List.length_map, dv_length]) | (refine AW.block ?_) | (refine AW.condT rfl (by first | rfl | (simp; omega) | (simp [*]; done) | fail) ?_) | (refine AW.condF rfl (by first | rfl | (simp; omega) | (simp [*]; done) | fail) ?_) | (refine hK _ ?_; clear hK K))
        exact fin _ (Weak.auto hcx rfl rfl (Nat.le_of_ble_eq_true rfl) (by simp [go_sem, gL, kL, renOf, V.obj, lk, Nat.blt, Nat.ble, List.map_append, dv_push]) (by simp [go_sem, gL, kL, renOf, V.obj, lk, Nat.blt, Nat.ble, List.map_append, dv_push]) (by first | (intro i hi; exact absurd hi (Nat.not_lt_zero _)) | (intro i0 hi0; match i0, hi0 with | 0, _ => exact ⟨_, rfl⟩ | n0+1, h0 => exact absurd h0 (Nat.not_lt.2 (Nat.le_add_left 1 n0))) | (intro i0 hi0; match i0, hi0 with | 0, _ => exact ⟨_, rfl⟩ | 1, _ => exact ⟨_, rfl⟩ | n0+2, h0 => exact absurd h0 (Nat.not_lt.2 (Nat.le_add_left 2 n0))) | (intro i0 hi0; match i0, hi0 with | 0, _ => exact ⟨_, rfl⟩ | 1, _ => exact ⟨_, rfl⟩ | 2, _ => exact ⟨_, rfl⟩ | n0+3, h0 => exact absurd h0 (Nat.not_lt.2 (Nat.le_add_left 3 n0))) | (intro i0 hi0; match i0, hi0 with | 0, _ => exact ⟨_, rfl⟩ | 1, _ => exact ⟨_, rfl⟩ | 2, _ => exact ⟨_, rfl⟩ | 3, _ => exact ⟨_, rfl⟩ | n0+4, h0 => exact absurd h0 (Nat.not_lt.2 (Nat.le_add_left 4 n0)))) (by simp [go_sem, gL, kL, lk, renOf, V.obj, Nat.blt, Nat.ble]))
      · rw [h4] at n6
        have d1 := odd_f l hl2 (po + 1 + 1 + 1 + 1 + 1 + 1 + 1) 0 9 (by omega) (by omega) (by omega) (by omega) (by omega)
        have hp : q = (((out.length : Int) + 1, at_ + dt, og l (po + 1) Pa4, og l (po + 1 + 1) Pe5, odF l (po + 1 + 1 + 1 + 1 + 1 + 1 + 1) 0 9, og l (po + 1 + 1 + 1 + 1) Wo3), po + 1 + 1 + 1 + 1 + 1 + 1 + 1 + 1 + 1) := by
          rw [← hq]
          unfold psP
          rw [hf, if_pos rfl, h4, if_neg (by decide), if_neg (by decide), if_pos rfl]
        subst hp
        clear hq
        repeat' (first | ((first | refine AW.sreg rfl fun K hK => ?_ | refine AW.reg rfl ?_ | refine run_call _ _ _ ((c5).objs [0] ⟨rfl, trivial⟩ rfl (by decide) (by simp [go_sem, renOs]) (by simp) (by simp) (by simp [go_sem]) (by simp [go_sem]) (by simp [go_sem]) (by simp [go_sem])) rfl rfl (dstOk_of rfl) rfl rfl rfl ?_ | refine run_call _ _ _ ((n6).objs [0] ⟨rfl, trivial⟩ rfl (by decide) (by simp [go_sem, renOs]) (by simp) (by simp) (by simp [go_sem]) (by simp [go_sem]) (by simp [go_sem]) (by simp [go_sem])) rfl rfl (dstOk_of rfl) rfl rfl rfl ?_ | refine run_call _ _ _ ((d1).objs [0] ⟨rfl, trivial⟩ rfl (by decide) (by simp [go_sem, renOs]) (by simp) (by simp) (by simp [go_sem]) (by simp [go_sem]) (by simp [go_sem]) (by simp [go_sem])) rfl rfl (dstOk_of rfl) rfl rfl rfl ?_); simp only [go_sem, Nat.reduceAdd, Nat.reduceMul, Int.reduceToNat, Nat.reduceLT, Nat.reduceLeDiff, Nat.le_refl, Nat.reduceEqDiff, ↓reduceIte, beq_self_eq_true, bne_self_eq_false, Int.reduceBEq, Int.reduceBNe, or_self, true_or, or_true, Option.map_some, Option.map_none, List.length_map, dv_length]) | (refine AW.block ?_) | (refine AW.condT rfl (by first | rfl | (simp; omega) | (simp [*]; done) | fail) ?_) | (refine AW.condF rfl (by first | rfl | (simp; omega) | (simp [*]; done) | fail) ?_) | (refine hK _ ?_; clear hK K))
        exact fin _ (Weak.auto hcx rfl rfl (Nat.le_of_ble_eq_true rfl) (by simp [go_sem, gL, kL, renOf, V.obj, lk, Nat.blt, Nat.ble, List.map_append, dv_push]) (by simp [go_sem, gL, kL, renOf, V.obj, lk, Nat.blt, Nat.ble, List.map_append, dv_push]) (by first | (intro i hi; exact absurd hi (Nat.not_lt_zero _)) | (intro i0 hi0; match i0, hi0 with | 0, _ => exact ⟨_, rfl⟩ | n0+1, h0 => exact absurd h0 (Nat.not_lt.2 (Nat.le_add_left 1 n0))) | (intro i0 hi0; match i0, hi0 with | 0, _ => exact ⟨_, rfl⟩ | 1, _ => exact ⟨_, rfl⟩ | n0+2, h0 => exact absurd h0 (Nat.not_lt.2 (Nat.le_add_left 2 n0))) | (intro i0 hi0; match i0, hi0 with | 0, _ => exact ⟨_, rfl⟩ | 1, _ => exact ⟨_, rfl⟩ | 2, _ => exact ⟨_, rfl⟩ | n0+3, h0 => exact absurd h0 (Nat.not_lt.2 (Nat.le_add_left 3 n0))) | (intro i0 hi0; match i0, hi0 with | 0, _ => exact ⟨_, rfl⟩ | 1, _ => exact ⟨_, rfl⟩ | 2, _ => exact ⟨_, rfl⟩ | 3, _ => exact ⟨_, rfl⟩ | n0+4, h0 => exact absurd h0 (Nat.not_lt.2 (Nat.le_add_left 4 n0)))) (by simp [go_sem, gL, kL, lk, renOf, V.obj, Nat.blt, Nat.ble]))
      · rw [h4] at n6
        have d1 := pick_f l hl2 (po + 1 + 1 + 1 + 1 + 1 + 1 + 1) (by omega) (by omega) [3999, 4000] (by simp) (by simp)
        have dm := pk_mem l (po + 1 + 1 + 1 + 1 + 1 + 1 + 1) [3999, 4000] (by simp)
        have dc : 0 ≤ pk l (po + 1 + 1 + 1 + 1 + 1 + 1 + 1) [3999, 4000] ∧ pk l (po + 1 + 1 + 1 + 1 + 1 + 1 + 1) [3999, 4000] ≤ 4000 := by simp only [List.mem_cons, List.not_mem_nil, or_false] at dm; omega
        have d2 := repeat_w (pk l (po + 1 + 1 + 1 + 1 + 1 + 1 + 1) [3999, 4000]).toNat (by omega)
        rw [show (((pk l (po + 1 + 1 + 1 + 1 + 1 + 1 + 1) [3999, 4000]).toNat : Nat) : Int) = pk l (po + 1 + 1 + 1 + 1 + 1 + 1 + 1) [3999, 4000] by omega] at d2
        have hwl : (Lib.repeatL [119] (pk l (po + 1 + 1 + 1 + 1 + 1 + 1 + 1) [3999, 4000]).toNat).length ≤ 4000 := by
          rw [Lib.repeatL_length]
          simp
          omega
        have d3 := one_f l hl2 (po + 1 + 1 + 1 + 1 + 1 + 1 + 1 + 1) (by omega) (by omega) [[], [120], woL (pk l (po + 1 + 1 + 1 + 1 + 1 + 1 + 1) [3999, 4000])] (by simp) (by simp)
        clear dm
        have hp : q = (((out.length : Int) + 1, at_ + dt, og l (po + 1) Pa4, og l (po + 1 + 1) Pe5, rg l (po + 1 + 1 + 1) 0 out.length, og l (po + 1 + 1 + 1 + 1 + 1 + 1 + 1 + 1) [[], [120], woL (pk l (po + 1 + 1 + 1 + 1 + 1 + 1 + 1) [3999, 4000])]), po + 1 + 1 + 1 + 1 + 1 + 1 + 1 + 1 + 1) := by
          rw [← hq]
          unfold psP
          rw [hf, if_pos rfl, h4, if_neg (by decide), if_neg (by decide), if_neg (by decide)]
        subst hp
        clear hq
        repeat' (first | ((first | refine AW.sreg rfl fun K hK => ?_ | refine AW.reg rfl ?_ | refine run_call _ _ _ ((c5).objs [0] ⟨rfl, trivial⟩ rfl (by decide) (by simp [go_sem, renOs]) (by simp) (by simp) (by simp [go_sem]) (by simp [go_sem]) (by simp [go_sem]) (by simp [go_sem])) rfl rfl (dstOk_of rfl) rfl rfl rfl ?_ | refine run_call _ _ _ ((n6).objs [0] ⟨rfl, trivial⟩ rfl (by decide) (by simp [go_sem, renOs]) (by simp) (by simp) (by simp [go_sem]) (by simp [go_sem]) (by simp [go_sem]) (by simp [go_sem])) rfl rfl (dstOk_of rfl) rfl rfl rfl ?_ | refine run_call _ _ _ ((d1).objs [0, _] ⟨rfl, rfl, trivial⟩ rfl (by decide) (by simp [go_sem, renOs]) (by simp) (by simp) (by simp [go_sem]) (by simp [go_sem]) (by simp [go_sem]) (by simp [go_sem])) rfl rfl (dstOk_of rfl) rfl rfl rfl ?_ | refine run_call _ _ _ ((d2).pure rfl rfl _ _) rfl rfl (dstOk_of rfl) rfl rfl rfl ?_ | refine run_call _ _ _ ((d3).objs [0, _] ⟨rfl, rfl, trivial⟩ rfl (by decide) (by simp [go_sem, renOs]) (by simp) (by simp) (by simp [go_sem]) (by simp [go_sem]) (by simp [go_sem]) (by simp [go_sem])) rfl rfl (dstOk_of rfl) rfl rfl rfl ?_); simp only [go_sem, Nat.reduceAdd, Nat.reduceMul, Int.reduceToNat, Nat.reduceLT, Nat.reduceLeDiff, Nat.le_refl, Nat.reduceEqDiff, ↓reduceIte, beq_self_eq_true, bne_self_eq_false, Int.reduceBEq, Int.reduceBNe, or_self, true_or, or_true, Option.map_some, Option.map_none, List.length_map, dv_length]) | (refine AW.block ?_) | (refine AW.condT rfl (by first | rfl | (simp; omega) | (simp [*]; done) | fail) ?_) | (refine AW.condF rfl (by first | rfl | (simp; omega) | (simp [*]; done) | fail) ?_) | (refine hK _ ?_; clear hK K) | (with_reducible refine And.intro ?_ ?_; first | omega | assumption | (focus (decide)) | (focus (simp; done)) | (focus (simp; omega)) | (focus (constructor <;> omega)) | fail))
        exact fin _ (Weak.auto hcx rfl rfl (Nat.le_of_ble_eq_true rfl) (by simp [go_sem, gL, kL, renOf, V.obj, lk, Nat.blt, Nat.ble, List.map_append, dv_push, woL]) (by simp [go_sem, gL, kL, renOf, V.obj, lk, Nat.blt, Nat.ble, List.map_append, dv_push, woL]) (by first | (intro i hi; exact absurd hi (Nat.not_lt_zero _)) | (intro i0 hi0; match i0, hi0 with | 0, _ => exact ⟨_, rfl⟩ | n0+1, h0 => exact absurd h0 (Nat.not_lt.2 (Nat.le_add_left 1 n0))) | (intro i0 hi0; match i0, hi0 with | 0, _ => exact ⟨_, rfl⟩ | 1, _ => exact ⟨_, rfl⟩ | n0+2, h0 => exact absurd h0 (Nat.not_lt.2 (Nat.le_add_left 2 n0))) | (intro i0 hi0; match i0, hi0 with | 0, _ => exact ⟨_, rfl⟩ | 1, _ => exact ⟨_, rfl⟩ | 2, _ => exact ⟨_, rfl⟩ | n0+3, h0 => exact absurd h0 (Nat.not_lt.2 (Nat.le_add_left 3 n0))) | (intro i0 hi0; match i0, hi0 with | 0, _ => exact ⟨_, rfl⟩ | 1, _ => exact ⟨_, rfl⟩ | 2, _ => exact ⟨_, rfl⟩ | 3, _ => exact ⟨_, rfl⟩ | n0+4, h0 => exact absurd h0 (Nat.not_lt.2 (Nat.le_add_left 4 n0)))) (by simp [go_sem, gL, kL, lk, renOf, V.obj, Nat.blt, Nat.ble, woL]))
  · obtain rfl : i = many := by omega
    generalize psF l b a i = z at *
    obtain ⟨out, at_, po⟩ := z
    simp only at hat ⊢
    repeat' (first | (refine AW.sreg rfl fun K hK => ?_; simp only [go_sem, Nat.reduceAdd, Nat.reduceMul, Int.reduceToNat, Nat.reduceLT, Nat.reduceLeDiff, Nat.le_refl, Nat.reduceEqDiff, ↓reduceIte, beq_self_eq_true, bne_self_eq_false, Int.reduceBEq, Int.reduceBNe, or_self, true_or, or_true, Option.map_some, Option.map_none]) | (refine AW.seq_k fun K hK => ?_) | (refine AW.exit ?_; simp only [go_sem, ↓reduceIte]) | (refine AW.condF rfl (by first | rfl | (simp; omega) | (simp [*]; done) | fail) ?_) | (refine hK _ ?_; clear hK K) | (clear hK K; refine hK _ ?_; clear hK K))
    exact AW.ret (Fin.one rfl ((frz_slr (e := 44) (s := 6) (xs := out.map poD) rfl rfl (by simp)).trans (by simp [go_sem])) ⟨_, rfl, by simp [go_sem]⟩ rfl rfl rfl)
end Go.AX

namespace Go.AX
open Go Go.Proofs Go.RowKit
theorem get_lt {α : Type} {xs : List α} {i : Nat} {x : α} (h : xs[i]? = some x) : i < xs.length := by
  rcases Nat.lt_or_ge i xs.length with h' | h'
  · exact h'
  · simp [List.getElem?_eq_none h'] at h
theorem omG_put (m : OM) (k k' : Str) (v : Bool) : omG (omP m k v) k' = if k = k' then v else omG m k' := by
  cases ho : omI m k with
  | some j =>
    obtain ⟨v0, hv, hg⟩ := omI_some ho
    have hl := get_lt hv
    have hj : m[j] = (k, v0) := by rw [List.getElem?_eq_getElem hl] at hv; simpa using hv
    have hk : (m.set j (k, v)).map (·.1) = m.map (·.1) := by
      rw [List.map_set]
      refine List.ext_getElem? fun i => ?_
      rw [List.getElem?_set]
      split
      · rename_i e
        subst e
        simp [hl, hj]
      · rfl
    have hi : omI (m.set j (k, v)) k' = omI m k' := by unfold omI; rw [hk]
    rw [omP_some ho]
    by_cases e : k = k'
    · subst e
      rw [if_pos rfl]
      unfold omG
      rw [hi, ho]
      simp [List.getD_eq_getElem?_getD, hl]
    · rw [if_neg e]
      unfold omG
      rw [hi]
      cases h2 : omI m k' with
      | none => rfl
      | some i =>
        obtain ⟨v1, hv1, -⟩ := omI_some h2
        have hne : j ≠ i := by
          rintro rfl
          rw [hv] at hv1
          injection hv1 with h
          injection h with h1
          exact e h1
        simp [List.getD_eq_getElem?_getD, List.getElem?_set, hne]
  | none =>
    rw [omP_none ho]
    by_cases e : k = k'
    · subst e
      rw [if_pos rfl]
      unfold omG
      rw [omI_new v ho]
      simp [List.getD_eq_getElem?_getD]
    · rw [if_neg e]
      cases h2 : omI m k' with
      | none =>
        have h3 : omI (m ++ [(k, v)]) k' = none := by
          unfold omI at *
          rw [List.map_append, List.findIdx?_append, h2]
          simp [Ne.symm e]
        rw [omG_none h3, omG_none h2]
      | some i =>
        have h3 : omI (m ++ [(k, v)]) k' = some i := by
          unfold omI at *
          rw [List.map_append, List.findIdx?_append, h2]
          simp
        obtain ⟨v1, hv1, -⟩ := omI_some h2
        have hl := get_lt hv1
        unfold omG
        rw [h3, h2]
        simp [List.getD_eq_getElem?_getD, List.getElem?_append_left hl]
def omF (ts : List Tu) : OM := ts.foldl (fun m u => omP m u.2.1 u.2.2) []
theorem om_last : ∀ (ts : List Tu) (m : OM) (o : Bool) (k : Str), omG m k = o → omG (ts.foldl (fun m u => omP m u.2.1 u.2.2) m) k = ts.foldl (fun o u => if u.2.1 = k then u.2.2 else o) o
  | [], m, o, k, h => h
  | u :: r, m, o, k, h => by
    simp only [List.foldl_cons]
    exact om_last r _ _ k (by rw [omG_put, h])
theorem omF_last (ts : List Tu) (k : Str) : omG (omF ts) k = lastO ts k := om_last ts [] false k rfl
theorem omF_app (ts : List Tu) (u : Tu) : omF (ts ++ [u]) = omP (omF ts) u.2.1 u.2.2 := by unfold omF; rw [List.foldl_append]; rfl
theorem isIn_any (xs : List Pr) (hl : xs.length ≤ 1000) (hr : RiseP xs) (tg : Pr) : Does Tryz.prog 64 [.d (.sl (xs.map prD)), .d (prD tg)] [] (B (decide (tg ∈ xs))) [] := by
  obtain ⟨i, hb⟩ := bsearch_any xs hl hr tg
  refine Does.of_AW (n := 14) Tryz.func64 rfl rfl rfl fun cx hcx => ?_
  repeat' (first | ((first | refine AW.sreg rfl fun K hK => ?_ | refine run_call _ _ _ ((hb).pure rfl rfl _ _) rfl rfl (dstOk_of rfl) rfl rfl rfl ?_); simp only [go_sem, Nat.reduceAdd, Nat.reduceMul, Int.reduceToNat, Nat.reduceLT, Nat.reduceLeDiff, Nat.le_refl, Nat.reduceEqDiff, ↓reduceIte, beq_self_eq_true, bne_self_eq_false, Int.reduceBEq, Int.reduceBNe, or_self, true_or, or_true, Option.map_some, Option.map_none]) | (refine hK _ ?_; clear hK K) | (refine AW.ret (Fin.data rfl (by first | (simp only [go_sem]; done) | (simp [go_sem, *]; done) | (simp [go_sem]; omega) | rfl) rfl)))
theorem turnsFault_any (ts : List Tu) (hl : ts.length ≤ 1000) (hk : ∀ t ∈ ts, t.2.1.length ≤ 1000) : Does Tryz.prog 66 [.d (.sl (ts.map tuD))] [] (I (goF tR [] ts)) [] := by
  refine Does.of_AW (n := 55) Tryz.func66 rfl rfl rfl fun cx hcx => ?_
  generalize hT : goF tR [] ts = T
  repeat' (first | (refine AW.sreg rfl fun K hK => ?_; simp only [go_sem, Nat.reduceAdd, Nat.reduceMul, Int.reduceToNat, Nat.reduceLT, Nat.reduceLeDiff, Nat.le_refl, Nat.reduceEqDiff, ↓reduceIte, beq_self_eq_true, bne_self_eq_false, Int.reduceBEq, Int.reduceBNe, or_self, true_or, or_true, Option.map_some, Option.map_none, List.length_map]) | (refine AW.seq_k fun K hK => ?_) | (refine AW.block ?_) | (refine AW.skip ?_; simp only [Then, InBlock]) | (refine AW.condF rfl (by first | rfl | (simp; omega) | (simp [*]; done) | fail) ?_) | (refine hK _ ?_; clear hK K))
  refine AW.loopF (ι := Nat) [0, 3, 10, 11] (fun p => [(12, I p)]) (fun p => [(256, some (O.map ((omF (ts.take p)).map fun q => D.str q.1) (dv ((omF (ts.take p)).map fun q => D.bool q.2))))]) 9 (fun p => p ≤ ts.length ∧ goF tR (ts.take p) (ts.drop p) = T) (fun p => ts.length - p) 0 ⟨by simp, hT⟩ (Weak.auto hcx rfl rfl (Nat.le_of_ble_eq_true rfl) (by simp [go_sem, gL, kL, renOf, V.obj, lk, Nat.blt, Nat.ble, List.map_append, dv_push, omF, dvz, List.take_zero, List.foldl_nil, List.map_nil]) (by simp [go_sem, gL, kL, renOf, V.obj, lk, Nat.blt, Nat.ble, List.map_append, dv_push, omF, dvz, List.take_zero, List.foldl_nil, List.map_nil]) (by first | (intro i hi; exact absurd hi (Nat.not_lt_zero _)) | (intro i0 hi0; match i0, hi0 with | 0, _ => exact ⟨_, rfl⟩ | n0+1, h0 => exact absurd h0 (Nat.not_lt.2 (Nat.le_add_left 1 n0))) | (intro i0 hi0; match i0, hi0 with | 0, _ => exact ⟨_, rfl⟩ | 1, _ => exact ⟨_, rfl⟩ | n0+2, h0 => exact absurd h0 (Nat.not_lt.2 (Nat.le_add_left 2 n0))) | (intro i0 hi0; match i0, hi0 with | 0, _ => exact ⟨_, rfl⟩ | 1, _ => exact ⟨_, rfl⟩ | 2, _ => exact ⟨_, rfl⟩ | n0+3, h0 => exact absurd h0 (Nat.not_lt.2 (Nat.le_add_left 3 n0))) | (intro i0 hi0; match i0, hi0 with | 0, _ => exact ⟨_, rfl⟩ | 1, _ => exact ⟨_, rfl⟩ | 2, _ => exact ⟨_, rfl⟩ | 3, _ => exact ⟨_, rfl⟩ | n0+4, h0 => exact absurd h0 (Nat.not_lt.2 (Nat.le_add_left 4 n0)))) (by simp [go_sem, gL, kL, lk, renOf, V.obj, Nat.blt, Nat.ble, omF, dvz, List.take_zero, List.foldl_nil, List.map_nil])) ?_; simp only [St.at_nil, St.at_cons, lk, Nat.reduceEqDiff, ↓reduceIte, Option.getD_some, Option.getD_none, List.cons_append, List.nil_append, List.append_nil]
  rintro i ⟨g1, g2⟩
  by_cases hi : i < ts.length
  · obtain ⟨x, hx, hxm, -⟩ := get_some hi
    have hget : (ts.map tuD)[i]? = some (tuD x) := by simp [hx]
    rw [goF_step tR hx] at g2
    have hkl := hk _ hxm
    have hst : omF (ts.take (i + 1)) = omP (omF (ts.take i)) x.2.1 x.2.2 := by
      rw [List.take_add_one, hx]
      exact omF_app _ _
    have hlo := omF_last (ts.take i) x.2.1
    obtain ⟨xa, xp, xo⟩ := x
    simp only at hkl hst hlo
    have hm : Does Tryz.prog 67 [I xa] [] (B (momB xa)) [] := isMoment_any xa
    have hkx := isKey_any xp (by omega)
    generalize hF : tR (ts.take i) (xa, xp, xo) = F at g2
    simp only [tR] at hF
    rw [← hlo] at hF
    clear hlo
    generalize momB xa = m at *
    generalize keyB xp = k at *
    cases m with
    | false =>
      rw [if_pos rfl] at hF
      subst hF
      rw [if_pos (by simp)] at g2
      subst g2
      repeat' (first | ((first | refine AW.sreg rfl fun K hK => ?_ | refine run_call _ _ _ ((hm).pure rfl rfl _ _) rfl rfl (dstOk_of rfl) rfl rfl rfl ?_); simp only [go_sem, Nat.reduceAdd, Nat.reduceMul, Int.reduceToNat, Nat.reduceLT, Nat.reduceLeDiff, Nat.le_refl, Nat.reduceEqDiff, ↓reduceIte, beq_self_eq_true, bne_self_eq_false, Int.reduceBEq, Int.reduceBNe, or_self, true_or, or_true, Option.map_some, Option.map_none, List.length_map, hget]) | (refine AW.seq_k fun K hK => ?_) | (refine AW.block ?_) | (refine AW.skip ?_; simp only [Then, InBlock]) | (refine AW.condT rfl (by first | rfl | (simp; omega) | (simp [*]; done) | fail) ?_) | (refine hK _ ?_; clear hK K) | (with_reducible refine And.intro ?_ ?_; first | omega | assumption | (focus (decide)) | (focus (simp; done)) | (focus (simp; omega)) | (focus (constructor <;> omega)) | fail) | (refine AW.ret (Fin.data rfl (by first | (simp only [go_sem]; done) | (simp [go_sem, *]; done) | (simp [go_sem]; omega) | rfl) rfl)))
    | true =>
    rw [if_neg (by simp)] at hF
    have hL : (tL (ts.take i) xa = true ∧ ∃ q, 0 < i ∧ (ts.map tuD)[((i : Int) - 1).toNat]? = some (tuD q) ∧ xa < q.1) ∨ (tL (ts.take i) xa = false ∧ i = 0 ∧ True ∧ True) ∨ (tL (ts.take i) xa = false ∧ ∃ q, 0 < i ∧ (ts.map tuD)[((i : Int) - 1).toNat]? = some (tuD q) ∧ ¬ xa < q.1) := by
      rcases Nat.eq_zero_or_pos i with h | h
      · subst h
        exact .inr (.inl ⟨rfl, rfl, trivial, trivial⟩)
      · obtain ⟨q, hq, -, -⟩ := get_some (l := ts) (i := i - 1) (by omega)
        have e1 : (ts.take i).getLast? = some q := by
          rw [List.getLast?_eq_getElem?, List.length_take, Nat.min_eq_left (by omega), List.getElem?_take_of_lt (by omega), hq]
        have e2 : (ts.map tuD)[((i : Int) - 1).toNat]? = some (tuD q) := by
          rw [show ((i : Int) - 1).toNat = i - 1 by omega, List.getElem?_map, hq]
          rfl
        by_cases hlt : xa < q.1
        · exact .inl ⟨by unfold tL; rw [e1]; simpa using hlt, q, h, e2, hlt⟩
        · exact .inr (.inr ⟨by unfold tL; rw [e1]; simpa using hlt, q, h, e2, hlt⟩)
    rcases hL with ⟨hL, q, h0, hg, hlt⟩ | hL
    · rw [if_pos hL] at hF
      subst hF
      rw [if_pos (by simp)] at g2
      subst g2
      repeat' (first | ((first | refine AW.sreg rfl fun K hK => ?_ | refine AW.sregD hmix rfl fun K hK => ?_ | refine run_call _ _ _ ((hm).pure rfl rfl _ _) rfl rfl (dstOk_of rfl) rfl rfl rfl ?_); simp only [go_sem, Nat.reduceAdd, Nat.reduceMul, Int.reduceToNat, Nat.reduceLT, Nat.reduceLeDiff, Nat.le_refl, Nat.reduceEqDiff, ↓reduceIte, beq_self_eq_true, bne_self_eq_false, Int.reduceBEq, Int.reduceBNe, or_self, true_or, or_true, Option.map_some, Option.map_none, List.length_map, hget, hg, hlt]) | (refine AW.seq_k fun K hK => ?_) | (refine AW.block ?_) | (refine AW.skip ?_; simp only [Then, InBlock]) | (refine AW.condT rfl (by first | rfl | (simp; omega) | (simp [*]; done) | fail) ?_) | (refine AW.condF rfl (by first | rfl | (simp; omega) | (simp [*]; done) | fail) ?_) | (refine hK _ ?_; clear hK K) | (refine stepBT_split (fun h => ?_) (fun h => ?_) <;> (have hb0 := h) <;> (try simp only [Bool.not_eq_true', Bool.not_eq_false'] at hb0) <;> (try simp only [decide_eq_true_eq, decide_eq_false_iff_not, Bool.not_eq_true', Bool.not_eq_false', Bool.not_eq_eq_eq_not, Bool.not_true, Bool.not_false, beq_iff_eq, bne_iff_ne, beq_eq_false_iff_ne, ne_eq, Bool.and_eq_true, Bool.or_eq_true, Bool.or_eq_false_iff] at h) <;> simp only [go_sem, Nat.reduceAdd, Nat.reduceMul, Int.reduceToNat, Nat.reduceLT, Nat.reduceLeDiff, Nat.le_refl, Nat.reduceEqDiff, ↓reduceIte, beq_self_eq_true, bne_self_eq_false, Int.reduceBEq, Int.reduceBNe, or_self, true_or, or_true, Option.map_some, Option.map_none, hb0, h, decide_true, decide_false, List.length_map, hget, hg, hlt] <;> (try clear hb0)) | (with_reducible refine And.intro (?_ : regOk _ _ = true) ?_; kernel_rfl) | (with_reducible refine And.intro ?_ ?_; first | omega | assumption | (focus (decide)) | (focus (simp; done)) | (focus (simp; omega)) | (focus (constructor <;> omega)) | fail) | (refine AW.ret (Fin.data rfl (by first | (simp only [go_sem]; done) | (simp [go_sem, *]; done) | (simp [go_sem]; omega) | rfl) rfl)))
    have hLf : tL (ts.take i) xa = false := by rcases hL with h | h <;> exact h.1
    rw [hLf, if_neg (by simp)] at hF
    generalize omF (ts.take i) = om at *
    have hf := fnd_om om xp
    rcases hL with ⟨-, h0, hg, hlt⟩ | ⟨-, q, h0, hg, hlt⟩
    all_goals
      cases k with
      | false =>
        rw [if_pos rfl] at hF
        subst hF
        rw [if_pos (by simp)] at g2
        subst g2
        repeat' (first | ((first | refine AW.sreg rfl fun K hK => ?_ | refine AW.sregD hmix rfl fun K hK => ?_ | refine run_call _ _ _ ((hm).pure rfl rfl _ _) rfl rfl (dstOk_of rfl) rfl rfl rfl ?_ | refine run_call _ _ _ ((hkx).pure rfl rfl _ _) rfl rfl (dstOk_of rfl) rfl rfl rfl ?_); simp only [go_sem, Nat.reduceAdd, Nat.reduceMul, Int.reduceToNat, Nat.reduceLT, Nat.reduceLeDiff, Nat.le_refl, Nat.reduceEqDiff, ↓reduceIte, beq_self_eq_true, bne_self_eq_false, Int.reduceBEq, Int.reduceBNe, or_self, true_or, or_true, Option.map_some, Option.map_none, List.length_map, hget, hg, hlt]) | (refine AW.seq_k fun K hK => ?_) | (refine AW.block ?_) | (refine AW.skip ?_; simp only [Then, InBlock]) | (refine AW.condT rfl (by first | rfl | (simp; omega) | (simp [*]; done) | fail) ?_) | (refine AW.condF rfl (by first | rfl | (simp; omega) | (simp [*]; done) | fail) ?_) | (refine hK _ ?_; clear hK K) | (refine stepBT_split (fun h => ?_) (fun h => ?_) <;> (have hb0 := h) <;> (try simp only [Bool.not_eq_true', Bool.not_eq_false'] at hb0) <;> (try simp only [decide_eq_true_eq, decide_eq_false_iff_not, Bool.not_eq_true', Bool.not_eq_false', Bool.not_eq_eq_eq_not, Bool.not_true, Bool.not_false, beq_iff_eq, bne_iff_ne, beq_eq_false_iff_ne, ne_eq, Bool.and_eq_true, Bool.or_eq_true, Bool.or_eq_false_iff] at h) <;> simp only [go_sem, Nat.reduceAdd, Nat.reduceMul, Int.reduceToNat, Nat.reduceLT, Nat.reduceLeDiff, Nat.le_refl, Nat.reduceEqDiff, ↓reduceIte, beq_self_eq_true, bne_self_eq_false, Int.reduceBEq, Int.reduceBNe, or_self, true_or, or_true, Option.map_some, Option.map_none, hb0, h, decide_true, decide_false, List.length_map, hget, hg, hlt] <;> (try clear hb0)) | (with_reducible refine And.intro (?_ : regOk _ _ = true) ?_; kernel_rfl) | (with_reducible refine And.intro ?_ ?_; first | omega | assumption | (focus (decide)) | (focus (simp; done)) | (focus (simp; omega)) | (focus (constructor <;> omega)) | fail) | (refine AW.ret (Fin.data rfl (by first | (simp only [go_sem]; done) | (simp [go_sem, *]; done) | (simp [go_sem]; omega) | rfl) rfl)) | (exfalso; omega))
      | true =>
      rw [if_neg (by simp)] at hF
      cases ho : omI om xp with
      | none =>
        rw [ho] at hf
        rw [omG_none ho] at hF
        rw [omP_none ho] at hst
        cases xo with
        | false =>
          rw [if_pos rfl] at hF
          subst hF
          rw [if_pos (by simp)] at g2
          subst g2
          repeat' (first | ((first | refine AW.sreg rfl fun K hK => ?_ | refine AW.sregD hmix rfl fun K hK => ?_ | refine run_call _ _ _ ((hm).pure rfl rfl _ _) rfl rfl (dstOk_of rfl) rfl rfl rfl ?_ | refine run_call _ _ _ ((hkx).pure rfl rfl _ _) rfl rfl (dstOk_of rfl) rfl rfl rfl ?_); simp only [go_sem, Nat.reduceAdd, Nat.reduceMul, Int.reduceToNat, Nat.reduceLT, Nat.reduceLeDiff, Nat.le_refl, Nat.reduceEqDiff, ↓reduceIte, beq_self_eq_true, bne_self_eq_false, Int.reduceBEq, Int.reduceBNe, or_self, true_or, or_true, Option.map_some, Option.map_none, List.length_map, hget, hg, hlt, hf]) | (refine AW.seq_k fun K hK => ?_) | (refine AW.block ?_) | (refine AW.skip ?_; simp only [Then, InBlock]) | (refine AW.condT rfl (by first | rfl | (simp; omega) | (simp [*]; done) | fail) ?_) | (refine AW.condF rfl (by first | rfl | (simp; omega) | (simp [*]; done) | fail) ?_) | (refine hK _ ?_; clear hK K) | (refine stepBT_split (fun h => ?_) (fun h => ?_) <;> (have hb0 := h) <;> (try simp only [Bool.not_eq_true', Bool.not_eq_false'] at hb0) <;> (try simp only [decide_eq_true_eq, decide_eq_false_iff_not, Bool.not_eq_true', Bool.not_eq_false', Bool.not_eq_eq_eq_not, Bool.not_true, Bool.not_false, beq_iff_eq, bne_iff_ne, beq_eq_false_iff_ne, ne_eq, Bool.and_eq_true, Bool.or_eq_true, Bool.or_eq_false_iff] at h) <;> simp only [go_sem, Nat.reduceAdd, Nat.reduceMul, Int.reduceToNat, Nat.reduceLT, Nat.reduceLeDiff, Nat.le_refl, Nat.reduceEqDiff, ↓reduceIte, beq_self_eq_true, bne_self_eq_false, Int.reduceBEq, Int.reduceBNe, or_self, true_or, or_true, Option.map_some, Option.map_none, hb0, h, decide_true, decide_false, List.length_map, hget, hg, hlt, hf] <;> (try clear hb0)) | (with_reducible refine And.intro (?_ : regOk _ _ = true) ?_; kernel_rfl) | (with_reducible refine And.intro ?_ ?_; first | omega | assumption | (focus (decide)) | (focus (simp; done)) | (focus (simp; omega)) | (focus (constructor <;> omega)) | fail) | (refine AW.ret (Fin.data rfl (by first | (simp only [go_sem]; done) | (simp [go_sem, *]; done) | (simp [go_sem]; omega) | rfl) rfl)) | (exfalso; omega))
        | true =>
          rw [if_neg (by simp)] at hF
          subst hF
          rw [if_neg (by simp)] at g2
          repeat' (first | ((first | refine AW.sreg rfl fun K hK => ?_ | refine AW.sregD hmix rfl fun K hK => ?_ | refine AW.reg rfl ?_ | refine run_call _ _ _ ((hm).pure rfl rfl _ _) rfl rfl (dstOk_of rfl) rfl rfl rfl ?_ | refine run_call _ _ _ ((hkx).pure rfl rfl _ _) rfl rfl (dstOk_of rfl) rfl rfl rfl ?_); simp only [go_sem, Nat.reduceAdd, Nat.reduceMul, Int.reduceToNat, Nat.reduceLT, Nat.reduceLeDiff, Nat.le_refl, Nat.reduceEqDiff, ↓reduceIte, beq_self_eq_true, bne_self_eq_false, Int.reduceBEq, Int.reduceBNe, or_self, true_or, or_true, Option.map_some, Option.map_none, List.length_map, hget, hg, hlt, hf]) | (refine AW.seq_k fun K hK => ?_) | (refine AW.block ?_) | (refine AW.skip ?_; simp only [Then, InBlock]) | (refine AW.condT rfl (by first | rfl | (simp; omega) | (simp [*]; done) | fail) ?_) | (refine AW.condF rfl (by first | rfl | (simp; omega) | (simp [*]; done) | fail) ?_) | (refine hK _ ?_; clear hK K) | (refine stepBT_split (fun h => ?_) (fun h => ?_) <;> (have hb0 := h) <;> (try simp only [Bool.not_eq_true', Bool.not_eq_false'] at hb0) <;> (try simp only [decide_eq_true_eq, decide_eq_false_iff_not, Bool.not_eq_true', Bool.not_eq_false', Bool.not_eq_eq_eq_not, Bool.not_true, Bool.not_false, beq_iff_eq, bne_iff_ne, beq_eq_false_iff_ne, ne_eq, Bool.and_eq_true, Bool.or_eq_true, Bool.or_eq_false_iff] at h) <;> simp only [go_sem, Nat.reduceAdd, Nat.reduceMul, Int.reduceToNat, Nat.reduceLT, Nat.reduceLeDiff, Nat.le_refl, Nat.reduceEqDiff, ↓reduceIte, beq_self_eq_true, bne_self_eq_false, Int.reduceBEq, Int.reduceBNe, or_self, true_or, or_true, Option.map_some, Option.map_none, hb0, h, decide_true, decide_false, List.length_map, hget, hg, hlt, hf] <;> (try clear hb0)) | (with_reducible refine And.intro (?_ : regOk _ _ = true) ?_; kernel_rfl) | (with_reducible refine And.intro ?_ ?_; first | omega | assumption | (focus (decide)) | (focus (simp; done)) | (focus (simp; omega)) | (focus (constructor <;> omega)) | fail) | (exfalso; omega))
          exact ⟨i + 1, ⟨hi, g2⟩, by omega, (Weak.auto hcx rfl rfl (Nat.le_of_ble_eq_true rfl) (by simp [go_sem, gL, kL, renOf, V.obj, lk, Nat.blt, Nat.ble, List.map_append, dv_push, hst]) (by simp [go_sem, gL, kL, renOf, V.obj, lk, Nat.blt, Nat.ble, List.map_append, dv_push, hst]) (by first | (intro i hi; exact absurd hi (Nat.not_lt_zero _)) | (intro i0 hi0; match i0, hi0 with | 0, _ => exact ⟨_, rfl⟩ | n0+1, h0 => exact absurd h0 (Nat.not_lt.2 (Nat.le_add_left 1 n0))) | (intro i0 hi0; match i0, hi0 with | 0, _ => exact ⟨_, rfl⟩ | 1, _ => exact ⟨_, rfl⟩ | n0+2, h0 => exact absurd h0 (Nat.not_lt.2 (Nat.le_add_left 2 n0))) | (intro i0 hi0; match i0, hi0 with | 0, _ => exact ⟨_, rfl⟩ | 1, _ => exact ⟨_, rfl⟩ | 2, _ => exact ⟨_, rfl⟩ | n0+3, h0 => exact absurd h0 (Nat.not_lt.2 (Nat.le_add_left 3 n0))) | (intro i0 hi0; match i0, hi0 with | 0, _ => exact ⟨_, rfl⟩ | 1, _ => exact ⟨_, rfl⟩ | 2, _ => exact ⟨_, rfl⟩ | 3, _ => exact ⟨_, rfl⟩ | n0+4, h0 => exact absurd h0 (Nat.not_lt.2 (Nat.le_add_left 4 n0)))) (by simp [go_sem, gL, kL, lk, renOf, V.obj, Nat.blt, Nat.ble, hst]))⟩
      | some j =>
        obtain ⟨v, hv, hgv⟩ := omI_some ho
        rw [ho] at hf
        rw [hgv] at hF
        rw [omP_some ho] at hst
        have hk1 := omP_keys hv
        have hk2 := omP_keys2 (v2 := xo) hv
        have hvv := omP_vals om xp j xo
        have hgg : (dv (om.map fun q => D.bool q.2))[j]? = some (.d (.bool v)) := by simp [dv, hv]
        by_cases hy : v = xo
        · rw [if_pos hy] at hF
          subst hF
          rw [if_pos (by simp)] at g2
          subst g2
          have hyb : (v == xo) = true := by simpa using hy
          repeat' (first | ((first | refine AW.sreg rfl fun K hK => ?_ | refine AW.sregD hmix rfl fun K hK => ?_ | refine run_call _ _ _ ((hm).pure rfl rfl _ _) rfl rfl (dstOk_of rfl) rfl rfl rfl ?_ | refine run_call _ _ _ ((hkx).pure rfl rfl _ _) rfl rfl (dstOk_of rfl) rfl rfl rfl ?_); simp only [go_sem, Nat.reduceAdd, Nat.reduceMul, Int.reduceToNat, Nat.reduceLT, Nat.reduceLeDiff, Nat.le_refl, Nat.reduceEqDiff, ↓reduceIte, beq_self_eq_true, bne_self_eq_false, Int.reduceBEq, Int.reduceBNe, or_self, true_or, or_true, Option.map_some, Option.map_none, List.length_map, hget, hg, hlt, hf, hgg, hyb]) | (refine AW.seq_k fun K hK => ?_) | (refine AW.block ?_) | (refine AW.skip ?_; simp only [Then, InBlock]) | (refine AW.condT rfl (by first | rfl | (simp; omega) | (simp [*]; done) | fail) ?_) | (refine AW.condF rfl (by first | rfl | (simp; omega) | (simp [*]; done) | fail) ?_) | (refine hK _ ?_; clear hK K) | (refine stepBT_split (fun h => ?_) (fun h => ?_) <;> (have hb0 := h) <;> (try simp only [Bool.not_eq_true', Bool.not_eq_false'] at hb0) <;> (try simp only [decide_eq_true_eq, decide_eq_false_iff_not, Bool.not_eq_true', Bool.not_eq_false', Bool.not_eq_eq_eq_not, Bool.not_true, Bool.not_false, beq_iff_eq, bne_iff_ne, beq_eq_false_iff_ne, ne_eq, Bool.and_eq_true, Bool.or_eq_true, Bool.or_eq_false_iff] at h) <;> simp only [go_sem, Nat.reduceAdd, Nat.reduceMul, Int.reduceToNat, Nat.reduceLT, Nat.reduceLeDiff, Nat.le_refl, Nat.reduceEqDiff, ↓reduceIte, beq_self_eq_true, bne_self_eq_false, Int.reduceBEq, Int.reduceBNe, or_self, true_or, or_true, Option.map_some, Option.map_none, hb0, h, decide_true, decide_false, List.length_map, hget, hg, hlt, hf, hgg, hyb] <;> (try clear hb0)) | (with_reducible refine And.intro (?_ : regOk _ _ = true) ?_; kernel_rfl) | (with_reducible refine And.intro ?_ ?_; first | omega | assumption | (focus (decide)) | (focus (simp; done)) | (focus (simp; omega)) | (focus (constructor <;> omega)) | fail) | (refine AW.ret (Fin.data rfl (by first | (simp only [go_sem]; done) | (simp [go_sem, *]; done) | (simp [go_sem]; omega) | rfl) rfl)) | (exfalso; omega))
        · rw [if_neg hy] at hF
          subst hF
          rw [if_neg (by simp)] at g2
          have hyb : (v == xo) = false := by simpa using hy
          repeat' (first | ((first | refine AW.sreg rfl fun K hK => ?_ | refine AW.sregD hmix rfl fun K hK => ?_ | refine AW.reg rfl ?_ | refine run_call _ _ _ ((hm).pure rfl rfl _ _) rfl rfl (dstOk_of rfl) rfl rfl rfl ?_ | refine run_call _ _ _ ((hkx).pure rfl rfl _ _) rfl rfl (dstOk_of rfl) rfl rfl rfl ?_); simp only [go_sem, Nat.reduceAdd, Nat.reduceMul, Int.reduceToNat, Nat.reduceLT, Nat.reduceLeDiff, Nat.le_refl, Nat.reduceEqDiff, ↓reduceIte, beq_self_eq_true, bne_self_eq_false, Int.reduceBEq, Int.reduceBNe, or_self, true_or, or_true, Option.map_some, Option.map_none, List.length_map, hget, hg, hlt, hf, hgg, hyb, hk1]) | (refine AW.seq_k fun K hK => ?_) | (refine AW.block ?_) | (refine AW.skip ?_; simp only [Then, InBlock]) | (refine AW.condT rfl (by first | rfl | (simp; omega) | (simp [*]; done) | fail) ?_) | (refine AW.condF rfl (by first | rfl | (simp; omega) | (simp [*]; done) | fail) ?_) | (refine hK _ ?_; clear hK K) | (refine stepBT_split (fun h => ?_) (fun h => ?_) <;> (have hb0 := h) <;> (try simp only [Bool.not_eq_true', Bool.not_eq_false'] at hb0) <;> (try simp only [decide_eq_true_eq, decide_eq_false_iff_not, Bool.not_eq_true', Bool.not_eq_false', Bool.not_eq_eq_eq_not, Bool.not_true, Bool.not_false, beq_iff_eq, bne_iff_ne, beq_eq_false_iff_ne, ne_eq, Bool.and_eq_true, Bool.or_eq_true, Bool.or_eq_false_iff] at h) <;> simp only [go_sem, Nat.reduceAdd, Nat.reduceMul, Int.reduceToNat, Nat.reduceLT, Nat.reduceLeDiff, Nat.le_refl, Nat.reduceEqDiff, ↓reduceIte, beq_self_eq_true, bne_self_eq_false, Int.reduceBEq, Int.reduceBNe, or_self, true_or, or_true, Option.map_some, Option.map_none, hb0, h, decide_true, decide_false, List.length_map, hget, hg, hlt, hf, hgg, hyb, hk1] <;> (try clear hb0)) | (with_reducible refine And.intro (?_ : regOk _ _ = true) ?_; kernel_rfl) | (with_reducible refine And.intro ?_ ?_; first | omega | assumption | (focus (decide)) | (focus (simp; done)) | (focus (simp; omega)) | (focus (constructor <;> omega)) | fail) | (exfalso; omega))
          exact ⟨i + 1, ⟨hi, g2⟩, by omega, (Weak.auto hcx rfl rfl (Nat.le_of_ble_eq_true rfl) (by simp [go_sem, gL, kL, renOf, V.obj, lk, Nat.blt, Nat.ble, List.map_append, dv_push, hst, hk1, hk2, hvv, dv_set1]) (by simp [go_sem, gL, kL, renOf, V.obj, lk, Nat.blt, Nat.ble, List.map_append, dv_push, hst, hk1, hk2, hvv, dv_set1]) (by first | (intro i hi; exact absurd hi (Nat.not_lt_zero _)) | (intro i0 hi0; match i0, hi0 with | 0, _ => exact ⟨_, rfl⟩ | n0+1, h0 => exact absurd h0 (Nat.not_lt.2 (Nat.le_add_left 1 n0))) | (intro i0 hi0; match i0, hi0 with | 0, _ => exact ⟨_, rfl⟩ | 1, _ => exact ⟨_, rfl⟩ | n0+2, h0 => exact absurd h0 (Nat.not_lt.2 (Nat.le_add_left 2 n0))) | (intro i0 hi0; match i0, hi0 with | 0, _ => exact ⟨_, rfl⟩ | 1, _ => exact ⟨_, rfl⟩ | 2, _ => exact ⟨_, rfl⟩ | n0+3, h0 => exact absurd h0 (Nat.not_lt.2 (Nat.le_add_left 3 n0))) | (intro i0 hi0; match i0, hi0 with | 0, _ => exact ⟨_, rfl⟩ | 1, _ => exact ⟨_, rfl⟩ | 2, _ => exact ⟨_, rfl⟩ | 3, _ => exact ⟨_, rfl⟩ | n0+4, h0 => exact absurd h0 (Nat.not_lt.2 (Nat.le_add_left 4 n0)))) (by simp [go_sem, gL, kL, lk, renOf, V.obj, Nat.blt, Nat.ble, hst, hk1, hk2, hvv, dv_set1]))⟩
  · obtain rfl : i = ts.length := by omega
    rw [List.drop_length, goF] at g2
    subst g2
    repeat' (first | (refine AW.sreg rfl fun K hK => ?_; simp only [go_sem, Nat.reduceAdd, Nat.reduceMul, Int.reduceToNat, Nat.reduceLT, Nat.reduceLeDiff, Nat.le_refl, Nat.reduceEqDiff, ↓reduceIte, beq_self_eq_true, bne_self_eq_false, Int.reduceBEq, Int.reduceBNe, or_self, true_or, or_true, Option.map_some, Option.map_none, List.length_map]) | (refine AW.seq_k fun K hK => ?_) | (refine AW.exit ?_; simp only [go_sem, ↓reduceIte]) | (refine AW.condF rfl (by first | rfl | (simp; omega) | (simp [*]; done) | fail) ?_) | (refine hK _ ?_; clear hK K) | (clear hK K; refine hK _ ?_; clear hK K) | (refine AW.ret (Fin.data rfl (by first | (simp only [go_sem]; done) | (simp [go_sem, *]; done) | (simp [go_sem]; omega) | rfl) rfl)))
def openP (ts : List Tu) (p : Str) (a : Int) : Bool := ts.foldl (fun o u => if u.2.1 = p ∧ u.1 ≤ a then u.2.2 else o) false
theorem isOpen_any (b : Bd) (hb : BdS b) (pa : Str) (a : Int) : Does Tryz.prog 109 [.d (bdD b), S pa, I a] [] (B (openP b.turns pa a)) [] := by
  have hbt := hb.turns
  refine Does.of_AW (n := 31) Tryz.func109 rfl rfl rfl fun cx hcx => ?_
  repeat' (first | (refine AW.sreg rfl fun K hK => ?_; simp only [go_sem, Nat.reduceAdd, Nat.reduceMul, Int.reduceToNat, Nat.reduceLT, Nat.reduceLeDiff, Nat.le_refl, Nat.reduceEqDiff, ↓reduceIte, beq_self_eq_true, bne_self_eq_false, Int.reduceBEq, Int.reduceBNe, or_self, true_or, or_true, Option.map_some, Option.map_none, List.length_map]) | (refine AW.seq_k fun K hK => ?_) | (refine AW.block ?_) | (refine hK _ ?_; clear hK K))
  refine AW.loopF (ι := Nat) [1, 2, 11, 12] (fun p => [(13, I p), (7, B (openP (b.turns.take p) pa a))]) (fun p => []) 7 (fun p => p ≤ b.turns.length) (fun p => b.turns.length - p) 0 (Nat.zero_le _) (Weak.auto hcx rfl rfl (Nat.le_of_ble_eq_true rfl) (by simp [go_sem, gL, kL, renOf, V.obj, lk, Nat.blt, Nat.ble, List.map_append, dv_push, openP, List.take_zero, List.foldl_nil]) (by simp [go_sem, gL, kL, renOf, V.obj, lk, Nat.blt, Nat.ble, List.map_append, dv_push, openP, List.take_zero, List.foldl_nil]) (by first | (intro i hi; exact absurd hi (Nat.not_lt_zero _)) | (intro i0 hi0; match i0, hi0 with | 0, _ => exact ⟨_, rfl⟩ | n0+1, h0 => exact absurd h0 (Nat.not_lt.2 (Nat.le_add_left 1 n0))) | (intro i0 hi0; match i0, hi0 with | 0, _ => exact ⟨_, rfl⟩ | 1, _ => exact ⟨_, rfl⟩ | n0+2, h0 => exact absurd h0 (Nat.not_lt.2 (Nat.le_add_left 2 n0))) | (intro i0 hi0; match i0, hi0 with | 0, _ => exact ⟨_, rfl⟩ | 1, _ => exact ⟨_, rfl⟩ | 2, _ => exact ⟨_, rfl⟩ | n0+3, h0 => exact absurd h0 (Nat.not_lt.2 (Nat.le_add_left 3 n0))) | (intro i0 hi0; match i0, hi0 with | 0, _ => exact ⟨_, rfl⟩ | 1, _ => exact ⟨_, rfl⟩ | 2, _ => exact ⟨_, rfl⟩ | 3, _ => exact ⟨_, rfl⟩ | n0+4, h0 => exact absurd h0 (Nat.not_lt.2 (Nat.le_add_left 4 n0)))) (by simp [go_sem, gL, kL, lk, renOf, V.obj, Nat.blt, Nat.ble, openP, List.take_zero, List.foldl_nil])) ?_; simp only [St.at_nil, St.at_cons, lk, Nat.reduceEqDiff, ↓reduceIte, Option.getD_some, Option.getD_none, List.cons_append, List.nil_append, List.append_nil]
  intro i h1
  by_cases hi : i < b.turns.length
  · obtain ⟨u, hu, -, -⟩ := get_some hi
    have hgu : (b.turns.map tuD)[i]? = some (tuD u) := by simp only [List.getElem?_map, hu, Option.map_some]
    have hst : openP (b.turns.take (i + 1)) pa a = if u.2.1 = pa ∧ u.1 ≤ a then u.2.2 else openP (b.turns.take i) pa a := by
      rw [List.take_add_one, hu]
      unfold openP
      rw [List.foldl_append]
      rfl
    generalize openP (b.turns.take i) pa a = o at *
    by_cases hp : u.2.1 = pa
    · have hpb : (u.2.1 == pa) = true := by simpa using hp
      by_cases ha : u.1 ≤ a
      · rw [if_pos ⟨hp, ha⟩] at hst
        repeat' (first | ((first | refine AW.sreg rfl fun K hK => ?_ | refine AW.reg rfl ?_); simp only [go_sem, Nat.reduceAdd, Nat.reduceMul, Int.reduceToNat, Nat.reduceLT, Nat.reduceLeDiff, Nat.le_refl, Nat.reduceEqDiff, ↓reduceIte, beq_self_eq_true, bne_self_eq_false, Int.reduceBEq, Int.reduceBNe, or_self, true_or, or_true, Option.map_some, Option.map_none, List.length_map, hgu, hpb, ha]) | (refine AW.seq_k fun K hK => ?_) | (refine AW.block ?_) | (refine AW.skip ?_; simp only [Then, InBlock]) | (refine AW.condT rfl (by first | rfl | (simp; omega) | (simp [*]; done) | fail) ?_) | (refine hK _ ?_; clear hK K) | (with_reducible refine And.intro ?_ ?_; first | omega | assumption | (focus (decide)) | (focus (simp; done)) | (focus (simp; omega)) | (focus (constructor <;> omega)) | fail))
        all_goals exact ⟨i + 1, hi, by omega, (Weak.auto hcx rfl rfl (Nat.le_of_ble_eq_true rfl) (by simp [go_sem, gL, kL, renOf, V.obj, lk, Nat.blt, Nat.ble, List.map_append, dv_push, hst]) (by simp [go_sem, gL, kL, renOf, V.obj, lk, Nat.blt, Nat.ble, List.map_append, dv_push, hst]) (by first | (intro i hi; exact absurd hi (Nat.not_lt_zero _)) | (intro i0 hi0; match i0, hi0 with | 0, _ => exact ⟨_, rfl⟩ | n0+1, h0 => exact absurd h0 (Nat.not_lt.2 (Nat.le_add_left 1 n0))) | (intro i0 hi0; match i0, hi0 with | 0, _ => exact ⟨_, rfl⟩ | 1, _ => exact ⟨_, rfl⟩ | n0+2, h0 => exact absurd h0 (Nat.not_lt.2 (Nat.le_add_left 2 n0))) | (intro i0 hi0; match i0, hi0 with | 0, _ => exact ⟨_, rfl⟩ | 1, _ => exact ⟨_, rfl⟩ | 2, _ => exact ⟨_, rfl⟩ | n0+3, h0 => exact absurd h0 (Nat.not_lt.2 (Nat.le_add_left 3 n0))) | (intro i0 hi0; match i0, hi0 with | 0, _ => exact ⟨_, rfl⟩ | 1, _ => exact ⟨_, rfl⟩ | 2, _ => exact ⟨_, rfl⟩ | 3, _ => exact ⟨_, rfl⟩ | n0+4, h0 => exact absurd h0 (Nat.not_lt.2 (Nat.le_add_left 4 n0)))) (by simp [go_sem, gL, kL, lk, renOf, V.obj, Nat.blt, Nat.ble, hst]))⟩
      · rw [if_neg (fun h => ha h.2)] at hst
        repeat' (first | ((first | refine AW.sreg rfl fun K hK => ?_ | refine AW.reg rfl ?_); simp only [go_sem, Nat.reduceAdd, Nat.reduceMul, Int.reduceToNat, Nat.reduceLT, Nat.reduceLeDiff, Nat.le_refl, Nat.reduceEqDiff, ↓reduceIte, beq_self_eq_true, bne_self_eq_false, Int.reduceBEq, Int.reduceBNe, or_self, true_or, or_true, Option.map_some, Option.map_none, List.length_map, hgu, hpb, ha]) | (refine AW.seq_k fun K hK => ?_) | (refine AW.block ?_) | (refine AW.skip ?_; simp only [Then, InBlock]) | (refine AW.condT rfl (by first | rfl | (simp; omega) | (simp [*]; done) | fail) ?_) | (refine AW.condF rfl (by first | rfl | (simp; omega) | (simp [*]; done) | fail) ?_) | (refine hK _ ?_; clear hK K) | (with_reducible refine And.intro ?_ ?_; first | omega | assumption | (focus (decide)) | (focus (simp; done)) | (focus (simp; omega)) | (focus (constructor <;> omega)) | fail))
        all_goals exact ⟨i + 1, hi, by omega, (Weak.auto hcx rfl rfl (Nat.le_of_ble_eq_true rfl) (by simp [go_sem, gL, kL, renOf, V.obj, lk, Nat.blt, Nat.ble, List.map_append, dv_push, hst]) (by simp [go_sem, gL, kL, renOf, V.obj, lk, Nat.blt, Nat.ble, List.map_append, dv_push, hst]) (by first | (intro i hi; exact absurd hi (Nat.not_lt_zero _)) | (intro i0 hi0; match i0, hi0 with | 0, _ => exact ⟨_, rfl⟩ | n0+1, h0 => exact absurd h0 (Nat.not_lt.2 (Nat.le_add_left 1 n0))) | (intro i0 hi0; match i0, hi0 with | 0, _ => exact ⟨_, rfl⟩ | 1, _ => exact ⟨_, rfl⟩ | n0+2, h0 => exact absurd h0 (Nat.not_lt.2 (Nat.le_add_left 2 n0))) | (intro i0 hi0; match i0, hi0 with | 0, _ => exact ⟨_, rfl⟩ | 1, _ => exact ⟨_, rfl⟩ | 2, _ => exact ⟨_, rfl⟩ | n0+3, h0 => exact absurd h0 (Nat.not_lt.2 (Nat.le_add_left 3 n0))) | (intro i0 hi0; match i0, hi0 with | 0, _ => exact ⟨_, rfl⟩ | 1, _ => exact ⟨_, rfl⟩ | 2, _ => exact ⟨_, rfl⟩ | 3, _ => exact ⟨_, rfl⟩ | n0+4, h0 => exact absurd h0 (Nat.not_lt.2 (Nat.le_add_left 4 n0)))) (by simp [go_sem, gL, kL, lk, renOf, V.obj, Nat.blt, Nat.ble, hst]))⟩
    · rw [if_neg (fun h => hp h.1)] at hst
      have hpb : (u.2.1 == pa) = false := by simpa using hp
      repeat' (first | ((first | refine AW.sreg rfl fun K hK => ?_ | refine AW.reg rfl ?_); simp only [go_sem, Nat.reduceAdd, Nat.reduceMul, Int.reduceToNat, Nat.reduceLT, Nat.reduceLeDiff, Nat.le_refl, Nat.reduceEqDiff, ↓reduceIte, beq_self_eq_true, bne_self_eq_false, Int.reduceBEq, Int.reduceBNe, or_self, true_or, or_true, Option.map_some, Option.map_none, List.length_map, hgu, hpb]) | (refine AW.seq_k fun K hK => ?_) | (refine AW.block ?_) | (refine AW.skip ?_; simp only [Then, InBlock]) | (refine AW.condT rfl (by first | rfl | (simp; omega) | (simp [*]; done) | fail) ?_) | (refine AW.condF rfl (by first | rfl | (simp; omega) | (simp [*]; done) | fail) ?_) | (refine hK _ ?_; clear hK K) | (with_reducible refine And.intro ?_ ?_; first | omega | assumption | (focus (decide)) | (focus (simp; done)) | (focus (simp; omega)) | (focus (constructor <;> omega)) | fail))
      all_goals exact ⟨i + 1, hi, by omega, (Weak.auto hcx rfl rfl (Nat.le_of_ble_eq_true rfl) (by simp [go_sem, gL, kL, renOf, V.obj, lk, Nat.blt, Nat.ble, List.map_append, dv_push, hst]) (by simp [go_sem, gL, kL, renOf, V.obj, lk, Nat.blt, Nat.ble, List.map_append, dv_push, hst]) (by first | (intro i hi; exact absurd hi (Nat.not_lt_zero _)) | (intro i0 hi0; match i0, hi0 with | 0, _ => exact ⟨_, rfl⟩ | n0+1, h0 => exact absurd h0 (Nat.not_lt.2 (Nat.le_add_left 1 n0))) | (intro i0 hi0; match i0, hi0 with | 0, _ => exact ⟨_, rfl⟩ | 1, _ => exact ⟨_, rfl⟩ | n0+2, h0 => exact absurd h0 (Nat.not_lt.2 (Nat.le_add_left 2 n0))) | (intro i0 hi0; match i0, hi0 with | 0, _ => exact ⟨_, rfl⟩ | 1, _ => exact ⟨_, rfl⟩ | 2, _ => exact ⟨_, rfl⟩ | n0+3, h0 => exact absurd h0 (Nat.not_lt.2 (Nat.le_add_left 3 n0))) | (intro i0 hi0; match i0, hi0 with | 0, _ => exact ⟨_, rfl⟩ | 1, _ => exact ⟨_, rfl⟩ | 2, _ => exact ⟨_, rfl⟩ | 3, _ => exact ⟨_, rfl⟩ | n0+4, h0 => exact absurd h0 (Nat.not_lt.2 (Nat.le_add_left 4 n0)))) (by simp [go_sem, gL, kL, lk, renOf, V.obj, Nat.blt, Nat.ble, hst]))⟩
  · obtain rfl : i = b.turns.length := by omega
    rw [List.take_length]
    repeat' (first | (refine AW.sreg rfl fun K hK => ?_; simp only [go_sem, Nat.reduceAdd, Nat.reduceMul, Int.reduceToNat, Nat.reduceLT, Nat.reduceLeDiff, Nat.le_refl, Nat.reduceEqDiff, ↓reduceIte, beq_self_eq_true, bne_self_eq_false, Int.reduceBEq, Int.reduceBNe, or_self, true_or, or_true, Option.map_some, Option.map_none, List.length_map]) | (refine AW.seq_k fun K hK => ?_) | (refine AW.exit ?_; simp only [go_sem, ↓reduceIte]) | (refine AW.condF rfl (by first | rfl | (simp; omega) | (simp [*]; done) | fail) ?_) | (refine hK _ ?_; clear hK K) | (clear hK K; refine hK _ ?_; clear hK K) | (refine AW.ret (Fin.data rfl (by first | (simp only [go_sem]; done) | (simp [go_sem, *]; done) | (simp [go_sem]; omega) | rfl) rfl)))
def mayP (b : Bd) (pa pe : Str) (at_ : Int) : Bool := (openP b.turns pa at_ && !decide (((pa, pe) : Pr) ∈ b.barred)) && ((b.heads.any fun x => pe == x) || decide (((pa, pe) : Pr) ∈ b.pairs))
theorem mayP_any (b : Bd) (hb : BdS b) (h1 : RiseP b.pairs) (h2 : RiseP b.barred) (pa pe : Str) (at_ : Int) : Does Tryz.prog 69 [.d (bdD b), S pa, S pe, I at_] [] (B (mayP b pa pe at_)) [] := by
  have c1 := isOpen_any b hb pa at_
  have c2 := isIn_any b.barred (by have := hb.barred; omega) h2 (pa, pe)
  have c3 := isIn_any b.pairs (by have := hb.pairs; omega) h1 (pa, pe)
  have c4 := contains_St b.heads (by have := hb.heads; omega) pe
  refine Does.of_AW (n := 36) Tryz.func69 rfl rfl rfl fun cx hcx => ?_
  unfold mayP
  generalize openP b.turns pa at_ = d1 at *
  generalize decide (((pa, pe) : Pr) ∈ b.barred) = d2 at *
  generalize decide (((pa, pe) : Pr) ∈ b.pairs) = d3 at *
  generalize (b.heads.any fun x => pe == x) = d4 at *
  cases d1 <;> cases d2 <;> cases d4
  all_goals
    repeat' (first | ((first | refine AW.sreg rfl fun K hK => ?_ | refine run_call _ _ _ ((c1).pure rfl rfl _ _) rfl rfl (dstOk_of rfl) rfl rfl rfl ?_ | refine run_call _ _ _ ((c2).pure rfl rfl _ _) rfl rfl (dstOk_of rfl) rfl rfl rfl ?_ | refine run_call _ _ _ ((c3).pure rfl rfl _ _) rfl rfl (dstOk_of rfl) rfl rfl rfl ?_ | refine run_call _ _ _ ((c4).pure rfl rfl _ _) rfl rfl (dstOk_of rfl) rfl rfl rfl ?_); simp only [go_sem, Nat.reduceAdd, Nat.reduceMul, Int.reduceToNat, Nat.reduceLT, Nat.reduceLeDiff, Nat.le_refl, Nat.reduceEqDiff, ↓reduceIte, beq_self_eq_true, bne_self_eq_false, Int.reduceBEq, Int.reduceBNe, or_self, true_or, or_true, Option.map_some, Option.map_none]) | (refine hK _ ?_; clear hK K))
    all_goals exact AW.ret (Fin.data rfl (by simp [go_sem]; done) rfl)
end Go.AX
