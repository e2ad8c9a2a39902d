/- Small functions: remainders, draws. -/
import Derived.Test.YtecggjfjafnepaaGreatDoorTk
import Derived.Test.YtecggjfjafnepaaGreatDoorSk
import Derived.Test.YtecggjfjafnepaaGreatDoorAx31
import Derived.Lib.Bytealg
set_option linter.unusedSimpArgs false
set_option linter.unusedVariables false
set_option maxRecDepth 100000
set_option maxRecDepth 1000000
set_option maxHeartbeats 4000000
set_option linter.unnecessarySimpa false
namespace Go.AX
open Go Go.Proofs
abbrev I (n : Int) : V := .d (.int .i64 n)
abbrev B (b : Bool) : V := .d (.bool b)
abbrev S (s : List UInt8) : V := .d (.str s)

/-- A call of a function that is handed two objects. -/
theorem Does.two {P : Program} {f : FuncId} {ys ys' : List V} {x : V} {o o' q q' : O} (hd : Does P f ys [o, q] x [o', q']) (id jd : Nat) (hne : id ≠ jd) {hv : Nat → Option O} {nid : Nat} (h1 : renL (gOf [id, jd] nid) ys = ys') (hid : hv id = some o) (hjd : hv jd = some q)
  (h2 : x.ren (gOf [id, jd] nid) = x) (h3 : o'.ren (gOf [id, jd] nid) = o') (h4 : o.ren (gOf [id, jd] nid) = o) (h5 : q'.ren (gOf [id, jd] nid) = q') (h6 : q.ren (gOf [id, jd] nid) = q) (hb : ys.all (V.bel 2) = true) (hbo : o.bel 2 = true) (hbq : q.bel 2 = true) (hbx : x.bel 2 = true) (hbo' : o'.bel 2 = true) (hbq' : q'.bel 2 = true) (hl : o'.lv = some o') (hl2 : q'.lv = some q') :
  CallStep P hv nid f ys' x [(id, some o'), (jd, some q')] := by
 have := CallStep.of_does hd (hv := hv) (nid := nid) [id, jd] rfl (by simp [hne]) (fun i r hr => by
  cases i with
  | zero => simp at hr; subst hr; rw [h4]; exact hid
  | succ i =>
   cases i with
   | zero => simp at hr; subst hr; rw [h6]; exact hjd
   | succ i => simp at hr) (Nat.le_refl _) (by simp) hb (by simp [hbo, hbq]) hbx (by simp [hbo', hbq'])
 rw [h1, h2] at this
 have e : updsOf (gOf [id, jd] nid) 0 [o', q'] = [(id, some o'), (jd, some q')] := by
  simp only [updsOf, h3, hl, h5, hl2]; rfl
 rwa [e] at this

theorem tmod_neg (x n : Int) (hn : 0 < n) (h : x.tmod n < 0) : x.tmod n + n = x % n ∧ -n < x.tmod n := by
 have h2 := Int.emod_nonneg x (show n ≠ 0 by omega)
 have h3 := Int.emod_lt_of_pos x hn
 have hs : (n.natAbs : Int) = n := by omega
 rw [Int.tmod_eq_emod, hs] at *
 by_cases hc : 0 ≤ x ∨ n ∣ x
 ·rw [if_pos hc] at h; omega
 ·rw [if_neg hc] at *; omega
theorem tmod_pos (x n : Int) (hn : 0 < n) (h : ¬ x.tmod n < 0) : x.tmod n = x % n := by
 have h2 := Int.emod_nonneg x (show n ≠ 0 by omega)
 have h3 := Int.emod_lt_of_pos x hn
 have hs : (n.natAbs : Int) = n := by omega
 rw [Int.tmod_eq_emod, hs] at *
 by_cases hc : 0 ≤ x ∨ n ∣ x
 ·rw [if_pos hc]; omega
 ·rw [if_neg hc] at *; omega

theorem below (x n : Int) (h1 : 1 ≤ n) (h2 : n ≤ 9223372036854775807) : Does Tryz.prog 76 [I x, I n] [] (I (x % n)) [] := by
 refine Does.of_AW (n := 16) Tryz.func76 rfl rfl rfl fun cx hcx => ?_
 have a1 : ¬ n < 1 := by omega
 have a2 : n ≠ 0 := by omega
 refine AW.sreg rfl fun K hK => ?_; simp only [go_sem, ↓reduceIte]
 refine hK _ ?_; (try clear hK K)
 refine AW.seq_k fun K1 hK1 => ?_
 refine AW.sreg rfl fun K hK => ?_; simp only [go_sem, ↓reduceIte]
 refine hK _ ?_; (try clear hK K)
 refine AW.condF rfl (decide_eq_false a1) (AW.skip (hK1 _ ?_))
 refine AW.sreg rfl fun K hK => ?_; simp only [go_sem, ↓reduceIte]
 refine ⟨a2, ?_⟩
 refine hK _ ?_; (try clear hK K)
 refine AW.seq_k fun K1 hK1 => ?_
 refine AW.sreg rfl fun K hK => ?_; simp only [go_sem, ↓reduceIte]
 refine hK _ ?_; (try clear hK K)
 refine AW.cond rfl (fun h => ?_) (fun h => ?_)
 ·have h := of_decide_eq_true h
  obtain ⟨e1, e2⟩ := tmod_neg x n (by omega) h
  refine AW.reg rfl ?_
  simp only [go_sem, ↓reduceIte]
  refine ⟨by omega, hK1 _ ?_⟩
  refine AW.sreg rfl fun K hK => ?_; simp only [go_sem, ↓reduceIte]
  exact hK _ (AW.ret (Fin.data rfl (by simp [go_sem, e1]) rfl))
 ·have h := of_decide_eq_false h
  have e1 := tmod_pos x n (by omega) h
  refine AW.skip (hK1 _ ?_)
  refine AW.sreg rfl fun K hK => ?_; simp only [go_sem, ↓reduceIte]
  exact hK _ (AW.ret (Fin.data rfl (by simp [go_sem, e1]) rfl))

def nextV (l : List Int) (at_ n : Int) : Int :=
 if l = [] then (at_ + 1) * 7919 % n else
  let i := at_ % (l.length : Int)
  ((l.getD i.toNat 0) % 1073741824 + at_ / (l.length : Int) * (7919 + i)) % n
abbrev Ls (l : List Int) : V := .d (.sl (l.map (D.int .i64)))


theorem next_nil (at_ n : Int) (h1 : 1 ≤ n) (h2 : n ≤ 9223372036854775807) (ha : 0 ≤ at_) (hb : at_ ≤ 1000000) :
  Does Tryz.prog 28 [.ptr 0 0, I n] [.box 25 [Ls [], I at_]] (I (nextV [] at_ n)) [.box 25 [Ls [], I (at_ + 1)]] := by
 refine Does.of_AW (n := 64) Tryz.func28 rfl rfl rfl fun cx hcx => ?_
 refine AW.sreg rfl fun K hK => ?_; simp only [go_sem, ↓reduceIte]
 refine hK _ ?_; (try clear hK K)
 refine AW.sreg rfl fun K hK => ?_; simp only [go_sem, ↓reduceIte]
 refine ⟨by omega, ?_⟩
 refine hK _ ?_; (try clear hK K)
 refine AW.seq_k fun K1 hK1 => ?_
 refine AW.sreg rfl fun K hK => ?_; simp only [go_sem, ↓reduceIte]
 refine hK _ ?_; (try clear hK K)
 refine AW.condT rfl (by rfl) ?_
 refine AW.sreg rfl fun K hK => ?_; simp only [go_sem, ↓reduceIte]
 refine ⟨by omega, ?_⟩
 refine run_call _ _ _ ((below ((at_ + 1) * 7919) n h1 h2).pure rfl rfl _ _) rfl rfl (dstOk_of rfl) rfl rfl rfl ?_
 simp only [go_sem, ↓reduceIte]
 refine hK _ (AW.ret (Fin.one rfl rfl ⟨_, rfl, rfl⟩ rfl rfl rfl))

theorem next_cons (l : List Int) (hl : l ≠ []) (hl2 : l.length ≤ 9223372036854775807) (at_ n : Int) (h1 : 1 ≤ n) (h2 : n ≤ 9223372036854775807) (ha : 0 ≤ at_) (hb : at_ ≤ 1000000) :
  Does Tryz.prog 28 [.ptr 0 0, I n] [.box 25 [Ls l, I at_]] (I (nextV l at_ n)) [.box 25 [Ls l, I (at_ + 1)]] := by
 have hpos : 0 < l.length := List.length_pos_iff.2 hl
 have e1 : ((l.length : Int) == 0) = false := by simp; omega
 have i0 := Int.emod_nonneg at_ (show (l.length : Int) ≠ 0 by omega)
 have i1 := Int.emod_lt_of_pos at_ (show (0 : Int) < l.length by omega)
 have t1 : (at_ + 1 - 1).tmod l.length = at_ % (l.length : Int) := by rw [Int.add_sub_cancel]; exact Int.tmod_eq_emod_of_nonneg ha
 have t2 : (at_ + 1 - 1).tdiv l.length = at_ / (l.length : Int) := by rw [Int.add_sub_cancel]; exact Int.tdiv_eq_ediv_of_nonneg ha
 have hlt : (at_ % (l.length : Int)).toNat < l.length := by omega
 have hget : (l.map (D.int .i64))[(at_ % (l.length : Int)).toNat]? = some (D.int .i64 (l.getD (at_ % (l.length : Int)).toNat 0)) := by
  simp [List.getElem?_eq_getElem hlt]
 refine Does.of_AW (n := 64) Tryz.func28 rfl rfl rfl fun cx hcx => ?_
 refine AW.sreg rfl fun K hK => ?_; simp only [go_sem, ↓reduceIte]
 refine hK _ ?_; (try clear hK K)
 refine AW.sreg rfl fun K hK => ?_; simp only [go_sem, ↓reduceIte]
 refine ⟨by omega, ?_⟩
 refine hK _ ?_; (try clear hK K)
 refine AW.seq_k fun K1 hK1 => ?_
 refine AW.sreg rfl fun K hK => ?_; simp only [go_sem, ↓reduceIte, List.length_map]
 refine hK _ ?_; (try clear hK K)
 refine AW.condF rfl e1 (AW.skip (hK1 _ ?_))
 refine AW.sregD hmix rfl fun K hK => ?_; simp only [go_sem, ↓reduceIte, List.length_map]
 refine ⟨by omega, by omega, by kernel_rfl, ?_⟩
 refine hK _ ?_; (try clear hK K)
 have t3 : 0 ≤ at_ / (l.length : Int) := Int.ediv_nonneg ha (by omega)
 have t4 : at_ / (l.length : Int) ≤ at_ := Int.ediv_le_self _ ha
 refine AW.sregD hmix rfl fun K hK => ?_; simp only [go_sem, ↓reduceIte, List.length_map, t1, t2]
 refine ⟨by omega, ⟨by omega, by omega, by omega⟩, by kernel_rfl, ?_⟩
 refine hK _ ?_; (try clear hK K)
 have i2 : at_ % (l.length : Int) ≤ at_ := by
  have q1 := Int.mul_ediv_add_emod at_ (l.length : Int)
  have q2 := Int.mul_nonneg (show 0 ≤ (l.length : Int) by omega) t3
  omega
 refine AW.sreg rfl fun K hK => ?_; simp only [go_sem, ↓reduceIte, t1, t2, hget]
 refine ⟨i0, ?_⟩
 refine run_call _ _ _ ((below (l.getD (at_ % (l.length : Int)).toNat 0) 1073741824 (by omega) (by omega)).pure rfl rfl _ _) rfl rfl (dstOk_of rfl) rfl rfl rfl ?_
 simp only [go_sem, ↓reduceIte]
 have b0 := Int.emod_nonneg (l.getD (at_ % (l.length : Int)).toNat 0) (show (1073741824 : Int) ≠ 0 by omega)
 have b1 := Int.emod_lt_of_pos (l.getD (at_ % (l.length : Int)).toNat 0) (show (0 : Int) < 1073741824 by omega)
 have m0 : 0 ≤ at_ / (l.length : Int) * (7919 + at_ % (l.length : Int)) := Int.mul_nonneg t3 (by omega)
 have m1 : at_ / (l.length : Int) * (7919 + at_ % (l.length : Int)) ≤ 1000000 * 1007919 := Int.mul_le_mul (by omega) (by omega) (by omega) (by omega)
 refine ⟨by omega, by omega, by omega, ?_⟩
 refine run_call _ _ _ ((below _ n h1 h2).pure rfl rfl _ _) rfl rfl (dstOk_of rfl) rfl rfl rfl ?_
 simp only [go_sem, ↓reduceIte]
 refine hK _ (AW.ret (Fin.one rfl ?_ ⟨_, rfl, rfl⟩ rfl rfl rfl))
 simp only [go_sem, nextV, hl, if_false]

theorem next_any (l : List Int) (hl2 : l.length ≤ 9223372036854775807) (at_ n : Int) (h1 : 1 ≤ n) (h2 : n ≤ 9223372036854775807) (ha : 0 ≤ at_) (hb : at_ ≤ 1000000) :
  Does Tryz.prog 28 [.ptr 0 0, I n] [.box 25 [Ls l, I at_]] (I (nextV l at_ n)) [.box 25 [Ls l, I (at_ + 1)]] := by
 by_cases hl : l = []
 ·subst hl; exact next_nil at_ n h1 h2 ha hb
 ·exact next_cons l hl hl2 at_ n h1 h2 ha hb
theorem nextV_range (l : List Int) (at_ n : Int) (h1 : 1 ≤ n) : 0 ≤ nextV l at_ n ∧ nextV l at_ n < n := by
 unfold nextV
 split
 ·exact ⟨Int.emod_nonneg _ (by omega), Int.emod_lt_of_pos _ (by omega)⟩
 ·exact ⟨Int.emod_nonneg _ (by omega), Int.emod_lt_of_pos _ (by omega)⟩

theorem range_any (l : List Int) (hl2 : l.length ≤ 9223372036854775807) (at_ lo hi : Int) (h1 : lo ≤ hi) (h2 : -1000000000 ≤ lo) (h3 : hi ≤ 1000000000) (ha : 0 ≤ at_) (hb : at_ ≤ 1000000) :
  Does Tryz.prog 12 [.ptr 0 0, I lo, I hi] [.box 25 [Ls l, I at_]] (I (lo + nextV l at_ (hi - lo + 1))) [.box 25 [Ls l, I (at_ + 1)]] := by
 have hr := nextV_range l at_ (hi - lo + 1) (by omega)
 refine Does.of_AW (n := 19) Tryz.func12 rfl rfl rfl fun cx hcx => ?_
 refine AW.sreg rfl fun K hK => ?_; simp only [go_sem, ↓reduceIte]
 refine hK _ ?_; (try clear hK K)
 refine AW.seq_k fun K1 hK1 => ?_
 refine AW.sreg rfl fun K hK => ?_; simp only [go_sem, ↓reduceIte]
 refine hK _ ?_; (try clear hK K)
 refine AW.condF rfl (by simp; omega) (AW.skip (hK1 _ ?_))
 refine AW.sreg rfl fun K hK => ?_; simp only [go_sem, ↓reduceIte]
 refine ⟨by omega, by omega, ?_⟩
 refine run_call _ _ _ ((next_any l hl2 at_ (hi - lo + 1) (by omega) (by omega) ha hb).one 0 rfl rfl rfl rfl rfl rfl rfl rfl rfl rfl) rfl rfl (dstOk_of rfl) rfl rfl rfl ?_
 simp only [go_sem, ↓reduceIte]
 refine ⟨by omega, ?_⟩
 exact hK _ (AW.ret (Fin.one rfl rfl ⟨_, rfl, rfl⟩ rfl rfl rfl))


end Go.AX

namespace Go.AX
open Go Go.Proofs

/-- The end of a function that hands back data and leaves two objects that it was handed. -/
theorem Fin.two {P : Program} {fn : Func} {st : St} {x : V} {o q : O} {l : List V} (hl : resL P st.hv st.ev fn.results.toList = some l) (hx : frz st.hv (fun i => Nat.blt i 2) (resV l) = x.ren id) (ho : ∃ o', st.hv 0 = some o' ∧ o'.frz st.hv (fun i => Nat.blt i 2) = o.ren id) (hq : ∃ o', st.hv 1 = some o' ∧ o'.frz st.hv (fun i => Nat.blt i 2) = q.ren id)
  (hb : x.bel 2 = true) (hbo : o.bel 2 = true) (hbq : q.bel 2 = true) (hlv : o.lv = some o) (hlq : q.lv = some q) : Fin P fn 2 x [o, q] st := by
 refine ⟨id, fun i => Nat.blt i 2, l, hl, hx, ?_, .inl ?_, ?_, ?_, Nat.le_refl _, hb, by simp [hbo, hbq]⟩
 ·intro i r hr
  obtain ⟨hr, _⟩ := hvL_get hr
  cases i with
  | zero => simp at hr; subst hr; exact ⟨rfl, ho⟩
  | succ i =>
   cases i with
   | zero => simp at hr; subst hr; exact ⟨rfl, hq⟩
   | succ i => simp at hr
 ·intro i hi
  have : i = 0 ∨ i = 1 := by omega
  rcases this with rfl | rfl
  ·exact ⟨o, hlv⟩
  ·exact ⟨q, hlq⟩
 ·intro i j hi hj h; simpa using h
 ·intro i _; rfl

theorem flip_any (l : List Int) (hl2 : l.length ≤ 9223372036854775807) (at_ n : Int) (h1 : 1 ≤ n) (h2 : n ≤ 9223372036854775807) (ha : 0 ≤ at_) (hb : at_ ≤ 1000000) :
  Does Tryz.prog 43 [.ptr 0 0, I n] [.box 25 [Ls l, I at_]] (B (nextV l at_ n == 0)) [.box 25 [Ls l, I (at_ + 1)]] := by
 refine Does.of_AW (n := 9) Tryz.func43 rfl rfl rfl fun cx hcx => ?_
 refine AW.sreg rfl fun K hK => ?_; simp only [go_sem, ↓reduceIte]
 refine hK _ ?_; (try clear hK K)
 refine AW.sreg rfl fun K hK => ?_; simp only [go_sem, ↓reduceIte]
 refine run_call _ _ _ ((next_any l hl2 at_ n h1 h2 ha hb).one 0 rfl rfl rfl rfl rfl rfl rfl rfl rfl rfl) rfl rfl (dstOk_of rfl) rfl rfl rfl ?_
 simp only [go_sem, ↓reduceIte]
 exact hK _ (AW.ret (Fin.one rfl rfl ⟨_, rfl, rfl⟩ rfl rfl rfl))

abbrev SV (strs : List (List UInt8)) : O := .vec 9 1 (dv (strs.map D.str))
end Go.AX

namespace Go.AX
open Go Go.Proofs
abbrev Str := List UInt8
theorem get_some {α : Type} {l : List α} {i : Nat} (h : i < l.length) : ∃ x, l[i]? = some x ∧ x ∈ l ∧ l.drop i = x :: l.drop (i + 1) := ⟨l[i], List.getElem?_eq_getElem h, List.getElem_mem h, List.drop_eq_getElem_cons h⟩
theorem outside_any (n lo hi : Int) : Does Tryz.prog 102 [I n, I lo, I hi] [] (B (decide (n < lo) || decide (hi < n))) [] := by
 refine Does.of_AW (n := 15) Tryz.func102 rfl rfl rfl fun cx hcx => ?_
 repeat' (first | (refine AW.sreg rfl fun K hK => ?_; simp only [go_sem, ↓reduceIte]) | (refine hK _ ?_; clear hK K) | (refine stepB_split (fun h => ?_) (fun h => ?_) <;> (have hb0 := h) <;> (try simp only [Bool.not_eq_true', Bool.not_eq_false'] at hb0) <;> (try simp only [decide_eq_true_eq, decide_eq_false_iff_not, Bool.not_eq_true', Bool.not_eq_false', Bool.not_eq_eq_eq_not, Bool.not_true, Bool.not_false, beq_iff_eq, bne_iff_ne, beq_eq_false_iff_ne, ne_eq, Bool.and_eq_true, Bool.or_eq_true, Bool.or_eq_false_iff] at h) <;> simp only [go_sem, ↓reduceIte, hb0, h, decide_true, decide_false] <;> (try clear hb0)) | (refine AW.ret (Fin.data rfl (by first | (simp only [go_sem]; done) | (simp [go_sem, *]; done) | (simp [go_sem]; omega) | rfl) rfl)))
abbrev IV (ns : List Int) : O := .vec 3 1 (dv (ns.map (D.int .i64)))
theorem pick_any (l : List Int) (hl2 : l.length ≤ 9223372036854775807) (at_ : Int) (ha : 0 ≤ at_) (hb : at_ ≤ 1000000) (ns : List Int) (hs : ns ≠ []) (hs2 : ns.length ≤ 1000000) :
  Does Tryz.prog 27 [.ptr 0 0, .slr 1 0 ns.length] [.box 25 [Ls l, I at_], IV ns] (I (ns.getD (nextV l at_ ns.length).toNat 0)) [.box 25 [Ls l, I (at_ + 1)], IV ns] := by
 have hpos : 0 < ns.length := List.length_pos_iff.2 hs
 have hr := nextV_range l at_ ns.length (by omega)
 generalize hq : nextV l at_ ns.length = r at hr
 have hlt : r.toNat < ns.length := by omega
 have hget : (dv (ns.map (D.int .i64)))[0 + r.toNat]? = some (.d (.int .i64 (ns.getD r.toNat 0))) := by
  simp [dv, hlt]
 refine Does.of_AW (n := 12) Tryz.func27 rfl rfl rfl fun cx hcx => ?_
 refine AW.sreg rfl fun K hK => ?_; simp only [go_sem, ↓reduceIte]
 refine hK _ ?_; (try clear hK K)
 refine AW.sreg rfl fun K hK => ?_; simp only [go_sem, ↓reduceIte]
 have hn := next_any l hl2 at_ ns.length (by omega) (by omega) ha hb
 rw [hq] at hn
 refine run_call _ _ _ ((hn).one 0 rfl rfl rfl rfl rfl rfl rfl rfl rfl rfl) rfl rfl (dstOk_of rfl) rfl rfl rfl ?_
 simp only [go_sem, ↓reduceIte, hget]
 refine ⟨⟨hr.1, hr.2⟩, ?_⟩
 exact hK _ (AW.ret (Fin.two rfl rfl ⟨_, rfl, rfl⟩ ⟨_, rfl, by simp [go_sem]⟩ rfl rfl (belL_dv 2 _) rfl rfl))
theorem one10_any (l : List Int) (hl2 : l.length ≤ 9223372036854775807) (at_ : Int) (ha : 0 ≤ at_) (hb : at_ ≤ 1000000) (strs : List (List UInt8)) (hs : strs ≠ []) (hs2 : strs.length ≤ 1000000) :
  Does Tryz.prog 42 [.ptr 0 0, .slr 1 0 strs.length] [.box 25 [Ls l, I at_], SV strs] (S (strs.getD (nextV l at_ strs.length).toNat [])) [.box 25 [Ls l, I (at_ + 1)], SV strs] := by
 have hpos : 0 < strs.length := List.length_pos_iff.2 hs
 have hr := nextV_range l at_ strs.length (by omega)
 generalize hq : nextV l at_ strs.length = r at hr
 have hlt : r.toNat < strs.length := by omega
 have hget : (dv (strs.map D.str))[0 + r.toNat]? = some (.d (.str (strs.getD r.toNat []))) := by
  simp [dv, hlt]
 refine Does.of_AW (n := 12) Tryz.func42 rfl rfl rfl fun cx hcx => ?_
 refine AW.sreg rfl fun K hK => ?_; simp only [go_sem, ↓reduceIte]
 refine hK _ ?_; (try clear hK K)
 refine AW.sreg rfl fun K hK => ?_; simp only [go_sem, ↓reduceIte]
 have hn := next_any l hl2 at_ strs.length (by omega) (by omega) ha hb
 rw [hq] at hn
 refine run_call _ _ _ ((hn).one 0 rfl rfl rfl rfl rfl rfl rfl rfl rfl rfl) rfl rfl (dstOk_of rfl) rfl rfl rfl ?_
 simp only [go_sem, ↓reduceIte, hget]
 refine ⟨⟨hr.1, hr.2⟩, ?_⟩
 exact hK _ (AW.ret (Fin.two rfl rfl ⟨_, rfl, rfl⟩ ⟨_, rfl, by simp [go_sem]⟩ rfl rfl (belL_dv 2 _) rfl rfl))
theorem getD_mem {α : Type} (l : List α) (i : Nat) (d : α) (h : i < l.length) : l.getD i d ∈ l := by
 simp [h]
theorem pick_mem (l : List Int) (a : Int) (ns : List Int) (h : ns ≠ []) : ns.getD (nextV l a ns.length).toNat 0 ∈ ns := by
 have hpos : 0 < ns.length := List.length_pos_iff.2 h
 have hr := nextV_range l a ns.length (by omega)
 exact getD_mem _ _ _ (by omega)
theorem one_mem (l : List Int) (a : Int) (ns : List Str) (h : ns ≠ []) : ns.getD (nextV l a ns.length).toNat [] ∈ ns := by
 have hpos : 0 < ns.length := List.length_pos_iff.2 h
 have hr := nextV_range l a ns.length (by omega)
 exact getD_mem _ _ _ (by omega)
/-! the same, of which only the range is known -/
abbrev Stm (l : List Int) (a : Int) : O := .box 25 [Ls l, I a]
theorem flipI (l : List Int) (hl2 : l.length ≤ 9223372036854775807) (at_ n : Int) (h1 : 1 ≤ n) (h2 : n ≤ 9223372036854775807) (ha : 0 ≤ at_) (hb : at_ ≤ 1000000) :
  DoesI Tryz.prog 43 [.ptr 0 0, I n] [Stm l at_] (fun _ : Bool => True) (fun r => B r) (fun _ => [Stm l (at_ + 1)]) :=
 (flip_any l hl2 at_ n h1 h2 ha hb).rel (x := fun r => B r) (os' := fun _ => [Stm l (at_ + 1)]) (nextV l at_ n == 0) trivial
theorem pickI (l : List Int) (hl2 : l.length ≤ 9223372036854775807) (at_ : Int) (ha : 0 ≤ at_) (hb : at_ ≤ 1000000) (ns : List Int) (hs : ns ≠ []) (hs2 : ns.length ≤ 1000000) :
  DoesI Tryz.prog 27 [.ptr 0 0, .slr 1 0 ns.length] [Stm l at_, IV ns] (fun r : Int => r ∈ ns) (fun r => I r) (fun _ => [Stm l (at_ + 1), IV ns]) :=
 (pick_any l hl2 at_ ha hb ns hs hs2).rel (x := fun r => I r) (os' := fun _ => [Stm l (at_ + 1), IV ns]) _ (pick_mem l at_ ns hs)
theorem pickB (l : List Int) (hl2 : l.length ≤ 9223372036854775807) (at_ : Int) (ha : 0 ≤ at_) (hb : at_ ≤ 1000000) (ns : List Int) (lo hi : Int) (hs : ns ≠ []) (hs2 : ns.length ≤ 1000000) (h : (ns.all fun r => decide (lo ≤ r) && decide (r ≤ hi)) = true) :
  DoesI Tryz.prog 27 [.ptr 0 0, .slr 1 0 ns.length] [Stm l at_, IV ns] (fun r : Int => lo ≤ r ∧ r ≤ hi) (fun r => I r) (fun _ => [Stm l (at_ + 1), IV ns]) :=
 (pickI l hl2 at_ ha hb ns hs hs2).weaken fun r hr => ⟨r, by simpa using List.all_eq_true.1 h r hr, rfl, rfl⟩
theorem one10I (l : List Int) (hl2 : l.length ≤ 9223372036854775807) (at_ : Int) (ha : 0 ≤ at_) (hb : at_ ≤ 1000000) (strs : List Str) (hs : strs ≠ []) (hs2 : strs.length ≤ 1000000) :
  DoesI Tryz.prog 42 [.ptr 0 0, .slr 1 0 strs.length] [Stm l at_, SV strs] (fun r : Str => r ∈ strs) (fun r => S r) (fun _ => [Stm l (at_ + 1), SV strs]) :=
 (one10_any l hl2 at_ ha hb strs hs hs2).rel (x := fun r => S r) (os' := fun _ => [Stm l (at_ + 1), SV strs]) _ (one_mem l at_ strs hs)
theorem rangeI (l : List Int) (hl2 : l.length ≤ 9223372036854775807) (at_ lo hi : Int) (h1 : lo ≤ hi) (h2 : -1000000000 ≤ lo) (h3 : hi ≤ 1000000000) (ha : 0 ≤ at_) (hb : at_ ≤ 1000000) :
  DoesI Tryz.prog 12 [.ptr 0 0, I lo, I hi] [Stm l at_] (fun r : Int => lo ≤ r ∧ r ≤ hi) (fun r => I r) (fun _ => [Stm l (at_ + 1)]) :=
 (range_any l hl2 at_ lo hi h1 h2 h3 ha hb).rel (x := fun r => I r) (os' := fun _ => [Stm l (at_ + 1)]) (lo + nextV l at_ (hi - lo + 1)) (by have := nextV_range l at_ (hi - lo + 1) (by omega); omega)
theorem odd10I (l : List Int) (hl2 : l.length ≤ 9223372036854775807) (at_ lo hi : Int) (h1 : lo ≤ hi) (h2 : -1000000000 ≤ lo) (h3 : hi ≤ 1000000000) (ha : 0 ≤ at_) (hb : at_ ≤ 100000) :
  DoesI Tryz.prog 45 [.ptr 0 0, I lo, I hi] [Stm l at_] (fun q : Int × Int => (-1099511627776 ≤ q.1 ∧ q.1 ≤ 1099511627776) ∧ at_ ≤ q.2 ∧ q.2 ≤ at_ + 2) (fun q => I q.1) (fun q => [Stm l q.2]) := by
 refine DoesI.of_AW (n := 22) Tryz.func45 rfl rfl rfl fun cx hcx => ?_
 repeat' (first | (refine AW.sreg rfl fun K hK => ?_; simp only [go_sem, ↓reduceIte]) | (refine AW.seq_k fun K hK => ?_) | (refine AW.skip ?_; simp only [Then, InBlock]) | (refine AW.cond rfl (fun h => ?_) (fun h => ?_) <;> (try simp only [decide_eq_true_eq, decide_eq_false_iff_not, Bool.not_eq_true', Bool.not_eq_false', Bool.not_eq_eq_eq_not, Bool.not_true, Bool.not_false, beq_iff_eq, bne_iff_ne, beq_eq_false_iff_ne, ne_eq, Bool.and_eq_true, Bool.or_eq_true, Bool.or_eq_false_iff] at h)) | (refine hK _ ?_; clear hK K) | (refine run_callI _ _ _ ((flipI l hl2 at_ 12 (by omega) (by omega) (by omega) (by omega)).objs [0] ⟨rfl, trivial⟩ rfl (by decide) (by simp [go_sem, renOs]) (by simp [go_sem]) (by simp [go_sem]) (fun j hj => ⟨by simp, by simp, by simp [go_sem], by simp [go_sem]⟩)) rfl rfl (dstOk_of rfl) rfl rfl rfl ?_; rintro r hr; (try dsimp only at r); (try dsimp only at hr); simp only [go_sem, ↓reduceIte]) | (refine run_callI _ _ _ ((pickI l hl2 (at_ + 1) (by omega) (by omega) [lo - 1, hi + 1, lo, hi, -1099511627776, 1099511627776] (by simp) (by simp)).objs [0, _] ⟨rfl, rfl, trivial⟩ rfl (by decide) (by simp [go_sem, renOs]) (by simp [go_sem]) (by simp [go_sem]) (fun j hj => ⟨by simp, by simp, by simp [go_sem], by simp [go_sem]⟩)) rfl rfl (dstOk_of rfl) rfl rfl rfl ?_; rintro r hr; (try dsimp only at r); (try dsimp only at hr); simp only [go_sem, ↓reduceIte]) | (refine run_callI _ _ _ ((rangeI l hl2 (at_ + 1) lo hi (by omega) (by omega) (by omega) (by omega) (by omega)).objs [0] ⟨rfl, trivial⟩ rfl (by decide) (by simp [go_sem, renOs]) (by simp [go_sem]) (by simp [go_sem]) (fun j hj => ⟨by simp, by simp, by simp [go_sem], by simp [go_sem]⟩)) rfl rfl (dstOk_of rfl) rfl rfl rfl ?_; rintro r hr; (try dsimp only at r); (try dsimp only at hr); simp only [go_sem, ↓reduceIte]) | (with_reducible refine andI ?_))
 ·refine AW.ret ⟨(r, at_ + 1 + 1), ⟨?_, by simp only; omega, by simp only; omega⟩, Fin.one rfl rfl ⟨_, rfl, by simp [go_sem]⟩ rfl rfl rfl⟩
  simp only [List.mem_cons, List.not_mem_nil, or_false] at hr
  simp only
  omega
 ·exact AW.ret ⟨(r, at_ + 1 + 1), ⟨by simp only; omega, by simp only; omega, by simp only; omega⟩, Fin.one rfl rfl ⟨_, rfl, by simp [go_sem]⟩ rfl rfl rfl⟩
end Go.AX

namespace Go.AX
open Go Go.Proofs Go.RowKit
theorem index_does (a b : List UInt8) (x : D) (h : idxF a b = some x) : Does Tryz.prog 244 [.d (.str a), .d (.str b)] [] (.d x) [] := by
 unfold idxF at h
 split at h
 ·rename_i hl
  cases h
  have hl : a.length < 4294967281 := by simpa using hl
  refine Does.of_str2 (y := .int .i64 (Lib.index a b)) ⟨Tryz.f244, Tryz.func244, rfl, by kernel_rfl⟩ (fun w ok => by simp only [RV, RD]) fun w hg => ?_
  obtain ⟨m, hm⟩ := hg.max (g := 0) (by kernel_rfl)
  exact (Any.stringslite_Index Tryz.l219 ⟨a.toArray⟩ ⟨b.toArray⟩ m w (by simpa [ByteArray.size] using hl) hm).mono fun e w' ⟨h1, h2⟩ => ⟨by simpa using h1, h2 ▸ Below.refl _ _⟩
 ·cases h
def SO (P : Program) : Orc := orc2 (orcS2 244 idxF) (extT P)
theorem SO_ok : OrcOk Tryz.prog (SO Tryz.prog) := orc2_ok (orcS2_ok index_does) extT_ok
def CS (P : Program) : Orc := evF P (SO P) (fun _ => false) 10000 30
theorem CS_ok : OrcOk Tryz.prog (CS Tryz.prog) := evF_ok SO_ok hmix 30
theorem stands_ok : Does Tryz.prog 15 [] [] (.d (.bool true)) [] :=
 bodyE_does CS_ok hmix (by kernel_rfl : bodyE Tryz.prog (CS Tryz.prog) (fun _ => false) 10000 15 [] [] = some (.d (.bool true), []))
end Go.AX

namespace Go.AX
open Go Go.Proofs
def okC (i : Nat) (c : UInt8) : Bool := decide ((97 ≤ (c.toNat : Int) ∧ (c.toNat : Int) ≤ 122) ∨ (0 < (i : Int) ∧ ((48 ≤ (c.toNat : Int) ∧ (c.toNat : Int) ≤ 57) ∨ (c.toNat : Int) = 45 ∨ (c.toNat : Int) = 95)))
def keyR : Nat → List UInt8 → Bool
 | _, [] => true
 | i, c :: r => if okC i c = true then keyR (i + 1) r else false
def keyB (s : List UInt8) : Bool := keyR 0 s && (!(s == []) && decide ((s.length : Int) ≤ 40))
theorem isKey_any (s : List UInt8) (hl : s.length ≤ 1000000) : Does Tryz.prog 61 [S s] [] (B (keyB s)) [] := by
 refine Does.of_AW (n := 48) Tryz.func61 rfl rfl rfl fun cx hcx => ?_
 generalize hR : keyR 0 s = R
 repeat' (first | (refine AW.sreg rfl fun K hK => ?_; simp only [go_sem, ↓reduceIte]) | (refine AW.seq_k fun K hK => ?_) | (refine AW.block ?_) | (refine hK _ ?_; clear hK K))
 refine AW.loopF (ι := Nat) [0] (fun p => [(3, I p)]) (fun p => []) 1 (fun p => p ≤ s.length ∧ keyR p (s.drop p) = R) (fun p => s.length - p) 0 ⟨by simp, hR⟩ (Weak.aC hcx (by refine ⟨?_, ?_, ?_⟩ <;> simp [go_sem, gL, kL, renOf, V.obj, Nat.blt, Nat.ble, List.map_append, dv_push])) ?_; simp only [St.at_nil, St.at_cons, lk, Nat.reduceEqDiff, ↓reduceIte, Option.getD_some, Option.getD_none, List.cons_append, List.nil_append, List.append_nil]
 rintro i ⟨h1, h2⟩
 by_cases hi : i < s.length
 ·obtain ⟨c, hc, hcm, hcd⟩ := get_some hi
  have hget : s[i]? = some c := hc
  rw [hcd, keyR] at h2
  by_cases hk : okC i c = true
  ·rw [if_pos hk] at h2
   have hk := of_decide_eq_true hk
   repeat' (first | ((first | refine AW.sreg rfl fun K hK => ?_ | refine AW.reg rfl ?_); simp only [go_sem, ↓reduceIte, hget]) | (refine AW.seq_k fun K hK => ?_) | (refine AW.block ?_) | (refine AW.skip ?_; simp only [Then, InBlock]) | (refine AW.cT ?_) | (refine AW.cF ?_) | (refine hK _ ?_; clear hK K) | (refine stepB_split (fun h => ?_) (fun h => ?_) <;> (have hb0 := h) <;> (try simp only [Bool.not_eq_true', Bool.not_eq_false'] at hb0) <;> (try simp only [decide_eq_true_eq, decide_eq_false_iff_not, Bool.not_eq_true', Bool.not_eq_false', Bool.not_eq_eq_eq_not, Bool.not_true, Bool.not_false, beq_iff_eq, bne_iff_ne, beq_eq_false_iff_ne, ne_eq, Bool.and_eq_true, Bool.or_eq_true, Bool.or_eq_false_iff] at h) <;> simp only [go_sem, ↓reduceIte, hb0, h, decide_true, decide_false, hget] <;> (try clear hb0)) | (with_reducible refine andI ?_) | (exfalso; omega))
   all_goals first | (exfalso; omega) | exact ⟨i + 1, ⟨hi, h2⟩, by omega, (Weak.aC hcx (by refine ⟨?_, ?_, ?_⟩ <;> simp [go_sem, gL, kL, renOf, V.obj, Nat.blt, Nat.ble, List.map_append, dv_push]))⟩
  ·rw [if_neg hk] at h2
   subst h2
   have hk : ¬ _ := fun h => hk (decide_eq_true h)
   repeat' (first | (refine AW.sreg rfl fun K hK => ?_; simp only [go_sem, ↓reduceIte, hget]) | (refine AW.seq_k fun K hK => ?_) | (refine AW.block ?_) | (refine AW.skip ?_; simp only [Then, InBlock]) | (refine AW.cT ?_) | (refine hK _ ?_; clear hK K) | (refine stepB_split (fun h => ?_) (fun h => ?_) <;> (have hb0 := h) <;> (try simp only [Bool.not_eq_true', Bool.not_eq_false'] at hb0) <;> (try simp only [decide_eq_true_eq, decide_eq_false_iff_not, Bool.not_eq_true', Bool.not_eq_false', Bool.not_eq_eq_eq_not, Bool.not_true, Bool.not_false, beq_iff_eq, bne_iff_ne, beq_eq_false_iff_ne, ne_eq, Bool.and_eq_true, Bool.or_eq_true, Bool.or_eq_false_iff] at h) <;> simp only [go_sem, ↓reduceIte, hb0, h, decide_true, decide_false, hget] <;> (try clear hb0)) | (with_reducible refine andI ?_) | (exfalso; omega))
   all_goals first | (exfalso; omega) | exact AW.ret (Fin.data rfl (by simp [go_sem, keyB, hR]) rfl)
 ·obtain rfl : i = s.length := by omega
  simp only [List.drop_length, keyR] at h2
  subst h2
  cases s with
  | nil =>
   repeat' (first | ((first | refine AW.sreg rfl fun K hK => ?_ | refine AW.exit ?_); simp only [go_sem, ↓reduceIte]) | (refine AW.seq_k fun K hK => ?_) | (refine AW.cF ?_) | (refine hK _ ?_; clear hK K) | (clear hK K; refine hK _ ?_; clear hK K))
   all_goals exact AW.ret (Fin.data rfl (by simp [go_sem, keyB, hR]) rfl)
  | cons c r =>
   have e : ((c :: r : List UInt8) == []) = false := rfl
   repeat' (first | (refine AW.sreg rfl fun K hK => ?_; simp only [go_sem, ↓reduceIte, e]) | (refine AW.seq_k fun K hK => ?_) | (refine AW.exit ?_; simp only [go_sem, ↓reduceIte]) | (refine AW.cF ?_) | (refine hK _ ?_; clear hK K) | (clear hK K; refine hK _ ?_; clear hK K))
   all_goals exact AW.ret (Fin.data rfl (by simp [go_sem, keyB, hR]) rfl)
end Go.AX

namespace Go.AX
open Go Go.Proofs
theorem isNaN_int (a : Int) : Does Tryz.prog 126 [I a] [] (B false) [] := by
 refine Does.of_AW (n := 6) Tryz.func126 rfl rfl rfl fun cx hcx => ?_
 refine AW.sreg rfl fun K hK => ?_; simp only [go_sem, ↓reduceIte]
 refine hK _ ?_; (try clear hK K)
 refine AW.sreg rfl fun K hK => ?_; simp only [go_sem, ↓reduceIte]
 exact hK _ (AW.ret (Fin.data rfl (by simp [go_sem]) rfl))
def cmpI (a b : Int) : Int := if a < b then -1 else if b < a then 1 else 0
theorem compare_int (a b : Int) : Does Tryz.prog 71 [I a, I b] [] (I (cmpI a b)) [] := by
 refine Does.of_AW (n := 20) Tryz.func71 rfl rfl rfl fun cx hcx => ?_
 refine AW.sreg rfl fun K hK => ?_; simp only [go_sem, ↓reduceIte]
 refine hK _ ?_; (try clear hK K)
 refine AW.sreg rfl fun K hK => ?_; simp only [go_sem, ↓reduceIte]
 refine run_call _ _ _ ((isNaN_int a).pure rfl rfl _ _) rfl rfl (dstOk_of rfl) rfl rfl rfl ?_
 simp only [go_sem, ↓reduceIte]
 refine hK _ ?_; (try clear hK K)
 refine AW.sreg rfl fun K hK => ?_; simp only [go_sem, ↓reduceIte]
 refine run_call _ _ _ ((isNaN_int b).pure rfl rfl _ _) rfl rfl (dstOk_of rfl) rfl rfl rfl ?_
 simp only [go_sem, ↓reduceIte]
 refine hK _ ?_; (try clear hK K)
 refine AW.seq_k fun K1 hK1 => ?_
 refine AW.sreg rfl fun K hK => ?_; simp only [go_sem, ↓reduceIte]
 refine hK _ ?_; (try clear hK K)
 refine AW.condF rfl rfl (AW.skip (hK1 _ ?_))
 refine AW.seq_k fun K2 hK2 => ?_
 refine AW.sreg rfl fun K hK => ?_; simp only [go_sem, ↓reduceIte]
 refine hK _ ?_; (try clear hK K)
 refine AW.condF rfl rfl (AW.skip (hK2 _ ?_))
 refine AW.seq_k fun K3 hK3 => ?_
 refine AW.sreg rfl fun K hK => ?_; simp only [go_sem, ↓reduceIte]
 refine hK _ ?_; (try clear hK K)
 refine AW.cond rfl (fun h => ?_) (fun h => ?_)
 ·have h := of_decide_eq_true h
  refine AW.sreg rfl fun K hK => ?_; simp only [go_sem, ↓reduceIte]
  exact hK _ (AW.ret (Fin.data rfl (by simp [go_sem, cmpI, h]) rfl))
 have h := of_decide_eq_false h
 refine AW.skip (hK3 _ ?_)
 refine AW.seq_k fun K4 hK4 => ?_
 refine AW.sreg rfl fun K hK => ?_; simp only [go_sem, ↓reduceIte]
 refine hK _ ?_; (try clear hK K)
 refine AW.cond rfl (fun h2 => ?_) (fun h2 => ?_)
 ·have h2 : b < a := of_decide_eq_true h2
  refine AW.sreg rfl fun K hK => ?_; simp only [go_sem, ↓reduceIte]
  exact hK _ (AW.ret (Fin.data rfl (by simp [go_sem, cmpI, h, h2]) rfl))
 have h2 : ¬ b < a := of_decide_eq_false h2
 refine AW.skip (hK4 _ ?_)
 refine AW.sreg rfl fun K hK => ?_; simp only [go_sem, ↓reduceIte]
 exact hK _ (AW.ret (Fin.data rfl (by simp [go_sem, cmpI, h, h2]) rfl))
def orI : List Int → Int
 | [] => 0
 | x :: r => if x ≠ 0 then x else orI r
theorem cmpOr_any (ns : List Int) (hl : ns.length ≤ 1000) : Does Tryz.prog 70 [.d (.sl (ns.map (D.int .i64)))] [] (I (orI ns)) [] := by
 refine Does.of_AW (n := 18) Tryz.func70 rfl rfl rfl fun cx hcx => ?_
 generalize hR : orI ns = R
 repeat' (first | (refine AW.sreg rfl fun K hK => ?_; simp only [go_sem, ↓reduceIte, List.length_map]) | (refine AW.seq_k fun K hK => ?_) | (refine AW.block ?_) | (refine hK _ ?_; clear hK K))
 refine AW.loopF (ι := Nat) [3, 6, 7] (fun p => [(8, I p)]) (fun p => []) 1 (fun p => p ≤ ns.length ∧ orI (ns.drop p) = R) (fun p => ns.length - p) 0 ⟨by simp, hR⟩ (Weak.aC hcx (by refine ⟨?_, ?_, ?_⟩ <;> simp [go_sem, gL, kL, renOf, V.obj, Nat.blt, Nat.ble, List.map_append, dv_push])) ?_; simp only [St.at_nil, St.at_cons, lk, Nat.reduceEqDiff, ↓reduceIte, Option.getD_some, Option.getD_none, List.cons_append, List.nil_append, List.append_nil]
 rintro i ⟨h1, h2⟩
 by_cases hi : i < ns.length
 ·obtain ⟨x, hx, hxm, hxd⟩ := get_some hi
  have hget : (ns.map (D.int .i64))[i]? = some (.int .i64 x) := by simp [hx]
  rw [hxd, orI] at h2
  repeat' (first | ((first | refine AW.sreg rfl fun K hK => ?_ | refine AW.reg rfl ?_); simp only [go_sem, ↓reduceIte, List.length_map, hget]) | (refine AW.seq_k fun K hK => ?_) | (refine AW.block ?_) | (refine AW.skip ?_; simp only [Then, InBlock]) | (refine AW.cT ?_) | (refine AW.cond rfl (fun h => ?_) (fun h => ?_) <;> (try simp only [decide_eq_true_eq, decide_eq_false_iff_not, Bool.not_eq_true', Bool.not_eq_false', Bool.not_eq_eq_eq_not, Bool.not_true, Bool.not_false, beq_iff_eq, bne_iff_ne, beq_eq_false_iff_ne, ne_eq, Bool.and_eq_true, Bool.or_eq_true, Bool.or_eq_false_iff] at h)) | (refine hK _ ?_; clear hK K) | (with_reducible refine andI ?_) | (refine AW.ret (Fin.data rfl (by first | (simp only [go_sem]; done) | ((rw [if_pos h] at h2; subst h2; simp [go_sem]); done) | (simp [go_sem]; omega) | rfl) rfl)))
  rw [if_neg (by simpa using h)] at h2
  exact ⟨i + 1, ⟨hi, h2⟩, by omega, (Weak.aC hcx (by refine ⟨?_, ?_, ?_⟩ <;> simp [go_sem, gL, kL, renOf, V.obj, Nat.blt, Nat.ble, List.map_append, dv_push]))⟩
 ·obtain rfl : i = ns.length := by omega
  simp only [List.drop_length, orI] at h2
  subst h2
  repeat' (first | (refine AW.sreg rfl fun K hK => ?_; simp only [go_sem, ↓reduceIte, List.length_map]) | (refine AW.seq_k fun K hK => ?_) | (refine AW.exit ?_; simp only [go_sem, ↓reduceIte]) | (refine AW.cF ?_) | (refine hK _ ?_; clear hK K) | (clear hK K; refine hK _ ?_; clear hK K) | (refine AW.ret (Fin.data rfl (by first | (simp only [go_sem]; done) | (simp [go_sem, *]; done) | (simp [go_sem]; omega) | rfl) rfl)))
theorem cmpstr_ext (a b : List UInt8) (hv : Nat → Option O) (n : Nat) : CallStep Tryz.prog hv n 220 [S a, S b] (I (Lib.compareBytes a b)) [] :=
 extT_ok _ _ hv n _ _ [] (by kernel_rfl) hv (fun _ h => by cases h)
theorem compareString_any (a b : List UInt8) : Does Tryz.prog 168 [S a, S b] [] (I (Lib.compareBytes a b)) [] := by
 refine Does.of_AW (n := 8) Tryz.func168 rfl rfl rfl fun cx hcx => ?_
 repeat' (first | ((first | refine AW.sreg rfl fun K hK => ?_ | refine run_call _ _ _ (cmpstr_ext a b _ _) rfl rfl (dstOk_of rfl) rfl rfl rfl ?_); simp only [go_sem, ↓reduceIte]) | (refine hK _ ?_; clear hK K) | (refine AW.ret (Fin.data rfl (by first | (simp only [go_sem]; done) | (simp [go_sem, *]; done) | (simp [go_sem]; omega) | rfl) rfl)))
theorem compareStr_any (a b : List UInt8) : Does Tryz.prog 115 [S a, S b] [] (I (Lib.compareBytes a b)) [] := by
 refine Does.of_AW (n := 8) Tryz.func115 rfl rfl rfl fun cx hcx => ?_
 repeat' (first | ((first | refine AW.sreg rfl fun K hK => ?_ | refine run_call _ _ _ ((compareString_any a b).pure rfl rfl _ _) rfl rfl (dstOk_of rfl) rfl rfl rfl ?_); simp only [go_sem, ↓reduceIte]) | (refine hK _ ?_; clear hK K) | (refine AW.ret (Fin.data rfl (by first | (simp only [go_sem]; done) | (simp [go_sem, *]; done) | (simp [go_sem]; omega) | rfl) rfl)))
end Go.AX

namespace Go.AX
open Go Go.Proofs
section
variable {α : Type} (lt : α → α → Bool)
def insP : List α → α → List α → List α
 | [], x, q => x :: q
 | y :: pr, x, q => if lt x y = true then insP pr x (y :: q) else (y :: pr).reverse ++ x :: q
def isGo : List α → List α → List α
 | d, [] => d
 | d, x :: r => isGo (insP lt d.reverse x []) r
def isort (xs : List α) : List α := isGo lt (xs.take 1) (xs.drop 1)
theorem insP_perm : ∀ (pr : List α) (x : α) (q : List α), (insP lt pr x q).Perm (pr.reverse ++ x :: q)
 | [], x, q => by simp [insP]
 | y :: pr, x, q => by
  simp only [insP]
  split
  ·refine (insP_perm pr x (y :: q)).trans ?_
   rw [List.reverse_cons, List.append_assoc]
   exact List.Perm.append_left _ (List.Perm.swap y x q)
  ·exact List.Perm.refl _
theorem isGo_perm : ∀ (r d : List α), (isGo lt d r).Perm (d ++ r)
 | [], d => by simp [isGo]
 | x :: r, d => by
  simp only [isGo]
  refine (isGo_perm r _).trans ?_
  have := insP_perm lt d.reverse x []
  rw [List.reverse_reverse] at this
  refine (List.Perm.append_right r this).trans ?_
  simp
theorem isort_perm (xs : List α) : (isort lt xs).Perm xs := by
 refine (isGo_perm lt _ _).trans ?_
 rw [List.take_append_drop]
end
section
variable {α : Type} {lt : α → α → Bool}
end
theorem take1_tail {α : Type} (l : List α) : l.take 1 ++ l.tail = l := by cases l <;> simp
theorem get_mid {α : Type} (a : List α) (x : α) (b : List α) : (a ++ x :: b)[a.length]? = some x := by simp
theorem set_mid {α : Type} : ∀ (a : List α) (x : α) (b : List α) (z : α), (a ++ x :: b).set a.length z = a ++ z :: b
 | [], _, _, _ => rfl
 | y :: a, x, b, z => by simp [set_mid a x b z]
theorem swap_mid {α : Type} (a : List α) (x y : α) (b : List α) : ((a ++ y :: x :: b).set (0 + (a.length + 1)) y).set (0 + a.length) x = a ++ x :: y :: b := by
 rw [Nat.zero_add, Nat.zero_add]
 have h := set_mid (a ++ [y]) x b y
 simp only [List.length_append, List.length_cons, List.length_nil, Nat.zero_add, List.append_assoc, List.cons_append, List.nil_append] at h
 rw [h, set_mid]
def idxG {α : Type} (q : α → Bool) : List α → Nat → Int
 | [], _ => -1
 | x :: r, i => if q x = true then i else idxG q r (i + 1)
theorem idxG_any {α : Type} (q : α → Bool) : ∀ (l : List α) (i : Nat), decide (0 ≤ idxG q l i) = l.any q
 | [], i => by simp [idxG]
 | x :: r, i => by
  simp only [idxG, List.any_cons]
  split
  ·rename_i h; simp [h]
  ·rename_i h; simp only [Bool.not_eq_true] at h; rw [h, Bool.false_or]; exact idxG_any q r (i + 1)
theorem idxG_none {α : Type} {q : α → Bool} : ∀ {l : List α} (i : Nat), l.any q = false → idxG q l i = -1
 | [], _, _ => rfl
 | x :: l, i, h => by
  simp only [List.any_cons, Bool.or_eq_false_iff] at h
  simp only [idxG, h.1, Bool.false_eq_true, if_false]
  exact idxG_none (i + 1) h.2
theorem idxG_at {α : Type} {q : α → Bool} : ∀ {l : List α} (i : Nat), l.any q = true → ∃ k c, idxG q l i = ((i + k : Nat) : Int) ∧ l[k]? = some c ∧ q c = true ∧ ∀ x ∈ l.take k, q x = false
 | [], i, h => by simp at h
 | x :: l, i, h => by
  simp only [idxG]
  by_cases hx : q x = true
  ·rw [if_pos hx]; exact ⟨0, x, by simp, rfl, hx, by simp⟩
  ·rw [if_neg hx]
   have : l.any q = true := by simpa [hx] using h
   obtain ⟨k, c, h1, h2, h3, h4⟩ := idxG_at (i + 1) this
   refine ⟨k + 1, c, by rw [h1]; congr 1; omega, by simpa using h2, h3, ?_⟩
   intro y hy
   rw [List.take_succ_cons] at hy
   rcases List.mem_cons.1 hy with rfl | hy
   ·simpa using hx
   ·exact h4 y hy
theorem wrap_small (n : Nat) (h : n ≤ 1000) : IntKind.u64.wrap (n : Int) = n := by
 have e : IntKind.u64.wrap (n : Int) = (n : Int) % 18446744073709551616 := by simp [IntKind.wrap, IntKind.signed, IntKind.bits]
 omega
theorem wrap_small' (n : Nat) (h : n ≤ 1000000) : IntKind.u64.wrap (n : Int) = n := by
 have e : IntKind.u64.wrap (n : Int) = (n : Int) % 18446744073709551616 := by simp [IntKind.wrap, IntKind.signed, IntKind.bits]
 omega
def lens : List Int := [0, 1, 2, 2, 3, 3, 3, 3, 4, 4, 4, 4, 4]
theorem len_all : ((List.range 13).all fun n => evalsTo Tryz.prog (CS Tryz.prog) 125 [.d (.int .u64 (n : Nat))] (I (lens.getD n 0))) = true := by kernel_rfl
theorem len_ok (n : Nat) (h : n ≤ 12) : Does Tryz.prog 125 [.d (.int .u64 (n : Nat))] [] (I (lens.getD n 0)) [] := evalsTo_ok CS_ok hmix (List.all_eq_true.1 len_all n (List.mem_range.2 (by omega)))
end Go.AX

namespace Go.AX
open Go Go.Proofs
abbrev Pr := Str × Str
abbrev prD (p : Pr) : D := .agg [.str p.1, .str p.2]
end Go.AX

namespace Go.AX
open Go Go.Proofs
def cpP (a b : Pr) : Int := if Lib.compareBytes a.1 b.1 ≠ 0 then Lib.compareBytes a.1 b.1 else Lib.compareBytes a.2 b.2
def ltP (a b : Pr) : Bool := ltS a.1 b.1 || (a.1 == b.1 && ltS a.2 b.2)
theorem cpP_lt (a b : Pr) : decide (cpP a b < 0) = ltP a b := by
 unfold cpP ltP
 have h1 := cmpB_lt a.1 b.1
 have h2 := cmpB_lt a.2 b.2
 have h3 := cmpB_eq a.1 b.1
 split
 ·rename_i h
  have : a.1 ≠ b.1 := fun e => h (h3.2 e)
  rw [h1]; simp [this]
 ·rename_i h
  simp only [ne_eq, Decidable.not_not] at h
  rw [h2, h3.1 h, ltS_irrefl]; simp
theorem cpP_eq (a b : Pr) : cpP a b = 0 ↔ a = b := by
 unfold cpP
 have h3 := cmpB_eq a.1 b.1
 have h4 := cmpB_eq a.2 b.2
 split
 ·rename_i h
  constructor
  ·intro h'; exact absurd h' h
  ·rintro rfl; exact absurd (h3.2 rfl) h
 ·rename_i h
  simp only [ne_eq, Decidable.not_not] at h
  rw [h4]
  constructor
  ·intro h'; exact Prod.ext (h3.1 h) h'
  ·rintro rfl; rfl
theorem ltP_iff (a b : Pr) : ltP a b = true ↔ ltS a.1 b.1 = true ∨ (a.1 = b.1 ∧ ltS a.2 b.2 = true) := by simp [ltP]
theorem ltP_irrefl (a : Pr) : ltP a a = false := by simp [ltP, ltS_irrefl]
theorem ltP_trans {a b c : Pr} (h1 : ltP a b = true) (h2 : ltP b c = true) : ltP a c = true := by
 rw [ltP_iff] at *
 rcases h1 with h1 | ⟨e1, h1⟩ <;> rcases h2 with h2 | ⟨e2, h2⟩
 ·exact .inl (ltS_trans h1 h2)
 ·exact .inl (by rw [← e2]; exact h1)
 ·exact .inl (by rw [e1]; exact h2)
 ·exact .inr ⟨e1.trans e2, ltS_trans h1 h2⟩
theorem comparePairs_any (a b : Pr) : Does Tryz.prog 119 [.d (prD a), .d (prD b)] [] (I (cpP a b)) [] := by
 refine Does.of_AW (n := 19) Tryz.func119 rfl rfl rfl fun cx hcx => ?_
 by_cases h : Lib.compareBytes a.1 b.1 = 0
 ·rw [show cpP a b = Lib.compareBytes a.2 b.2 from if_neg (by simp [h])]
  repeat' (first | ((first | refine AW.sreg rfl fun K hK => ?_ | refine run_call _ _ _ ((compareStr_any _ _).pure rfl rfl _ _) rfl rfl (dstOk_of rfl) rfl rfl rfl ?_); simp only [go_sem, ↓reduceIte]) | (refine AW.seq_k fun K hK => ?_) | (refine AW.skip ?_; simp only [Then, InBlock]) | (refine AW.cF ?_) | (refine hK _ ?_; clear hK K) | (refine AW.ret (Fin.data rfl (by first | (simp only [go_sem]; done) | (simp [go_sem, *]; done) | (simp [go_sem]; omega) | rfl) rfl)))
 ·rw [show cpP a b = Lib.compareBytes a.1 b.1 from if_pos h]
  repeat' (first | ((first | refine AW.sreg rfl fun K hK => ?_ | refine run_call _ _ _ ((compareStr_any _ _).pure rfl rfl _ _) rfl rfl (dstOk_of rfl) rfl rfl rfl ?_); simp only [go_sem, ↓reduceIte]) | (refine AW.seq_k fun K hK => ?_) | (refine AW.cT ?_) | (refine hK _ ?_; clear hK K) | (refine AW.ret (Fin.data rfl (by first | (simp only [go_sem]; done) | (simp [go_sem, *]; done) | (simp [go_sem]; omega) | rfl) rfl)))
theorem isNaN_str (x : Str) : Does Tryz.prog 219 [S x] [] (B false) [] := by
 refine Does.of_AW (n := 6) Tryz.func219 rfl rfl rfl fun cx hcx => ?_
 repeat' (first | (refine AW.sreg rfl fun K hK => ?_; simp only [go_sem, ↓reduceIte]) | (refine hK _ ?_; clear hK K) | (refine AW.ret (Fin.data rfl (by first | (simp only [go_sem]; done) | (simp [go_sem, *]; done) | (simp [go_sem]; omega) | rfl) rfl)))
theorem compare_str (x y : Str) : Does Tryz.prog 167 [S x, S y] [] (I (Lib.compareBytes x y)) [] := by
 have hl : ∀ a b, Op.bytesLess a b = ltS a b := fun _ _ => rfl
 rcases cmpB_cases x y with ⟨h1, h2, h3⟩ | ⟨h1, h2, h3⟩ | ⟨h2, h3⟩
 ·rw [h3]
  refine Does.of_AW (n := 20) Tryz.func167 rfl rfl rfl fun cx hcx => ?_
  repeat' (first | ((first | refine AW.sreg rfl fun K hK => ?_ | refine run_call _ _ _ ((isNaN_str _).pure rfl rfl _ _) rfl rfl (dstOk_of rfl) rfl rfl rfl ?_); simp only [go_sem, ↓reduceIte, hl, h1, h2]) | (refine AW.seq_k fun K hK => ?_) | (refine AW.skip ?_; simp only [Then, InBlock]) | (refine AW.cT ?_) | (refine AW.cF ?_) | (refine hK _ ?_; clear hK K) | (refine AW.ret (Fin.data rfl (by first | (simp only [go_sem]; done) | (simp [go_sem, *]; done) | (simp [go_sem]; omega) | rfl) rfl)))
 ·rw [h3]
  refine Does.of_AW (n := 20) Tryz.func167 rfl rfl rfl fun cx hcx => ?_
  repeat' (first | ((first | refine AW.sreg rfl fun K hK => ?_ | refine run_call _ _ _ ((isNaN_str _).pure rfl rfl _ _) rfl rfl (dstOk_of rfl) rfl rfl rfl ?_); simp only [go_sem, ↓reduceIte, hl, h1, h2, Bool.or_false]) | (refine AW.seq_k fun K hK => ?_) | (refine AW.skip ?_; simp only [Then, InBlock]) | (refine AW.cT ?_) | (refine AW.cF ?_) | (refine hK _ ?_; clear hK K) | (refine AW.ret (Fin.data rfl (by first | (simp only [go_sem]; done) | (simp [go_sem, *]; done) | (simp [go_sem]; omega) | rfl) rfl)))
 ·rw [h3]
  subst h2
  refine Does.of_AW (n := 20) Tryz.func167 rfl rfl rfl fun cx hcx => ?_
  repeat' (first | ((first | refine AW.sreg rfl fun K hK => ?_ | refine run_call _ _ _ ((isNaN_str _).pure rfl rfl _ _) rfl rfl (dstOk_of rfl) rfl rfl rfl ?_); simp only [go_sem, ↓reduceIte, hl, ltS_irrefl, Bool.or_true]) | (refine AW.seq_k fun K hK => ?_) | (refine AW.skip ?_; simp only [Then, InBlock]) | (refine AW.cF ?_) | (refine hK _ ?_; clear hK K) | (refine AW.ret (Fin.data rfl (by first | (simp only [go_sem]; done) | (simp [go_sem, *]; done) | (simp [go_sem]; omega) | rfl) rfl)))
theorem compare2_any (a b c d : Str) : Does Tryz.prog 113 [.d (.sl [.str a, .str b]), .d (.sl [.str c, .str d])] [] (I (cpP (a, b) (c, d))) [] := by
 refine Does.of_AW (n := 36) Tryz.func113 rfl rfl rfl fun cx hcx => ?_
 unfold cpP
 by_cases h : Lib.compareBytes a c = 0
 ·rw [if_neg (by simp [h])]
  by_cases h2 : Lib.compareBytes b d = 0
  ·rw [h2]
   repeat' (first | ((first | refine AW.sreg rfl fun K hK => ?_ | refine AW.reg rfl ?_ | refine run_call _ _ _ ((compare_str _ _).pure rfl rfl _ _) rfl rfl (dstOk_of rfl) rfl rfl rfl ?_); simp only [go_sem, ↓reduceIte, h, h2, Int.zero_add, Int.reduceAdd]) | (refine AW.seq_k fun K hK => ?_) | (refine AW.block ?_) | (refine AW.skip ?_; simp only [Then, InBlock]) | (refine AW.exit ?_; simp only [go_sem, ↓reduceIte]) | (refine AW.cT ?_) | (refine AW.cF ?_) | (refine hK _ ?_; clear hK K) | (clear hK K; refine hK _ ?_; clear hK K) | (refine AW.unroll 3 ?_; simp only [AWr]) | (with_reducible refine andI ?_) | (refine AW.ret (Fin.data rfl (by first | (simp only [go_sem]; done) | (simp [go_sem, *]; done) | (simp [go_sem]; omega) | rfl) rfl)))
  ·repeat' (first | ((first | refine AW.sreg rfl fun K hK => ?_ | refine AW.reg rfl ?_ | refine run_call _ _ _ ((compare_str _ _).pure rfl rfl _ _) rfl rfl (dstOk_of rfl) rfl rfl rfl ?_); simp only [go_sem, ↓reduceIte, h, Int.zero_add, Int.reduceAdd]) | (refine AW.seq_k fun K hK => ?_) | (refine AW.block ?_) | (refine AW.skip ?_; simp only [Then, InBlock]) | (refine AW.cT ?_) | (refine AW.cF ?_) | (refine hK _ ?_; clear hK K) | (refine AW.unroll 3 ?_; simp only [AWr]) | (with_reducible refine andI ?_) | (refine AW.ret (Fin.data rfl (by first | (simp only [go_sem]; done) | (simp [go_sem, *]; done) | (simp [go_sem]; omega) | rfl) rfl)))
 ·rw [if_pos h]
  repeat' (first | ((first | refine AW.sreg rfl fun K hK => ?_ | refine run_call _ _ _ ((compare_str _ _).pure rfl rfl _ _) rfl rfl (dstOk_of rfl) rfl rfl rfl ?_); simp only [go_sem, ↓reduceIte, Int.zero_add, Int.reduceAdd]) | (refine AW.seq_k fun K hK => ?_) | (refine AW.block ?_) | (refine AW.skip ?_; simp only [Then, InBlock]) | (refine AW.cT ?_) | (refine AW.cF ?_) | (refine hK _ ?_; clear hK K) | (refine AW.unroll 3 ?_; simp only [AWr]) | (with_reducible refine andI ?_) | (refine AW.ret (Fin.data rfl (by first | (simp only [go_sem]; done) | (simp [go_sem, *]; done) | (simp [go_sem]; omega) | rfl) rfl)))
theorem pairOrder_any (a b : Pr) : Does Tryz.prog 201 [.d (prD a), .d (prD b)] [] (I (cpP a b)) [] := by
 refine Does.of_AW (n := 16) Tryz.func201 rfl rfl rfl fun cx hcx => ?_
 repeat' (first | ((first | refine AW.sreg rfl fun K hK => ?_ | refine run_call _ _ _ ((compare2_any a.1 a.2 b.1 b.2).borrow rfl rfl rfl) rfl rfl (dstOk_of rfl) rfl rfl rfl ?_); simp only [go_sem, ↓reduceIte]) | (refine hK _ ?_; clear hK K) | (refine AW.ret (Fin.data rfl (by first | (simp only [go_sem]; done) | (simp [go_sem, *]; done) | (simp [go_sem]; omega) | rfl) rfl)))
end Go.AX

namespace Go.AX
open Go Go.Proofs
end Go.AX

namespace Go.AX
open Go Go.Proofs
def RiseP (xs : List Pr) : Prop := xs.Pairwise (fun a b => ltP a b = true)
theorem riseP_at {xs : List Pr} (h : RiseP xs) {i j : Nat} {x y : Pr} (hi : xs[i]? = some x) (hj : xs[j]? = some y) (hij : i < j) : ltP x y = true := by
 unfold RiseP at h
 rw [List.pairwise_iff_getElem] at h
 have hil : i < xs.length := by
  rcases Nat.lt_or_ge i xs.length with h' | h'
  ·exact h'
  ·simp [List.getElem?_eq_none h'] at hi
 have hjl : j < xs.length := by
  rcases Nat.lt_or_ge j xs.length with h' | h'
  ·exact h'
  ·simp [List.getElem?_eq_none h'] at hj
 rw [List.getElem?_eq_getElem hil] at hi
 rw [List.getElem?_eq_getElem hjl] at hj
 cases hi
 cases hj
 exact h i j hil hjl hij
theorem bsearch_any (xs : List Pr) (hl : xs.length ≤ 1000) (hr : RiseP xs) (tg : Pr) :
  ∃ i : Int, Does Tryz.prog 129 [.d (.sl (xs.map prD)), .d (prD tg), .fn 119 []] [] (.tup [I i, B (decide (tg ∈ xs))]) [] := by
 -- where the least one that is not less lies
 obtain ⟨m, hm, hm1, hm2⟩ : ∃ m, m ≤ xs.length ∧ (∀ k y, xs[k]? = some y → k < m → ltP y tg = true) ∧ (∀ k y, xs[k]? = some y → m ≤ k → ltP y tg = false) := by
  have : ∀ (l : List Pr), RiseP l → ∃ m, m ≤ l.length ∧ (∀ k y, l[k]? = some y → k < m → ltP y tg = true) ∧ (∀ k y, l[k]? = some y → m ≤ k → ltP y tg = false) := by
   intro l
   induction l with
   | nil => exact fun _ => ⟨0, by simp, by simp, by simp⟩
   | cons x l ih =>
    intro hl
    have hl := List.pairwise_cons.1 hl
    cases hx : ltP x tg with
    | false =>
     refine ⟨0, by simp, by simp, ?_⟩
     rintro (_ | k) y hy -
     ·simp at hy; subst hy; exact hx
     ·have hy : l[k]? = some y := by simpa using hy
      cases hyp : ltP y tg with
      | false => rfl
      | true => have := ltP_trans (hl.1 y (List.mem_of_getElem? hy)) hyp; rw [hx] at this; cases this
    | true =>
     obtain ⟨m, h1, h2, h3⟩ := ih hl.2
     refine ⟨m + 1, by simp; omega, ?_, ?_⟩
     ·rintro (_ | k) y hy hk
      ·simp at hy; subst hy; exact hx
      ·exact h2 k y (by simpa using hy) (by omega)
     ·rintro (_ | k) y hy hk
      ·omega
      ·exact h3 k y (by simpa using hy) (by omega)
  exact this xs hr
 have hmem : decide (tg ∈ xs) = (match xs[m]? with | some y => cpP y tg == 0 | none => false) := by
  cases hy : xs[m]? with
  | none =>
   simp only [decide_eq_false_iff_not]
   intro hp
   obtain ⟨k, hk⟩ := List.mem_iff_getElem?.1 hp
   have hkm : k < m := by
    rcases Nat.lt_or_ge k m with h | h
    ·exact h
    ·have := List.getElem?_eq_none_iff.1 hy
     simp [List.getElem?_eq_none (show xs.length ≤ k by omega)] at hk
   have := hm1 k tg hk hkm
   rw [ltP_irrefl] at this; cases this
  | some y =>
   simp only
   by_cases e : y = tg
   ·subst e; rw [(cpP_eq y y).2 rfl]; simpa using List.mem_of_getElem? hy
   ·have h0 : ¬ cpP y tg = 0 := fun h => e ((cpP_eq y tg).1 h)
    have : ¬ tg ∈ xs := by
     intro hp
     obtain ⟨k, hk⟩ := List.mem_iff_getElem?.1 hp
     rcases Nat.lt_or_ge k m with h | h
     ·have := hm1 k tg hk h
      rw [ltP_irrefl] at this; cases this
     ·rcases Nat.lt_or_eq_of_le h with h | h
      ·have h1 := riseP_at hr hy hk h
       rw [hm2 m y hy (Nat.le_refl _)] at h1; cases h1
      ·subst h; rw [hy] at hk; cases hk; exact e rfl
    simp [this, h0]
 refine ⟨m, ?_⟩
 rw [hmem]
 refine Does.of_AW (n := 49) Tryz.func129 rfl rfl rfl fun cx hcx => ?_
 repeat' (first | (refine AW.sreg rfl fun K hK => ?_; simp only [go_sem, ↓reduceIte, List.length_map]) | (refine AW.seq_k fun K hK => ?_) | (refine AW.block ?_) | (refine hK _ ?_; clear hK K))
 refine AW.loopF (ι := Nat × Nat) [0, 2, 4, 8] (fun p => [(9, I p.1), (10, I p.2)]) (fun p => [(0, some (O.box 60 [S tg.1, S tg.2]))]) 1 (fun p => p.1 ≤ m ∧ m ≤ p.2 ∧ p.2 ≤ xs.length) (fun p => p.2 - p.1) (0, xs.length) ⟨by simp, hm, by simp⟩ (Weak.aC hcx (by refine ⟨?_, ?_, ?_⟩ <;> simp [go_sem, gL, kL, renOf, V.obj, Nat.blt, Nat.ble, List.map_append, dv_push])) ?_; simp only [St.at_nil, St.at_cons, lk, Nat.reduceEqDiff, ↓reduceIte, Option.getD_some, Option.getD_none, List.cons_append, List.nil_append, List.append_nil]
 rintro ⟨i, j⟩ ⟨h1, h2, h3⟩
 simp only at h1 h2 h3 ⊢
 by_cases hij : i < j
 ·have hh : (IntKind.u64.wrap ((i : Int) + (j : Int))).fdiv (2 ^ min 1 64) = ((i + j) / 2 : Nat) := by
   rw [show ((i : Int) + (j : Int)) = ((i + j : Nat) : Int) by omega, wrap_small' (i + j) (by omega), show (2 : Int) ^ min 1 64 = 2 from rfl, Int.fdiv_eq_ediv_of_nonneg _ (by omega)]
   omega
  have hlt : (i + j) / 2 < xs.length := by omega
  generalize hgh : (i + j) / 2 = h at hh hlt
  obtain ⟨y, hy, -, -⟩ := get_some hlt
  have hget : (xs.map prD)[h]? = some (prD y) := by simp [hy]
  have hc : decide (cpP y tg < 0) = ltP y tg := cpP_lt y tg
  cases hb : ltP y tg with
  | true =>
   rw [hb] at hc
   have : h < m := by
    rcases Nat.lt_or_ge h m with h' | h'
    ·exact h'
    ·rw [hm2 h y hy h'] at hb; cases hb
   repeat' (first | ((first | refine AW.sreg rfl fun K hK => ?_ | refine AW.sregD hmix rfl fun K hK => ?_ | refine AW.reg rfl ?_ | refine runT_call _ _ [] (fun hv _ => (comparePairs_any y tg).pure rfl rfl hv _) rfl rfl (dstOk_of rfl) rfl rfl ?_); simp only [go_sem, ↓reduceIte, List.length_map, hh, hget, hc]) | (refine AW.seq_k fun K hK => ?_) | (refine AW.block ?_) | (refine AW.skip ?_; simp only [Then, InBlock]) | (refine AW.cT ?_) | (refine hK _ ?_; clear hK K) | (with_reducible refine And.intro (?_ : regOk _ _ = true) ?_; kernel_rfl) | (with_reducible refine andI ?_))
   exact ⟨(h + 1, j), ⟨by simp only; omega, h2, h3⟩, by simp only; omega, (Weak.aC hcx (by refine ⟨?_, ?_, ?_⟩ <;> simp [go_sem, gL, kL, renOf, V.obj, Nat.blt, Nat.ble, List.map_append, dv_push]))⟩
  | false =>
   rw [hb] at hc
   have : m ≤ h := by
    rcases Nat.lt_or_ge h m with h' | h'
    ·rw [hm1 h y hy h'] at hb; cases hb
    ·exact h'
   repeat' (first | ((first | refine AW.sreg rfl fun K hK => ?_ | refine AW.sregD hmix rfl fun K hK => ?_ | refine AW.reg rfl ?_ | refine runT_call _ _ [] (fun hv _ => (comparePairs_any y tg).pure rfl rfl hv _) rfl rfl (dstOk_of rfl) rfl rfl ?_); simp only [go_sem, ↓reduceIte, List.length_map, hh, hget, hc]) | (refine AW.seq_k fun K hK => ?_) | (refine AW.block ?_) | (refine AW.skip ?_; simp only [Then, InBlock]) | (refine AW.cT ?_) | (refine AW.cF ?_) | (refine hK _ ?_; clear hK K) | (with_reducible refine And.intro (?_ : regOk _ _ = true) ?_; kernel_rfl) | (with_reducible refine andI ?_))
   exact ⟨(i, h), ⟨h1, this, by simp only; omega⟩, by simp only; omega, (Weak.aC hcx (by refine ⟨?_, ?_, ?_⟩ <;> simp [go_sem, gL, kL, renOf, V.obj, Nat.blt, Nat.ble, List.map_append, dv_push]))⟩
 ·obtain rfl : i = j := by omega
  obtain rfl : i = m := by omega
  cases hy : xs[i]? with
  | none =>
   have : xs.length ≤ i := List.getElem?_eq_none_iff.1 hy
   repeat' (first | ((first | refine AW.sreg rfl fun K hK => ?_ | refine AW.sregD hmix rfl fun K hK => ?_); simp only [go_sem, ↓reduceIte, List.length_map]) | (refine AW.seq_k fun K hK => ?_) | (refine AW.exit ?_; simp only [go_sem, ↓reduceIte]) | (refine AW.cF ?_) | (refine hK _ ?_; clear hK K) | (clear hK K; refine hK _ ?_; clear hK K) | (refine stepBT_split (fun h => ?_) (fun h => ?_) <;> (have hb0 := h) <;> (try simp only [Bool.not_eq_true', Bool.not_eq_false'] at hb0) <;> (try simp only [decide_eq_true_eq, decide_eq_false_iff_not, Bool.not_eq_true', Bool.not_eq_false', Bool.not_eq_eq_eq_not, Bool.not_true, Bool.not_false, beq_iff_eq, bne_iff_ne, beq_eq_false_iff_ne, ne_eq, Bool.and_eq_true, Bool.or_eq_true, Bool.or_eq_false_iff] at h) <;> simp only [go_sem, ↓reduceIte, hb0, h, decide_true, decide_false, List.length_map] <;> (try clear hb0)) | (with_reducible refine And.intro (?_ : regOk _ _ = true) ?_; kernel_rfl) | (refine AW.ret (Fin.data rfl (by first | (simp only [go_sem]; done) | (simp [go_sem, *]; done) | (simp [go_sem]; omega) | rfl) rfl)) | (exfalso; omega))
  | some y =>
   have hil : i < xs.length := by
    rcases Nat.lt_or_ge i xs.length with h | h
    ·exact h
    ·simp [List.getElem?_eq_none h] at hy
   have hget : (xs.map prD)[i]? = some (prD y) := by simp [hy]
   repeat' (first | ((first | refine AW.sreg rfl fun K hK => ?_ | refine AW.sregD hmix rfl fun K hK => ?_ | refine runT_call _ _ [] (fun hv _ => (comparePairs_any y tg).pure rfl rfl hv _) rfl rfl (dstOk_of rfl) rfl rfl ?_); simp only [go_sem, ↓reduceIte, List.length_map, hget]) | (refine AW.seq_k fun K hK => ?_) | (refine AW.exit ?_; simp only [go_sem, ↓reduceIte]) | (refine AW.cF ?_) | (refine hK _ ?_; clear hK K) | (clear hK K; refine hK _ ?_; clear hK K) | (refine stepBT_split (fun h => ?_) (fun h => ?_) <;> (have hb0 := h) <;> (try simp only [Bool.not_eq_true', Bool.not_eq_false'] at hb0) <;> (try simp only [decide_eq_true_eq, decide_eq_false_iff_not, Bool.not_eq_true', Bool.not_eq_false', Bool.not_eq_eq_eq_not, Bool.not_true, Bool.not_false, beq_iff_eq, bne_iff_ne, beq_eq_false_iff_ne, ne_eq, Bool.and_eq_true, Bool.or_eq_true, Bool.or_eq_false_iff] at h) <;> simp only [go_sem, ↓reduceIte, hb0, h, decide_true, decide_false, List.length_map, hget] <;> (try clear hb0)) | (with_reducible refine And.intro (?_ : regOk _ _ = true) ?_; kernel_rfl) | (with_reducible refine andI ?_) | (exfalso; omega))
   exact AW.ret (Fin.data rfl (by simp only [go_sem, ↓reduceIte, hy]) rfl)
end Go.AX

namespace Go.AX
open Go Go.Proofs
def prF (prev : Option Pr) (c : Pr) : Int := if (keyB c.1 && keyB c.2) = false then 5 else if (match prev with | none => false | some y => decide (0 ≤ cpP y c)) = true then 7 else 0
def prsF : Option Pr → List Pr → Int
 | _, [] => 0
 | p, c :: r => if prF p c ≠ 0 then prF p c else prsF (some c) r
def prevP (xs : List Pr) : Nat → Option Pr
 | 0 => none
 | j + 1 => xs[j]?
def PrB (p : Pr) : Prop := p.1.length ≤ 1000 ∧ p.2.length ≤ 1000
theorem checkPairs_any (xs : List Pr) (hl : xs.length ≤ 1000) (hb : ∀ c ∈ xs, PrB c) : Does Tryz.prog 100 [.d (.sl (xs.map prD))] [] (I (prsF none xs)) [] := by
 refine Does.of_AW (n := 38) Tryz.func100 rfl rfl rfl fun cx hcx => ?_
 generalize hR : prsF none xs = R
 repeat' (first | (refine AW.sreg rfl fun K hK => ?_; simp only [go_sem, ↓reduceIte, List.length_map]) | (refine AW.seq_k fun K hK => ?_) | (refine AW.block ?_) | (refine AW.skip ?_; simp only [Then, InBlock]) | (refine AW.cF ?_) | (refine hK _ ?_; clear hK K))
 refine AW.loopF (ι := Nat) [0, 8, 9] (fun p => [(10, I p)]) (fun p => []) 1 (fun p => p ≤ xs.length ∧ prsF (prevP xs p) (xs.drop p) = R) (fun p => xs.length - p) 0 ⟨by simp, hR⟩ (Weak.aC hcx (by refine ⟨?_, ?_, ?_⟩ <;> simp [go_sem, gL, kL, renOf, V.obj, Nat.blt, Nat.ble, List.map_append, dv_push])) ?_; simp only [St.at_nil, St.at_cons, lk, Nat.reduceEqDiff, ↓reduceIte, Option.getD_some, Option.getD_none, List.cons_append, List.nil_append, List.append_nil]
 rintro i ⟨h1, h2⟩
 by_cases hi : i < xs.length
 ·obtain ⟨x, hx, hxm, hxd⟩ := get_some hi
  have hget : (xs.map prD)[i]? = some (prD x) := by simp [hx]
  obtain ⟨bl, bl2⟩ := hb x hxm
  rw [hxd] at h2
  have hnext : prevP xs (i + 1) = some x := by simp [prevP, hx]
  clear hxd
  rcases i with _ | j
  ·simp only [prevP, prsF, prF] at h2
   repeat' (first | ((first | refine AW.sreg rfl fun K hK => ?_ | refine AW.sregD hmix rfl fun K hK => ?_ | refine AW.reg rfl ?_ | refine run_call _ _ _ ((isKey_any x.1 (by omega)).pure rfl rfl _ _) rfl rfl (dstOk_of rfl) rfl rfl rfl ?_ | refine run_call _ _ _ ((isKey_any x.2 (by omega)).pure rfl rfl _ _) rfl rfl (dstOk_of rfl) rfl rfl rfl ?_); simp only [go_sem, ↓reduceIte, List.length_map, hget]) | (refine AW.seq_k fun K hK => ?_) | (refine AW.block ?_) | (refine AW.skip ?_; simp only [Then, InBlock]) | (refine AW.cT ?_) | (refine AW.cF ?_) | (refine AW.cond rfl (fun h => ?_) (fun h => ?_) <;> (try simp only [decide_eq_true_eq, decide_eq_false_iff_not, Bool.not_eq_true', Bool.not_eq_false', Bool.not_eq_eq_eq_not, Bool.not_true, Bool.not_false, beq_iff_eq, bne_iff_ne, beq_eq_false_iff_ne, ne_eq, Bool.and_eq_true, Bool.or_eq_true, Bool.or_eq_false_iff] at h)) | (refine hK _ ?_; clear hK K) | (refine stepB_split (fun h => ?_) (fun h => ?_) <;> (have hb0 := h) <;> (try simp only [Bool.not_eq_true', Bool.not_eq_false'] at hb0) <;> (try simp only [decide_eq_true_eq, decide_eq_false_iff_not, Bool.not_eq_true', Bool.not_eq_false', Bool.not_eq_eq_eq_not, Bool.not_true, Bool.not_false, beq_iff_eq, bne_iff_ne, beq_eq_false_iff_ne, ne_eq, Bool.and_eq_true, Bool.or_eq_true, Bool.or_eq_false_iff] at h) <;> simp only [go_sem, ↓reduceIte, hb0, h, decide_true, decide_false, List.length_map, hget] <;> (try clear hb0)) | (refine stepBT_split (fun h => ?_) (fun h => ?_) <;> (have hb0 := h) <;> (try simp only [Bool.not_eq_true', Bool.not_eq_false'] at hb0) <;> (try simp only [decide_eq_true_eq, decide_eq_false_iff_not, Bool.not_eq_true', Bool.not_eq_false', Bool.not_eq_eq_eq_not, Bool.not_true, Bool.not_false, beq_iff_eq, bne_iff_ne, beq_eq_false_iff_ne, ne_eq, Bool.and_eq_true, Bool.or_eq_true, Bool.or_eq_false_iff] at h) <;> simp only [go_sem, ↓reduceIte, hb0, h, decide_true, decide_false, List.length_map, hget] <;> (try clear hb0)) | (with_reducible refine And.intro (?_ : regOk _ _ = true) ?_; kernel_rfl) | (with_reducible refine andI ?_) | (refine AW.ret (Fin.data rfl (by first | (simp only [go_sem]; done) | ((simp only [go_sem]; simp_all); done) | (simp [go_sem]; omega) | rfl) rfl)) | (exfalso; omega))
   all_goals first | (exfalso; omega) | exact ⟨_ + 1, ⟨hi, by rw [hnext]; simp_all⟩, by omega, (Weak.aC hcx (by refine ⟨?_, ?_, ?_⟩ <;> simp [go_sem, gL, kL, renOf, V.obj, Nat.blt, Nat.ble, List.map_append, dv_push]))⟩ | skip
  ·obtain ⟨y, hy, hym, hyd⟩ := get_some (show j < xs.length by omega)
   have hget2 : (xs.map prD)[(((j + 1 : Nat) : Int) - 1).toNat]? = some (prD y) := by
    rw [show (((j + 1 : Nat) : Int) - 1).toNat = j by omega]; simp [hy]
   have hp : prevP xs (j + 1) = some y := by simp [prevP, hy]
   clear hyd
   rw [hp] at h2
   simp only [prsF, prF] at h2
   repeat' (first | ((first | refine AW.sreg rfl fun K hK => ?_ | refine AW.sregD hmix rfl fun K hK => ?_ | refine AW.reg rfl ?_ | refine run_call _ _ _ ((isKey_any x.1 (by omega)).pure rfl rfl _ _) rfl rfl (dstOk_of rfl) rfl rfl rfl ?_ | refine run_call _ _ _ ((isKey_any x.2 (by omega)).pure rfl rfl _ _) rfl rfl (dstOk_of rfl) rfl rfl rfl ?_ | refine runT_call _ _ [] (fun hv _ => (comparePairs_any y x).pure rfl rfl hv _) rfl rfl (dstOk_of rfl) rfl rfl ?_); simp only [go_sem, ↓reduceIte, List.length_map, hget, hget2]) | (refine AW.seq_k fun K hK => ?_) | (refine AW.block ?_) | (refine AW.skip ?_; simp only [Then, InBlock]) | (refine AW.cT ?_) | (refine AW.cond rfl (fun h => ?_) (fun h => ?_) <;> (try simp only [decide_eq_true_eq, decide_eq_false_iff_not, Bool.not_eq_true', Bool.not_eq_false', Bool.not_eq_eq_eq_not, Bool.not_true, Bool.not_false, beq_iff_eq, bne_iff_ne, beq_eq_false_iff_ne, ne_eq, Bool.and_eq_true, Bool.or_eq_true, Bool.or_eq_false_iff] at h)) | (refine hK _ ?_; clear hK K) | (refine stepB_split (fun h => ?_) (fun h => ?_) <;> (have hb0 := h) <;> (try simp only [Bool.not_eq_true', Bool.not_eq_false'] at hb0) <;> (try simp only [decide_eq_true_eq, decide_eq_false_iff_not, Bool.not_eq_true', Bool.not_eq_false', Bool.not_eq_eq_eq_not, Bool.not_true, Bool.not_false, beq_iff_eq, bne_iff_ne, beq_eq_false_iff_ne, ne_eq, Bool.and_eq_true, Bool.or_eq_true, Bool.or_eq_false_iff] at h) <;> simp only [go_sem, ↓reduceIte, hb0, h, decide_true, decide_false, List.length_map, hget, hget2] <;> (try clear hb0)) | (refine stepBT_split (fun h => ?_) (fun h => ?_) <;> (have hb0 := h) <;> (try simp only [Bool.not_eq_true', Bool.not_eq_false'] at hb0) <;> (try simp only [decide_eq_true_eq, decide_eq_false_iff_not, Bool.not_eq_true', Bool.not_eq_false', Bool.not_eq_eq_eq_not, Bool.not_true, Bool.not_false, beq_iff_eq, bne_iff_ne, beq_eq_false_iff_ne, ne_eq, Bool.and_eq_true, Bool.or_eq_true, Bool.or_eq_false_iff] at h) <;> simp only [go_sem, ↓reduceIte, hb0, h, decide_true, decide_false, List.length_map, hget, hget2] <;> (try clear hb0)) | (with_reducible refine And.intro (?_ : regOk _ _ = true) ?_; kernel_rfl) | (with_reducible refine andI ?_) | (refine AW.ret (Fin.data rfl (by first | (simp only [go_sem]; done) | ((simp only [go_sem]; simp_all); done) | (simp [go_sem]; omega) | rfl) rfl)))
   all_goals first | (exfalso; omega) | exact ⟨_ + 1, ⟨hi, by rw [hnext]; simp_all⟩, by omega, (Weak.aC hcx (by refine ⟨?_, ?_, ?_⟩ <;> simp [go_sem, gL, kL, renOf, V.obj, Nat.blt, Nat.ble, List.map_append, dv_push]))⟩ | skip
 ·obtain rfl : i = xs.length := by omega
  simp only [List.drop_length, prsF] at h2
  subst h2
  repeat' (first | (refine AW.sreg rfl fun K hK => ?_; simp only [go_sem, ↓reduceIte, List.length_map]) | (refine AW.seq_k fun K hK => ?_) | (refine AW.exit ?_; simp only [go_sem, ↓reduceIte]) | (refine AW.cF ?_) | (refine hK _ ?_; clear hK K) | (clear hK K; refine hK _ ?_; clear hK K) | (refine AW.ret (Fin.data rfl (by first | (simp only [go_sem]; done) | (simp [go_sem, *]; done) | (simp [go_sem]; omega) | rfl) rfl)))
theorem pairsFault_any (xs : List Pr) (hl : xs.length ≤ 1000) (hb : ∀ c ∈ xs, Does Tryz.prog 81 [S c.1] [] (B (keyB c.1)) [] ∧ Does Tryz.prog 81 [S c.2] [] (B (keyB c.2)) []) : Does Tryz.prog 147 [.d (.sl (xs.map prD))] [] (I (prsF none xs)) [] := by
 refine Does.of_AW (n := 38) Tryz.func147 rfl rfl rfl fun cx hcx => ?_
 generalize hR : prsF none xs = R
 repeat' (first | (refine AW.sreg rfl fun K hK => ?_; simp only [go_sem, ↓reduceIte, List.length_map]) | (refine AW.seq_k fun K hK => ?_) | (refine AW.block ?_) | (refine AW.skip ?_; simp only [Then, InBlock]) | (refine AW.cF ?_) | (refine hK _ ?_; clear hK K))
 refine AW.loopF (ι := Nat) [0, 8, 9] (fun p => [(10, I p)]) (fun p => []) 1 (fun p => p ≤ xs.length ∧ prsF (prevP xs p) (xs.drop p) = R) (fun p => xs.length - p) 0 ⟨by simp, hR⟩ (Weak.aC hcx (by refine ⟨?_, ?_, ?_⟩ <;> simp [go_sem, gL, kL, renOf, V.obj, Nat.blt, Nat.ble, List.map_append, dv_push])) ?_; simp only [St.at_nil, St.at_cons, lk, Nat.reduceEqDiff, ↓reduceIte, Option.getD_some, Option.getD_none, List.cons_append, List.nil_append, List.append_nil]
 rintro i ⟨h1, h2⟩
 by_cases hi : i < xs.length
 ·obtain ⟨x, hx, hxm, hxd⟩ := get_some hi
  have hget : (xs.map prD)[i]? = some (prD x) := by simp [hx]
  obtain ⟨bl, bl2⟩ := hb x hxm
  rw [hxd] at h2
  have hnext : prevP xs (i + 1) = some x := by simp [prevP, hx]
  clear hxd
  rcases i with _ | j
  ·simp only [prevP, prsF, prF] at h2
   repeat' (first | ((first | refine AW.sreg rfl fun K hK => ?_ | refine AW.sregD hmix rfl fun K hK => ?_ | refine AW.reg rfl ?_ | refine run_call _ _ _ ((bl).pure rfl rfl _ _) rfl rfl (dstOk_of rfl) rfl rfl rfl ?_ | refine run_call _ _ _ ((bl2).pure rfl rfl _ _) rfl rfl (dstOk_of rfl) rfl rfl rfl ?_); simp only [go_sem, ↓reduceIte, List.length_map, hget]) | (refine AW.seq_k fun K hK => ?_) | (refine AW.block ?_) | (refine AW.skip ?_; simp only [Then, InBlock]) | (refine AW.cT ?_) | (refine AW.cF ?_) | (refine AW.cond rfl (fun h => ?_) (fun h => ?_) <;> (try simp only [decide_eq_true_eq, decide_eq_false_iff_not, Bool.not_eq_true', Bool.not_eq_false', Bool.not_eq_eq_eq_not, Bool.not_true, Bool.not_false, beq_iff_eq, bne_iff_ne, beq_eq_false_iff_ne, ne_eq, Bool.and_eq_true, Bool.or_eq_true, Bool.or_eq_false_iff] at h)) | (refine hK _ ?_; clear hK K) | (refine stepB_split (fun h => ?_) (fun h => ?_) <;> (have hb0 := h) <;> (try simp only [Bool.not_eq_true', Bool.not_eq_false'] at hb0) <;> (try simp only [decide_eq_true_eq, decide_eq_false_iff_not, Bool.not_eq_true', Bool.not_eq_false', Bool.not_eq_eq_eq_not, Bool.not_true, Bool.not_false, beq_iff_eq, bne_iff_ne, beq_eq_false_iff_ne, ne_eq, Bool.and_eq_true, Bool.or_eq_true, Bool.or_eq_false_iff] at h) <;> simp only [go_sem, ↓reduceIte, hb0, h, decide_true, decide_false, List.length_map, hget] <;> (try clear hb0)) | (refine stepBT_split (fun h => ?_) (fun h => ?_) <;> (have hb0 := h) <;> (try simp only [Bool.not_eq_true', Bool.not_eq_false'] at hb0) <;> (try simp only [decide_eq_true_eq, decide_eq_false_iff_not, Bool.not_eq_true', Bool.not_eq_false', Bool.not_eq_eq_eq_not, Bool.not_true, Bool.not_false, beq_iff_eq, bne_iff_ne, beq_eq_false_iff_ne, ne_eq, Bool.and_eq_true, Bool.or_eq_true, Bool.or_eq_false_iff] at h) <;> simp only [go_sem, ↓reduceIte, hb0, h, decide_true, decide_false, List.length_map, hget] <;> (try clear hb0)) | (with_reducible refine And.intro (?_ : regOk _ _ = true) ?_; kernel_rfl) | (with_reducible refine andI ?_) | (refine AW.ret (Fin.data rfl (by first | (simp only [go_sem]; done) | ((simp only [go_sem]; simp_all); done) | (simp [go_sem]; omega) | rfl) rfl)) | (exfalso; omega))
   all_goals first | (exfalso; omega) | exact ⟨_ + 1, ⟨hi, by rw [hnext]; simp_all⟩, by omega, (Weak.aC hcx (by refine ⟨?_, ?_, ?_⟩ <;> simp [go_sem, gL, kL, renOf, V.obj, Nat.blt, Nat.ble, List.map_append, dv_push]))⟩ | skip
  ·obtain ⟨y, hy, hym, hyd⟩ := get_some (show j < xs.length by omega)
   have hget2 : (xs.map prD)[(((j + 1 : Nat) : Int) - 1).toNat]? = some (prD y) := by
    rw [show (((j + 1 : Nat) : Int) - 1).toNat = j by omega]; simp [hy]
   have hp : prevP xs (j + 1) = some y := by simp [prevP, hy]
   clear hyd
   rw [hp] at h2
   simp only [prsF, prF] at h2
   repeat' (first | ((first | refine AW.sreg rfl fun K hK => ?_ | refine AW.sregD hmix rfl fun K hK => ?_ | refine AW.reg rfl ?_ | refine run_call _ _ _ ((bl).pure rfl rfl _ _) rfl rfl (dstOk_of rfl) rfl rfl rfl ?_ | refine run_call _ _ _ ((bl2).pure rfl rfl _ _) rfl rfl (dstOk_of rfl) rfl rfl rfl ?_ | refine runT_call _ _ [] (fun hv _ => (pairOrder_any y x).pure rfl rfl hv _) rfl rfl (dstOk_of rfl) rfl rfl ?_); simp only [go_sem, ↓reduceIte, List.length_map, hget, hget2]) | (refine AW.seq_k fun K hK => ?_) | (refine AW.block ?_) | (refine AW.skip ?_; simp only [Then, InBlock]) | (refine AW.cT ?_) | (refine AW.cond rfl (fun h => ?_) (fun h => ?_) <;> (try simp only [decide_eq_true_eq, decide_eq_false_iff_not, Bool.not_eq_true', Bool.not_eq_false', Bool.not_eq_eq_eq_not, Bool.not_true, Bool.not_false, beq_iff_eq, bne_iff_ne, beq_eq_false_iff_ne, ne_eq, Bool.and_eq_true, Bool.or_eq_true, Bool.or_eq_false_iff] at h)) | (refine hK _ ?_; clear hK K) | (refine stepB_split (fun h => ?_) (fun h => ?_) <;> (have hb0 := h) <;> (try simp only [Bool.not_eq_true', Bool.not_eq_false'] at hb0) <;> (try simp only [decide_eq_true_eq, decide_eq_false_iff_not, Bool.not_eq_true', Bool.not_eq_false', Bool.not_eq_eq_eq_not, Bool.not_true, Bool.not_false, beq_iff_eq, bne_iff_ne, beq_eq_false_iff_ne, ne_eq, Bool.and_eq_true, Bool.or_eq_true, Bool.or_eq_false_iff] at h) <;> simp only [go_sem, ↓reduceIte, hb0, h, decide_true, decide_false, List.length_map, hget, hget2] <;> (try clear hb0)) | (refine stepBT_split (fun h => ?_) (fun h => ?_) <;> (have hb0 := h) <;> (try simp only [Bool.not_eq_true', Bool.not_eq_false'] at hb0) <;> (try simp only [decide_eq_true_eq, decide_eq_false_iff_not, Bool.not_eq_true', Bool.not_eq_false', Bool.not_eq_eq_eq_not, Bool.not_true, Bool.not_false, beq_iff_eq, bne_iff_ne, beq_eq_false_iff_ne, ne_eq, Bool.and_eq_true, Bool.or_eq_true, Bool.or_eq_false_iff] at h) <;> simp only [go_sem, ↓reduceIte, hb0, h, decide_true, decide_false, List.length_map, hget, hget2] <;> (try clear hb0)) | (with_reducible refine And.intro (?_ : regOk _ _ = true) ?_; kernel_rfl) | (with_reducible refine andI ?_) | (refine AW.ret (Fin.data rfl (by first | (simp only [go_sem]; done) | ((simp only [go_sem]; simp_all); done) | (simp [go_sem]; omega) | rfl) rfl)))
   all_goals first | (exfalso; omega) | exact ⟨_ + 1, ⟨hi, by rw [hnext]; simp_all⟩, by omega, (Weak.aC hcx (by refine ⟨?_, ?_, ?_⟩ <;> simp [go_sem, gL, kL, renOf, V.obj, Nat.blt, Nat.ble, List.map_append, dv_push]))⟩ | skip
 ·obtain rfl : i = xs.length := by omega
  simp only [List.drop_length, prsF] at h2
  subst h2
  repeat' (first | (refine AW.sreg rfl fun K hK => ?_; simp only [go_sem, ↓reduceIte, List.length_map]) | (refine AW.seq_k fun K hK => ?_) | (refine AW.exit ?_; simp only [go_sem, ↓reduceIte]) | (refine AW.cF ?_) | (refine hK _ ?_; clear hK K) | (clear hK K; refine hK _ ?_; clear hK K) | (refine AW.ret (Fin.data rfl (by first | (simp only [go_sem]; done) | (simp [go_sem, *]; done) | (simp [go_sem]; omega) | rfl) rfl)))
theorem prsF_zero : ∀ (xs : List Pr) (p : Option Pr), prsF p xs = 0 → (∀ c ∈ xs, keyB c.1 = true ∧ keyB c.2 = true) ∧ RiseP xs ∧ ∀ q, p = some q → ∀ c ∈ xs, ltP q c = true
 | [], p, _ => ⟨by simp, List.Pairwise.nil, by simp⟩
 | c :: r, p, h => by
  simp only [prsF] at h
  split at h
  ·rename_i hne; exact absurd h hne
  rename_i h0
  simp only [ne_eq, Decidable.not_not] at h0
  obtain ⟨i1, i2, i3⟩ := prsF_zero r (some c) h
  have i3 := i3 c rfl
  have hk : keyB c.1 = true ∧ keyB c.2 = true := by
   unfold prF at h0
   split at h0
   ·omega
   ·rename_i hh; simpa using hh
  have hq : ∀ q, p = some q → ltP q c = true := by
   rintro q rfl
   simp only [prF] at h0
   split at h0
   ·omega
   ·split at h0
    ·omega
    ·rename_i hh
     simp only [decide_eq_true_eq] at hh
     rw [← cpP_lt]
     simp only [decide_eq_true_eq]
     omega
  refine ⟨?_, List.Pairwise.cons i3 i2, ?_⟩
  ·intro x hx
   rcases List.mem_cons.1 hx with rfl | hx
   ·exact hk
   ·exact i1 x hx
  ·rintro q hq' x hx
   rcases List.mem_cons.1 hx with rfl | hx
   ·exact hq q hq'
   ·exact ltP_trans (hq q hq') (i3 x hx)
end Go.AX

namespace Go.AX
open Go Go.Proofs Go.RowKit
theorem valid_any (s : List UInt8) (h : s.length ≤ 1000000) : Does Tryz.prog 206 [.d (.str s)] [] (.d (.bool (Lib.validD s))) [] := by
 refine Does.of_str1 (y := .bool (Lib.validD s)) ⟨Tryz.f206, Tryz.func206, rfl, by kernel_rfl⟩ (fun w ok => by simp only [RV, RD]) fun w hg => ?_
 refine (Any.utf8_ValidString Tryz.l196 ⟨s.toArray⟩ w (by simp [ByteArray.size]; omega) ⟨fun c hc => hg.cell (g := 2) (l := firstL) (by kernel_rfl) c .u8 (Lib.firstT c) (of_decide_eq_true (List.all_eq_true.1 first_all c (List.mem_range.2 hc))), fun i hi => ?_⟩).mono fun e w' ⟨h1, h2⟩ => ⟨by simpa using h1, h2⟩
 have e1 := List.all_eq_true.1 acc_all i (List.mem_range.2 hi)
 simp only [Bool.and_eq_true, decide_eq_true_eq] at e1
 exact ⟨hg.cell (g := 3) (l := accL) (by kernel_rfl) (2 * i) .u8 (Lib.accLo i) e1.1, hg.cell (g := 3) (l := accL) (by kernel_rfl) (2 * i + 1) .u8 (Lib.accHi i) e1.2⟩
end Go.AX
