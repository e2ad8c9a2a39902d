/- Small functions: remainders, draws. -/
import Derived.Test.YtcjdlbdoffchfaaGreatDoorTk
import Derived.Lib.Bytealg
import Derived.Test.YtcjdlbdoffchfaaGreatDoorSk
import Derived.Test.YtcjdlbdoffchfaaGreatDoorAx31
import Derived.Lib.SplitLaws
import Derived.Lib.IndexBytes
set_option linter.unusedSimpArgs false
set_option linter.unusedVariables false
set_option maxRecDepth 100000
set_option maxHeartbeats 4000000
set_option maxRecDepth 1000000
set_option linter.unnecessarySimpa false
namespace Go.AX
open Go Go.Proofs
abbrev I (n : Int) : V := .d (.int .i64 n)
abbrev B (b : Bool) : V := .d (.bool b)
abbrev S (s : List UInt8) : V := .d (.str s)

/-- A call of a function that is handed two objects. -/
theorem Does.two {P : Program} {f : FuncId} {ys ys' : List V} {x : V} {o o' q q' : O} (hd : Does P f ys [o, q] x [o', q']) (id jd : Nat) (hne : id ≠ jd) {hv : Nat → Option O} {nid : Nat} (h1 : renL (gOf [id, jd] nid) ys = ys') (hid : hv id = some o) (hjd : hv jd = some q)
    (h2 : x.ren (gOf [id, jd] nid) = x) (h3 : o'.ren (gOf [id, jd] nid) = o') (h4 : o.ren (gOf [id, jd] nid) = o) (h5 : q'.ren (gOf [id, jd] nid) = q') (h6 : q.ren (gOf [id, jd] nid) = q) (hb : ys.all (V.bel 2) = true) (hbo : o.bel 2 = true) (hbq : q.bel 2 = true) (hbx : x.bel 2 = true) (hbo' : o'.bel 2 = true) (hbq' : q'.bel 2 = true) (hl : o'.lv = some o') (hl2 : q'.lv = some q') :
    CallStep P hv nid f ys' x [(id, some o'), (jd, some q')] := by
  have := CallStep.of_does hd (hv := hv) (nid := nid) [id, jd] rfl (by simp [hne]) (fun i r hr => by
    cases i with
    | zero => simp at hr; subst hr; rw [h4]; exact hid
    | succ i =>
      cases i with
      | zero => simp at hr; subst hr; rw [h6]; exact hjd
      | succ i => simp at hr) (Nat.le_refl _) (by simp) hb (by simp [hbo, hbq]) hbx (by simp [hbo', hbq'])
  rw [h1, h2] at this
  have e : updsOf (gOf [id, jd] nid) 0 [o', q'] = [(id, some o'), (jd, some q')] := by
    simp only [updsOf, h3, hl, h5, hl2]; rfl
  rwa [e] at this

theorem tmod_neg (x n : Int) (hn : 0 < n) (h : x.tmod n < 0) : x.tmod n + n = x % n ∧ -n < x.tmod n := by
  have h2 := Int.emod_nonneg x (show n ≠ 0 by omega)
  have h3 := Int.emod_lt_of_pos x hn
  have hs : (n.natAbs : Int) = n := by omega
  rw [Int.tmod_eq_emod, hs] at *
  by_cases hc : 0 ≤ x ∨ n ∣ x
  · rw [if_pos hc] at h; omega
  · rw [if_neg hc] at *; omega
theorem tmod_pos (x n : Int) (hn : 0 < n) (h : ¬ x.tmod n < 0) : x.tmod n = x % n := by
  have h2 := Int.emod_nonneg x (show n ≠ 0 by omega)
  have h3 := Int.emod_lt_of_pos x hn
  have hs : (n.natAbs : Int) = n := by omega
  rw [Int.tmod_eq_emod, hs] at *
  by_cases hc : 0 ≤ x ∨ n ∣ x
  · rw [if_pos hc]; omega
  · rw [if_neg hc] at *; omega

theorem below (x n : Int) (h1 : 1 ≤ n) (h2 : n ≤ 9223372036854775807) : Does Tryz.prog 60 [I x, I n] [] (I (x % n)) [] := by
  refine Does.of_AW (n := 16) Tryz.func60 rfl rfl rfl fun cx hcx => ?_
  have a1 : ¬ n < 1 := by omega
  have a2 : n ≠ 0 := by omega
  refine AW.sreg rfl fun K hK => ?_; simp only [go_sem, ↓reduceIte]
  refine hK _ ?_; (try clear hK K)
  refine AW.seq_k fun K1 hK1 => ?_
  refine AW.sreg rfl fun K hK => ?_; simp only [go_sem, ↓reduceIte]
  refine hK _ ?_; (try clear hK K)
  refine AW.condF rfl (decide_eq_false a1) (AW.skip (hK1 _ ?_))
  refine AW.sreg rfl fun K hK => ?_; simp only [go_sem, ↓reduceIte]
  refine ⟨a2, ?_⟩
  refine hK _ ?_; (try clear hK K)
  refine AW.seq_k fun K1 hK1 => ?_
  refine AW.sreg rfl fun K hK => ?_; simp only [go_sem, ↓reduceIte]
  refine hK _ ?_; (try clear hK K)
  refine AW.cond rfl (fun h => ?_) (fun h => ?_)
  · have h := of_decide_eq_true h
    obtain ⟨e1, e2⟩ := tmod_neg x n (by omega) h
    refine AW.reg rfl ?_
    simp only [go_sem, ↓reduceIte]
    refine ⟨by omega, hK1 _ ?_⟩
    refine AW.sreg rfl fun K hK => ?_; simp only [go_sem, ↓reduceIte]
    exact hK _ (AW.ret (Fin.data rfl (by simp [go_sem, e1]) rfl))
  · have h := of_decide_eq_false h
    have e1 := tmod_pos x n (by omega) h
    refine AW.skip (hK1 _ ?_)
    refine AW.sreg rfl fun K hK => ?_; simp only [go_sem, ↓reduceIte]
    exact hK _ (AW.ret (Fin.data rfl (by simp [go_sem, e1]) rfl))

def nextV (l : List Int) (at_ n : Int) : Int :=
  if l = [] then (at_ + 1) * 7919 % n else
    let i := at_ % (l.length : Int)
    ((l.getD i.toNat 0) % 1073741824 + at_ / (l.length : Int) * (7919 + i)) % n
abbrev Ls (l : List Int) : V := .d (.sl (l.map (D.int .i64)))


theorem next_nil (at_ n : Int) (h1 : 1 ≤ n) (h2 : n ≤ 9223372036854775807) (ha : 0 ≤ at_) (hb : at_ ≤ 1000000) :
    Does Tryz.prog 19 [.ptr 0 0, I n] [.box 25 [Ls [], I at_]] (I (nextV [] at_ n)) [.box 25 [Ls [], I (at_ + 1)]] := by
  refine Does.of_AW (n := 64) Tryz.func19 rfl rfl rfl fun cx hcx => ?_
  refine AW.sreg rfl fun K hK => ?_; simp only [go_sem, ↓reduceIte]
  refine hK _ ?_; (try clear hK K)
  refine AW.sreg rfl fun K hK => ?_; simp only [go_sem, ↓reduceIte]
  refine ⟨by omega, ?_⟩
  refine hK _ ?_; (try clear hK K)
  refine AW.seq_k fun K1 hK1 => ?_
  refine AW.sreg rfl fun K hK => ?_; simp only [go_sem, ↓reduceIte]
  refine hK _ ?_; (try clear hK K)
  refine AW.condT rfl (by rfl) ?_
  refine AW.sreg rfl fun K hK => ?_; simp only [go_sem, ↓reduceIte]
  refine ⟨by omega, ?_⟩
  refine run_call _ _ _ ((below ((at_ + 1) * 7919) n h1 h2).pure rfl rfl _ _) rfl rfl (dstOk_of rfl) rfl rfl rfl ?_
  simp only [go_sem, ↓reduceIte]
  refine hK _ (AW.ret (Fin.one rfl rfl ⟨_, rfl, rfl⟩ rfl rfl rfl))

theorem next_cons (l : List Int) (hl : l ≠ []) (hl2 : l.length ≤ 9223372036854775807) (at_ n : Int) (h1 : 1 ≤ n) (h2 : n ≤ 9223372036854775807) (ha : 0 ≤ at_) (hb : at_ ≤ 1000000) :
    Does Tryz.prog 19 [.ptr 0 0, I n] [.box 25 [Ls l, I at_]] (I (nextV l at_ n)) [.box 25 [Ls l, I (at_ + 1)]] := by
  have hpos : 0 < l.length := List.length_pos_iff.2 hl
  have e1 : ((l.length : Int) == 0) = false := by simp; omega
  have i0 := Int.emod_nonneg at_ (show (l.length : Int) ≠ 0 by omega)
  have i1 := Int.emod_lt_of_pos at_ (show (0 : Int) < l.length by omega)
  have t1 : (at_ + 1 - 1).tmod l.length = at_ % (l.length : Int) := by rw [Int.add_sub_cancel]; exact Int.tmod_eq_emod_of_nonneg ha
  have t2 : (at_ + 1 - 1).tdiv l.length = at_ / (l.length : Int) := by rw [Int.add_sub_cancel]; exact Int.tdiv_eq_ediv_of_nonneg ha
  have hlt : (at_ % (l.length : Int)).toNat < l.length := by omega
  have hget : (l.map (D.int .i64))[(at_ % (l.length : Int)).toNat]? = some (D.int .i64 (l.getD (at_ % (l.length : Int)).toNat 0)) := by
    simp [List.getElem?_eq_getElem hlt]
  refine Does.of_AW (n := 64) Tryz.func19 rfl rfl rfl fun cx hcx => ?_
  refine AW.sreg rfl fun K hK => ?_; simp only [go_sem, ↓reduceIte]
  refine hK _ ?_; (try clear hK K)
  refine AW.sreg rfl fun K hK => ?_; simp only [go_sem, ↓reduceIte]
  refine ⟨by omega, ?_⟩
  refine hK _ ?_; (try clear hK K)
  refine AW.seq_k fun K1 hK1 => ?_
  refine AW.sreg rfl fun K hK => ?_; simp only [go_sem, ↓reduceIte, List.length_map]
  refine hK _ ?_; (try clear hK K)
  refine AW.condF rfl e1 (AW.skip (hK1 _ ?_))
  refine AW.sregD hmix rfl fun K hK => ?_; simp only [go_sem, ↓reduceIte, List.length_map]
  refine ⟨by omega, by omega, by kernel_rfl, ?_⟩
  refine hK _ ?_; (try clear hK K)
  have t3 : 0 ≤ at_ / (l.length : Int) := Int.ediv_nonneg ha (by omega)
  have t4 : at_ / (l.length : Int) ≤ at_ := Int.ediv_le_self _ ha
  refine AW.sregD hmix rfl fun K hK => ?_; simp only [go_sem, ↓reduceIte, List.length_map, t1, t2]
  refine ⟨by omega, ⟨by omega, by omega, by omega⟩, by kernel_rfl, ?_⟩
  refine hK _ ?_; (try clear hK K)
  have i2 : at_ % (l.length : Int) ≤ at_ := by
    have q1 := Int.mul_ediv_add_emod at_ (l.length : Int)
    have q2 := Int.mul_nonneg (show 0 ≤ (l.length : Int) by omega) t3
    omega
  refine AW.sreg rfl fun K hK => ?_; simp only [go_sem, ↓reduceIte, t1, t2, hget]
  refine ⟨i0, ?_⟩
  refine run_call _ _ _ ((below (l.getD (at_ % (l.length : Int)).toNat 0) 1073741824 (by omega) (by omega)).pure rfl rfl _ _) rfl rfl (dstOk_of rfl) rfl rfl rfl ?_
  simp only [go_sem, ↓reduceIte]
  have b0 := Int.emod_nonneg (l.getD (at_ % (l.length : Int)).toNat 0) (show (1073741824 : Int) ≠ 0 by omega)
  have b1 := Int.emod_lt_of_pos (l.getD (at_ % (l.length : Int)).toNat 0) (show (0 : Int) < 1073741824 by omega)
  have m0 : 0 ≤ at_ / (l.length : Int) * (7919 + at_ % (l.length : Int)) := Int.mul_nonneg t3 (by omega)
  have m1 : at_ / (l.length : Int) * (7919 + at_ % (l.length : Int)) ≤ 1000000 * 1007919 := Int.mul_le_mul (by omega) (by omega) (by omega) (by omega)
  refine ⟨by omega, by omega, by omega, ?_⟩
  refine run_call _ _ _ ((below _ n h1 h2).pure rfl rfl _ _) rfl rfl (dstOk_of rfl) rfl rfl rfl ?_
  simp only [go_sem, ↓reduceIte]
  refine hK _ (AW.ret (Fin.one rfl ?_ ⟨_, rfl, rfl⟩ rfl rfl rfl))
  simp only [go_sem, nextV, hl, if_false]

theorem next_any (l : List Int) (hl2 : l.length ≤ 9223372036854775807) (at_ n : Int) (h1 : 1 ≤ n) (h2 : n ≤ 9223372036854775807) (ha : 0 ≤ at_) (hb : at_ ≤ 1000000) :
    Does Tryz.prog 19 [.ptr 0 0, I n] [.box 25 [Ls l, I at_]] (I (nextV l at_ n)) [.box 25 [Ls l, I (at_ + 1)]] := by
  by_cases hl : l = []
  · subst hl; exact next_nil at_ n h1 h2 ha hb
  · exact next_cons l hl hl2 at_ n h1 h2 ha hb
theorem nextV_range (l : List Int) (at_ n : Int) (h1 : 1 ≤ n) : 0 ≤ nextV l at_ n ∧ nextV l at_ n < n := by
  unfold nextV
  split
  · exact ⟨Int.emod_nonneg _ (by omega), Int.emod_lt_of_pos _ (by omega)⟩
  · exact ⟨Int.emod_nonneg _ (by omega), Int.emod_lt_of_pos _ (by omega)⟩

theorem range_any (l : List Int) (hl2 : l.length ≤ 9223372036854775807) (at_ lo hi : Int) (h1 : lo ≤ hi) (h2 : -1000000000 ≤ lo) (h3 : hi ≤ 1000000000) (ha : 0 ≤ at_) (hb : at_ ≤ 1000000) :
    Does Tryz.prog 8 [.ptr 0 0, I lo, I hi] [.box 25 [Ls l, I at_]] (I (lo + nextV l at_ (hi - lo + 1))) [.box 25 [Ls l, I (at_ + 1)]] := by
  have hr := nextV_range l at_ (hi - lo + 1) (by omega)
  refine Does.of_AW (n := 19) Tryz.func8 rfl rfl rfl fun cx hcx => ?_
  refine AW.sreg rfl fun K hK => ?_; simp only [go_sem, ↓reduceIte]
  refine hK _ ?_; (try clear hK K)
  refine AW.seq_k fun K1 hK1 => ?_
  refine AW.sreg rfl fun K hK => ?_; simp only [go_sem, ↓reduceIte]
  refine hK _ ?_; (try clear hK K)
  refine AW.condF rfl (by simp; omega) (AW.skip (hK1 _ ?_))
  refine AW.sreg rfl fun K hK => ?_; simp only [go_sem, ↓reduceIte]
  refine ⟨by omega, by omega, ?_⟩
  refine run_call _ _ _ ((next_any l hl2 at_ (hi - lo + 1) (by omega) (by omega) ha hb).one 0 rfl rfl rfl rfl rfl rfl rfl rfl rfl rfl) rfl rfl (dstOk_of rfl) rfl rfl rfl ?_
  simp only [go_sem, ↓reduceIte]
  refine ⟨by omega, ?_⟩
  exact hK _ (AW.ret (Fin.one rfl rfl ⟨_, rfl, rfl⟩ rfl rfl rfl))


end Go.AX

namespace Go.AX
open Go Go.Proofs

/-- The end of a function that hands back data and leaves two objects that it was handed. -/
theorem Fin.two {P : Program} {fn : Func} {st : St} {x : V} {o q : O} {l : List V} (hl : resL P st.hv st.ev fn.results.toList = some l) (hx : frz st.hv (fun i => Nat.blt i 2) (resV l) = x.ren id) (ho : ∃ o', st.hv 0 = some o' ∧ o'.frz st.hv (fun i => Nat.blt i 2) = o.ren id) (hq : ∃ o', st.hv 1 = some o' ∧ o'.frz st.hv (fun i => Nat.blt i 2) = q.ren id)
    (hb : x.bel 2 = true) (hbo : o.bel 2 = true) (hbq : q.bel 2 = true) (hlv : o.lv = some o) (hlq : q.lv = some q) : Fin P fn 2 x [o, q] st := by
  refine ⟨id, fun i => Nat.blt i 2, l, hl, hx, ?_, .inl ?_, ?_, ?_, Nat.le_refl _, hb, by simp [hbo, hbq]⟩
  · intro i r hr
    obtain ⟨hr, _⟩ := hvL_get hr
    cases i with
    | zero => simp at hr; subst hr; exact ⟨rfl, ho⟩
    | succ i =>
      cases i with
      | zero => simp at hr; subst hr; exact ⟨rfl, hq⟩
      | succ i => simp at hr
  · intro i hi
    have : i = 0 ∨ i = 1 := by omega
    rcases this with rfl | rfl
    · exact ⟨o, hlv⟩
    · exact ⟨q, hlq⟩
  · intro i j hi hj h; simpa using h
  · intro i _; rfl

theorem flip_any (l : List Int) (hl2 : l.length ≤ 9223372036854775807) (at_ n : Int) (h1 : 1 ≤ n) (h2 : n ≤ 9223372036854775807) (ha : 0 ≤ at_) (hb : at_ ≤ 1000000) :
    Does Tryz.prog 22 [.ptr 0 0, I n] [.box 25 [Ls l, I at_]] (B (nextV l at_ n == 0)) [.box 25 [Ls l, I (at_ + 1)]] := by
  refine Does.of_AW (n := 9) Tryz.func22 rfl rfl rfl fun cx hcx => ?_
  refine AW.sreg rfl fun K hK => ?_; simp only [go_sem, ↓reduceIte]
  refine hK _ ?_; (try clear hK K)
  refine AW.sreg rfl fun K hK => ?_; simp only [go_sem, ↓reduceIte]
  refine run_call _ _ _ ((next_any l hl2 at_ n h1 h2 ha hb).one 0 rfl rfl rfl rfl rfl rfl rfl rfl rfl rfl) rfl rfl (dstOk_of rfl) rfl rfl rfl ?_
  simp only [go_sem, ↓reduceIte]
  exact hK _ (AW.ret (Fin.one rfl rfl ⟨_, rfl, rfl⟩ rfl rfl rfl))

abbrev SV (strs : List (List UInt8)) : O := .vec 9 1 (dv (strs.map D.str))
end Go.AX

namespace Go.AX
open Go Go.Proofs
abbrev Str := List UInt8
theorem get_some {α : Type} {l : List α} {i : Nat} (h : i < l.length) : ∃ x, l[i]? = some x ∧ x ∈ l ∧ l.drop i = x :: l.drop (i + 1) := ⟨l[i], List.getElem?_eq_getElem h, List.getElem_mem h, List.drop_eq_getElem_cons h⟩
abbrev IV (ns : List Int) : O := .vec 3 1 (dv (ns.map (D.int .i64)))
theorem pick_any (l : List Int) (hl2 : l.length ≤ 9223372036854775807) (at_ : Int) (ha : 0 ≤ at_) (hb : at_ ≤ 1000000) (ns : List Int) (hs : ns ≠ []) (hs2 : ns.length ≤ 1000000) :
    Does Tryz.prog 14 [.ptr 0 0, .slr 1 0 ns.length] [.box 25 [Ls l, I at_], IV ns] (I (ns.getD (nextV l at_ ns.length).toNat 0)) [.box 25 [Ls l, I (at_ + 1)], IV ns] := by
  have hpos : 0 < ns.length := List.length_pos_iff.2 hs
  have hr := nextV_range l at_ ns.length (by omega)
  generalize hq : nextV l at_ ns.length = r at hr
  have hlt : r.toNat < ns.length := by omega
  have hget : (dv (ns.map (D.int .i64)))[0 + r.toNat]? = some (.d (.int .i64 (ns.getD r.toNat 0))) := by
    simp [dv, hlt]
  refine Does.of_AW (n := 12) Tryz.func14 rfl rfl rfl fun cx hcx => ?_
  refine AW.sreg rfl fun K hK => ?_; simp only [go_sem, ↓reduceIte]
  refine hK _ ?_; (try clear hK K)
  refine AW.sreg rfl fun K hK => ?_; simp only [go_sem, ↓reduceIte]
  have hn := next_any l hl2 at_ ns.length (by omega) (by omega) ha hb
  rw [hq] at hn
  refine run_call _ _ _ ((hn).one 0 rfl rfl rfl rfl rfl rfl rfl rfl rfl rfl) rfl rfl (dstOk_of rfl) rfl rfl rfl ?_
  simp only [go_sem, ↓reduceIte, hget]
  refine ⟨⟨hr.1, hr.2⟩, ?_⟩
  exact hK _ (AW.ret (Fin.two rfl rfl ⟨_, rfl, rfl⟩ ⟨_, rfl, by simp [go_sem]⟩ rfl rfl (belL_dv 2 _) rfl rfl))
theorem one10_any (l : List Int) (hl2 : l.length ≤ 9223372036854775807) (at_ : Int) (ha : 0 ≤ at_) (hb : at_ ≤ 1000000) (strs : List (List UInt8)) (hs : strs ≠ []) (hs2 : strs.length ≤ 1000000) :
    Does Tryz.prog 87 [.ptr 0 0, .slr 1 0 strs.length] [.box 25 [Ls l, I at_], SV strs] (S (strs.getD (nextV l at_ strs.length).toNat [])) [.box 25 [Ls l, I (at_ + 1)], SV strs] := by
  have hpos : 0 < strs.length := List.length_pos_iff.2 hs
  have hr := nextV_range l at_ strs.length (by omega)
  generalize hq : nextV l at_ strs.length = r at hr
  have hlt : r.toNat < strs.length := by omega
  have hget : (dv (strs.map D.str))[0 + r.toNat]? = some (.d (.str (strs.getD r.toNat []))) := by
    simp [dv, hlt]
  refine Does.of_AW (n := 12) Tryz.func87 rfl rfl rfl fun cx hcx => ?_
  refine AW.sreg rfl fun K hK => ?_; simp only [go_sem, ↓reduceIte]
  refine hK _ ?_; (try clear hK K)
  refine AW.sreg rfl fun K hK => ?_; simp only [go_sem, ↓reduceIte]
  have hn := next_any l hl2 at_ strs.length (by omega) (by omega) ha hb
  rw [hq] at hn
  refine run_call _ _ _ ((hn).one 0 rfl rfl rfl rfl rfl rfl rfl rfl rfl rfl) rfl rfl (dstOk_of rfl) rfl rfl rfl ?_
  simp only [go_sem, ↓reduceIte, hget]
  refine ⟨⟨hr.1, hr.2⟩, ?_⟩
  exact hK _ (AW.ret (Fin.two rfl rfl ⟨_, rfl, rfl⟩ ⟨_, rfl, by simp [go_sem]⟩ rfl rfl (belL_dv 2 _) rfl rfl))
theorem getD_mem {α : Type} (l : List α) (i : Nat) (d : α) (h : i < l.length) : l.getD i d ∈ l := by
  simp [h]
theorem pick_mem (l : List Int) (a : Int) (ns : List Int) (h : ns ≠ []) : ns.getD (nextV l a ns.length).toNat 0 ∈ ns := by
  have hpos : 0 < ns.length := List.length_pos_iff.2 h
  have hr := nextV_range l a ns.length (by omega)
  exact getD_mem _ _ _ (by omega)
theorem one_mem (l : List Int) (a : Int) (ns : List Str) (h : ns ≠ []) : ns.getD (nextV l a ns.length).toNat [] ∈ ns := by
  have hpos : 0 < ns.length := List.length_pos_iff.2 h
  have hr := nextV_range l a ns.length (by omega)
  exact getD_mem _ _ _ (by omega)
/-! the same, of which only the range is known -/
abbrev Stm (l : List Int) (a : Int) : O := .box 25 [Ls l, I a]
theorem flipI (l : List Int) (hl2 : l.length ≤ 9223372036854775807) (at_ n : Int) (h1 : 1 ≤ n) (h2 : n ≤ 9223372036854775807) (ha : 0 ≤ at_) (hb : at_ ≤ 1000000) :
    DoesI Tryz.prog 22 [.ptr 0 0, I n] [Stm l at_] (fun _ : Bool => True) (fun r => B r) (fun _ => [Stm l (at_ + 1)]) :=
  (flip_any l hl2 at_ n h1 h2 ha hb).rel (x := fun r => B r) (os' := fun _ => [Stm l (at_ + 1)]) (nextV l at_ n == 0) trivial
theorem pickI (l : List Int) (hl2 : l.length ≤ 9223372036854775807) (at_ : Int) (ha : 0 ≤ at_) (hb : at_ ≤ 1000000) (ns : List Int) (hs : ns ≠ []) (hs2 : ns.length ≤ 1000000) :
    DoesI Tryz.prog 14 [.ptr 0 0, .slr 1 0 ns.length] [Stm l at_, IV ns] (fun r : Int => r ∈ ns) (fun r => I r) (fun _ => [Stm l (at_ + 1), IV ns]) :=
  (pick_any l hl2 at_ ha hb ns hs hs2).rel (x := fun r => I r) (os' := fun _ => [Stm l (at_ + 1), IV ns]) _ (pick_mem l at_ ns hs)
theorem rangeI (l : List Int) (hl2 : l.length ≤ 9223372036854775807) (at_ lo hi : Int) (h1 : lo ≤ hi) (h2 : -1000000000 ≤ lo) (h3 : hi ≤ 1000000000) (ha : 0 ≤ at_) (hb : at_ ≤ 1000000) :
    DoesI Tryz.prog 8 [.ptr 0 0, I lo, I hi] [Stm l at_] (fun r : Int => lo ≤ r ∧ r ≤ hi) (fun r => I r) (fun _ => [Stm l (at_ + 1)]) :=
  (range_any l hl2 at_ lo hi h1 h2 h3 ha hb).rel (x := fun r => I r) (os' := fun _ => [Stm l (at_ + 1)]) (lo + nextV l at_ (hi - lo + 1)) (by have := nextV_range l at_ (hi - lo + 1) (by omega); omega)
end Go.AX

namespace Go.AX
open Go Go.Proofs
theorem isNaN_int (a : Int) : Does Tryz.prog 203 [I a] [] (B false) [] := by
  refine Does.of_AW (n := 6) Tryz.func203 rfl rfl rfl fun cx hcx => ?_
  refine AW.sreg rfl fun K hK => ?_; simp only [go_sem, ↓reduceIte]
  refine hK _ ?_; (try clear hK K)
  refine AW.sreg rfl fun K hK => ?_; simp only [go_sem, ↓reduceIte]
  exact hK _ (AW.ret (Fin.data rfl (by simp [go_sem]) rfl))
def cmpI (a b : Int) : Int := if a < b then -1 else if b < a then 1 else 0
theorem compare_int (a b : Int) : Does Tryz.prog 145 [I a, I b] [] (I (cmpI a b)) [] := by
  refine Does.of_AW (n := 20) Tryz.func145 rfl rfl rfl fun cx hcx => ?_
  refine AW.sreg rfl fun K hK => ?_; simp only [go_sem, ↓reduceIte]
  refine hK _ ?_; (try clear hK K)
  refine AW.sreg rfl fun K hK => ?_; simp only [go_sem, ↓reduceIte]
  refine run_call _ _ _ ((isNaN_int a).pure rfl rfl _ _) rfl rfl (dstOk_of rfl) rfl rfl rfl ?_
  simp only [go_sem, ↓reduceIte]
  refine hK _ ?_; (try clear hK K)
  refine AW.sreg rfl fun K hK => ?_; simp only [go_sem, ↓reduceIte]
  refine run_call _ _ _ ((isNaN_int b).pure rfl rfl _ _) rfl rfl (dstOk_of rfl) rfl rfl rfl ?_
  simp only [go_sem, ↓reduceIte]
  refine hK _ ?_; (try clear hK K)
  refine AW.seq_k fun K1 hK1 => ?_
  refine AW.sreg rfl fun K hK => ?_; simp only [go_sem, ↓reduceIte]
  refine hK _ ?_; (try clear hK K)
  refine AW.condF rfl rfl (AW.skip (hK1 _ ?_))
  refine AW.seq_k fun K2 hK2 => ?_
  refine AW.sreg rfl fun K hK => ?_; simp only [go_sem, ↓reduceIte]
  refine hK _ ?_; (try clear hK K)
  refine AW.condF rfl rfl (AW.skip (hK2 _ ?_))
  refine AW.seq_k fun K3 hK3 => ?_
  refine AW.sreg rfl fun K hK => ?_; simp only [go_sem, ↓reduceIte]
  refine hK _ ?_; (try clear hK K)
  refine AW.cond rfl (fun h => ?_) (fun h => ?_)
  · have h := of_decide_eq_true h
    refine AW.sreg rfl fun K hK => ?_; simp only [go_sem, ↓reduceIte]
    exact hK _ (AW.ret (Fin.data rfl (by simp [go_sem, cmpI, h]) rfl))
  have h := of_decide_eq_false h
  refine AW.skip (hK3 _ ?_)
  refine AW.seq_k fun K4 hK4 => ?_
  refine AW.sreg rfl fun K hK => ?_; simp only [go_sem, ↓reduceIte]
  refine hK _ ?_; (try clear hK K)
  refine AW.cond rfl (fun h2 => ?_) (fun h2 => ?_)
  · have h2 : b < a := of_decide_eq_true h2
    refine AW.sreg rfl fun K hK => ?_; simp only [go_sem, ↓reduceIte]
    exact hK _ (AW.ret (Fin.data rfl (by simp [go_sem, cmpI, h, h2]) rfl))
  have h2 : ¬ b < a := of_decide_eq_false h2
  refine AW.skip (hK4 _ ?_)
  refine AW.sreg rfl fun K hK => ?_; simp only [go_sem, ↓reduceIte]
  exact hK _ (AW.ret (Fin.data rfl (by simp [go_sem, cmpI, h, h2]) rfl))
def orI : List Int → Int
  | [] => 0
  | x :: r => if x ≠ 0 then x else orI r
theorem cmpOr_any (ns : List Int) (hl : ns.length ≤ 1000) : Does Tryz.prog 144 [.d (.sl (ns.map (D.int .i64)))] [] (I (orI ns)) [] := by
  refine Does.of_AW (n := 18) Tryz.func144 rfl rfl rfl fun cx hcx => ?_
  generalize hR : orI ns = R
  repeat' (first | (refine AW.sreg rfl fun K hK => ?_; simp only [go_sem, ↓reduceIte, List.length_map]) | (refine AW.seq_k fun K hK => ?_) | (refine AW.block ?_) | (refine hK _ ?_; clear hK K))
  refine AW.loopF (ι := Nat) [3, 6, 7] (fun p => [(8, I p)]) (fun p => []) 1 (fun p => p ≤ ns.length ∧ orI (ns.drop p) = R) (fun p => ns.length - p) 0 ⟨by simp, hR⟩ (Weak.aC hcx (by refine ⟨?_, ?_, ?_⟩ <;> simp [go_sem, gL, kL, renOf, V.obj, Nat.blt, Nat.ble, List.map_append, dv_push])) ?_; simp only [St.at_nil, St.at_cons, lk, Nat.reduceEqDiff, ↓reduceIte, Option.getD_some, Option.getD_none, List.cons_append, List.nil_append, List.append_nil]
  rintro i ⟨h1, h2⟩
  by_cases hi : i < ns.length
  · obtain ⟨x, hx, hxm, hxd⟩ := get_some hi
    have hget : (ns.map (D.int .i64))[i]? = some (.int .i64 x) := by simp [hx]
    rw [hxd, orI] at h2
    repeat' (first | ((first | refine AW.sreg rfl fun K hK => ?_ | refine AW.reg rfl ?_); simp only [go_sem, ↓reduceIte, List.length_map, hget]) | (refine AW.seq_k fun K hK => ?_) | (refine AW.block ?_) | (refine AW.skip ?_; simp only [Then, InBlock]) | (refine AW.cT ?_) | (refine AW.cond rfl (fun h => ?_) (fun h => ?_) <;> (try simp only [decide_eq_true_eq, decide_eq_false_iff_not, Bool.not_eq_true', Bool.not_eq_false', Bool.not_eq_eq_eq_not, Bool.not_true, Bool.not_false, beq_iff_eq, bne_iff_ne, beq_eq_false_iff_ne, ne_eq, Bool.and_eq_true, Bool.or_eq_true, Bool.or_eq_false_iff] at h)) | (refine hK _ ?_; clear hK K) | (with_reducible refine andI ?_) | (refine AW.ret (Fin.data rfl (by first | (simp only [go_sem]; done) | ((rw [if_pos h] at h2; subst h2; simp [go_sem]); done) | (simp [go_sem]; omega) | rfl) rfl)))
    rw [if_neg (by simpa using h)] at h2
    exact ⟨i + 1, ⟨hi, h2⟩, by omega, (Weak.aC hcx (by refine ⟨?_, ?_, ?_⟩ <;> simp [go_sem, gL, kL, renOf, V.obj, Nat.blt, Nat.ble, List.map_append, dv_push]))⟩
  · obtain rfl : i = ns.length := by omega
    simp only [List.drop_length, orI] at h2
    subst h2
    repeat' (first | (refine AW.sreg rfl fun K hK => ?_; simp only [go_sem, ↓reduceIte, List.length_map]) | (refine AW.seq_k fun K hK => ?_) | (refine AW.exit ?_; simp only [go_sem, ↓reduceIte]) | (refine AW.cF ?_) | (refine hK _ ?_; clear hK K) | (clear hK K; refine hK _ ?_; clear hK K) | (refine AW.ret (Fin.data rfl (by first | (simp only [go_sem]; done) | (simp [go_sem, *]; done) | (simp [go_sem]; omega) | rfl) rfl)))
theorem cmpstr_ext (a b : List UInt8) (hv : Nat → Option O) (n : Nat) : CallStep Tryz.prog hv n 276 [S a, S b] (I (Lib.compareBytes a b)) [] :=
  extT_ok _ _ hv n _ _ [] (by kernel_rfl) hv (fun _ h => by cases h)
theorem compareString_any (a b : List UInt8) : Does Tryz.prog 212 [S a, S b] [] (I (Lib.compareBytes a b)) [] := by
  refine Does.of_AW (n := 8) Tryz.func212 rfl rfl rfl fun cx hcx => ?_
  repeat' (first | ((first | refine AW.sreg rfl fun K hK => ?_ | refine run_call _ _ _ (cmpstr_ext a b _ _) rfl rfl (dstOk_of rfl) rfl rfl rfl ?_); simp only [go_sem, ↓reduceIte]) | (refine hK _ ?_; clear hK K) | (refine AW.ret (Fin.data rfl (by first | (simp only [go_sem]; done) | (simp [go_sem, *]; done) | (simp [go_sem]; omega) | rfl) rfl)))
theorem compareStr_any (a b : List UInt8) : Does Tryz.prog 148 [S a, S b] [] (I (Lib.compareBytes a b)) [] := by
  refine Does.of_AW (n := 8) Tryz.func148 rfl rfl rfl fun cx hcx => ?_
  repeat' (first | ((first | refine AW.sreg rfl fun K hK => ?_ | refine run_call _ _ _ ((compareString_any a b).pure rfl rfl _ _) rfl rfl (dstOk_of rfl) rfl rfl rfl ?_); simp only [go_sem, ↓reduceIte]) | (refine hK _ ?_; clear hK K) | (refine AW.ret (Fin.data rfl (by first | (simp only [go_sem]; done) | (simp [go_sem, *]; done) | (simp [go_sem]; omega) | rfl) rfl)))
end Go.AX

namespace Go.AX
open Go Go.Proofs
def okC (i : Nat) (c : UInt8) : Bool := decide ((97 ≤ (c.toNat : Int) ∧ (c.toNat : Int) ≤ 122) ∨ (0 < (i : Int) ∧ ((48 ≤ (c.toNat : Int) ∧ (c.toNat : Int) ≤ 57) ∨ (c.toNat : Int) = 45 ∨ (c.toNat : Int) = 95)))
def keyR : Nat → List UInt8 → Bool
  | _, [] => true
  | i, c :: r => if okC i c = true then keyR (i + 1) r else false
def keyB (s : List UInt8) : Bool := keyR 0 s && (!(s == []) && decide ((s.length : Int) ≤ 40))
theorem isKey_any (s : List UInt8) (hl : s.length ≤ 1000000) : Does Tryz.prog 182 [S s] [] (B (keyB s)) [] := by
  refine Does.of_AW (n := 48) Tryz.func182 rfl rfl rfl fun cx hcx => ?_
  generalize hR : keyR 0 s = R
  repeat' (first | (refine AW.sreg rfl fun K hK => ?_; simp only [go_sem, ↓reduceIte]) | (refine AW.seq_k fun K hK => ?_) | (refine AW.block ?_) | (refine hK _ ?_; clear hK K))
  refine AW.loopF (ι := Nat) [0] (fun p => [(3, I p)]) (fun p => []) 1 (fun p => p ≤ s.length ∧ keyR p (s.drop p) = R) (fun p => s.length - p) 0 ⟨by simp, hR⟩ (Weak.aC hcx (by refine ⟨?_, ?_, ?_⟩ <;> simp [go_sem, gL, kL, renOf, V.obj, Nat.blt, Nat.ble, List.map_append, dv_push])) ?_; simp only [St.at_nil, St.at_cons, lk, Nat.reduceEqDiff, ↓reduceIte, Option.getD_some, Option.getD_none, List.cons_append, List.nil_append, List.append_nil]
  rintro i ⟨h1, h2⟩
  by_cases hi : i < s.length
  · obtain ⟨c, hc, hcm, hcd⟩ := get_some hi
    have hget : s[i]? = some c := hc
    rw [hcd, keyR] at h2
    by_cases hk : okC i c = true
    · rw [if_pos hk] at h2
      have hk := of_decide_eq_true hk
      repeat' (first | ((first | refine AW.sreg rfl fun K hK => ?_ | refine AW.reg rfl ?_); simp only [go_sem, ↓reduceIte, hget]) | (refine AW.seq_k fun K hK => ?_) | (refine AW.block ?_) | (refine AW.skip ?_; simp only [Then, InBlock]) | (refine AW.cT ?_) | (refine AW.cF ?_) | (refine hK _ ?_; clear hK K) | (refine stepB_split (fun h => ?_) (fun h => ?_) <;> (have hb0 := h) <;> (try simp only [Bool.not_eq_true', Bool.not_eq_false'] at hb0) <;> (try simp only [decide_eq_true_eq, decide_eq_false_iff_not, Bool.not_eq_true', Bool.not_eq_false', Bool.not_eq_eq_eq_not, Bool.not_true, Bool.not_false, beq_iff_eq, bne_iff_ne, beq_eq_false_iff_ne, ne_eq, Bool.and_eq_true, Bool.or_eq_true, Bool.or_eq_false_iff] at h) <;> simp only [go_sem, ↓reduceIte, hb0, h, decide_true, decide_false, hget] <;> (try clear hb0)) | (with_reducible refine andI ?_) | (exfalso; omega))
      all_goals first | (exfalso; omega) | exact ⟨i + 1, ⟨hi, h2⟩, by omega, (Weak.aC hcx (by refine ⟨?_, ?_, ?_⟩ <;> simp [go_sem, gL, kL, renOf, V.obj, Nat.blt, Nat.ble, List.map_append, dv_push]))⟩
    · rw [if_neg hk] at h2
      subst h2
      have hk : ¬ _ := fun h => hk (decide_eq_true h)
      repeat' (first | (refine AW.sreg rfl fun K hK => ?_; simp only [go_sem, ↓reduceIte, hget]) | (refine AW.seq_k fun K hK => ?_) | (refine AW.block ?_) | (refine AW.skip ?_; simp only [Then, InBlock]) | (refine AW.cT ?_) | (refine hK _ ?_; clear hK K) | (refine stepB_split (fun h => ?_) (fun h => ?_) <;> (have hb0 := h) <;> (try simp only [Bool.not_eq_true', Bool.not_eq_false'] at hb0) <;> (try simp only [decide_eq_true_eq, decide_eq_false_iff_not, Bool.not_eq_true', Bool.not_eq_false', Bool.not_eq_eq_eq_not, Bool.not_true, Bool.not_false, beq_iff_eq, bne_iff_ne, beq_eq_false_iff_ne, ne_eq, Bool.and_eq_true, Bool.or_eq_true, Bool.or_eq_false_iff] at h) <;> simp only [go_sem, ↓reduceIte, hb0, h, decide_true, decide_false, hget] <;> (try clear hb0)) | (with_reducible refine andI ?_) | (exfalso; omega))
      all_goals first | (exfalso; omega) | exact AW.ret (Fin.data rfl (by simp [go_sem, keyB, hR]) rfl)
  · obtain rfl : i = s.length := by omega
    simp only [List.drop_length, keyR] at h2
    subst h2
    cases s with
    | nil =>
      repeat' (first | ((first | refine AW.sreg rfl fun K hK => ?_ | refine AW.exit ?_); simp only [go_sem, ↓reduceIte]) | (refine AW.seq_k fun K hK => ?_) | (refine AW.cF ?_) | (refine hK _ ?_; clear hK K) | (clear hK K; refine hK _ ?_; clear hK K))
      all_goals exact AW.ret (Fin.data rfl (by simp [go_sem, keyB, hR]) rfl)
    | cons c r =>
      have e : ((c :: r : List UInt8) == []) = false := rfl
      repeat' (first | (refine AW.sreg rfl fun K hK => ?_; simp only [go_sem, ↓reduceIte, e]) | (refine AW.seq_k fun K hK => ?_) | (refine AW.exit ?_; simp only [go_sem, ↓reduceIte]) | (refine AW.cF ?_) | (refine hK _ ?_; clear hK K) | (clear hK K; refine hK _ ?_; clear hK K))
      all_goals exact AW.ret (Fin.data rfl (by simp [go_sem, keyB, hR]) rfl)
end Go.AX

namespace Go.AX
open Go Go.Proofs Go.RowKit
theorem index_does (a b : List UInt8) (x : D) (h : idxF a b = some x) : Does Tryz.prog 240 [.d (.str a), .d (.str b)] [] (.d x) [] := by
  unfold idxF at h
  split at h
  · rename_i hl
    cases h
    have hl : a.length < 4294967281 := by simpa using hl
    refine Does.of_str2 (y := .int .i64 (Lib.index a b)) ⟨Tryz.f240, Tryz.func240, rfl, by kernel_rfl⟩ (fun w ok => by simp only [RV, RD]) fun w hg => ?_
    obtain ⟨m, hm⟩ := hg.max (g := 0) (by kernel_rfl)
    exact (Any.stringslite_Index Tryz.l219 ⟨a.toArray⟩ ⟨b.toArray⟩ m w (by simpa [ByteArray.size] using hl) hm).mono fun e w' ⟨h1, h2⟩ => ⟨by simpa using h1, h2 ▸ Below.refl _ _⟩
  · cases h
def SO (P : Program) : Orc := orc2 (orcS2 240 idxF) (extT P)
theorem SO_ok : OrcOk Tryz.prog (SO Tryz.prog) := orc2_ok (orcS2_ok index_does) extT_ok
def CS (P : Program) : Orc := evF P (SO P) (fun _ => false) 10000 30
theorem CS_ok : OrcOk Tryz.prog (CS Tryz.prog) := evF_ok SO_ok hmix 30
theorem stands_ok : Does Tryz.prog 12 [] [] (.d (.bool true)) [] :=
  bodyE_does CS_ok hmix (by kernel_rfl : bodyE Tryz.prog (CS Tryz.prog) (fun _ => false) 10000 12 [] [] = some (.d (.bool true), []))
end Go.AX

namespace Go.AX
open Go Go.Proofs Go.RowKit
theorem valid_any (s : List UInt8) (h : s.length ≤ 1000000) : Does Tryz.prog 316 [.d (.str s)] [] (.d (.bool (Lib.validD s))) [] := by
  refine Does.of_str1 (y := .bool (Lib.validD s)) ⟨Tryz.f316, Tryz.func316, rfl, by kernel_rfl⟩ (fun w ok => by simp only [RV, RD]) fun w hg => ?_
  refine (Any.utf8_ValidString Tryz.l196 ⟨s.toArray⟩ w (by simp [ByteArray.size]; omega) ⟨fun c hc => hg.cell (g := 2) (l := firstL) (by kernel_rfl) c .u8 (Lib.firstT c) (of_decide_eq_true (List.all_eq_true.1 first_all c (List.mem_range.2 hc))), fun i hi => ?_⟩).mono fun e w' ⟨h1, h2⟩ => ⟨by simpa using h1, h2⟩
  have e1 := List.all_eq_true.1 acc_all i (List.mem_range.2 hi)
  simp only [Bool.and_eq_true, decide_eq_true_eq] at e1
  exact ⟨hg.cell (g := 3) (l := accL) (by kernel_rfl) (2 * i) .u8 (Lib.accLo i) e1.1, hg.cell (g := 3) (l := accL) (by kernel_rfl) (2 * i + 1) .u8 (Lib.accHi i) e1.2⟩
end Go.AX

namespace Go.AX
open Go Go.Proofs
section
variable {α : Type} (lt : α → α → Bool)
def insP : List α → α → List α → List α
  | [], x, q => x :: q
  | y :: pr, x, q => if lt x y = true then insP pr x (y :: q) else (y :: pr).reverse ++ x :: q
def isGo : List α → List α → List α
  | d, [] => d
  | d, x :: r => isGo (insP lt d.reverse x []) r
def isort (xs : List α) : List α := isGo lt (xs.take 1) (xs.drop 1)
theorem insP_perm : ∀ (pr : List α) (x : α) (q : List α), (insP lt pr x q).Perm (pr.reverse ++ x :: q)
  | [], x, q => by simp [insP]
  | y :: pr, x, q => by
    simp only [insP]
    split
    · refine (insP_perm pr x (y :: q)).trans ?_
      rw [List.reverse_cons, List.append_assoc]
      exact List.Perm.append_left _ (List.Perm.swap y x q)
    · exact List.Perm.refl _
theorem isGo_perm : ∀ (r d : List α), (isGo lt d r).Perm (d ++ r)
  | [], d => by simp [isGo]
  | x :: r, d => by
    simp only [isGo]
    refine (isGo_perm r _).trans ?_
    have := insP_perm lt d.reverse x []
    rw [List.reverse_reverse] at this
    refine (List.Perm.append_right r this).trans ?_
    simp
theorem isort_perm (xs : List α) : (isort lt xs).Perm xs := by
  refine (isGo_perm lt _ _).trans ?_
  rw [List.take_append_drop]
end
section
variable {α : Type} {lt : α → α → Bool}
/-- Sorted: nothing that comes later is less. -/
def Sorted (lt : α → α → Bool) (l : List α) : Prop := l.Pairwise (fun a b => lt b a = false)
theorem insP_sorted (asym : ∀ a b, lt a b = true → lt b a = false) (tr : ∀ a b c, lt b a = false → lt c b = false → lt c a = false) : ∀ (pr : List α) (x : α) (q : List α), Sorted lt (pr.reverse ++ q) → (∀ y ∈ q, lt x y = true) → (∀ y ∈ q, ∀ z ∈ pr, lt y z = false) → Sorted lt (insP lt pr x q)
  | [], x, q, h, hq, _ => by
    simp only [insP]
    exact List.Pairwise.cons (fun y hy => asym _ _ (hq y hy)) (by simpa [Sorted] using h)
  | y :: pr, x, q, h, hq, hpq => by
    simp only [insP]
    split
    · rename_i hxy
      refine insP_sorted asym tr pr x (y :: q) (by simpa [Sorted] using h) ?_ ?_
      · intro z hz
        rcases List.mem_cons.1 hz with rfl | hz
        · exact hxy
        · exact hq z hz
      · intro z hz u hu
        rcases List.mem_cons.1 hz with rfl | hz
        · have h' : Sorted lt (pr.reverse ++ z :: q) := by simpa [Sorted] using h
          exact (List.pairwise_append.1 h').2.2 u (by simpa using hu) z (by simp)
        · exact hpq z hz u (by simp [hu])
    · rename_i hxy
      have hxy : lt x y = false := by simpa using hxy
      have h' := List.pairwise_append.1 h
      refine List.pairwise_append.2 ⟨h'.1, List.Pairwise.cons (fun z hz => asym _ _ (hq z hz)) h'.2.1, ?_⟩
      intro u hu z hz
      rcases List.mem_cons.1 hz with rfl | hz
      · rcases List.mem_cons.1 (List.mem_reverse.1 hu) with rfl | hu'
        · exact hxy
        · have : lt y u = false := by
            have h2 : Sorted lt (pr.reverse ++ y :: q) := by simpa [Sorted] using h
            exact (List.pairwise_append.1 h2).2.2 u (by simpa using hu') y (by simp)
          exact tr u y _ this hxy
      · exact h'.2.2 u hu z hz
theorem isGo_sorted (asym : ∀ a b, lt a b = true → lt b a = false) (tr : ∀ a b c, lt b a = false → lt c b = false → lt c a = false) : ∀ (r d : List α), Sorted lt d → Sorted lt (isGo lt d r)
  | [], d, h => by simpa [isGo] using h
  | x :: r, d, h => by
    simp only [isGo]
    refine isGo_sorted asym tr r _ (insP_sorted asym tr d.reverse x [] (by simpa using h) (by simp) (by simp))
theorem isort_sorted (asym : ∀ a b, lt a b = true → lt b a = false) (tr : ∀ a b c, lt b a = false → lt c b = false → lt c a = false) (xs : List α) : Sorted lt (isort lt xs) := by
  refine isGo_sorted asym tr _ _ ?_
  cases xs with
  | nil => exact List.Pairwise.nil
  | cons x xs => exact List.pairwise_singleton _ _
end
theorem take1_tail {α : Type} (l : List α) : l.take 1 ++ l.tail = l := by cases l <;> simp
theorem get_mid {α : Type} (a : List α) (x : α) (b : List α) : (a ++ x :: b)[a.length]? = some x := by simp
theorem set_mid {α : Type} : ∀ (a : List α) (x : α) (b : List α) (z : α), (a ++ x :: b).set a.length z = a ++ z :: b
  | [], _, _, _ => rfl
  | y :: a, x, b, z => by simp [set_mid a x b z]
theorem swap_mid {α : Type} (a : List α) (x y : α) (b : List α) : ((a ++ y :: x :: b).set (0 + (a.length + 1)) y).set (0 + a.length) x = a ++ x :: y :: b := by
  rw [Nat.zero_add, Nat.zero_add]
  have h := set_mid (a ++ [y]) x b y
  simp only [List.length_append, List.length_cons, List.length_nil, Nat.zero_add, List.append_assoc, List.cons_append, List.nil_append] at h
  rw [h, set_mid]
def idxG {α : Type} (q : α → Bool) : List α → Nat → Int
  | [], _ => -1
  | x :: r, i => if q x = true then i else idxG q r (i + 1)
theorem idxG_any {α : Type} (q : α → Bool) : ∀ (l : List α) (i : Nat), decide (0 ≤ idxG q l i) = l.any q
  | [], i => by simp [idxG]
  | x :: r, i => by
    simp only [idxG, List.any_cons]
    split
    · rename_i h; simp [h]
    · rename_i h; simp only [Bool.not_eq_true] at h; rw [h, Bool.false_or]; exact idxG_any q r (i + 1)
theorem idxG_none {α : Type} {q : α → Bool} : ∀ {l : List α} (i : Nat), l.any q = false → idxG q l i = -1
  | [], _, _ => rfl
  | x :: l, i, h => by
    simp only [List.any_cons, Bool.or_eq_false_iff] at h
    simp only [idxG, h.1, Bool.false_eq_true, if_false]
    exact idxG_none (i + 1) h.2
theorem idxG_at {α : Type} {q : α → Bool} : ∀ {l : List α} (i : Nat), l.any q = true → ∃ k c, idxG q l i = ((i + k : Nat) : Int) ∧ l[k]? = some c ∧ q c = true ∧ ∀ x ∈ l.take k, q x = false
  | [], i, h => by simp at h
  | x :: l, i, h => by
    simp only [idxG]
    by_cases hx : q x = true
    · rw [if_pos hx]; exact ⟨0, x, by simp, rfl, hx, by simp⟩
    · rw [if_neg hx]
      have : l.any q = true := by simpa [hx] using h
      obtain ⟨k, c, h1, h2, h3, h4⟩ := idxG_at (i + 1) this
      refine ⟨k + 1, c, by rw [h1]; congr 1; omega, by simpa using h2, h3, ?_⟩
      intro y hy
      rw [List.take_succ_cons] at hy
      rcases List.mem_cons.1 hy with rfl | hy
      · simpa using hx
      · exact h4 y hy
theorem wrap_small (n : Nat) (h : n ≤ 1000) : IntKind.u64.wrap (n : Int) = n := by
  have e : IntKind.u64.wrap (n : Int) = (n : Int) % 18446744073709551616 := by simp [IntKind.wrap, IntKind.signed, IntKind.bits]
  omega
def lens : List Int := [0, 1, 2, 2, 3, 3, 3, 3, 4, 4, 4, 4, 4]
theorem len_all : ((List.range 13).all fun n => evalsTo Tryz.prog (CS Tryz.prog) 97 [.d (.int .u64 (n : Nat))] (I (lens.getD n 0))) = true := by kernel_rfl
theorem len_ok (n : Nat) (h : n ≤ 12) : Does Tryz.prog 97 [.d (.int .u64 (n : Nat))] [] (I (lens.getD n 0)) [] := evalsTo_ok CS_ok hmix (List.all_eq_true.1 len_all n (List.mem_range.2 (by omega)))
end Go.AX

namespace Go.AX
open Go Go.Proofs
def ctM {α : Type} [BEq α] (p : α) : List α → List α
  | [] => []
  | y :: r => if (y == p) = true then ctM y r else y :: ctM y r
def compactM {α : Type} [BEq α] : List α → List α
  | [] => []
  | x :: r => x :: ctM x r
theorem ctM_mem {α : Type} [BEq α] [LawfulBEq α] : ∀ (r : List α) (p x : α), x ∈ p :: ctM p r ↔ x ∈ p :: r
  | [], p, x => by simp [ctM]
  | y :: r, p, x => by
    have ih := ctM_mem r y x
    simp only [ctM]
    by_cases e : y = p
    · subst e
      simp only [beq_self_eq_true, if_true]
      rw [ih]; simp
    · rw [if_neg (by simpa using e)]
      rw [List.mem_cons, ih]
      simp
theorem compactM_mem {α : Type} [BEq α] [LawfulBEq α] (l : List α) (x : α) : x ∈ compactM l ↔ x ∈ l := by
  cases l with
  | nil => simp [compactM]
  | cons p r => exact ctM_mem r p x
theorem ctM_len {α : Type} [BEq α] : ∀ (r : List α) (p : α), (ctM p r).length ≤ r.length
  | [], _ => by simp [ctM]
  | y :: r, p => by
    have := ctM_len r y
    simp only [ctM]
    split
    · simp; omega
    · simp; omega
theorem compactM_len {α : Type} [BEq α] (l : List α) : (compactM l).length ≤ l.length := by
  cases l with
  | nil => simp [compactM]
  | cons p r => have := ctM_len r p; simp [compactM]; omega
theorem ctM_rise {α : Type} [BEq α] [LawfulBEq α] {lt : α → α → Bool} (tot : ∀ a b, lt a b = false → a ≠ b → lt b a = true) (tr : ∀ a b c, lt a b = true → lt b c = true → lt a c = true) : ∀ (r : List α) (p : α), Sorted lt (p :: r) →
    (ctM p r).Pairwise (fun a b => lt a b = true) ∧ ∀ y ∈ ctM p r, lt p y = true
  | [], p, _ => ⟨List.Pairwise.nil, by simp [ctM]⟩
  | y :: r, p, h => by
    have h' := List.pairwise_cons.1 h
    obtain ⟨i1, i2⟩ := ctM_rise tot tr r y h'.2
    simp only [ctM]
    by_cases e : y = p
    · subst e
      simp only [beq_self_eq_true, if_true]
      exact ⟨i1, i2⟩
    · rw [if_neg (by simpa using e)]
      have hp : lt p y = true := tot _ _ (h'.1 y (by simp)) e
      refine ⟨List.Pairwise.cons i2 i1, ?_⟩
      intro z hz
      rcases List.mem_cons.1 hz with rfl | hz
      · exact hp
      · exact tr _ _ _ hp (i2 z hz)
theorem compactM_rise {α : Type} [BEq α] [LawfulBEq α] {lt : α → α → Bool} (tot : ∀ a b, lt a b = false → a ≠ b → lt b a = true) (tr : ∀ a b c, lt a b = true → lt b c = true → lt a c = true) (l : List α) (h : Sorted lt l) : (compactM l).Pairwise (fun a b => lt a b = true) := by
  cases l with
  | nil => exact List.Pairwise.nil
  | cons p r =>
    obtain ⟨i1, i2⟩ := ctM_rise tot tr r p h
    exact List.Pairwise.cons i2 i1
end Go.AX

namespace Go.AX
open Go
/-- A comparing function that is an order. -/
structure Cp {α : Type} (c : α → α → Int) : Prop where
  eq : ∀ a b, c a b = 0 ↔ a = b
  sy : ∀ a b, c a b < 0 ↔ 0 < c b a
  tr : ∀ a b d, c a b < 0 → c b d < 0 → c a d < 0
def lexC {α β : Type} (c : α → α → Int) (d : β → β → Int) (x y : α × β) : Int := if c x.1 y.1 ≠ 0 then c x.1 y.1 else d x.2 y.2
theorem Cp.lex {α β : Type} {c : α → α → Int} {d : β → β → Int} (h : Cp c) (k : Cp d) : Cp (lexC c d) where
  eq x y := by
    try unfold lexC
    have e := h.eq x.1 y.1
    have f := k.eq x.2 y.2
    split
    · rename_i hn
      constructor
      · intro h0; exact absurd h0 hn
      · rintro rfl; exact absurd (e.2 rfl) hn
    · rename_i hn
      simp only [ne_eq, Decidable.not_not] at hn
      rw [f]
      exact ⟨fun h2 => Prod.ext (e.1 hn) h2, fun h2 => by rw [h2]⟩
  sy x y := by
    try unfold lexC
    have e := h.eq x.1 y.1
    have e' := h.eq y.1 x.1
    have s := h.sy x.1 y.1
    have s2 := k.sy x.2 y.2
    by_cases hx : x.1 = y.1
    · rw [if_neg (by simp [e.2 hx]), if_neg (by simp [e'.2 hx.symm]), s2]
    · rw [if_pos (fun h0 => hx (e.1 h0)), if_pos (fun h0 => hx (e'.1 h0).symm), s]
  tr x y z := by
    try unfold lexC
    intro h1 h2
    by_cases hx : x.1 = y.1
    · by_cases hy : y.1 = z.1
      · rw [if_neg (by simp [(h.eq _ _).2 hx])] at h1
        rw [if_neg (by simp [(h.eq _ _).2 hy])] at h2
        rw [if_neg (by simp [(h.eq _ _).2 (hx.trans hy)])]
        exact k.tr _ _ _ h1 h2
      · rw [if_pos (fun h0 => hy ((h.eq _ _).1 h0))] at h2
        rw [hx, if_pos (fun h0 => hy ((h.eq _ _).1 h0))]
        exact h2
    · rw [if_pos (fun h0 => hx ((h.eq _ _).1 h0))] at h1
      by_cases hy : y.1 = z.1
      · rw [← hy, if_pos (fun h0 => hx ((h.eq _ _).1 h0))]
        exact h1
      · rw [if_pos (fun h0 => hy ((h.eq _ _).1 h0))] at h2
        have h3 := h.tr _ _ _ h1 h2
        rw [if_pos (by omega)]
        exact h3
theorem cp_str : Cp Lib.compareBytes where
  eq := cmpB_eq
  sy a b := by
    rcases cmpB_cases a b with ⟨h1, h2, h3⟩ | ⟨h1, h2, h3⟩ | ⟨h2, h3⟩ <;> rcases cmpB_cases b a with ⟨g1, g2, g3⟩ | ⟨g1, g2, g3⟩ | ⟨g2, g3⟩
    · rw [ltS_asymm h1] at g1; cases g1
    · simp [h3, g3]
    · rw [g2] at h1; rw [ltS_irrefl] at h1; cases h1
    · simp [h3, g3]
    · have hne : a ≠ b := by simpa using h2
      have := ltS_total h1 hne
      rw [this] at g1; cases g1
    · simp [h3, g3]
    · rw [h2, ltS_irrefl] at g1; cases g1
    · simp [h2] at g2
    · simp [h3, g3]
  tr a b d h1 h2 := by
    have k1 := cmpB_lt a b
    have k2 := cmpB_lt b d
    have k3 := cmpB_lt a d
    rw [decide_eq_true h1] at k1
    rw [decide_eq_true h2] at k2
    rw [ltS_trans k1.symm k2.symm] at k3
    exact of_decide_eq_true k3
def cmpZ (a b : Int) : Int := if a < b then -1 else if b < a then 1 else 0
theorem cp_int : Cp cmpZ where
  eq a b := by unfold cmpZ; split <;> (try split) <;> omega
  sy a b := by unfold cmpZ; split <;> (try split) <;> (try split) <;> (try split) <;> omega
  tr a b d := by unfold cmpZ; split <;> (try split) <;> (try split) <;> (try split) <;> (try split) <;> (try split) <;> omega
section
variable {α : Type} {c : α → α → Int}
def ltC (c : α → α → Int) (a b : α) : Bool := decide (c a b < 0)
theorem Cp.asy (h : Cp c) (a b : α) (h1 : ltC c a b = true) : ltC c b a = false := by
  have := (h.sy a b).1 (of_decide_eq_true h1)
  simp only [ltC, decide_eq_false_iff_not]
  omega
theorem Cp.trs (h : Cp c) (a b d : α) (h1 : ltC c a b = true) (h2 : ltC c b d = true) : ltC c a d = true := decide_eq_true (h.tr a b d (of_decide_eq_true h1) (of_decide_eq_true h2))
theorem Cp.tot (h : Cp c) (a b : α) (h1 : ltC c a b = false) (hne : a ≠ b) : ltC c b a = true := by
  have h2 : ¬ c a b < 0 := of_decide_eq_false h1
  have h3 : c a b ≠ 0 := fun e => hne ((h.eq a b).1 e)
  refine decide_eq_true ((h.sy b a).2 ?_)
  omega
theorem Cp.ntr (h : Cp c) (a b d : α) (h1 : ltC c b a = false) (h2 : ltC c d b = false) : ltC c d a = false := by
  cases h3 : ltC c d a with
  | false => rfl
  | true =>
    by_cases e : b = d
    · subst e; rw [h3] at h1; cases h1
    · by_cases e2 : a = b
      · subst e2; rw [h3] at h2; cases h2
      · classical
        have h4 := h.tot d b h2 (Ne.symm e)
        have := h.trs b d a h4 h3
        rw [h1] at this; cases this
end
/-- An arrival: its paper, its moment, its kind, its reason, its text. -/
abbrev Ar := List UInt8 × Int × Int × List UInt8 × List UInt8
section
variable (cnt : Ar → Bool)
variable {cnt}
end
end Go.AX

namespace Go.AX
open Go Go.Proofs Go.RowKit
abbrev u8D (b : UInt8) : D := .int .u8 (b.toNat : Int)
theorem strOf_u8 : ∀ bs : Str, strOf (dv (bs.map u8D)) = some bs
  | [] => rfl
  | c :: bs => by
    have h := strOf_u8 bs
    simp only [dv, List.map_map] at h
    simp only [dv, List.map_cons, List.map_map, strOf, h]
    simp
theorem all_u8 (bs : Str) : (dv (bs.map u8D)).all (elemOk 1) = true := by
  simp only [dv, List.map_map, List.all_eq_true, List.mem_map, Function.comp_apply, forall_exists_index, and_imp, forall_apply_eq_imp_iff₂]
  intro x _
  rfl
theorem take_u8 (bs : Str) {n : Nat} (h : bs.length = n) : List.take n (dv (bs.map u8D)) = dv (bs.map u8D) := List.take_of_length_le (by simp [dv, h])
def kpB (d : UInt8) : Prop := (97 ≤ d.toNat ∧ d.toNat ≤ 122) ∨ (48 ≤ d.toNat ∧ d.toNat ≤ 57) ∨ d.toNat = 32 ∨ 127 < d.toNat
instance (d : UInt8) : Decidable (kpB d) := by unfold kpB; infer_instance
end Go.AX

namespace Go.AX
open Go Go.Proofs Go.RowKit
theorem RDels_strs {w : World} {ok : Nat → Prop} : ∀ (bs : List ByteArray) (pre : List Value), RDels w ok (pre ++ bs.map Value.string).toArray 1 pre.length (bs.map fun b => D.str b.data.toList)
  | [], pre => by simp [RDels]
  | b :: r, pre => by
    have := RDels_strs (w := w) (ok := ok) r (pre ++ [.string b])
    simp only [List.length_append, List.length_cons, List.length_nil, List.append_assoc, List.singleton_append, List.cons_append, List.nil_append] at this
    simp only [List.map_cons, RDels]
    exact ⟨⟨.string b, ⟨rfl, by simp⟩, rfl⟩, this⟩
theorem alloc_lt (w : World) (o : Obj) : w.heap.size < (w.alloc o).heap.size := by
  show w.heap.size < (w.heap.push o).size
  rw [Array.size_push]; exact Nat.lt_succ_self _
theorem alloc_get (w : World) (o : Obj) : (w.alloc o).heap[w.heap.size]? = some o := by
  show (w.heap.push o)[w.heap.size]? = some o
  exact Array.getElem?_push_size
theorem split_does (s : Str) (c : UInt8) (h : s.length ≤ 1000000) : Does Tryz.prog 89 [S s, S [c]] [] (.d (.sl ((Lib.split s [c]).map D.str))) [] := by
  refine Does.of_below ⟨Tryz.f89, Tryz.func89, rfl, by kernel_rfl⟩ fun w ok vs hg hok hargs => ?_
  simp only [RVl, RV, RD] at hargs
  obtain ⟨v1, r1, e1, rfl, v2, r2, e2, rfl, rfl⟩ := hargs
  subst e2
  obtain rfl : vs = #[.string ⟨s.toArray⟩, .string ⟨#[c]⟩] := by cases vs; simp_all
  obtain ⟨m, hm⟩ := hg.max (g := 0) (by kernel_rfl)
  refine (Any.strings_Split Tryz.l146 (by kernel_rfl) ⟨s.toArray⟩ ⟨#[c]⟩ m w (by simp [ByteArray.size]; omega) hm (by simp [ByteArray.size])).mono fun e w' ⟨h1, h2⟩ => ?_
  have hd := Lib.splitB_data ⟨#[c]⟩ 0 (Lib.countB ⟨s.toArray⟩ ⟨#[c]⟩) ⟨s.toArray⟩
  have hlen := Lib.splitB_all ⟨#[c]⟩ (by simp [ByteArray.size]) 0 _ ⟨s.toArray⟩ rfl
  subst h2
  refine ⟨_, h1, ?_, ?_⟩
  · exact (Below.refl _ _).alloc (Nat.le_refl _) _
  · have hq : (Lib.split s [c]).map D.str = (Lib.splitB ⟨#[c]⟩ 0 (Lib.countB ⟨s.toArray⟩ ⟨#[c]⟩) ⟨s.toArray⟩).map (fun b => D.str b.data.toList) := by
      have e3 : Lib.countB ⟨s.toArray⟩ ⟨#[c]⟩ = Lib.count s [c] := rfl
      rw [Lib.split, ← e3]
      have := congrArg (List.map D.str) hd
      rw [List.map_map] at this
      exact this.symm
    rw [hq]
    simp only [RV, RD]
    refine ⟨_, _, _, rfl, ?_, Nat.le_refl _, .inr ⟨w.heap.size, 0, _, _, _, 1, rfl, .inr ⟨Nat.le_refl _, alloc_lt _ _⟩, alloc_get _ _, ?_⟩⟩
    · rw [List.length_map, hlen]
    · exact RDels_strs _ []
theorem ext156 : Builder.Extra Tryz.prog Tryz.l156_ren where
  sizeBuilder := by kernel_rfl
  liesBuilder := by kernel_rfl
  t5 := Tryz.underlying5
  a5 := Tryz.isAgg5
  z5 := Tryz.sizeOf5
  v5 := Tryz.zeroValue5
  infoByte := by kernel_rfl
  cellsByte := by kernel_rfl
  sizeByte := by kernel_rfl
  neB5 := by decide
theorem join_any (ws : List Str) (h0 : 0 < ws.length) (hl : ws.length ≤ 1000) (hj : (Lib.join ws [32]).length ≤ 1000000) :
    Does Tryz.prog 91 [.d (.sl (ws.map .str)), S [32]] [] (S (Lib.join ws [32])) [] := by
  refine Does.of_below ⟨Tryz.f91, Tryz.func91, rfl, by kernel_rfl⟩ fun w ok vs hg hok hargs => ?_
  simp only [RVl, RV] at hargs
  obtain ⟨v1, r1, e1, h1, v2, r2, e2, h2, rfl⟩ := hargs
  subst e2
  simp only [RD] at h1 h2
  subst h2
  obtain ⟨a, n, cap, rfl, hn, hcap, hx⟩ := h1
  simp only [List.length_map] at hn
  subst hn
  rcases hx with hx | ⟨b, off, c, e, fr, s, rfl, hb, hh, hr⟩
  · have : ws = [] := by simpa using hx
    subst this
    exact absurd h0 (by simp)
  · obtain rfl : vs = #[.slice (some ⟨b, off, none⟩) ws.length cap, .string ⟨#[32]⟩] := by cases vs; simp_all
    have e1 : (ws.map fun s => ByteArray.mk s.toArray).map (·.data.toList) = ws := by
      rw [List.map_map]
      conv => rhs; rw [← List.map_id ws]
      exact List.map_congr_left fun _ _ => by simp
    have hc : ∀ (j : Nat) x, (ws.map fun s => ByteArray.mk s.toArray)[j]? = some x → w.cell? ⟨b, off + j, none⟩ = some (.string x) := by
      intro j x hx
      rw [List.getElem?_map] at hx
      obtain ⟨s0, hs, rfl⟩ := Option.map_eq_some_iff.1 hx
      obtain ⟨v, hv, hrd⟩ := RDels_get hr (i := j) (x := .str s0) (by rw [List.getElem?_map, hs]; rfl)
      simp only [RD] at hrd
      subst hrd
      simp only [ElemAt] at hv
      obtain ⟨rfl, hv⟩ := hv
      rw [Nat.mul_one] at hv
      simp only [World.cell?, hh]
      exact hv
    have := Any.strings_Join Tryz.l156 ext156 b off cap (ws.map fun s => ByteArray.mk s.toArray) ⟨#[32]⟩ w hc (hok b hb) (by simp; omega) (by simpa using hcap) (by rw [e1]; exact Nat.le_trans hj (by omega))
    rw [e1, List.length_map] at this
    refine this.mono fun e w' ⟨h1, h2⟩ => ⟨_, h1, h2, ?_⟩
    simp only [RV, RD]
theorem all_ok_S (xs : List Str) : (xs.map D.str).all (elemOkD 1) = true := by simp [elemOkD, D.cells, D.single]
end Go.AX

namespace Go.AX
open Go
def splitB (c : UInt8) : List UInt8 → List (List UInt8)
  | [] => [[]]
  | x :: r => if x = c then [] :: splitB c r else match splitB c r with
    | [] => [[x]]
    | w :: ws => (x :: w) :: ws
theorem splitB_ne (c : UInt8) : ∀ s, splitB c s ≠ []
  | [] => by simp [splitB]
  | x :: r => by
    simp only [splitB]
    split
    · simp
    · split <;> simp
theorem splitB_none (c : UInt8) : ∀ s : List UInt8, c ∉ s → splitB c s = [s]
  | [], _ => rfl
  | x :: r, h => by
    have h1 : x ≠ c := fun e => h (by simp [e])
    have h2 : c ∉ r := fun e => h (by simp [e])
    simp only [splitB, if_neg h1, splitB_none c r h2]
theorem splitB_app (c : UInt8) : ∀ (a b : List UInt8), c ∉ a → splitB c (a ++ c :: b) = a :: splitB c b
  | [], b, _ => by simp [splitB]
  | x :: a, b, h => by
    have h1 : x ≠ c := fun e => h (by simp [e])
    have h2 : c ∉ a := fun e => h (by simp [e])
    simp only [List.cons_append, splitB, if_neg h1, splitB_app c a b h2]
theorem splitB_length (c : UInt8) : ∀ s : List UInt8, (splitB c s).length = s.count c + 1
  | [] => rfl
  | x :: r => by
    have ih := splitB_length c r
    simp only [splitB]
    by_cases h : x = c
    · subst h; simp [ih]
    · rw [if_neg h, List.count_cons_of_ne (by simpa using h)]
      split
      · rename_i e; exact absurd e (splitB_ne c r)
      · rename_i w ws e; rw [e] at ih; simpa using ih
theorem indexByte_split (c : UInt8) : ∀ s : List UInt8, 0 < s.count c → ∃ m : Nat, Lib.indexByte s c = m ∧ m < s.length ∧ c ∉ s.take m ∧ s = s.take m ++ c :: s.drop (m + 1)
  | [], h => by simp at h
  | x :: r, h => by
    by_cases hx : x = c
    · subst hx
      exact ⟨0, by simp [Lib.indexByte], by simp, by simp, by simp⟩
    · rw [List.count_cons_of_ne (by simpa using hx)] at h
      obtain ⟨m, h1, h2, h3, h4⟩ := indexByte_split c r h
      refine ⟨m + 1, ?_, by simp; omega, ?_, ?_⟩
      · simp only [Lib.indexByte]
        rw [if_neg (by simpa using hx), h1, if_neg (by simp)]
        omega
      · simp only [List.take_succ_cons, List.mem_cons, not_or]
        exact ⟨fun e => hx e.symm, h3⟩
      · simp only [List.take_succ_cons, List.drop_succ_cons, List.cons_append]
        exact congrArg (x :: ·) h4
theorem splitB_index (c : UInt8) (s : List UInt8) (h : 0 < s.count c) : ∃ m : Nat, Lib.indexByte s c = m ∧ m < s.length ∧ splitB c s = s.take m :: splitB c (s.drop (m + 1)) ∧ s.count c = (s.drop (m + 1)).count c + 1 := by
  obtain ⟨m, h1, h2, h3, h4⟩ := indexByte_split c s h
  have e1 : splitB c s = s.take m :: splitB c (s.drop (m + 1)) := by
    conv => lhs; rw [h4]
    exact splitB_app c _ _ h3
  refine ⟨m, h1, h2, e1, ?_⟩
  have l1 := splitB_length c s
  have l2 := splitB_length c (s.drop (m + 1))
  rw [e1, List.length_cons, l2] at l1
  omega
/-- Lines, each ended by a byte. -/
theorem splitB_lines (c : UInt8) : ∀ ls : List (List UInt8), (∀ l ∈ ls, c ∉ l) → splitB c (ls.flatMap (· ++ [c])) = ls ++ [[]]
  | [], _ => rfl
  | l :: ls, h => by
    rw [List.flatMap_cons, List.append_assoc, List.singleton_append, splitB_app c l _ (h l (by simp)), splitB_lines c ls fun x hx => h x (by simp [hx])]
    rfl
end Go.AX
