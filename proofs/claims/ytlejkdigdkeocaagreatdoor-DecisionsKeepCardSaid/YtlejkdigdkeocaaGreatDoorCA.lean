/- Small functions: remainders, draws. -/
import Derived.Test.YtlejkdigdkeocaaGreatDoorTk
import Derived.Test.YtlejkdigdkeocaaGreatDoorSk
import Derived.Test.YtlejkdigdkeocaaGreatDoorAx31
import Derived.Lib.Bytealg
set_option linter.unusedSimpArgs false
set_option linter.unusedVariables false
set_option maxRecDepth 100000
set_option maxRecDepth 1000000
set_option maxHeartbeats 4000000
set_option linter.unnecessarySimpa false
namespace Go.AX
open Go Go.Proofs
abbrev I (n : Int) : V := .d (.int .i64 n)
abbrev B (b : Bool) : V := .d (.bool b)
abbrev S (s : List UInt8) : V := .d (.str s)

/-- A call of a function that is handed two objects. -/
theorem Does.two {P : Program} {f : FuncId} {ys ys' : List V} {x : V} {o o' q q' : O} (hd : Does P f ys [o, q] x [o', q']) (id jd : Nat) (hne : id ≠ jd) {hv : Nat → Option O} {nid : Nat} (h1 : renL (gOf [id, jd] nid) ys = ys') (hid : hv id = some o) (hjd : hv jd = some q)
    (h2 : x.ren (gOf [id, jd] nid) = x) (h3 : o'.ren (gOf [id, jd] nid) = o') (h4 : o.ren (gOf [id, jd] nid) = o) (h5 : q'.ren (gOf [id, jd] nid) = q') (h6 : q.ren (gOf [id, jd] nid) = q) (hb : ys.all (V.bel 2) = true) (hbo : o.bel 2 = true) (hbq : q.bel 2 = true) (hbx : x.bel 2 = true) (hbo' : o'.bel 2 = true) (hbq' : q'.bel 2 = true) (hl : o'.lv = some o') (hl2 : q'.lv = some q') :
    CallStep P hv nid f ys' x [(id, some o'), (jd, some q')] := by
  have := CallStep.of_does hd (hv := hv) (nid := nid) [id, jd] rfl (by simp [hne]) (fun i r hr => by
    cases i with
    | zero => simp at hr; subst hr; rw [h4]; exact hid
    | succ i =>
      cases i with
      | zero => simp at hr; subst hr; rw [h6]; exact hjd
      | succ i => simp at hr) (Nat.le_refl _) (by simp) hb (by simp [hbo, hbq]) hbx (by simp [hbo', hbq'])
  rw [h1, h2] at this
  have e : updsOf (gOf [id, jd] nid) 0 [o', q'] = [(id, some o'), (jd, some q')] := by
    simp only [updsOf, h3, hl, h5, hl2]; rfl
  rwa [e] at this

theorem tmod_neg (x n : Int) (hn : 0 < n) (h : x.tmod n < 0) : x.tmod n + n = x % n ∧ -n < x.tmod n := by
  have h2 := Int.emod_nonneg x (show n ≠ 0 by omega)
  have h3 := Int.emod_lt_of_pos x hn
  have hs : (n.natAbs : Int) = n := by omega
  rw [Int.tmod_eq_emod, hs] at *
  by_cases hc : 0 ≤ x ∨ n ∣ x
  · rw [if_pos hc] at h; omega
  · rw [if_neg hc] at *; omega
theorem tmod_pos (x n : Int) (hn : 0 < n) (h : ¬ x.tmod n < 0) : x.tmod n = x % n := by
  have h2 := Int.emod_nonneg x (show n ≠ 0 by omega)
  have h3 := Int.emod_lt_of_pos x hn
  have hs : (n.natAbs : Int) = n := by omega
  rw [Int.tmod_eq_emod, hs] at *
  by_cases hc : 0 ≤ x ∨ n ∣ x
  · rw [if_pos hc]; omega
  · rw [if_neg hc] at *; omega

theorem below (x n : Int) (h1 : 1 ≤ n) (h2 : n ≤ 9223372036854775807) : Does Tryz.prog 88 [I x, I n] [] (I (x % n)) [] := by
  refine Does.of_AW (n := 16) Tryz.func88 rfl rfl rfl fun cx hcx => ?_
  have a1 : ¬ n < 1 := by omega
  have a2 : n ≠ 0 := by omega
  refine AW.sreg rfl fun K hK => ?_; simp only [go_sem, ↓reduceIte]
  refine hK _ ?_; (try clear hK K)
  refine AW.seq_k fun K1 hK1 => ?_
  refine AW.sreg rfl fun K hK => ?_; simp only [go_sem, ↓reduceIte]
  refine hK _ ?_; (try clear hK K)
  refine AW.condF rfl (decide_eq_false a1) (AW.skip (hK1 _ ?_))
  refine AW.sreg rfl fun K hK => ?_; simp only [go_sem, ↓reduceIte]
  refine ⟨a2, ?_⟩
  refine hK _ ?_; (try clear hK K)
  refine AW.seq_k fun K1 hK1 => ?_
  refine AW.sreg rfl fun K hK => ?_; simp only [go_sem, ↓reduceIte]
  refine hK _ ?_; (try clear hK K)
  refine AW.cond rfl (fun h => ?_) (fun h => ?_)
  · have h := of_decide_eq_true h
    obtain ⟨e1, e2⟩ := tmod_neg x n (by omega) h
    refine AW.reg rfl ?_
    simp only [go_sem, ↓reduceIte]
    refine ⟨by omega, hK1 _ ?_⟩
    refine AW.sreg rfl fun K hK => ?_; simp only [go_sem, ↓reduceIte]
    exact hK _ (AW.ret (Fin.data rfl (by simp [go_sem, e1]) rfl))
  · have h := of_decide_eq_false h
    have e1 := tmod_pos x n (by omega) h
    refine AW.skip (hK1 _ ?_)
    refine AW.sreg rfl fun K hK => ?_; simp only [go_sem, ↓reduceIte]
    exact hK _ (AW.ret (Fin.data rfl (by simp [go_sem, e1]) rfl))

theorem gcd_step (a b : Int) (h : b ≠ 0) : Int.gcd b (a.tmod b) = Int.gcd a b := by
  rw [Int.gcd_comm a b]
  have : a.tmod b = a - b * (a.tdiv b) := by have := Int.tmod_add_mul_tdiv a b; omega
  rw [this]
  have e : a - b * (a.tdiv b) = a + b * (-(a.tdiv b)) := by rw [Int.mul_neg]; omega
  rw [e, Int.gcd_add_mul_left_right]

theorem tmod_abs (a b : Int) (h : b ≠ 0) : (a.tmod b).natAbs < b.natAbs := by
  have h1 := Int.tmod_lt_of_pos
  rw [Int.natAbs_tmod]
  exact Nat.mod_lt _ (by omega)
theorem tmod_bd (a b M : Int) (h : b ≠ 0) (hb : -M ≤ b ∧ b ≤ M) : -M ≤ a.tmod b ∧ a.tmod b ≤ M := by
  have := tmod_abs a b h
  omega
theorem gcd_go (a0 b0 : Int) (h1 : -4611686018427387904 ≤ a0 ∧ a0 ≤ 4611686018427387904) (h2 : -4611686018427387904 ≤ b0 ∧ b0 ≤ 4611686018427387904) : Does Tryz.prog 169 [I a0, I b0] [] (I (Int.gcd a0 b0)) [] := by
  refine Does.of_AW (n := 15) Tryz.func169 rfl rfl rfl fun cx hcx => ?_
  refine AW.sreg rfl fun K hK => ?_; simp only [go_sem, ↓reduceIte]
  refine hK _ ?_; (try clear hK K)
  refine AW.seq_k fun K hK => AW.block ?_
  refine AW.loopS (ι := Int × Int) (fun p => ⟨15, [(0, I p.1), (1, I p.2)], [], 0⟩)
    (fun p => Int.gcd p.1 p.2 = Int.gcd a0 b0 ∧ (-4611686018427387904 ≤ p.1 ∧ p.1 ≤ 4611686018427387904) ∧ (-4611686018427387904 ≤ p.2 ∧ p.2 ≤ 4611686018427387904)) (fun p => p.2.natAbs) (a0, b0) ⟨rfl, h1, h2⟩ (Weak.data hcx rfl rfl (by simp [go_sem])) ?_
  rintro ⟨a, b⟩ ⟨hg, ha, hb⟩
  simp only at hg ha hb ⊢
  refine AW.seq_k fun K1 hK1 => AW.sreg rfl fun K2 hK2 => ?_
  simp only [go_sem, ↓reduceIte]
  refine hK2 _ ?_
  refine AW.cond rfl (fun h => ?_) (fun h => ?_)
  · have h : b ≠ 0 := by simpa using h
    refine AW.skip (hK1 _ (AW.block ?_))
    refine AW.regD hmix rfl ?_; simp only [go_sem, ↓reduceIte]
    refine ⟨h, by kernel_rfl, (b, a.tmod b), ⟨?_, ?_, ?_⟩, ?_, ?_⟩
    · exact (gcd_step a b h).trans hg
    · exact hb
    · exact tmod_bd a b _ h hb
    · exact tmod_abs a b h
    · exact Weak.data hcx rfl rfl (by simp [go_sem])
  · have h : b = 0 := by simpa using h
    refine AW.exit ?_
    simp only [go_sem, ↓reduceIte]
    refine hK _ ?_
    refine AW.sreg rfl fun K hK => ?_; simp only [go_sem, ↓reduceIte]
    subst h
    refine ⟨by omega, ?_⟩
    exact hK _ (AW.ret (Fin.data rfl (by rw [← hg]; simp [go_sem]; split <;> omega) rfl))

/-! ### the stream -/
def nextV (l : List Int) (at_ n : Int) : Int :=
  if l = [] then (at_ + 1) * 7919 % n else
    let i := at_ % (l.length : Int)
    ((l.getD i.toNat 0) % 1073741824 + at_ / (l.length : Int) * (7919 + i)) % n
abbrev Ls (l : List Int) : V := .d (.sl (l.map (D.int .i64)))


theorem next_nil (at_ n : Int) (h1 : 1 ≤ n) (h2 : n ≤ 9223372036854775807) (ha : 0 ≤ at_) (hb : at_ ≤ 1000000) :
    Does Tryz.prog 29 [.ptr 0 0, I n] [.box 25 [Ls [], I at_]] (I (nextV [] at_ n)) [.box 25 [Ls [], I (at_ + 1)]] := by
  refine Does.of_AW (n := 64) Tryz.func29 rfl rfl rfl fun cx hcx => ?_
  refine AW.sreg rfl fun K hK => ?_; simp only [go_sem, ↓reduceIte]
  refine hK _ ?_; (try clear hK K)
  refine AW.sreg rfl fun K hK => ?_; simp only [go_sem, ↓reduceIte]
  refine ⟨by omega, ?_⟩
  refine hK _ ?_; (try clear hK K)
  refine AW.seq_k fun K1 hK1 => ?_
  refine AW.sreg rfl fun K hK => ?_; simp only [go_sem, ↓reduceIte]
  refine hK _ ?_; (try clear hK K)
  refine AW.condT rfl (by rfl) ?_
  refine AW.sreg rfl fun K hK => ?_; simp only [go_sem, ↓reduceIte]
  refine ⟨by omega, ?_⟩
  refine run_call _ _ _ ((below ((at_ + 1) * 7919) n h1 h2).pure rfl rfl _ _) rfl rfl (dstOk_of rfl) rfl rfl rfl ?_
  simp only [go_sem, ↓reduceIte]
  refine hK _ (AW.ret (Fin.one rfl rfl ⟨_, rfl, rfl⟩ rfl rfl rfl))

theorem next_cons (l : List Int) (hl : l ≠ []) (hl2 : l.length ≤ 9223372036854775807) (at_ n : Int) (h1 : 1 ≤ n) (h2 : n ≤ 9223372036854775807) (ha : 0 ≤ at_) (hb : at_ ≤ 1000000) :
    Does Tryz.prog 29 [.ptr 0 0, I n] [.box 25 [Ls l, I at_]] (I (nextV l at_ n)) [.box 25 [Ls l, I (at_ + 1)]] := by
  have hpos : 0 < l.length := List.length_pos_iff.2 hl
  have e1 : ((l.length : Int) == 0) = false := by simp; omega
  have i0 := Int.emod_nonneg at_ (show (l.length : Int) ≠ 0 by omega)
  have i1 := Int.emod_lt_of_pos at_ (show (0 : Int) < l.length by omega)
  have t1 : (at_ + 1 - 1).tmod l.length = at_ % (l.length : Int) := by rw [Int.add_sub_cancel]; exact Int.tmod_eq_emod_of_nonneg ha
  have t2 : (at_ + 1 - 1).tdiv l.length = at_ / (l.length : Int) := by rw [Int.add_sub_cancel]; exact Int.tdiv_eq_ediv_of_nonneg ha
  have hlt : (at_ % (l.length : Int)).toNat < l.length := by omega
  have hget : (l.map (D.int .i64))[(at_ % (l.length : Int)).toNat]? = some (D.int .i64 (l.getD (at_ % (l.length : Int)).toNat 0)) := by
    simp [List.getElem?_eq_getElem hlt]
  refine Does.of_AW (n := 64) Tryz.func29 rfl rfl rfl fun cx hcx => ?_
  refine AW.sreg rfl fun K hK => ?_; simp only [go_sem, ↓reduceIte]
  refine hK _ ?_; (try clear hK K)
  refine AW.sreg rfl fun K hK => ?_; simp only [go_sem, ↓reduceIte]
  refine ⟨by omega, ?_⟩
  refine hK _ ?_; (try clear hK K)
  refine AW.seq_k fun K1 hK1 => ?_
  refine AW.sreg rfl fun K hK => ?_; simp only [go_sem, ↓reduceIte, List.length_map]
  refine hK _ ?_; (try clear hK K)
  refine AW.condF rfl e1 (AW.skip (hK1 _ ?_))
  refine AW.sregD hmix rfl fun K hK => ?_; simp only [go_sem, ↓reduceIte, List.length_map]
  refine ⟨by omega, by omega, by kernel_rfl, ?_⟩
  refine hK _ ?_; (try clear hK K)
  have t3 : 0 ≤ at_ / (l.length : Int) := Int.ediv_nonneg ha (by omega)
  have t4 : at_ / (l.length : Int) ≤ at_ := Int.ediv_le_self _ ha
  refine AW.sregD hmix rfl fun K hK => ?_; simp only [go_sem, ↓reduceIte, List.length_map, t1, t2]
  refine ⟨by omega, ⟨by omega, by omega, by omega⟩, by kernel_rfl, ?_⟩
  refine hK _ ?_; (try clear hK K)
  have i2 : at_ % (l.length : Int) ≤ at_ := by
    have q1 := Int.mul_ediv_add_emod at_ (l.length : Int)
    have q2 := Int.mul_nonneg (show 0 ≤ (l.length : Int) by omega) t3
    omega
  refine AW.sreg rfl fun K hK => ?_; simp only [go_sem, ↓reduceIte, t1, t2, hget]
  refine ⟨i0, ?_⟩
  refine run_call _ _ _ ((below (l.getD (at_ % (l.length : Int)).toNat 0) 1073741824 (by omega) (by omega)).pure rfl rfl _ _) rfl rfl (dstOk_of rfl) rfl rfl rfl ?_
  simp only [go_sem, ↓reduceIte]
  have b0 := Int.emod_nonneg (l.getD (at_ % (l.length : Int)).toNat 0) (show (1073741824 : Int) ≠ 0 by omega)
  have b1 := Int.emod_lt_of_pos (l.getD (at_ % (l.length : Int)).toNat 0) (show (0 : Int) < 1073741824 by omega)
  have m0 : 0 ≤ at_ / (l.length : Int) * (7919 + at_ % (l.length : Int)) := Int.mul_nonneg t3 (by omega)
  have m1 : at_ / (l.length : Int) * (7919 + at_ % (l.length : Int)) ≤ 1000000 * 1007919 := Int.mul_le_mul (by omega) (by omega) (by omega) (by omega)
  refine ⟨by omega, by omega, by omega, ?_⟩
  refine run_call _ _ _ ((below _ n h1 h2).pure rfl rfl _ _) rfl rfl (dstOk_of rfl) rfl rfl rfl ?_
  simp only [go_sem, ↓reduceIte]
  refine hK _ (AW.ret (Fin.one rfl ?_ ⟨_, rfl, rfl⟩ rfl rfl rfl))
  simp only [go_sem, nextV, hl, if_false]

theorem next_any (l : List Int) (hl2 : l.length ≤ 9223372036854775807) (at_ n : Int) (h1 : 1 ≤ n) (h2 : n ≤ 9223372036854775807) (ha : 0 ≤ at_) (hb : at_ ≤ 1000000) :
    Does Tryz.prog 29 [.ptr 0 0, I n] [.box 25 [Ls l, I at_]] (I (nextV l at_ n)) [.box 25 [Ls l, I (at_ + 1)]] := by
  by_cases hl : l = []
  · subst hl; exact next_nil at_ n h1 h2 ha hb
  · exact next_cons l hl hl2 at_ n h1 h2 ha hb
theorem nextV_range (l : List Int) (at_ n : Int) (h1 : 1 ≤ n) : 0 ≤ nextV l at_ n ∧ nextV l at_ n < n := by
  unfold nextV
  split
  · exact ⟨Int.emod_nonneg _ (by omega), Int.emod_lt_of_pos _ (by omega)⟩
  · exact ⟨Int.emod_nonneg _ (by omega), Int.emod_lt_of_pos _ (by omega)⟩

theorem range_any (l : List Int) (hl2 : l.length ≤ 9223372036854775807) (at_ lo hi : Int) (h1 : lo ≤ hi) (h2 : -1000000000 ≤ lo) (h3 : hi ≤ 1000000000) (ha : 0 ≤ at_) (hb : at_ ≤ 1000000) :
    Does Tryz.prog 11 [.ptr 0 0, I lo, I hi] [.box 25 [Ls l, I at_]] (I (lo + nextV l at_ (hi - lo + 1))) [.box 25 [Ls l, I (at_ + 1)]] := by
  have hr := nextV_range l at_ (hi - lo + 1) (by omega)
  refine Does.of_AW (n := 19) Tryz.func11 rfl rfl rfl fun cx hcx => ?_
  refine AW.sreg rfl fun K hK => ?_; simp only [go_sem, ↓reduceIte]
  refine hK _ ?_; (try clear hK K)
  refine AW.seq_k fun K1 hK1 => ?_
  refine AW.sreg rfl fun K hK => ?_; simp only [go_sem, ↓reduceIte]
  refine hK _ ?_; (try clear hK K)
  refine AW.condF rfl (by simp; omega) (AW.skip (hK1 _ ?_))
  refine AW.sreg rfl fun K hK => ?_; simp only [go_sem, ↓reduceIte]
  refine ⟨by omega, by omega, ?_⟩
  refine run_call _ _ _ ((next_any l hl2 at_ (hi - lo + 1) (by omega) (by omega) ha hb).one 0 rfl rfl rfl rfl rfl rfl rfl rfl rfl rfl) rfl rfl (dstOk_of rfl) rfl rfl rfl ?_
  simp only [go_sem, ↓reduceIte]
  refine ⟨by omega, ?_⟩
  exact hK _ (AW.ret (Fin.one rfl rfl ⟨_, rfl, rfl⟩ rfl rfl rfl))


end Go.AX

namespace Go.AX
open Go Go.Proofs

/-- The end of a function that hands back data and leaves two objects that it was handed. -/
theorem Fin.two {P : Program} {fn : Func} {st : St} {x : V} {o q : O} {l : List V} (hl : resL P st.hv st.ev fn.results.toList = some l) (hx : frz st.hv (fun i => Nat.blt i 2) (resV l) = x.ren id) (ho : ∃ o', st.hv 0 = some o' ∧ o'.frz st.hv (fun i => Nat.blt i 2) = o.ren id) (hq : ∃ o', st.hv 1 = some o' ∧ o'.frz st.hv (fun i => Nat.blt i 2) = q.ren id)
    (hb : x.bel 2 = true) (hbo : o.bel 2 = true) (hbq : q.bel 2 = true) (hlv : o.lv = some o) (hlq : q.lv = some q) : Fin P fn 2 x [o, q] st := by
  refine ⟨id, fun i => Nat.blt i 2, l, hl, hx, ?_, .inl ?_, ?_, ?_, Nat.le_refl _, hb, by simp [hbo, hbq]⟩
  · intro i r hr
    obtain ⟨hr, _⟩ := hvL_get hr
    cases i with
    | zero => simp at hr; subst hr; exact ⟨rfl, ho⟩
    | succ i =>
      cases i with
      | zero => simp at hr; subst hr; exact ⟨rfl, hq⟩
      | succ i => simp at hr
  · intro i hi
    have : i = 0 ∨ i = 1 := by omega
    rcases this with rfl | rfl
    · exact ⟨o, hlv⟩
    · exact ⟨q, hlq⟩
  · intro i j hi hj h; simpa using h
  · intro i _; rfl

theorem flip_any (l : List Int) (hl2 : l.length ≤ 9223372036854775807) (at_ n : Int) (h1 : 1 ≤ n) (h2 : n ≤ 9223372036854775807) (ha : 0 ≤ at_) (hb : at_ ≤ 1000000) :
    Does Tryz.prog 42 [.ptr 0 0, I n] [.box 25 [Ls l, I at_]] (B (nextV l at_ n == 0)) [.box 25 [Ls l, I (at_ + 1)]] := by
  refine Does.of_AW (n := 9) Tryz.func42 rfl rfl rfl fun cx hcx => ?_
  refine AW.sreg rfl fun K hK => ?_; simp only [go_sem, ↓reduceIte]
  refine hK _ ?_; (try clear hK K)
  refine AW.sreg rfl fun K hK => ?_; simp only [go_sem, ↓reduceIte]
  refine run_call _ _ _ ((next_any l hl2 at_ n h1 h2 ha hb).one 0 rfl rfl rfl rfl rfl rfl rfl rfl rfl rfl) rfl rfl (dstOk_of rfl) rfl rfl rfl ?_
  simp only [go_sem, ↓reduceIte]
  exact hK _ (AW.ret (Fin.one rfl rfl ⟨_, rfl, rfl⟩ rfl rfl rfl))

abbrev SV (strs : List (List UInt8)) : O := .vec 9 1 (dv (strs.map D.str))
end Go.AX

namespace Go.AX
open Go Go.Proofs
abbrev Str := List UInt8
theorem get_some {α : Type} {l : List α} {i : Nat} (h : i < l.length) : ∃ x, l[i]? = some x ∧ x ∈ l ∧ l.drop i = x :: l.drop (i + 1) := ⟨l[i], List.getElem?_eq_getElem h, List.getElem_mem h, List.drop_eq_getElem_cons h⟩
theorem outside_any (n lo hi : Int) : Does Tryz.prog 99 [I n, I lo, I hi] [] (B (decide (n < lo) || decide (hi < n))) [] := by
  refine Does.of_AW (n := 15) Tryz.func99 rfl rfl rfl fun cx hcx => ?_
  repeat' (first | (refine AW.sreg rfl fun K hK => ?_; simp only [go_sem, ↓reduceIte]) | (refine hK _ ?_; clear hK K) | (refine stepB_split (fun h => ?_) (fun h => ?_) <;> (have hb0 := h) <;> (try simp only [Bool.not_eq_true', Bool.not_eq_false'] at hb0) <;> (try simp only [decide_eq_true_eq, decide_eq_false_iff_not, Bool.not_eq_true', Bool.not_eq_false', Bool.not_eq_eq_eq_not, Bool.not_true, Bool.not_false, beq_iff_eq, bne_iff_ne, beq_eq_false_iff_ne, ne_eq, Bool.and_eq_true, Bool.or_eq_true, Bool.or_eq_false_iff] at h) <;> simp only [go_sem, ↓reduceIte, hb0, h, decide_true, decide_false] <;> (try clear hb0)) | (refine AW.ret (Fin.data rfl (by first | (simp only [go_sem]; done) | (simp [go_sem, *]; done) | (simp [go_sem]; omega) | rfl) rfl)))
abbrev IV (ns : List Int) : O := .vec 3 1 (dv (ns.map (D.int .i64)))
theorem pick_any (l : List Int) (hl2 : l.length ≤ 9223372036854775807) (at_ : Int) (ha : 0 ≤ at_) (hb : at_ ≤ 1000000) (ns : List Int) (hs : ns ≠ []) (hs2 : ns.length ≤ 1000000) :
    Does Tryz.prog 30 [.ptr 0 0, .slr 1 0 ns.length] [.box 25 [Ls l, I at_], IV ns] (I (ns.getD (nextV l at_ ns.length).toNat 0)) [.box 25 [Ls l, I (at_ + 1)], IV ns] := by
  have hpos : 0 < ns.length := List.length_pos_iff.2 hs
  have hr := nextV_range l at_ ns.length (by omega)
  generalize hq : nextV l at_ ns.length = r at hr
  have hlt : r.toNat < ns.length := by omega
  have hget : (dv (ns.map (D.int .i64)))[0 + r.toNat]? = some (.d (.int .i64 (ns.getD r.toNat 0))) := by
    simp [dv, hlt]
  refine Does.of_AW (n := 12) Tryz.func30 rfl rfl rfl fun cx hcx => ?_
  refine AW.sreg rfl fun K hK => ?_; simp only [go_sem, ↓reduceIte]
  refine hK _ ?_; (try clear hK K)
  refine AW.sreg rfl fun K hK => ?_; simp only [go_sem, ↓reduceIte]
  have hn := next_any l hl2 at_ ns.length (by omega) (by omega) ha hb
  rw [hq] at hn
  refine run_call _ _ _ ((hn).one 0 rfl rfl rfl rfl rfl rfl rfl rfl rfl rfl) rfl rfl (dstOk_of rfl) rfl rfl rfl ?_
  simp only [go_sem, ↓reduceIte, hget]
  refine ⟨⟨hr.1, hr.2⟩, ?_⟩
  exact hK _ (AW.ret (Fin.two rfl rfl ⟨_, rfl, rfl⟩ ⟨_, rfl, by simp [go_sem]⟩ rfl rfl (belL_dv 2 _) rfl rfl))
theorem one10_any (l : List Int) (hl2 : l.length ≤ 9223372036854775807) (at_ : Int) (ha : 0 ≤ at_) (hb : at_ ≤ 1000000) (strs : List (List UInt8)) (hs : strs ≠ []) (hs2 : strs.length ≤ 1000000) :
    Does Tryz.prog 41 [.ptr 0 0, .slr 1 0 strs.length] [.box 25 [Ls l, I at_], SV strs] (S (strs.getD (nextV l at_ strs.length).toNat [])) [.box 25 [Ls l, I (at_ + 1)], SV strs] := by
  have hpos : 0 < strs.length := List.length_pos_iff.2 hs
  have hr := nextV_range l at_ strs.length (by omega)
  generalize hq : nextV l at_ strs.length = r at hr
  have hlt : r.toNat < strs.length := by omega
  have hget : (dv (strs.map D.str))[0 + r.toNat]? = some (.d (.str (strs.getD r.toNat []))) := by
    simp [dv, hlt]
  refine Does.of_AW (n := 12) Tryz.func41 rfl rfl rfl fun cx hcx => ?_
  refine AW.sreg rfl fun K hK => ?_; simp only [go_sem, ↓reduceIte]
  refine hK _ ?_; (try clear hK K)
  refine AW.sreg rfl fun K hK => ?_; simp only [go_sem, ↓reduceIte]
  have hn := next_any l hl2 at_ strs.length (by omega) (by omega) ha hb
  rw [hq] at hn
  refine run_call _ _ _ ((hn).one 0 rfl rfl rfl rfl rfl rfl rfl rfl rfl rfl) rfl rfl (dstOk_of rfl) rfl rfl rfl ?_
  simp only [go_sem, ↓reduceIte, hget]
  refine ⟨⟨hr.1, hr.2⟩, ?_⟩
  exact hK _ (AW.ret (Fin.two rfl rfl ⟨_, rfl, rfl⟩ ⟨_, rfl, by simp [go_sem]⟩ rfl rfl (belL_dv 2 _) rfl rfl))
theorem getD_mem {α : Type} (l : List α) (i : Nat) (d : α) (h : i < l.length) : l.getD i d ∈ l := by
  simp [h]
theorem pick_mem (l : List Int) (a : Int) (ns : List Int) (h : ns ≠ []) : ns.getD (nextV l a ns.length).toNat 0 ∈ ns := by
  have hpos : 0 < ns.length := List.length_pos_iff.2 h
  have hr := nextV_range l a ns.length (by omega)
  exact getD_mem _ _ _ (by omega)
theorem one_mem (l : List Int) (a : Int) (ns : List Str) (h : ns ≠ []) : ns.getD (nextV l a ns.length).toNat [] ∈ ns := by
  have hpos : 0 < ns.length := List.length_pos_iff.2 h
  have hr := nextV_range l a ns.length (by omega)
  exact getD_mem _ _ _ (by omega)
/-! the same, of which only the range is known -/
abbrev Stm (l : List Int) (a : Int) : O := .box 25 [Ls l, I a]
theorem flipI (l : List Int) (hl2 : l.length ≤ 9223372036854775807) (at_ n : Int) (h1 : 1 ≤ n) (h2 : n ≤ 9223372036854775807) (ha : 0 ≤ at_) (hb : at_ ≤ 1000000) :
    DoesI Tryz.prog 42 [.ptr 0 0, I n] [Stm l at_] (fun _ : Bool => True) (fun r => B r) (fun _ => [Stm l (at_ + 1)]) :=
  (flip_any l hl2 at_ n h1 h2 ha hb).rel (x := fun r => B r) (os' := fun _ => [Stm l (at_ + 1)]) (nextV l at_ n == 0) trivial
theorem pickI (l : List Int) (hl2 : l.length ≤ 9223372036854775807) (at_ : Int) (ha : 0 ≤ at_) (hb : at_ ≤ 1000000) (ns : List Int) (hs : ns ≠ []) (hs2 : ns.length ≤ 1000000) :
    DoesI Tryz.prog 30 [.ptr 0 0, .slr 1 0 ns.length] [Stm l at_, IV ns] (fun r : Int => r ∈ ns) (fun r => I r) (fun _ => [Stm l (at_ + 1), IV ns]) :=
  (pick_any l hl2 at_ ha hb ns hs hs2).rel (x := fun r => I r) (os' := fun _ => [Stm l (at_ + 1), IV ns]) _ (pick_mem l at_ ns hs)
theorem one10I (l : List Int) (hl2 : l.length ≤ 9223372036854775807) (at_ : Int) (ha : 0 ≤ at_) (hb : at_ ≤ 1000000) (strs : List Str) (hs : strs ≠ []) (hs2 : strs.length ≤ 1000000) :
    DoesI Tryz.prog 41 [.ptr 0 0, .slr 1 0 strs.length] [Stm l at_, SV strs] (fun r : Str => r ∈ strs) (fun r => S r) (fun _ => [Stm l (at_ + 1), SV strs]) :=
  (one10_any l hl2 at_ ha hb strs hs hs2).rel (x := fun r => S r) (os' := fun _ => [Stm l (at_ + 1), SV strs]) _ (one_mem l at_ strs hs)
theorem rangeI (l : List Int) (hl2 : l.length ≤ 9223372036854775807) (at_ lo hi : Int) (h1 : lo ≤ hi) (h2 : -1000000000 ≤ lo) (h3 : hi ≤ 1000000000) (ha : 0 ≤ at_) (hb : at_ ≤ 1000000) :
    DoesI Tryz.prog 11 [.ptr 0 0, I lo, I hi] [Stm l at_] (fun r : Int => lo ≤ r ∧ r ≤ hi) (fun r => I r) (fun _ => [Stm l (at_ + 1)]) :=
  (range_any l hl2 at_ lo hi h1 h2 h3 ha hb).rel (x := fun r => I r) (os' := fun _ => [Stm l (at_ + 1)]) (lo + nextV l at_ (hi - lo + 1)) (by have := nextV_range l at_ (hi - lo + 1) (by omega); omega)
theorem odd10I (l : List Int) (hl2 : l.length ≤ 9223372036854775807) (at_ lo hi : Int) (h1 : lo ≤ hi) (h2 : -1000000000 ≤ lo) (h3 : hi ≤ 1000000000) (ha : 0 ≤ at_) (hb : at_ ≤ 100000) :
    DoesI Tryz.prog 44 [.ptr 0 0, I lo, I hi] [Stm l at_] (fun q : Int × Int => (-1099511627776 ≤ q.1 ∧ q.1 ≤ 1099511627776) ∧ at_ ≤ q.2 ∧ q.2 ≤ at_ + 2) (fun q => I q.1) (fun q => [Stm l q.2]) := by
  refine DoesI.of_AW (n := 22) Tryz.func44 rfl rfl rfl fun cx hcx => ?_
  repeat' (first | (refine AW.sreg rfl fun K hK => ?_; simp only [go_sem, ↓reduceIte]) | (refine AW.seq_k fun K hK => ?_) | (refine AW.skip ?_; simp only [Then, InBlock]) | (refine AW.cond rfl (fun h => ?_) (fun h => ?_) <;> (try simp only [decide_eq_true_eq, decide_eq_false_iff_not, Bool.not_eq_true', Bool.not_eq_false', Bool.not_eq_eq_eq_not, Bool.not_true, Bool.not_false, beq_iff_eq, bne_iff_ne, beq_eq_false_iff_ne, ne_eq, Bool.and_eq_true, Bool.or_eq_true, Bool.or_eq_false_iff] at h)) | (refine hK _ ?_; clear hK K) | (refine run_callI _ _ _ ((flipI l hl2 at_ 12 (by omega) (by omega) (by omega) (by omega)).objs [0] ⟨rfl, trivial⟩ rfl (by decide) (by simp [go_sem, renOs]) (by simp [go_sem]) (by simp [go_sem]) (fun j hj => ⟨by simp, by simp, by simp [go_sem], by simp [go_sem]⟩)) rfl rfl (dstOk_of rfl) rfl rfl rfl ?_; rintro r hr; (try dsimp only at r); (try dsimp only at hr); simp only [go_sem, ↓reduceIte]) | (refine run_callI _ _ _ ((pickI l hl2 (at_ + 1) (by omega) (by omega) [lo - 1, hi + 1, lo, hi, -1099511627776, 1099511627776] (by simp) (by simp)).objs [0, _] ⟨rfl, rfl, trivial⟩ rfl (by decide) (by simp [go_sem, renOs]) (by simp [go_sem]) (by simp [go_sem]) (fun j hj => ⟨by simp, by simp, by simp [go_sem], by simp [go_sem]⟩)) rfl rfl (dstOk_of rfl) rfl rfl rfl ?_; rintro r hr; (try dsimp only at r); (try dsimp only at hr); simp only [go_sem, ↓reduceIte]) | (refine run_callI _ _ _ ((rangeI l hl2 (at_ + 1) lo hi (by omega) (by omega) (by omega) (by omega) (by omega)).objs [0] ⟨rfl, trivial⟩ rfl (by decide) (by simp [go_sem, renOs]) (by simp [go_sem]) (by simp [go_sem]) (fun j hj => ⟨by simp, by simp, by simp [go_sem], by simp [go_sem]⟩)) rfl rfl (dstOk_of rfl) rfl rfl rfl ?_; rintro r hr; (try dsimp only at r); (try dsimp only at hr); simp only [go_sem, ↓reduceIte]) | (with_reducible refine andI ?_))
  · refine AW.ret ⟨(r, at_ + 1 + 1), ⟨?_, by simp only; omega, by simp only; omega⟩, Fin.one rfl rfl ⟨_, rfl, by simp [go_sem]⟩ rfl rfl rfl⟩
    simp only [List.mem_cons, List.not_mem_nil, or_false] at hr
    simp only
    omega
  · exact AW.ret ⟨(r, at_ + 1 + 1), ⟨by simp only; omega, by simp only; omega, by simp only; omega⟩, Fin.one rfl rfl ⟨_, rfl, by simp [go_sem]⟩ rfl rfl rfl⟩
end Go.AX

namespace Go.AX
open Go Go.Proofs Go.RowKit
theorem index_does (a b : List UInt8) (x : D) (h : idxF a b = some x) : Does Tryz.prog 316 [.d (.str a), .d (.str b)] [] (.d x) [] := by
  unfold idxF at h
  split at h
  · rename_i hl
    cases h
    have hl : a.length < 4294967281 := by simpa using hl
    refine Does.of_str2 (y := .int .i64 (Lib.index a b)) ⟨Tryz.f316, Tryz.func316, rfl, by kernel_rfl⟩ (fun w ok => by simp only [RV, RD]) fun w hg => ?_
    obtain ⟨m, hm⟩ := hg.max (g := 0) (by kernel_rfl)
    exact (Any.stringslite_Index Tryz.l219 ⟨a.toArray⟩ ⟨b.toArray⟩ m w (by simpa [ByteArray.size] using hl) hm).mono fun e w' ⟨h1, h2⟩ => ⟨by simpa using h1, h2 ▸ Below.refl _ _⟩
  · cases h
def SO (P : Program) : Orc := orc2 (orcS2 316 idxF) (extT P)
theorem SO_ok : OrcOk Tryz.prog (SO Tryz.prog) := orc2_ok (orcS2_ok index_does) extT_ok
def CS (P : Program) : Orc := evF P (SO P) (fun _ => false) 10000 30
theorem CS_ok : OrcOk Tryz.prog (CS Tryz.prog) := evF_ok SO_ok hmix 30
theorem stands_ok : Does Tryz.prog 13 [] [] (.d (.bool true)) [] :=
  bodyE_does CS_ok hmix (by kernel_rfl : bodyE Tryz.prog (CS Tryz.prog) (fun _ => false) 10000 13 [] [] = some (.d (.bool true), []))
end Go.AX

namespace Go.AX
open Go Go.Proofs
def okC (i : Nat) (c : UInt8) : Bool := decide ((97 ≤ (c.toNat : Int) ∧ (c.toNat : Int) ≤ 122) ∨ (0 < (i : Int) ∧ ((48 ≤ (c.toNat : Int) ∧ (c.toNat : Int) ≤ 57) ∨ (c.toNat : Int) = 45 ∨ (c.toNat : Int) = 95)))
def keyR : Nat → List UInt8 → Bool
  | _, [] => true
  | i, c :: r => if okC i c = true then keyR (i + 1) r else false
def keyB (s : List UInt8) : Bool := keyR 0 s && (!(s == []) && decide ((s.length : Int) ≤ 40))
theorem isKey_any (s : List UInt8) (hl : s.length ≤ 1000000) : Does Tryz.prog 77 [S s] [] (B (keyB s)) [] := by
  refine Does.of_AW (n := 48) Tryz.func77 rfl rfl rfl fun cx hcx => ?_
  generalize hR : keyR 0 s = R
  repeat' (first | (refine AW.sreg rfl fun K hK => ?_; simp only [go_sem, ↓reduceIte]) | (refine AW.seq_k fun K hK => ?_) | (refine AW.block ?_) | (refine hK _ ?_; clear hK K))
  refine AW.loopF (ι := Nat) [0] (fun p => [(3, I p)]) (fun p => []) 1 (fun p => p ≤ s.length ∧ keyR p (s.drop p) = R) (fun p => s.length - p) 0 ⟨by simp, hR⟩ (Weak.aC hcx (by refine ⟨?_, ?_, ?_⟩ <;> simp [go_sem, gL, kL, renOf, V.obj, Nat.blt, Nat.ble, List.map_append, dv_push])) ?_; simp only [St.at_nil, St.at_cons, lk, Nat.reduceEqDiff, ↓reduceIte, Option.getD_some, Option.getD_none, List.cons_append, List.nil_append, List.append_nil]
  rintro i ⟨h1, h2⟩
  by_cases hi : i < s.length
  · obtain ⟨c, hc, hcm, hcd⟩ := get_some hi
    have hget : s[i]? = some c := hc
    rw [hcd, keyR] at h2
    by_cases hk : okC i c = true
    · rw [if_pos hk] at h2
      have hk := of_decide_eq_true hk
      repeat' (first | ((first | refine AW.sreg rfl fun K hK => ?_ | refine AW.reg rfl ?_); simp only [go_sem, ↓reduceIte, hget]) | (refine AW.seq_k fun K hK => ?_) | (refine AW.block ?_) | (refine AW.skip ?_; simp only [Then, InBlock]) | (refine AW.cT ?_) | (refine AW.cF ?_) | (refine hK _ ?_; clear hK K) | (refine stepB_split (fun h => ?_) (fun h => ?_) <;> (have hb0 := h) <;> (try simp only [Bool.not_eq_true', Bool.not_eq_false'] at hb0) <;> (try simp only [decide_eq_true_eq, decide_eq_false_iff_not, Bool.not_eq_true', Bool.not_eq_false', Bool.not_eq_eq_eq_not, Bool.not_true, Bool.not_false, beq_iff_eq, bne_iff_ne, beq_eq_false_iff_ne, ne_eq, Bool.and_eq_true, Bool.or_eq_true, Bool.or_eq_false_iff] at h) <;> simp only [go_sem, ↓reduceIte, hb0, h, decide_true, decide_false, hget] <;> (try clear hb0)) | (with_reducible refine andI ?_) | (exfalso; omega))
      all_goals first | (exfalso; omega) | exact ⟨i + 1, ⟨hi, h2⟩, by omega, (Weak.aC hcx (by refine ⟨?_, ?_, ?_⟩ <;> simp [go_sem, gL, kL, renOf, V.obj, Nat.blt, Nat.ble, List.map_append, dv_push]))⟩
    · rw [if_neg hk] at h2
      subst h2
      have hk : ¬ _ := fun h => hk (decide_eq_true h)
      repeat' (first | (refine AW.sreg rfl fun K hK => ?_; simp only [go_sem, ↓reduceIte, hget]) | (refine AW.seq_k fun K hK => ?_) | (refine AW.block ?_) | (refine AW.skip ?_; simp only [Then, InBlock]) | (refine AW.cT ?_) | (refine hK _ ?_; clear hK K) | (refine stepB_split (fun h => ?_) (fun h => ?_) <;> (have hb0 := h) <;> (try simp only [Bool.not_eq_true', Bool.not_eq_false'] at hb0) <;> (try simp only [decide_eq_true_eq, decide_eq_false_iff_not, Bool.not_eq_true', Bool.not_eq_false', Bool.not_eq_eq_eq_not, Bool.not_true, Bool.not_false, beq_iff_eq, bne_iff_ne, beq_eq_false_iff_ne, ne_eq, Bool.and_eq_true, Bool.or_eq_true, Bool.or_eq_false_iff] at h) <;> simp only [go_sem, ↓reduceIte, hb0, h, decide_true, decide_false, hget] <;> (try clear hb0)) | (with_reducible refine andI ?_) | (exfalso; omega))
      all_goals first | (exfalso; omega) | exact AW.ret (Fin.data rfl (by simp [go_sem, keyB, hR]) rfl)
  · obtain rfl : i = s.length := by omega
    simp only [List.drop_length, keyR] at h2
    subst h2
    cases s with
    | nil =>
      repeat' (first | ((first | refine AW.sreg rfl fun K hK => ?_ | refine AW.exit ?_); simp only [go_sem, ↓reduceIte]) | (refine AW.seq_k fun K hK => ?_) | (refine AW.cF ?_) | (refine hK _ ?_; clear hK K) | (clear hK K; refine hK _ ?_; clear hK K))
      all_goals exact AW.ret (Fin.data rfl (by simp [go_sem, keyB, hR]) rfl)
    | cons c r =>
      have e : ((c :: r : List UInt8) == []) = false := rfl
      repeat' (first | (refine AW.sreg rfl fun K hK => ?_; simp only [go_sem, ↓reduceIte, e]) | (refine AW.seq_k fun K hK => ?_) | (refine AW.exit ?_; simp only [go_sem, ↓reduceIte]) | (refine AW.cF ?_) | (refine hK _ ?_; clear hK K) | (clear hK K; refine hK _ ?_; clear hK K))
      all_goals exact AW.ret (Fin.data rfl (by simp [go_sem, keyB, hR]) rfl)
end Go.AX

namespace Go.AX
open Go Go.Proofs
theorem isNaN_int (a : Int) : Does Tryz.prog 147 [I a] [] (B false) [] := by
  refine Does.of_AW (n := 6) Tryz.func147 rfl rfl rfl fun cx hcx => ?_
  refine AW.sreg rfl fun K hK => ?_; simp only [go_sem, ↓reduceIte]
  refine hK _ ?_; (try clear hK K)
  refine AW.sreg rfl fun K hK => ?_; simp only [go_sem, ↓reduceIte]
  exact hK _ (AW.ret (Fin.data rfl (by simp [go_sem]) rfl))
def cmpI (a b : Int) : Int := if a < b then -1 else if b < a then 1 else 0
theorem compare_int (a b : Int) : Does Tryz.prog 85 [I a, I b] [] (I (cmpI a b)) [] := by
  refine Does.of_AW (n := 20) Tryz.func85 rfl rfl rfl fun cx hcx => ?_
  refine AW.sreg rfl fun K hK => ?_; simp only [go_sem, ↓reduceIte]
  refine hK _ ?_; (try clear hK K)
  refine AW.sreg rfl fun K hK => ?_; simp only [go_sem, ↓reduceIte]
  refine run_call _ _ _ ((isNaN_int a).pure rfl rfl _ _) rfl rfl (dstOk_of rfl) rfl rfl rfl ?_
  simp only [go_sem, ↓reduceIte]
  refine hK _ ?_; (try clear hK K)
  refine AW.sreg rfl fun K hK => ?_; simp only [go_sem, ↓reduceIte]
  refine run_call _ _ _ ((isNaN_int b).pure rfl rfl _ _) rfl rfl (dstOk_of rfl) rfl rfl rfl ?_
  simp only [go_sem, ↓reduceIte]
  refine hK _ ?_; (try clear hK K)
  refine AW.seq_k fun K1 hK1 => ?_
  refine AW.sreg rfl fun K hK => ?_; simp only [go_sem, ↓reduceIte]
  refine hK _ ?_; (try clear hK K)
  refine AW.condF rfl rfl (AW.skip (hK1 _ ?_))
  refine AW.seq_k fun K2 hK2 => ?_
  refine AW.sreg rfl fun K hK => ?_; simp only [go_sem, ↓reduceIte]
  refine hK _ ?_; (try clear hK K)
  refine AW.condF rfl rfl (AW.skip (hK2 _ ?_))
  refine AW.seq_k fun K3 hK3 => ?_
  refine AW.sreg rfl fun K hK => ?_; simp only [go_sem, ↓reduceIte]
  refine hK _ ?_; (try clear hK K)
  refine AW.cond rfl (fun h => ?_) (fun h => ?_)
  · have h := of_decide_eq_true h
    refine AW.sreg rfl fun K hK => ?_; simp only [go_sem, ↓reduceIte]
    exact hK _ (AW.ret (Fin.data rfl (by simp [go_sem, cmpI, h]) rfl))
  have h := of_decide_eq_false h
  refine AW.skip (hK3 _ ?_)
  refine AW.seq_k fun K4 hK4 => ?_
  refine AW.sreg rfl fun K hK => ?_; simp only [go_sem, ↓reduceIte]
  refine hK _ ?_; (try clear hK K)
  refine AW.cond rfl (fun h2 => ?_) (fun h2 => ?_)
  · have h2 : b < a := of_decide_eq_true h2
    refine AW.sreg rfl fun K hK => ?_; simp only [go_sem, ↓reduceIte]
    exact hK _ (AW.ret (Fin.data rfl (by simp [go_sem, cmpI, h, h2]) rfl))
  have h2 : ¬ b < a := of_decide_eq_false h2
  refine AW.skip (hK4 _ ?_)
  refine AW.sreg rfl fun K hK => ?_; simp only [go_sem, ↓reduceIte]
  exact hK _ (AW.ret (Fin.data rfl (by simp [go_sem, cmpI, h, h2]) rfl))
theorem cmpstr_ext (a b : List UInt8) (hv : Nat → Option O) (n : Nat) : CallStep Tryz.prog hv n 233 [S a, S b] (I (Lib.compareBytes a b)) [] :=
  extT_ok _ _ hv n _ _ [] (by kernel_rfl) hv (fun _ h => by cases h)
theorem compareString_any (a b : List UInt8) : Does Tryz.prog 162 [S a, S b] [] (I (Lib.compareBytes a b)) [] := by
  refine Does.of_AW (n := 8) Tryz.func162 rfl rfl rfl fun cx hcx => ?_
  repeat' (first | ((first | refine AW.sreg rfl fun K hK => ?_ | refine run_call _ _ _ (cmpstr_ext a b _ _) rfl rfl (dstOk_of rfl) rfl rfl rfl ?_); simp only [go_sem, ↓reduceIte]) | (refine hK _ ?_; clear hK K) | (refine AW.ret (Fin.data rfl (by first | (simp only [go_sem]; done) | (simp [go_sem, *]; done) | (simp [go_sem]; omega) | rfl) rfl)))
theorem compareStr_any (a b : List UInt8) : Does Tryz.prog 95 [S a, S b] [] (I (Lib.compareBytes a b)) [] := by
  refine Does.of_AW (n := 8) Tryz.func95 rfl rfl rfl fun cx hcx => ?_
  repeat' (first | ((first | refine AW.sreg rfl fun K hK => ?_ | refine run_call _ _ _ ((compareString_any a b).pure rfl rfl _ _) rfl rfl (dstOk_of rfl) rfl rfl rfl ?_); simp only [go_sem, ↓reduceIte]) | (refine hK _ ?_; clear hK K) | (refine AW.ret (Fin.data rfl (by first | (simp only [go_sem]; done) | (simp [go_sem, *]; done) | (simp [go_sem]; omega) | rfl) rfl)))
end Go.AX

namespace Go.AX
open Go Go.Proofs
section
variable {α : Type} (lt : α → α → Bool)
def insP : List α → α → List α → List α
  | [], x, q => x :: q
  | y :: pr, x, q => if lt x y = true then insP pr x (y :: q) else (y :: pr).reverse ++ x :: q
def isGo : List α → List α → List α
  | d, [] => d
  | d, x :: r => isGo (insP lt d.reverse x []) r
def isort (xs : List α) : List α := isGo lt (xs.take 1) (xs.drop 1)
theorem insP_perm : ∀ (pr : List α) (x : α) (q : List α), (insP lt pr x q).Perm (pr.reverse ++ x :: q)
  | [], x, q => by simp [insP]
  | y :: pr, x, q => by
    simp only [insP]
    split
    · refine (insP_perm pr x (y :: q)).trans ?_
      rw [List.reverse_cons, List.append_assoc]
      exact List.Perm.append_left _ (List.Perm.swap y x q)
    · exact List.Perm.refl _
theorem isGo_perm : ∀ (r d : List α), (isGo lt d r).Perm (d ++ r)
  | [], d => by simp [isGo]
  | x :: r, d => by
    simp only [isGo]
    refine (isGo_perm r _).trans ?_
    have := insP_perm lt d.reverse x []
    rw [List.reverse_reverse] at this
    refine (List.Perm.append_right r this).trans ?_
    simp
theorem isort_perm (xs : List α) : (isort lt xs).Perm xs := by
  refine (isGo_perm lt _ _).trans ?_
  rw [List.take_append_drop]
theorem dv_set1 (ys : List D) (i : Nat) (y : D) : (dv ys).set i (V.d y) = dv (ys.set i y) := by simp [dv, List.map_set]
end
section
variable {α : Type} {lt : α → α → Bool}
/-- Sorted: nothing that comes later is less. -/
def Sorted (lt : α → α → Bool) (l : List α) : Prop := l.Pairwise (fun a b => lt b a = false)
theorem insP_sorted (asym : ∀ a b, lt a b = true → lt b a = false) (tr : ∀ a b c, lt b a = false → lt c b = false → lt c a = false) : ∀ (pr : List α) (x : α) (q : List α), Sorted lt (pr.reverse ++ q) → (∀ y ∈ q, lt x y = true) → (∀ y ∈ q, ∀ z ∈ pr, lt y z = false) → Sorted lt (insP lt pr x q)
  | [], x, q, h, hq, _ => by
    simp only [insP]
    exact List.Pairwise.cons (fun y hy => asym _ _ (hq y hy)) (by simpa [Sorted] using h)
  | y :: pr, x, q, h, hq, hpq => by
    simp only [insP]
    split
    · rename_i hxy
      refine insP_sorted asym tr pr x (y :: q) (by simpa [Sorted] using h) ?_ ?_
      · intro z hz
        rcases List.mem_cons.1 hz with rfl | hz
        · exact hxy
        · exact hq z hz
      · intro z hz u hu
        rcases List.mem_cons.1 hz with rfl | hz
        · have h' : Sorted lt (pr.reverse ++ z :: q) := by simpa [Sorted] using h
          exact (List.pairwise_append.1 h').2.2 u (by simpa using hu) z (by simp)
        · exact hpq z hz u (by simp [hu])
    · rename_i hxy
      have hxy : lt x y = false := by simpa using hxy
      have h' := List.pairwise_append.1 h
      refine List.pairwise_append.2 ⟨h'.1, List.Pairwise.cons (fun z hz => asym _ _ (hq z hz)) h'.2.1, ?_⟩
      intro u hu z hz
      rcases List.mem_cons.1 hz with rfl | hz
      · rcases List.mem_cons.1 (List.mem_reverse.1 hu) with rfl | hu'
        · exact hxy
        · have : lt y u = false := by
            have h2 : Sorted lt (pr.reverse ++ y :: q) := by simpa [Sorted] using h
            exact (List.pairwise_append.1 h2).2.2 u (by simpa using hu') y (by simp)
          exact tr u y _ this hxy
      · exact h'.2.2 u hu z hz
theorem isGo_sorted (asym : ∀ a b, lt a b = true → lt b a = false) (tr : ∀ a b c, lt b a = false → lt c b = false → lt c a = false) : ∀ (r d : List α), Sorted lt d → Sorted lt (isGo lt d r)
  | [], d, h => by simpa [isGo] using h
  | x :: r, d, h => by
    simp only [isGo]
    refine isGo_sorted asym tr r _ (insP_sorted asym tr d.reverse x [] (by simpa using h) (by simp) (by simp))
theorem isort_sorted (asym : ∀ a b, lt a b = true → lt b a = false) (tr : ∀ a b c, lt b a = false → lt c b = false → lt c a = false) (xs : List α) : Sorted lt (isort lt xs) := by
  refine isGo_sorted asym tr _ _ ?_
  cases xs with
  | nil => exact List.Pairwise.nil
  | cons x xs => exact List.pairwise_singleton _ _
end
theorem take1_tail {α : Type} (l : List α) : l.take 1 ++ l.tail = l := by cases l <;> simp
theorem get_mid {α : Type} (a : List α) (x : α) (b : List α) : (a ++ x :: b)[a.length]? = some x := by simp
theorem set_mid {α : Type} : ∀ (a : List α) (x : α) (b : List α) (z : α), (a ++ x :: b).set a.length z = a ++ z :: b
  | [], _, _, _ => rfl
  | y :: a, x, b, z => by simp [set_mid a x b z]
theorem swap_mid {α : Type} (a : List α) (x y : α) (b : List α) : ((a ++ y :: x :: b).set (0 + (a.length + 1)) y).set (0 + a.length) x = a ++ x :: y :: b := by
  rw [Nat.zero_add, Nat.zero_add]
  have h := set_mid (a ++ [y]) x b y
  simp only [List.length_append, List.length_cons, List.length_nil, Nat.zero_add, List.append_assoc, List.cons_append, List.nil_append] at h
  rw [h, set_mid]
def idxG {α : Type} (q : α → Bool) : List α → Nat → Int
  | [], _ => -1
  | x :: r, i => if q x = true then i else idxG q r (i + 1)
theorem idxG_any {α : Type} (q : α → Bool) : ∀ (l : List α) (i : Nat), decide (0 ≤ idxG q l i) = l.any q
  | [], i => by simp [idxG]
  | x :: r, i => by
    simp only [idxG, List.any_cons]
    split
    · rename_i h; simp [h]
    · rename_i h; simp only [Bool.not_eq_true] at h; rw [h, Bool.false_or]; exact idxG_any q r (i + 1)
theorem wrap_small (n : Nat) (h : n ≤ 1000) : IntKind.u64.wrap (n : Int) = n := by
  have e : IntKind.u64.wrap (n : Int) = (n : Int) % 18446744073709551616 := by simp [IntKind.wrap, IntKind.signed, IntKind.bits]
  omega
def lens : List Int := [0, 1, 2, 2, 3, 3, 3, 3, 4, 4, 4, 4, 4]
theorem len_all : ((List.range 13).all fun n => evalsTo Tryz.prog (CS Tryz.prog) 146 [.d (.int .u64 (n : Nat))] (I (lens.getD n 0))) = true := by kernel_rfl
theorem len_ok (n : Nat) (h : n ≤ 12) : Does Tryz.prog 146 [.d (.int .u64 (n : Nat))] [] (I (lens.getD n 0)) [] := evalsTo_ok CS_ok hmix (List.all_eq_true.1 len_all n (List.mem_range.2 (by omega)))
end Go.AX

namespace Go.AX
open Go Go.Proofs
abbrev Pr := Str × Str
abbrev prD (p : Pr) : D := .agg [.str p.1, .str p.2]
def ctM {α : Type} [BEq α] (p : α) : List α → List α
  | [] => []
  | y :: r => if (y == p) = true then ctM y r else y :: ctM y r
def compactM {α : Type} [BEq α] : List α → List α
  | [] => []
  | x :: r => x :: ctM x r
theorem ctM_mem {α : Type} [BEq α] [LawfulBEq α] : ∀ (r : List α) (p x : α), x ∈ p :: ctM p r ↔ x ∈ p :: r
  | [], p, x => by simp [ctM]
  | y :: r, p, x => by
    have ih := ctM_mem r y x
    simp only [ctM]
    by_cases e : y = p
    · subst e
      simp only [beq_self_eq_true, if_true]
      rw [ih]; simp
    · rw [if_neg (by simpa using e)]
      rw [List.mem_cons, ih]
      simp
theorem compactM_mem {α : Type} [BEq α] [LawfulBEq α] (l : List α) (x : α) : x ∈ compactM l ↔ x ∈ l := by
  cases l with
  | nil => simp [compactM]
  | cons p r => exact ctM_mem r p x
theorem ctM_len {α : Type} [BEq α] : ∀ (r : List α) (p : α), (ctM p r).length ≤ r.length
  | [], _ => by simp [ctM]
  | y :: r, p => by
    have := ctM_len r y
    simp only [ctM]
    split
    · simp; omega
    · simp; omega
theorem compactM_len {α : Type} [BEq α] (l : List α) : (compactM l).length ≤ l.length := by
  cases l with
  | nil => simp [compactM]
  | cons p r => have := ctM_len r p; simp [compactM]; omega
theorem ctM_rise {α : Type} [BEq α] [LawfulBEq α] {lt : α → α → Bool} (tot : ∀ a b, lt a b = false → a ≠ b → lt b a = true) (tr : ∀ a b c, lt a b = true → lt b c = true → lt a c = true) : ∀ (r : List α) (p : α), Sorted lt (p :: r) →
    (ctM p r).Pairwise (fun a b => lt a b = true) ∧ ∀ y ∈ ctM p r, lt p y = true
  | [], p, _ => ⟨List.Pairwise.nil, by simp [ctM]⟩
  | y :: r, p, h => by
    have h' := List.pairwise_cons.1 h
    obtain ⟨i1, i2⟩ := ctM_rise tot tr r y h'.2
    simp only [ctM]
    by_cases e : y = p
    · subst e
      simp only [beq_self_eq_true, if_true]
      exact ⟨i1, i2⟩
    · rw [if_neg (by simpa using e)]
      have hp : lt p y = true := tot _ _ (h'.1 y (by simp)) e
      refine ⟨List.Pairwise.cons i2 i1, ?_⟩
      intro z hz
      rcases List.mem_cons.1 hz with rfl | hz
      · exact hp
      · exact tr _ _ _ hp (i2 z hz)
theorem compactM_rise {α : Type} [BEq α] [LawfulBEq α] {lt : α → α → Bool} (tot : ∀ a b, lt a b = false → a ≠ b → lt b a = true) (tr : ∀ a b c, lt a b = true → lt b c = true → lt a c = true) (l : List α) (h : Sorted lt l) : (compactM l).Pairwise (fun a b => lt a b = true) := by
  cases l with
  | nil => exact List.Pairwise.nil
  | cons p r =>
    obtain ⟨i1, i2⟩ := ctM_rise tot tr r p h
    exact List.Pairwise.cons i2 i1
theorem compact_Pr (xs : List (Pr)) (hl : xs.length ≤ 1000) :
    Does Tryz.prog 155 [.slr 0 0 xs.length] [.vec 40 2 (dv (xs.map prD))] (.slr 0 0 (compactM xs).length) [.vec 40 2 (dv ((compactM xs).map prD ++ List.replicate (xs.length - (compactM xs).length) (prD ([], []))))] := by
  cases xs with
  | nil =>
    refine Does.of_AW (n := 61) Tryz.func155 rfl rfl rfl fun cx hcx => ?_
    repeat' (first | (refine AW.sreg rfl fun K hK => ?_; simp only [go_sem, ↓reduceIte]) | (refine AW.seq_k fun K hK => ?_) | (refine AW.cT ?_) | (refine hK _ ?_; clear hK K))
    exact AW.ret (Fin.one rfl (by simp [go_sem, compactM]) ⟨_, rfl, by simp [go_sem, compactM]⟩ rfl (by simp [go_sem]) rfl)
  | cons x0 r0 =>
  generalize hxs : x0 :: r0 = xs at *
  refine Does.of_AW (n := 61) Tryz.func155 rfl rfl rfl fun cx hcx => ?_
  repeat' (first | (refine AW.sreg rfl fun K hK => ?_; simp only [go_sem, ↓reduceIte, List.length_map]) | (refine AW.seq_k fun K hK => ?_) | (refine AW.block ?_) | (refine AW.skip ?_; simp only [Then, InBlock]) | (refine AW.cond rfl (fun h => ?_) (fun h => ?_) <;> (try simp only [decide_eq_true_eq, decide_eq_false_iff_not, Bool.not_eq_true', Bool.not_eq_false', Bool.not_eq_eq_eq_not, Bool.not_true, Bool.not_false, beq_iff_eq, bne_iff_ne, beq_eq_false_iff_ne, ne_eq, Bool.and_eq_true, Bool.or_eq_true, Bool.or_eq_false_iff] at h)) | (refine hK _ ?_; clear hK K))
  · have : r0 = [] := by
      rw [← hxs] at h; cases r0 with
      | nil => rfl
      | cons => simp at h; omega
    subst this
    subst hxs
    exact AW.ret (Fin.one rfl (by simp [go_sem, compactM, ctM]) ⟨_, rfl, by simp [go_sem, compactM, ctM]⟩ rfl (by simp [go_sem]) rfl)
  refine AW.loopF (ι := Nat) [0] (fun p => [(3, I p)]) (fun p => [(0, some (O.vec 40 2 (dv (xs.map prD))))]) 1 (fun p => 1 ≤ p ∧ p ≤ xs.length ∧ ∀ y, xs[p - 1]? = some y → xs.take p ++ ctM y (xs.drop p) = compactM xs) (fun p => xs.length - p) 1 ⟨by simp, by omega, by rw [← hxs]; intro y hy; simp at hy; subst hy; simp [compactM]⟩ (Weak.aC hcx (by refine ⟨?_, ?_, ?_⟩ <;> simp [go_sem, gL, kL, renOf, V.obj, Nat.blt, Nat.ble, List.map_append, dv_push])) ?_; simp only [St.at_nil, St.at_cons, lk, Nat.reduceEqDiff, ↓reduceIte, Option.getD_some, Option.getD_none, List.cons_append, List.nil_append, List.append_nil]
  rintro k ⟨h1, h2, h3⟩
  by_cases hi : k < xs.length
  · obtain ⟨x, hx, hxm, hxd⟩ := get_some hi
    obtain ⟨y, hy, hym, hyd⟩ := get_some (show k - 1 < xs.length by omega)
    have hget : (dv (xs.map prD))[0 + k]? = some (.d (prD x)) := by simp only [dv, Nat.zero_add, List.getElem?_map, hx, Option.map_some]
    have hget2 : (dv (xs.map prD))[0 + ((k : Int) - 1).toNat]? = some (.d (prD y)) := by
      rw [show ((k : Int) - 1).toNat = k - 1 by omega]
      simp only [dv, Nat.zero_add, List.getElem?_map, hy, Option.map_some]
    have h3 := h3 y hy
    rw [hxd, ctM] at h3
    have heq : ((fun (x y : Pr) => x.1 == y.1 && x.2 == y.2) x y) = (x == y) := rfl
    dsimp only at heq
    cases hb : (x == y) with
    | false =>
      rw [hb] at heq h3
      simp only [Bool.false_eq_true, if_false] at h3
      repeat' (first | ((first | refine AW.sreg rfl fun K hK => ?_ | refine AW.sregD hmix rfl fun K hK => ?_ | refine AW.reg rfl ?_); simp only [go_sem, ↓reduceIte, List.length_map, hget, hget2, heq]) | (refine AW.seq_k fun K hK => ?_) | (refine AW.block ?_) | (refine AW.skip ?_; simp only [Then, InBlock]) | (refine AW.cT ?_) | (refine AW.cF ?_) | (refine hK _ ?_; clear hK K) | (with_reducible refine And.intro (?_ : regOk _ _ = true) ?_; kernel_rfl) | (with_reducible refine andI ?_))
      refine ⟨k + 1, ⟨by omega, hi, fun z hz => ?_⟩, by omega, (Weak.aC hcx (by refine ⟨?_, ?_, ?_⟩ <;> simp [go_sem, gL, kL, renOf, V.obj, Nat.blt, Nat.ble, List.map_append, dv_push]))⟩
      rw [Nat.add_sub_cancel, hx] at hz
      cases hz
      rw [← h3, List.take_add_one, hx]
      simp
    | true =>
      rw [hb] at heq h3
      simp only [if_true] at h3
      obtain rfl : x = y := by simpa using hb
      repeat' (first | ((first | refine AW.sreg rfl fun K hK => ?_ | refine AW.sregD hmix rfl fun K hK => ?_); simp only [go_sem, ↓reduceIte, List.length_map, hget, hget2, heq]) | (refine AW.seq_k fun K hK => ?_) | (refine AW.block ?_) | (refine AW.skip ?_; simp only [Then, InBlock]) | (refine AW.cT ?_) | (refine hK _ ?_; clear hK K) | (with_reducible refine And.intro (?_ : regOk _ _ = true) ?_; kernel_rfl) | (with_reducible refine andI ?_))
      refine AW.loopF (ι := Nat × List (Pr) × List (Pr) × Pr) [0, 4] (fun p => [(3, I p.2.1.length), (5, I p.1)]) (fun p => [(0, some (O.vec 40 2 (dv ((p.2.1 ++ (p.2.2.1 ++ p.2.2.2 :: xs.drop (k + p.1))).map prD))))]) 1 (fun p => 1 ≤ p.1 ∧ k + p.1 ≤ xs.length ∧ p.2.1.length + p.2.2.1.length + 1 = k + p.1 ∧ p.2.1 ++ ctM p.2.2.2 (xs.drop (k + p.1)) = compactM xs) (fun p => xs.length - p.1) (1, xs.take k, [], x) ⟨by simp, by simp only; omega, by simp; omega, h3⟩ (Weak.aC hcx (by refine ⟨?_, ?_, ?_⟩ <;> simp [go_sem, gL, kL, renOf, V.obj, Nat.blt, Nat.ble, List.map_append, dv_push, ← hxd, List.take_append_drop, Nat.min_eq_left (Nat.le_of_lt hi)])) ?_; simp only [St.at_nil, St.at_cons, lk, Nat.reduceEqDiff, ↓reduceIte, Option.getD_some, Option.getD_none, List.cons_append, List.nil_append, List.append_nil]
      rintro ⟨k2, A, G, y⟩ ⟨g1, g2, g3, g4⟩
      simp only at g1 g2 g3 g4 ⊢
      by_cases hj : k + k2 < xs.length
      · obtain ⟨z, hz, hzm, hzd⟩ := get_some hj
        have e1 : (dv ((A ++ (G ++ y :: xs.drop (k + k2))).map prD))[0 + k + k2]? = some (.d (prD z)) := by
          have : (A ++ (G ++ y :: xs.drop (k + k2)))[k + k2]? = some z := by
            rw [show A ++ (G ++ y :: xs.drop (k + k2)) = (A ++ (G ++ [y])) ++ xs.drop (k + k2) by simp, List.getElem?_append_right (by simp; omega), show k + k2 - (A ++ (G ++ [y])).length = 0 by simp; omega, hzd]
            rfl
          simp only [dv, Nat.zero_add, List.getElem?_map, this, Option.map_some]
        have e2 : (dv ((A ++ (G ++ y :: xs.drop (k + k2))).map prD))[0 + k + ((k2 : Int) - 1).toNat]? = some (.d (prD y)) := by
          have : (A ++ (G ++ y :: xs.drop (k + k2)))[k + ((k2 : Int) - 1).toNat]? = some y := by
            rw [show A ++ (G ++ y :: xs.drop (k + k2)) = (A ++ G) ++ (y :: xs.drop (k + k2)) by simp, List.getElem?_append_right (by simp; omega), show k + ((k2 : Int) - 1).toNat - (A ++ G).length = 0 by simp; omega]
            rfl
          simp only [dv, Nat.zero_add, List.getElem?_map, this, Option.map_some]
        have hlen : (A ++ (G ++ y :: xs.drop (k + k2))).length = xs.length := by simp; omega
        have heq2 : ((fun (x y : Pr) => x.1 == y.1 && x.2 == y.2) z y) = (z == y) := rfl
        dsimp only at heq2
        rw [hzd, ctM] at g4
        cases hb2 : (z == y) with
        | true =>
          rw [hb2] at heq2 g4
          simp only [if_true] at g4
          obtain rfl : z = y := by simpa using hb2
          repeat' (first | ((first | refine AW.sreg rfl fun K hK => ?_ | refine AW.sregD hmix rfl fun K hK => ?_ | refine AW.reg rfl ?_); simp only [go_sem, ↓reduceIte, List.length_map, e1, e2, heq2]) | (refine AW.seq_k fun K hK => ?_) | (refine AW.block ?_) | (refine AW.skip ?_; simp only [Then, InBlock]) | (refine AW.cT ?_) | (refine AW.cF ?_) | (refine hK _ ?_; clear hK K) | (with_reducible refine And.intro (?_ : regOk _ _ = true) ?_; kernel_rfl) | (with_reducible refine andI ?_))
          refine ⟨(k2 + 1, A, G ++ [z], z), ⟨by simp only; omega, by simp only; omega, by simp; omega, by simpa [Nat.add_assoc] using g4⟩, by simp only; omega, (Weak.aC hcx (by refine ⟨?_, ?_, ?_⟩ <;> simp [go_sem, gL, kL, renOf, V.obj, Nat.blt, Nat.ble, List.map_append, dv_push, hzd, Nat.add_assoc]))⟩
        | false =>
          rw [hb2] at heq2 g4
          simp only [Bool.false_eq_true, if_false] at g4
          rcases G with _ | ⟨g0, G⟩
          · have hset : (dv ((A ++ ([] ++ y :: xs.drop (k + k2))).map prD)).set (0 + A.length) (.d (prD z)) = dv (((A ++ [z]) ++ xs.drop (k + k2)).map prD) := by
              have := set_mid (dv (A.map prD)) (V.d (prD y)) (dv ((xs.drop (k + k2)).map prD)) (V.d (prD z))
              simpa [dv] using this
            simp only [List.nil_append, List.cons_append] at e1 e2 hset hlen
            have e3 : (dv ((A ++ y :: xs.drop (k + k2)).map prD))[0 + A.length]? = some (.d (prD y)) := by
              have := get_mid A y (xs.drop (k + k2))
              simp only [dv, Nat.zero_add, List.getElem?_map, this, Option.map_some]
            repeat' (first | ((first | refine AW.sreg rfl fun K hK => ?_ | refine AW.sregD hmix rfl fun K hK => ?_ | refine AW.reg rfl ?_); simp only [go_sem, ↓reduceIte, List.length_map, e1, e2, e3, heq2, hset]) | (refine AW.seq_k fun K hK => ?_) | (refine AW.block ?_) | (refine AW.skip ?_; simp only [Then, InBlock]) | (refine AW.cT ?_) | (refine hK _ ?_; clear hK K) | (with_reducible refine And.intro (?_ : regOk _ _ = true) ?_; kernel_rfl) | (with_reducible refine andI ?_))
            refine ⟨(k2 + 1, A ++ [z], [], z), ⟨by simp only; omega, by simp only; omega, by simp at g3 ⊢; omega, by simpa [Nat.add_assoc] using g4⟩, by simp only; omega, (Weak.aC hcx (by refine ⟨?_, ?_, ?_⟩ <;> simp [go_sem, gL, kL, renOf, V.obj, Nat.blt, Nat.ble, List.map_append, dv_push, hzd, Nat.add_assoc]))⟩
          · have hset : (dv ((A ++ ((g0 :: G) ++ y :: xs.drop (k + k2))).map prD)).set (0 + A.length) (.d (prD z)) = dv (((A ++ [z]) ++ (G ++ y :: xs.drop (k + k2))).map prD) := by
              have := set_mid (dv (A.map prD)) (V.d (prD g0)) (dv ((G ++ y :: xs.drop (k + k2)).map prD)) (V.d (prD z))
              simpa [dv] using this
            simp only [List.nil_append, List.cons_append] at e1 e2 hset hlen
            have e3 : (dv ((A ++ g0 :: (G ++ y :: xs.drop (k + k2))).map prD))[0 + A.length]? = some (.d (prD g0)) := by
              have := get_mid A g0 (G ++ y :: xs.drop (k + k2))
              simp only [dv, Nat.zero_add, List.getElem?_map, this, Option.map_some]
            repeat' (first | ((first | refine AW.sreg rfl fun K hK => ?_ | refine AW.sregD hmix rfl fun K hK => ?_ | refine AW.reg rfl ?_); simp only [go_sem, ↓reduceIte, List.length_map, e1, e2, e3, heq2, hset]) | (refine AW.seq_k fun K hK => ?_) | (refine AW.block ?_) | (refine AW.skip ?_; simp only [Then, InBlock]) | (refine AW.cT ?_) | (refine hK _ ?_; clear hK K) | (with_reducible refine And.intro (?_ : regOk _ _ = true) ?_; kernel_rfl) | (with_reducible refine andI ?_))
            refine ⟨(k2 + 1, A ++ [z], G ++ [y], z), ⟨by simp only; omega, by simp only; omega, by simp at g3 ⊢; omega, by simpa [Nat.add_assoc] using g4⟩, by simp only; omega, (Weak.aC hcx (by refine ⟨?_, ?_, ?_⟩ <;> simp [go_sem, gL, kL, renOf, V.obj, Nat.blt, Nat.ble, List.map_append, dv_push, hzd, Nat.add_assoc]))⟩
      · have hn : k + k2 = xs.length := by omega
        rw [hn, List.drop_length, ctM, List.append_nil] at g4
        subst g4
        have hcl : (dv ((compactM xs ++ (G ++ [y])).map prD)).take (0 + (compactM xs).length) ++ List.replicate (xs.length - (compactM xs).length) (V.d (prD ([], []))) ++ (dv ((compactM xs ++ (G ++ [y])).map prD)).drop (0 + (compactM xs).length + (xs.length - (compactM xs).length)) = dv ((compactM xs).map prD ++ List.replicate (xs.length - (compactM xs).length) (prD ([], []))) := by
          rw [List.drop_eq_nil_of_le (by simp [dv]; omega), List.append_nil]
          simp [dv]
        repeat' (first | (refine AW.sreg rfl fun K hK => ?_; simp only [go_sem, ↓reduceIte, List.length_map, hn, List.drop_length, hcl]) | (refine AW.seq_k fun K hK => ?_) | (refine AW.exit ?_; simp only [go_sem, ↓reduceIte]) | (refine AW.cF ?_) | (refine hK _ ?_; clear hK K) | (clear hK K; refine hK _ ?_; clear hK K) | (with_reducible refine andI ?_))
        exact AW.ret (Fin.one rfl (by simp [go_sem]) ⟨_, rfl, by simp [go_sem]⟩ rfl (by simp [go_sem]) rfl)
  · obtain rfl : k = xs.length := by omega
    obtain ⟨y, hy, -, -⟩ := get_some (show xs.length - 1 < xs.length by omega)
    replace h3 := h3 y hy
    simp only [List.take_length, List.drop_length, ctM, List.append_nil] at h3
    replace h3 := h3.symm
    clear hxs hy h1 h2
    repeat' (first | (refine AW.sreg rfl fun K hK => ?_; simp only [go_sem, ↓reduceIte, List.length_map]) | (refine AW.seq_k fun K hK => ?_) | (refine AW.exit ?_; simp only [go_sem, ↓reduceIte]) | (refine AW.cF ?_) | (refine hK _ ?_; clear hK K) | (clear hK K; refine hK _ ?_; clear hK K))
    exact AW.ret (Fin.one rfl (by simp [go_sem, h3]) ⟨_, rfl, by simp [go_sem, h3]⟩ rfl (by simp [go_sem]) rfl)

end Go.AX

namespace Go.AX
open Go Go.Proofs
def cpP (a b : Pr) : Int := if Lib.compareBytes a.1 b.1 ≠ 0 then Lib.compareBytes a.1 b.1 else Lib.compareBytes a.2 b.2
def ltP (a b : Pr) : Bool := ltS a.1 b.1 || (a.1 == b.1 && ltS a.2 b.2)
theorem cpP_lt (a b : Pr) : decide (cpP a b < 0) = ltP a b := by
  unfold cpP ltP
  have h1 := cmpB_lt a.1 b.1
  have h2 := cmpB_lt a.2 b.2
  have h3 := cmpB_eq a.1 b.1
  split
  · rename_i h
    have : a.1 ≠ b.1 := fun e => h (h3.2 e)
    rw [h1]; simp [this]
  · rename_i h
    simp only [ne_eq, Decidable.not_not] at h
    rw [h2, h3.1 h, ltS_irrefl]; simp
theorem ltP_iff (a b : Pr) : ltP a b = true ↔ ltS a.1 b.1 = true ∨ (a.1 = b.1 ∧ ltS a.2 b.2 = true) := by simp [ltP]
theorem ltP_irrefl (a : Pr) : ltP a a = false := by simp [ltP, ltS_irrefl]
theorem ltP_trans {a b c : Pr} (h1 : ltP a b = true) (h2 : ltP b c = true) : ltP a c = true := by
  rw [ltP_iff] at *
  rcases h1 with h1 | ⟨e1, h1⟩ <;> rcases h2 with h2 | ⟨e2, h2⟩
  · exact .inl (ltS_trans h1 h2)
  · exact .inl (by rw [← e2]; exact h1)
  · exact .inl (by rw [e1]; exact h2)
  · exact .inr ⟨e1.trans e2, ltS_trans h1 h2⟩
theorem ltP_total {a b : Pr} (h : ltP a b = false) (hne : a ≠ b) : ltP b a = true := by
  have h' : ¬ ltP a b = true := by rw [h]; simp
  rw [ltP_iff] at *
  by_cases e : a.1 = b.1
  · refine .inr ⟨e.symm, ltS_total ?_ fun e2 => hne (Prod.ext e e2)⟩
    cases hl : ltS a.2 b.2 with
    | false => rfl
    | true => exact absurd (.inr ⟨e, hl⟩) h'
  · refine .inl (ltS_total ?_ e)
    cases hl : ltS a.1 b.1 with
    | false => rfl
    | true => exact absurd (.inl hl) h'
theorem ltP_ntr (a b c : Pr) (h1 : ltP b a = false) (h2 : ltP c b = false) : ltP c a = false := by
  cases h : ltP c a with
  | false => rfl
  | true =>
    by_cases e : b = c
    · subst e; rw [h] at h1; cases h1
    · have := ltP_total h2 (Ne.symm e)
      have := ltP_trans this h
      rw [h1] at this; cases this
theorem comparePairs_any (a b : Pr) : Does Tryz.prog 98 [.d (prD a), .d (prD b)] [] (I (cpP a b)) [] := by
  refine Does.of_AW (n := 19) Tryz.func98 rfl rfl rfl fun cx hcx => ?_
  by_cases h : Lib.compareBytes a.1 b.1 = 0
  · rw [show cpP a b = Lib.compareBytes a.2 b.2 from if_neg (by simp [h])]
    repeat' (first | ((first | refine AW.sreg rfl fun K hK => ?_ | refine run_call _ _ _ ((compareStr_any _ _).pure rfl rfl _ _) rfl rfl (dstOk_of rfl) rfl rfl rfl ?_); simp only [go_sem, ↓reduceIte]) | (refine AW.seq_k fun K hK => ?_) | (refine AW.skip ?_; simp only [Then, InBlock]) | (refine AW.cF ?_) | (refine hK _ ?_; clear hK K) | (refine AW.ret (Fin.data rfl (by first | (simp only [go_sem]; done) | (simp [go_sem, *]; done) | (simp [go_sem]; omega) | rfl) rfl)))
  · rw [show cpP a b = Lib.compareBytes a.1 b.1 from if_pos h]
    repeat' (first | ((first | refine AW.sreg rfl fun K hK => ?_ | refine run_call _ _ _ ((compareStr_any _ _).pure rfl rfl _ _) rfl rfl (dstOk_of rfl) rfl rfl rfl ?_); simp only [go_sem, ↓reduceIte]) | (refine AW.seq_k fun K hK => ?_) | (refine AW.cT ?_) | (refine hK _ ?_; clear hK K) | (refine AW.ret (Fin.data rfl (by first | (simp only [go_sem]; done) | (simp [go_sem, *]; done) | (simp [go_sem]; omega) | rfl) rfl)))
theorem isNaN_str (x : Str) : Does Tryz.prog 262 [S x] [] (B false) [] := by
  refine Does.of_AW (n := 6) Tryz.func262 rfl rfl rfl fun cx hcx => ?_
  repeat' (first | (refine AW.sreg rfl fun K hK => ?_; simp only [go_sem, ↓reduceIte]) | (refine hK _ ?_; clear hK K) | (refine AW.ret (Fin.data rfl (by first | (simp only [go_sem]; done) | (simp [go_sem, *]; done) | (simp [go_sem]; omega) | rfl) rfl)))
theorem compare_str (x y : Str) : Does Tryz.prog 200 [S x, S y] [] (I (Lib.compareBytes x y)) [] := by
  have hl : ∀ a b, Op.bytesLess a b = ltS a b := fun _ _ => rfl
  rcases cmpB_cases x y with ⟨h1, h2, h3⟩ | ⟨h1, h2, h3⟩ | ⟨h2, h3⟩
  · rw [h3]
    refine Does.of_AW (n := 20) Tryz.func200 rfl rfl rfl fun cx hcx => ?_
    repeat' (first | ((first | refine AW.sreg rfl fun K hK => ?_ | refine run_call _ _ _ ((isNaN_str _).pure rfl rfl _ _) rfl rfl (dstOk_of rfl) rfl rfl rfl ?_); simp only [go_sem, ↓reduceIte, hl, h1, h2]) | (refine AW.seq_k fun K hK => ?_) | (refine AW.skip ?_; simp only [Then, InBlock]) | (refine AW.cT ?_) | (refine AW.cF ?_) | (refine hK _ ?_; clear hK K) | (refine AW.ret (Fin.data rfl (by first | (simp only [go_sem]; done) | (simp [go_sem, *]; done) | (simp [go_sem]; omega) | rfl) rfl)))
  · rw [h3]
    refine Does.of_AW (n := 20) Tryz.func200 rfl rfl rfl fun cx hcx => ?_
    repeat' (first | ((first | refine AW.sreg rfl fun K hK => ?_ | refine run_call _ _ _ ((isNaN_str _).pure rfl rfl _ _) rfl rfl (dstOk_of rfl) rfl rfl rfl ?_); simp only [go_sem, ↓reduceIte, hl, h1, h2, Bool.or_false]) | (refine AW.seq_k fun K hK => ?_) | (refine AW.skip ?_; simp only [Then, InBlock]) | (refine AW.cT ?_) | (refine AW.cF ?_) | (refine hK _ ?_; clear hK K) | (refine AW.ret (Fin.data rfl (by first | (simp only [go_sem]; done) | (simp [go_sem, *]; done) | (simp [go_sem]; omega) | rfl) rfl)))
  · rw [h3]
    subst h2
    refine Does.of_AW (n := 20) Tryz.func200 rfl rfl rfl fun cx hcx => ?_
    repeat' (first | ((first | refine AW.sreg rfl fun K hK => ?_ | refine run_call _ _ _ ((isNaN_str _).pure rfl rfl _ _) rfl rfl (dstOk_of rfl) rfl rfl rfl ?_); simp only [go_sem, ↓reduceIte, hl, ltS_irrefl, Bool.or_true]) | (refine AW.seq_k fun K hK => ?_) | (refine AW.skip ?_; simp only [Then, InBlock]) | (refine AW.cF ?_) | (refine hK _ ?_; clear hK K) | (refine AW.ret (Fin.data rfl (by first | (simp only [go_sem]; done) | (simp [go_sem, *]; done) | (simp [go_sem]; omega) | rfl) rfl)))
theorem compare2_any (a b c d : Str) : Does Tryz.prog 136 [.d (.sl [.str a, .str b]), .d (.sl [.str c, .str d])] [] (I (cpP (a, b) (c, d))) [] := by
  refine Does.of_AW (n := 36) Tryz.func136 rfl rfl rfl fun cx hcx => ?_
  unfold cpP
  by_cases h : Lib.compareBytes a c = 0
  · rw [if_neg (by simp [h])]
    by_cases h2 : Lib.compareBytes b d = 0
    · rw [h2]
      repeat' (first | ((first | refine AW.sreg rfl fun K hK => ?_ | refine AW.reg rfl ?_ | refine run_call _ _ _ ((compare_str _ _).pure rfl rfl _ _) rfl rfl (dstOk_of rfl) rfl rfl rfl ?_); simp only [go_sem, ↓reduceIte, h, h2, Int.zero_add, Int.reduceAdd]) | (refine AW.seq_k fun K hK => ?_) | (refine AW.block ?_) | (refine AW.skip ?_; simp only [Then, InBlock]) | (refine AW.exit ?_; simp only [go_sem, ↓reduceIte]) | (refine AW.cT ?_) | (refine AW.cF ?_) | (refine hK _ ?_; clear hK K) | (clear hK K; refine hK _ ?_; clear hK K) | (refine AW.unroll 3 ?_; simp only [AWr]) | (with_reducible refine andI ?_) | (refine AW.ret (Fin.data rfl (by first | (simp only [go_sem]; done) | (simp [go_sem, *]; done) | (simp [go_sem]; omega) | rfl) rfl)))
    · repeat' (first | ((first | refine AW.sreg rfl fun K hK => ?_ | refine AW.reg rfl ?_ | refine run_call _ _ _ ((compare_str _ _).pure rfl rfl _ _) rfl rfl (dstOk_of rfl) rfl rfl rfl ?_); simp only [go_sem, ↓reduceIte, h, Int.zero_add, Int.reduceAdd]) | (refine AW.seq_k fun K hK => ?_) | (refine AW.block ?_) | (refine AW.skip ?_; simp only [Then, InBlock]) | (refine AW.cT ?_) | (refine AW.cF ?_) | (refine hK _ ?_; clear hK K) | (refine AW.unroll 3 ?_; simp only [AWr]) | (with_reducible refine andI ?_) | (refine AW.ret (Fin.data rfl (by first | (simp only [go_sem]; done) | (simp [go_sem, *]; done) | (simp [go_sem]; omega) | rfl) rfl)))
  · rw [if_pos h]
    repeat' (first | ((first | refine AW.sreg rfl fun K hK => ?_ | refine run_call _ _ _ ((compare_str _ _).pure rfl rfl _ _) rfl rfl (dstOk_of rfl) rfl rfl rfl ?_); simp only [go_sem, ↓reduceIte, Int.zero_add, Int.reduceAdd]) | (refine AW.seq_k fun K hK => ?_) | (refine AW.block ?_) | (refine AW.skip ?_; simp only [Then, InBlock]) | (refine AW.cT ?_) | (refine AW.cF ?_) | (refine hK _ ?_; clear hK K) | (refine AW.unroll 3 ?_; simp only [AWr]) | (with_reducible refine andI ?_) | (refine AW.ret (Fin.data rfl (by first | (simp only [go_sem]; done) | (simp [go_sem, *]; done) | (simp [go_sem]; omega) | rfl) rfl)))
theorem pairOrder_any (a b : Pr) : Does Tryz.prog 154 [.d (prD a), .d (prD b)] [] (I (cpP a b)) [] := by
  refine Does.of_AW (n := 16) Tryz.func154 rfl rfl rfl fun cx hcx => ?_
  repeat' (first | ((first | refine AW.sreg rfl fun K hK => ?_ | refine run_call _ _ _ ((compare2_any a.1 a.2 b.1 b.2).borrow rfl rfl rfl) rfl rfl (dstOk_of rfl) rfl rfl rfl ?_); simp only [go_sem, ↓reduceIte]) | (refine hK _ ?_; clear hK K) | (refine AW.ret (Fin.data rfl (by first | (simp only [go_sem]; done) | (simp [go_sem, *]; done) | (simp [go_sem]; omega) | rfl) rfl)))
end Go.AX

namespace Go.AX
open Go Go.Proofs
end Go.AX

namespace Go.AX
open Go Go.Proofs
def RiseP (xs : List Pr) : Prop := xs.Pairwise (fun a b => ltP a b = true)
end Go.AX

namespace Go.AX
open Go Go.Proofs
end Go.AX

namespace Go.AX
open Go Go.Proofs Go.RowKit
end Go.AX
