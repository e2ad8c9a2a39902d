/- What papers are ordered by, in all five ways: plain laws. -/
import Derived.Test.YtmcchfkclhpbhaaGreatDoorVE
set_option linter.unusedSimpArgs false
set_option linter.unusedVariables false
set_option linter.unnecessarySimpa false
set_option maxRecDepth 1000000
set_option maxHeartbeats 4000000
namespace Go.AX
open Go Go.Proofs Go.RowKit
theorem In10.at {zs : List Int} (h : In10 zs) {i : Nat} (hi : i < zs.length) : 0 ≤ zs[i]! ∧ zs[i]! ≤ 10 := by
  rw [getElem!_pos zs i hi]
  exact h _ (List.getElem_mem hi)
/-- Twice the median. -/
def mdF (l : List Mk) : Int := (srtI (scs l))[(l.length - 1) / 2]! + (srtI (scs l))[l.length / 2]!
theorem mdF_bd {l : List Mk} (h : In10 (scs l)) (hl : 1 ≤ l.length) : 0 ≤ mdF l ∧ mdF l ≤ 20 := by
  have hsl := (srtI_perm (scs l)).length_eq
  rw [scs_len] at hsl
  have hsi : In10 (srtI (scs l)) := fun x hx => h x ((srtI_perm _).mem_iff.1 hx)
  have h1 := hsi.at (i := (l.length - 1) / 2) (by omega)
  have h2 := hsi.at (i := l.length / 2) (by omega)
  unfold mdF
  omega
def mdV (ms : List Mk) (p : Str) : Vl := ((mdF (gP ms p), 1), mnF ms p)
theorem mdV_ok {ms : List Mk} (hl : ms.length ≤ 1000) (h : In10 (scs ms)) (p : Str) (hp : 1 ≤ (gP ms p).length) : VlOk (mdV ms p) := by
  have hm := mnV_ok hl h p hp
  have hb := mdF_bd (gP_in h p) hp
  obtain ⟨m1, m2, -, -⟩ := hm
  exact ⟨by simp only [mdV]; omega, by simp [mdV], m1, m2⟩
/-- Points of one mark against another one. -/
def ptS (p : Str) (x : Mk) (a : Int × Int) (o : Mk) : Int × Int := if (o.1 == p) = true then a else (a.1 + 1 + cmpI x.2.2 o.2.2, a.2 + 1)
def ptI (p : Str) (x : Mk) (l : List Mk) (a : Int × Int) : Int × Int := l.foldl (ptS p x) a
def ptO (ms : List Mk) (p : Str) (l : List Mk) (a : Int × Int) : Int × Int := l.foldl (fun a x => ptI p x (gQ ms x.2.1) a) a
def ptF (ms : List Mk) (p : Str) : Int × Int := ptO ms p (gP ms p) (0, 0)
theorem ptI_snoc {p : Str} {x : Mk} {l : List Mk} {i : Nat} {o : Mk} (a : Int × Int) (h : l[i]? = some o) : ptI p x (l.take (i + 1)) a = ptS p x (ptI p x (l.take i) a) o := by
  rw [take_snoc h, ptI, List.foldl_append]; rfl
theorem ptO_snoc {ms : List Mk} {p : Str} {l : List Mk} {i : Nat} {x : Mk} (a : Int × Int) (h : l[i]? = some x) : ptO ms p (l.take (i + 1)) a = ptI p x (gQ ms x.2.1) (ptO ms p (l.take i) a) := by
  rw [take_snoc h, ptO, List.foldl_append]; rfl
def PtB (a : Int × Int) (n : Nat) : Prop := 0 ≤ a.2 ∧ a.2 ≤ n ∧ 0 ≤ a.1 ∧ a.1 ≤ 2 * a.2
theorem cmpI_bd (a b : Int) : -1 ≤ cmpI a b ∧ cmpI a b ≤ 1 := by unfold cmpI; split <;> (try split) <;> omega
theorem ptI_bd {p : Str} {x : Mk} : ∀ (l : List Mk) {a : Int × Int} {n : Nat}, PtB a n → PtB (ptI p x l a) (n + l.length)
  | [], a, n, h => h
  | o :: l, a, n, h => by
    have h1 : PtB (ptS p x a o) (n + 1) := by
      have := cmpI_bd x.2.2 o.2.2
      unfold ptS
      unfold PtB at *
      split
      · omega
      · simp only; omega
    have h2 := ptI_bd (p := p) (x := x) l h1
    rw [List.length_cons, show n + (l.length + 1) = n + 1 + l.length by omega]
    exact h2
theorem ptO_bd {ms : List Mk} {p : Str} : ∀ (l : List Mk) {a : Int × Int} {n : Nat}, PtB a n → PtB (ptO ms p l a) (n + l.length * ms.length)
  | [], a, n, h => by simpa [ptO] using h
  | x :: l, a, n, h => by
    have h1 := ptI_bd (p := p) (x := x) (gQ ms x.2.1) h
    have h2 := ptO_bd (ms := ms) (p := p) l h1
    have h3 := gQ_len ms x.2.1
    have e : (l.length + 1) * ms.length = l.length * ms.length + ms.length := Nat.succ_mul _ _
    have h4 : PtB (ptO ms p l (ptI p x (gQ ms x.2.1) a)) (n + (x :: l).length * ms.length) := by
      rw [List.length_cons, e]
      unfold PtB at *
      omega
    exact h4
theorem mul_42 {a b : Nat} (ha : a ≤ 42) (hb : b ≤ 42) : a * b ≤ 1764 := Nat.mul_le_mul ha hb
theorem ptF_bd {ms : List Mk} (hl : ms.length ≤ 42) (p : Str) {i : Nat} (hi : i ≤ 42) : PtB (ptO ms p ((gP ms p).take i) (0, 0)) 1764 := by
  have h1 : PtB ((0, 0) : Int × Int) 0 := by simp [PtB]
  have h2 := ptO_bd (ms := ms) (p := p) ((gP ms p).take i) h1
  have h3 : ((gP ms p).take i).length ≤ 42 := by rw [List.length_take]; omega
  have h4 := mul_42 h3 hl
  unfold PtB at *
  omega
def ptV (ms : List Mk) (p : Str) : Vl := (low (ptF ms p).1 (if (ptF ms p).2 < 1 then 1 else (ptF ms p).2), (0, 1))
theorem ptV_ok {ms : List Mk} (hl : ms.length ≤ 42) (p : Str) : VlOk (ptV ms p) := by
  have hg := gP_len ms p
  have h0 := ptF_bd hl p (i := (gP ms p).length) (by omega)
  rw [List.take_length] at h0
  change PtB (ptF ms p) 1764 at h0
  obtain ⟨a1, a2, a3, a4⟩ := h0
  have hm : 1 ≤ (if (ptF ms p).2 < 1 then 1 else (ptF ms p).2) ∧ (if (ptF ms p).2 < 1 then 1 else (ptF ms p).2) ≤ 1764 ∧ (ptF ms p).1 ≤ 2 * (if (ptF ms p).2 < 1 then 1 else (ptF ms p).2) := by split <;> omega
  generalize hd : (if (ptF ms p).2 < 1 then 1 else (ptF ms p).2) = d at *
  have h1 := low_num (a := (ptF ms p).1) (b := d) (c := 2) (by omega) a3 (by omega) (by omega)
  have h2 := low_den (a := (ptF ms p).1) (b := d) (by omega)
  refine ⟨?_, ?_, by simp [ptV], by simp [ptV]⟩
  · simp only [ptV, hd]; omega
  · simp only [ptV, hd]; omega
/-- How many persons gave the first paper more. -/
def wnS (x : Mk) (a : Int) (y : Mk) : Int := if (x.2.1 == y.2.1) = true ∧ y.2.2 < x.2.2 then a + 1 else a
def wnI (x : Mk) (l : List Mk) (a : Int) : Int := l.foldl (wnS x) a
def wnO (r : List Mk) (l : List Mk) (a : Int) : Int := l.foldl (fun a x => wnI x r a) a
def wnF (ms : List Mk) (p q : Str) : Int := wnO (gP ms q) (gP ms p) 0
theorem wnI_snoc {x : Mk} {l : List Mk} {i : Nat} {o : Mk} (a : Int) (h : l[i]? = some o) : wnI x (l.take (i + 1)) a = wnS x (wnI x (l.take i) a) o := by
  rw [take_snoc h, wnI, List.foldl_append]; rfl
theorem wnO_snoc {r : List Mk} {l : List Mk} {i : Nat} {x : Mk} (a : Int) (h : l[i]? = some x) : wnO r (l.take (i + 1)) a = wnI x r (wnO r (l.take i) a) := by
  rw [take_snoc h, wnO, List.foldl_append]; rfl
theorem wnI_bd {x : Mk} : ∀ (l : List Mk) {a : Int} {n : Nat}, (0 ≤ a ∧ a ≤ n) → 0 ≤ wnI x l a ∧ wnI x l a ≤ (n + l.length : Nat)
  | [], a, n, h => h
  | o :: l, a, n, h => by
    have h1 : 0 ≤ wnS x a o ∧ wnS x a o ≤ (n + 1 : Nat) := by
      unfold wnS
      split <;> omega
    have h2 := wnI_bd (x := x) l h1
    rw [List.length_cons, show n + (l.length + 1) = n + 1 + l.length by omega]
    exact h2
theorem wnO_bd {r : List Mk} : ∀ (l : List Mk) {a : Int} {n : Nat}, (0 ≤ a ∧ a ≤ n) → 0 ≤ wnO r l a ∧ wnO r l a ≤ (n + l.length * r.length : Nat)
  | [], a, n, h => by simpa [wnO] using h
  | x :: l, a, n, h => by
    have h1 := wnI_bd (x := x) r h
    have h2 := wnO_bd (r := r) l h1
    have e : (l.length + 1) * r.length = l.length * r.length + r.length := Nat.succ_mul _ _
    rw [List.length_cons, e, show n + (l.length * r.length + r.length) = n + r.length + l.length * r.length by omega]
    exact h2
theorem wnT_bd {r l : List Mk} (hr : r.length ≤ 42) (hl : l.length ≤ 42) : 0 ≤ wnO r l 0 ∧ wnO r l 0 ≤ 1764 := by
  have h := wnO_bd (r := r) l (a := 0) (n := 0) ⟨by omega, by omega⟩
  have := mul_42 hl hr
  omega
/-- Against how many papers one has more wins, less against how many it has fewer. -/
def blS (ms : List Mk) (a : Str) (n : Int) (b : Str) : Int := n + cmpI (wnF ms a b) (wnF ms b a)
def blF (ms : List Mk) (ps : List Str) (a : Str) : Int := ps.foldl (blS ms a) 0
theorem blF_snoc {ms : List Mk} {ps : List Str} {a : Str} {i : Nat} {b : Str} (h : ps[i]? = some b) : blF ms (ps.take (i + 1)) a = blF ms (ps.take i) a + cmpI (wnF ms a b) (wnF ms b a) := by
  rw [take_snoc h, blF, List.foldl_append]; rfl
theorem bl_bd {ms : List Mk} {a : Str} : ∀ (ps : List Str) {n : Int} {k : Nat}, (-(k : Int) ≤ n ∧ n ≤ k) → -((k + ps.length : Nat) : Int) ≤ ps.foldl (blS ms a) n ∧ ps.foldl (blS ms a) n ≤ (k + ps.length : Nat)
  | [], n, k, h => h
  | b :: ps, n, k, h => by
    have h0 := cmpI_bd (wnF ms a b) (wnF ms b a)
    have h1 : -((k + 1 : Nat) : Int) ≤ blS ms a n b ∧ blS ms a n b ≤ (k + 1 : Nat) := by unfold blS; omega
    have h2 := bl_bd (ms := ms) (a := a) ps h1
    rw [List.length_cons, show k + (ps.length + 1) = k + 1 + ps.length by omega]
    exact h2
theorem blF_bd {ms : List Mk} {a : Str} (ps : List Str) (h : ps.length ≤ 1000) : -1000 ≤ blF ms ps a ∧ blF ms ps a ≤ 1000 := by
  have := bl_bd (ms := ms) (a := a) ps (n := 0) (k := 0) ⟨by omega, by omega⟩
  unfold blF
  omega
def wnV (ms : List Mk) (p : Str) : Vl := ((blF ms (pps ms) p, 1), (0, 1))
theorem wnV_ok {ms : List Mk} (p : Str) (h : (pps ms).length ≤ 1000) : VlOk (wnV ms p) := by
  have := blF_bd (ms := ms) (a := p) (pps ms) h
  exact ⟨by simp only [wnV]; omega, by simp [wnV], by simp [wnV], by simp [wnV]⟩
/-- The mean in millionths of what is above something. -/
def rsF (f : Mk → Int) (l : List Mk) : Int := l.foldl (fun a m => a + (1000000 * m.2.2 - f m)) 0
def rdF (f : Mk → Int) (l : List Mk) : Int := rsF f l / l.length
theorem rsF_snoc {f : Mk → Int} {l : List Mk} {i : Nat} {x : Mk} (h : l[i]? = some x) : rsF f (l.take (i + 1)) = rsF f (l.take i) + (1000000 * x.2.2 - f x) := by
  rw [take_snoc h, rsF, List.foldl_append]; rfl
theorem rs_go {f : Mk → Int} {C : Int} : ∀ (l : List Mk), In10 (scs l) → (∀ m ∈ l, -C ≤ f m ∧ f m ≤ C) → ∀ (a : Int) (n : Nat), SumOk n a (C + 10000000) → SumOk (n + l.length) (l.foldl (fun a m => a + (1000000 * m.2.2 - f m)) a) (C + 10000000)
  | [], _, _, a, n, h => h
  | x :: l, h10, hf, a, n, h => by
    have hx := hf x (by simp)
    have hs := h10 x.2.2 (by simp [scs])
    have h1 := h.add (v := 1000000 * x.2.2 - f x) (by omega)
    have h2 := rs_go (f := f) (C := C) l (fun y hy => h10 y (by simp only [scs, List.map_cons] at hy ⊢; exact List.mem_cons_of_mem _ hy)) (fun m hm => hf m (List.mem_cons_of_mem _ hm)) _ _ h1
    rw [List.length_cons, show n + (l.length + 1) = n + 1 + l.length by omega]
    exact h2
theorem rsF_ok {f : Mk → Int} {C : Int} {l : List Mk} (h10 : In10 (scs l)) (hf : ∀ m ∈ l, -C ≤ f m ∧ f m ≤ C) : SumOk l.length (rsF f l) (C + 10000000) := by
  have := rs_go (f := f) (C := C) l h10 hf 0 0 (SumOk.zero _)
  rw [Nat.zero_add] at this
  exact this
theorem rdF_bd {f : Mk → Int} {C : Int} {l : List Mk} (hC : 0 ≤ C) (h10 : In10 (scs l)) (hf : ∀ m ∈ l, -C ≤ f m ∧ f m ≤ C) : -(C + 10000000) ≤ rdF f l ∧ rdF f l ≤ C + 10000000 := by
  have h := rsF_ok h10 hf
  unfold rdF
  rcases l with _ | ⟨x, l⟩
  · simp [rsF]; omega
  · exact ediv_bd (by simp only [List.length_cons]; omega) h.1 h.2
theorem gQ_in {ms : List Mk} (h : In10 (scs ms)) (p : Str) : In10 (scs (gQ ms p)) := by
  intro x hx
  obtain ⟨m, hm, rfl⟩ := List.mem_map.1 hx
  exact h _ (List.mem_map_of_mem (List.mem_filter.1 hm).1)
/-- Biases after some rounds, and worths in a round. -/
def blB (ms : List Mk) : Nat → Str → Int
  | 0 => fun _ => 0
  | t + 1 => fun h => rdF (fun m => rdF (fun m => blB ms t m.2.1) (gP ms m.1)) (gQ ms h)
def blW (ms : List Mk) (t : Nat) (p : Str) : Int := rdF (fun m => blB ms t m.2.1) (gP ms p)
theorem blB_succ (ms : List Mk) (t : Nat) (h : Str) : blB ms (t + 1) h = rdF (fun m => blW ms t m.1) (gQ ms h) := rfl
theorem blB_bd {ms : List Mk} (h10 : In10 (scs ms)) : ∀ (t : Nat) (h : Str), -((t : Int) * 20000000) ≤ blB ms t h ∧ blB ms t h ≤ (t : Int) * 20000000
  | 0, h => by simp [blB]
  | t + 1, h => by
    have h1 : ∀ p, -((t : Int) * 20000000 + 10000000) ≤ blW ms t p ∧ blW ms t p ≤ (t : Int) * 20000000 + 10000000 := fun p => rdF_bd (by omega) (gP_in h10 p) fun m _ => blB_bd h10 t m.2.1
    have h2 := rdF_bd (f := fun m => blW ms t m.1) (C := (t : Int) * 20000000 + 10000000) (l := gQ ms h) (by omega) (gQ_in h10 h) fun m _ => h1 m.1
    rw [blB_succ]
    have e : ((t + 1 : Nat) : Int) * 20000000 = (t : Int) * 20000000 + 20000000 := by omega
    omega
theorem blW_bd {ms : List Mk} (h10 : In10 (scs ms)) (t : Nat) (p : Str) : -((t : Int) * 20000000 + 10000000) ≤ blW ms t p ∧ blW ms t p ≤ (t : Int) * 20000000 + 10000000 := rdF_bd (by omega) (gP_in h10 p) fun m _ => blB_bd h10 t m.2.1
def bcV (ms : List Mk) (p : Str) : Vl := ((blW ms 19 p, 1), (0, 1))
theorem bcV_ok {ms : List Mk} (h10 : In10 (scs ms)) (p : Str) : VlOk (bcV ms p) := by
  have := blW_bd h10 19 p
  exact ⟨by simp only [bcV]; omega, by simp [bcV], by simp [bcV], by simp [bcV]⟩
/-- What a map of lists holds at a place. -/
theorem MapK.idx {KS : List Str} {VS : List D} {L : Str → List Mk} (h : MapK KS VS L) {j : Nat} {p : Str} (hj : KS[j]? = some p) : (VS.map V.d)[j]? = some (.d (.sl ((L p).map mkD))) ∧ L p ≠ [] := by
  have hf := fnd_at h.nd hj
  have hne := (h.mem p).1 (List.mem_of_getElem? hj)
  rcases h.find p with ⟨h1, -⟩ | ⟨i, h1, h2⟩
  · rw [hf] at h1; cases h1
  · rw [hf] at h1
    obtain rfl : j = i := by simpa using h1
    exact ⟨h2, hne⟩
/-- How papers are valued in each way. -/
def vwF (how : Int) (ms : List Mk) : Str → Vl := if how = 1 then mnV ms else if how = 2 then mdV ms else if how = 3 then ptV ms else if how = 4 then wnV ms else bcV ms
end Go.AX

namespace Go.AX
open Go Go.Proofs Go.RowKit
theorem whole_any (n : Int) : Does Tryz.prog 112 [I n] [] (.d (Fr n 1)) [] := by
  refine Does.of_AW (n := 5) Tryz.func112 rfl rfl rfl fun cx hcx => ?_
  repeat' (first | (refine AW.sreg rfl fun K hK => ?_; simp only [go_sem, Nat.reduceAdd, Nat.reduceMul, Int.reduceToNat, Nat.reduceLT, Nat.reduceLeDiff, Nat.le_refl, Nat.reduceEqDiff, ↓reduceIte, beq_self_eq_true, bne_self_eq_false, Int.reduceBEq, Int.reduceBNe, or_self, true_or, or_true, Option.map_some, Option.map_none]) | (refine hK _ ?_; clear hK K))
  exact AW.ret (Fin.data rfl (by simp [go_sem, fr_size]) rfl)
theorem median_any (ms : List Mk) (hl : ms.length ≤ 1000) (hp : 1 ≤ ms.length) (hi : In10 (scs ms)) : Does Tryz.prog 113 [.d (.sl (ms.map mkD))] [] (I (mdF ms)) [] := by
  have h3 := sortInts_does (scs ms) (by rw [scs_len]; omega)
  rw [scs_len] at h3
  have hsl := (srtI_perm (scs ms)).length_eq
  rw [scs_len] at hsl
  have hsi : In10 (srtI (scs ms)) := fun x hx => hi x ((srtI_perm _).mem_iff.1 hx)
  refine Does.of_AW (n := 34) Tryz.func113 rfl rfl rfl fun cx hcx => ?_
  repeat' (first | (refine AW.sreg rfl fun K hK => ?_; simp only [go_sem, Nat.reduceAdd, Nat.reduceMul, Int.reduceToNat, Nat.reduceLT, Nat.reduceLeDiff, Nat.le_refl, Nat.reduceEqDiff, ↓reduceIte, beq_self_eq_true, bne_self_eq_false, Int.reduceBEq, Int.reduceBNe, or_self, true_or, or_true, Option.map_some, Option.map_none, List.length_map]) | (refine AW.seq_k fun K hK => ?_) | (refine AW.block ?_) | (refine hK _ ?_; clear hK K))
  refine AW.weak (Weak.nil 3 3 1 rfl) ?_
  refine AW.loopF (ι := Nat) [6, 7] (fun p => [(3, .slr 320 0 p), (8, I p)]) (fun p => [(320, some (IW (scs (ms.take p))))]) 6 (fun p => p ≤ ms.length) (fun p => ms.length - p) 0 (Nat.zero_le _) (Weak.auto hcx rfl rfl (Nat.le_of_ble_eq_true rfl) (by simp [go_sem, gL, kL, renOf, V.obj, lk, Nat.blt, Nat.ble, List.map_append, dv_push, List.take_zero, List.map_nil, scs, dvz]) (by simp [go_sem, gL, kL, renOf, V.obj, lk, Nat.blt, Nat.ble, List.map_append, dv_push, List.take_zero, List.map_nil, scs, dvz]) (by first | (intro i hi; exact absurd hi (Nat.not_lt_zero _)) | (intro i0 hi0; match i0, hi0 with | 0, _ => exact ⟨_, rfl⟩ | n0+1, h0 => exact absurd h0 (Nat.not_lt.2 (Nat.le_add_left 1 n0))) | (intro i0 hi0; match i0, hi0 with | 0, _ => exact ⟨_, rfl⟩ | 1, _ => exact ⟨_, rfl⟩ | n0+2, h0 => exact absurd h0 (Nat.not_lt.2 (Nat.le_add_left 2 n0))) | (intro i0 hi0; match i0, hi0 with | 0, _ => exact ⟨_, rfl⟩ | 1, _ => exact ⟨_, rfl⟩ | 2, _ => exact ⟨_, rfl⟩ | n0+3, h0 => exact absurd h0 (Nat.not_lt.2 (Nat.le_add_left 3 n0))) | (intro i0 hi0; match i0, hi0 with | 0, _ => exact ⟨_, rfl⟩ | 1, _ => exact ⟨_, rfl⟩ | 2, _ => exact ⟨_, rfl⟩ | 3, _ => exact ⟨_, rfl⟩ | n0+4, h0 => exact absurd h0 (Nat.not_lt.2 (Nat.le_add_left 4 n0)))) (by simp [go_sem, gL, kL, lk, renOf, V.obj, Nat.blt, Nat.ble, List.take_zero, List.map_nil, scs, dvz])) ?_; simp only [St.at_nil, St.at_cons, lk, Nat.reduceEqDiff, ↓reduceIte, Option.getD_some, Option.getD_none, List.cons_append, List.nil_append, List.append_nil]
  intro i h1
  by_cases hi : i < ms.length
  · obtain ⟨x, hx, hxm, -⟩ := get_some hi
    have hget : (ms.map mkD)[i]? = some (mkD x) := by simp only [List.getElem?_map, hx, Option.map_some]
    have e2 := scs_snoc hx
    have hln : (scs (ms.take i)).length = i := by rw [scs_len, List.length_take]; omega
    generalize scs (ms.take i) = zs at *
    have htl : List.take i (dv (zs.map (D.int .i64))) = dv (zs.map (D.int .i64)) := List.take_of_length_le (by simp [dv]; omega)
    repeat' (first | ((first | refine AW.sreg rfl fun K hK => ?_ | refine AW.reg rfl ?_); simp only [go_sem, Nat.reduceAdd, Nat.reduceMul, Int.reduceToNat, Nat.reduceLT, Nat.reduceLeDiff, Nat.le_refl, Nat.reduceEqDiff, ↓reduceIte, beq_self_eq_true, bne_self_eq_false, Int.reduceBEq, Int.reduceBNe, or_self, true_or, or_true, Option.map_some, Option.map_none, List.length_map, hget, htl, dv_length]) | (refine AW.seq_k fun K hK => ?_) | (refine AW.block ?_) | (refine AW.skip ?_; simp only [Then, InBlock]) | (refine AW.condT rfl (by first | rfl | (simp; omega) | (simp [*]; done) | fail) ?_) | (refine hK _ ?_; clear hK K) | (with_reducible refine And.intro ?_ ?_; first | omega | assumption | (focus (decide)) | (focus (simp; done)) | (focus (simp; omega)) | (focus (constructor <;> omega)) | fail))
    exact ⟨i + 1, hi, by omega, (Weak.auto hcx rfl rfl (Nat.le_of_ble_eq_true rfl) (by simp [go_sem, gL, kL, renOf, V.obj, lk, Nat.blt, Nat.ble, List.map_append, dv_push, e2]) (by simp [go_sem, gL, kL, renOf, V.obj, lk, Nat.blt, Nat.ble, List.map_append, dv_push, e2]) (by first | (intro i hi; exact absurd hi (Nat.not_lt_zero _)) | (intro i0 hi0; match i0, hi0 with | 0, _ => exact ⟨_, rfl⟩ | n0+1, h0 => exact absurd h0 (Nat.not_lt.2 (Nat.le_add_left 1 n0))) | (intro i0 hi0; match i0, hi0 with | 0, _ => exact ⟨_, rfl⟩ | 1, _ => exact ⟨_, rfl⟩ | n0+2, h0 => exact absurd h0 (Nat.not_lt.2 (Nat.le_add_left 2 n0))) | (intro i0 hi0; match i0, hi0 with | 0, _ => exact ⟨_, rfl⟩ | 1, _ => exact ⟨_, rfl⟩ | 2, _ => exact ⟨_, rfl⟩ | n0+3, h0 => exact absurd h0 (Nat.not_lt.2 (Nat.le_add_left 3 n0))) | (intro i0 hi0; match i0, hi0 with | 0, _ => exact ⟨_, rfl⟩ | 1, _ => exact ⟨_, rfl⟩ | 2, _ => exact ⟨_, rfl⟩ | 3, _ => exact ⟨_, rfl⟩ | n0+4, h0 => exact absurd h0 (Nat.not_lt.2 (Nat.le_add_left 4 n0)))) (by simp [go_sem, gL, kL, lk, renOf, V.obj, Nat.blt, Nat.ble, e2]))⟩
  · obtain rfl : i = ms.length := by omega
    rw [List.take_length]
    have g1 := hsi.at (i := (ms.length - 1) / 2) (by omega)
    have g2 := hsi.at (i := ms.length / 2) (by omega)
    have e1 : ((srtI (scs ms)).map (D.int .i64))[(ms.length - 1) / 2]? = some (.int .i64 (srtI (scs ms))[(ms.length - 1) / 2]!) := by
      rw [List.getElem?_map, List.getElem?_eq_getElem (by omega), getElem!_pos _ _ (by omega)]; rfl
    have e2 : ((srtI (scs ms)).map (D.int .i64))[ms.length / 2]? = some (.int .i64 (srtI (scs ms))[ms.length / 2]!) := by
      rw [List.getElem?_map, List.getElem?_eq_getElem (by omega), getElem!_pos _ _ (by omega)]; rfl
    have q1 : (dv ((srtI (scs ms)).map (D.int .i64)))[(ms.length - 1) / 2]? = some (.d (.int .i64 (srtI (scs ms))[(ms.length - 1) / 2]!)) := by rw [dv, List.getElem?_map, e1]; rfl
    have q2 : (dv ((srtI (scs ms)).map (D.int .i64)))[ms.length / 2]? = some (.d (.int .i64 (srtI (scs ms))[ms.length / 2]!)) := by rw [dv, List.getElem?_map, e2]; rfl
    have hmd : mdF ms = (srtI (scs ms))[(ms.length - 1) / 2]! + (srtI (scs ms))[ms.length / 2]! := rfl
    generalize (srtI (scs ms))[(ms.length - 1) / 2]! = u at *
    generalize (srtI (scs ms))[ms.length / 2]! = v at *
    have ht1 : ((ms.length : Int) - 1).tdiv 2 = (((ms.length - 1) / 2 : Nat) : Int) := by rw [Int.tdiv_eq_ediv_of_nonneg (by omega)]; omega
    have ht2 : (ms.length : Int).tdiv 2 = ((ms.length / 2 : Nat) : Int) := by rw [Int.tdiv_eq_ediv_of_nonneg (by omega)]; omega
    have hb1 : (ms.length - 1) / 2 < ms.length := by omega
    have hb2 : ms.length / 2 < ms.length := by omega
    generalize (ms.length - 1) / 2 = k1 at *
    generalize ms.length / 2 = k2 at *
    repeat' (first | ((first | refine AW.sreg rfl fun K hK => ?_ | refine AW.sregD hmix rfl fun K hK => ?_ | refine run_call _ _ _ ((h3).objs [_] ⟨rfl, trivial⟩ rfl (by decide) (by simp [go_sem, renOs]) (by simp) (by simp) (by simp [go_sem]) (by simp [go_sem]) (by simp [go_sem]) (by simp [go_sem])) rfl rfl (dstOk_of rfl) rfl rfl rfl ?_); simp only [go_sem, Nat.reduceAdd, Nat.reduceMul, Int.reduceToNat, Nat.reduceLT, Nat.reduceLeDiff, Nat.le_refl, Nat.reduceEqDiff, ↓reduceIte, beq_self_eq_true, bne_self_eq_false, Int.reduceBEq, Int.reduceBNe, or_self, true_or, or_true, Option.map_some, Option.map_none, List.length_map, Nat.reduceSub, Nat.add_zero, Nat.zero_add, ht1, ht2, Int.toNat_natCast, q1, q2]) | (refine AW.seq_k fun K hK => ?_) | (refine AW.exit ?_; simp only [go_sem, ↓reduceIte]) | (refine AW.condF rfl (by first | rfl | (simp; omega) | (simp [*]; done) | fail) ?_) | (refine hK _ ?_; clear hK K) | (clear hK K; refine hK _ ?_; clear hK K) | (with_reducible refine And.intro (?_ : regOk _ _ = true) ?_; kernel_rfl) | (with_reducible refine And.intro ?_ ?_; first | omega | assumption | (focus (decide)) | (focus (simp; done)) | (focus (simp; omega)) | (focus (constructor <;> omega)) | fail))
    exact AW.ret (Fin.data rfl (by simp [go_sem, hmd]) rfl)
theorem points_any (ms : List Mk) (hl : ms.length ≤ 42) (q : (List Str × List D) × (List Str × List D)) (hq : ShOk ms q) (pa : Str) (hpa : pa ∈ q.1.1) : Does Tryz.prog 114 [shV ms q, S pa] [] (.tup [I (ptF ms pa).1, I (ptF ms pa).2]) [] := by
  have hgl := gP_len ms pa
  obtain ⟨z, hf, hg⟩ := hq.at hpa
  unfold ptF
  refine Does.of_AW (n := 53) Tryz.func114 rfl rfl rfl fun cx hcx => ?_
  repeat' (first | (refine AW.sreg rfl fun K hK => ?_; simp only [go_sem, Nat.reduceAdd, Nat.reduceMul, Int.reduceToNat, Nat.reduceLT, Nat.reduceLeDiff, Nat.le_refl, Nat.reduceEqDiff, ↓reduceIte, beq_self_eq_true, bne_self_eq_false, Int.reduceBEq, Int.reduceBNe, or_self, true_or, or_true, Option.map_some, Option.map_none, hf, hg, List.length_map]) | (refine AW.seq_k fun K hK => ?_) | (refine AW.block ?_) | (refine hK _ ?_; clear hK K))
  refine AW.loopF (ι := Nat) [0, 1, 15, 16] (fun p => [(4, I (ptO ms pa ((gP ms pa).take p) (0, 0)).1), (5, I (ptO ms pa ((gP ms pa).take p) (0, 0)).2), (17, I p)]) (fun p => []) 12 (fun p => p ≤ (gP ms pa).length) (fun p => (gP ms pa).length - p) 0 (Nat.zero_le _) (Weak.auto hcx rfl rfl (Nat.le_of_ble_eq_true rfl) (by simp [go_sem, gL, kL, renOf, V.obj, lk, Nat.blt, Nat.ble, List.map_append, dv_push, List.take_zero, ptO, List.foldl_nil]) (by simp [go_sem, gL, kL, renOf, V.obj, lk, Nat.blt, Nat.ble, List.map_append, dv_push, List.take_zero, ptO, List.foldl_nil]) (by first | (intro i hi; exact absurd hi (Nat.not_lt_zero _)) | (intro i0 hi0; match i0, hi0 with | 0, _ => exact ⟨_, rfl⟩ | n0+1, h0 => exact absurd h0 (Nat.not_lt.2 (Nat.le_add_left 1 n0))) | (intro i0 hi0; match i0, hi0 with | 0, _ => exact ⟨_, rfl⟩ | 1, _ => exact ⟨_, rfl⟩ | n0+2, h0 => exact absurd h0 (Nat.not_lt.2 (Nat.le_add_left 2 n0))) | (intro i0 hi0; match i0, hi0 with | 0, _ => exact ⟨_, rfl⟩ | 1, _ => exact ⟨_, rfl⟩ | 2, _ => exact ⟨_, rfl⟩ | n0+3, h0 => exact absurd h0 (Nat.not_lt.2 (Nat.le_add_left 3 n0))) | (intro i0 hi0; match i0, hi0 with | 0, _ => exact ⟨_, rfl⟩ | 1, _ => exact ⟨_, rfl⟩ | 2, _ => exact ⟨_, rfl⟩ | 3, _ => exact ⟨_, rfl⟩ | n0+4, h0 => exact absurd h0 (Nat.not_lt.2 (Nat.le_add_left 4 n0)))) (by simp [go_sem, gL, kL, lk, renOf, V.obj, Nat.blt, Nat.ble, List.take_zero, ptO, List.foldl_nil])) ?_; simp only [St.at_nil, St.at_cons, lk, Nat.reduceEqDiff, ↓reduceIte, Option.getD_some, Option.getD_none, List.cons_append, List.nil_append, List.append_nil]
  intro i h1
  have hb0 := ptF_bd hl pa (i := i) (by omega)
  by_cases hi : i < (gP ms pa).length
  · obtain ⟨x, hx, hxm, -⟩ := get_some hi
    have hget : ((gP ms pa).map mkD)[i]? = some (mkD x) := by simp only [List.getElem?_map, hx, Option.map_some]
    have hxx := mem_gP.1 hxm
    have hqm : x ∈ gQ ms x.2.1 := List.mem_filter.2 ⟨hxx.1, by simp⟩
    have hsn := ptO_snoc (ms := ms) (p := pa) (0, 0) hx
    rcases hq.pe.find x.2.1 with ⟨-, hz⟩ | ⟨z2, hf2, hg2⟩
    · rw [hz] at hqm; cases hqm
    have hgq := gQ_len ms x.2.1
    generalize ptO ms pa ((gP ms pa).take i) (0, 0) = a at *
    repeat' (first | ((first | refine AW.sreg rfl fun K hK => ?_ | refine AW.sregD hmix rfl fun K hK => ?_); simp only [go_sem, Nat.reduceAdd, Nat.reduceMul, Int.reduceToNat, Nat.reduceLT, Nat.reduceLeDiff, Nat.le_refl, Nat.reduceEqDiff, ↓reduceIte, beq_self_eq_true, bne_self_eq_false, Int.reduceBEq, Int.reduceBNe, or_self, true_or, or_true, Option.map_some, Option.map_none, hget, hf2, hg2, List.length_map]) | (refine AW.seq_k fun K hK => ?_) | (refine AW.block ?_) | (refine AW.skip ?_; simp only [Then, InBlock]) | (refine AW.condT rfl (by first | rfl | (simp; omega) | (simp [*]; done) | fail) ?_) | (refine hK _ ?_; clear hK K) | (with_reducible refine And.intro (?_ : regOk _ _ = true) ?_; kernel_rfl) | (with_reducible refine And.intro ?_ ?_; first | omega | assumption | (focus (decide)) | (focus (simp; done)) | (focus (simp; omega)) | (focus (constructor <;> omega)) | fail))
    refine AW.loopF (ι := Nat) [0, 1, 7, 15, 16, 17, 28, 29] (fun p => [(4, I (ptI pa x ((gQ ms x.2.1).take p) a).1), (5, I (ptI pa x ((gQ ms x.2.1).take p) a).2), (30, I p)]) (fun p => [(960, some (O.box 39 [S x.1, S x.2.1, I x.2.2]))]) 27 (fun p => p ≤ (gQ ms x.2.1).length) (fun p => (gQ ms x.2.1).length - p) 0 (Nat.zero_le _) (Weak.auto hcx rfl rfl (Nat.le_of_ble_eq_true rfl) (by simp [go_sem, gL, kL, renOf, V.obj, lk, Nat.blt, Nat.ble, List.map_append, dv_push, List.take_zero, ptI, List.foldl_nil]) (by simp [go_sem, gL, kL, renOf, V.obj, lk, Nat.blt, Nat.ble, List.map_append, dv_push, List.take_zero, ptI, List.foldl_nil]) (by first | (intro i hi; exact absurd hi (Nat.not_lt_zero _)) | (intro i0 hi0; match i0, hi0 with | 0, _ => exact ⟨_, rfl⟩ | n0+1, h0 => exact absurd h0 (Nat.not_lt.2 (Nat.le_add_left 1 n0))) | (intro i0 hi0; match i0, hi0 with | 0, _ => exact ⟨_, rfl⟩ | 1, _ => exact ⟨_, rfl⟩ | n0+2, h0 => exact absurd h0 (Nat.not_lt.2 (Nat.le_add_left 2 n0))) | (intro i0 hi0; match i0, hi0 with | 0, _ => exact ⟨_, rfl⟩ | 1, _ => exact ⟨_, rfl⟩ | 2, _ => exact ⟨_, rfl⟩ | n0+3, h0 => exact absurd h0 (Nat.not_lt.2 (Nat.le_add_left 3 n0))) | (intro i0 hi0; match i0, hi0 with | 0, _ => exact ⟨_, rfl⟩ | 1, _ => exact ⟨_, rfl⟩ | 2, _ => exact ⟨_, rfl⟩ | 3, _ => exact ⟨_, rfl⟩ | n0+4, h0 => exact absurd h0 (Nat.not_lt.2 (Nat.le_add_left 4 n0)))) (by simp [go_sem, gL, kL, lk, renOf, V.obj, Nat.blt, Nat.ble, List.take_zero, ptI, List.foldl_nil])) ?_; simp only [St.at_nil, St.at_cons, lk, Nat.reduceEqDiff, ↓reduceIte, Option.getD_some, Option.getD_none, List.cons_append, List.nil_append, List.append_nil]
    intro k h2
    have hb1 := ptI_bd (p := pa) (x := x) ((gQ ms x.2.1).take k) hb0
    rw [List.length_take] at hb1
    by_cases hk : k < (gQ ms x.2.1).length
    · obtain ⟨o, ho, hom, -⟩ := get_some hk
      have hget2 : ((gQ ms x.2.1).map mkD)[k]? = some (mkD o) := by simp only [List.getElem?_map, ho, Option.map_some]
      have hs2 := ptI_snoc (p := pa) (x := x) a ho
      generalize ptI pa x ((gQ ms x.2.1).take k) a = b at *
      obtain ⟨b1, b2⟩ := b
      obtain ⟨c1, c2, c3, c4⟩ := hb1
      simp only at c1 c2 c3 c4 ⊢
      cases hb : (o.1 == pa) with
      | true =>
        have e : ptI pa x ((gQ ms x.2.1).take (k + 1)) a = (b1, b2) := by rw [hs2, ptS, if_pos hb]
        repeat' (first | ((first | refine AW.sreg rfl fun K hK => ?_ | refine AW.reg rfl ?_); simp only [go_sem, Nat.reduceAdd, Nat.reduceMul, Int.reduceToNat, Nat.reduceLT, Nat.reduceLeDiff, Nat.le_refl, Nat.reduceEqDiff, ↓reduceIte, beq_self_eq_true, bne_self_eq_false, Int.reduceBEq, Int.reduceBNe, or_self, true_or, or_true, Option.map_some, Option.map_none, hget2, hb, List.length_map]) | (refine AW.seq_k fun K hK => ?_) | (refine AW.block ?_) | (refine AW.skip ?_; simp only [Then, InBlock]) | (refine AW.condT rfl (by first | rfl | (simp; omega) | (simp [*]; done) | fail) ?_) | (refine AW.condF rfl (by first | rfl | (simp; omega) | (simp [*]; done) | fail) ?_) | (refine hK _ ?_; clear hK K) | (with_reducible refine And.intro ?_ ?_; first | omega | assumption | (focus (decide)) | (focus (simp; done)) | (focus (simp; omega)) | (focus (constructor <;> omega)) | fail))
        exact ⟨k + 1, hk, by omega, (Weak.auto hcx rfl rfl (Nat.le_of_ble_eq_true rfl) (by simp [go_sem, gL, kL, renOf, V.obj, lk, Nat.blt, Nat.ble, List.map_append, dv_push, e]) (by simp [go_sem, gL, kL, renOf, V.obj, lk, Nat.blt, Nat.ble, List.map_append, dv_push, e]) (by first | (intro i hi; exact absurd hi (Nat.not_lt_zero _)) | (intro i0 hi0; match i0, hi0 with | 0, _ => exact ⟨_, rfl⟩ | n0+1, h0 => exact absurd h0 (Nat.not_lt.2 (Nat.le_add_left 1 n0))) | (intro i0 hi0; match i0, hi0 with | 0, _ => exact ⟨_, rfl⟩ | 1, _ => exact ⟨_, rfl⟩ | n0+2, h0 => exact absurd h0 (Nat.not_lt.2 (Nat.le_add_left 2 n0))) | (intro i0 hi0; match i0, hi0 with | 0, _ => exact ⟨_, rfl⟩ | 1, _ => exact ⟨_, rfl⟩ | 2, _ => exact ⟨_, rfl⟩ | n0+3, h0 => exact absurd h0 (Nat.not_lt.2 (Nat.le_add_left 3 n0))) | (intro i0 hi0; match i0, hi0 with | 0, _ => exact ⟨_, rfl⟩ | 1, _ => exact ⟨_, rfl⟩ | 2, _ => exact ⟨_, rfl⟩ | 3, _ => exact ⟨_, rfl⟩ | n0+4, h0 => exact absurd h0 (Nat.not_lt.2 (Nat.le_add_left 4 n0)))) (by simp [go_sem, gL, kL, lk, renOf, V.obj, Nat.blt, Nat.ble, e]))⟩
      | false =>
        have e : ptI pa x ((gQ ms x.2.1).take (k + 1)) a = (b1 + 1 + cmpI x.2.2 o.2.2, b2 + 1) := by rw [hs2, ptS, if_neg (by simp [hb])]
        have hc := cmpI_bd x.2.2 o.2.2
        have hci := compare_int x.2.2 o.2.2
        generalize cmpI x.2.2 o.2.2 = cv at *
        repeat' (first | ((first | refine AW.sreg rfl fun K hK => ?_ | refine AW.reg rfl ?_ | refine run_call _ _ _ ((hci).pure rfl rfl _ _) rfl rfl (dstOk_of rfl) rfl rfl rfl ?_); simp only [go_sem, Nat.reduceAdd, Nat.reduceMul, Int.reduceToNat, Nat.reduceLT, Nat.reduceLeDiff, Nat.le_refl, Nat.reduceEqDiff, ↓reduceIte, beq_self_eq_true, bne_self_eq_false, Int.reduceBEq, Int.reduceBNe, or_self, true_or, or_true, Option.map_some, Option.map_none, hget2, hb, List.length_map]) | (refine AW.seq_k fun K hK => ?_) | (refine AW.block ?_) | (refine AW.skip ?_; simp only [Then, InBlock]) | (refine AW.condT rfl (by first | rfl | (simp; omega) | (simp [*]; done) | fail) ?_) | (refine hK _ ?_; clear hK K) | (with_reducible refine And.intro ?_ ?_; first | omega | assumption | (focus (decide)) | (focus (simp; done)) | (focus (simp; omega)) | (focus (constructor <;> omega)) | fail))
        exact ⟨k + 1, hk, by omega, (Weak.auto hcx rfl rfl (Nat.le_of_ble_eq_true rfl) (by simp [go_sem, gL, kL, renOf, V.obj, lk, Nat.blt, Nat.ble, List.map_append, dv_push, e]) (by simp [go_sem, gL, kL, renOf, V.obj, lk, Nat.blt, Nat.ble, List.map_append, dv_push, e]) (by first | (intro i hi; exact absurd hi (Nat.not_lt_zero _)) | (intro i0 hi0; match i0, hi0 with | 0, _ => exact ⟨_, rfl⟩ | n0+1, h0 => exact absurd h0 (Nat.not_lt.2 (Nat.le_add_left 1 n0))) | (intro i0 hi0; match i0, hi0 with | 0, _ => exact ⟨_, rfl⟩ | 1, _ => exact ⟨_, rfl⟩ | n0+2, h0 => exact absurd h0 (Nat.not_lt.2 (Nat.le_add_left 2 n0))) | (intro i0 hi0; match i0, hi0 with | 0, _ => exact ⟨_, rfl⟩ | 1, _ => exact ⟨_, rfl⟩ | 2, _ => exact ⟨_, rfl⟩ | n0+3, h0 => exact absurd h0 (Nat.not_lt.2 (Nat.le_add_left 3 n0))) | (intro i0 hi0; match i0, hi0 with | 0, _ => exact ⟨_, rfl⟩ | 1, _ => exact ⟨_, rfl⟩ | 2, _ => exact ⟨_, rfl⟩ | 3, _ => exact ⟨_, rfl⟩ | n0+4, h0 => exact absurd h0 (Nat.not_lt.2 (Nat.le_add_left 4 n0)))) (by simp [go_sem, gL, kL, lk, renOf, V.obj, Nat.blt, Nat.ble, e]))⟩
    · obtain rfl : k = (gQ ms x.2.1).length := by omega
      rw [List.take_length]
      repeat' (first | ((first | refine AW.sreg rfl fun K hK => ?_ | refine AW.reg rfl ?_); simp only [go_sem, Nat.reduceAdd, Nat.reduceMul, Int.reduceToNat, Nat.reduceLT, Nat.reduceLeDiff, Nat.le_refl, Nat.reduceEqDiff, ↓reduceIte, beq_self_eq_true, bne_self_eq_false, Int.reduceBEq, Int.reduceBNe, or_self, true_or, or_true, Option.map_some, Option.map_none, List.length_map]) | (refine AW.seq_k fun K hK => ?_) | (refine AW.exit ?_; simp only [go_sem, ↓reduceIte]) | (refine AW.condF rfl (by first | rfl | (simp; omega) | (simp [*]; done) | fail) ?_) | (refine hK _ ?_; clear hK K) | (clear hK K; refine hK _ ?_; clear hK K) | (with_reducible refine And.intro ?_ ?_; first | omega | assumption | (focus (decide)) | (focus (simp; done)) | (focus (simp; omega)) | (focus (constructor <;> omega)) | fail))
      exact ⟨i + 1, hi, by omega, (Weak.auto hcx rfl rfl (Nat.le_of_ble_eq_true rfl) (by simp [go_sem, gL, kL, renOf, V.obj, lk, Nat.blt, Nat.ble, List.map_append, dv_push, hsn]) (by simp [go_sem, gL, kL, renOf, V.obj, lk, Nat.blt, Nat.ble, List.map_append, dv_push, hsn]) (by first | (intro i hi; exact absurd hi (Nat.not_lt_zero _)) | (intro i0 hi0; match i0, hi0 with | 0, _ => exact ⟨_, rfl⟩ | n0+1, h0 => exact absurd h0 (Nat.not_lt.2 (Nat.le_add_left 1 n0))) | (intro i0 hi0; match i0, hi0 with | 0, _ => exact ⟨_, rfl⟩ | 1, _ => exact ⟨_, rfl⟩ | n0+2, h0 => exact absurd h0 (Nat.not_lt.2 (Nat.le_add_left 2 n0))) | (intro i0 hi0; match i0, hi0 with | 0, _ => exact ⟨_, rfl⟩ | 1, _ => exact ⟨_, rfl⟩ | 2, _ => exact ⟨_, rfl⟩ | n0+3, h0 => exact absurd h0 (Nat.not_lt.2 (Nat.le_add_left 3 n0))) | (intro i0 hi0; match i0, hi0 with | 0, _ => exact ⟨_, rfl⟩ | 1, _ => exact ⟨_, rfl⟩ | 2, _ => exact ⟨_, rfl⟩ | 3, _ => exact ⟨_, rfl⟩ | n0+4, h0 => exact absurd h0 (Nat.not_lt.2 (Nat.le_add_left 4 n0)))) (by simp [go_sem, gL, kL, lk, renOf, V.obj, Nat.blt, Nat.ble, hsn]))⟩
  · obtain rfl : i = (gP ms pa).length := by omega
    rw [List.take_length]
    repeat' (first | (refine AW.sreg rfl fun K hK => ?_; simp only [go_sem, Nat.reduceAdd, Nat.reduceMul, Int.reduceToNat, Nat.reduceLT, Nat.reduceLeDiff, Nat.le_refl, Nat.reduceEqDiff, ↓reduceIte, beq_self_eq_true, bne_self_eq_false, Int.reduceBEq, Int.reduceBNe, or_self, true_or, or_true, Option.map_some, Option.map_none, List.length_map]) | (refine AW.seq_k fun K hK => ?_) | (refine AW.exit ?_; simp only [go_sem, ↓reduceIte]) | (refine AW.condF rfl (by first | rfl | (simp; omega) | (simp [*]; done) | fail) ?_) | (refine hK _ ?_; clear hK K) | (clear hK K; refine hK _ ?_; clear hK K))
    exact AW.ret (Fin.data rfl (by simp [go_sem]) rfl)
theorem wins_any (ms : List Mk) (hl : ms.length ≤ 42) (q : (List Str × List D) × (List Str × List D)) (hq : ShOk ms q) (pa pb : Str) (hpa : pa ∈ q.1.1) (hpb : pb ∈ q.1.1) : Does Tryz.prog 70 [shV ms q, S pa, S pb] [] (I (wnF ms pa pb)) [] := by
  have hgl := gP_len ms pa
  have hgr := gP_len ms pb
  obtain ⟨z, hf, hg⟩ := hq.at hpa
  obtain ⟨z2, hf2, hg2⟩ := hq.at hpb
  unfold wnF
  generalize gP ms pa = la at *
  generalize gP ms pb = lb at *
  refine Does.of_AW (n := 53) Tryz.func70 rfl rfl rfl fun cx hcx => ?_
  repeat' (first | (refine AW.sreg rfl fun K hK => ?_; simp only [go_sem, Nat.reduceAdd, Nat.reduceMul, Int.reduceToNat, Nat.reduceLT, Nat.reduceLeDiff, Nat.le_refl, Nat.reduceEqDiff, ↓reduceIte, beq_self_eq_true, bne_self_eq_false, Int.reduceBEq, Int.reduceBNe, or_self, true_or, or_true, Option.map_some, Option.map_none, hf, hg, List.length_map]) | (refine AW.seq_k fun K hK => ?_) | (refine AW.block ?_) | (refine hK _ ?_; clear hK K))
  refine AW.loopF (ι := Nat) [0, 2, 17, 18] (fun p => [(7, I (wnO lb (la.take p) 0)), (19, I p)]) (fun p => []) 10 (fun p => p ≤ la.length) (fun p => la.length - p) 0 (Nat.zero_le _) (Weak.auto hcx rfl rfl (Nat.le_of_ble_eq_true rfl) (by simp [go_sem, gL, kL, renOf, V.obj, lk, Nat.blt, Nat.ble, List.map_append, dv_push, List.take_zero, wnO, List.foldl_nil]) (by simp [go_sem, gL, kL, renOf, V.obj, lk, Nat.blt, Nat.ble, List.map_append, dv_push, List.take_zero, wnO, List.foldl_nil]) (by first | (intro i hi; exact absurd hi (Nat.not_lt_zero _)) | (intro i0 hi0; match i0, hi0 with | 0, _ => exact ⟨_, rfl⟩ | n0+1, h0 => exact absurd h0 (Nat.not_lt.2 (Nat.le_add_left 1 n0))) | (intro i0 hi0; match i0, hi0 with | 0, _ => exact ⟨_, rfl⟩ | 1, _ => exact ⟨_, rfl⟩ | n0+2, h0 => exact absurd h0 (Nat.not_lt.2 (Nat.le_add_left 2 n0))) | (intro i0 hi0; match i0, hi0 with | 0, _ => exact ⟨_, rfl⟩ | 1, _ => exact ⟨_, rfl⟩ | 2, _ => exact ⟨_, rfl⟩ | n0+3, h0 => exact absurd h0 (Nat.not_lt.2 (Nat.le_add_left 3 n0))) | (intro i0 hi0; match i0, hi0 with | 0, _ => exact ⟨_, rfl⟩ | 1, _ => exact ⟨_, rfl⟩ | 2, _ => exact ⟨_, rfl⟩ | 3, _ => exact ⟨_, rfl⟩ | n0+4, h0 => exact absurd h0 (Nat.not_lt.2 (Nat.le_add_left 4 n0)))) (by simp [go_sem, gL, kL, lk, renOf, V.obj, Nat.blt, Nat.ble, List.take_zero, wnO, List.foldl_nil])) ?_; simp only [St.at_nil, St.at_cons, lk, Nat.reduceEqDiff, ↓reduceIte, Option.getD_some, Option.getD_none, List.cons_append, List.nil_append, List.append_nil]
  intro i h1
  have hb0 := wnT_bd (r := lb) (l := la.take i) (by omega) (by rw [List.length_take]; omega)
  by_cases hi : i < la.length
  · obtain ⟨x, hx, hxm, -⟩ := get_some hi
    have hget : (la.map mkD)[i]? = some (mkD x) := by simp only [List.getElem?_map, hx, Option.map_some]
    have hsn := wnO_snoc (r := lb) 0 hx
    generalize wnO lb (la.take i) 0 = a at *
    repeat' (first | (refine AW.sreg rfl fun K hK => ?_; simp only [go_sem, Nat.reduceAdd, Nat.reduceMul, Int.reduceToNat, Nat.reduceLT, Nat.reduceLeDiff, Nat.le_refl, Nat.reduceEqDiff, ↓reduceIte, beq_self_eq_true, bne_self_eq_false, Int.reduceBEq, Int.reduceBNe, or_self, true_or, or_true, Option.map_some, Option.map_none, hget, hf2, hg2, List.length_map]) | (refine AW.seq_k fun K hK => ?_) | (refine AW.block ?_) | (refine AW.skip ?_; simp only [Then, InBlock]) | (refine AW.condT rfl (by first | rfl | (simp; omega) | (simp [*]; done) | fail) ?_) | (refine hK _ ?_; clear hK K) | (with_reducible refine And.intro ?_ ?_; first | omega | assumption | (focus (decide)) | (focus (simp; done)) | (focus (simp; omega)) | (focus (constructor <;> omega)) | fail))
    refine AW.loopF (ι := Nat) [0, 2, 9, 17, 18, 19, 28, 29] (fun p => [(7, I (wnI x (lb.take p) a)), (30, I p)]) (fun p => [(832, some (O.box 39 [S x.1, S x.2.1, I x.2.2]))]) 24 (fun p => p ≤ lb.length) (fun p => lb.length - p) 0 (Nat.zero_le _) (Weak.auto hcx rfl rfl (Nat.le_of_ble_eq_true rfl) (by simp [go_sem, gL, kL, renOf, V.obj, lk, Nat.blt, Nat.ble, List.map_append, dv_push, List.take_zero, wnI, List.foldl_nil]) (by simp [go_sem, gL, kL, renOf, V.obj, lk, Nat.blt, Nat.ble, List.map_append, dv_push, List.take_zero, wnI, List.foldl_nil]) (by first | (intro i hi; exact absurd hi (Nat.not_lt_zero _)) | (intro i0 hi0; match i0, hi0 with | 0, _ => exact ⟨_, rfl⟩ | n0+1, h0 => exact absurd h0 (Nat.not_lt.2 (Nat.le_add_left 1 n0))) | (intro i0 hi0; match i0, hi0 with | 0, _ => exact ⟨_, rfl⟩ | 1, _ => exact ⟨_, rfl⟩ | n0+2, h0 => exact absurd h0 (Nat.not_lt.2 (Nat.le_add_left 2 n0))) | (intro i0 hi0; match i0, hi0 with | 0, _ => exact ⟨_, rfl⟩ | 1, _ => exact ⟨_, rfl⟩ | 2, _ => exact ⟨_, rfl⟩ | n0+3, h0 => exact absurd h0 (Nat.not_lt.2 (Nat.le_add_left 3 n0))) | (intro i0 hi0; match i0, hi0 with | 0, _ => exact ⟨_, rfl⟩ | 1, _ => exact ⟨_, rfl⟩ | 2, _ => exact ⟨_, rfl⟩ | 3, _ => exact ⟨_, rfl⟩ | n0+4, h0 => exact absurd h0 (Nat.not_lt.2 (Nat.le_add_left 4 n0)))) (by simp [go_sem, gL, kL, lk, renOf, V.obj, Nat.blt, Nat.ble, List.take_zero, wnI, List.foldl_nil])) ?_; simp only [St.at_nil, St.at_cons, lk, Nat.reduceEqDiff, ↓reduceIte, Option.getD_some, Option.getD_none, List.cons_append, List.nil_append, List.append_nil]
    intro k h2
    have hb1 := wnI_bd (x := x) (n := 1764) (lb.take k) hb0
    rw [List.length_take] at hb1
    by_cases hk : k < lb.length
    · obtain ⟨o, ho, hom, -⟩ := get_some hk
      have hget2 : (lb.map mkD)[k]? = some (mkD o) := by simp only [List.getElem?_map, ho, Option.map_some]
      have hs2 := wnI_snoc (x := x) a ho
      generalize wnI x (lb.take k) a = b at *
      cases hb : (x.2.1 == o.2.1) with
      | false =>
        have e : wnI x (lb.take (k + 1)) a = b := by rw [hs2, wnS, if_neg (by simp [hb])]
        repeat' (first | ((first | refine AW.sreg rfl fun K hK => ?_ | refine AW.reg rfl ?_); simp only [go_sem, Nat.reduceAdd, Nat.reduceMul, Int.reduceToNat, Nat.reduceLT, Nat.reduceLeDiff, Nat.le_refl, Nat.reduceEqDiff, ↓reduceIte, beq_self_eq_true, bne_self_eq_false, Int.reduceBEq, Int.reduceBNe, or_self, true_or, or_true, Option.map_some, Option.map_none, hget2, hb, List.length_map]) | (refine AW.seq_k fun K hK => ?_) | (refine AW.block ?_) | (refine AW.skip ?_; simp only [Then, InBlock]) | (refine AW.condT rfl (by first | rfl | (simp; omega) | (simp [*]; done) | fail) ?_) | (refine AW.condF rfl (by first | rfl | (simp; omega) | (simp [*]; done) | fail) ?_) | (refine hK _ ?_; clear hK K) | (with_reducible refine And.intro ?_ ?_; first | omega | assumption | (focus (decide)) | (focus (simp; done)) | (focus (simp; omega)) | (focus (constructor <;> omega)) | fail))
        exact ⟨k + 1, hk, by omega, (Weak.auto hcx rfl rfl (Nat.le_of_ble_eq_true rfl) (by simp [go_sem, gL, kL, renOf, V.obj, lk, Nat.blt, Nat.ble, List.map_append, dv_push, e]) (by simp [go_sem, gL, kL, renOf, V.obj, lk, Nat.blt, Nat.ble, List.map_append, dv_push, e]) (by first | (intro i hi; exact absurd hi (Nat.not_lt_zero _)) | (intro i0 hi0; match i0, hi0 with | 0, _ => exact ⟨_, rfl⟩ | n0+1, h0 => exact absurd h0 (Nat.not_lt.2 (Nat.le_add_left 1 n0))) | (intro i0 hi0; match i0, hi0 with | 0, _ => exact ⟨_, rfl⟩ | 1, _ => exact ⟨_, rfl⟩ | n0+2, h0 => exact absurd h0 (Nat.not_lt.2 (Nat.le_add_left 2 n0))) | (intro i0 hi0; match i0, hi0 with | 0, _ => exact ⟨_, rfl⟩ | 1, _ => exact ⟨_, rfl⟩ | 2, _ => exact ⟨_, rfl⟩ | n0+3, h0 => exact absurd h0 (Nat.not_lt.2 (Nat.le_add_left 3 n0))) | (intro i0 hi0; match i0, hi0 with | 0, _ => exact ⟨_, rfl⟩ | 1, _ => exact ⟨_, rfl⟩ | 2, _ => exact ⟨_, rfl⟩ | 3, _ => exact ⟨_, rfl⟩ | n0+4, h0 => exact absurd h0 (Nat.not_lt.2 (Nat.le_add_left 4 n0)))) (by simp [go_sem, gL, kL, lk, renOf, V.obj, Nat.blt, Nat.ble, e]))⟩
      | true =>
        by_cases hlt : o.2.2 < x.2.2
        · have e : wnI x (lb.take (k + 1)) a = b + 1 := by rw [hs2, wnS, if_pos ⟨hb, hlt⟩]
          repeat' (first | ((first | refine AW.sreg rfl fun K hK => ?_ | refine AW.reg rfl ?_); simp only [go_sem, Nat.reduceAdd, Nat.reduceMul, Int.reduceToNat, Nat.reduceLT, Nat.reduceLeDiff, Nat.le_refl, Nat.reduceEqDiff, ↓reduceIte, beq_self_eq_true, bne_self_eq_false, Int.reduceBEq, Int.reduceBNe, or_self, true_or, or_true, Option.map_some, Option.map_none, hget2, hb, hlt, List.length_map]) | (refine AW.seq_k fun K hK => ?_) | (refine AW.block ?_) | (refine AW.skip ?_; simp only [Then, InBlock]) | (refine AW.condT rfl (by first | rfl | (simp; omega) | (simp [*]; done) | fail) ?_) | (refine hK _ ?_; clear hK K) | (with_reducible refine And.intro ?_ ?_; first | omega | assumption | (focus (decide)) | (focus (simp; done)) | (focus (simp; omega)) | (focus (constructor <;> omega)) | fail))
          exact ⟨k + 1, hk, by omega, (Weak.auto hcx rfl rfl (Nat.le_of_ble_eq_true rfl) (by simp [go_sem, gL, kL, renOf, V.obj, lk, Nat.blt, Nat.ble, List.map_append, dv_push, e]) (by simp [go_sem, gL, kL, renOf, V.obj, lk, Nat.blt, Nat.ble, List.map_append, dv_push, e]) (by first | (intro i hi; exact absurd hi (Nat.not_lt_zero _)) | (intro i0 hi0; match i0, hi0 with | 0, _ => exact ⟨_, rfl⟩ | n0+1, h0 => exact absurd h0 (Nat.not_lt.2 (Nat.le_add_left 1 n0))) | (intro i0 hi0; match i0, hi0 with | 0, _ => exact ⟨_, rfl⟩ | 1, _ => exact ⟨_, rfl⟩ | n0+2, h0 => exact absurd h0 (Nat.not_lt.2 (Nat.le_add_left 2 n0))) | (intro i0 hi0; match i0, hi0 with | 0, _ => exact ⟨_, rfl⟩ | 1, _ => exact ⟨_, rfl⟩ | 2, _ => exact ⟨_, rfl⟩ | n0+3, h0 => exact absurd h0 (Nat.not_lt.2 (Nat.le_add_left 3 n0))) | (intro i0 hi0; match i0, hi0 with | 0, _ => exact ⟨_, rfl⟩ | 1, _ => exact ⟨_, rfl⟩ | 2, _ => exact ⟨_, rfl⟩ | 3, _ => exact ⟨_, rfl⟩ | n0+4, h0 => exact absurd h0 (Nat.not_lt.2 (Nat.le_add_left 4 n0)))) (by simp [go_sem, gL, kL, lk, renOf, V.obj, Nat.blt, Nat.ble, e]))⟩
        · have e : wnI x (lb.take (k + 1)) a = b := by rw [hs2, wnS, if_neg (by simp [hlt])]
          repeat' (first | ((first | refine AW.sreg rfl fun K hK => ?_ | refine AW.reg rfl ?_); simp only [go_sem, Nat.reduceAdd, Nat.reduceMul, Int.reduceToNat, Nat.reduceLT, Nat.reduceLeDiff, Nat.le_refl, Nat.reduceEqDiff, ↓reduceIte, beq_self_eq_true, bne_self_eq_false, Int.reduceBEq, Int.reduceBNe, or_self, true_or, or_true, Option.map_some, Option.map_none, hget2, hb, hlt, List.length_map]) | (refine AW.seq_k fun K hK => ?_) | (refine AW.block ?_) | (refine AW.skip ?_; simp only [Then, InBlock]) | (refine AW.condT rfl (by first | rfl | (simp; omega) | (simp [*]; done) | fail) ?_) | (refine AW.condF rfl (by first | rfl | (simp; omega) | (simp [*]; done) | fail) ?_) | (refine hK _ ?_; clear hK K) | (with_reducible refine And.intro ?_ ?_; first | omega | assumption | (focus (decide)) | (focus (simp; done)) | (focus (simp; omega)) | (focus (constructor <;> omega)) | fail))
          exact ⟨k + 1, hk, by omega, (Weak.auto hcx rfl rfl (Nat.le_of_ble_eq_true rfl) (by simp [go_sem, gL, kL, renOf, V.obj, lk, Nat.blt, Nat.ble, List.map_append, dv_push, e]) (by simp [go_sem, gL, kL, renOf, V.obj, lk, Nat.blt, Nat.ble, List.map_append, dv_push, e]) (by first | (intro i hi; exact absurd hi (Nat.not_lt_zero _)) | (intro i0 hi0; match i0, hi0 with | 0, _ => exact ⟨_, rfl⟩ | n0+1, h0 => exact absurd h0 (Nat.not_lt.2 (Nat.le_add_left 1 n0))) | (intro i0 hi0; match i0, hi0 with | 0, _ => exact ⟨_, rfl⟩ | 1, _ => exact ⟨_, rfl⟩ | n0+2, h0 => exact absurd h0 (Nat.not_lt.2 (Nat.le_add_left 2 n0))) | (intro i0 hi0; match i0, hi0 with | 0, _ => exact ⟨_, rfl⟩ | 1, _ => exact ⟨_, rfl⟩ | 2, _ => exact ⟨_, rfl⟩ | n0+3, h0 => exact absurd h0 (Nat.not_lt.2 (Nat.le_add_left 3 n0))) | (intro i0 hi0; match i0, hi0 with | 0, _ => exact ⟨_, rfl⟩ | 1, _ => exact ⟨_, rfl⟩ | 2, _ => exact ⟨_, rfl⟩ | 3, _ => exact ⟨_, rfl⟩ | n0+4, h0 => exact absurd h0 (Nat.not_lt.2 (Nat.le_add_left 4 n0)))) (by simp [go_sem, gL, kL, lk, renOf, V.obj, Nat.blt, Nat.ble, e]))⟩
    · obtain rfl : k = lb.length := by omega
      rw [List.take_length]
      repeat' (first | ((first | refine AW.sreg rfl fun K hK => ?_ | refine AW.reg rfl ?_); simp only [go_sem, Nat.reduceAdd, Nat.reduceMul, Int.reduceToNat, Nat.reduceLT, Nat.reduceLeDiff, Nat.le_refl, Nat.reduceEqDiff, ↓reduceIte, beq_self_eq_true, bne_self_eq_false, Int.reduceBEq, Int.reduceBNe, or_self, true_or, or_true, Option.map_some, Option.map_none, List.length_map]) | (refine AW.seq_k fun K hK => ?_) | (refine AW.exit ?_; simp only [go_sem, ↓reduceIte]) | (refine AW.condF rfl (by first | rfl | (simp; omega) | (simp [*]; done) | fail) ?_) | (refine hK _ ?_; clear hK K) | (clear hK K; refine hK _ ?_; clear hK K) | (with_reducible refine And.intro ?_ ?_; first | omega | assumption | (focus (decide)) | (focus (simp; done)) | (focus (simp; omega)) | (focus (constructor <;> omega)) | fail))
      exact ⟨i + 1, hi, by omega, (Weak.auto hcx rfl rfl (Nat.le_of_ble_eq_true rfl) (by simp [go_sem, gL, kL, renOf, V.obj, lk, Nat.blt, Nat.ble, List.map_append, dv_push, hsn]) (by simp [go_sem, gL, kL, renOf, V.obj, lk, Nat.blt, Nat.ble, List.map_append, dv_push, hsn]) (by first | (intro i hi; exact absurd hi (Nat.not_lt_zero _)) | (intro i0 hi0; match i0, hi0 with | 0, _ => exact ⟨_, rfl⟩ | n0+1, h0 => exact absurd h0 (Nat.not_lt.2 (Nat.le_add_left 1 n0))) | (intro i0 hi0; match i0, hi0 with | 0, _ => exact ⟨_, rfl⟩ | 1, _ => exact ⟨_, rfl⟩ | n0+2, h0 => exact absurd h0 (Nat.not_lt.2 (Nat.le_add_left 2 n0))) | (intro i0 hi0; match i0, hi0 with | 0, _ => exact ⟨_, rfl⟩ | 1, _ => exact ⟨_, rfl⟩ | 2, _ => exact ⟨_, rfl⟩ | n0+3, h0 => exact absurd h0 (Nat.not_lt.2 (Nat.le_add_left 3 n0))) | (intro i0 hi0; match i0, hi0 with | 0, _ => exact ⟨_, rfl⟩ | 1, _ => exact ⟨_, rfl⟩ | 2, _ => exact ⟨_, rfl⟩ | 3, _ => exact ⟨_, rfl⟩ | n0+4, h0 => exact absurd h0 (Nat.not_lt.2 (Nat.le_add_left 4 n0)))) (by simp [go_sem, gL, kL, lk, renOf, V.obj, Nat.blt, Nat.ble, hsn]))⟩
  · obtain rfl : i = la.length := by omega
    rw [List.take_length]
    repeat' (first | (refine AW.sreg rfl fun K hK => ?_; simp only [go_sem, Nat.reduceAdd, Nat.reduceMul, Int.reduceToNat, Nat.reduceLT, Nat.reduceLeDiff, Nat.le_refl, Nat.reduceEqDiff, ↓reduceIte, beq_self_eq_true, bne_self_eq_false, Int.reduceBEq, Int.reduceBNe, or_self, true_or, or_true, Option.map_some, Option.map_none, List.length_map]) | (refine AW.seq_k fun K hK => ?_) | (refine AW.exit ?_; simp only [go_sem, ↓reduceIte]) | (refine AW.condF rfl (by first | rfl | (simp; omega) | (simp [*]; done) | fail) ?_) | (refine hK _ ?_; clear hK K) | (clear hK K; refine hK _ ?_; clear hK K) | (refine AW.ret (Fin.data rfl (by first | (simp only [go_sem]; done) | (simp [go_sem, *]; done) | (simp [go_sem]; omega) | rfl) rfl)))
end Go.AX

namespace Go.AX
open Go Go.Proofs Go.RowKit
/-- A row of the table of wins, and the table. -/
abbrev tbR (ms : List Mk) (ps : List Str) (a : Str) : List D := ps.map fun b => D.int .i64 (wnF ms a b)
abbrev tbV (ms : List Mk) (ps : List Str) : V := .d (.ptr [.sl (ps.map D.str), .sl (ps.map fun a => .sl (tbR ms ps a))] 0)
theorem balance_any (ms : List Mk) (ps : List Str) (hpl : ps.length ≤ 1000) (j : Nat) (pa : Str) (hj : ps[j]? = some pa) : Does Tryz.prog 115 [tbV ms ps, I j] [] (I (blF ms ps pa)) [] := by
  have hjl := get_lt hj
  have hr : (ps.map fun a => D.sl (tbR ms ps a))[j]? = some (.sl (tbR ms ps pa)) := by rw [List.getElem?_map, hj]; rfl
  refine Does.of_AW (n := 40) Tryz.func115 rfl rfl rfl fun cx hcx => ?_
  repeat' (first | (refine AW.sreg rfl fun K hK => ?_; simp only [go_sem, Nat.reduceAdd, Nat.reduceMul, Int.reduceToNat, Nat.reduceLT, Nat.reduceLeDiff, Nat.le_refl, Nat.reduceEqDiff, ↓reduceIte, beq_self_eq_true, bne_self_eq_false, Int.reduceBEq, Int.reduceBNe, or_self, true_or, or_true, Option.map_some, Option.map_none, List.length_map]) | (refine AW.seq_k fun K hK => ?_) | (refine AW.block ?_) | (refine hK _ ?_; clear hK K))
  refine AW.loopF (ι := Nat) [0, 1, 11] (fun p => [(5, I (blF ms (ps.take p) pa)), (12, I p)]) (fun p => []) 8 (fun p => p ≤ ps.length) (fun p => ps.length - p) 0 (Nat.zero_le _) (Weak.auto hcx rfl rfl (Nat.le_of_ble_eq_true rfl) (by simp [go_sem, gL, kL, renOf, V.obj, lk, Nat.blt, Nat.ble, List.map_append, dv_push, List.take_zero, blF, List.foldl_nil]) (by simp [go_sem, gL, kL, renOf, V.obj, lk, Nat.blt, Nat.ble, List.map_append, dv_push, List.take_zero, blF, List.foldl_nil]) (by first | (intro i hi; exact absurd hi (Nat.not_lt_zero _)) | (intro i0 hi0; match i0, hi0 with | 0, _ => exact ⟨_, rfl⟩ | n0+1, h0 => exact absurd h0 (Nat.not_lt.2 (Nat.le_add_left 1 n0))) | (intro i0 hi0; match i0, hi0 with | 0, _ => exact ⟨_, rfl⟩ | 1, _ => exact ⟨_, rfl⟩ | n0+2, h0 => exact absurd h0 (Nat.not_lt.2 (Nat.le_add_left 2 n0))) | (intro i0 hi0; match i0, hi0 with | 0, _ => exact ⟨_, rfl⟩ | 1, _ => exact ⟨_, rfl⟩ | 2, _ => exact ⟨_, rfl⟩ | n0+3, h0 => exact absurd h0 (Nat.not_lt.2 (Nat.le_add_left 3 n0))) | (intro i0 hi0; match i0, hi0 with | 0, _ => exact ⟨_, rfl⟩ | 1, _ => exact ⟨_, rfl⟩ | 2, _ => exact ⟨_, rfl⟩ | 3, _ => exact ⟨_, rfl⟩ | n0+4, h0 => exact absurd h0 (Nat.not_lt.2 (Nat.le_add_left 4 n0)))) (by simp [go_sem, gL, kL, lk, renOf, V.obj, Nat.blt, Nat.ble, List.take_zero, blF, List.foldl_nil])) ?_; simp only [St.at_nil, St.at_cons, lk, Nat.reduceEqDiff, ↓reduceIte, Option.getD_some, Option.getD_none, List.cons_append, List.nil_append, List.append_nil]
  intro i h1
  have hb0 := blF_bd (ms := ms) (a := pa) (ps.take i) (by rw [List.length_take]; omega)
  by_cases hi : i < ps.length
  · obtain ⟨pb, hx, hxm, -⟩ := get_some hi
    have hr2 : (ps.map fun a => D.sl (tbR ms ps a))[i]? = some (.sl (tbR ms ps pb)) := by rw [List.getElem?_map, hx]; rfl
    have hc1 : (tbR ms ps pa)[i]? = some (.int .i64 (wnF ms pa pb)) := by rw [List.getElem?_map, hx]; rfl
    have hc2 : (tbR ms ps pb)[j]? = some (.int .i64 (wnF ms pb pa)) := by rw [List.getElem?_map, hj]; rfl
    have hl1 : (tbR ms ps pa).length = ps.length := List.length_map _
    have hl2 : (tbR ms ps pb).length = ps.length := List.length_map _
    have hll : (ps.map fun a => D.sl (tbR ms ps a)).length = ps.length := List.length_map _
    have hsn := blF_snoc (ms := ms) (a := pa) hx
    have hcb := cmpI_bd (wnF ms pa pb) (wnF ms pb pa)
    have hci := compare_int (wnF ms pa pb) (wnF ms pb pa)
    generalize blF ms (ps.take i) pa = n at *
    generalize cmpI (wnF ms pa pb) (wnF ms pb pa) = cv at *
    generalize wnF ms pa pb = w1 at *
    generalize wnF ms pb pa = w2 at *
    repeat' (first | ((first | refine AW.sreg rfl fun K hK => ?_ | refine AW.reg rfl ?_ | refine AW.regD hmix rfl ?_ | refine runT_call _ _ [] (fun hv _ => (hci).pure rfl rfl hv _) rfl rfl (dstOk_of rfl) rfl rfl ?_); simp only [go_sem, Nat.reduceAdd, Nat.reduceMul, Int.reduceToNat, Nat.reduceLT, Nat.reduceLeDiff, Nat.le_refl, Nat.reduceEqDiff, ↓reduceIte, beq_self_eq_true, bne_self_eq_false, Int.reduceBEq, Int.reduceBNe, or_self, true_or, or_true, Option.map_some, Option.map_none, List.length_map, hr, hr2, hc1, hc2]) | (refine AW.seq_k fun K hK => ?_) | (refine AW.block ?_) | (refine AW.skip ?_; simp only [Then, InBlock]) | (refine AW.condT rfl (by first | rfl | (simp; omega) | (simp [*]; done) | fail) ?_) | (refine hK _ ?_; clear hK K) | (with_reducible refine And.intro (?_ : regOk _ _ = true) ?_; kernel_rfl) | (with_reducible refine And.intro ?_ ?_; first | omega | assumption | (focus (decide)) | (focus (simp; done)) | (focus (simp; omega)) | (focus (constructor <;> omega)) | fail))
    exact ⟨i + 1, hi, by omega, (Weak.auto hcx rfl rfl (Nat.le_of_ble_eq_true rfl) (by simp [go_sem, gL, kL, renOf, V.obj, lk, Nat.blt, Nat.ble, List.map_append, dv_push, hsn]) (by simp [go_sem, gL, kL, renOf, V.obj, lk, Nat.blt, Nat.ble, List.map_append, dv_push, hsn]) (by first | (intro i hi; exact absurd hi (Nat.not_lt_zero _)) | (intro i0 hi0; match i0, hi0 with | 0, _ => exact ⟨_, rfl⟩ | n0+1, h0 => exact absurd h0 (Nat.not_lt.2 (Nat.le_add_left 1 n0))) | (intro i0 hi0; match i0, hi0 with | 0, _ => exact ⟨_, rfl⟩ | 1, _ => exact ⟨_, rfl⟩ | n0+2, h0 => exact absurd h0 (Nat.not_lt.2 (Nat.le_add_left 2 n0))) | (intro i0 hi0; match i0, hi0 with | 0, _ => exact ⟨_, rfl⟩ | 1, _ => exact ⟨_, rfl⟩ | 2, _ => exact ⟨_, rfl⟩ | n0+3, h0 => exact absurd h0 (Nat.not_lt.2 (Nat.le_add_left 3 n0))) | (intro i0 hi0; match i0, hi0 with | 0, _ => exact ⟨_, rfl⟩ | 1, _ => exact ⟨_, rfl⟩ | 2, _ => exact ⟨_, rfl⟩ | 3, _ => exact ⟨_, rfl⟩ | n0+4, h0 => exact absurd h0 (Nat.not_lt.2 (Nat.le_add_left 4 n0)))) (by simp [go_sem, gL, kL, lk, renOf, V.obj, Nat.blt, Nat.ble, hsn]))⟩
  · obtain rfl : i = ps.length := by omega
    rw [List.take_length]
    repeat' (first | (refine AW.sreg rfl fun K hK => ?_; simp only [go_sem, Nat.reduceAdd, Nat.reduceMul, Int.reduceToNat, Nat.reduceLT, Nat.reduceLeDiff, Nat.le_refl, Nat.reduceEqDiff, ↓reduceIte, beq_self_eq_true, bne_self_eq_false, Int.reduceBEq, Int.reduceBNe, or_self, true_or, or_true, Option.map_some, Option.map_none, List.length_map]) | (refine AW.seq_k fun K hK => ?_) | (refine AW.exit ?_; simp only [go_sem, ↓reduceIte]) | (refine AW.condF rfl (by first | rfl | (simp; omega) | (simp [*]; done) | fail) ?_) | (refine hK _ ?_; clear hK K) | (clear hK K; refine hK _ ?_; clear hK K) | (refine AW.ret (Fin.data rfl (by first | (simp only [go_sem]; done) | (simp [go_sem, *]; done) | (simp [go_sem]; omega) | rfl) rfl)))
theorem keysLen {ms : List Mk} {q : (List Str × List D) × (List Str × List D)} (hq : ShOk ms q) (hk : ∀ m ∈ ms, m.1.length ≤ 1000) : ∀ k ∈ q.1.1, k.length ≤ 1000000 := by
  intro k hkm
  have h1 := hq.pos hkm
  obtain ⟨m, hm⟩ := List.exists_mem_of_length_pos h1
  obtain ⟨h2, rfl⟩ := mem_gP.1 hm
  have := hk m h2
  omega
theorem table_any (ms : List Mk) (hl : ms.length ≤ 42) (hk : ∀ m ∈ ms, m.1.length ≤ 1000) (q : (List Str × List D) × (List Str × List D)) (hq : ShOk ms q) : Does Tryz.prog 66 [shV ms q] [] (tbV ms q.1.1) [] := by
  have hln := hq.len (by omega)
  have h1 := keys_any q.1.1 q.1.2 hln (keysLen hq hk) hq.rise
  refine Does.of_AW (n := 54) Tryz.func66 rfl rfl rfl fun cx hcx => ?_
  repeat' (first | ((first | refine AW.sreg rfl fun K hK => ?_ | refine run_call _ _ _ ((h1).pure rfl rfl _ _) rfl rfl (dstOk_of rfl) rfl rfl rfl ?_); simp only [go_sem, Nat.reduceAdd, Nat.reduceMul, Int.reduceToNat, Nat.reduceLT, Nat.reduceLeDiff, Nat.le_refl, Nat.reduceEqDiff, ↓reduceIte, beq_self_eq_true, bne_self_eq_false, Int.reduceBEq, Int.reduceBNe, or_self, true_or, or_true, Option.map_some, Option.map_none, List.length_map]) | (refine AW.seq_k fun K hK => ?_) | (refine AW.block ?_) | (refine hK _ ?_; clear hK K))
  refine AW.weak (Weak.nilB 448 1 112 22 1 rfl rfl) ?_
  refine AW.loopF (ι := Nat) [0, 3, 19, 20] (fun p => [(21, I p)]) (fun p => [(448, some (O.box 112 [.d (.sl (q.1.1.map D.str)), .slr 960 0 p])), (960, some (O.vec 22 1 (dv ((q.1.1.take p).map fun a => D.sl (tbR ms q.1.1 a)))))]) 16 (fun p => p ≤ q.1.1.length) (fun p => q.1.1.length - p) 0 (Nat.zero_le _) (Weak.objs hcx [(448, 448), (960, 960)] rfl rfl (Nat.le_of_ble_eq_true rfl) (by simp [go_sem, gL, kL, List.map_append, dv_push, List.take_zero, dvz, List.map_nil]) (by simp [go_sem, gL, kL, List.map_append, dv_push, List.take_zero, dvz, List.map_nil]) (by first | (intro i hi; exact absurd hi (Nat.not_lt_zero _)) | (intro i0 hi0; match i0, hi0 with | 0, _ => exact ⟨_, rfl⟩ | n0+1, h0 => exact absurd h0 (Nat.not_lt.2 (Nat.le_add_left 1 n0))) | (intro i0 hi0; match i0, hi0 with | 0, _ => exact ⟨_, rfl⟩ | 1, _ => exact ⟨_, rfl⟩ | n0+2, h0 => exact absurd h0 (Nat.not_lt.2 (Nat.le_add_left 2 n0))) | (intro i0 hi0; match i0, hi0 with | 0, _ => exact ⟨_, rfl⟩ | 1, _ => exact ⟨_, rfl⟩ | 2, _ => exact ⟨_, rfl⟩ | n0+3, h0 => exact absurd h0 (Nat.not_lt.2 (Nat.le_add_left 3 n0))) | (intro i0 hi0; match i0, hi0 with | 0, _ => exact ⟨_, rfl⟩ | 1, _ => exact ⟨_, rfl⟩ | 2, _ => exact ⟨_, rfl⟩ | 3, _ => exact ⟨_, rfl⟩ | n0+4, h0 => exact absurd h0 (Nat.not_lt.2 (Nat.le_add_left 4 n0)))) (by simp [gL, lk, List.take_zero, dvz, List.map_nil])) ?_; simp only [St.at_nil, St.at_cons, lk, Nat.reduceEqDiff, ↓reduceIte, Option.getD_some, Option.getD_none, List.cons_append, List.nil_append, List.append_nil]
  intro i e1
  by_cases hi : i < q.1.1.length
  · obtain ⟨pa, hp, hpm, -⟩ := get_some hi
    have hget : (q.1.1.map D.str)[i]? = some (.str pa) := by simp only [List.getElem?_map, hp, Option.map_some]
    have hsn := take_snoc hp
    repeat' (first | (refine AW.sreg rfl fun K hK => ?_; simp only [go_sem, Nat.reduceAdd, Nat.reduceMul, Int.reduceToNat, Nat.reduceLT, Nat.reduceLeDiff, Nat.le_refl, Nat.reduceEqDiff, ↓reduceIte, beq_self_eq_true, bne_self_eq_false, Int.reduceBEq, Int.reduceBNe, or_self, true_or, or_true, Option.map_some, Option.map_none, List.length_map, hget]) | (refine AW.seq_k fun K hK => ?_) | (refine AW.block ?_) | (refine AW.skip ?_; simp only [Then, InBlock]) | (refine AW.condT rfl (by first | rfl | (simp; omega) | (simp [*]; done) | fail) ?_) | (refine hK _ ?_; clear hK K) | (with_reducible refine And.intro ?_ ?_; first | omega | assumption | (focus (decide)) | (focus (simp; done)) | (focus (simp; omega)) | (focus (constructor <;> omega)) | fail))
    refine AW.weak (Weak.nil 6 3 1 rfl) ?_
    refine AW.loopF (ι := Nat) [0, 3, 5, 19, 20, 21, 28, 29] (fun p => [(6, .slr 1728 0 p), (30, I p)]) (fun p => [(448, some (O.box 112 [.d (.sl (q.1.1.map D.str)), .slr 960 0 i])), (960, some (O.vec 22 1 (dv ((q.1.1.take i).map fun a => D.sl (tbR ms q.1.1 a))))), (1728, some (O.vec 3 1 (dv ((tbR ms q.1.1 pa).take p))))]) 28 (fun p => p ≤ q.1.1.length) (fun p => q.1.1.length - p) 0 (Nat.zero_le _) (Weak.objs hcx [(448, 448), (960, 960), (1728, 1728)] rfl rfl (Nat.le_of_ble_eq_true rfl) (by simp [go_sem, gL, kL, List.map_append, dv_push, List.take_zero, dvz, List.map_nil]) (by simp [go_sem, gL, kL, List.map_append, dv_push, List.take_zero, dvz, List.map_nil]) (by first | (intro i hi; exact absurd hi (Nat.not_lt_zero _)) | (intro i0 hi0; match i0, hi0 with | 0, _ => exact ⟨_, rfl⟩ | n0+1, h0 => exact absurd h0 (Nat.not_lt.2 (Nat.le_add_left 1 n0))) | (intro i0 hi0; match i0, hi0 with | 0, _ => exact ⟨_, rfl⟩ | 1, _ => exact ⟨_, rfl⟩ | n0+2, h0 => exact absurd h0 (Nat.not_lt.2 (Nat.le_add_left 2 n0))) | (intro i0 hi0; match i0, hi0 with | 0, _ => exact ⟨_, rfl⟩ | 1, _ => exact ⟨_, rfl⟩ | 2, _ => exact ⟨_, rfl⟩ | n0+3, h0 => exact absurd h0 (Nat.not_lt.2 (Nat.le_add_left 3 n0))) | (intro i0 hi0; match i0, hi0 with | 0, _ => exact ⟨_, rfl⟩ | 1, _ => exact ⟨_, rfl⟩ | 2, _ => exact ⟨_, rfl⟩ | 3, _ => exact ⟨_, rfl⟩ | n0+4, h0 => exact absurd h0 (Nat.not_lt.2 (Nat.le_add_left 4 n0)))) (by simp [gL, lk, List.take_zero, dvz, List.map_nil])) ?_; simp only [St.at_nil, St.at_cons, lk, Nat.reduceEqDiff, ↓reduceIte, Option.getD_some, Option.getD_none, List.cons_append, List.nil_append, List.append_nil]
    intro k e2
    by_cases hk2 : k < q.1.1.length
    · obtain ⟨pb, hp2, hpm2, -⟩ := get_some hk2
      have hget2 : (q.1.1.map D.str)[k]? = some (.str pb) := by simp only [List.getElem?_map, hp2, Option.map_some]
      have hr : (tbR ms q.1.1 pa)[k]? = some (.int .i64 (wnF ms pa pb)) := by rw [List.getElem?_map, hp2]; rfl
      have hsr := take_snoc hr
      have hw := wins_any ms hl q hq pa pb hpm hpm2
      have htl : List.take k (dv ((tbR ms q.1.1 pa).take k)) = dv ((tbR ms q.1.1 pa).take k) := List.take_of_length_le (by simp [dv]; omega)
      repeat' (first | ((first | refine AW.sreg rfl fun K hK => ?_ | refine AW.reg rfl ?_ | refine run_call _ _ _ ((hw).pure rfl rfl _ _) rfl rfl (dstOk_of rfl) rfl rfl rfl ?_); simp only [go_sem, Nat.reduceAdd, Nat.reduceMul, Int.reduceToNat, Nat.reduceLT, Nat.reduceLeDiff, Nat.le_refl, Nat.reduceEqDiff, ↓reduceIte, beq_self_eq_true, bne_self_eq_false, Int.reduceBEq, Int.reduceBNe, or_self, true_or, or_true, Option.map_some, Option.map_none, List.length_map, hget2, htl]) | (refine AW.seq_k fun K hK => ?_) | (refine AW.block ?_) | (refine AW.skip ?_; simp only [Then, InBlock]) | (refine AW.condT rfl (by first | rfl | (simp; omega) | (simp [*]; done) | fail) ?_) | (refine hK _ ?_; clear hK K) | (with_reducible refine And.intro ?_ ?_; first | omega | assumption | (focus (decide)) | (focus (simp; done)) | (focus (simp; omega)) | (focus (constructor <;> omega)) | fail))
      exact ⟨k + 1, hk2, by omega, (Weak.objs hcx [(448, 448), (960, 960), (1728, 2432)] rfl rfl (Nat.le_of_ble_eq_true rfl) (by simp [go_sem, gL, kL, List.map_append, dv_push, hsr]) (by simp [go_sem, gL, kL, List.map_append, dv_push, hsr]) (by first | (intro i hi; exact absurd hi (Nat.not_lt_zero _)) | (intro i0 hi0; match i0, hi0 with | 0, _ => exact ⟨_, rfl⟩ | n0+1, h0 => exact absurd h0 (Nat.not_lt.2 (Nat.le_add_left 1 n0))) | (intro i0 hi0; match i0, hi0 with | 0, _ => exact ⟨_, rfl⟩ | 1, _ => exact ⟨_, rfl⟩ | n0+2, h0 => exact absurd h0 (Nat.not_lt.2 (Nat.le_add_left 2 n0))) | (intro i0 hi0; match i0, hi0 with | 0, _ => exact ⟨_, rfl⟩ | 1, _ => exact ⟨_, rfl⟩ | 2, _ => exact ⟨_, rfl⟩ | n0+3, h0 => exact absurd h0 (Nat.not_lt.2 (Nat.le_add_left 3 n0))) | (intro i0 hi0; match i0, hi0 with | 0, _ => exact ⟨_, rfl⟩ | 1, _ => exact ⟨_, rfl⟩ | 2, _ => exact ⟨_, rfl⟩ | 3, _ => exact ⟨_, rfl⟩ | n0+4, h0 => exact absurd h0 (Nat.not_lt.2 (Nat.le_add_left 4 n0)))) (by simp [gL, lk, hsr]))⟩
    · obtain rfl : k = q.1.1.length := by omega
      have htr : List.take q.1.1.length (tbR ms q.1.1 pa) = tbR ms q.1.1 pa := List.take_of_length_le (by simp)
      rw [htr]
      have htl : List.take i (dv ((q.1.1.take i).map fun a => D.sl (tbR ms q.1.1 a))) = dv ((q.1.1.take i).map fun a => D.sl (tbR ms q.1.1 a)) := List.take_of_length_le (by simp [dv]; omega)
      repeat' (first | ((first | refine AW.sreg rfl fun K hK => ?_ | refine AW.reg rfl ?_); simp only [go_sem, Nat.reduceAdd, Nat.reduceMul, Int.reduceToNat, Nat.reduceLT, Nat.reduceLeDiff, Nat.le_refl, Nat.reduceEqDiff, ↓reduceIte, beq_self_eq_true, bne_self_eq_false, Int.reduceBEq, Int.reduceBNe, or_self, true_or, or_true, Option.map_some, Option.map_none, List.length_map, htl]) | (refine AW.seq_k fun K hK => ?_) | (refine AW.exit ?_; simp only [go_sem, ↓reduceIte]) | (refine AW.condF rfl (by first | rfl | (simp; omega) | (simp [*]; done) | fail) ?_) | (refine hK _ ?_; clear hK K) | (clear hK K; refine hK _ ?_; clear hK K) | (with_reducible refine And.intro ?_ ?_; first | omega | assumption | (focus (decide)) | (focus (simp; done)) | (focus (simp; omega)) | (focus (constructor <;> omega)) | fail))
      exact ⟨i + 1, hi, by omega, (Weak.objs hcx [(448, 448), (960, 2304)] rfl rfl (Nat.le_of_ble_eq_true rfl) (by simp [go_sem, gL, kL, List.map_append, dv_push, hsn, frzL_appV, belL_app, renL_app, toDL_dvF, dv_appV]) (by simp [go_sem, gL, kL, List.map_append, dv_push, hsn, frzL_appV, belL_app, renL_app, toDL_dvF, dv_appV]) (by first | (intro i hi; exact absurd hi (Nat.not_lt_zero _)) | (intro i0 hi0; match i0, hi0 with | 0, _ => exact ⟨_, rfl⟩ | n0+1, h0 => exact absurd h0 (Nat.not_lt.2 (Nat.le_add_left 1 n0))) | (intro i0 hi0; match i0, hi0 with | 0, _ => exact ⟨_, rfl⟩ | 1, _ => exact ⟨_, rfl⟩ | n0+2, h0 => exact absurd h0 (Nat.not_lt.2 (Nat.le_add_left 2 n0))) | (intro i0 hi0; match i0, hi0 with | 0, _ => exact ⟨_, rfl⟩ | 1, _ => exact ⟨_, rfl⟩ | 2, _ => exact ⟨_, rfl⟩ | n0+3, h0 => exact absurd h0 (Nat.not_lt.2 (Nat.le_add_left 3 n0))) | (intro i0 hi0; match i0, hi0 with | 0, _ => exact ⟨_, rfl⟩ | 1, _ => exact ⟨_, rfl⟩ | 2, _ => exact ⟨_, rfl⟩ | 3, _ => exact ⟨_, rfl⟩ | n0+4, h0 => exact absurd h0 (Nat.not_lt.2 (Nat.le_add_left 4 n0)))) (by simp [gL, lk, hsn, frzL_appV, belL_app, renL_app, toDL_dvF, dv_appV]))⟩
  · obtain rfl : i = q.1.1.length := by omega
    rw [List.take_length]
    repeat' (first | (refine AW.sreg rfl fun K hK => ?_; simp only [go_sem, Nat.reduceAdd, Nat.reduceMul, Int.reduceToNat, Nat.reduceLT, Nat.reduceLeDiff, Nat.le_refl, Nat.reduceEqDiff, ↓reduceIte, beq_self_eq_true, bne_self_eq_false, Int.reduceBEq, Int.reduceBNe, or_self, true_or, or_true, Option.map_some, Option.map_none, List.length_map]) | (refine AW.seq_k fun K hK => ?_) | (refine AW.exit ?_; simp only [go_sem, ↓reduceIte]) | (refine AW.condF rfl (by first | rfl | (simp; omega) | (simp [*]; done) | fail) ?_) | (refine hK _ ?_; clear hK K) | (clear hK K; refine hK _ ?_; clear hK K))
    exact AW.ret (Fin.data rfl (by simp [go_sem, toDL_dvF]) rfl)
end Go.AX

namespace Go.AX
open Go Go.Proofs Go.RowKit
attribute [go_sem] aRange aEntry mapOf Lf.done Lf.may Lf.next
/-- A step over a map that remembers what was seen. -/
theorem run_next {P : Program} {ops : Array Oper} {i : Nat} {rest : List Oper} {st : St} {K : St → Prop} {dst : Option Nat} {it : Operand} {ty : TypeId} {pos : String} {af : Array Edge} {gd : Option (Nat × Bool)} {id n : Nat} {cur : Option Nat} {left : Lf} {m : V} {ks : List D} {vs : List V}
    (hit : st.ev it = .ptr id 0) (hid : st.hv id = some (.miter m n cur left)) (hm : mapOf st.hv m = some (ks, vs)) (hw : st.want ops ⟨dst, .next it false, ty, pos, af, gd⟩ = some true) (hd : dstOk dst st.n) (hk : ks.length = n) (hv : vs.length = n)
    (k1 : left.done n → aRunO P ops (i + 1) rest (st.put dst (.tup [.d (.bool false)]) []) K)
    (k2 : ∀ (j : Nat) (k : D) (v : V), left.may j → ks[j]? = some k → vs[j]? = some v → aRunO P ops (i + 1) rest (st.put dst (.tup [.d (.bool true), .d k, v]) [(id, some (.miter m n (some j) (left.next j)))]) K) : callRun P ops i ⟨dst, .next it false, ty, pos, af, gd⟩ rest st K := by
  simp only [callRun, aRunO, hw, aStep, aNext, hit, hid, hm]
  exact ⟨hd, hk, hv, k1, k2⟩
theorem run_entry {P : Program} {ops : Array Oper} {i : Nat} {rest : List Oper} {st : St} {K : St → Prop} {dst : Option Nat} {it : Operand} {ty : TypeId} {pos : String} {af : Array Edge} {gd : Option (Nat × Bool)} {id n j : Nat} {left : Lf} {m : V} {ks : List D} {vs : List V} {k : D} {v : V}
    (hit : st.ev it = .ptr id 0) (hid : st.hv id = some (.miter m n (some j) left)) (hm : mapOf st.hv m = some (ks, vs)) (hw : st.want ops ⟨dst, .entry it, ty, pos, af, gd⟩ = some true) (hd : dstOk dst st.n) (hk : ks.length = n) (h1 : ks[j]? = some k) (h2 : vs[j]? = some v)
    (k1 : aRunO P ops (i + 1) rest (st.put dst (.tup [.d k, v]) []) K) : callRun P ops i ⟨dst, .entry it, ty, pos, af, gd⟩ rest st K := by
  simp only [callRun, aRunO, hw, aStep, aEntry, hit, hid, hm, hk, h1, h2, if_true]
  exact ⟨hd, k1⟩
theorem floor_eq (a b : Int) (hb : 1 ≤ b) : a / b = if a.tmod b < 0 then a.tdiv b - 1 else a.tdiv b := by
  obtain ⟨t1, t2⟩ := tdiv_floor a b hb
  have e1 := Int.mul_ediv_add_emod a b
  have e2 := Int.emod_nonneg a (show b ≠ 0 by omega)
  have e3 := Int.emod_lt_of_pos a (show 0 < b by omega)
  have e4 := Int.mul_tdiv_add_tmod a b
  generalize a / b = d at *
  generalize a % b = r at *
  generalize a.tdiv b = t at *
  generalize a.tmod b = u at *
  rcases (show t = d ∨ t = d + 1 by omega) with rfl | rfl
  · rw [if_neg (by omega)]
  · rw [Int.mul_add, Int.mul_one] at e4
    rw [if_pos (by omega)]
    omega
theorem floor_any (a b : Int) (ha : -1000000000000 ≤ a ∧ a ≤ 1000000000000) (hb : 1 ≤ b ∧ b ≤ 1000) : Does Tryz.prog 135 [I a, I b] [] (I (a / b)) [] := by
  have hz : (b == 0) = false := by simp; omega
  have q1 := tdiv_fits a b 1000000000000 hb.1 ha
  rw [floor_eq a b hb.1]
  refine Does.of_AW (n := 16) Tryz.func135 rfl rfl rfl fun cx hcx => ?_
  by_cases hu : a.tmod b < 0
  · rw [if_pos hu]
    repeat' (first | ((first | refine AW.sreg rfl fun K hK => ?_ | refine AW.reg rfl ?_); simp only [go_sem, Nat.reduceAdd, Nat.reduceMul, Int.reduceToNat, Nat.reduceLT, Nat.reduceLeDiff, Nat.le_refl, Nat.reduceEqDiff, ↓reduceIte, beq_self_eq_true, bne_self_eq_false, Int.reduceBEq, Int.reduceBNe, or_self, true_or, or_true, Option.map_some, Option.map_none, hz, hu]) | (refine AW.seq_k fun K hK => ?_) | (refine AW.condT rfl (by first | rfl | (simp; omega) | (simp [*]; done) | fail) ?_) | (refine hK _ ?_; clear hK K) | (with_reducible refine And.intro ?_ ?_; first | omega | assumption | (focus (decide)) | (focus (simp; done)) | (focus (simp; omega)) | (focus (constructor <;> omega)) | fail) | (refine AW.ret (Fin.data rfl (by first | (simp only [go_sem]; done) | (simp [go_sem, *]; done) | (simp [go_sem]; omega) | rfl) rfl)))
  · rw [if_neg hu]
    repeat' (first | (refine AW.sreg rfl fun K hK => ?_; simp only [go_sem, Nat.reduceAdd, Nat.reduceMul, Int.reduceToNat, Nat.reduceLT, Nat.reduceLeDiff, Nat.le_refl, Nat.reduceEqDiff, ↓reduceIte, beq_self_eq_true, bne_self_eq_false, Int.reduceBEq, Int.reduceBNe, or_self, true_or, or_true, Option.map_some, Option.map_none, hz, hu]) | (refine AW.seq_k fun K hK => ?_) | (refine AW.skip ?_; simp only [Then, InBlock]) | (refine AW.condF rfl (by first | rfl | (simp; omega) | (simp [*]; done) | fail) ?_) | (refine hK _ ?_; clear hK K) | (with_reducible refine And.intro ?_ ?_; first | omega | assumption | (focus (decide)) | (focus (simp; done)) | (focus (simp; omega)) | (focus (constructor <;> omega)) | fail) | (refine AW.ret (Fin.data rfl (by first | (simp only [go_sem]; done) | (simp [go_sem, *]; done) | (simp [go_sem]; omega) | rfl) rfl)))
theorem nodup_subN : ∀ (l r : List Nat), l.Nodup → (∀ x ∈ l, x ∈ r) → l.length ≤ r.length
  | [], _, _, _ => Nat.zero_le _
  | x :: l, r, hn, h => by
    have hn' := List.nodup_cons.1 hn
    have hx := h x (by simp)
    have ih := nodup_subN l (r.erase x) hn'.2 fun y hy => by
      have hne : y ≠ x := by rintro rfl; exact hn'.1 hy
      exact (List.mem_erase_of_ne hne).2 (h y (List.mem_cons_of_mem _ hy))
    rw [List.length_erase_of_mem hx] at ih
    have := List.length_pos_of_mem hx
    simp only [List.length_cons]
    omega
/-- Some places of a map were seen: there the new map holds what it should. -/
structure Sn (ks : List Str) (g : Str → Int) (seen : List Nat) (wm : IM) : Prop where
  nd : seen.Nodup
  lt : ∀ j ∈ seen, j < ks.length
  ok : ∀ j ∈ seen, ∀ x, ks[j]? = some x → imG wm x = g x
theorem Sn.nil (ks : List Str) (g : Str → Int) (wm : IM) : Sn ks g [] wm := ⟨List.nodup_nil, by simp, by simp⟩
theorem Sn.add {ks : List Str} {g : Str → Int} {seen : List Nat} {wm : IM} (h : Sn ks g seen wm) {j : Nat} {x : Str} (hj : j ∉ seen) (hx : ks[j]? = some x) : Sn ks g (seen ++ [j]) (imP wm x (g x)) where
  nd := by rw [List.nodup_append]; exact ⟨h.nd, by simp, fun a ha b hb => by simp at hb; subst hb; rintro rfl; exact hj ha⟩
  lt := fun i hi => by
    rcases List.mem_append.1 hi with hi | hi
    · exact h.lt i hi
    · obtain rfl := List.mem_singleton.1 hi
      exact get_lt hx
  ok := fun i hi y hy => by
    rw [imG_put]
    split
    · rename_i e; rw [e]
    · rename_i e
      rcases List.mem_append.1 hi with hi | hi
      · exact h.ok i hi y hy
      · obtain rfl := List.mem_singleton.1 hi
        rw [hx] at hy
        cases hy
        exact absurd rfl e
theorem Sn.all {ks : List Str} {g : Str → Int} {seen : List Nat} {wm : IM} (h : Sn ks g seen wm) (hd : ∀ i, i < ks.length → i ∈ seen) : ∀ x ∈ ks, imG wm x = g x := fun x hx => by
  obtain ⟨i, hi⟩ := List.getElem?_of_mem hx
  exact h.ok i (hd i (get_lt hi)) x hi
theorem Sn.len {ks : List Str} {g : Str → Int} {seen : List Nat} {wm : IM} (h : Sn ks g seen wm) {j : Nat} (hj : j ∉ seen) (hl : j < ks.length) : seen.length < ks.length := by
  have hn : (seen ++ [j]).Nodup := by rw [List.nodup_append]; exact ⟨h.nd, by simp, fun a ha b hb => by simp at hb; subst hb; rintro rfl; exact hj ha⟩
  have := nodup_subN (seen ++ [j]) (List.range ks.length) hn fun i hi => by
    rcases List.mem_append.1 hi with hi | hi
    · exact List.mem_range.2 (h.lt i hi)
    · obtain rfl := List.mem_singleton.1 hi
      exact List.mem_range.2 hl
  simp at this
  omega
theorem mem_sheetP {ms : List Mk} {q : (List Str × List D) × (List Str × List D)} (hq : ShOk ms q) {m : Mk} (hm : m ∈ ms) : m.1 ∈ q.1.1 := (hq.pa.mem m.1).2 (List.ne_nil_of_mem (mem_gP.2 ⟨hm, rfl⟩))
theorem mem_sheetQ {ms : List Mk} {q : (List Str × List D) × (List Str × List D)} (hq : ShOk ms q) {m : Mk} (hm : m ∈ ms) : m.2.1 ∈ q.2.1 := (hq.pe.mem m.2.1).2 (List.ne_nil_of_mem (List.mem_filter.2 ⟨hm, by simp⟩))
theorem balanced_any (ms : List Mk) (hl : ms.length ≤ 42) (h10 : In10 (scs ms)) (q : (List Str × List D) × (List Str × List D)) (hq : ShOk ms q) : DoesI Tryz.prog 116 [shV ms q, I 20] [] (fun r : IM × IM => ∀ p ∈ q.1.1, imG r.1 p = blW ms 19 p) (fun r => .tup [.d (.map (r.1.map fun x => D.str x.1) (r.1.map fun x => D.int .i64 x.2)), .d (.map (r.2.map fun x => D.str x.1) (r.2.map fun x => D.int .i64 x.2))]) (fun _ => []) := by
  refine DoesI.of_AW (n := 92) Tryz.func116 rfl rfl rfl fun cx hcx => ?_
  have hvp := hq.pa.vlen
  have hvq := hq.pe.vlen
  repeat' (first | (refine AW.sreg rfl fun K hK => ?_; simp only [go_sem, Nat.reduceAdd, Nat.reduceMul, Int.reduceToNat, Nat.reduceLT, Nat.reduceLeDiff, Nat.le_refl, Nat.reduceEqDiff, ↓reduceIte, beq_self_eq_true, bne_self_eq_false, Int.reduceBEq, Int.reduceBNe, or_self, true_or, or_true, Option.map_some, Option.map_none, List.length_map]) | (refine AW.seq_k fun K hK => ?_) | (refine AW.block ?_) | (refine hK _ ?_; clear hK K))
  refine AW.loopF (ι := Nat × IM × IM) [0, 4, 5, 18] (fun p => [(19, I p.1)]) (fun p => [(192, some (IMO p.2.2)), (128, some (IMO p.2.1))]) 8 (fun p => p.1 ≤ 20 ∧ (p.1 = 0 ∨ ∀ x ∈ q.1.1, imG p.2.1 x = blW ms (p.1 - 1) x) ∧ (∀ h ∈ q.2.1, imG p.2.2 h = blB ms p.1 h)) (fun p => 20 - p.1) (0, [], []) ⟨Nat.zero_le _, .inl rfl, fun h _ => by simp [imG, imI, blB]⟩ (Weak.auto hcx rfl rfl (Nat.le_of_ble_eq_true rfl) (by simp [go_sem, gL, kL, renOf, V.obj, lk, Nat.blt, Nat.ble, List.map_append, dv_push, dvz, List.map_nil]) (by simp [go_sem, gL, kL, renOf, V.obj, lk, Nat.blt, Nat.ble, List.map_append, dv_push, dvz, List.map_nil]) (by first | (intro i hi; exact absurd hi (Nat.not_lt_zero _)) | (intro i0 hi0; match i0, hi0 with | 0, _ => exact ⟨_, rfl⟩ | n0+1, h0 => exact absurd h0 (Nat.not_lt.2 (Nat.le_add_left 1 n0))) | (intro i0 hi0; match i0, hi0 with | 0, _ => exact ⟨_, rfl⟩ | 1, _ => exact ⟨_, rfl⟩ | n0+2, h0 => exact absurd h0 (Nat.not_lt.2 (Nat.le_add_left 2 n0))) | (intro i0 hi0; match i0, hi0 with | 0, _ => exact ⟨_, rfl⟩ | 1, _ => exact ⟨_, rfl⟩ | 2, _ => exact ⟨_, rfl⟩ | n0+3, h0 => exact absurd h0 (Nat.not_lt.2 (Nat.le_add_left 3 n0))) | (intro i0 hi0; match i0, hi0 with | 0, _ => exact ⟨_, rfl⟩ | 1, _ => exact ⟨_, rfl⟩ | 2, _ => exact ⟨_, rfl⟩ | 3, _ => exact ⟨_, rfl⟩ | n0+4, h0 => exact absurd h0 (Nat.not_lt.2 (Nat.le_add_left 4 n0)))) (by simp [go_sem, gL, kL, lk, renOf, V.obj, Nat.blt, Nat.ble, dvz, List.map_nil])) ?_; simp only [St.at_nil, St.at_cons, lk, Nat.reduceEqDiff, ↓reduceIte, Option.getD_some, Option.getD_none, List.cons_append, List.nil_append, List.append_nil]
  rintro ⟨t, wm0, bm0⟩ ⟨g1, g2, g3⟩
  simp only at g1 g2 g3 ⊢
  by_cases ht : t < 20
  · repeat' (first | (refine AW.sreg rfl fun K hK => ?_; simp only [go_sem, Nat.reduceAdd, Nat.reduceMul, Int.reduceToNat, Nat.reduceLT, Nat.reduceLeDiff, Nat.le_refl, Nat.reduceEqDiff, ↓reduceIte, beq_self_eq_true, bne_self_eq_false, Int.reduceBEq, Int.reduceBNe, or_self, true_or, or_true, Option.map_some, Option.map_none, List.length_map]) | (refine AW.seq_k fun K hK => ?_) | (refine AW.block ?_) | (refine AW.skip ?_; simp only [Then, InBlock]) | (refine AW.condT rfl (by first | rfl | (simp; omega) | (simp [*]; done) | fail) ?_) | (refine hK _ ?_; clear hK K))
    refine AW.loopF (ι := List Nat × IM) [0, 4, 5, 18, 19, 25] (fun p => []) (fun p => [(832, some (O.miter (.d (.map (q.1.1.map D.str) q.1.2)) q.1.1.length p.1.getLast? (.lst p.1))), (192, some (IMO bm0)), (128, some (IMO p.2))]) 14 (fun p => Sn q.1.1 (blW ms t) p.1 p.2) (fun p => q.1.1.length - p.1.length) ([], wm0) (Sn.nil _ _ _) (Weak.auto hcx rfl rfl (Nat.le_of_ble_eq_true rfl) (by simp [go_sem, gL, kL, renOf, V.obj, lk, Nat.blt, Nat.ble, List.map_append, dv_push, List.length_map, List.getLast?_nil]) (by simp [go_sem, gL, kL, renOf, V.obj, lk, Nat.blt, Nat.ble, List.map_append, dv_push, List.length_map, List.getLast?_nil]) (by first | (intro i hi; exact absurd hi (Nat.not_lt_zero _)) | (intro i0 hi0; match i0, hi0 with | 0, _ => exact ⟨_, rfl⟩ | n0+1, h0 => exact absurd h0 (Nat.not_lt.2 (Nat.le_add_left 1 n0))) | (intro i0 hi0; match i0, hi0 with | 0, _ => exact ⟨_, rfl⟩ | 1, _ => exact ⟨_, rfl⟩ | n0+2, h0 => exact absurd h0 (Nat.not_lt.2 (Nat.le_add_left 2 n0))) | (intro i0 hi0; match i0, hi0 with | 0, _ => exact ⟨_, rfl⟩ | 1, _ => exact ⟨_, rfl⟩ | 2, _ => exact ⟨_, rfl⟩ | n0+3, h0 => exact absurd h0 (Nat.not_lt.2 (Nat.le_add_left 3 n0))) | (intro i0 hi0; match i0, hi0 with | 0, _ => exact ⟨_, rfl⟩ | 1, _ => exact ⟨_, rfl⟩ | 2, _ => exact ⟨_, rfl⟩ | 3, _ => exact ⟨_, rfl⟩ | n0+4, h0 => exact absurd h0 (Nat.not_lt.2 (Nat.le_add_left 4 n0)))) (by simp [go_sem, gL, kL, lk, renOf, V.obj, Nat.blt, Nat.ble, List.length_map, List.getLast?_nil])) ?_; simp only [St.at_nil, St.at_cons, lk, Nat.reduceEqDiff, ↓reduceIte, Option.getD_some, Option.getD_none, List.cons_append, List.nil_append, List.append_nil]
    rintro ⟨seen, wm⟩ k1
    simp only at k1 ⊢
    repeat' (first | (refine AW.sreg rfl fun K hK => ?_; simp only [go_sem, Nat.reduceAdd, Nat.reduceMul, Int.reduceToNat, Nat.reduceLT, Nat.reduceLeDiff, Nat.le_refl, Nat.reduceEqDiff, ↓reduceIte, beq_self_eq_true, bne_self_eq_false, Int.reduceBEq, Int.reduceBNe, or_self, true_or, or_true, Option.map_some, Option.map_none, List.length_map]))
    refine run_next rfl rfl rfl rfl (dstOk_of rfl) (by simp) (by simp [hvp]) (fun hd => ?_) (fun j kk vv hm hk hv => ?_)
    rotate_left
    · obtain ⟨x, hx, rfl⟩ : ∃ x, q.1.1[j]? = some x ∧ kk = D.str x := by
        rw [List.getElem?_map] at hk
        obtain ⟨x, hx, e⟩ := Option.map_eq_some_iff.1 hk
        exact ⟨x, hx, e.symm⟩
      have hjl := get_lt hx
      obtain ⟨hgv, hne⟩ := hq.pa.idx hx
      have hget : (q.1.1.map D.str)[j]? = some (.str x) := by simp only [List.getElem?_map, hx, Option.map_some]
      have hvv : vv = .d (.sl ((gP ms x).map mkD)) := by rw [hgv] at hv; cases hv; rfl
      subst hvv
      have hlen := k1.len hm hjl
      have hadd := k1.add hm hx
      have hgl := gP_len ms x
      have hpos : 1 ≤ (gP ms x).length := List.length_pos_iff.2 hne
      simp only [go_sem, Nat.reduceAdd, Nat.reduceMul, Int.reduceToNat, Nat.reduceLT, Nat.reduceLeDiff, Nat.le_refl, Nat.reduceEqDiff, ↓reduceIte, beq_self_eq_true, bne_self_eq_false, Int.reduceBEq, Int.reduceBNe, or_self, true_or, or_true, Option.map_some, Option.map_none, List.length_map]
      repeat' (first | (refine AW.sreg rfl fun K hK => ?_; simp only [go_sem, Nat.reduceAdd, Nat.reduceMul, Int.reduceToNat, Nat.reduceLT, Nat.reduceLeDiff, Nat.le_refl, Nat.reduceEqDiff, ↓reduceIte, beq_self_eq_true, bne_self_eq_false, Int.reduceBEq, Int.reduceBNe, or_self, true_or, or_true, Option.map_some, Option.map_none, List.length_map]) | (refine AW.seq_k fun K hK => ?_) | (refine AW.block ?_) | (refine AW.skip ?_; simp only [Then, InBlock]) | (refine AW.condT rfl (by first | rfl | (simp; omega) | (simp [*]; done) | fail) ?_) | (refine hK _ ?_; clear hK K))
      refine run_entry rfl rfl rfl rfl (dstOk_of rfl) (by simp) hget hgv ?_
      simp only [go_sem, Nat.reduceAdd, Nat.reduceMul, Int.reduceToNat, Nat.reduceLT, Nat.reduceLeDiff, Nat.le_refl, Nat.reduceEqDiff, ↓reduceIte, beq_self_eq_true, bne_self_eq_false, Int.reduceBEq, Int.reduceBNe, or_self, true_or, or_true, Option.map_some, Option.map_none, List.length_map]
      repeat' (first | (refine AW.sreg rfl fun K hK => ?_; simp only [go_sem, Nat.reduceAdd, Nat.reduceMul, Int.reduceToNat, Nat.reduceLT, Nat.reduceLeDiff, Nat.le_refl, Nat.reduceEqDiff, ↓reduceIte, beq_self_eq_true, bne_self_eq_false, Int.reduceBEq, Int.reduceBNe, or_self, true_or, or_true, Option.map_some, Option.map_none, List.length_map]) | (refine AW.seq_k fun K hK => ?_) | (refine AW.block ?_) | (refine hK _ ?_; clear hK K))
      refine AW.loopF (ι := Nat) [0, 4, 5, 6, 7, 18, 19, 25, 31, 32] (fun p => [(8, I (rsF (fun m => blB ms t m.2.1) ((gP ms x).take p))), (33, I p)]) (fun p => [(832, some (O.miter (.d (.map (q.1.1.map D.str) q.1.2)) q.1.1.length (some j) (.lst (seen ++ [j])))), (192, some (IMO bm0)), (128, some (IMO wm))]) 25 (fun p => p ≤ (gP ms x).length) (fun p => (gP ms x).length - p) 0 (Nat.zero_le _) (Weak.auto hcx rfl rfl (Nat.le_of_ble_eq_true rfl) (by simp [go_sem, gL, kL, renOf, V.obj, lk, Nat.blt, Nat.ble, List.map_append, dv_push, List.take_zero, rsF, List.foldl_nil]) (by simp [go_sem, gL, kL, renOf, V.obj, lk, Nat.blt, Nat.ble, List.map_append, dv_push, List.take_zero, rsF, List.foldl_nil]) (by first | (intro i hi; exact absurd hi (Nat.not_lt_zero _)) | (intro i0 hi0; match i0, hi0 with | 0, _ => exact ⟨_, rfl⟩ | n0+1, h0 => exact absurd h0 (Nat.not_lt.2 (Nat.le_add_left 1 n0))) | (intro i0 hi0; match i0, hi0 with | 0, _ => exact ⟨_, rfl⟩ | 1, _ => exact ⟨_, rfl⟩ | n0+2, h0 => exact absurd h0 (Nat.not_lt.2 (Nat.le_add_left 2 n0))) | (intro i0 hi0; match i0, hi0 with | 0, _ => exact ⟨_, rfl⟩ | 1, _ => exact ⟨_, rfl⟩ | 2, _ => exact ⟨_, rfl⟩ | n0+3, h0 => exact absurd h0 (Nat.not_lt.2 (Nat.le_add_left 3 n0))) | (intro i0 hi0; match i0, hi0 with | 0, _ => exact ⟨_, rfl⟩ | 1, _ => exact ⟨_, rfl⟩ | 2, _ => exact ⟨_, rfl⟩ | 3, _ => exact ⟨_, rfl⟩ | n0+4, h0 => exact absurd h0 (Nat.not_lt.2 (Nat.le_add_left 4 n0)))) (by simp [go_sem, gL, kL, lk, renOf, V.obj, Nat.blt, Nat.ble, List.take_zero, rsF, List.foldl_nil])) ?_; simp only [St.at_nil, St.at_cons, lk, Nat.reduceEqDiff, ↓reduceIte, Option.getD_some, Option.getD_none, List.cons_append, List.nil_append, List.append_nil]
      intro i e1
      have hso := rsF_ok (f := (fun m => blB ms t m.2.1)) (C := (t : Int) * 20000000) (l := (gP ms x).take i) (fun y hy => gP_in h10 x y (by simp only [scs, List.map_take] at hy ⊢; exact List.mem_of_mem_take hy)) (fun m _ => blB_bd h10 t m.2.1)
      rw [List.length_take] at hso
      have hbig := hso.big (by omega) (by omega)
      by_cases hi : i < (gP ms x).length
      · obtain ⟨o, ho, hom, -⟩ := get_some hi
        have hget2 : ((gP ms x).map mkD)[i]? = some (mkD o) := by simp only [List.getElem?_map, ho, Option.map_some]
        have hsn := rsF_snoc (f := (fun m => blB ms t m.2.1)) ho
        have hos := h10 o.2.2 (List.mem_map_of_mem (List.mem_filter.1 hom).1)
        have hrd : imG bm0 o.2.1 = blB ms t o.2.1 := g3 o.2.1 (mem_sheetQ hq (List.mem_filter.1 hom).1)
        have hrb := blB_bd h10 t o.2.1
        have hf := fnd_im bm0 o.2.1
        (try simp only at hsn)
        generalize rsF (fun m => blB ms t m.2.1) ((gP ms x).take i) = su at *
        generalize blB ms t o.2.1 = rv at *
        cases hoo : imI bm0 o.2.1 with
        | none =>
          rw [hoo] at hf
          rw [imG_none hoo] at hrd
          subst hrd
          repeat' (first | ((first | refine AW.sreg rfl fun K hK => ?_ | refine AW.reg rfl ?_); simp only [go_sem, Nat.reduceAdd, Nat.reduceMul, Int.reduceToNat, Nat.reduceLT, Nat.reduceLeDiff, Nat.le_refl, Nat.reduceEqDiff, ↓reduceIte, beq_self_eq_true, bne_self_eq_false, Int.reduceBEq, Int.reduceBNe, or_self, true_or, or_true, Option.map_some, Option.map_none, List.length_map, hget2, hf]) | (refine AW.seq_k fun K hK => ?_) | (refine AW.block ?_) | (refine AW.skip ?_; simp only [Then, InBlock]) | (refine AW.condT rfl (by first | rfl | (simp; omega) | (simp [*]; done) | fail) ?_) | (refine hK _ ?_; clear hK K) | (with_reducible refine And.intro ?_ ?_; first | omega | assumption | (focus (decide)) | (focus (simp; done)) | (focus (simp; omega)) | (focus (constructor <;> omega)) | fail))
          exact ⟨i + 1, hi, by omega, (Weak.auto hcx rfl rfl (Nat.le_of_ble_eq_true rfl) (by simp [go_sem, gL, kL, renOf, V.obj, lk, Nat.blt, Nat.ble, List.map_append, dv_push, hsn]) (by simp [go_sem, gL, kL, renOf, V.obj, lk, Nat.blt, Nat.ble, List.map_append, dv_push, hsn]) (by first | (intro i hi; exact absurd hi (Nat.not_lt_zero _)) | (intro i0 hi0; match i0, hi0 with | 0, _ => exact ⟨_, rfl⟩ | n0+1, h0 => exact absurd h0 (Nat.not_lt.2 (Nat.le_add_left 1 n0))) | (intro i0 hi0; match i0, hi0 with | 0, _ => exact ⟨_, rfl⟩ | 1, _ => exact ⟨_, rfl⟩ | n0+2, h0 => exact absurd h0 (Nat.not_lt.2 (Nat.le_add_left 2 n0))) | (intro i0 hi0; match i0, hi0 with | 0, _ => exact ⟨_, rfl⟩ | 1, _ => exact ⟨_, rfl⟩ | 2, _ => exact ⟨_, rfl⟩ | n0+3, h0 => exact absurd h0 (Nat.not_lt.2 (Nat.le_add_left 3 n0))) | (intro i0 hi0; match i0, hi0 with | 0, _ => exact ⟨_, rfl⟩ | 1, _ => exact ⟨_, rfl⟩ | 2, _ => exact ⟨_, rfl⟩ | 3, _ => exact ⟨_, rfl⟩ | n0+4, h0 => exact absurd h0 (Nat.not_lt.2 (Nat.le_add_left 4 n0)))) (by simp [go_sem, gL, kL, lk, renOf, V.obj, Nat.blt, Nat.ble, hsn]))⟩
        | some z =>
          obtain ⟨v, hv2, hgo⟩ := imI_some hoo
          rw [hgo] at hrd
          subst hrd
          rw [hoo] at hf
          have hgg : (dv (bm0.map fun q => D.int .i64 q.2))[z]? = some (.d (.int .i64 v)) := by simp [dv, hv2]
          repeat' (first | ((first | refine AW.sreg rfl fun K hK => ?_ | refine AW.reg rfl ?_); simp only [go_sem, Nat.reduceAdd, Nat.reduceMul, Int.reduceToNat, Nat.reduceLT, Nat.reduceLeDiff, Nat.le_refl, Nat.reduceEqDiff, ↓reduceIte, beq_self_eq_true, bne_self_eq_false, Int.reduceBEq, Int.reduceBNe, or_self, true_or, or_true, Option.map_some, Option.map_none, List.length_map, hget2, hf, hgg]) | (refine AW.seq_k fun K hK => ?_) | (refine AW.block ?_) | (refine AW.skip ?_; simp only [Then, InBlock]) | (refine AW.condT rfl (by first | rfl | (simp; omega) | (simp [*]; done) | fail) ?_) | (refine hK _ ?_; clear hK K) | (with_reducible refine And.intro ?_ ?_; first | omega | assumption | (focus (decide)) | (focus (simp; done)) | (focus (simp; omega)) | (focus (constructor <;> omega)) | fail))
          exact ⟨i + 1, hi, by omega, (Weak.auto hcx rfl rfl (Nat.le_of_ble_eq_true rfl) (by simp [go_sem, gL, kL, renOf, V.obj, lk, Nat.blt, Nat.ble, List.map_append, dv_push, hsn]) (by simp [go_sem, gL, kL, renOf, V.obj, lk, Nat.blt, Nat.ble, List.map_append, dv_push, hsn]) (by first | (intro i hi; exact absurd hi (Nat.not_lt_zero _)) | (intro i0 hi0; match i0, hi0 with | 0, _ => exact ⟨_, rfl⟩ | n0+1, h0 => exact absurd h0 (Nat.not_lt.2 (Nat.le_add_left 1 n0))) | (intro i0 hi0; match i0, hi0 with | 0, _ => exact ⟨_, rfl⟩ | 1, _ => exact ⟨_, rfl⟩ | n0+2, h0 => exact absurd h0 (Nat.not_lt.2 (Nat.le_add_left 2 n0))) | (intro i0 hi0; match i0, hi0 with | 0, _ => exact ⟨_, rfl⟩ | 1, _ => exact ⟨_, rfl⟩ | 2, _ => exact ⟨_, rfl⟩ | n0+3, h0 => exact absurd h0 (Nat.not_lt.2 (Nat.le_add_left 3 n0))) | (intro i0 hi0; match i0, hi0 with | 0, _ => exact ⟨_, rfl⟩ | 1, _ => exact ⟨_, rfl⟩ | 2, _ => exact ⟨_, rfl⟩ | 3, _ => exact ⟨_, rfl⟩ | n0+4, h0 => exact absurd h0 (Nat.not_lt.2 (Nat.le_add_left 4 n0)))) (by simp [go_sem, gL, kL, lk, renOf, V.obj, Nat.blt, Nat.ble, hsn]))⟩
      · obtain rfl : i = (gP ms x).length := by omega
        rw [List.take_length] at *
        have hfl := floor_any (rsF (fun m => blB ms t m.2.1) (gP ms x)) (gP ms x).length hbig (by omega)
        have hge : (blW ms t) x = rsF (fun m => blB ms t m.2.1) (gP ms x) / ((gP ms x).length : Int) := rfl
        rw [hge] at hadd
        generalize rsF (fun m => blB ms t m.2.1) (gP ms x) / ((gP ms x).length : Int) = fv at *
        generalize rsF (fun m => blB ms t m.2.1) (gP ms x) = su at *
        have hf := fnd_im wm x
        cases hoo : imI wm x with
        | none =>
          rw [hoo] at hf
          rw [imP_none hoo] at hadd
          repeat' (first | ((first | refine AW.sreg rfl fun K hK => ?_ | refine AW.reg rfl ?_ | refine run_call _ _ _ ((hfl).pure rfl rfl _ _) rfl rfl (dstOk_of rfl) rfl rfl rfl ?_); simp only [go_sem, Nat.reduceAdd, Nat.reduceMul, Int.reduceToNat, Nat.reduceLT, Nat.reduceLeDiff, Nat.le_refl, Nat.reduceEqDiff, ↓reduceIte, beq_self_eq_true, bne_self_eq_false, Int.reduceBEq, Int.reduceBNe, or_self, true_or, or_true, Option.map_some, Option.map_none, List.length_map, hf]) | (refine AW.seq_k fun K hK => ?_) | (refine AW.exit ?_; simp only [go_sem, ↓reduceIte]) | (refine AW.condF rfl (by first | rfl | (simp; omega) | (simp [*]; done) | fail) ?_) | (refine hK _ ?_; clear hK K) | (clear hK K; refine hK _ ?_; clear hK K))
          exact ⟨(seen ++ [j], wm ++ [(x, fv)]), hadd, by simp only [List.length_append, List.length_singleton]; omega, (Weak.auto hcx rfl rfl (Nat.le_of_ble_eq_true rfl) (by simp [go_sem, gL, kL, renOf, V.obj, lk, Nat.blt, Nat.ble, List.map_append, dv_push, List.getLast?_concat]) (by simp [go_sem, gL, kL, renOf, V.obj, lk, Nat.blt, Nat.ble, List.map_append, dv_push, List.getLast?_concat]) (by first | (intro i hi; exact absurd hi (Nat.not_lt_zero _)) | (intro i0 hi0; match i0, hi0 with | 0, _ => exact ⟨_, rfl⟩ | n0+1, h0 => exact absurd h0 (Nat.not_lt.2 (Nat.le_add_left 1 n0))) | (intro i0 hi0; match i0, hi0 with | 0, _ => exact ⟨_, rfl⟩ | 1, _ => exact ⟨_, rfl⟩ | n0+2, h0 => exact absurd h0 (Nat.not_lt.2 (Nat.le_add_left 2 n0))) | (intro i0 hi0; match i0, hi0 with | 0, _ => exact ⟨_, rfl⟩ | 1, _ => exact ⟨_, rfl⟩ | 2, _ => exact ⟨_, rfl⟩ | n0+3, h0 => exact absurd h0 (Nat.not_lt.2 (Nat.le_add_left 3 n0))) | (intro i0 hi0; match i0, hi0 with | 0, _ => exact ⟨_, rfl⟩ | 1, _ => exact ⟨_, rfl⟩ | 2, _ => exact ⟨_, rfl⟩ | 3, _ => exact ⟨_, rfl⟩ | n0+4, h0 => exact absurd h0 (Nat.not_lt.2 (Nat.le_add_left 4 n0)))) (by simp [go_sem, gL, kL, lk, renOf, V.obj, Nat.blt, Nat.ble, List.getLast?_concat]))⟩
        | some z =>
          obtain ⟨v, hv2, hgo⟩ := imI_some hoo
          rw [hoo] at hf
          rw [imP_some hoo] at hadd
          have hkk := imP_keys hv2
          have hvv2 := imP_vals wm x z fv
          have hk22 := imP_keys2 (v2 := fv) hv2
          have hjl2 := get_lt hv2
          repeat' (first | ((first | refine AW.sreg rfl fun K hK => ?_ | refine AW.reg rfl ?_ | refine run_call _ _ _ ((hfl).pure rfl rfl _ _) rfl rfl (dstOk_of rfl) rfl rfl rfl ?_); simp only [go_sem, Nat.reduceAdd, Nat.reduceMul, Int.reduceToNat, Nat.reduceLT, Nat.reduceLeDiff, Nat.le_refl, Nat.reduceEqDiff, ↓reduceIte, beq_self_eq_true, bne_self_eq_false, Int.reduceBEq, Int.reduceBNe, or_self, true_or, or_true, Option.map_some, Option.map_none, List.length_map, hf, hkk]) | (refine AW.seq_k fun K hK => ?_) | (refine AW.exit ?_; simp only [go_sem, ↓reduceIte]) | (refine AW.condF rfl (by first | rfl | (simp; omega) | (simp [*]; done) | fail) ?_) | (refine hK _ ?_; clear hK K) | (clear hK K; refine hK _ ?_; clear hK K))
          exact ⟨(seen ++ [j], wm.set z (x, fv)), hadd, by simp only [List.length_append, List.length_singleton]; omega, (Weak.auto hcx rfl rfl (Nat.le_of_ble_eq_true rfl) (by simp [go_sem, gL, kL, renOf, V.obj, lk, Nat.blt, Nat.ble, List.map_append, dv_push, hkk, hk22, hvv2, dv_set1, List.getLast?_concat]) (by simp [go_sem, gL, kL, renOf, V.obj, lk, Nat.blt, Nat.ble, List.map_append, dv_push, hkk, hk22, hvv2, dv_set1, List.getLast?_concat]) (by first | (intro i hi; exact absurd hi (Nat.not_lt_zero _)) | (intro i0 hi0; match i0, hi0 with | 0, _ => exact ⟨_, rfl⟩ | n0+1, h0 => exact absurd h0 (Nat.not_lt.2 (Nat.le_add_left 1 n0))) | (intro i0 hi0; match i0, hi0 with | 0, _ => exact ⟨_, rfl⟩ | 1, _ => exact ⟨_, rfl⟩ | n0+2, h0 => exact absurd h0 (Nat.not_lt.2 (Nat.le_add_left 2 n0))) | (intro i0 hi0; match i0, hi0 with | 0, _ => exact ⟨_, rfl⟩ | 1, _ => exact ⟨_, rfl⟩ | 2, _ => exact ⟨_, rfl⟩ | n0+3, h0 => exact absurd h0 (Nat.not_lt.2 (Nat.le_add_left 3 n0))) | (intro i0 hi0; match i0, hi0 with | 0, _ => exact ⟨_, rfl⟩ | 1, _ => exact ⟨_, rfl⟩ | 2, _ => exact ⟨_, rfl⟩ | 3, _ => exact ⟨_, rfl⟩ | n0+4, h0 => exact absurd h0 (Nat.not_lt.2 (Nat.le_add_left 4 n0)))) (by simp [go_sem, gL, kL, lk, renOf, V.obj, Nat.blt, Nat.ble, hkk, hk22, hvv2, dv_set1, List.getLast?_concat]))⟩
    · have hw := k1.all hd
      clear k1 hd g2
      simp only [go_sem, Nat.reduceAdd, Nat.reduceMul, Int.reduceToNat, Nat.reduceLT, Nat.reduceLeDiff, Nat.le_refl, Nat.reduceEqDiff, ↓reduceIte, beq_self_eq_true, bne_self_eq_false, Int.reduceBEq, Int.reduceBNe, or_self, true_or, or_true, Option.map_some, Option.map_none, List.length_map]
      repeat' (first | (refine AW.sreg rfl fun K hK => ?_; simp only [go_sem, Nat.reduceAdd, Nat.reduceMul, Int.reduceToNat, Nat.reduceLT, Nat.reduceLeDiff, Nat.le_refl, Nat.reduceEqDiff, ↓reduceIte, beq_self_eq_true, bne_self_eq_false, Int.reduceBEq, Int.reduceBNe, or_self, true_or, or_true, Option.map_some, Option.map_none, List.length_map]) | (refine AW.seq_k fun K hK => ?_) | (refine AW.block ?_) | (refine AW.exit ?_; simp only [go_sem, ↓reduceIte]) | (refine AW.condF rfl (by first | rfl | (simp; omega) | (simp [*]; done) | fail) ?_) | (refine hK _ ?_; clear hK K) | (clear hK K; refine hK _ ?_; clear hK K))
      refine AW.loopF (ι := List Nat × IM) [0, 4, 5, 18, 19, 59] (fun p => []) (fun p => [(1280, some (O.miter (.d (.map (q.2.1.map D.str) q.2.2)) q.2.1.length p.1.getLast? (.lst p.1))), (128, some (IMO wm)), (192, some (IMO p.2))]) 21 (fun p => Sn q.2.1 (blB ms (t + 1)) p.1 p.2) (fun p => q.2.1.length - p.1.length) ([], bm0) (Sn.nil _ _ _) (Weak.auto hcx rfl rfl (Nat.le_of_ble_eq_true rfl) (by simp [go_sem, gL, kL, renOf, V.obj, lk, Nat.blt, Nat.ble, List.map_append, dv_push, List.length_map, List.getLast?_nil]) (by simp [go_sem, gL, kL, renOf, V.obj, lk, Nat.blt, Nat.ble, List.map_append, dv_push, List.length_map, List.getLast?_nil]) (by first | (intro i hi; exact absurd hi (Nat.not_lt_zero _)) | (intro i0 hi0; match i0, hi0 with | 0, _ => exact ⟨_, rfl⟩ | n0+1, h0 => exact absurd h0 (Nat.not_lt.2 (Nat.le_add_left 1 n0))) | (intro i0 hi0; match i0, hi0 with | 0, _ => exact ⟨_, rfl⟩ | 1, _ => exact ⟨_, rfl⟩ | n0+2, h0 => exact absurd h0 (Nat.not_lt.2 (Nat.le_add_left 2 n0))) | (intro i0 hi0; match i0, hi0 with | 0, _ => exact ⟨_, rfl⟩ | 1, _ => exact ⟨_, rfl⟩ | 2, _ => exact ⟨_, rfl⟩ | n0+3, h0 => exact absurd h0 (Nat.not_lt.2 (Nat.le_add_left 3 n0))) | (intro i0 hi0; match i0, hi0 with | 0, _ => exact ⟨_, rfl⟩ | 1, _ => exact ⟨_, rfl⟩ | 2, _ => exact ⟨_, rfl⟩ | 3, _ => exact ⟨_, rfl⟩ | n0+4, h0 => exact absurd h0 (Nat.not_lt.2 (Nat.le_add_left 4 n0)))) (by simp [go_sem, gL, kL, lk, renOf, V.obj, Nat.blt, Nat.ble, List.length_map, List.getLast?_nil])) ?_; simp only [St.at_nil, St.at_cons, lk, Nat.reduceEqDiff, ↓reduceIte, Option.getD_some, Option.getD_none, List.cons_append, List.nil_append, List.append_nil]
      rintro ⟨seen, bm⟩ k1
      simp only at k1 ⊢
      repeat' (first | (refine AW.sreg rfl fun K hK => ?_; simp only [go_sem, Nat.reduceAdd, Nat.reduceMul, Int.reduceToNat, Nat.reduceLT, Nat.reduceLeDiff, Nat.le_refl, Nat.reduceEqDiff, ↓reduceIte, beq_self_eq_true, bne_self_eq_false, Int.reduceBEq, Int.reduceBNe, or_self, true_or, or_true, Option.map_some, Option.map_none, List.length_map]))
      refine run_next rfl rfl rfl rfl (dstOk_of rfl) (by simp) (by simp [hvq]) (fun hd => ?_) (fun j kk vv hm hk hv => ?_)
      rotate_left
      · obtain ⟨x, hx, rfl⟩ : ∃ x, q.2.1[j]? = some x ∧ kk = D.str x := by
          rw [List.getElem?_map] at hk
          obtain ⟨x, hx, e⟩ := Option.map_eq_some_iff.1 hk
          exact ⟨x, hx, e.symm⟩
        have hjl := get_lt hx
        obtain ⟨hgv, hne⟩ := hq.pe.idx hx
        have hget : (q.2.1.map D.str)[j]? = some (.str x) := by simp only [List.getElem?_map, hx, Option.map_some]
        have hvv : vv = .d (.sl ((gQ ms x).map mkD)) := by rw [hgv] at hv; cases hv; rfl
        subst hvv
        have hlen := k1.len hm hjl
        have hadd := k1.add hm hx
        have hgl := gQ_len ms x
        have hpos : 1 ≤ (gQ ms x).length := List.length_pos_iff.2 hne
        simp only [go_sem, Nat.reduceAdd, Nat.reduceMul, Int.reduceToNat, Nat.reduceLT, Nat.reduceLeDiff, Nat.le_refl, Nat.reduceEqDiff, ↓reduceIte, beq_self_eq_true, bne_self_eq_false, Int.reduceBEq, Int.reduceBNe, or_self, true_or, or_true, Option.map_some, Option.map_none, List.length_map]
        repeat' (first | (refine AW.sreg rfl fun K hK => ?_; simp only [go_sem, Nat.reduceAdd, Nat.reduceMul, Int.reduceToNat, Nat.reduceLT, Nat.reduceLeDiff, Nat.le_refl, Nat.reduceEqDiff, ↓reduceIte, beq_self_eq_true, bne_self_eq_false, Int.reduceBEq, Int.reduceBNe, or_self, true_or, or_true, Option.map_some, Option.map_none, List.length_map]) | (refine AW.seq_k fun K hK => ?_) | (refine AW.block ?_) | (refine AW.skip ?_; simp only [Then, InBlock]) | (refine AW.condT rfl (by first | rfl | (simp; omega) | (simp [*]; done) | fail) ?_) | (refine hK _ ?_; clear hK K))
        refine run_entry rfl rfl rfl rfl (dstOk_of rfl) (by simp) hget hgv ?_
        simp only [go_sem, Nat.reduceAdd, Nat.reduceMul, Int.reduceToNat, Nat.reduceLT, Nat.reduceLeDiff, Nat.le_refl, Nat.reduceEqDiff, ↓reduceIte, beq_self_eq_true, bne_self_eq_false, Int.reduceBEq, Int.reduceBNe, or_self, true_or, or_true, Option.map_some, Option.map_none, List.length_map]
        repeat' (first | (refine AW.sreg rfl fun K hK => ?_; simp only [go_sem, Nat.reduceAdd, Nat.reduceMul, Int.reduceToNat, Nat.reduceLT, Nat.reduceLeDiff, Nat.le_refl, Nat.reduceEqDiff, ↓reduceIte, beq_self_eq_true, bne_self_eq_false, Int.reduceBEq, Int.reduceBNe, or_self, true_or, or_true, Option.map_some, Option.map_none, List.length_map]) | (refine AW.seq_k fun K hK => ?_) | (refine AW.block ?_) | (refine hK _ ?_; clear hK K))
        refine AW.loopF (ι := Nat) [0, 4, 5, 11, 12, 18, 19, 59, 65, 66] (fun p => [(13, I (rsF (fun m => blW ms t m.1) ((gQ ms x).take p))), (67, I p)]) (fun p => [(1280, some (O.miter (.d (.map (q.2.1.map D.str) q.2.2)) q.2.1.length (some j) (.lst (seen ++ [j])))), (128, some (IMO wm)), (192, some (IMO bm))]) 32 (fun p => p ≤ (gQ ms x).length) (fun p => (gQ ms x).length - p) 0 (Nat.zero_le _) (Weak.auto hcx rfl rfl (Nat.le_of_ble_eq_true rfl) (by simp [go_sem, gL, kL, renOf, V.obj, lk, Nat.blt, Nat.ble, List.map_append, dv_push, List.take_zero, rsF, List.foldl_nil]) (by simp [go_sem, gL, kL, renOf, V.obj, lk, Nat.blt, Nat.ble, List.map_append, dv_push, List.take_zero, rsF, List.foldl_nil]) (by first | (intro i hi; exact absurd hi (Nat.not_lt_zero _)) | (intro i0 hi0; match i0, hi0 with | 0, _ => exact ⟨_, rfl⟩ | n0+1, h0 => exact absurd h0 (Nat.not_lt.2 (Nat.le_add_left 1 n0))) | (intro i0 hi0; match i0, hi0 with | 0, _ => exact ⟨_, rfl⟩ | 1, _ => exact ⟨_, rfl⟩ | n0+2, h0 => exact absurd h0 (Nat.not_lt.2 (Nat.le_add_left 2 n0))) | (intro i0 hi0; match i0, hi0 with | 0, _ => exact ⟨_, rfl⟩ | 1, _ => exact ⟨_, rfl⟩ | 2, _ => exact ⟨_, rfl⟩ | n0+3, h0 => exact absurd h0 (Nat.not_lt.2 (Nat.le_add_left 3 n0))) | (intro i0 hi0; match i0, hi0 with | 0, _ => exact ⟨_, rfl⟩ | 1, _ => exact ⟨_, rfl⟩ | 2, _ => exact ⟨_, rfl⟩ | 3, _ => exact ⟨_, rfl⟩ | n0+4, h0 => exact absurd h0 (Nat.not_lt.2 (Nat.le_add_left 4 n0)))) (by simp [go_sem, gL, kL, lk, renOf, V.obj, Nat.blt, Nat.ble, List.take_zero, rsF, List.foldl_nil])) ?_; simp only [St.at_nil, St.at_cons, lk, Nat.reduceEqDiff, ↓reduceIte, Option.getD_some, Option.getD_none, List.cons_append, List.nil_append, List.append_nil]
        intro i e1
        have hso := rsF_ok (f := (fun m => blW ms t m.1)) (C := (t : Int) * 20000000 + 10000000) (l := (gQ ms x).take i) (fun y hy => gQ_in h10 x y (by simp only [scs, List.map_take] at hy ⊢; exact List.mem_of_mem_take hy)) (fun m _ => blW_bd h10 t m.1)
        rw [List.length_take] at hso
        have hbig := hso.big (by omega) (by omega)
        by_cases hi : i < (gQ ms x).length
        · obtain ⟨o, ho, hom, -⟩ := get_some hi
          have hget2 : ((gQ ms x).map mkD)[i]? = some (mkD o) := by simp only [List.getElem?_map, ho, Option.map_some]
          have hsn := rsF_snoc (f := (fun m => blW ms t m.1)) ho
          have hos := h10 o.2.2 (List.mem_map_of_mem (List.mem_filter.1 hom).1)
          have hrd : imG wm o.1 = blW ms t o.1 := hw o.1 (mem_sheetP hq (List.mem_filter.1 hom).1)
          have hrb := blW_bd h10 t o.1
          have hf := fnd_im wm o.1
          (try simp only at hsn)
          generalize rsF (fun m => blW ms t m.1) ((gQ ms x).take i) = su at *
          generalize blW ms t o.1 = rv at *
          cases hoo : imI wm o.1 with
          | none =>
            rw [hoo] at hf
            rw [imG_none hoo] at hrd
            subst hrd
            repeat' (first | ((first | refine AW.sreg rfl fun K hK => ?_ | refine AW.reg rfl ?_); simp only [go_sem, Nat.reduceAdd, Nat.reduceMul, Int.reduceToNat, Nat.reduceLT, Nat.reduceLeDiff, Nat.le_refl, Nat.reduceEqDiff, ↓reduceIte, beq_self_eq_true, bne_self_eq_false, Int.reduceBEq, Int.reduceBNe, or_self, true_or, or_true, Option.map_some, Option.map_none, List.length_map, hget2, hf]) | (refine AW.seq_k fun K hK => ?_) | (refine AW.block ?_) | (refine AW.skip ?_; simp only [Then, InBlock]) | (refine AW.condT rfl (by first | rfl | (simp; omega) | (simp [*]; done) | fail) ?_) | (refine hK _ ?_; clear hK K) | (with_reducible refine And.intro ?_ ?_; first | omega | assumption | (focus (decide)) | (focus (simp; done)) | (focus (simp; omega)) | (focus (constructor <;> omega)) | fail))
            exact ⟨i + 1, hi, by omega, (Weak.auto hcx rfl rfl (Nat.le_of_ble_eq_true rfl) (by simp [go_sem, gL, kL, renOf, V.obj, lk, Nat.blt, Nat.ble, List.map_append, dv_push, hsn]) (by simp [go_sem, gL, kL, renOf, V.obj, lk, Nat.blt, Nat.ble, List.map_append, dv_push, hsn]) (by first | (intro i hi; exact absurd hi (Nat.not_lt_zero _)) | (intro i0 hi0; match i0, hi0 with | 0, _ => exact ⟨_, rfl⟩ | n0+1, h0 => exact absurd h0 (Nat.not_lt.2 (Nat.le_add_left 1 n0))) | (intro i0 hi0; match i0, hi0 with | 0, _ => exact ⟨_, rfl⟩ | 1, _ => exact ⟨_, rfl⟩ | n0+2, h0 => exact absurd h0 (Nat.not_lt.2 (Nat.le_add_left 2 n0))) | (intro i0 hi0; match i0, hi0 with | 0, _ => exact ⟨_, rfl⟩ | 1, _ => exact ⟨_, rfl⟩ | 2, _ => exact ⟨_, rfl⟩ | n0+3, h0 => exact absurd h0 (Nat.not_lt.2 (Nat.le_add_left 3 n0))) | (intro i0 hi0; match i0, hi0 with | 0, _ => exact ⟨_, rfl⟩ | 1, _ => exact ⟨_, rfl⟩ | 2, _ => exact ⟨_, rfl⟩ | 3, _ => exact ⟨_, rfl⟩ | n0+4, h0 => exact absurd h0 (Nat.not_lt.2 (Nat.le_add_left 4 n0)))) (by simp [go_sem, gL, kL, lk, renOf, V.obj, Nat.blt, Nat.ble, hsn]))⟩
          | some z =>
            obtain ⟨v, hv2, hgo⟩ := imI_some hoo
            rw [hgo] at hrd
            subst hrd
            rw [hoo] at hf
            have hgg : (dv (wm.map fun q => D.int .i64 q.2))[z]? = some (.d (.int .i64 v)) := by simp [dv, hv2]
            repeat' (first | ((first | refine AW.sreg rfl fun K hK => ?_ | refine AW.reg rfl ?_); simp only [go_sem, Nat.reduceAdd, Nat.reduceMul, Int.reduceToNat, Nat.reduceLT, Nat.reduceLeDiff, Nat.le_refl, Nat.reduceEqDiff, ↓reduceIte, beq_self_eq_true, bne_self_eq_false, Int.reduceBEq, Int.reduceBNe, or_self, true_or, or_true, Option.map_some, Option.map_none, List.length_map, hget2, hf, hgg]) | (refine AW.seq_k fun K hK => ?_) | (refine AW.block ?_) | (refine AW.skip ?_; simp only [Then, InBlock]) | (refine AW.condT rfl (by first | rfl | (simp; omega) | (simp [*]; done) | fail) ?_) | (refine hK _ ?_; clear hK K) | (with_reducible refine And.intro ?_ ?_; first | omega | assumption | (focus (decide)) | (focus (simp; done)) | (focus (simp; omega)) | (focus (constructor <;> omega)) | fail))
            exact ⟨i + 1, hi, by omega, (Weak.auto hcx rfl rfl (Nat.le_of_ble_eq_true rfl) (by simp [go_sem, gL, kL, renOf, V.obj, lk, Nat.blt, Nat.ble, List.map_append, dv_push, hsn]) (by simp [go_sem, gL, kL, renOf, V.obj, lk, Nat.blt, Nat.ble, List.map_append, dv_push, hsn]) (by first | (intro i hi; exact absurd hi (Nat.not_lt_zero _)) | (intro i0 hi0; match i0, hi0 with | 0, _ => exact ⟨_, rfl⟩ | n0+1, h0 => exact absurd h0 (Nat.not_lt.2 (Nat.le_add_left 1 n0))) | (intro i0 hi0; match i0, hi0 with | 0, _ => exact ⟨_, rfl⟩ | 1, _ => exact ⟨_, rfl⟩ | n0+2, h0 => exact absurd h0 (Nat.not_lt.2 (Nat.le_add_left 2 n0))) | (intro i0 hi0; match i0, hi0 with | 0, _ => exact ⟨_, rfl⟩ | 1, _ => exact ⟨_, rfl⟩ | 2, _ => exact ⟨_, rfl⟩ | n0+3, h0 => exact absurd h0 (Nat.not_lt.2 (Nat.le_add_left 3 n0))) | (intro i0 hi0; match i0, hi0 with | 0, _ => exact ⟨_, rfl⟩ | 1, _ => exact ⟨_, rfl⟩ | 2, _ => exact ⟨_, rfl⟩ | 3, _ => exact ⟨_, rfl⟩ | n0+4, h0 => exact absurd h0 (Nat.not_lt.2 (Nat.le_add_left 4 n0)))) (by simp [go_sem, gL, kL, lk, renOf, V.obj, Nat.blt, Nat.ble, hsn]))⟩
        · obtain rfl : i = (gQ ms x).length := by omega
          rw [List.take_length] at *
          have hfl := floor_any (rsF (fun m => blW ms t m.1) (gQ ms x)) (gQ ms x).length hbig (by omega)
          have hge : (blB ms (t + 1)) x = rsF (fun m => blW ms t m.1) (gQ ms x) / ((gQ ms x).length : Int) := rfl
          rw [hge] at hadd
          generalize rsF (fun m => blW ms t m.1) (gQ ms x) / ((gQ ms x).length : Int) = fv at *
          generalize rsF (fun m => blW ms t m.1) (gQ ms x) = su at *
          have hf := fnd_im bm x
          cases hoo : imI bm x with
          | none =>
            rw [hoo] at hf
            rw [imP_none hoo] at hadd
            repeat' (first | ((first | refine AW.sreg rfl fun K hK => ?_ | refine AW.reg rfl ?_ | refine run_call _ _ _ ((hfl).pure rfl rfl _ _) rfl rfl (dstOk_of rfl) rfl rfl rfl ?_); simp only [go_sem, Nat.reduceAdd, Nat.reduceMul, Int.reduceToNat, Nat.reduceLT, Nat.reduceLeDiff, Nat.le_refl, Nat.reduceEqDiff, ↓reduceIte, beq_self_eq_true, bne_self_eq_false, Int.reduceBEq, Int.reduceBNe, or_self, true_or, or_true, Option.map_some, Option.map_none, List.length_map, hf]) | (refine AW.seq_k fun K hK => ?_) | (refine AW.exit ?_; simp only [go_sem, ↓reduceIte]) | (refine AW.condF rfl (by first | rfl | (simp; omega) | (simp [*]; done) | fail) ?_) | (refine hK _ ?_; clear hK K) | (clear hK K; refine hK _ ?_; clear hK K))
            exact ⟨(seen ++ [j], bm ++ [(x, fv)]), hadd, by simp only [List.length_append, List.length_singleton]; omega, (Weak.auto hcx rfl rfl (Nat.le_of_ble_eq_true rfl) (by simp [go_sem, gL, kL, renOf, V.obj, lk, Nat.blt, Nat.ble, List.map_append, dv_push, List.getLast?_concat]) (by simp [go_sem, gL, kL, renOf, V.obj, lk, Nat.blt, Nat.ble, List.map_append, dv_push, List.getLast?_concat]) (by first | (intro i hi; exact absurd hi (Nat.not_lt_zero _)) | (intro i0 hi0; match i0, hi0 with | 0, _ => exact ⟨_, rfl⟩ | n0+1, h0 => exact absurd h0 (Nat.not_lt.2 (Nat.le_add_left 1 n0))) | (intro i0 hi0; match i0, hi0 with | 0, _ => exact ⟨_, rfl⟩ | 1, _ => exact ⟨_, rfl⟩ | n0+2, h0 => exact absurd h0 (Nat.not_lt.2 (Nat.le_add_left 2 n0))) | (intro i0 hi0; match i0, hi0 with | 0, _ => exact ⟨_, rfl⟩ | 1, _ => exact ⟨_, rfl⟩ | 2, _ => exact ⟨_, rfl⟩ | n0+3, h0 => exact absurd h0 (Nat.not_lt.2 (Nat.le_add_left 3 n0))) | (intro i0 hi0; match i0, hi0 with | 0, _ => exact ⟨_, rfl⟩ | 1, _ => exact ⟨_, rfl⟩ | 2, _ => exact ⟨_, rfl⟩ | 3, _ => exact ⟨_, rfl⟩ | n0+4, h0 => exact absurd h0 (Nat.not_lt.2 (Nat.le_add_left 4 n0)))) (by simp [go_sem, gL, kL, lk, renOf, V.obj, Nat.blt, Nat.ble, List.getLast?_concat]))⟩
          | some z =>
            obtain ⟨v, hv2, hgo⟩ := imI_some hoo
            rw [hoo] at hf
            rw [imP_some hoo] at hadd
            have hkk := imP_keys hv2
            have hvv2 := imP_vals bm x z fv
            have hk22 := imP_keys2 (v2 := fv) hv2
            have hjl2 := get_lt hv2
            repeat' (first | ((first | refine AW.sreg rfl fun K hK => ?_ | refine AW.reg rfl ?_ | refine run_call _ _ _ ((hfl).pure rfl rfl _ _) rfl rfl (dstOk_of rfl) rfl rfl rfl ?_); simp only [go_sem, Nat.reduceAdd, Nat.reduceMul, Int.reduceToNat, Nat.reduceLT, Nat.reduceLeDiff, Nat.le_refl, Nat.reduceEqDiff, ↓reduceIte, beq_self_eq_true, bne_self_eq_false, Int.reduceBEq, Int.reduceBNe, or_self, true_or, or_true, Option.map_some, Option.map_none, List.length_map, hf, hkk]) | (refine AW.seq_k fun K hK => ?_) | (refine AW.exit ?_; simp only [go_sem, ↓reduceIte]) | (refine AW.condF rfl (by first | rfl | (simp; omega) | (simp [*]; done) | fail) ?_) | (refine hK _ ?_; clear hK K) | (clear hK K; refine hK _ ?_; clear hK K))
            exact ⟨(seen ++ [j], bm.set z (x, fv)), hadd, by simp only [List.length_append, List.length_singleton]; omega, (Weak.auto hcx rfl rfl (Nat.le_of_ble_eq_true rfl) (by simp [go_sem, gL, kL, renOf, V.obj, lk, Nat.blt, Nat.ble, List.map_append, dv_push, hkk, hk22, hvv2, dv_set1, List.getLast?_concat]) (by simp [go_sem, gL, kL, renOf, V.obj, lk, Nat.blt, Nat.ble, List.map_append, dv_push, hkk, hk22, hvv2, dv_set1, List.getLast?_concat]) (by first | (intro i hi; exact absurd hi (Nat.not_lt_zero _)) | (intro i0 hi0; match i0, hi0 with | 0, _ => exact ⟨_, rfl⟩ | n0+1, h0 => exact absurd h0 (Nat.not_lt.2 (Nat.le_add_left 1 n0))) | (intro i0 hi0; match i0, hi0 with | 0, _ => exact ⟨_, rfl⟩ | 1, _ => exact ⟨_, rfl⟩ | n0+2, h0 => exact absurd h0 (Nat.not_lt.2 (Nat.le_add_left 2 n0))) | (intro i0 hi0; match i0, hi0 with | 0, _ => exact ⟨_, rfl⟩ | 1, _ => exact ⟨_, rfl⟩ | 2, _ => exact ⟨_, rfl⟩ | n0+3, h0 => exact absurd h0 (Nat.not_lt.2 (Nat.le_add_left 3 n0))) | (intro i0 hi0; match i0, hi0 with | 0, _ => exact ⟨_, rfl⟩ | 1, _ => exact ⟨_, rfl⟩ | 2, _ => exact ⟨_, rfl⟩ | 3, _ => exact ⟨_, rfl⟩ | n0+4, h0 => exact absurd h0 (Nat.not_lt.2 (Nat.le_add_left 4 n0)))) (by simp [go_sem, gL, kL, lk, renOf, V.obj, Nat.blt, Nat.ble, hkk, hk22, hvv2, dv_set1, List.getLast?_concat]))⟩
      · have hb := k1.all hd
        simp only [go_sem, Nat.reduceAdd, Nat.reduceMul, Int.reduceToNat, Nat.reduceLT, Nat.reduceLeDiff, Nat.le_refl, Nat.reduceEqDiff, ↓reduceIte, beq_self_eq_true, bne_self_eq_false, Int.reduceBEq, Int.reduceBNe, or_self, true_or, or_true, Option.map_some, Option.map_none, List.length_map]
        repeat' (first | (refine AW.reg rfl ?_; simp only [go_sem, Nat.reduceAdd, Nat.reduceMul, Int.reduceToNat, Nat.reduceLT, Nat.reduceLeDiff, Nat.le_refl, Nat.reduceEqDiff, ↓reduceIte, beq_self_eq_true, bne_self_eq_false, Int.reduceBEq, Int.reduceBNe, or_self, true_or, or_true, Option.map_some, Option.map_none, List.length_map]) | (refine AW.seq_k fun K hK => ?_) | (refine AW.exit ?_; simp only [go_sem, ↓reduceIte]) | (refine AW.condF rfl (by first | rfl | (simp; omega) | (simp [*]; done) | fail) ?_) | (refine hK _ ?_; clear hK K) | (clear hK K; refine hK _ ?_; clear hK K) | (with_reducible refine And.intro ?_ ?_; first | omega | assumption | (focus (decide)) | (focus (simp; done)) | (focus (simp; omega)) | (focus (constructor <;> omega)) | fail))
        exact ⟨(t + 1, wm, bm), ⟨ht, .inr hw, hb⟩, by simp only; omega, (Weak.auto hcx rfl rfl (Nat.le_of_ble_eq_true rfl) (by simp [go_sem, gL, kL, renOf, V.obj, lk, Nat.blt, Nat.ble, List.map_append, dv_push]) (by simp [go_sem, gL, kL, renOf, V.obj, lk, Nat.blt, Nat.ble, List.map_append, dv_push]) (by first | (intro i hi; exact absurd hi (Nat.not_lt_zero _)) | (intro i0 hi0; match i0, hi0 with | 0, _ => exact ⟨_, rfl⟩ | n0+1, h0 => exact absurd h0 (Nat.not_lt.2 (Nat.le_add_left 1 n0))) | (intro i0 hi0; match i0, hi0 with | 0, _ => exact ⟨_, rfl⟩ | 1, _ => exact ⟨_, rfl⟩ | n0+2, h0 => exact absurd h0 (Nat.not_lt.2 (Nat.le_add_left 2 n0))) | (intro i0 hi0; match i0, hi0 with | 0, _ => exact ⟨_, rfl⟩ | 1, _ => exact ⟨_, rfl⟩ | 2, _ => exact ⟨_, rfl⟩ | n0+3, h0 => exact absurd h0 (Nat.not_lt.2 (Nat.le_add_left 3 n0))) | (intro i0 hi0; match i0, hi0 with | 0, _ => exact ⟨_, rfl⟩ | 1, _ => exact ⟨_, rfl⟩ | 2, _ => exact ⟨_, rfl⟩ | 3, _ => exact ⟨_, rfl⟩ | n0+4, h0 => exact absurd h0 (Nat.not_lt.2 (Nat.le_add_left 4 n0)))) (by simp [go_sem, gL, kL, lk, renOf, V.obj, Nat.blt, Nat.ble]))⟩
  · obtain rfl : t = 20 := by omega
    have hw : ∀ x ∈ q.1.1, imG wm0 x = blW ms 19 x := by
      rcases g2 with g2 | g2
      · cases g2
      · exact g2
    repeat' (first | (refine AW.sreg rfl fun K hK => ?_; simp only [go_sem, Nat.reduceAdd, Nat.reduceMul, Int.reduceToNat, Nat.reduceLT, Nat.reduceLeDiff, Nat.le_refl, Nat.reduceEqDiff, ↓reduceIte, beq_self_eq_true, bne_self_eq_false, Int.reduceBEq, Int.reduceBNe, or_self, true_or, or_true, Option.map_some, Option.map_none, List.length_map]) | (refine AW.seq_k fun K hK => ?_) | (refine AW.exit ?_; simp only [go_sem, ↓reduceIte]) | (refine AW.condF rfl (by first | rfl | (simp; omega) | (simp [*]; done) | fail) ?_) | (refine hK _ ?_; clear hK K) | (clear hK K; refine hK _ ?_; clear hK K))
    exact AW.ret ⟨(wm0, bm0), hw, Fin.data rfl (by simp [go_sem, toDL_dvF]) rfl⟩
end Go.AX

namespace Go.AX
open Go Go.Proofs Go.RowKit
theorem values2_any (ms : List Mk) (hl : ms.length ≤ 42) (hi10 : In10 (scs ms)) (hk : ∀ m ∈ ms, m.1.length ≤ 1000) (q : (List Str × List D) × (List Str × List D)) (hq : ShOk ms q) : Does Tryz.prog 82 [shV ms q, I 2] [] (.d (.map (q.1.1.map D.str) (q.1.1.map fun k => vlD (mdV ms k)))) [] := by
  have hln := hq.len (by omega)
  have h1 := keys_any q.1.1 q.1.2 hln (keysLen hq hk) hq.rise
  refine Does.of_AW (n := 140) Tryz.func82 rfl rfl rfl fun cx hcx => ?_
  repeat' (first | ((first | refine AW.sreg rfl fun K hK => ?_ | refine run_call _ _ _ ((h1).pure rfl rfl _ _) rfl rfl (dstOk_of rfl) rfl rfl rfl ?_); simp only [go_sem, Nat.reduceAdd, Nat.reduceMul, Int.reduceToNat, Nat.reduceLT, Nat.reduceLeDiff, Nat.le_refl, Nat.reduceEqDiff, ↓reduceIte, beq_self_eq_true, bne_self_eq_false, Int.reduceBEq, Int.reduceBNe, or_self, true_or, or_true, Option.map_some, Option.map_none, List.length_map]) | (refine AW.seq_k fun K hK => ?_) | (refine AW.block ?_) | (refine AW.condT rfl (by first | rfl | (simp; omega) | (simp [*]; done) | fail) ?_) | (refine AW.condF rfl (by first | rfl | (simp; omega) | (simp [*]; done) | fail) ?_) | (refine hK _ ?_; clear hK K))
  refine AW.loopF (ι := Nat) [0, 5, 71, 72] (fun p => [(73, I p)]) (fun p => [(64, some (O.map ((q.1.1.take p).map D.str) (dv ((q.1.1.take p).map fun k => vlD (mdV ms k)))))]) 16 (fun p => p ≤ q.1.1.length) (fun p => q.1.1.length - p) 0 (Nat.zero_le _) (Weak.auto hcx rfl rfl (Nat.le_of_ble_eq_true rfl) (by simp [go_sem, gL, kL, renOf, V.obj, lk, Nat.blt, Nat.ble, List.map_append, dv_push, List.take_zero, dvz, List.map_nil]) (by simp [go_sem, gL, kL, renOf, V.obj, lk, Nat.blt, Nat.ble, List.map_append, dv_push, List.take_zero, dvz, List.map_nil]) (by first | (intro i hi; exact absurd hi (Nat.not_lt_zero _)) | (intro i0 hi0; match i0, hi0 with | 0, _ => exact ⟨_, rfl⟩ | n0+1, h0 => exact absurd h0 (Nat.not_lt.2 (Nat.le_add_left 1 n0))) | (intro i0 hi0; match i0, hi0 with | 0, _ => exact ⟨_, rfl⟩ | 1, _ => exact ⟨_, rfl⟩ | n0+2, h0 => exact absurd h0 (Nat.not_lt.2 (Nat.le_add_left 2 n0))) | (intro i0 hi0; match i0, hi0 with | 0, _ => exact ⟨_, rfl⟩ | 1, _ => exact ⟨_, rfl⟩ | 2, _ => exact ⟨_, rfl⟩ | n0+3, h0 => exact absurd h0 (Nat.not_lt.2 (Nat.le_add_left 3 n0))) | (intro i0 hi0; match i0, hi0 with | 0, _ => exact ⟨_, rfl⟩ | 1, _ => exact ⟨_, rfl⟩ | 2, _ => exact ⟨_, rfl⟩ | 3, _ => exact ⟨_, rfl⟩ | n0+4, h0 => exact absurd h0 (Nat.not_lt.2 (Nat.le_add_left 4 n0)))) (by simp [go_sem, gL, kL, lk, renOf, V.obj, Nat.blt, Nat.ble, List.take_zero, dvz, List.map_nil])) ?_; simp only [St.at_nil, St.at_cons, lk, Nat.reduceEqDiff, ↓reduceIte, Option.getD_some, Option.getD_none, List.cons_append, List.nil_append, List.append_nil]
  intro j e1
  by_cases hj : j < q.1.1.length
  · obtain ⟨p, hp, hpm, -⟩ := get_some hj
    have hget : (q.1.1.map D.str)[j]? = some (.str p) := by simp only [List.getElem?_map, hp, Option.map_some]
    obtain ⟨z, hz1, hz2⟩ := hq.at hpm
    have hpos := hq.pos hpm
    have hgl := gP_len ms p
    have hsn := take_snoc hp
    have hnk : fndK (.str p) ((q.1.1.take j).map D.str) = some none := fnd_no fun hm => by
      have hnd := hq.pa.nd
      rw [← List.take_append_drop (j + 1) q.1.1, hsn] at hnd
      have := (List.nodup_append.1 (List.nodup_append.1 hnd).1).2.2 p hm p (by simp)
      exact this rfl
    have hmn := mean_any (gP ms p) (by omega) (gP_in hi10 p) hpos
    have hmd := median_any (gP ms p) (by omega) hpos (gP_in hi10 p)
    have hwh := whole_any (mdF (gP ms p))
    repeat' (first | ((first | refine AW.sreg rfl fun K hK => ?_ | refine AW.reg rfl ?_ | refine AW.regD hmix rfl ?_ | refine runT_call _ _ [] (fun hv _ => (hmd).pure rfl rfl hv _) rfl rfl (dstOk_of rfl) rfl rfl ?_ | refine runT_call _ _ [] (fun hv _ => (hwh).pure rfl rfl hv _) rfl rfl (dstOk_of rfl) rfl rfl ?_ | refine runT_call _ _ [] (fun hv _ => (hmn).pure rfl rfl hv _) rfl rfl (dstOk_of rfl) rfl rfl ?_); simp only [go_sem, Nat.reduceAdd, Nat.reduceMul, Int.reduceToNat, Nat.reduceLT, Nat.reduceLeDiff, Nat.le_refl, Nat.reduceEqDiff, ↓reduceIte, beq_self_eq_true, bne_self_eq_false, Int.reduceBEq, Int.reduceBNe, or_self, true_or, or_true, Option.map_some, Option.map_none, List.length_map, hget, hz1, hz2, hnk]) | (refine AW.seq_k fun K hK => ?_) | (refine AW.block ?_) | (refine AW.skip ?_; simp only [Then, InBlock]) | (refine AW.condT rfl (by first | rfl | (simp; omega) | (simp [*]; done) | fail) ?_) | (refine hK _ ?_; clear hK K) | (with_reducible refine And.intro (?_ : regOk _ _ = true) ?_; kernel_rfl) | (with_reducible refine And.intro ?_ ?_; first | omega | assumption | (focus (decide)) | (focus (simp; done)) | (focus (simp; omega)) | (focus (constructor <;> omega)) | fail))
    exact ⟨j + 1, hj, by omega, (Weak.auto hcx rfl rfl (Nat.le_of_ble_eq_true rfl) (by simp [go_sem, gL, kL, renOf, V.obj, lk, Nat.blt, Nat.ble, List.map_append, dv_push, hsn, mdV, mnF]) (by simp [go_sem, gL, kL, renOf, V.obj, lk, Nat.blt, Nat.ble, List.map_append, dv_push, hsn, mdV, mnF]) (by first | (intro i hi; exact absurd hi (Nat.not_lt_zero _)) | (intro i0 hi0; match i0, hi0 with | 0, _ => exact ⟨_, rfl⟩ | n0+1, h0 => exact absurd h0 (Nat.not_lt.2 (Nat.le_add_left 1 n0))) | (intro i0 hi0; match i0, hi0 with | 0, _ => exact ⟨_, rfl⟩ | 1, _ => exact ⟨_, rfl⟩ | n0+2, h0 => exact absurd h0 (Nat.not_lt.2 (Nat.le_add_left 2 n0))) | (intro i0 hi0; match i0, hi0 with | 0, _ => exact ⟨_, rfl⟩ | 1, _ => exact ⟨_, rfl⟩ | 2, _ => exact ⟨_, rfl⟩ | n0+3, h0 => exact absurd h0 (Nat.not_lt.2 (Nat.le_add_left 3 n0))) | (intro i0 hi0; match i0, hi0 with | 0, _ => exact ⟨_, rfl⟩ | 1, _ => exact ⟨_, rfl⟩ | 2, _ => exact ⟨_, rfl⟩ | 3, _ => exact ⟨_, rfl⟩ | n0+4, h0 => exact absurd h0 (Nat.not_lt.2 (Nat.le_add_left 4 n0)))) (by simp [go_sem, gL, kL, lk, renOf, V.obj, Nat.blt, Nat.ble, hsn, mdV, mnF]))⟩
  · obtain rfl : j = q.1.1.length := by omega
    rw [List.take_length]
    repeat' (first | (refine AW.sreg rfl fun K hK => ?_; simp only [go_sem, Nat.reduceAdd, Nat.reduceMul, Int.reduceToNat, Nat.reduceLT, Nat.reduceLeDiff, Nat.le_refl, Nat.reduceEqDiff, ↓reduceIte, beq_self_eq_true, bne_self_eq_false, Int.reduceBEq, Int.reduceBNe, or_self, true_or, or_true, Option.map_some, Option.map_none, List.length_map]) | (refine AW.seq_k fun K hK => ?_) | (refine AW.exit ?_; simp only [go_sem, ↓reduceIte]) | (refine AW.condF rfl (by first | rfl | (simp; omega) | (simp [*]; done) | fail) ?_) | (refine hK _ ?_; clear hK K) | (clear hK K; refine hK _ ?_; clear hK K))
    exact AW.ret (Fin.data rfl (by simp [go_sem, toDL_dvF]) rfl)
theorem values3_any (ms : List Mk) (hl : ms.length ≤ 42) (hi10 : In10 (scs ms)) (hk : ∀ m ∈ ms, m.1.length ≤ 1000) (q : (List Str × List D) × (List Str × List D)) (hq : ShOk ms q) : Does Tryz.prog 82 [shV ms q, I 3] [] (.d (.map (q.1.1.map D.str) (q.1.1.map fun k => vlD (ptV ms k)))) [] := by
  have hln := hq.len (by omega)
  have h1 := keys_any q.1.1 q.1.2 hln (keysLen hq hk) hq.rise
  refine Does.of_AW (n := 140) Tryz.func82 rfl rfl rfl fun cx hcx => ?_
  repeat' (first | ((first | refine AW.sreg rfl fun K hK => ?_ | refine run_call _ _ _ ((h1).pure rfl rfl _ _) rfl rfl (dstOk_of rfl) rfl rfl rfl ?_); simp only [go_sem, Nat.reduceAdd, Nat.reduceMul, Int.reduceToNat, Nat.reduceLT, Nat.reduceLeDiff, Nat.le_refl, Nat.reduceEqDiff, ↓reduceIte, beq_self_eq_true, bne_self_eq_false, Int.reduceBEq, Int.reduceBNe, or_self, true_or, or_true, Option.map_some, Option.map_none, List.length_map]) | (refine AW.seq_k fun K hK => ?_) | (refine AW.block ?_) | (refine AW.condT rfl (by first | rfl | (simp; omega) | (simp [*]; done) | fail) ?_) | (refine AW.condF rfl (by first | rfl | (simp; omega) | (simp [*]; done) | fail) ?_) | (refine hK _ ?_; clear hK K))
  refine AW.loopF (ι := Nat) [0, 5, 98, 99] (fun p => [(100, I p)]) (fun p => [(64, some (O.map ((q.1.1.take p).map D.str) (dv ((q.1.1.take p).map fun k => vlD (ptV ms k)))))]) 17 (fun p => p ≤ q.1.1.length) (fun p => q.1.1.length - p) 0 (Nat.zero_le _) (Weak.auto hcx rfl rfl (Nat.le_of_ble_eq_true rfl) (by simp [go_sem, gL, kL, renOf, V.obj, lk, Nat.blt, Nat.ble, List.map_append, dv_push, List.take_zero, dvz, List.map_nil]) (by simp [go_sem, gL, kL, renOf, V.obj, lk, Nat.blt, Nat.ble, List.map_append, dv_push, List.take_zero, dvz, List.map_nil]) (by first | (intro i hi; exact absurd hi (Nat.not_lt_zero _)) | (intro i0 hi0; match i0, hi0 with | 0, _ => exact ⟨_, rfl⟩ | n0+1, h0 => exact absurd h0 (Nat.not_lt.2 (Nat.le_add_left 1 n0))) | (intro i0 hi0; match i0, hi0 with | 0, _ => exact ⟨_, rfl⟩ | 1, _ => exact ⟨_, rfl⟩ | n0+2, h0 => exact absurd h0 (Nat.not_lt.2 (Nat.le_add_left 2 n0))) | (intro i0 hi0; match i0, hi0 with | 0, _ => exact ⟨_, rfl⟩ | 1, _ => exact ⟨_, rfl⟩ | 2, _ => exact ⟨_, rfl⟩ | n0+3, h0 => exact absurd h0 (Nat.not_lt.2 (Nat.le_add_left 3 n0))) | (intro i0 hi0; match i0, hi0 with | 0, _ => exact ⟨_, rfl⟩ | 1, _ => exact ⟨_, rfl⟩ | 2, _ => exact ⟨_, rfl⟩ | 3, _ => exact ⟨_, rfl⟩ | n0+4, h0 => exact absurd h0 (Nat.not_lt.2 (Nat.le_add_left 4 n0)))) (by simp [go_sem, gL, kL, lk, renOf, V.obj, Nat.blt, Nat.ble, List.take_zero, dvz, List.map_nil])) ?_; simp only [St.at_nil, St.at_cons, lk, Nat.reduceEqDiff, ↓reduceIte, Option.getD_some, Option.getD_none, List.cons_append, List.nil_append, List.append_nil]
  intro j e1
  by_cases hj : j < q.1.1.length
  · obtain ⟨p, hp, hpm, -⟩ := get_some hj
    have hget : (q.1.1.map D.str)[j]? = some (.str p) := by simp only [List.getElem?_map, hp, Option.map_some]
    obtain ⟨z, hz1, hz2⟩ := hq.at hpm
    have hpos := hq.pos hpm
    have hgl := gP_len ms p
    have hsn := take_snoc hp
    have hnk : fndK (.str p) ((q.1.1.take j).map D.str) = some none := fnd_no fun hm => by
      have hnd := hq.pa.nd
      rw [← List.take_append_drop (j + 1) q.1.1, hsn] at hnd
      have := (List.nodup_append.1 (List.nodup_append.1 hnd).1).2.2 p hm p (by simp)
      exact this rfl
    have hpt := points_any ms hl q hq p hpm
    have hbd := ptF_bd hl p (i := (gP ms p).length) (by omega)
    rw [List.take_length] at hbd
    change PtB (ptF ms p) 1764 at hbd
    obtain ⟨a1, a2, a3, a4⟩ := hbd
    have hm : 1 ≤ (if (ptF ms p).2 < 1 then 1 else (ptF ms p).2) ∧ (if (ptF ms p).2 < 1 then 1 else (ptF ms p).2) ≤ 1764 := by split <;> omega
    have hlw := lowest_any (ptF ms p).1 (if (ptF ms p).2 < 1 then 1 else (ptF ms p).2) (by omega) (by omega)
    have hmx : (if (1 : Int) > (ptF ms p).2 then (1 : Int) else (ptF ms p).2) = (if (ptF ms p).2 < 1 then 1 else (ptF ms p).2) := rfl
    repeat' (first | ((first | refine AW.sreg rfl fun K hK => ?_ | refine AW.reg rfl ?_ | refine run_call _ _ _ ((hpt).pure rfl rfl _ _) rfl rfl (dstOk_of rfl) rfl rfl rfl ?_ | refine run_call _ _ _ ((hlw).pure rfl rfl _ _) rfl rfl (dstOk_of rfl) rfl rfl rfl ?_ | refine run_call _ _ _ ((zero_ok).pure rfl rfl _ _) rfl rfl (dstOk_of rfl) rfl rfl rfl ?_); simp only [go_sem, Nat.reduceAdd, Nat.reduceMul, Int.reduceToNat, Nat.reduceLT, Nat.reduceLeDiff, Nat.le_refl, Nat.reduceEqDiff, ↓reduceIte, beq_self_eq_true, bne_self_eq_false, Int.reduceBEq, Int.reduceBNe, or_self, true_or, or_true, Option.map_some, Option.map_none, List.length_map, hget, hnk, hmx]) | (refine AW.seq_k fun K hK => ?_) | (refine AW.block ?_) | (refine AW.skip ?_; simp only [Then, InBlock]) | (refine AW.condT rfl (by first | rfl | (simp; omega) | (simp [*]; done) | fail) ?_) | (refine hK _ ?_; clear hK K) | (with_reducible refine And.intro ?_ ?_; first | omega | assumption | (focus (decide)) | (focus (simp; done)) | (focus (simp; omega)) | (focus (constructor <;> omega)) | fail))
    exact ⟨j + 1, hj, by omega, (Weak.auto hcx rfl rfl (Nat.le_of_ble_eq_true rfl) (by simp [go_sem, gL, kL, renOf, V.obj, lk, Nat.blt, Nat.ble, List.map_append, dv_push, hsn, ptV]) (by simp [go_sem, gL, kL, renOf, V.obj, lk, Nat.blt, Nat.ble, List.map_append, dv_push, hsn, ptV]) (by first | (intro i hi; exact absurd hi (Nat.not_lt_zero _)) | (intro i0 hi0; match i0, hi0 with | 0, _ => exact ⟨_, rfl⟩ | n0+1, h0 => exact absurd h0 (Nat.not_lt.2 (Nat.le_add_left 1 n0))) | (intro i0 hi0; match i0, hi0 with | 0, _ => exact ⟨_, rfl⟩ | 1, _ => exact ⟨_, rfl⟩ | n0+2, h0 => exact absurd h0 (Nat.not_lt.2 (Nat.le_add_left 2 n0))) | (intro i0 hi0; match i0, hi0 with | 0, _ => exact ⟨_, rfl⟩ | 1, _ => exact ⟨_, rfl⟩ | 2, _ => exact ⟨_, rfl⟩ | n0+3, h0 => exact absurd h0 (Nat.not_lt.2 (Nat.le_add_left 3 n0))) | (intro i0 hi0; match i0, hi0 with | 0, _ => exact ⟨_, rfl⟩ | 1, _ => exact ⟨_, rfl⟩ | 2, _ => exact ⟨_, rfl⟩ | 3, _ => exact ⟨_, rfl⟩ | n0+4, h0 => exact absurd h0 (Nat.not_lt.2 (Nat.le_add_left 4 n0)))) (by simp [go_sem, gL, kL, lk, renOf, V.obj, Nat.blt, Nat.ble, hsn, ptV]))⟩
  · obtain rfl : j = q.1.1.length := by omega
    rw [List.take_length]
    repeat' (first | (refine AW.sreg rfl fun K hK => ?_; simp only [go_sem, Nat.reduceAdd, Nat.reduceMul, Int.reduceToNat, Nat.reduceLT, Nat.reduceLeDiff, Nat.le_refl, Nat.reduceEqDiff, ↓reduceIte, beq_self_eq_true, bne_self_eq_false, Int.reduceBEq, Int.reduceBNe, or_self, true_or, or_true, Option.map_some, Option.map_none, List.length_map]) | (refine AW.seq_k fun K hK => ?_) | (refine AW.exit ?_; simp only [go_sem, ↓reduceIte]) | (refine AW.condF rfl (by first | rfl | (simp; omega) | (simp [*]; done) | fail) ?_) | (refine hK _ ?_; clear hK K) | (clear hK K; refine hK _ ?_; clear hK K))
    exact AW.ret (Fin.data rfl (by simp [go_sem, toDL_dvF]) rfl)
theorem values4_any (ms : List Mk) (hl : ms.length ≤ 42) (hi10 : In10 (scs ms)) (hk : ∀ m ∈ ms, m.1.length ≤ 1000) (q : (List Str × List D) × (List Str × List D)) (hq : ShOk ms q) : Does Tryz.prog 82 [shV ms q, I 4] [] (.d (.map (q.1.1.map D.str) (q.1.1.map fun k => vlD (wnV ms k)))) [] := by
  have hln := hq.len (by omega)
  have h1 := keys_any q.1.1 q.1.2 hln (keysLen hq hk) hq.rise
  have htb := table_any ms hl hk q hq
  have hpe : q.1.1 = pps ms := hq.eqP
  refine Does.of_AW (n := 140) Tryz.func82 rfl rfl rfl fun cx hcx => ?_
  repeat' (first | ((first | refine AW.sreg rfl fun K hK => ?_ | refine run_call _ _ _ ((h1).pure rfl rfl _ _) rfl rfl (dstOk_of rfl) rfl rfl rfl ?_ | refine run_call _ _ _ ((htb).pure rfl rfl _ _) rfl rfl (dstOk_of rfl) rfl rfl rfl ?_); simp only [go_sem, Nat.reduceAdd, Nat.reduceMul, Int.reduceToNat, Nat.reduceLT, Nat.reduceLeDiff, Nat.le_refl, Nat.reduceEqDiff, ↓reduceIte, beq_self_eq_true, bne_self_eq_false, Int.reduceBEq, Int.reduceBNe, or_self, true_or, or_true, Option.map_some, Option.map_none, List.length_map]) | (refine AW.seq_k fun K hK => ?_) | (refine AW.block ?_) | (refine AW.condT rfl (by first | rfl | (simp; omega) | (simp [*]; done) | fail) ?_) | (refine AW.condF rfl (by first | rfl | (simp; omega) | (simp [*]; done) | fail) ?_) | (refine hK _ ?_; clear hK K))
  refine AW.loopF (ι := Nat) [5, 15, 123, 124] (fun p => [(125, I p)]) (fun p => [(64, some (O.map ((q.1.1.take p).map D.str) (dv ((q.1.1.take p).map fun k => vlD (wnV ms k)))))]) 19 (fun p => p ≤ q.1.1.length) (fun p => q.1.1.length - p) 0 (Nat.zero_le _) (Weak.auto hcx rfl rfl (Nat.le_of_ble_eq_true rfl) (by simp [go_sem, gL, kL, renOf, V.obj, lk, Nat.blt, Nat.ble, List.map_append, dv_push, List.take_zero, dvz, List.map_nil]) (by simp [go_sem, gL, kL, renOf, V.obj, lk, Nat.blt, Nat.ble, List.map_append, dv_push, List.take_zero, dvz, List.map_nil]) (by first | (intro i hi; exact absurd hi (Nat.not_lt_zero _)) | (intro i0 hi0; match i0, hi0 with | 0, _ => exact ⟨_, rfl⟩ | n0+1, h0 => exact absurd h0 (Nat.not_lt.2 (Nat.le_add_left 1 n0))) | (intro i0 hi0; match i0, hi0 with | 0, _ => exact ⟨_, rfl⟩ | 1, _ => exact ⟨_, rfl⟩ | n0+2, h0 => exact absurd h0 (Nat.not_lt.2 (Nat.le_add_left 2 n0))) | (intro i0 hi0; match i0, hi0 with | 0, _ => exact ⟨_, rfl⟩ | 1, _ => exact ⟨_, rfl⟩ | 2, _ => exact ⟨_, rfl⟩ | n0+3, h0 => exact absurd h0 (Nat.not_lt.2 (Nat.le_add_left 3 n0))) | (intro i0 hi0; match i0, hi0 with | 0, _ => exact ⟨_, rfl⟩ | 1, _ => exact ⟨_, rfl⟩ | 2, _ => exact ⟨_, rfl⟩ | 3, _ => exact ⟨_, rfl⟩ | n0+4, h0 => exact absurd h0 (Nat.not_lt.2 (Nat.le_add_left 4 n0)))) (by simp [go_sem, gL, kL, lk, renOf, V.obj, Nat.blt, Nat.ble, List.take_zero, dvz, List.map_nil])) ?_; simp only [St.at_nil, St.at_cons, lk, Nat.reduceEqDiff, ↓reduceIte, Option.getD_some, Option.getD_none, List.cons_append, List.nil_append, List.append_nil]
  intro j e1
  by_cases hj : j < q.1.1.length
  · obtain ⟨p, hp, hpm, -⟩ := get_some hj
    have hget : (q.1.1.map D.str)[j]? = some (.str p) := by simp only [List.getElem?_map, hp, Option.map_some]
    obtain ⟨z, hz1, hz2⟩ := hq.at hpm
    have hpos := hq.pos hpm
    have hgl := gP_len ms p
    have hsn := take_snoc hp
    have hnk : fndK (.str p) ((q.1.1.take j).map D.str) = some none := fnd_no fun hm => by
      have hnd := hq.pa.nd
      rw [← List.take_append_drop (j + 1) q.1.1, hsn] at hnd
      have := (List.nodup_append.1 (List.nodup_append.1 hnd).1).2.2 p hm p (by simp)
      exact this rfl
    have hbl := balance_any ms q.1.1 (by omega) j p hp
    have hwh := whole_any (blF ms q.1.1 p)
    repeat' (first | ((first | refine AW.sreg rfl fun K hK => ?_ | refine AW.reg rfl ?_ | refine run_call _ _ _ ((hbl).pure rfl rfl _ _) rfl rfl (dstOk_of rfl) rfl rfl rfl ?_ | refine run_call _ _ _ ((hwh).pure rfl rfl _ _) rfl rfl (dstOk_of rfl) rfl rfl rfl ?_ | refine run_call _ _ _ ((zero_ok).pure rfl rfl _ _) rfl rfl (dstOk_of rfl) rfl rfl rfl ?_); simp only [go_sem, Nat.reduceAdd, Nat.reduceMul, Int.reduceToNat, Nat.reduceLT, Nat.reduceLeDiff, Nat.le_refl, Nat.reduceEqDiff, ↓reduceIte, beq_self_eq_true, bne_self_eq_false, Int.reduceBEq, Int.reduceBNe, or_self, true_or, or_true, Option.map_some, Option.map_none, List.length_map, hget, hnk]) | (refine AW.seq_k fun K hK => ?_) | (refine AW.block ?_) | (refine AW.skip ?_; simp only [Then, InBlock]) | (refine AW.condT rfl (by first | rfl | (simp; omega) | (simp [*]; done) | fail) ?_) | (refine hK _ ?_; clear hK K) | (with_reducible refine And.intro ?_ ?_; first | omega | assumption | (focus (decide)) | (focus (simp; done)) | (focus (simp; omega)) | (focus (constructor <;> omega)) | fail))
    exact ⟨j + 1, hj, by omega, (Weak.auto hcx rfl rfl (Nat.le_of_ble_eq_true rfl) (by simp [go_sem, gL, kL, renOf, V.obj, lk, Nat.blt, Nat.ble, List.map_append, dv_push, hsn, wnV, ← hpe]) (by simp [go_sem, gL, kL, renOf, V.obj, lk, Nat.blt, Nat.ble, List.map_append, dv_push, hsn, wnV, ← hpe]) (by first | (intro i hi; exact absurd hi (Nat.not_lt_zero _)) | (intro i0 hi0; match i0, hi0 with | 0, _ => exact ⟨_, rfl⟩ | n0+1, h0 => exact absurd h0 (Nat.not_lt.2 (Nat.le_add_left 1 n0))) | (intro i0 hi0; match i0, hi0 with | 0, _ => exact ⟨_, rfl⟩ | 1, _ => exact ⟨_, rfl⟩ | n0+2, h0 => exact absurd h0 (Nat.not_lt.2 (Nat.le_add_left 2 n0))) | (intro i0 hi0; match i0, hi0 with | 0, _ => exact ⟨_, rfl⟩ | 1, _ => exact ⟨_, rfl⟩ | 2, _ => exact ⟨_, rfl⟩ | n0+3, h0 => exact absurd h0 (Nat.not_lt.2 (Nat.le_add_left 3 n0))) | (intro i0 hi0; match i0, hi0 with | 0, _ => exact ⟨_, rfl⟩ | 1, _ => exact ⟨_, rfl⟩ | 2, _ => exact ⟨_, rfl⟩ | 3, _ => exact ⟨_, rfl⟩ | n0+4, h0 => exact absurd h0 (Nat.not_lt.2 (Nat.le_add_left 4 n0)))) (by simp [go_sem, gL, kL, lk, renOf, V.obj, Nat.blt, Nat.ble, hsn, wnV, ← hpe]))⟩
  · obtain rfl : j = q.1.1.length := by omega
    rw [List.take_length]
    repeat' (first | (refine AW.sreg rfl fun K hK => ?_; simp only [go_sem, Nat.reduceAdd, Nat.reduceMul, Int.reduceToNat, Nat.reduceLT, Nat.reduceLeDiff, Nat.le_refl, Nat.reduceEqDiff, ↓reduceIte, beq_self_eq_true, bne_self_eq_false, Int.reduceBEq, Int.reduceBNe, or_self, true_or, or_true, Option.map_some, Option.map_none, List.length_map]) | (refine AW.seq_k fun K hK => ?_) | (refine AW.exit ?_; simp only [go_sem, ↓reduceIte]) | (refine AW.condF rfl (by first | rfl | (simp; omega) | (simp [*]; done) | fail) ?_) | (refine hK _ ?_; clear hK K) | (clear hK K; refine hK _ ?_; clear hK K))
    exact AW.ret (Fin.data rfl (by simp [go_sem, toDL_dvF]) rfl)
theorem values5_any (ms : List Mk) (hl : ms.length ≤ 42) (hi10 : In10 (scs ms)) (hk : ∀ m ∈ ms, m.1.length ≤ 1000) (q : (List Str × List D) × (List Str × List D)) (hq : ShOk ms q) : Does Tryz.prog 82 [shV ms q, I 5] [] (.d (.map (q.1.1.map D.str) (q.1.1.map fun k => vlD (bcV ms k)))) [] := by
  have hln := hq.len (by omega)
  have h1 := keys_any q.1.1 q.1.2 hln (keysLen hq hk) hq.rise
  have hba := balanced_any ms hl hi10 q hq
  refine Does.of_AW (n := 140) Tryz.func82 rfl rfl rfl fun cx hcx => ?_
  repeat' (first | ((first | refine AW.sreg rfl fun K hK => ?_ | refine run_call _ _ _ ((h1).pure rfl rfl _ _) rfl rfl (dstOk_of rfl) rfl rfl rfl ?_); simp only [go_sem, Nat.reduceAdd, Nat.reduceMul, Int.reduceToNat, Nat.reduceLT, Nat.reduceLeDiff, Nat.le_refl, Nat.reduceEqDiff, ↓reduceIte, beq_self_eq_true, bne_self_eq_false, Int.reduceBEq, Int.reduceBNe, or_self, true_or, or_true, Option.map_some, Option.map_none, List.length_map]) | (refine AW.seq_k fun K hK => ?_) | (refine AW.block ?_) | (refine AW.condF rfl (by first | rfl | (simp; omega) | (simp [*]; done) | fail) ?_) | (refine hK _ ?_; clear hK K) | (refine run_callI _ _ _ ((hba).pure rfl (fun _ => rfl) _ _) rfl rfl (dstOk_of rfl) rfl rfl rfl ?_; rintro ⟨wm, bm⟩ hw; (try dsimp only at wm); (try dsimp only at bm); (try dsimp only at hw); simp only [go_sem, Nat.reduceAdd, Nat.reduceMul, Int.reduceToNat, Nat.reduceLT, Nat.reduceLeDiff, Nat.le_refl, Nat.reduceEqDiff, ↓reduceIte, beq_self_eq_true, bne_self_eq_false, Int.reduceBEq, Int.reduceBNe, or_self, true_or, or_true, Option.map_some, Option.map_none, List.length_map]))
  refine AW.loopF (ι := Nat) [5, 18, 34, 35] (fun p => [(36, I p)]) (fun p => [(64, some (O.map ((q.1.1.take p).map D.str) (dv ((q.1.1.take p).map fun k => vlD (bcV ms k)))))]) 30 (fun p => p ≤ q.1.1.length) (fun p => q.1.1.length - p) 0 (Nat.zero_le _) (Weak.auto hcx rfl rfl (Nat.le_of_ble_eq_true rfl) (by simp [go_sem, gL, kL, renOf, V.obj, lk, Nat.blt, Nat.ble, List.map_append, dv_push, List.take_zero, dvz, List.map_nil]) (by simp [go_sem, gL, kL, renOf, V.obj, lk, Nat.blt, Nat.ble, List.map_append, dv_push, List.take_zero, dvz, List.map_nil]) (by first | (intro i hi; exact absurd hi (Nat.not_lt_zero _)) | (intro i0 hi0; match i0, hi0 with | 0, _ => exact ⟨_, rfl⟩ | n0+1, h0 => exact absurd h0 (Nat.not_lt.2 (Nat.le_add_left 1 n0))) | (intro i0 hi0; match i0, hi0 with | 0, _ => exact ⟨_, rfl⟩ | 1, _ => exact ⟨_, rfl⟩ | n0+2, h0 => exact absurd h0 (Nat.not_lt.2 (Nat.le_add_left 2 n0))) | (intro i0 hi0; match i0, hi0 with | 0, _ => exact ⟨_, rfl⟩ | 1, _ => exact ⟨_, rfl⟩ | 2, _ => exact ⟨_, rfl⟩ | n0+3, h0 => exact absurd h0 (Nat.not_lt.2 (Nat.le_add_left 3 n0))) | (intro i0 hi0; match i0, hi0 with | 0, _ => exact ⟨_, rfl⟩ | 1, _ => exact ⟨_, rfl⟩ | 2, _ => exact ⟨_, rfl⟩ | 3, _ => exact ⟨_, rfl⟩ | n0+4, h0 => exact absurd h0 (Nat.not_lt.2 (Nat.le_add_left 4 n0)))) (by simp [go_sem, gL, kL, lk, renOf, V.obj, Nat.blt, Nat.ble, List.take_zero, dvz, List.map_nil])) ?_; simp only [St.at_nil, St.at_cons, lk, Nat.reduceEqDiff, ↓reduceIte, Option.getD_some, Option.getD_none, List.cons_append, List.nil_append, List.append_nil]
  intro j e1
  by_cases hj : j < q.1.1.length
  · obtain ⟨p, hp, hpm, -⟩ := get_some hj
    have hget : (q.1.1.map D.str)[j]? = some (.str p) := by simp only [List.getElem?_map, hp, Option.map_some]
    have hsn := take_snoc hp
    have hnk : fndK (.str p) ((q.1.1.take j).map D.str) = some none := fnd_no fun hm => by
      have hnd := hq.pa.nd
      rw [← List.take_append_drop (j + 1) q.1.1, hsn] at hnd
      have := (List.nodup_append.1 (List.nodup_append.1 hnd).1).2.2 p hm p (by simp)
      exact this rfl
    have hwp := hw p hpm
    have hf := fnd_im wm p
    have hwh := whole_any (blW ms 19 p)
    cases ho : imI wm p with
    | none =>
      rw [ho] at hf
      rw [imG_none ho] at hwp
      rw [← hwp] at hwh
      repeat' (first | ((first | refine AW.sreg rfl fun K hK => ?_ | refine AW.reg rfl ?_ | refine run_call _ _ _ ((hwh).pure rfl rfl _ _) rfl rfl (dstOk_of rfl) rfl rfl rfl ?_ | refine run_call _ _ _ ((zero_ok).pure rfl rfl _ _) rfl rfl (dstOk_of rfl) rfl rfl rfl ?_); simp only [go_sem, Nat.reduceAdd, Nat.reduceMul, Int.reduceToNat, Nat.reduceLT, Nat.reduceLeDiff, Nat.le_refl, Nat.reduceEqDiff, ↓reduceIte, beq_self_eq_true, bne_self_eq_false, Int.reduceBEq, Int.reduceBNe, or_self, true_or, or_true, Option.map_some, Option.map_none, List.length_map, hget, hf, hnk]) | (refine AW.seq_k fun K hK => ?_) | (refine AW.block ?_) | (refine AW.skip ?_; simp only [Then, InBlock]) | (refine AW.condT rfl (by first | rfl | (simp; omega) | (simp [*]; done) | fail) ?_) | (refine hK _ ?_; clear hK K) | (with_reducible refine And.intro ?_ ?_; first | omega | assumption | (focus (decide)) | (focus (simp; done)) | (focus (simp; omega)) | (focus (constructor <;> omega)) | fail))
      exact ⟨j + 1, hj, by omega, (Weak.auto hcx rfl rfl (Nat.le_of_ble_eq_true rfl) (by simp [go_sem, gL, kL, renOf, V.obj, lk, Nat.blt, Nat.ble, List.map_append, dv_push, hsn, bcV, ← hwp]) (by simp [go_sem, gL, kL, renOf, V.obj, lk, Nat.blt, Nat.ble, List.map_append, dv_push, hsn, bcV, ← hwp]) (by first | (intro i hi; exact absurd hi (Nat.not_lt_zero _)) | (intro i0 hi0; match i0, hi0 with | 0, _ => exact ⟨_, rfl⟩ | n0+1, h0 => exact absurd h0 (Nat.not_lt.2 (Nat.le_add_left 1 n0))) | (intro i0 hi0; match i0, hi0 with | 0, _ => exact ⟨_, rfl⟩ | 1, _ => exact ⟨_, rfl⟩ | n0+2, h0 => exact absurd h0 (Nat.not_lt.2 (Nat.le_add_left 2 n0))) | (intro i0 hi0; match i0, hi0 with | 0, _ => exact ⟨_, rfl⟩ | 1, _ => exact ⟨_, rfl⟩ | 2, _ => exact ⟨_, rfl⟩ | n0+3, h0 => exact absurd h0 (Nat.not_lt.2 (Nat.le_add_left 3 n0))) | (intro i0 hi0; match i0, hi0 with | 0, _ => exact ⟨_, rfl⟩ | 1, _ => exact ⟨_, rfl⟩ | 2, _ => exact ⟨_, rfl⟩ | 3, _ => exact ⟨_, rfl⟩ | n0+4, h0 => exact absurd h0 (Nat.not_lt.2 (Nat.le_add_left 4 n0)))) (by simp [go_sem, gL, kL, lk, renOf, V.obj, Nat.blt, Nat.ble, hsn, bcV, ← hwp]))⟩
    | some z =>
      obtain ⟨v, hv, hgo⟩ := imI_some ho
      rw [ho] at hf
      rw [hgo] at hwp
      rw [← hwp] at hwh
      have hgg : ((wm.map fun q => D.int .i64 q.2).map V.d)[z]? = some (.d (.int .i64 v)) := by simp [hv]
      repeat' (first | ((first | refine AW.sreg rfl fun K hK => ?_ | refine AW.reg rfl ?_ | refine run_call _ _ _ ((hwh).pure rfl rfl _ _) rfl rfl (dstOk_of rfl) rfl rfl rfl ?_ | refine run_call _ _ _ ((zero_ok).pure rfl rfl _ _) rfl rfl (dstOk_of rfl) rfl rfl rfl ?_); simp only [go_sem, Nat.reduceAdd, Nat.reduceMul, Int.reduceToNat, Nat.reduceLT, Nat.reduceLeDiff, Nat.le_refl, Nat.reduceEqDiff, ↓reduceIte, beq_self_eq_true, bne_self_eq_false, Int.reduceBEq, Int.reduceBNe, or_self, true_or, or_true, Option.map_some, Option.map_none, List.length_map, hget, hf, hgg, hnk]) | (refine AW.seq_k fun K hK => ?_) | (refine AW.block ?_) | (refine AW.skip ?_; simp only [Then, InBlock]) | (refine AW.condT rfl (by first | rfl | (simp; omega) | (simp [*]; done) | fail) ?_) | (refine hK _ ?_; clear hK K) | (with_reducible refine And.intro ?_ ?_; first | omega | assumption | (focus (decide)) | (focus (simp; done)) | (focus (simp; omega)) | (focus (constructor <;> omega)) | fail))
      exact ⟨j + 1, hj, by omega, (Weak.auto hcx rfl rfl (Nat.le_of_ble_eq_true rfl) (by simp [go_sem, gL, kL, renOf, V.obj, lk, Nat.blt, Nat.ble, List.map_append, dv_push, hsn, bcV, ← hwp]) (by simp [go_sem, gL, kL, renOf, V.obj, lk, Nat.blt, Nat.ble, List.map_append, dv_push, hsn, bcV, ← hwp]) (by first | (intro i hi; exact absurd hi (Nat.not_lt_zero _)) | (intro i0 hi0; match i0, hi0 with | 0, _ => exact ⟨_, rfl⟩ | n0+1, h0 => exact absurd h0 (Nat.not_lt.2 (Nat.le_add_left 1 n0))) | (intro i0 hi0; match i0, hi0 with | 0, _ => exact ⟨_, rfl⟩ | 1, _ => exact ⟨_, rfl⟩ | n0+2, h0 => exact absurd h0 (Nat.not_lt.2 (Nat.le_add_left 2 n0))) | (intro i0 hi0; match i0, hi0 with | 0, _ => exact ⟨_, rfl⟩ | 1, _ => exact ⟨_, rfl⟩ | 2, _ => exact ⟨_, rfl⟩ | n0+3, h0 => exact absurd h0 (Nat.not_lt.2 (Nat.le_add_left 3 n0))) | (intro i0 hi0; match i0, hi0 with | 0, _ => exact ⟨_, rfl⟩ | 1, _ => exact ⟨_, rfl⟩ | 2, _ => exact ⟨_, rfl⟩ | 3, _ => exact ⟨_, rfl⟩ | n0+4, h0 => exact absurd h0 (Nat.not_lt.2 (Nat.le_add_left 4 n0)))) (by simp [go_sem, gL, kL, lk, renOf, V.obj, Nat.blt, Nat.ble, hsn, bcV, ← hwp]))⟩
  · obtain rfl : j = q.1.1.length := by omega
    rw [List.take_length]
    repeat' (first | (refine AW.sreg rfl fun K hK => ?_; simp only [go_sem, Nat.reduceAdd, Nat.reduceMul, Int.reduceToNat, Nat.reduceLT, Nat.reduceLeDiff, Nat.le_refl, Nat.reduceEqDiff, ↓reduceIte, beq_self_eq_true, bne_self_eq_false, Int.reduceBEq, Int.reduceBNe, or_self, true_or, or_true, Option.map_some, Option.map_none, List.length_map]) | (refine AW.seq_k fun K hK => ?_) | (refine AW.exit ?_; simp only [go_sem, ↓reduceIte]) | (refine AW.condF rfl (by first | rfl | (simp; omega) | (simp [*]; done) | fail) ?_) | (refine hK _ ?_; clear hK K) | (clear hK K; refine hK _ ?_; clear hK K))
    exact AW.ret (Fin.data rfl (by simp [go_sem, toDL_dvF]) rfl)
end Go.AX
