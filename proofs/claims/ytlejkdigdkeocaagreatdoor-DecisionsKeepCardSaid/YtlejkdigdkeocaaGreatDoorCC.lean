/- Walks over maps that remember what was seen. -/
import Derived.Test.YtlejkdigdkeocaaGreatDoorAx38
import Derived.Test.YtlejkdigdkeocaaGreatDoorCB
import Derived.Test.YtlejkdigdkeocaaGreatDoorCA
import Derived.Test.YtlejkdigdkeocaaGreatDoorSk
import Derived.Test.YtlejkdigdkeocaaGreatDoorAx36
import Derived.Test.YtlejkdigdkeocaaGreatDoorAx43
set_option linter.unusedSimpArgs false
set_option linter.unusedVariables false
set_option maxRecDepth 1000000
set_option maxHeartbeats 4000000
set_option maxRecDepth 100000
set_option linter.unnecessarySimpa false
namespace Go.AX
open Go Go.Proofs Go.RowKit
attribute [go_sem] aRange aEntry mapOf Lf.done Lf.may Lf.next
/-- A step over a map that remembers what was seen. -/
theorem run_next {P : Program} {ops : Array Oper} {i : Nat} {rest : List Oper} {st : St} {K : St → Prop} {dst : Option Nat} {it : Operand} {ty : TypeId} {pos : String} {af : Array Edge} {gd : Option (Nat × Bool)} {id n : Nat} {cur : Option Nat} {left : Lf} {m : V} {ks : List D} {vs : List V}
    (hit : st.ev it = .ptr id 0) (hid : st.hv id = some (.miter m n cur left)) (hm : mapOf st.hv m = some (ks, vs)) (hw : st.want ops ⟨dst, .next it false, ty, pos, af, gd⟩ = some true) (hd : dstOk dst st.n) (hk : ks.length = n) (hv : vs.length = n)
    (k1 : left.done n → aRunO P ops (i + 1) rest (st.put dst (.tup [.d (.bool false)]) []) K)
    (k2 : ∀ (j : Nat) (k : D) (v : V), left.may j → ks[j]? = some k → vs[j]? = some v → aRunO P ops (i + 1) rest (st.put dst (.tup [.d (.bool true), .d k, v]) [(id, some (.miter m n (some j) (left.next j)))]) K) : callRun P ops i ⟨dst, .next it false, ty, pos, af, gd⟩ rest st K := by
  simp only [callRun, aRunO, hw, aStep, aNext, hit, hid, hm]
  exact ⟨hd, hk, hv, k1, k2⟩
theorem run_entry {P : Program} {ops : Array Oper} {i : Nat} {rest : List Oper} {st : St} {K : St → Prop} {dst : Option Nat} {it : Operand} {ty : TypeId} {pos : String} {af : Array Edge} {gd : Option (Nat × Bool)} {id n j : Nat} {left : Lf} {m : V} {ks : List D} {vs : List V} {k : D} {v : V}
    (hit : st.ev it = .ptr id 0) (hid : st.hv id = some (.miter m n (some j) left)) (hm : mapOf st.hv m = some (ks, vs)) (hw : st.want ops ⟨dst, .entry it, ty, pos, af, gd⟩ = some true) (hd : dstOk dst st.n) (hk : ks.length = n) (h1 : ks[j]? = some k) (h2 : vs[j]? = some v)
    (k1 : aRunO P ops (i + 1) rest (st.put dst (.tup [.d k, v]) []) K) : callRun P ops i ⟨dst, .entry it, ty, pos, af, gd⟩ rest st K := by
  simp only [callRun, aRunO, hw, aStep, aEntry, hit, hid, hm, hk, h1, h2, if_true]
  exact ⟨hd, k1⟩
theorem nodup_subN : ∀ (l r : List Nat), l.Nodup → (∀ x ∈ l, x ∈ r) → l.length ≤ r.length
  | [], _, _, _ => Nat.zero_le _
  | x :: l, r, hn, h => by
    have hn' := List.nodup_cons.1 hn
    have hx := h x (by simp)
    have ih := nodup_subN l (r.erase x) hn'.2 fun y hy => by
      have hne : y ≠ x := by rintro rfl; exact hn'.1 hy
      exact (List.mem_erase_of_ne hne).2 (h y (List.mem_cons_of_mem _ hy))
    rw [List.length_erase_of_mem hx] at ih
    have := List.length_pos_of_mem hx
    simp only [List.length_cons]
    omega
/-- Places of a map that were seen. -/
structure Sd (n : Nat) (seen : List Nat) : Prop where
  nd : seen.Nodup
  lt : ∀ j ∈ seen, j < n
theorem Sd.nil (n : Nat) : Sd n [] := ⟨List.nodup_nil, by simp⟩
theorem Sd.add {n : Nat} {seen : List Nat} (h : Sd n seen) {j : Nat} (hj : j ∉ seen) (hl : j < n) : Sd n (seen ++ [j]) where
  nd := by rw [List.nodup_append]; exact ⟨h.nd, by simp, fun a ha b hb => by simp at hb; subst hb; rintro rfl; exact hj ha⟩
  lt := fun i hi => by
    rcases List.mem_append.1 hi with hi | hi
    · exact h.lt i hi
    · obtain rfl := List.mem_singleton.1 hi
      exact hl
theorem Sd.len {n : Nat} {seen : List Nat} (h : Sd n seen) {j : Nat} (hj : j ∉ seen) (hl : j < n) : seen.length < n := by
  have := nodup_subN (seen ++ [j]) (List.range n) (h.add hj hl).nd fun i hi => List.mem_range.2 ((h.add hj hl).lt i hi)
  simp at this
  omega
theorem Sd.perm {n : Nat} {seen : List Nat} (h : Sd n seen) (hd : ∀ i, i < n → i ∈ seen) : seen.Perm (List.range n) :=
  (List.perm_ext_iff_of_nodup h.nd List.nodup_range).2 fun a => ⟨fun ha => List.mem_range.2 (h.lt a ha), fun ha => hd a (List.mem_range.1 ha)⟩
theorem outF_perm {α : Type} {gs : List α} {d : α} {seen : List Nat} (h : seen.Perm (List.range gs.length)) : (seen.map fun j => gs.getD j d).Perm gs := by
  have h1 := h.map fun j => gs.getD j d
  have h2 : (List.range gs.length).map (fun j => gs.getD j d) = gs := by
    apply List.ext_getElem?
    intro i
    rw [List.getElem?_map]
    by_cases hi : i < gs.length
    · rw [List.getElem?_range hi]
      simp [List.getD, List.getElem?_eq_getElem hi]
    · rw [List.getElem?_eq_none (by simpa using hi), List.getElem?_eq_none (by omega)]
      rfl
  rwa [h2] at h1
theorem frz_ok2 {hv : Nat → Option O} {keep : Nat → Bool} {x : V} {d : D} (h : frz hv keep x = .d d) (c : Int) : frz hv keep (resV [x, I c]) = V.ren id (.tup [.d d, I c]) := by
  simp [resV, go_sem, h]
end Go.AX

namespace Go.AX
open Go Go.Proofs
abbrev Fr (a b : Int) : D := .agg [.int .i64 a, .int .i64 b]
theorem gcd_pos (a b : Int) (hb : 1 ≤ b) : 1 ≤ (Int.gcd a b : Int) := by
  have : 0 < Int.gcd a b := Int.gcd_pos_of_ne_zero_right a (by omega)
  omega
theorem tdiv_fits (a g : Int) (M : Int) (hg : 1 ≤ g) (h : -M ≤ a ∧ a ≤ M) : -M ≤ a.tdiv g ∧ a.tdiv g ≤ M := by
  have h1 := Int.natAbs_tdiv_le_natAbs a g
  omega
/-- A fraction in lowest terms. -/
def low (a b : Int) : Int × Int := (a.tdiv (Int.gcd a b), b.tdiv (Int.gcd a b))
theorem fr_size (h : 92 < Tryz.prog.types.size) : (Tryz.prog.types[92]'h).size = 2 := by kernel_rfl
theorem lowest_any (a b : Int) (ha : -1000000000000000000 ≤ a ∧ a ≤ 1000000000000000000) (hb : 1 ≤ b ∧ b ≤ 1000000000000000000) : Does Tryz.prog 104 [I a, I b] [] (.d (Fr (low a b).1 (low a b).2)) [] := by
  have hg := gcd_pos a b hb.1
  have q1 := tdiv_fits a (Int.gcd a b) _ hg ha
  have q2 := tdiv_fits b (Int.gcd a b) _ hg ⟨by omega, hb.2⟩
  have hd : ¬ b < 0 := by omega
  have hgz : ((Int.gcd a b : Int) == 0) = false := by simp; omega
  refine Does.of_AW (n := 22) Tryz.func104 rfl rfl rfl fun cx hcx => ?_
  repeat' (first | ((first | refine AW.sreg rfl fun K hK => ?_ | refine AW.sregD hmix rfl fun K hK => ?_ | refine run_call _ _ _ ((gcd_go a b (by omega) (by omega)).pure rfl rfl _ _) rfl rfl (dstOk_of rfl) rfl rfl rfl ?_); simp only [go_sem, ↓reduceIte, hd, hgz]) | (refine AW.seq_k fun K hK => ?_) | (refine AW.skip ?_; simp only [Then, InBlock]) | (refine AW.cF ?_) | (refine hK _ ?_; clear hK K) | (with_reducible refine And.intro (?_ : regOk _ _ = true) ?_; kernel_rfl) | (with_reducible refine andI ?_))
  exact AW.ret (Fin.data rfl (by simp [go_sem, fr_size, low]) rfl)
end Go.AX

namespace Go.AX
open Go Go.Proofs Go.RowKit Go.Sort Go.Shelf
theorem HR.grow {cx : Cx} {hv : Nat → Option O} {σ : Nat → Option Loc} {w : World} (h : HR cx hv σ w) (os : Array Obj) : HR cx hv σ (Go.Sort.grow w os) := by
  have hb : ∀ b, b < w.heap.size → (Go.Sort.grow w os).heap[b]? = w.heap[b]? := fun b hb => by
    show (w.heap ++ os)[b]? = _
    rw [Array.getElem?_append_left hb]
  have hs : w.heap.size ≤ (Go.Sort.grow w os).heap.size := by
    show _ ≤ (w.heap ++ os).size
    rw [Array.size_append]; omega
  have hok : ∀ c, okB cx w hv σ c → okB cx (Go.Sort.grow w os) hv σ c := fun c hc => ⟨hc.1, Nat.lt_of_lt_of_le hc.2.1 hs, hc.2.2⟩
  constructor
  · exact h.os
  · exact h.tape
  · exact h.output
  · exact Nat.le_trans h.size hs
  · intro b hb1 hp
    rw [hb b (Nat.lt_of_lt_of_le hb1 h.size)]
    exact h.frame b hb1 hp
  · intro id o hid
    exact RO_mono (fun b hb2 => ⟨hok b hb2, hb b hb2.2.1⟩) (fun _ _ h => h) (fun b K s hs' => hb b (h.new id o b K s hid hs').2) (h.own id o hid)
  · intro id o b K s a c
    obtain ⟨h1, h2⟩ := h.new id o b K s a c
    exact ⟨h1, Nat.lt_of_lt_of_le h2 hs⟩
  · exact h.inj
abbrev IW (zs : List Int) : O := .vec 3 1 (dv (zs.map (D.int .i64)))
def srtI (zs : List Int) : List Int := zs.mergeSort fun x y => decide (x ≤ y)
theorem srtI_perm (zs : List Int) : (srtI zs).Perm zs := List.mergeSort_perm _ _
theorem putRow_setB {w : World} {b : Nat} {c : Array Value} {e : TypeId} {fr : Nat × Nat} (hb : w.heap[b]? = some (.cells c e fr)) (d : Array Int) : putRow (Value.int .i64) w b 0 d = setB w b (.cells (putCells (Value.int .i64) 0 d c) e fr) := by
  unfold putRow mapBlock setB
  congr 1
  apply Array.ext_getElem?
  intro i
  rw [Array.getElem?_modify, Array.getElem?_setIfInBounds]
  split
  · rename_i hi
    subst hi
    have hl : b < w.heap.size := by
      rcases Nat.lt_or_ge b w.heap.size with h' | h'
      · exact h'
      · simp [Array.getElem?_eq_none h'] at hb
    rw [hb, if_pos hl]
    rfl
  · rfl
theorem sortInts_does (zs : List Int) (hl : zs.length ≤ 1000) : Does Tryz.prog 168 [.slr 0 0 zs.length] [IW zs] (.tup []) [IW (srtI zs)] := by
  refine ⟨⟨Tryz.f168, Tryz.func168, rfl, by kernel_rfl⟩, fun cx σ w vs hgl hr hfr hp1 hp2 hpb hargs => ?_⟩
  have ho := hr.own 0 _ rfl
  simp only [RVl, RV] at hargs
  obtain ⟨v1, us, e1, h1, rfl⟩ := hargs
  have htup : ∀ (w : World) ok σ, RV w ok σ (.tup []) (.tuple #[]) := fun w ok σ => by simp only [RV]; exact ⟨#[], rfl, by simp only [RVl]⟩
  have hvs : vs = #[v1] := by cases vs; simp_all
  subst hvs
  have hnone : ∀ (p : Option Addr) (cap : Nat), zs = [] → Calls Tryz.prog 168 #[.slice p 0 cap] w fun e w' => ∃ v, e = .returned v ∧ ∃ σ', HR cx (hvL [IW (srtI zs)]) σ' w' ∧ (∀ i l, i < [IW zs].length → σ i = some l → σ' i = some l) ∧ (∀ i, [IW (srtI zs)].length ≤ i → σ' i = none) ∧ RV w' (okB cx w' (hvL [IW (srtI zs)]) σ') σ' (.tup []) v := by
    intro p cap hz
    subst hz
    refine (AnyM.slices_Sort_int_none Tryz.sorti168 p cap w).mono ?_
    rintro e w' ⟨rfl, rfl⟩
    have he : hvL [IW (srtI [])] = fun i => [IW []][i]? := by
      funext i
      rcases i with _ | i <;> simp [hvL, srtI, O.lv]
    exact ⟨_, rfl, σ, by rw [he]; exact hr, fun i l _ h => h, hfr, htup _ _ _⟩
  rcases h1 with ⟨hn, -, h0, a0, rfl⟩ | ⟨b, K, s, a, cap, hs, rfl, hnc, hlc, hca⟩
  · exact hnone _ _ (List.eq_nil_of_length_eq_zero h0)
  · rcases ho with ⟨hn, _⟩ | ⟨b', K', c, fr, hs', hb, hf, hcs, hxl, hel⟩
    · rw [hs] at hn; cases hn
    rw [hs] at hs'
    cases hs'
    rcases Nat.eq_zero_or_pos zs.length with hz | hz
    · rw [hz]
      exact hnone _ _ (List.eq_nil_of_length_eq_zero hz)
    obtain rfl : a = ⟨b, 0, none⟩ := by
      rcases hca with h | h
      · omega
      · rw [h]
    have hbl : b < w.heap.size := by
      rcases Nat.lt_or_ge b w.heap.size with h' | h'
      · exact h'
      · simp [Array.getElem?_eq_none h'] at hb
    have hlen : zs.length ≤ c.size := by
      simp only [dv_length, List.length_map] at hxl
      omega
    have hcell : ∀ j, j < zs.length → c[j]? = some (.int .i64 zs[j]!) := by
      intro j hj
      obtain ⟨v, hv, hrv⟩ := RVels_get hel (i := j) (x := .d (.int .i64 zs[j]!)) (by rw [dv_get, List.getElem?_map, List.getElem?_eq_getElem hj, getElem!_pos zs j hj]; rfl)
      simp only [RV, RD] at hrv
      subst hrv
      simp only [ElemAt, Nat.zero_add, Nat.mul_one] at hv
      exact hv.2
    have hH : Holds (Value.int .i64) w b 0 zs.toArray := by
      intro j hj
      simp only [List.size_toArray] at hj
      refine ⟨?_, ?_⟩
      · simp only [World.cell?, hb, Nat.zero_add]
        rw [hcell j hj]
        simp
      · simp only [World.frozen?, hb, Nat.zero_add]
        have := hf j (by omega)
        simpa using this
    refine (AnyM.slices_Sort_int Tryz.sorti168 b 0 cap zs w hH hbl (by omega)).mono ?_
    rintro e w' ⟨rfl, n, os, rfl⟩
    have hr2 : HR cx (fun i => [IW zs][i]?) σ (Go.Sort.ahead w n) := hr.same rfl rfl rfl rfl
    refine ⟨_, rfl, σ, ?_, fun i l _ h => h, hfr, htup _ _ _⟩
    refine HR.grow ?_ os
    rw [putRow_setB (w := Sort.ahead w n) (c := c) (e := 3) (fr := fr) hb]
    have hw := hr2.write (id := 0) (o0 := IW zs) rfl hs (.cells (putCells (Value.int .i64) 0 (srtI zs).toArray c) 3 fr) (IW (srtI zs)) (fun ok' hok' => by
      have hsl : (srtI zs).length = zs.length := (srtI_perm zs).length_eq
      refine .inr ⟨b, K, putCells (Value.int .i64) 0 (srtI zs).toArray c, fr, hs, setB_same hbl, ?_, ?_, ?_, ?_⟩
      · intro i hi
        exact hf i (by simpa [putCells] using hi)
      · simpa [putCells] using hcs
      · simp only [dv_length, List.length_map] at hxl ⊢
        omega
      · refine RVels_of fun i x hx => ?_
        rw [dv_get, List.getElem?_map] at hx
        have hi : i < (srtI zs).length := by
          rcases Nat.lt_or_ge i (srtI zs).length with h' | h'
          · exact h'
          · rw [List.getElem?_eq_none h'] at hx; cases hx
        rw [List.getElem?_eq_getElem hi] at hx
        cases hx
        refine ⟨.int .i64 (srtI zs)[i], ?_, by simp only [RV, RD]⟩
        simp only [ElemAt, Nat.zero_add, Nat.mul_one]
        refine ⟨trivial, ?_⟩
        unfold putCells
        rw [Array.getElem?_mapIdx, Array.getElem?_eq_getElem (by omega)]
        have : i < (srtI zs).toArray.size := by simpa using hi
        simp [this, hi])
    have he : hvL [IW (srtI zs)] = upd (fun i => [IW zs][i]?) 0 (some (IW (srtI zs))) := by
      funext i
      rcases i with _ | i
      · rfl
      · rw [upd_other _ _ (by omega)]
        simp [hvL]
    rw [he]
    exact hw.1
end Go.AX

namespace Go.AX
open Go Go.Proofs
/-- A mark: paper, person, score. -/
abbrev Mk := Str × Str × Int
abbrev mkD (m : Mk) : D := .agg [.str m.1, .str m.2.1, .int .i64 m.2.2]
def MP5 : List Str := [[112, 97], [112, 98], [112, 99], [112, 100], [112, 101]]
def MPx : List Str := MP5 ++ [[], [65], [112, 122]]
def MQ4 : List Str := [[97, 110, 110], [98, 111, 98], [99, 105, 100], [100, 101, 101]]
def MS8 : List Int := [0, 3, 5, 5, 6, 7, 8, 10]
/-- What may be drawn. -/
structure MkR (m : Mk) : Prop where
  pa : m.1 ∈ MPx
  pe : m.2.1 ∈ MQ4
  nu : -1099511627776 ≤ m.2.2 ∧ m.2.2 ≤ 1099511627776
theorem cpP_swo : Sort.SWO (ltOf cpP) where
  irrefl x := by show decide (cpP x x < 0) = false; rw [cpP_lt]; exact ltP_irrefl x
  trans x y z h1 h2 := by
    have h1 : ltP x y = true := by rw [← cpP_lt]; exact h1
    have h2 : ltP y z = true := by rw [← cpP_lt]; exact h2
    show decide (cpP x z < 0) = true
    rw [cpP_lt]; exact ltP_trans h1 h2
  ntrans x y z h1 h2 := by
    have h1 : ltP x y = false := by rw [← cpP_lt]; exact h1
    have h2 : ltP y z = false := by rw [← cpP_lt]; exact h2
    show decide (cpP x z < 0) = false
    rw [cpP_lt]; exact ltP_ntr z y x h2 h1
theorem sortPr_every (xs : List Pr) (hl : xs.length ≤ 1000) :
    DoesI Tryz.prog 153 [.slr 0 0 xs.length, .fn 154 []] [.vec 40 2 (dv (xs.map prD))] (fun ys : List Pr => ys.Perm xs ∧ Sorted ltP ys) (fun _ => .tup []) (fun ys => [.vec 40 2 (dv (ys.map prD))]) := by
  have h := DoesI.sortFuncK (fl := fun p : Pr => [D.str p.1, D.str p.2]) (cf := cpP) (caps := []) Tryz.sfp153 ⟨Tryz.f153, Tryz.func153, rfl, by kernel_rfl⟩ 40 (k := 2) (by omega) (fun w => rfl) (fun w => rfl) (fun _ => rfl) (fun _ => rfl) cpP_swo (c := 154) ⟨Tryz.f154, Tryz.func154, rfl, by kernel_rfl⟩ pairOrder_any xs (by omega)
  refine h.weaken fun ys ⟨h1, h2⟩ => ⟨ys, ⟨h1, ?_⟩, rfl, rfl⟩
  exact h2.imp fun {a b} h => by rw [← cpP_lt]; exact h
theorem pairs14I (l : List Int) (hl2 : l.length ≤ 9223372036854775807) (at_ : Int) (ha : 0 ≤ at_) (hb : at_ ≤ 100000) (papers people : List Str) (hp : papers.length ≤ 1000) (hq : people.length ≤ 1000) (many : Nat) (hm : many ≤ 14) :
    DoesI Tryz.prog 91 [.ptr 0 0, .slr 1 0 papers.length, .slr 2 0 people.length, I many] [Stm l at_, SV papers, SV people]
      (fun q : List Pr × Nat × Int => (q.1.length + q.2.1 ≤ many ∧ at_ ≤ q.2.2 ∧ q.2.2 ≤ at_ + 2 * many) ∧ (∀ p ∈ q.1, p.1 ∈ papers ∧ p.2 ∈ people) ∧ RiseP q.1)
      (fun q => .slr 3 0 q.1.length) (fun q => [Stm l q.2.2, SV papers, SV people, .vec 40 2 (dv (q.1.map prD ++ List.replicate q.2.1 (prD ([], []))))]) := by
  refine DoesI.of_AW (n := 44) Tryz.func91 rfl rfl rfl fun cx hcx => ?_
  repeat' (first | (refine AW.sreg rfl fun K hK => ?_; simp only [go_sem, ↓reduceIte]) | (refine AW.seq_k fun K hK => ?_) | (refine AW.block ?_) | (refine hK _ ?_; clear hK K))
  refine AW.weak (Weak.nil 9 40 2 rfl) ?_
  refine AW.loopF (ι := Nat × List Pr × Int) [0, 1, 2, 10] (fun p => [(9, .slr 448 0 p.2.1.length), (11, I p.1)]) (fun p => [(0, some (Stm l p.2.2)), (1, some (SV papers)), (2, some (SV people)), (448, some (O.vec 40 2 (dv (p.2.1.map prD))))]) 8 (fun p => p.1 ≤ many ∧ p.2.1.length ≤ p.1 ∧ (∀ x ∈ p.2.1, x.1 ∈ papers ∧ x.2 ∈ people) ∧ at_ ≤ p.2.2 ∧ p.2.2 ≤ at_ + 2 * p.1) (fun p => many - p.1) (0, [], at_) ⟨by simp, by simp, by simp, by simp, by simp⟩ (Weak.aC hcx (by refine ⟨?_, ?_, ?_⟩ <;> simp [go_sem, gL, kL, renOf, V.obj, Nat.blt, Nat.ble, List.map_append, dv_push])) ?_; simp only [St.at_nil, St.at_cons, lk, Nat.reduceEqDiff, ↓reduceIte, Option.getD_some, Option.getD_none, List.cons_append, List.nil_append, List.append_nil]
  rintro ⟨i, out, a⟩ ⟨h1, h2, h3, h4, h5⟩
  simp only at h1 h2 h3 h4 h5 ⊢
  by_cases hi : i < many
  · by_cases hne : 0 < papers.length ∧ 0 < people.length
    · have r1 := nextV_range l a papers.length (by omega)
      have r2 := nextV_range l (a + 1) people.length (by omega)
      have n1 := next_any l hl2 a papers.length (by omega) (by omega) (by omega) (by omega)
      have n2 := next_any l hl2 (a + 1) people.length (by omega) (by omega) (by omega) (by omega)
      generalize nextV l a papers.length = v1 at r1 n1
      generalize nextV l (a + 1) people.length = v2 at r2 n2
      obtain ⟨x1, hx1, hm1, -⟩ := get_some (l := papers) (i := v1.toNat) (by omega)
      obtain ⟨x2, hx2, hm2, -⟩ := get_some (l := people) (i := v2.toNat) (by omega)
      have hg1 : (dv (papers.map D.str))[0 + v1.toNat]? = some (.d (.str x1)) := by simp only [dv, Nat.zero_add, List.getElem?_map, hx1, Option.map_some]
      have hg2 : (dv (people.map D.str))[0 + v2.toNat]? = some (.d (.str x2)) := by simp only [dv, Nat.zero_add, List.getElem?_map, hx2, Option.map_some]
      repeat' (first | ((first | refine AW.sreg rfl fun K hK => ?_ | refine AW.reg rfl ?_ | refine AW.regD hmix rfl ?_ | refine runT_call _ _ [0] (fun hv hag => (n1).objs [0] ⟨((hag 0 (by simp)).trans rfl), trivial⟩ rfl (by decide) (by simp [go_sem, renOs]) (by simp) (by simp) (by simp [go_sem]) (by simp [go_sem]) (by simp [go_sem]) (by simp [go_sem])) rfl rfl (dstOk_of rfl) rfl rfl ?_ | refine runT_call _ _ [0] (fun hv hag => (n2).objs [0] ⟨((hag 0 (by simp)).trans rfl), trivial⟩ rfl (by decide) (by simp [go_sem, renOs]) (by simp) (by simp) (by simp [go_sem]) (by simp [go_sem]) (by simp [go_sem]) (by simp [go_sem])) rfl rfl (dstOk_of rfl) rfl rfl ?_); simp only [go_sem, ↓reduceIte, hg1, hg2]) | (refine AW.seq_k fun K hK => ?_) | (refine AW.block ?_) | (refine AW.skip ?_; simp only [Then, InBlock]) | (refine AW.cT ?_) | (refine hK _ ?_; clear hK K) | (refine stepB_split (fun h => ?_) (fun h => ?_) <;> (have hb0 := h) <;> (try simp only [Bool.not_eq_true', Bool.not_eq_false'] at hb0) <;> (try simp only [decide_eq_true_eq, decide_eq_false_iff_not, Bool.not_eq_true', Bool.not_eq_false', Bool.not_eq_eq_eq_not, Bool.not_true, Bool.not_false, beq_iff_eq, bne_iff_ne, beq_eq_false_iff_ne, ne_eq, Bool.and_eq_true, Bool.or_eq_true, Bool.or_eq_false_iff] at h) <;> simp only [go_sem, ↓reduceIte, hb0, h, decide_true, decide_false, hg1, hg2] <;> (try clear hb0)) | (with_reducible refine And.intro (?_ : regOk _ _ = true) ?_; kernel_rfl) | (with_reducible refine andI ?_) | (exfalso; omega))
      refine ⟨(i + 1, out ++ [(x1, x2)], a + 1 + 1), ⟨hi, by simp; omega, ?_, by simp only; omega, by simp only; omega⟩, by simp only; omega, (Weak.aC hcx (by refine ⟨?_, ?_, ?_⟩ <;> simp [go_sem, gL, kL, renOf, V.obj, Nat.blt, Nat.ble, List.map_append, dv_push]))⟩
      intro x hx
      rcases List.mem_append.1 hx with hx | hx
      · exact h3 x hx
      · obtain rfl := List.mem_singleton.1 hx
        exact ⟨hm1, hm2⟩
    · repeat' (first | ((first | refine AW.sreg rfl fun K hK => ?_ | refine AW.reg rfl ?_ | refine AW.regD hmix rfl ?_); simp only [go_sem, ↓reduceIte]) | (refine AW.seq_k fun K hK => ?_) | (refine AW.block ?_) | (refine AW.skip ?_; simp only [Then, InBlock]) | (refine AW.cT ?_) | (refine AW.cF ?_) | (refine AW.cond rfl (fun h => ?_) (fun h => ?_) <;> (try simp only [decide_eq_true_eq, decide_eq_false_iff_not, Bool.not_eq_true', Bool.not_eq_false', Bool.not_eq_eq_eq_not, Bool.not_true, Bool.not_false, beq_iff_eq, bne_iff_ne, beq_eq_false_iff_ne, ne_eq, Bool.and_eq_true, Bool.or_eq_true, Bool.or_eq_false_iff] at h)) | (refine hK _ ?_; clear hK K) | (refine stepB_split (fun h => ?_) (fun h => ?_) <;> (have hb0 := h) <;> (try simp only [Bool.not_eq_true', Bool.not_eq_false'] at hb0) <;> (try simp only [decide_eq_true_eq, decide_eq_false_iff_not, Bool.not_eq_true', Bool.not_eq_false', Bool.not_eq_eq_eq_not, Bool.not_true, Bool.not_false, beq_iff_eq, bne_iff_ne, beq_eq_false_iff_ne, ne_eq, Bool.and_eq_true, Bool.or_eq_true, Bool.or_eq_false_iff] at h) <;> simp only [go_sem, ↓reduceIte, hb0, h, decide_true, decide_false] <;> (try clear hb0)) | (with_reducible refine andI ?_) | (exfalso; omega))
      all_goals first | (exfalso; omega) | exact ⟨(i + 1, out, a), ⟨hi, by simp only; omega, h3, h4, by simp only; omega⟩, by simp only; omega, (Weak.aC hcx (by refine ⟨?_, ?_, ?_⟩ <;> simp [go_sem, gL, kL, renOf, V.obj, Nat.blt, Nat.ble, List.map_append, dv_push]))⟩
  · obtain rfl : i = many := by omega
    have hs := sortPr_every out (by omega)
    repeat' (first | ((first | refine AW.sreg rfl fun K hK => ?_ | refine AW.exit ?_); simp only [go_sem, ↓reduceIte]) | (refine AW.seq_k fun K hK => ?_) | (refine AW.cF ?_) | (refine hK _ ?_; clear hK K) | (clear hK K; refine hK _ ?_; clear hK K) | (refine run_callI _ _ _ ((hs).objs [_] ⟨rfl, trivial⟩ rfl (by decide) (by simp [go_sem, renOs]) (by simp [go_sem]) (by simp [go_sem]) (fun j hj => ⟨by simp, by simp, by simp [go_sem], by simp [go_sem]⟩)) rfl rfl (dstOk_of rfl) rfl rfl rfl ?_; rintro ys hys; (try dsimp only at ys); (try dsimp only at hys); simp only [go_sem, ↓reduceIte]))
    obtain ⟨hperm, hso⟩ := hys
    have hc := compact_Pr ys (by rw [hperm.length_eq]; omega)
    rw [hperm.length_eq] at hc
    repeat' (first | (refine hK _ ?_; clear hK K) | (refine run_call _ _ _ ((hc).objA [_]) rfl rfl (dstOk_of rfl) rfl rfl rfl ?_; simp only [go_sem, ↓reduceIte]))
    have hcl := compactM_len ys
    rw [hperm.length_eq] at hcl
    exact AW.ret ⟨(compactM ys, out.length - (compactM ys).length, a), ⟨⟨by simp only; omega, h4, h5⟩, fun p hp => h3 p (hperm.mem_iff.1 ((compactM_mem _ _).1 hp)), compactM_rise (fun _ _ => ltP_total) (fun _ _ _ => ltP_trans) _ hso⟩, Fin.objs [0, 1, 2, 448] rfl (by simp [go_sem, inI, gI]) ⟨⟨_, rfl, by simp [go_sem, inI, gI]⟩, ⟨_, rfl, by simp [go_sem, inI, gI]⟩, ⟨_, rfl, by simp [go_sem, inI, gI]⟩, ⟨_, rfl, by simp [go_sem, inI, gI]⟩, trivial⟩ (by simp) rfl (by simp [go_sem]) (by simp [go_sem]) rfl⟩
theorem marks10I (l : List Int) (hl2 : l.length ≤ 9223372036854775807) (at_ : Int) (ha : 0 ≤ at_) (hb : at_ ≤ 10000) :
    DoesI Tryz.prog 32 [.ptr 0 0] [Stm l at_] (fun q : List Mk × Int => ((∀ m ∈ q.1, MkR m) ∧ q.1.length ≤ 15) ∧ at_ ≤ q.2 ∧ q.2 ≤ at_ + 60) (fun q => .d (.sl (q.1.map mkD))) (fun q => [Stm l q.2]) := by
  refine DoesI.of_AW (n := 65) Tryz.func32 rfl rfl rfl fun cx hcx => ?_
  repeat' (first | (refine AW.sreg rfl fun K hK => ?_; simp only [go_sem, ↓reduceIte]) | (refine AW.seq_k fun K hK => ?_) | (refine hK _ ?_; clear hK K) | (refine run_callI _ _ _ ((rangeI l hl2 _ 0 14 (by omega) (by omega) (by omega) (by omega) (by omega)).objs [0] ⟨rfl, trivial⟩ rfl (by decide) (by simp [go_sem, renOs]) (by simp [go_sem]) (by simp [go_sem]) (fun j hj => ⟨by simp, by simp, by simp [go_sem], by simp [go_sem]⟩)) rfl rfl (dstOk_of rfl) rfl rfl rfl ?_; rintro mn hmn; (try dsimp only at mn); (try dsimp only at hmn); simp only [go_sem, ↓reduceIte]))
  have hpr := pairs14I l hl2 (at_ + 1) (by omega) (by omega) MP5 MQ4 (by simp [MP5]) (by simp [MQ4]) mn.toNat (by omega)
  rw [Int.toNat_of_nonneg hmn.1] at hpr
  have hpml : mn.toNat ≤ 14 := by omega
  repeat' (first | (refine AW.block ?_) | (refine hK _ ?_; clear hK K) | (refine run_callI _ _ _ ((hpr).objs [0, _, _] ⟨rfl, rfl, rfl, trivial⟩ rfl (by decide) (by simp [go_sem, renOs]) (by simp [go_sem]) (by simp [go_sem]) (fun j hj => ⟨by simp, by simp, by simp [go_sem], by simp [go_sem]⟩)) rfl rfl (dstOk_of rfl) rfl rfl rfl ?_; rintro q hq; (try dsimp only at q); (try dsimp only at hq); simp only [go_sem, ↓reduceIte, Nat.reduceSub, Nat.add_zero]))
  obtain ⟨ps, z, a⟩ := q
  obtain ⟨⟨q1, q4, q5⟩, q2, q3⟩ := hq
  dsimp only at q1 q2 q3 q4 q5 ⊢
  have hsub : (3 : Nat) - 3 = 0 := rfl
  repeat' (first | fail)
  refine AW.weak (Weak.nil 3 171 3 rfl) ?_
  refine AW.loopF (ι := Nat × List Mk × Int) [0, 12, 13] (fun p => [(14, I p.1), (3, .slr 704 0 p.2.1.length)]) (fun p => [(0, some (Stm l p.2.2)), (512, some (O.vec 40 2 (dv (ps.map prD ++ List.replicate z (prD ([], [])))))), (704, some (O.vec 171 3 (dv (p.2.1.map mkD))))]) 14 (fun p => p.1 ≤ ps.length ∧ (p.2.1.length = p.1 ∧ ∀ x ∈ p.2.1, MkR x) ∧ a ≤ p.2.2 ∧ p.2.2 ≤ a + p.1) (fun p => ps.length - p.1) (0, [], a) ⟨by simp, ⟨by simp, by simp⟩, by simp, by simp⟩ (Weak.aC hcx (by refine ⟨?_, ?_, ?_⟩ <;> simp [go_sem, gL, kL, renOf, V.obj, Nat.blt, Nat.ble, List.map_append, dv_push])) ?_; simp only [St.at_nil, St.at_cons, lk, Nat.reduceEqDiff, ↓reduceIte, Option.getD_some, Option.getD_none, List.cons_append, List.nil_append, List.append_nil]
  rintro ⟨i, out, b⟩ ⟨h1, ⟨h2, h3⟩, h4, h5⟩
  dsimp only at h1 h2 h3 h4 h5 ⊢
  by_cases hi : i < ps.length
  · obtain ⟨x, hx, hxm, -⟩ := get_some hi
    have hget : (dv (ps.map prD ++ List.replicate z (prD ([], []))))[0 + i]? = some (.d (prD x)) := by
      simp only [dv, Nat.zero_add, List.getElem?_map]
      rw [List.getElem?_append_left (by simpa using hi), List.getElem?_map, hx]
      rfl
    have hp2 := pick_any l hl2 b (by omega) (by omega) MS8 (by simp [MS8]) (by simp [MS8])
    have hd2 := pick_mem l b MS8 (by simp [MS8])
    generalize MS8.getD (nextV l b MS8.length).toNat 0 = d at hp2 hd2
    have hd3 : 0 ≤ d ∧ d ≤ 10 := (show ∀ x ∈ MS8, 0 ≤ x ∧ x ≤ 10 by decide) d hd2
    have htk : List.take out.length (dv (out.map mkD)) = dv (out.map mkD) := List.take_of_length_le (by simp [dv])
    obtain ⟨pa, pe⟩ := x
    have hq := q2 _ hxm
    repeat' (first | ((first | refine AW.sreg rfl fun K hK => ?_ | refine AW.reg rfl ?_ | refine AW.regD hmix rfl ?_ | refine runT_call _ _ [0, 1408] (fun hv hag => (hp2).objs [0, 1408] ⟨((hag 0 (by simp)).trans rfl), ((hag 1408 (by simp)).trans rfl), trivial⟩ rfl (by decide) (by simp [go_sem, renOs]) (by simp) (by simp) (by simp [go_sem]) (by simp [go_sem]) (by simp [go_sem]) (by simp [go_sem])) rfl rfl (dstOk_of rfl) rfl rfl ?_); simp only [go_sem, ↓reduceIte, hget, htk, Nat.reduceSub, Nat.add_zero, dv_length, List.length_map]) | (refine AW.seq_k fun K hK => ?_) | (refine AW.block ?_) | (refine AW.skip ?_; simp only [Then, InBlock]) | (refine AW.cT ?_) | (refine hK _ ?_; clear hK K) | (with_reducible refine And.intro (?_ : regOk _ _ = true) ?_; kernel_rfl) | (with_reducible refine andI ?_))
    refine ⟨(i + 1, out ++ [(pa, pe, d)], b + 1), ⟨hi, ⟨by simp; omega, fun y hy => ?_⟩, by simp only; omega, by simp only; omega⟩, by simp only; omega, (Weak.aC hcx (by refine ⟨?_, ?_, ?_⟩ <;> simp [go_sem, gL, kL, renOf, V.obj, Nat.blt, Nat.ble, List.map_append, dv_push]))⟩
    rcases List.mem_append.1 hy with hy | hy
    · exact h3 y hy
    · obtain rfl := List.mem_singleton.1 hy
      exact ⟨List.mem_append_left _ hq.1, hq.2, by simp only; omega⟩
  · obtain rfl : i = ps.length := by omega
    have htk : List.take out.length (dv (out.map mkD)) = dv (out.map mkD) := List.take_of_length_le (by simp [dv])
    by_cases h0 : out = []
    · subst h0
      repeat' (first | ((first | refine AW.sreg rfl fun K hK => ?_ | refine AW.exit ?_); simp only [go_sem, ↓reduceIte]) | (refine AW.seq_k fun K hK => ?_) | (refine AW.skip ?_; simp only [Then, InBlock]) | (refine AW.cF ?_) | (refine hK _ ?_; clear hK K) | (clear hK K; refine hK _ ?_; clear hK K) | (refine stepB_split (fun h => ?_) (fun h => ?_) <;> (have hb0 := h) <;> (try simp only [Bool.not_eq_true', Bool.not_eq_false'] at hb0) <;> (try simp only [decide_eq_true_eq, decide_eq_false_iff_not, Bool.not_eq_true', Bool.not_eq_false', Bool.not_eq_eq_eq_not, Bool.not_true, Bool.not_false, beq_iff_eq, bne_iff_ne, beq_eq_false_iff_ne, ne_eq, Bool.and_eq_true, Bool.or_eq_true, Bool.or_eq_false_iff] at h) <;> simp only [go_sem, ↓reduceIte, hb0, h, decide_true, decide_false] <;> (try clear hb0)) | (exfalso; omega))
      exact AW.ret ⟨([], b), ⟨⟨by simp, by simp⟩, by simp only; omega, by simp only; omega⟩, Fin.one rfl (by simp [go_sem]) ⟨_, rfl, by simp [go_sem]⟩ rfl rfl rfl⟩
    have hpos : 0 < out.length := List.length_pos_iff.2 h0
    repeat' (first | (refine AW.sreg rfl fun K hK => ?_; simp only [go_sem, ↓reduceIte, htk, dv_length, List.length_map]) | (refine AW.seq_k fun K hK => ?_) | (refine AW.skip ?_; simp only [Then, InBlock]) | (refine AW.exit ?_; simp only [go_sem, ↓reduceIte]) | (refine AW.cT ?_) | (refine AW.cF ?_) | (refine AW.cond rfl (fun h => ?_) (fun h => ?_) <;> (try simp only [decide_eq_true_eq, decide_eq_false_iff_not, Bool.not_eq_true', Bool.not_eq_false', Bool.not_eq_eq_eq_not, Bool.not_true, Bool.not_false, beq_iff_eq, bne_iff_ne, beq_eq_false_iff_ne, ne_eq, Bool.and_eq_true, Bool.or_eq_true, Bool.or_eq_false_iff] at h)) | (refine hK _ ?_; clear hK K) | (clear hK K; refine hK _ ?_; clear hK K) | (refine stepB_split (fun h => ?_) (fun h => ?_) <;> (have hb0 := h) <;> (try simp only [Bool.not_eq_true', Bool.not_eq_false'] at hb0) <;> (try simp only [decide_eq_true_eq, decide_eq_false_iff_not, Bool.not_eq_true', Bool.not_eq_false', Bool.not_eq_eq_eq_not, Bool.not_true, Bool.not_false, beq_iff_eq, bne_iff_ne, beq_eq_false_iff_ne, ne_eq, Bool.and_eq_true, Bool.or_eq_true, Bool.or_eq_false_iff] at h) <;> simp only [go_sem, ↓reduceIte, hb0, h, decide_true, decide_false, htk, dv_length, List.length_map] <;> (try clear hb0)) | (refine run_callI _ _ _ ((flipI l hl2 b 20 (by omega) (by omega) (by omega) (by omega)).objs [0] ⟨rfl, trivial⟩ rfl (by decide) (by simp [go_sem, renOs]) (by simp [go_sem]) (by simp [go_sem]) (fun j hj => ⟨by simp, by simp, by simp [go_sem], by simp [go_sem]⟩)) rfl rfl (dstOk_of rfl) rfl rfl rfl ?_; rintro r hr; (try dsimp only at r); (try dsimp only at hr); simp only [go_sem, ↓reduceIte, htk, dv_length, List.length_map]) | (exfalso; omega))
    · have n1 := next_any l hl2 (b + 1) out.length (by omega) (by omega) (by omega) (by omega)
      have r1 := nextV_range l (b + 1) out.length (by omega)
      generalize nextV l (b + 1) out.length = jj at n1 r1
      obtain ⟨m, hm, hmm, -⟩ := get_some (l := out) (i := jj.toNat) (by omega)
      have n2 := next_any l hl2 (b + 1 + 1) 3 (by omega) (by omega) (by omega) (by omega)
      have r2 := nextV_range l (b + 1 + 1) 3 (by omega)
      generalize nextV l (b + 1 + 1) 3 = kk at n2 r2
      have hgm : (dv (out.map mkD))[0 + jj.toNat]? = some (.d (mkD m)) := by simp only [dv, Nat.zero_add, List.getElem?_map, hm, Option.map_some]
      have hgm2 : (dv (out.map mkD))[jj.toNat]? = some (.d (mkD m)) := by rw [← hgm, Nat.zero_add]
      obtain ⟨m0, hm0, hmm0, -⟩ := get_some (l := out) (i := 0) hpos
      have hg0 : (dv (out.map mkD))[0 + 0]? = some (.d (mkD m0)) := by simp only [dv, Nat.zero_add, List.getElem?_map, hm0, Option.map_some]
      obtain ⟨mp, mq, mc⟩ := m
      have hkk : kk = 0 ∨ kk = 1 ∨ kk = 2 := by omega
      rcases hkk with rfl | rfl | rfl
      · repeat' (first | ((first | refine AW.sreg rfl fun K hK => ?_ | refine AW.reg rfl ?_ | refine run_call _ _ _ ((n1).objA [0]) rfl rfl (dstOk_of rfl) rfl rfl rfl ?_ | refine run_call _ _ _ ((n2).objA [0]) rfl rfl (dstOk_of rfl) rfl rfl rfl ?_); simp only [go_sem, ↓reduceIte, htk, hgm, hgm2, dv_length, List.length_map, Nat.zero_add]) | (refine AW.block ?_) | (refine AW.cT ?_) | (refine hK _ ?_; clear hK K) | (refine run_callI _ _ _ ((odd10I l hl2 (b + 1 + 1 + 1) 0 10 (by omega) (by omega) (by omega) (by omega) (by omega)).objs [0] ⟨rfl, trivial⟩ rfl (by decide) (by simp [go_sem, renOs]) (by simp [go_sem]) (by simp [go_sem]) (fun j hj => ⟨by simp, by simp, by simp [go_sem], by simp [go_sem]⟩)) rfl rfl (dstOk_of rfl) rfl rfl rfl ?_; rintro o ho; (try dsimp only at o); (try dsimp only at ho); simp only [go_sem, ↓reduceIte, htk, hgm, hgm2, dv_length, List.length_map, Nat.zero_add]) | (with_reducible refine andI ?_))
        have hset : ∀ y : Mk, ((dv (out.map mkD)).set jj.toNat (.d (mkD y))) = dv ((out.set jj.toNat y).map mkD) := fun y => by rw [dv_set1, List.map_set]
        refine AW.ret ⟨(out.set jj.toNat (mp, mq, o.1), o.2), ⟨⟨fun y hy => ?_, by simp only [List.length_set]; omega⟩, by simp only; omega, by simp only; omega⟩, Fin.one rfl ((frz_slr rfl (show _ = some (O.vec 171 3 (dv ((out.set jj.toNat (mp, mq, o.1)).map mkD))) from by rw [← hset]; rfl) (by simp)).trans (by simp [go_sem])) ⟨_, rfl, by simp [go_sem]⟩ rfl rfl rfl⟩
        rcases List.mem_or_eq_of_mem_set hy with hy | rfl
        · exact h3 y hy
        · exact ⟨(h3 _ hmm).pa, (h3 _ hmm).pe, ho.1⟩
      · repeat' (first | ((first | refine AW.sreg rfl fun K hK => ?_ | refine AW.reg rfl ?_ | refine run_call _ _ _ ((n1).objA [0]) rfl rfl (dstOk_of rfl) rfl rfl rfl ?_ | refine run_call _ _ _ ((n2).objA [0]) rfl rfl (dstOk_of rfl) rfl rfl rfl ?_); simp only [go_sem, ↓reduceIte, htk, hgm, hgm2, dv_length, List.length_map, Nat.zero_add]) | (refine AW.block ?_) | (refine AW.cT ?_) | (refine AW.cF ?_) | (refine hK _ ?_; clear hK K) | (refine run_callI _ _ _ ((one10I l hl2 (b + 1 + 1 + 1) (by omega) (by omega) [[], [65], [112, 122]] (by simp) (by simp)).objs [0, _] ⟨rfl, rfl, trivial⟩ rfl (by decide) (by simp [go_sem, renOs]) (by simp [go_sem]) (by simp [go_sem]) (fun j hj => ⟨by simp, by simp, by simp [go_sem], by simp [go_sem]⟩)) rfl rfl (dstOk_of rfl) rfl rfl rfl ?_; rintro o ho; (try dsimp only at o); (try dsimp only at ho); simp only [go_sem, ↓reduceIte, htk, hgm, hgm2, dv_length, List.length_map, Nat.zero_add]) | (with_reducible refine andI ?_))
        have hset : ∀ y : Mk, ((dv (out.map mkD)).set jj.toNat (.d (mkD y))) = dv ((out.set jj.toNat y).map mkD) := fun y => by rw [dv_set1, List.map_set]
        refine AW.ret ⟨(out.set jj.toNat (o, mq, mc), b + 1 + 1 + 1 + 1), ⟨⟨fun y hy => ?_, by simp only [List.length_set]; omega⟩, by simp only; omega, by simp only; omega⟩, Fin.one rfl ((frz_slr rfl (show _ = some (O.vec 171 3 (dv ((out.set jj.toNat (o, mq, mc)).map mkD))) from by rw [← hset]; rfl) (by simp)).trans (by simp [go_sem])) ⟨_, rfl, by simp [go_sem]⟩ rfl rfl rfl⟩
        rcases List.mem_or_eq_of_mem_set hy with hy | rfl
        · exact h3 y hy
        · exact ⟨List.mem_append_right _ ho, (h3 _ hmm).pe, (h3 _ hmm).nu⟩
      · repeat' (first | ((first | refine AW.sreg rfl fun K hK => ?_ | refine AW.reg rfl ?_ | refine run_call _ _ _ ((n1).objA [0]) rfl rfl (dstOk_of rfl) rfl rfl rfl ?_ | refine run_call _ _ _ ((n2).objA [0]) rfl rfl (dstOk_of rfl) rfl rfl rfl ?_); simp only [go_sem, ↓reduceIte, htk, hgm, hg0, dv_length, List.length_map]) | (refine AW.block ?_) | (refine AW.cF ?_) | (refine hK _ ?_; clear hK K) | (with_reducible refine andI ?_))
        refine AW.ret ⟨(out ++ [m0], b + 1 + 1 + 1), ⟨⟨fun y hy => ?_, by simp only [List.length_append, List.length_cons, List.length_nil]; omega⟩, by simp only; omega, by simp only; omega⟩, Fin.one rfl ((frz_slr rfl (show _ = some (O.vec 171 3 (dv ((out ++ [m0]).map mkD))) from by simp [go_sem, dv]) (by simp)).trans (by simp [go_sem])) ⟨_, rfl, by simp [go_sem]⟩ rfl rfl rfl⟩
        rcases List.mem_append.1 hy with hy | hy
        · exact h3 y hy
        · obtain rfl := List.mem_singleton.1 hy
          exact h3 _ hmm0
    · exact AW.ret ⟨(out, b + 1), ⟨⟨h3, by simp only; omega⟩, by simp only; omega, by simp only; omega⟩, Fin.one rfl ((frz_slr rfl rfl (by simp)).trans (by simp [go_sem])) ⟨_, rfl, by simp [go_sem]⟩ rfl rfl rfl⟩
end Go.AX

namespace Go.AX
open Go Go.Proofs Go.RowKit
def mk1 : Option Mk → Str → Str → Int → Int
  | none, pa, pe, sc => if (keyB pa && keyB pe) = false then 5 else if (decide (sc < 0) || decide (10 < sc)) = true then 1 else 0
  | some y, pa, pe, sc => if (keyB pa && keyB pe) = false then 5 else if decide (0 ≤ cpP (y.1, y.2.1) (pa, pe)) = true then 7 else if (decide (sc < 0) || decide (10 < sc)) = true then 1 else 0
theorem mk1_none (pa pe : Str) (sc : Int) : mk1 none pa pe sc = if (keyB pa && keyB pe) = false then 5 else if (decide (sc < 0) || decide (10 < sc)) = true then 1 else 0 := rfl
theorem mk1_some (y : Mk) (pa pe : Str) (sc : Int) : mk1 (some y) pa pe sc = if (keyB pa && keyB pe) = false then 5 else if decide (0 ≤ cpP (y.1, y.2.1) (pa, pe)) = true then 7 else if (decide (sc < 0) || decide (10 < sc)) = true then 1 else 0 := rfl
def mkF (bs : List Mk) (m : Mk) : Int := mk1 bs.getLast? m.1 m.2.1 m.2.2
/-- What is wrong with marks. -/
def msF (ms : List Mk) : Int := goF mkF [] ms
theorem prev_of {α : Type} (E : α → D) (l : List α) (i : Nat) (hi : i < l.length) : (i = 0 ∧ True ∧ (l.take i).getLast? = none) ∨ ∃ q : α, 0 < i ∧ (l.map E)[((i : Int) - 1).toNat]? = some (E q) ∧ (l.take i).getLast? = some q := by
  rcases Nat.eq_zero_or_pos i with h | h
  · subst h
    exact .inl ⟨rfl, trivial, rfl⟩
  · obtain ⟨q, hq, -, -⟩ := get_some (l := l) (i := i - 1) (by omega)
    refine .inr ⟨q, h, ?_, ?_⟩
    · rw [show ((i : Int) - 1).toNat = i - 1 by omega, List.getElem?_map, hq]
      rfl
    · rw [List.getLast?_eq_getElem?, List.length_take, Nat.min_eq_left (by omega), List.getElem?_take_of_lt (by omega), hq]
theorem checkMarks_any (l : List Mk) (hl : l.length ≤ 100) (hp : ∀ p ∈ l, p.1.length ≤ 1000 ∧ p.2.1.length ≤ 1000) : Does Tryz.prog 35 [.d (.sl (l.map mkD))] [] (I (msF l)) [] := by
  refine Does.of_AW (n := 48) Tryz.func35 rfl rfl rfl fun cx hcx => ?_
  unfold msF
  generalize hT : goF mkF [] l = T
  repeat' (first | (refine AW.sreg rfl fun K hK => ?_; simp only [go_sem, ↓reduceIte, List.length_map]) | (refine AW.seq_k fun K hK => ?_) | (refine AW.block ?_) | (refine AW.skip ?_; simp only [Then, InBlock]) | (refine AW.cF ?_) | (refine hK _ ?_; clear hK K))
  refine AW.loopF (ι := Nat) [0, 8, 9] (fun p => [(10, I p)]) (fun p => []) 20 (fun p => p ≤ l.length ∧ goF mkF (l.take p) (l.drop p) = T) (fun p => l.length - p) 0 ⟨by simp, hT⟩ (Weak.aC hcx (by refine ⟨?_, ?_, ?_⟩ <;> simp [go_sem, gL, kL, renOf, V.obj, Nat.blt, Nat.ble, List.map_append, dv_push])) ?_; simp only [St.at_nil, St.at_cons, lk, Nat.reduceEqDiff, ↓reduceIte, Option.getD_some, Option.getD_none, List.cons_append, List.nil_append, List.append_nil]
  rintro i ⟨g1, g2⟩
  by_cases hi : i < l.length
  · obtain ⟨x, hx, hxm, -⟩ := get_some hi
    have hget : (l.map mkD)[i]? = some (mkD x) := by simp only [List.getElem?_map, hx, Option.map_some]
    rw [goF_step _ hx] at g2
    obtain ⟨h1, h2⟩ := hp x hxm
    have hprev := prev_of mkD l i hi
    clear hxm
    obtain ⟨pa, pe, sc⟩ := x
    have hF : mkF (l.take i) (pa, pe, sc) = mk1 (l.take i).getLast? pa pe sc := rfl
    dsimp only at h1 h2
    have k1 := isKey_any pa (by omega)
    have k2 := isKey_any pe (by omega)
    have ho := outside_any sc 0 10
    generalize mkF (l.take i) (pa, pe, sc) = F at *
    rcases hprev with ⟨h0, -, hla⟩ | ⟨q, h0, hgq, hla⟩
    · rw [hla, mk1_none] at hF
      generalize keyB pa = b1 at *
      generalize keyB pe = b2 at *
      generalize (decide (sc < 0) || decide (10 < sc)) = b3 at *
      cases b1 with
      | false =>
        obtain rfl : F = 5 := by simpa using hF
        rw [if_pos (by decide)] at g2
        subst g2
        repeat' (first | ((first | refine AW.sreg rfl fun K hK => ?_ | refine run_call _ _ _ ((k1).pure rfl rfl _ _) rfl rfl (dstOk_of rfl) rfl rfl rfl ?_); simp only [go_sem, ↓reduceIte, List.length_map, hget]) | (refine AW.seq_k fun K hK => ?_) | (refine AW.block ?_) | (refine AW.skip ?_; simp only [Then, InBlock]) | (refine AW.cT ?_) | (refine hK _ ?_; clear hK K) | (with_reducible refine andI ?_) | (refine AW.ret (Fin.data rfl (by first | (simp only [go_sem]; done) | (simp [go_sem, *]; done) | (simp [go_sem]; omega) | rfl) rfl)))
      | true =>
      cases b2 with
      | false =>
        obtain rfl : F = 5 := by simpa using hF
        rw [if_pos (by decide)] at g2
        subst g2
        repeat' (first | ((first | refine AW.sreg rfl fun K hK => ?_ | refine run_call _ _ _ ((k1).pure rfl rfl _ _) rfl rfl (dstOk_of rfl) rfl rfl rfl ?_ | refine run_call _ _ _ ((k2).pure rfl rfl _ _) rfl rfl (dstOk_of rfl) rfl rfl rfl ?_); simp only [go_sem, ↓reduceIte, List.length_map, hget]) | (refine AW.seq_k fun K hK => ?_) | (refine AW.block ?_) | (refine AW.skip ?_; simp only [Then, InBlock]) | (refine AW.cT ?_) | (refine hK _ ?_; clear hK K) | (with_reducible refine andI ?_) | (refine AW.ret (Fin.data rfl (by first | (simp only [go_sem]; done) | (simp [go_sem, *]; done) | (simp [go_sem]; omega) | rfl) rfl)))
      | true =>
      rw [if_neg (by decide)] at hF
      cases b3 with
      | true =>
        obtain rfl : F = 1 := by simpa using hF
        rw [if_pos (by decide)] at g2
        subst g2
        repeat' (first | ((first | refine AW.sreg rfl fun K hK => ?_ | refine AW.sregD hmix rfl fun K hK => ?_ | refine run_call _ _ _ ((k1).pure rfl rfl _ _) rfl rfl (dstOk_of rfl) rfl rfl rfl ?_ | refine run_call _ _ _ ((k2).pure rfl rfl _ _) rfl rfl (dstOk_of rfl) rfl rfl rfl ?_ | refine run_call _ _ _ ((ho).pure rfl rfl _ _) rfl rfl (dstOk_of rfl) rfl rfl rfl ?_); simp only [go_sem, ↓reduceIte, List.length_map, hget]) | (refine AW.seq_k fun K hK => ?_) | (refine AW.block ?_) | (refine AW.skip ?_; simp only [Then, InBlock]) | (refine AW.cT ?_) | (refine AW.cF ?_) | (refine hK _ ?_; clear hK K) | (refine stepBT_split (fun h => ?_) (fun h => ?_) <;> (have hb0 := h) <;> (try simp only [Bool.not_eq_true', Bool.not_eq_false'] at hb0) <;> (try simp only [decide_eq_true_eq, decide_eq_false_iff_not, Bool.not_eq_true', Bool.not_eq_false', Bool.not_eq_eq_eq_not, Bool.not_true, Bool.not_false, beq_iff_eq, bne_iff_ne, beq_eq_false_iff_ne, ne_eq, Bool.and_eq_true, Bool.or_eq_true, Bool.or_eq_false_iff] at h) <;> simp only [go_sem, ↓reduceIte, hb0, h, decide_true, decide_false, List.length_map, hget] <;> (try clear hb0)) | (with_reducible refine And.intro (?_ : regOk _ _ = true) ?_; kernel_rfl) | (with_reducible refine andI ?_) | (refine AW.ret (Fin.data rfl (by first | (simp only [go_sem]; done) | (simp [go_sem, *]; done) | (simp [go_sem]; omega) | rfl) rfl)) | (exfalso; omega))
      | false =>
        obtain rfl : F = 0 := by simpa using hF
        rw [if_neg (by decide)] at g2
        repeat' (first | ((first | refine AW.sreg rfl fun K hK => ?_ | refine AW.sregD hmix rfl fun K hK => ?_ | refine AW.reg rfl ?_ | refine run_call _ _ _ ((k1).pure rfl rfl _ _) rfl rfl (dstOk_of rfl) rfl rfl rfl ?_ | refine run_call _ _ _ ((k2).pure rfl rfl _ _) rfl rfl (dstOk_of rfl) rfl rfl rfl ?_ | refine run_call _ _ _ ((ho).pure rfl rfl _ _) rfl rfl (dstOk_of rfl) rfl rfl rfl ?_); simp only [go_sem, ↓reduceIte, List.length_map, hget]) | (refine AW.seq_k fun K hK => ?_) | (refine AW.block ?_) | (refine AW.skip ?_; simp only [Then, InBlock]) | (refine AW.cT ?_) | (refine AW.cF ?_) | (refine hK _ ?_; clear hK K) | (refine stepBT_split (fun h => ?_) (fun h => ?_) <;> (have hb0 := h) <;> (try simp only [Bool.not_eq_true', Bool.not_eq_false'] at hb0) <;> (try simp only [decide_eq_true_eq, decide_eq_false_iff_not, Bool.not_eq_true', Bool.not_eq_false', Bool.not_eq_eq_eq_not, Bool.not_true, Bool.not_false, beq_iff_eq, bne_iff_ne, beq_eq_false_iff_ne, ne_eq, Bool.and_eq_true, Bool.or_eq_true, Bool.or_eq_false_iff] at h) <;> simp only [go_sem, ↓reduceIte, hb0, h, decide_true, decide_false, List.length_map, hget] <;> (try clear hb0)) | (with_reducible refine And.intro (?_ : regOk _ _ = true) ?_; kernel_rfl) | (with_reducible refine andI ?_) | (exfalso; omega))
        exact ⟨i + 1, ⟨hi, g2⟩, by omega, (Weak.aC hcx (by refine ⟨?_, ?_, ?_⟩ <;> simp [go_sem, gL, kL, renOf, V.obj, Nat.blt, Nat.ble, List.map_append, dv_push]))⟩
    · rw [hla, mk1_some] at hF
      have hc := comparePairs_any (q.1, q.2.1) (pa, pe)
      generalize cpP (q.1, q.2.1) (pa, pe) = cc at *
      generalize keyB pa = b1 at *
      generalize keyB pe = b2 at *
      generalize (decide (sc < 0) || decide (10 < sc)) = b3 at *
      cases b1 with
      | false =>
        obtain rfl : F = 5 := by simpa using hF
        rw [if_pos (by decide)] at g2
        subst g2
        repeat' (first | ((first | refine AW.sreg rfl fun K hK => ?_ | refine run_call _ _ _ ((k1).pure rfl rfl _ _) rfl rfl (dstOk_of rfl) rfl rfl rfl ?_); simp only [go_sem, ↓reduceIte, List.length_map, hget]) | (refine AW.seq_k fun K hK => ?_) | (refine AW.block ?_) | (refine AW.skip ?_; simp only [Then, InBlock]) | (refine AW.cT ?_) | (refine hK _ ?_; clear hK K) | (with_reducible refine andI ?_) | (refine AW.ret (Fin.data rfl (by first | (simp only [go_sem]; done) | (simp [go_sem, *]; done) | (simp [go_sem]; omega) | rfl) rfl)))
      | true =>
      cases b2 with
      | false =>
        obtain rfl : F = 5 := by simpa using hF
        rw [if_pos (by decide)] at g2
        subst g2
        repeat' (first | ((first | refine AW.sreg rfl fun K hK => ?_ | refine run_call _ _ _ ((k1).pure rfl rfl _ _) rfl rfl (dstOk_of rfl) rfl rfl rfl ?_ | refine run_call _ _ _ ((k2).pure rfl rfl _ _) rfl rfl (dstOk_of rfl) rfl rfl rfl ?_); simp only [go_sem, ↓reduceIte, List.length_map, hget]) | (refine AW.seq_k fun K hK => ?_) | (refine AW.block ?_) | (refine AW.skip ?_; simp only [Then, InBlock]) | (refine AW.cT ?_) | (refine hK _ ?_; clear hK K) | (with_reducible refine andI ?_) | (refine AW.ret (Fin.data rfl (by first | (simp only [go_sem]; done) | (simp [go_sem, *]; done) | (simp [go_sem]; omega) | rfl) rfl)))
      | true =>
      rw [if_neg (by decide)] at hF
      by_cases hcc : 0 ≤ cc
      · obtain rfl : F = 7 := by simpa [hcc] using hF
        rw [if_pos (by decide)] at g2
        subst g2
        repeat' (first | ((first | refine AW.sreg rfl fun K hK => ?_ | refine AW.sregD hmix rfl fun K hK => ?_ | refine run_call _ _ _ ((k1).pure rfl rfl _ _) rfl rfl (dstOk_of rfl) rfl rfl rfl ?_ | refine run_call _ _ _ ((k2).pure rfl rfl _ _) rfl rfl (dstOk_of rfl) rfl rfl rfl ?_ | refine runT_call _ _ [] (fun hv _ => (hc).pure rfl rfl hv _) rfl rfl (dstOk_of rfl) rfl rfl ?_); simp only [go_sem, ↓reduceIte, List.length_map, hget, hgq, hcc]) | (refine AW.seq_k fun K hK => ?_) | (refine AW.block ?_) | (refine AW.skip ?_; simp only [Then, InBlock]) | (refine AW.cT ?_) | (refine AW.cF ?_) | (refine hK _ ?_; clear hK K) | (refine stepBT_split (fun h => ?_) (fun h => ?_) <;> (have hb0 := h) <;> (try simp only [Bool.not_eq_true', Bool.not_eq_false'] at hb0) <;> (try simp only [decide_eq_true_eq, decide_eq_false_iff_not, Bool.not_eq_true', Bool.not_eq_false', Bool.not_eq_eq_eq_not, Bool.not_true, Bool.not_false, beq_iff_eq, bne_iff_ne, beq_eq_false_iff_ne, ne_eq, Bool.and_eq_true, Bool.or_eq_true, Bool.or_eq_false_iff] at h) <;> simp only [go_sem, ↓reduceIte, hb0, h, decide_true, decide_false, List.length_map, hget, hgq, hcc] <;> (try clear hb0)) | (with_reducible refine And.intro (?_ : regOk _ _ = true) ?_; kernel_rfl) | (with_reducible refine andI ?_) | (refine AW.ret (Fin.data rfl (by first | (simp only [go_sem]; done) | (simp [go_sem, *]; done) | (simp [go_sem]; omega) | rfl) rfl)))
      · rw [if_neg (by simp [hcc])] at hF
        cases b3 with
        | true =>
          obtain rfl : F = 1 := by simpa using hF
          rw [if_pos (by decide)] at g2
          subst g2
          repeat' (first | ((first | refine AW.sreg rfl fun K hK => ?_ | refine AW.sregD hmix rfl fun K hK => ?_ | refine run_call _ _ _ ((k1).pure rfl rfl _ _) rfl rfl (dstOk_of rfl) rfl rfl rfl ?_ | refine run_call _ _ _ ((k2).pure rfl rfl _ _) rfl rfl (dstOk_of rfl) rfl rfl rfl ?_ | refine runT_call _ _ [] (fun hv _ => (hc).pure rfl rfl hv _) rfl rfl (dstOk_of rfl) rfl rfl ?_ | refine run_call _ _ _ ((ho).pure rfl rfl _ _) rfl rfl (dstOk_of rfl) rfl rfl rfl ?_); simp only [go_sem, ↓reduceIte, List.length_map, hget, hgq, hcc]) | (refine AW.seq_k fun K hK => ?_) | (refine AW.block ?_) | (refine AW.skip ?_; simp only [Then, InBlock]) | (refine AW.cT ?_) | (refine AW.cF ?_) | (refine hK _ ?_; clear hK K) | (refine stepBT_split (fun h => ?_) (fun h => ?_) <;> (have hb0 := h) <;> (try simp only [Bool.not_eq_true', Bool.not_eq_false'] at hb0) <;> (try simp only [decide_eq_true_eq, decide_eq_false_iff_not, Bool.not_eq_true', Bool.not_eq_false', Bool.not_eq_eq_eq_not, Bool.not_true, Bool.not_false, beq_iff_eq, bne_iff_ne, beq_eq_false_iff_ne, ne_eq, Bool.and_eq_true, Bool.or_eq_true, Bool.or_eq_false_iff] at h) <;> simp only [go_sem, ↓reduceIte, hb0, h, decide_true, decide_false, List.length_map, hget, hgq, hcc] <;> (try clear hb0)) | (with_reducible refine And.intro (?_ : regOk _ _ = true) ?_; kernel_rfl) | (with_reducible refine andI ?_) | (refine AW.ret (Fin.data rfl (by first | (simp only [go_sem]; done) | (simp [go_sem, *]; done) | (simp [go_sem]; omega) | rfl) rfl)))
        | false =>
          obtain rfl : F = 0 := by simpa using hF
          rw [if_neg (by decide)] at g2
          repeat' (first | ((first | refine AW.sreg rfl fun K hK => ?_ | refine AW.sregD hmix rfl fun K hK => ?_ | refine AW.reg rfl ?_ | refine run_call _ _ _ ((k1).pure rfl rfl _ _) rfl rfl (dstOk_of rfl) rfl rfl rfl ?_ | refine run_call _ _ _ ((k2).pure rfl rfl _ _) rfl rfl (dstOk_of rfl) rfl rfl rfl ?_ | refine runT_call _ _ [] (fun hv _ => (hc).pure rfl rfl hv _) rfl rfl (dstOk_of rfl) rfl rfl ?_ | refine run_call _ _ _ ((ho).pure rfl rfl _ _) rfl rfl (dstOk_of rfl) rfl rfl rfl ?_); simp only [go_sem, ↓reduceIte, List.length_map, hget, hgq, hcc]) | (refine AW.seq_k fun K hK => ?_) | (refine AW.block ?_) | (refine AW.skip ?_; simp only [Then, InBlock]) | (refine AW.cT ?_) | (refine AW.cF ?_) | (refine hK _ ?_; clear hK K) | (refine stepBT_split (fun h => ?_) (fun h => ?_) <;> (have hb0 := h) <;> (try simp only [Bool.not_eq_true', Bool.not_eq_false'] at hb0) <;> (try simp only [decide_eq_true_eq, decide_eq_false_iff_not, Bool.not_eq_true', Bool.not_eq_false', Bool.not_eq_eq_eq_not, Bool.not_true, Bool.not_false, beq_iff_eq, bne_iff_ne, beq_eq_false_iff_ne, ne_eq, Bool.and_eq_true, Bool.or_eq_true, Bool.or_eq_false_iff] at h) <;> simp only [go_sem, ↓reduceIte, hb0, h, decide_true, decide_false, List.length_map, hget, hgq, hcc] <;> (try clear hb0)) | (with_reducible refine And.intro (?_ : regOk _ _ = true) ?_; kernel_rfl) | (with_reducible refine andI ?_) | (exfalso; omega))
          exact ⟨i + 1, ⟨hi, g2⟩, by omega, (Weak.aC hcx (by refine ⟨?_, ?_, ?_⟩ <;> simp [go_sem, gL, kL, renOf, V.obj, Nat.blt, Nat.ble, List.map_append, dv_push]))⟩
  · obtain rfl : i = l.length := by omega
    rw [List.drop_length, goF] at g2
    subst g2
    repeat' (first | (refine AW.sreg rfl fun K hK => ?_; simp only [go_sem, ↓reduceIte, List.length_map]) | (refine AW.seq_k fun K hK => ?_) | (refine AW.exit ?_; simp only [go_sem, ↓reduceIte]) | (refine AW.cF ?_) | (refine hK _ ?_; clear hK K) | (clear hK K; refine hK _ ?_; clear hK K) | (refine AW.ret (Fin.data rfl (by first | (simp only [go_sem]; done) | (simp [go_sem, *]; done) | (simp [go_sem]; omega) | rfl) rfl)))
/-- Marks that are right. -/
structure MsOk (ms : List Mk) : Prop where
  key : ∀ m ∈ ms, keyB m.1 = true
  num : ∀ m ∈ ms, 0 ≤ m.2.2 ∧ m.2.2 ≤ 10
theorem mk1_zero {o : Option Mk} {pa pe : Str} {sc : Int} (h : mk1 o pa pe sc = 0) : keyB pa = true ∧ 0 ≤ sc ∧ sc ≤ 10 := by
  cases o with
  | none =>
    rw [mk1_none] at h
    by_cases h1 : (keyB pa && keyB pe) = false
    · rw [if_pos h1] at h; cases h
    rw [if_neg h1] at h
    by_cases h2 : (decide (sc < 0) || decide (10 < sc)) = true
    · rw [if_pos h2] at h; cases h
    simp at h1 h2
    exact ⟨h1.1, by omega, by omega⟩
  | some y =>
    rw [mk1_some] at h
    by_cases h1 : (keyB pa && keyB pe) = false
    · rw [if_pos h1] at h; cases h
    rw [if_neg h1] at h
    by_cases h3 : decide (0 ≤ cpP (y.1, y.2.1) (pa, pe)) = true
    · rw [if_pos h3] at h; cases h
    rw [if_neg h3] at h
    by_cases h2 : (decide (sc < 0) || decide (10 < sc)) = true
    · rw [if_pos h2] at h; cases h
    simp at h1 h2
    exact ⟨h1.1, by omega, by omega⟩
theorem msF_ok {ms : List Mk} (h : msF ms = 0) : MsOk ms := by
  have h1 : ∀ m ∈ ms, keyB m.1 = true ∧ 0 ≤ m.2.2 ∧ m.2.2 ≤ 10 := by
    intro m hm
    obtain ⟨i, hi⟩ := List.mem_iff_getElem?.1 hm
    exact mk1_zero (goF_zero mkF ms [] h i m hi)
  exact ⟨fun m hm => (h1 m hm).1, fun m hm => (h1 m hm).2⟩
end Go.AX

namespace Go.AX
open Go
/-- A decision: paper, yes, rank. -/
abbrev De := Str × Bool × Int
/-- The scores of a paper. -/
def scs (ms : List Mk) (k : Str) : List Int := (ms.filter fun m => decide (m.1 = k)).map (·.2.2)
/-- What is known of decisions. -/
structure DcR (ps : List Pa) (ms : List Mk) (fl : Int) (mo : Str → Int) (d : List De) : Prop where
  ids : d.map (·.1) = ps.map (·.1)
  yes : ∀ (i : Nat) (x : De) (p : Pa), d[i]? = some x → ps[i]? = some p → x.2.1 = true → x.2.2 ≤ mo p.2.1 ∧ scs ms x.1 ≠ [] ∧ fl * (scs ms x.1).length ≤ 10 * (scs ms x.1).sum
  no : ∀ (i : Nat) (x : De) (p : Pa), d[i]? = some x → ps[i]? = some p → x.2.2 ≤ mo p.2.1 → scs ms x.1 ≠ [] → fl * (scs ms x.1).length ≤ 10 * (scs ms x.1).sum → x.2.1 = true
  pos : ∀ x ∈ d, 1 ≤ x.2.2
  inj : ∀ (i k : Nat) (x y : De) (p q : Pa), d[i]? = some x → d[k]? = some y → ps[i]? = some p → ps[k]? = some q → p.2.1 = q.2.1 → x.2.2 = y.2.2 → i = k
theorem floor_up {sx nx sy ny fl : Int} (h0 : 0 < nx) (hy : 0 < ny) (h1 : sx * ny ≤ sy * nx) (h2 : fl * nx ≤ 10 * sx) : fl * ny ≤ 10 * sy := by
  have e1 : fl * nx * ny ≤ 10 * sx * ny := Int.mul_le_mul_of_nonneg_right h2 (by omega)
  have e2 : 10 * (sx * ny) ≤ 10 * (sy * nx) := Int.mul_le_mul_of_nonneg_left h1 (by omega)
  have e3 : nx * (fl * ny) ≤ nx * (10 * sy) := by
    rw [show nx * (fl * ny) = fl * nx * ny by rw [Int.mul_comm fl nx, Int.mul_assoc], show nx * (10 * sy) = 10 * (sy * nx) by rw [Int.mul_left_comm, Int.mul_comm nx sy]]
    rw [Int.mul_assoc 10 sx ny] at e1
    omega
  exact Int.le_of_mul_le_mul_left e3 h0
/-- The mean in lowest terms. -/
def mnF (ns : List Int) : Int × Int := (ns.sum / (Int.gcd ns.sum ns.length : Int), (ns.length : Int) / (Int.gcd ns.sum ns.length : Int))
theorem mn_cross {xs ys : List Int} (hx : xs ≠ []) (hy : ys ≠ []) (h : (mnF xs).1 * (mnF ys).2 ≤ (mnF ys).1 * (mnF xs).2) : xs.sum * ys.length ≤ ys.sum * xs.length := by
  have hxl : 0 < xs.length := List.length_pos_iff.2 hx
  have hyl : 0 < ys.length := List.length_pos_iff.2 hy
  unfold mnF at h
  dsimp only at h
  have g1 : 0 < (Int.gcd xs.sum xs.length : Int) := by
    have : 0 < Int.gcd xs.sum xs.length := Int.gcd_pos_of_ne_zero_right _ (by omega)
    omega
  have g2 : 0 < (Int.gcd ys.sum ys.length : Int) := by
    have : 0 < Int.gcd ys.sum ys.length := Int.gcd_pos_of_ne_zero_right _ (by omega)
    omega
  have a1 : (Int.gcd xs.sum xs.length : Int) * (xs.sum / (Int.gcd xs.sum xs.length : Int)) = xs.sum := Int.mul_ediv_cancel' (Int.gcd_dvd_left ..)
  have a2 : (Int.gcd xs.sum xs.length : Int) * ((xs.length : Int) / (Int.gcd xs.sum xs.length : Int)) = xs.length := Int.mul_ediv_cancel' (Int.gcd_dvd_right ..)
  have b1 : (Int.gcd ys.sum ys.length : Int) * (ys.sum / (Int.gcd ys.sum ys.length : Int)) = ys.sum := Int.mul_ediv_cancel' (Int.gcd_dvd_left ..)
  have b2 : (Int.gcd ys.sum ys.length : Int) * ((ys.length : Int) / (Int.gcd ys.sum ys.length : Int)) = ys.length := Int.mul_ediv_cancel' (Int.gcd_dvd_right ..)
  generalize (Int.gcd xs.sum xs.length : Int) = g at *
  generalize (Int.gcd ys.sum ys.length : Int) = k at *
  rw [← a1, ← a2, ← b1, ← b2]
  generalize xs.sum / g = a at *
  generalize (xs.length : Int) / g = b at *
  generalize ys.sum / k = c at *
  generalize (ys.length : Int) / k = d at *
  have : (g * k) * (a * d) ≤ (g * k) * (c * b) := Int.mul_le_mul_of_nonneg_left h (Int.le_of_lt (Int.mul_pos g1 g2))
  rw [show g * a * (k * d) = (g * k) * (a * d) by simp only [Int.mul_assoc, Int.mul_left_comm], show k * c * (g * b) = (g * k) * (c * b) by simp only [Int.mul_assoc, Int.mul_left_comm, Int.mul_comm]]
  exact this
/-- How many of a track are taken among the first ones. -/
def cntT (ps : List Pa) (d : List De) (t : Str) (i : Nat) : Nat := ((List.range i).filter fun j => ((d[j]?).map (·.2.1) == some true) && ((ps[j]?).map (·.2.1) == some t)).length
theorem nodup_le : ∀ (l : List Nat) (n : Nat), l.Nodup → (∀ x ∈ l, x < n) → l.length ≤ n
  | l, 0, _, h => by
    cases l with
    | nil => simp
    | cons x r => exact absurd (h x (by simp)) (by omega)
  | l, n + 1, hn, h => by
    by_cases hm : n ∈ l
    · have h1 := nodup_le (l.erase n) n (hn.erase n) (fun x hx => by
        have h2 := h x (List.mem_of_mem_erase hx)
        have h3 : x ≠ n := fun e => by subst e; exact (List.Nodup.not_mem_erase hn) hx
        omega)
      rw [List.length_erase_of_mem hm] at h1
      omega
    · have h1 := nodup_le l n hn (fun x hx => by
        have h2 := h x hx
        have h3 : x ≠ n := fun e => hm (e ▸ hx)
        omega)
      omega
theorem DcR.cnt {ps : List Pa} {ms : List Mk} {fl : Int} {mo : Str → Int} {d : List De} (h : DcR ps ms fl mo d) (t : Str) (h0 : 0 ≤ mo t) (i : Nat) : (cntT ps d t i : Int) ≤ mo t := by
  have hl : d.length = ps.length := by simpa using congrArg List.length h.ids
  have hk : cntT ps d t i ≤ (mo t).toNat := by
    unfold cntT
    rw [← List.length_map (f := fun j => (((d[j]?).map (·.2.2)).getD 1 - 1).toNat)]
    refine nodup_le _ _ ?_ ?_
    · refine List.Pairwise.map _ (R := fun a b => a ≠ b ∧ (((d[a]?).map (·.2.1) == some true) && ((ps[a]?).map (·.2.1) == some t)) = true ∧ (((d[b]?).map (·.2.1) == some true) && ((ps[b]?).map (·.2.1) == some t)) = true) ?_ ?_
      · rintro a b ⟨hne, ha, hb⟩ e
        simp only [Bool.and_eq_true, beq_iff_eq, Option.map_eq_some_iff] at ha hb
        obtain ⟨⟨x, hx, -⟩, ⟨p, hp, hpt⟩⟩ := ha
        obtain ⟨⟨y, hy, -⟩, ⟨q, hq, hqt⟩⟩ := hb
        rw [hx, hy] at e
        simp only [Option.map_some, Option.getD_some] at e
        have p1 := h.pos x (List.mem_of_getElem? hx)
        have p2 := h.pos y (List.mem_of_getElem? hy)
        exact hne (h.inj a b x y p q hx hy hp hq (hpt.trans hqt.symm) (by omega))
      · have hnd : ((List.range i).filter fun j => ((d[j]?).map (·.2.1) == some true) && ((ps[j]?).map (·.2.1) == some t)).Nodup := List.Nodup.sublist List.filter_sublist List.nodup_range
        rw [List.pairwise_iff_forall_sublist] at *
        intro a b hab
        have hmem := hab.subset
        have ha : a ∈ (List.range i).filter fun j => ((d[j]?).map (·.2.1) == some true) && ((ps[j]?).map (·.2.1) == some t) := hmem (by simp)
        have hb : b ∈ (List.range i).filter fun j => ((d[j]?).map (·.2.1) == some true) && ((ps[j]?).map (·.2.1) == some t) := hmem (by simp)
        refine ⟨?_, (List.mem_filter.1 ha).2, (List.mem_filter.1 hb).2⟩
        rw [List.Nodup, List.pairwise_iff_forall_sublist] at hnd
        exact hnd hab
    · intro n hn
      obtain ⟨j, hj, rfl⟩ := List.mem_map.1 hn
      have hj := (List.mem_filter.1 hj).2
      simp only [Bool.and_eq_true, beq_iff_eq, Option.map_eq_some_iff] at hj
      obtain ⟨⟨x, hx, hxy⟩, ⟨p, hp, hpt⟩⟩ := hj
      rw [hx]
      simp only [Option.map_some, Option.getD_some]
      have p1 := h.pos x (List.mem_of_getElem? hx)
      have p2 := (h.yes j x p hx hp hxy).1
      rw [hpt] at p2
      omega
  omega
theorem DcR.fine {ps : List Pa} {ms : List Mk} {fl : Int} {mo : Str → Int} {d : List De} (h : DcR ps ms fl mo d) {i k : Nat} {x y : De} {p q : Pa} (hx : d[i]? = some x) (hp : ps[i]? = some p) (hy : d[k]? = some y) (hq : ps[k]? = some q)
    (hyes : x.2.1 = true) (ht : q.2.1 = p.2.1) (hr : y.2.2 < x.2.2) (hs : scs ms y.1 ≠ []) (hm : (mnF (scs ms x.1)).1 * (mnF (scs ms y.1)).2 ≤ (mnF (scs ms y.1)).1 * (mnF (scs ms x.1)).2) : y.2.1 = true := by
  obtain ⟨h1, h2, h3⟩ := h.yes i x p hx hp hyes
  refine h.no k y q hy hq (by rw [ht]; omega) hs ?_
  have hxl : 0 < (scs ms x.1).length := List.length_pos_iff.2 h2
  have hyl : 0 < (scs ms y.1).length := List.length_pos_iff.2 hs
  exact floor_up (by omega) (by omega) (mn_cross h2 hs hm) h3
end Go.AX

namespace Go.AX
open Go Go.Proofs Go.RowKit
abbrev Sg := Str × List Int
def sgR : RowS Sg := ⟨fun g => g.2.map (D.int .i64), 3, 1, fun _ v => v⟩
theorem sgR_ok : sgR.Ok where
  frz := fun hv g v h => by
    rcases h with rfl | ⟨i, a, n, rfl⟩ <;> simp [sgR, frz]
  ren := fun f g v => rfl
  bel := fun n g v => rfl
abbrev kyS (gs : List Sg) : List D := gs.map fun g => D.str g.1
theorem kyS_in {gs : List Sg} {j : Nat} {g : Sg} (hn : (gs.map (·.1)).Nodup) (h : gs[j]? = some g) : fndK (.str g.1) (kyS gs) = some (some j) := by
  have e : kyS gs = (gs.map (·.1)).map D.str := by simp [kyS]
  rw [e, fnd_st, fidx_in (j := j) hn (by rw [List.getElem?_map, h]; rfl)]
theorem kyS_out {gs : List Sg} {k : Str} (h : k ∉ gs.map (·.1)) : fndK (.str k) (kyS gs) = some none := by
  have e : kyS gs = (gs.map (·.1)).map D.str := by simp [kyS]
  rw [e, fnd_st, fidx_out h]
abbrev gsF (ms : List Mk) : List Sg := grpF (fun m : Mk => m.1) (fun m : Mk => m.2.2) ms
/-- What the scores are: of each paper, in some order. -/
structure GsOk (ms : List Mk) (gs : List Sg) : Prop where
  nd : (gs.map (·.1)).Nodup
  row : ∀ g ∈ gs, g.2.Perm (scs ms g.1)
  pos : ∀ g ∈ gs, g.2 ≠ []
  mem : ∀ k, k ∈ gs.map (·.1) ↔ ∃ m ∈ ms, m.1 = k
  len : gs.length ≤ ms.length
theorem gsF_ok (ms : List Mk) : GsOk ms (gsF ms) where
  nd := grpF_nd _ _ ms
  row g hg := by rw [grpF_at _ _ hg]; exact .refl _
  pos := grpF_pos _ _ ms
  mem := grpF_mem _ _ ms
  len := grpF_len _ _ ms
theorem rowsV_same {B : Nat} {gs : List Sg} {j : Nat} {g : Sg} (h : gs[j]? = some g) (hp : g.2 ≠ []) {zs : List Int} (hl : zs.length = g.2.length) : rowsV sgR B (gs.set j (g.1, zs)) = rowsV sgR B gs := by
  apply List.ext_getElem?
  intro i
  rw [rowsV_get, rowsV_get, List.getElem?_set]
  split
  · rename_i e
    subst e
    have hz : zs ≠ [] := by
      intro e
      subst e
      exact hp (List.eq_nil_of_length_eq_zero hl.symm)
    rw [if_pos (get_lt h), h]
    simp only [Option.map_some]
    rw [rref_pos (by simpa [sgR] using hz), rref_pos (by simpa [sgR] using hp)]
    simp [sgR, hl]
  · rfl
theorem kyS_same {gs : List Sg} {j : Nat} {g : Sg} (h : gs[j]? = some g) (zs : List Int) : kyS (gs.set j (g.1, zs)) = kyS gs := by
  unfold kyS
  rw [List.map_set]
  exact set_same (by rw [List.getElem?_map, h]; rfl)
theorem GsOk.sort {ms : List Mk} {gs : List Sg} (h : GsOk ms gs) {j : Nat} {g : Sg} (hj : gs[j]? = some g) {zs : List Int} (hz : zs.Perm g.2) : GsOk ms (gs.set j (g.1, zs)) := by
  have hk : (gs.set j (g.1, zs)).map (·.1) = gs.map (·.1) := by
    rw [List.map_set]
    exact set_same (by rw [List.getElem?_map, hj]; rfl)
  have hgm := List.mem_of_getElem? hj
  refine ⟨by rw [hk]; exact h.nd, fun y hy => ?_, fun y hy => ?_, fun k => by rw [hk]; exact h.mem k, by simpa using h.len⟩
  · rcases List.mem_or_eq_of_mem_set hy with hy | rfl
    · exact h.row y hy
    · exact hz.trans (h.row g hgm)
  · rcases List.mem_or_eq_of_mem_set hy with hy | rfl
    · exact h.pos y hy
    · intro e
      simp only at e
      subst e
      exact h.pos g hgm (List.Perm.nil_eq hz).symm
abbrev gsD (gs : List Sg) : D := .map (kyS gs) (gs.map fun g => D.sl (g.2.map (D.int .i64)))
theorem scoresOfI (ms : List Mk) (hl : ms.length ≤ 20) : DoesI Tryz.prog 103 [.d (.sl (ms.map mkD))] [] (fun gs : List Sg => GsOk ms gs) (fun gs => .d (gsD gs)) (fun _ => []) := by
  refine DoesI.of_AW (n := 38) Tryz.func103 rfl rfl rfl fun cx hcx => ?_
  repeat' (first | (refine AW.sreg rfl fun K hK => ?_; simp only [go_sem, ↓reduceIte, List.length_map]) | (refine AW.seq_k fun K hK => ?_) | (refine AW.block ?_) | (refine hK _ ?_; clear hK K))
  refine AW.loopF (ι := Nat × List Sg) [3, 9, 10] (fun p => [(11, I p.1)]) (fun p => (64, some (O.map (kyS p.2) (rowsV sgR 6400 p.2))) :: rowsH sgR 6400 p.2) 200 (fun p => p.1 ≤ ms.length ∧ p.2 = gsF (ms.take p.1)) (fun p => ms.length - p.1) (0, []) ⟨Nat.zero_le _, rfl⟩ (Weak.oC hcx [(64, 64)] (by refine ⟨?_, ?_, ?_⟩ <;> simp [go_sem, gL, kL, List.map_append, dv_push, rowsV_nil, rowsH_nil, kyS])) ?_; simp only [St.at_nil, St.at_cons, lk, Nat.reduceEqDiff, ↓reduceIte, Option.getD_some, Option.getD_none, List.cons_append, List.nil_append, List.append_nil]
  rintro ⟨i, gs⟩ ⟨h1, h2⟩
  dsimp only at h1 h2 ⊢
  by_cases hi : i < ms.length
  · obtain ⟨x, hx, hxm, -⟩ := get_some hi
    have hget : (ms.map mkD)[i]? = some (mkD x) := by simp [hx]
    have h3 : (gs.map (·.1)).Nodup := by rw [h2]; exact grpF_nd _ _ _
    have h4 : ∀ g ∈ gs, g.2 ≠ [] := by rw [h2]; exact grpF_pos _ _ _
    have h5 : gs.length ≤ 20 := by
      have := grpF_len (fun m : Mk => m.1) (fun m : Mk => m.2.2) (ms.take i)
      rw [h2]
      show (grpF (fun m : Mk => m.1) (fun m : Mk => m.2.2) (ms.take i)).length ≤ 20
      simp only [List.length_take] at this
      omega
    have h6 : ∀ g ∈ gs, g.2.length ≤ 20 := fun g hg => by
      have := grpF_rlen (fun m : Mk => m.1) (fun m : Mk => m.2.2) (h2 ▸ hg)
      simp only [List.length_take] at this
      omega
    have hst : gsF (ms.take (i + 1)) = addG gs x.1 x.2.2 := by rw [h2]; exact grpF_step (fun m : Mk => m.1) (fun m : Mk => m.2.2) hx
    obtain ⟨pa, pe, sc⟩ := x
    dsimp only at hst
    by_cases hin : pa ∈ gs.map (·.1)
    · obtain ⟨j, hj⟩ := List.getElem?_of_mem hin
      rw [List.getElem?_map] at hj
      obtain ⟨g, hgj, hge⟩ := Option.map_eq_some_iff.1 hj
      have hjl := get_lt hgj
      have hgm := List.mem_of_getElem? hgj
      have ha := addG_in (n := sc) h3 hgj hge
      rw [ha] at hst
      have hf := kyS_in h3 hgj
      rw [hge] at hf
      have hgv : (rowsV sgR 6400 gs)[j]? = some (.slr (6400 + j) 0 g.2.length) := by
        rw [rowsV_get, hgj]
        simp only [Option.map_some]
        rw [rref_pos (by simpa [sgR] using h4 g hgm)]
        simp [sgR]
      have hlk : lk (rowsH sgR 6400 gs) (6400 + j) = some (some (.vec 3 1 (dv (g.2.map (D.int .i64))))) := rowsH_lk sgR hgj (by simpa [sgR] using h4 g hgm)
      have htk : List.take g.2.length (dv (g.2.map (D.int .i64))) = dv (g.2.map (D.int .i64)) := List.take_of_length_le (by simp [dv])
      have hN0 : ∀ n : Nat, n ≤ 6399 → (n = 6400 + j) = False := fun n hn => by simp; omega
      have hN1 : ∀ n : Nat, 12800 ≤ n → (n = 6400 + j) = False := fun n hn => by simp; omega
      have hN2 : ∀ n : Nat, n ≤ 6399 → (6400 + j = n) = False := fun n hn => by simp; omega
      have hN3 : ∀ n : Nat, 12800 ≤ n → (6400 + j = n) = False := fun n hn => by simp; omega
      have hgle := h6 g hgm
      have hR0 : swpN (6400 + j) 6400 (6400 + j) = 6400 := swpN_a _ _
      have hR1 : ∀ n : Nat, n ≤ 6399 → swpN (6400 + j) 6400 n = n := fun n hn => swpN_o (by omega) (by omega)
      have hR2 : ∀ n : Nat, 12800 ≤ n → swpN (6400 + j) 6400 n = n := fun n hn => swpN_o (by omega) (by omega)
      have hkl : kyS (gs.set j (pa, g.2 ++ [sc])) = kyS gs := by
        unfold kyS
        rw [List.map_set]
        exact set_same (by rw [List.getElem?_map, hgj, Option.map_some, hge])
      repeat' (first | ((first | refine AW.sreg rfl fun K hK => ?_ | refine AW.reg rfl ?_ | refine AW.regD hmix rfl ?_); simp only [go_sem, ↓reduceIte, List.length_map, hget, hf, hgv, hlk, htk, hN0, hN1, hN2, hN3, dv_length, rowsV_len, Int.toNat_natCast]) | (refine AW.seq_k fun K hK => ?_) | (refine AW.block ?_) | (refine AW.skip ?_; simp only [Then, InBlock]) | (refine AW.cT ?_) | (refine hK _ ?_; clear hK K) | (with_reducible refine And.intro (?_ : regOk _ _ = true) ?_; exact regOk_ren (swpN (6400 + j) 6400) (swpN_inj _ _) (by simp only [List.map_cons, List.map_nil, List.map_append, Tr.sig, Tr.wids, Tr.rids, renP, hR0, hR1, hR2, Nat.reduceLeDiff]; kernel_rfl)) | (with_reducible refine andI ?_))
      exact ⟨(i + 1, gs.set j (pa, g.2 ++ [sc])), ⟨hi, hst.symm⟩, by simp only; omega, (by
          have hgl0 : (gs).length ≤ 60 := by omega
          obtain ⟨F, hF⟩ : ∃ F : Nat → Nat, F = sw2 64 64 (6400 + j) 13888 := ⟨_, rfl⟩
          have ws : F 64 = 64 := by rw [hF]; exact sw2_a (by omega) (by omega)
          have wj : F (6400 + j) = 13888 := by rw [hF]; exact sw2_c (by omega) (by omega)
          have wo : ∀ q, q < (gs).length → q ≠ j → F (6400 + q) = 6400 + q := fun q hq hne => by rw [hF]; exact sw2_o (by omega) (by omega) (by omega) (by omega)
          have hsp : ∀ hv, frzL hv (fun _ => true) ((rowsV sgR 6400 gs).set j (.slr 13888 0 (g.2.length + 1))) = renL F (rowsV sgR 6400 ((gs).set j (pa, g.2 ++ [sc]))) := sp_set sgR_ok (g := (pa, g.2 ++ [sc])) (hjl) wj wo (by simp [sgR]) (by simp [sgR])
          have hbl : belL (64 * 200) (rowsV sgR 6400 ((gs).set j (pa, g.2 ++ [sc]))) = true := belL_rowsV sgR_ok _ _ (by (try simp only [List.length_append, List.length_cons, List.length_nil, List.length_set] at hgl0 ⊢); omega)
          (try simp at hbl hsp)
          exact Weak.rowsH (R := sgR) hcx F 6400 _ [_] rfl rfl (fun q hq => by first | exact absurd hq (Nat.not_lt_zero _) | (obtain rfl : q = 0 := (by simp only [List.length_cons, List.length_nil] at hq; omega); exact w0)) (by simp) (by simp [go_sem, frz, ws]) (by simp [go_sem, ws, hsp, hbl, hN2, hN3, hkl]) (fun q zz hq hx => by
              have hql : q < (gs).length := by have := get_lt hq; rwa [List.length_set] at this
              refine ⟨by (try simp only [List.length_append, List.length_cons, List.length_nil] at hgl0 hql ⊢); omega, ?_⟩
              by_cases h : j = q
              · subst h
                rw [List.getElem?_set_self hql] at hq
                have hxe : zz = (pa, g.2 ++ [sc]) := (Option.some.inj hq).symm
                subst hxe
                rw [wj]
                simp [St.hv, lk, sgR, dv, hN2, hN3, hkl]
              · rw [List.getElem?_set_ne h] at hq
                rw [wo q hql (Ne.symm h)]
                repeat (refine (hv_skip (by omega)).trans ?_)
                exact hv_rowsE hq hx) (fun q hq => by first | exact absurd hq (Nat.not_lt_zero _) | (obtain rfl : q = 0 := (by simp only [List.length_cons, List.length_nil] at hq; omega); exact ⟨_, List.mem_cons_self⟩)) (by rw [hF]; exact sw2_inj _ _ _ _))⟩
    · have hf := kyS_out hin
      have ha := addG_out (n := sc) hin
      rw [ha] at hst
      have hkll : (kyS gs).length = gs.length := by simp [kyS]
      have hsetA : ∀ x y : V, (rowsV sgR 6400 gs ++ [x]).set gs.length y = rowsV sgR 6400 gs ++ [y] := fun x y => by
        rw [List.set_append_right _ _ (by rw [rowsV_len]; exact Nat.le_refl _)]
        simp [rowsV_len]
      have hkl : kyS (gs ++ [(pa, [sc])]) = kyS gs ++ [D.str pa] := by simp [kyS]
      repeat' (first | ((first | refine AW.sreg rfl fun K hK => ?_ | refine AW.reg rfl ?_ | refine AW.regD hmix rfl ?_); simp only [go_sem, ↓reduceIte, List.length_map, hget, hf, hsetA, hkll, dv_length, rowsV_len, Int.toNat_natCast, List.length_append, List.length_cons, List.length_nil]) | (refine AW.seq_k fun K hK => ?_) | (refine AW.block ?_) | (refine AW.skip ?_; simp only [Then, InBlock]) | (refine AW.cT ?_) | (refine hK _ ?_; clear hK K) | (with_reducible refine And.intro (?_ : regOk _ _ = true) ?_; kernel_rfl) | (with_reducible refine andI ?_))
      exact ⟨(i + 1, gs ++ [(pa, [sc])]), ⟨hi, hst.symm⟩, by simp only; omega, (by
          have hgl0 : (gs).length ≤ 60 := by omega
          obtain ⟨F, hF⟩ : ∃ F : Nat → Nat, F = sw2 64 64 (6400 + (gs).length) 13888 := ⟨_, rfl⟩
          have ws : F 64 = 64 := by rw [hF]; exact sw2_a (by omega) (by omega)
          have wj : F (6400 + (gs).length) = 13888 := by rw [hF]; exact sw2_c (by omega) (by omega)
          have wo : ∀ q, q < (gs).length → q ≠ (gs).length → F (6400 + q) = 6400 + q := fun q hq hne => by rw [hF]; exact sw2_o (by omega) (by omega) (by omega) (by omega)
          have hsp : ∀ hv, frzL hv (fun _ => true) (rowsV sgR 6400 gs ++ [.slr 13888 0 1]) = renL F (rowsV sgR 6400 ((gs) ++ [(pa, [sc])])) := sp_app sgR_ok (g := (pa, [sc])) wj (fun q hq => wo q hq (by omega)) (by simp [sgR]) (by simp [sgR])
          have hbl : belL (64 * 200) (rowsV sgR 6400 ((gs) ++ [(pa, [sc])])) = true := belL_rowsV sgR_ok _ _ (by (try simp only [List.length_append, List.length_cons, List.length_nil, List.length_set] at hgl0 ⊢); omega)
          (try simp at hbl hsp)
          exact Weak.rowsH (R := sgR) hcx F 6400 _ [_] rfl rfl (fun q hq => by first | exact absurd hq (Nat.not_lt_zero _) | (obtain rfl : q = 0 := (by simp only [List.length_cons, List.length_nil] at hq; omega); exact w0)) (by simp) (by simp [go_sem, frz, ws]) (by simp [go_sem, ws, hsp, hbl, hkl]) (fun q zz hq hx => by
              rcases Nat.lt_trichotomy q (gs).length with h | h | h
              · rw [List.getElem?_append_left h] at hq
                refine ⟨by (try simp only [List.length_append, List.length_cons, List.length_nil] at hgl0 h ⊢); omega, ?_⟩
                rw [wo q h (by omega)]
                repeat (refine (hv_skip (by omega)).trans ?_)
                exact hv_rowsE hq hx
              · subst h
                have hxe : zz = (pa, [sc]) := by simpa using hq.symm
                subst hxe
                rw [wj]
                exact ⟨by (try simp only [List.length_append, List.length_cons, List.length_nil] at hgl0 ⊢); omega, by simp [St.hv, lk, sgR, dv, hkl]⟩
              · rw [List.getElem?_eq_none (by simp only [List.length_append, List.length_cons, List.length_nil] at h ⊢; omega)] at hq
                cases hq) (fun q hq => by first | exact absurd hq (Nat.not_lt_zero _) | (obtain rfl : q = 0 := (by simp only [List.length_cons, List.length_nil] at hq; omega); exact ⟨_, List.mem_cons_self⟩)) (by rw [hF]; exact sw2_inj _ _ _ _))⟩
  · obtain rfl : i = ms.length := by omega
    rw [List.take_length] at h2
    have hkl : (kyS gs).length = gs.length := by simp [kyS]
    have hgl : gs.length ≤ 20 := by
      have := grpF_len (fun m : Mk => m.1) (fun m : Mk => m.2.2) ms
      rw [h2]
      show (grpF (fun m : Mk => m.1) (fun m : Mk => m.2.2) ms).length ≤ 20
      omega
    repeat' (first | (refine AW.sreg rfl fun K hK => ?_; simp only [go_sem, ↓reduceIte, List.length_map, rowsV_len, hkl]) | (refine AW.seq_k fun K hK => ?_) | (refine AW.block ?_) | (refine AW.exit ?_; simp only [go_sem, ↓reduceIte]) | (refine AW.cF ?_) | (refine hK _ ?_; clear hK K) | (clear hK K; refine hK _ ?_; clear hK K))
    have hok := gsF_ok ms
    rw [← h2] at hok
    have hrl : ∀ g ∈ gs, g.2.length ≤ 20 := fun g hg => by
      have := grpF_rlen (fun m : Mk => m.1) (fun m : Mk => m.2.2) (h2 ▸ hg)
      omega
    refine AW.loopF (ι := List Nat × List Sg) [3, 30] (fun p => []) (fun p => (12928, some (O.miter (.mpr 64) gs.length p.1.getLast? (.lst p.1))) :: (64, some (O.map (kyS p.2) (rowsV sgR 6400 p.2))) :: rowsH sgR 6400 p.2) 210 (fun p => Sd gs.length p.1 ∧ GsOk ms p.2 ∧ p.2.length = gs.length ∧ ∀ g ∈ p.2, g.2.length ≤ 20) (fun p => gs.length - p.1.length) ([], gs) ⟨Sd.nil _, hok, rfl, hrl⟩ (by
        have hgl0 : (gs).length ≤ 60 := by omega
        obtain ⟨F, hF⟩ : ∃ F : Nat → Nat, F = sw2 64 64 64 64 := ⟨_, rfl⟩
        have w12928 : F 12928 = 12928 := by rw [hF]; exact sw2_o (by omega) (by omega) (by omega) (by omega)
        have ws : F 64 = 64 := by rw [hF]; simp [sw2, swpN]
        have wo : ∀ q, q < (gs).length → F (6400 + q) = 6400 + q := fun q hq => by rw [hF]; exact sw2_o (by omega) (by omega) (by omega) (by omega)
        have hsp : ∀ hv, frzL hv (fun _ => true) (rowsV sgR 6400 gs) = renL F (rowsV sgR 6400 (gs)) := sp_id sgR_ok wo
        have hbl : belL (64 * 210) (rowsV sgR 6400 (gs)) = true := belL_rowsV sgR_ok _ _ (by (try simp only [List.length_append, List.length_cons, List.length_nil, List.length_set] at hgl0 ⊢); omega)
        (try simp at hbl hsp)
        exact Weak.rowsH (R := sgR) hcx F 6400 _ [_, _] rfl rfl (fun q hq => by first | exact absurd hq (Nat.not_lt_zero _) | (obtain rfl : q = 0 := (by simp only [List.length_cons, List.length_nil] at hq; omega); exact w0)) (by simp) (by simp [go_sem, frz, ws, w12928]) (by simp [go_sem, ws, w12928, hsp, hbl, List.getLast?_nil]) (fun q zz hq hx => by
            have hql : q < (gs).length := get_lt hq
            refine ⟨by (try simp only [List.length_append, List.length_cons, List.length_nil] at hgl0 hql ⊢); omega, ?_⟩
            rw [wo q hql]
            repeat (refine (hv_skip (by omega)).trans ?_)
            exact hv_rowsE hq hx) (fun q hq => by first | exact absurd hq (Nat.not_lt_zero _) | (obtain rfl : q = 0 := (by simp only [List.length_cons, List.length_nil] at hq; omega); exact ⟨_, List.mem_cons_self⟩)) (by rw [hF]; exact sw2_inj _ _ _ _)) ?_; simp only [St.at_nil, St.at_cons, lk, Nat.reduceEqDiff, ↓reduceIte, Option.getD_some, Option.getD_none, List.cons_append, List.nil_append, List.append_nil]
    rintro ⟨seen, gs1⟩ ⟨k1, k2, k3, k4⟩
    dsimp only at k1 k2 k3 k4 ⊢
    have hkl1 : (kyS gs1).length = gs.length := by simp [kyS, k3]
    have hvl1 : (rowsV sgR 6400 gs1).length = gs.length := by rw [rowsV_len, k3]
    repeat' (first | (refine AW.sreg rfl fun K hK => ?_; simp only [go_sem, ↓reduceIte]))
    refine run_next rfl rfl rfl rfl (dstOk_of rfl) hkl1 hvl1 (fun hd => ?_) (fun j kk vv hm hk hv => ?_)
    rotate_left
    · have hjl : j < gs1.length := by
        have := get_lt hk
        rw [hkl1] at this
        omega
      obtain ⟨g, hgj, hgm, -⟩ := get_some hjl
      have hkk : kk = .str g.1 := by
        unfold kyS at hk
        rw [List.getElem?_map, hgj] at hk
        exact (Option.some.inj hk).symm
      subst hkk
      have hpos := k2.pos g hgm
      have hvv : vv = .slr (6400 + j) 0 g.2.length := by
        rw [rowsV_get, hgj] at hv
        simp only [Option.map_some] at hv
        rw [rref_pos (by simpa [sgR] using hpos)] at hv
        have := (Option.some.inj hv).symm
        simpa [sgR] using this
      subst hvv
      have hlen := k1.len hm (by omega)
      have hadd := k1.add hm (by omega)
      have hlk : lk (rowsH sgR 6400 gs1) (6400 + j) = some (some (.vec 3 1 (dv (g.2.map (D.int .i64))))) := rowsH_lk sgR hgj (by simpa [sgR] using hpos)
      have hN0 : ∀ n : Nat, n ≤ 6399 → (n = 6400 + j) = False := fun n hn => by simp; omega
      have hN1 : ∀ n : Nat, 12800 ≤ n → (n = 6400 + j) = False := fun n hn => by simp; omega
      simp only [go_sem, ↓reduceIte, List.length_map]
      repeat' (first | (refine AW.sreg rfl fun K hK => ?_; simp only [go_sem, ↓reduceIte]) | (refine AW.seq_k fun K hK => ?_) | (refine AW.block ?_) | (refine AW.skip ?_; simp only [Then, InBlock]) | (refine AW.cT ?_) | (refine hK _ ?_; clear hK K))
      refine run_entry rfl rfl rfl rfl (dstOk_of rfl) hkl1 hk hv ?_
      have hso := sortInts_does g.2 (by have := k4 g hgm; omega)
      simp only [go_sem, ↓reduceIte, List.length_map]
      repeat' (first | (refine AW.reg rfl ?_; simp only [go_sem, ↓reduceIte]) | (refine hK _ ?_; clear hK K))
      refine run_call _ _ _ (hso.objs [6400 + j] ⟨?_, trivial⟩ rfl (by simp) (by simp [go_sem, renOs]) (by simp) (by simp) (by simp [go_sem]) (by simp [go_sem]) (by simp [go_sem]) (by simp [go_sem])) rfl rfl (dstOk_of rfl) rfl rfl rfl ?_
      · simp [gOf, St.hv, lk, hlk, hN0, hN1]
      simp only [go_sem, ↓reduceIte, List.length_map]
      repeat' (first | fail)
      have hzl : (srtI g.2).length = g.2.length := (srtI_perm _).length_eq
      have hsp : ∀ hv, frzL hv (fun _ => true) (rowsV sgR 6400 gs1) = renL id (rowsV sgR 6400 (gs1.set j (g.1, srtI g.2))) := fun hv => by rw [rowsV_same hgj hpos hzl]; exact sp_id sgR_ok (fun _ _ => rfl) hv
      have hbl : belL (64 * 210) (rowsV sgR 6400 (gs1.set j (g.1, srtI g.2))) = true := belL_rowsV sgR_ok _ _ (by rw [List.length_set]; omega)
      have hky := kyS_same hgj (srtI g.2)
      have hn2 : ∀ n : Nat, n ≤ 6399 → (6400 + j = n) = False := fun n hn => by simp; omega
      have hn3 : ∀ n : Nat, 12800 ≤ n → (6400 + j = n) = False := fun n hn => by simp; omega
      (try simp at hbl hsp)
      refine ⟨(seen ++ [j], gs1.set j (g.1, srtI g.2)), ⟨hadd, k2.sort hgj (srtI_perm _), by simp only [List.length_set]; exact k3, fun y hy => ?_⟩, by simp only [List.length_append, List.length_cons, List.length_nil]; omega, Weak.rowsH (R := sgR) hcx id 6400 _ [_, _] rfl rfl (fun q hq => absurd hq (Nat.not_lt_zero _)) (by simp) (by simp [go_sem, frz]) (by simp [go_sem, hsp, hbl, hky, hn2, hn3]) (fun q zz hq hx => ?_) (fun q hq => absurd hq (Nat.not_lt_zero _)) (fun _ _ h => h)⟩
      · rcases List.mem_or_eq_of_mem_set hy with hy | rfl
        · exact k4 y hy
        · simp only
          rw [hzl]
          exact k4 g hgm
      · have hql : q < gs1.length := by have := get_lt hq; rwa [List.length_set] at this
        refine ⟨by dsimp only; omega, ?_⟩
        simp only [id]
        by_cases h : j = q
        · subst h
          rw [List.getElem?_set_self hql] at hq
          have hxe : zz = (g.1, srtI g.2) := (Option.some.inj hq).symm
          subst hxe
          simp [St.hv, lk, sgR, dv]
        · rw [List.getElem?_set_ne h] at hq
          repeat (refine (hv_skip (by omega)).trans ?_)
          exact hv_rowsE hq hx
    · have hall : ∀ q, q < gs1.length → q ∈ seen := fun q hq => hd q (by omega)
      simp only [go_sem, ↓reduceIte, List.length_map]
      repeat' (first | ((first | refine AW.sreg rfl fun K hK => ?_ | refine AW.exit ?_); simp only [go_sem, ↓reduceIte]) | (refine AW.seq_k fun K hK => ?_) | (refine AW.cF ?_) | (refine hK _ ?_; clear hK K) | (clear hK K; refine hK _ ?_; clear hK K))
      refine AW.ret ⟨gs1, k2, Fin.data rfl ((frz_mprR (R := sgR) (B := 6400) (dat := fun g => D.sl (g.2.map (D.int .i64))) rfl rfl (fun g v h => h 7 (by omega)) (fun q g hq hg => ⟨rfl, ?_⟩)).trans (by simp [go_sem])) rfl⟩
      have := get_lt hq
      repeat (refine (hv_skip (by omega)).trans ?_)
      exact hv_rowsE hq hg
end Go.AX

namespace Go.AX
open Go Go.Proofs Go.RowKit
/-- Scores within bounds. -/
def In10 (ns : List Int) : Prop := ns.length ≤ 20 ∧ ∀ n ∈ ns, 0 ≤ n ∧ n ≤ 10
theorem sum_bd : ∀ {ns : List Int}, (∀ n ∈ ns, 0 ≤ n ∧ n ≤ 10) → 0 ≤ ns.sum ∧ ns.sum ≤ 10 * ns.length
  | [], _ => by simp
  | x :: r, h => by
    have h1 := h x (by simp)
    have h2 := sum_bd (ns := r) fun n hn => h n (by simp [hn])
    simp only [List.sum_cons, List.length_cons]
    omega
theorem sumOf_any {ns : List Int} (h : In10 ns) : Does Tryz.prog 105 [.d (.sl (ns.map (D.int .i64)))] [] (I ns.sum) [] := by
  have hl := h.1
  refine Does.of_AW (n := 17) Tryz.func105 rfl rfl rfl fun cx hcx => ?_
  repeat' (first | (refine AW.sreg rfl fun K hK => ?_; simp only [go_sem, ↓reduceIte, List.length_map]) | (refine AW.seq_k fun K hK => ?_) | (refine AW.block ?_) | (refine hK _ ?_; clear hK K))
  refine AW.loopF (ι := Nat) [6, 7] (fun p => [(8, I p), (3, I (ns.take p).sum)]) (fun p => []) 7 (fun p => p ≤ ns.length) (fun p => ns.length - p) 0 (Nat.zero_le _) (Weak.aC hcx (by refine ⟨?_, ?_, ?_⟩ <;> simp [go_sem, gL, kL, renOf, V.obj, Nat.blt, Nat.ble, List.map_append, dv_push])) ?_; simp only [St.at_nil, St.at_cons, lk, Nat.reduceEqDiff, ↓reduceIte, Option.getD_some, Option.getD_none, List.cons_append, List.nil_append, List.append_nil]
  intro i h1
  by_cases hi : i < ns.length
  · obtain ⟨x, hx, hxm, -⟩ := get_some hi
    have hget : (ns.map (D.int .i64))[i]? = some (.int .i64 x) := by simp [hx]
    have hst : (ns.take (i + 1)).sum = (ns.take i).sum + x := by rw [List.take_add_one, hx]; simp
    have hb := sum_bd (ns := ns.take i) fun n hn => h.2 n (List.mem_of_mem_take hn)
    have hx10 := h.2 x hxm
    simp only [List.length_take] at hb
    generalize (ns.take i).sum = s at *
    repeat' (first | ((first | refine AW.sreg rfl fun K hK => ?_ | refine AW.reg rfl ?_); simp only [go_sem, ↓reduceIte, List.length_map, hget]) | (refine AW.seq_k fun K hK => ?_) | (refine AW.block ?_) | (refine AW.skip ?_; simp only [Then, InBlock]) | (refine AW.cT ?_) | (refine hK _ ?_; clear hK K) | (with_reducible refine andI ?_))
    exact ⟨i + 1, hi, by omega, (Weak.aC hcx (by refine ⟨?_, ?_, ?_⟩ <;> simp [go_sem, gL, kL, renOf, V.obj, Nat.blt, Nat.ble, List.map_append, dv_push, hst]))⟩
  · obtain rfl : i = ns.length := by omega
    rw [List.take_length]
    repeat' (first | (refine AW.sreg rfl fun K hK => ?_; simp only [go_sem, ↓reduceIte, List.length_map]) | (refine AW.seq_k fun K hK => ?_) | (refine AW.exit ?_; simp only [go_sem, ↓reduceIte]) | (refine AW.cF ?_) | (refine hK _ ?_; clear hK K) | (clear hK K; refine hK _ ?_; clear hK K) | (refine AW.ret (Fin.data rfl (by first | (simp only [go_sem]; done) | (simp [go_sem, *]; done) | (simp [go_sem]; omega) | rfl) rfl)))
theorem low_mn (ns : List Int) : low ns.sum ns.length = mnF ns := by
  unfold low mnF
  rw [Int.tdiv_eq_ediv_of_dvd (Int.gcd_dvd_left ..), Int.tdiv_eq_ediv_of_dvd (Int.gcd_dvd_right ..)]
theorem whole_any (k : Int) : Does Tryz.prog 291 [I k] [] (.d (Fr k 1)) [] := by
  refine Does.of_AW (n := 5) Tryz.func291 rfl rfl rfl fun cx hcx => ?_
  repeat' (first | (refine AW.sreg rfl fun K hK => ?_; simp only [go_sem, ↓reduceIte]) | (refine hK _ ?_; clear hK K))
  exact AW.ret (Fin.data rfl (by simp [go_sem, fr_size]) rfl)
/-- What a paper has in a criterion. -/
def vlF (c : Int) (ns : List Int) : Int × Int :=
  if c = 4 then (ns.length, 1) else if ns = [] then (-1, 1) else if c = 1 then low ns.sum ns.length
  else if c = 2 then (ns.getD 0 0, 1) else if c = 3 then (ns.getD (ns.length - 1) 0, 1) else (ns.getD ((ns.length - 1) / 2) 0, 1)
theorem value_any {c : Int} (hc : 1 ≤ c ∧ c ≤ 5) {ns : List Int} (h : In10 ns) : Does Tryz.prog 224 [I c, .d (.sl (ns.map (D.int .i64)))] [] (.d (Fr (vlF c ns).1 (vlF c ns).2)) [] := by
  have hl := h.1
  have hw := fun k => whole_any k
  refine Does.of_AW (n := 53) Tryz.func224 rfl rfl rfl fun cx hcx => ?_
  unfold vlF
  by_cases h4 : c = 4
  · subst h4
    rw [if_pos rfl]
    repeat' (first | ((first | refine AW.sreg rfl fun K hK => ?_ | refine run_call _ _ _ ((hw ns.length).pure rfl rfl _ _) rfl rfl (dstOk_of rfl) rfl rfl rfl ?_); simp only [go_sem, ↓reduceIte, List.length_map]) | (refine AW.seq_k fun K hK => ?_) | (refine AW.block ?_) | (refine AW.cT ?_) | (refine hK _ ?_; clear hK K))
    exact AW.ret (Fin.data rfl (by simp [go_sem, fr_size]) rfl)
  rw [if_neg h4]
  have h4b : (c == 4) = false := by simpa using h4
  by_cases h0 : ns = []
  · subst h0
    rw [if_pos rfl]
    repeat' (first | ((first | refine AW.sreg rfl fun K hK => ?_ | refine run_call _ _ _ ((hw (-1)).pure rfl rfl _ _) rfl rfl (dstOk_of rfl) rfl rfl rfl ?_); simp only [go_sem, ↓reduceIte, h4b]) | (refine AW.seq_k fun K hK => ?_) | (refine AW.block ?_) | (refine AW.cT ?_) | (refine AW.cF ?_) | (refine hK _ ?_; clear hK K))
    all_goals exact AW.ret (Fin.data rfl (by simp [go_sem, fr_size]) rfl)
  rw [if_neg h0]
  have hpos : 0 < ns.length := List.length_pos_iff.2 h0
  have h0b : ((ns.length : Int) == 0) = false := by simp; omega
  by_cases h1 : c = 1
  · subst h1
    rw [if_pos rfl]
    have hs := sumOf_any h
    have hb := sum_bd h.2
    have hlo := lowest_any ns.sum ns.length (by omega) (by omega)
    repeat' (first | ((first | refine AW.sreg rfl fun K hK => ?_ | refine run_call _ _ _ ((hs).pure rfl rfl _ _) rfl rfl (dstOk_of rfl) rfl rfl rfl ?_ | refine run_call _ _ _ ((hlo).pure rfl rfl _ _) rfl rfl (dstOk_of rfl) rfl rfl rfl ?_); simp only [go_sem, ↓reduceIte, List.length_map, h0b]) | (refine AW.seq_k fun K hK => ?_) | (refine AW.block ?_) | (refine AW.cT ?_) | (refine AW.cF ?_) | (refine hK _ ?_; clear hK K))
    exact AW.ret (Fin.data rfl (by simp [go_sem, fr_size]) rfl)
  rw [if_neg h1]
  have h1b : (c == 1) = false := by simpa using h1
  have hat : ∀ k, k < ns.length → (ns.map (D.int .i64))[k]? = some (.int .i64 (ns.getD k 0)) := fun k hk => by
    rw [List.getElem?_map, List.getElem?_eq_getElem hk]
    simp [List.getD, List.getElem?_eq_getElem hk]
  by_cases h2 : c = 2
  · subst h2
    rw [if_pos rfl]
    have hg := hat 0 hpos
    repeat' (first | ((first | refine AW.sreg rfl fun K hK => ?_ | refine run_call _ _ _ ((hw (ns.getD 0 0)).pure rfl rfl _ _) rfl rfl (dstOk_of rfl) rfl rfl rfl ?_); simp only [go_sem, ↓reduceIte, List.length_map, h0b, hg]) | (refine AW.seq_k fun K hK => ?_) | (refine AW.block ?_) | (refine AW.cT ?_) | (refine AW.cF ?_) | (refine hK _ ?_; clear hK K) | (with_reducible refine andI ?_))
    exact AW.ret (Fin.data rfl (by simp [go_sem, fr_size]) rfl)
  rw [if_neg h2]
  have h2b : (c == 2) = false := by simpa using h2
  by_cases h3 : c = 3
  · subst h3
    rw [if_pos rfl]
    have hg := hat (ns.length - 1) (by omega)
    have e1 : ((ns.length : Int) - 1).toNat = ns.length - 1 := by omega
    repeat' (first | ((first | refine AW.sreg rfl fun K hK => ?_ | refine run_call _ _ _ ((hw (ns.getD (ns.length - 1) 0)).pure rfl rfl _ _) rfl rfl (dstOk_of rfl) rfl rfl rfl ?_); simp only [go_sem, ↓reduceIte, List.length_map, h0b, hg, e1]) | (refine AW.seq_k fun K hK => ?_) | (refine AW.block ?_) | (refine AW.cT ?_) | (refine AW.cF ?_) | (refine hK _ ?_; clear hK K) | (with_reducible refine andI ?_))
    exact AW.ret (Fin.data rfl (by simp [go_sem, fr_size]) rfl)
  rw [if_neg h3]
  have h3b : (c == 3) = false := by simpa using h3
  have hg := hat ((ns.length - 1) / 2) (by omega)
  have e1 : ((ns.length : Int) - 1).tdiv 2 = (((ns.length - 1) / 2 : Nat) : Int) := by rw [Int.tdiv_eq_ediv_of_nonneg (by omega)]; omega
  have hb1 : (ns.length - 1) / 2 < ns.length := by omega
  generalize (ns.length - 1) / 2 = k at *
  repeat' (first | ((first | refine AW.sreg rfl fun K hK => ?_ | refine run_call _ _ _ ((hw (ns.getD k 0)).pure rfl rfl _ _) rfl rfl (dstOk_of rfl) rfl rfl rfl ?_); simp only [go_sem, ↓reduceIte, List.length_map, h0b, h1b, h2b, h3b, h4b, hg, e1, Int.toNat_natCast]) | (refine AW.seq_k fun K hK => ?_) | (refine AW.block ?_) | (refine AW.skip ?_; simp only [Then, InBlock]) | (refine AW.cF ?_) | (refine hK _ ?_; clear hK K) | (with_reducible refine andI ?_))
  all_goals exact AW.ret (Fin.data rfl (by simp [go_sem, fr_size]) rfl)
theorem value_nil {c : Int} {ns : List Int} (h : ns = []) : Does Tryz.prog 224 [I c, .nils] [] (.d (Fr (vlF c ns).1 (vlF c ns).2)) [] := by
  subst h
  have hw := fun k => whole_any k
  refine Does.of_AW (n := 53) Tryz.func224 rfl rfl rfl fun cx hcx => ?_
  unfold vlF
  by_cases h4 : c = 4
  · subst h4
    rw [if_pos rfl]
    repeat' (first | ((first | refine AW.sreg rfl fun K hK => ?_ | refine run_call _ _ _ ((hw 0).pure rfl rfl _ _) rfl rfl (dstOk_of rfl) rfl rfl rfl ?_); simp only [go_sem, ↓reduceIte, List.length_map]) | (refine AW.seq_k fun K hK => ?_) | (refine AW.block ?_) | (refine AW.cT ?_) | (refine hK _ ?_; clear hK K))
    exact AW.ret (Fin.data rfl (by simp [go_sem, fr_size]) rfl)
  rw [if_neg h4]
  have h4b : (c == 4) = false := by simpa using h4
  rw [if_pos rfl]
  repeat' (first | ((first | refine AW.sreg rfl fun K hK => ?_ | refine run_call _ _ _ ((hw (-1)).pure rfl rfl _ _) rfl rfl (dstOk_of rfl) rfl rfl rfl ?_); simp only [go_sem, ↓reduceIte, h4b]) | (refine AW.seq_k fun K hK => ?_) | (refine AW.block ?_) | (refine AW.cT ?_) | (refine AW.cF ?_) | (refine hK _ ?_; clear hK K))
  all_goals exact AW.ret (Fin.data rfl (by simp [go_sem, fr_size]) rfl)
end Go.AX
