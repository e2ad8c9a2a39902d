/- What papers are ordered by, in all five ways: plain laws. -/
import Derived.Test.YtmcchfkclhpbhaaGreatDoorVE
set_option linter.unusedSimpArgs false
set_option linter.unusedVariables false
set_option linter.unnecessarySimpa false
set_option maxRecDepth 1000000
set_option maxHeartbeats 4000000
namespace Go.AX
open Go Go.Proofs Go.RowKit
theorem In10.at {zs : List Int} (h : In10 zs) {i : Nat} (hi : i < zs.length) : 0 ≤ zs[i]! ∧ zs[i]! ≤ 10 := by
  rw [getElem!_pos zs i hi]
  exact h _ (List.getElem_mem hi)
theorem cmpI_bd (a b : Int) : -1 ≤ cmpI a b ∧ cmpI a b ≤ 1 := by unfold cmpI; split <;> (try split) <;> omega
theorem mul_42 {a b : Nat} (ha : a ≤ 42) (hb : b ≤ 42) : a * b ≤ 1764 := Nat.mul_le_mul ha hb
/-- How many persons gave the first paper more. -/
def wnS (x : Mk) (a : Int) (y : Mk) : Int := if (x.2.1 == y.2.1) = true ∧ y.2.2 < x.2.2 then a + 1 else a
def wnI (x : Mk) (l : List Mk) (a : Int) : Int := l.foldl (wnS x) a
def wnO (r : List Mk) (l : List Mk) (a : Int) : Int := l.foldl (fun a x => wnI x r a) a
def wnF (ms : List Mk) (p q : Str) : Int := wnO (gP ms q) (gP ms p) 0
theorem wnI_snoc {x : Mk} {l : List Mk} {i : Nat} {o : Mk} (a : Int) (h : l[i]? = some o) : wnI x (l.take (i + 1)) a = wnS x (wnI x (l.take i) a) o := by
  rw [take_snoc h, wnI, List.foldl_append]; rfl
theorem wnO_snoc {r : List Mk} {l : List Mk} {i : Nat} {x : Mk} (a : Int) (h : l[i]? = some x) : wnO r (l.take (i + 1)) a = wnI x r (wnO r (l.take i) a) := by
  rw [take_snoc h, wnO, List.foldl_append]; rfl
theorem wnI_bd {x : Mk} : ∀ (l : List Mk) {a : Int} {n : Nat}, (0 ≤ a ∧ a ≤ n) → 0 ≤ wnI x l a ∧ wnI x l a ≤ (n + l.length : Nat)
  | [], a, n, h => h
  | o :: l, a, n, h => by
    have h1 : 0 ≤ wnS x a o ∧ wnS x a o ≤ (n + 1 : Nat) := by
      unfold wnS
      split <;> omega
    have h2 := wnI_bd (x := x) l h1
    rw [List.length_cons, show n + (l.length + 1) = n + 1 + l.length by omega]
    exact h2
theorem wnO_bd {r : List Mk} : ∀ (l : List Mk) {a : Int} {n : Nat}, (0 ≤ a ∧ a ≤ n) → 0 ≤ wnO r l a ∧ wnO r l a ≤ (n + l.length * r.length : Nat)
  | [], a, n, h => by simpa [wnO] using h
  | x :: l, a, n, h => by
    have h1 := wnI_bd (x := x) r h
    have h2 := wnO_bd (r := r) l h1
    have e : (l.length + 1) * r.length = l.length * r.length + r.length := Nat.succ_mul _ _
    rw [List.length_cons, e, show n + (l.length * r.length + r.length) = n + r.length + l.length * r.length by omega]
    exact h2
theorem wnT_bd {r l : List Mk} (hr : r.length ≤ 42) (hl : l.length ≤ 42) : 0 ≤ wnO r l 0 ∧ wnO r l 0 ≤ 1764 := by
  have h := wnO_bd (r := r) l (a := 0) (n := 0) ⟨by omega, by omega⟩
  have := mul_42 hl hr
  omega
/-- Against how many papers one has more wins, less against how many it has fewer. -/
def blS (ms : List Mk) (a : Str) (n : Int) (b : Str) : Int := n + cmpI (wnF ms a b) (wnF ms b a)
def blF (ms : List Mk) (ps : List Str) (a : Str) : Int := ps.foldl (blS ms a) 0
theorem blF_snoc {ms : List Mk} {ps : List Str} {a : Str} {i : Nat} {b : Str} (h : ps[i]? = some b) : blF ms (ps.take (i + 1)) a = blF ms (ps.take i) a + cmpI (wnF ms a b) (wnF ms b a) := by
  rw [take_snoc h, blF, List.foldl_append]; rfl
theorem bl_bd {ms : List Mk} {a : Str} : ∀ (ps : List Str) {n : Int} {k : Nat}, (-(k : Int) ≤ n ∧ n ≤ k) → -((k + ps.length : Nat) : Int) ≤ ps.foldl (blS ms a) n ∧ ps.foldl (blS ms a) n ≤ (k + ps.length : Nat)
  | [], n, k, h => h
  | b :: ps, n, k, h => by
    have h0 := cmpI_bd (wnF ms a b) (wnF ms b a)
    have h1 : -((k + 1 : Nat) : Int) ≤ blS ms a n b ∧ blS ms a n b ≤ (k + 1 : Nat) := by unfold blS; omega
    have h2 := bl_bd (ms := ms) (a := a) ps h1
    rw [List.length_cons, show k + (ps.length + 1) = k + 1 + ps.length by omega]
    exact h2
theorem blF_bd {ms : List Mk} {a : Str} (ps : List Str) (h : ps.length ≤ 1000) : -1000 ≤ blF ms ps a ∧ blF ms ps a ≤ 1000 := by
  have := bl_bd (ms := ms) (a := a) ps (n := 0) (k := 0) ⟨by omega, by omega⟩
  unfold blF
  omega
def wnV (ms : List Mk) (p : Str) : Vl := ((blF ms (pps ms) p, 1), (0, 1))
theorem wnV_ok {ms : List Mk} (p : Str) (h : (pps ms).length ≤ 1000) : VlOk (wnV ms p) := by
  have := blF_bd (ms := ms) (a := p) (pps ms) h
  exact ⟨by simp only [wnV]; omega, by simp [wnV], by simp [wnV], by simp [wnV]⟩
/-- What a map of lists holds at a place. -/
theorem MapK.idx {KS : List Str} {VS : List D} {L : Str → List Mk} (h : MapK KS VS L) {j : Nat} {p : Str} (hj : KS[j]? = some p) : (VS.map V.d)[j]? = some (.d (.sl ((L p).map mkD))) ∧ L p ≠ [] := by
  have hf := fnd_at h.nd hj
  have hne := (h.mem p).1 (List.mem_of_getElem? hj)
  rcases h.find p with ⟨h1, -⟩ | ⟨i, h1, h2⟩
  · rw [hf] at h1; cases h1
  · rw [hf] at h1
    obtain rfl : j = i := by simpa using h1
    exact ⟨h2, hne⟩
end Go.AX

namespace Go.AX
open Go Go.Proofs Go.RowKit
theorem whole_any (n : Int) : Does Tryz.prog 112 [I n] [] (.d (Fr n 1)) [] := by
  refine Does.of_AW (n := 5) Tryz.func112 rfl rfl rfl fun cx hcx => ?_
  repeat' (first | (refine AW.sreg rfl fun K hK => ?_; simp only [go_sem, Nat.reduceAdd, Nat.reduceMul, Int.reduceToNat, Nat.reduceLT, Nat.reduceLeDiff, Nat.le_refl, Nat.reduceEqDiff, ↓reduceIte, beq_self_eq_true, bne_self_eq_false, Int.reduceBEq, Int.reduceBNe, or_self, true_or, or_true, Option.map_some, Option.map_none]) | (refine hK _ ?_; clear hK K))
  exact AW.ret (Fin.data rfl (by simp [go_sem, fr_size]) rfl)
theorem wins_any (ms : List Mk) (hl : ms.length ≤ 42) (q : (List Str × List D) × (List Str × List D)) (hq : ShOk ms q) (pa pb : Str) (hpa : pa ∈ q.1.1) (hpb : pb ∈ q.1.1) : Does Tryz.prog 70 [shV ms q, S pa, S pb] [] (I (wnF ms pa pb)) [] := by
  have hgl := gP_len ms pa
  have hgr := gP_len ms pb
  obtain ⟨z, hf, hg⟩ := hq.at hpa
  obtain ⟨z2, hf2, hg2⟩ := hq.at hpb
  unfold wnF
  generalize gP ms pa = la at *
  generalize gP ms pb = lb at *
  refine Does.of_AW (n := 53) Tryz.func70 rfl rfl rfl fun cx hcx => ?_
  repeat' (first | (refine AW.sreg rfl fun K hK => ?_; simp only [go_sem, Nat.reduceAdd, Nat.reduceMul, Int.reduceToNat, Nat.reduceLT, Nat.reduceLeDiff, Nat.le_refl, Nat.reduceEqDiff, ↓reduceIte, beq_self_eq_true, bne_self_eq_false, Int.reduceBEq, Int.reduceBNe, or_self, true_or, or_true, Option.map_some, Option.map_none, hf, hg, List.length_map]) | (refine AW.seq_k fun K hK => ?_) | (refine AW.block ?_) | (refine hK _ ?_; clear hK K))
  refine AW.loopF (ι := Nat) [0, 2, 17, 18] (fun p => [(7, I (wnO lb (la.take p) 0)), (19, I p)]) (fun p => []) 10 (fun p => p ≤ la.length) (fun p => la.length - p) 0 (Nat.zero_le _) (Weak.auto hcx rfl rfl (Nat.le_of_ble_eq_true rfl) (by simp [go_sem, gL, kL, renOf, V.obj, lk, Nat.blt, Nat.ble, List.map_append, dv_push, List.take_zero, wnO, List.foldl_nil]) (by simp [go_sem, gL, kL, renOf, V.obj, lk, Nat.blt, Nat.ble, List.map_append, dv_push, List.take_zero, wnO, List.foldl_nil]) (by first | exact pk0 | exact pk1 ⟨_, rfl⟩ | exact pk2 ⟨_, rfl⟩ ⟨_, rfl⟩ | exact pk3 ⟨_, rfl⟩ ⟨_, rfl⟩ ⟨_, rfl⟩ | exact pk4 ⟨_, rfl⟩ ⟨_, rfl⟩ ⟨_, rfl⟩ ⟨_, rfl⟩) (by simp [go_sem, gL, kL, lk, renOf, V.obj, Nat.blt, Nat.ble, List.take_zero, wnO, List.foldl_nil])) ?_; simp only [St.at_nil, St.at_cons, lk, Nat.reduceEqDiff, ↓reduceIte, Option.getD_some, Option.getD_none, List.cons_append, List.nil_append, List.append_nil]
  intro i h1
  have hb0 := wnT_bd (r := lb) (l := la.take i) (by omega) (by rw [List.length_take]; omega)
  by_cases hi : i < la.length
  · obtain ⟨x, hx, hxm, -⟩ := get_some hi
    have hget : (la.map mkD)[i]? = some (mkD x) := by simp only [List.getElem?_map, hx, Option.map_some]
    have hsn := wnO_snoc (r := lb) 0 hx
    generalize wnO lb (la.take i) 0 = a at *
    repeat' (first | (refine AW.sreg rfl fun K hK => ?_; simp only [go_sem, Nat.reduceAdd, Nat.reduceMul, Int.reduceToNat, Nat.reduceLT, Nat.reduceLeDiff, Nat.le_refl, Nat.reduceEqDiff, ↓reduceIte, beq_self_eq_true, bne_self_eq_false, Int.reduceBEq, Int.reduceBNe, or_self, true_or, or_true, Option.map_some, Option.map_none, hget, hf2, hg2, List.length_map]) | (refine AW.seq_k fun K hK => ?_) | (refine AW.block ?_) | (refine AW.skip ?_; simp only [Then, InBlock]) | (refine AW.condT rfl (by first | rfl | (simp; omega) | (simp [*]; done) | fail) ?_) | (refine hK _ ?_; clear hK K) | (with_reducible refine And.intro ?_ ?_; first | omega | assumption | (focus (decide)) | (focus (simp; done)) | (focus (simp; omega)) | (focus (constructor <;> omega)) | fail))
    refine AW.loopF (ι := Nat) [0, 2, 9, 17, 18, 19, 28, 29] (fun p => [(7, I (wnI x (lb.take p) a)), (30, I p)]) (fun p => [(832, some (O.box 39 [S x.1, S x.2.1, I x.2.2]))]) 24 (fun p => p ≤ lb.length) (fun p => lb.length - p) 0 (Nat.zero_le _) (Weak.auto hcx rfl rfl (Nat.le_of_ble_eq_true rfl) (by simp [go_sem, gL, kL, renOf, V.obj, lk, Nat.blt, Nat.ble, List.map_append, dv_push, List.take_zero, wnI, List.foldl_nil]) (by simp [go_sem, gL, kL, renOf, V.obj, lk, Nat.blt, Nat.ble, List.map_append, dv_push, List.take_zero, wnI, List.foldl_nil]) (by first | exact pk0 | exact pk1 ⟨_, rfl⟩ | exact pk2 ⟨_, rfl⟩ ⟨_, rfl⟩ | exact pk3 ⟨_, rfl⟩ ⟨_, rfl⟩ ⟨_, rfl⟩ | exact pk4 ⟨_, rfl⟩ ⟨_, rfl⟩ ⟨_, rfl⟩ ⟨_, rfl⟩) (by simp [go_sem, gL, kL, lk, renOf, V.obj, Nat.blt, Nat.ble, List.take_zero, wnI, List.foldl_nil])) ?_; simp only [St.at_nil, St.at_cons, lk, Nat.reduceEqDiff, ↓reduceIte, Option.getD_some, Option.getD_none, List.cons_append, List.nil_append, List.append_nil]
    intro k h2
    have hb1 := wnI_bd (x := x) (n := 1764) (lb.take k) hb0
    rw [List.length_take] at hb1
    by_cases hk : k < lb.length
    · obtain ⟨o, ho, hom, -⟩ := get_some hk
      have hget2 : (lb.map mkD)[k]? = some (mkD o) := by simp only [List.getElem?_map, ho, Option.map_some]
      have hs2 := wnI_snoc (x := x) a ho
      generalize wnI x (lb.take k) a = b at *
      cases hb : (x.2.1 == o.2.1) with
      | false =>
        have e : wnI x (lb.take (k + 1)) a = b := by rw [hs2, wnS, if_neg (by simp [hb])]
        repeat' (first | ((first | refine AW.sreg rfl fun K hK => ?_ | refine AW.reg rfl ?_); simp only [go_sem, Nat.reduceAdd, Nat.reduceMul, Int.reduceToNat, Nat.reduceLT, Nat.reduceLeDiff, Nat.le_refl, Nat.reduceEqDiff, ↓reduceIte, beq_self_eq_true, bne_self_eq_false, Int.reduceBEq, Int.reduceBNe, or_self, true_or, or_true, Option.map_some, Option.map_none, hget2, hb, List.length_map]) | (refine AW.seq_k fun K hK => ?_) | (refine AW.block ?_) | (refine AW.skip ?_; simp only [Then, InBlock]) | (refine AW.condT rfl (by first | rfl | (simp; omega) | (simp [*]; done) | fail) ?_) | (refine AW.condF rfl (by first | rfl | (simp; omega) | (simp [*]; done) | fail) ?_) | (refine hK _ ?_; clear hK K) | (with_reducible refine And.intro ?_ ?_; first | omega | assumption | (focus (decide)) | (focus (simp; done)) | (focus (simp; omega)) | (focus (constructor <;> omega)) | fail))
        exact ⟨k + 1, hk, by omega, (Weak.auto hcx rfl rfl (Nat.le_of_ble_eq_true rfl) (by simp [go_sem, gL, kL, renOf, V.obj, lk, Nat.blt, Nat.ble, List.map_append, dv_push, e]) (by simp [go_sem, gL, kL, renOf, V.obj, lk, Nat.blt, Nat.ble, List.map_append, dv_push, e]) (by first | exact pk0 | exact pk1 ⟨_, rfl⟩ | exact pk2 ⟨_, rfl⟩ ⟨_, rfl⟩ | exact pk3 ⟨_, rfl⟩ ⟨_, rfl⟩ ⟨_, rfl⟩ | exact pk4 ⟨_, rfl⟩ ⟨_, rfl⟩ ⟨_, rfl⟩ ⟨_, rfl⟩) (by simp [go_sem, gL, kL, lk, renOf, V.obj, Nat.blt, Nat.ble, e]))⟩
      | true =>
        by_cases hlt : o.2.2 < x.2.2
        · have e : wnI x (lb.take (k + 1)) a = b + 1 := by rw [hs2, wnS, if_pos ⟨hb, hlt⟩]
          repeat' (first | ((first | refine AW.sreg rfl fun K hK => ?_ | refine AW.reg rfl ?_); simp only [go_sem, Nat.reduceAdd, Nat.reduceMul, Int.reduceToNat, Nat.reduceLT, Nat.reduceLeDiff, Nat.le_refl, Nat.reduceEqDiff, ↓reduceIte, beq_self_eq_true, bne_self_eq_false, Int.reduceBEq, Int.reduceBNe, or_self, true_or, or_true, Option.map_some, Option.map_none, hget2, hb, hlt, List.length_map]) | (refine AW.seq_k fun K hK => ?_) | (refine AW.block ?_) | (refine AW.skip ?_; simp only [Then, InBlock]) | (refine AW.condT rfl (by first | rfl | (simp; omega) | (simp [*]; done) | fail) ?_) | (refine hK _ ?_; clear hK K) | (with_reducible refine And.intro ?_ ?_; first | omega | assumption | (focus (decide)) | (focus (simp; done)) | (focus (simp; omega)) | (focus (constructor <;> omega)) | fail))
          exact ⟨k + 1, hk, by omega, (Weak.auto hcx rfl rfl (Nat.le_of_ble_eq_true rfl) (by simp [go_sem, gL, kL, renOf, V.obj, lk, Nat.blt, Nat.ble, List.map_append, dv_push, e]) (by simp [go_sem, gL, kL, renOf, V.obj, lk, Nat.blt, Nat.ble, List.map_append, dv_push, e]) (by first | exact pk0 | exact pk1 ⟨_, rfl⟩ | exact pk2 ⟨_, rfl⟩ ⟨_, rfl⟩ | exact pk3 ⟨_, rfl⟩ ⟨_, rfl⟩ ⟨_, rfl⟩ | exact pk4 ⟨_, rfl⟩ ⟨_, rfl⟩ ⟨_, rfl⟩ ⟨_, rfl⟩) (by simp [go_sem, gL, kL, lk, renOf, V.obj, Nat.blt, Nat.ble, e]))⟩
        · have e : wnI x (lb.take (k + 1)) a = b := by rw [hs2, wnS, if_neg (by simp [hlt])]
          repeat' (first | ((first | refine AW.sreg rfl fun K hK => ?_ | refine AW.reg rfl ?_); simp only [go_sem, Nat.reduceAdd, Nat.reduceMul, Int.reduceToNat, Nat.reduceLT, Nat.reduceLeDiff, Nat.le_refl, Nat.reduceEqDiff, ↓reduceIte, beq_self_eq_true, bne_self_eq_false, Int.reduceBEq, Int.reduceBNe, or_self, true_or, or_true, Option.map_some, Option.map_none, hget2, hb, hlt, List.length_map]) | (refine AW.seq_k fun K hK => ?_) | (refine AW.block ?_) | (refine AW.skip ?_; simp only [Then, InBlock]) | (refine AW.condT rfl (by first | rfl | (simp; omega) | (simp [*]; done) | fail) ?_) | (refine AW.condF rfl (by first | rfl | (simp; omega) | (simp [*]; done) | fail) ?_) | (refine hK _ ?_; clear hK K) | (with_reducible refine And.intro ?_ ?_; first | omega | assumption | (focus (decide)) | (focus (simp; done)) | (focus (simp; omega)) | (focus (constructor <;> omega)) | fail))
          exact ⟨k + 1, hk, by omega, (Weak.auto hcx rfl rfl (Nat.le_of_ble_eq_true rfl) (by simp [go_sem, gL, kL, renOf, V.obj, lk, Nat.blt, Nat.ble, List.map_append, dv_push, e]) (by simp [go_sem, gL, kL, renOf, V.obj, lk, Nat.blt, Nat.ble, List.map_append, dv_push, e]) (by first | exact pk0 | exact pk1 ⟨_, rfl⟩ | exact pk2 ⟨_, rfl⟩ ⟨_, rfl⟩ | exact pk3 ⟨_, rfl⟩ ⟨_, rfl⟩ ⟨_, rfl⟩ | exact pk4 ⟨_, rfl⟩ ⟨_, rfl⟩ ⟨_, rfl⟩ ⟨_, rfl⟩) (by simp [go_sem, gL, kL, lk, renOf, V.obj, Nat.blt, Nat.ble, e]))⟩
    · obtain rfl : k = lb.length := by omega
      rw [List.take_length]
      repeat' (first | ((first | refine AW.sreg rfl fun K hK => ?_ | refine AW.reg rfl ?_); simp only [go_sem, Nat.reduceAdd, Nat.reduceMul, Int.reduceToNat, Nat.reduceLT, Nat.reduceLeDiff, Nat.le_refl, Nat.reduceEqDiff, ↓reduceIte, beq_self_eq_true, bne_self_eq_false, Int.reduceBEq, Int.reduceBNe, or_self, true_or, or_true, Option.map_some, Option.map_none, List.length_map]) | (refine AW.seq_k fun K hK => ?_) | (refine AW.exit ?_; simp only [go_sem, ↓reduceIte]) | (refine AW.condF rfl (by first | rfl | (simp; omega) | (simp [*]; done) | fail) ?_) | (refine hK _ ?_; clear hK K) | (clear hK K; refine hK _ ?_; clear hK K) | (with_reducible refine And.intro ?_ ?_; first | omega | assumption | (focus (decide)) | (focus (simp; done)) | (focus (simp; omega)) | (focus (constructor <;> omega)) | fail))
      exact ⟨i + 1, hi, by omega, (Weak.auto hcx rfl rfl (Nat.le_of_ble_eq_true rfl) (by simp [go_sem, gL, kL, renOf, V.obj, lk, Nat.blt, Nat.ble, List.map_append, dv_push, hsn]) (by simp [go_sem, gL, kL, renOf, V.obj, lk, Nat.blt, Nat.ble, List.map_append, dv_push, hsn]) (by first | exact pk0 | exact pk1 ⟨_, rfl⟩ | exact pk2 ⟨_, rfl⟩ ⟨_, rfl⟩ | exact pk3 ⟨_, rfl⟩ ⟨_, rfl⟩ ⟨_, rfl⟩ | exact pk4 ⟨_, rfl⟩ ⟨_, rfl⟩ ⟨_, rfl⟩ ⟨_, rfl⟩) (by simp [go_sem, gL, kL, lk, renOf, V.obj, Nat.blt, Nat.ble, hsn]))⟩
  · obtain rfl : i = la.length := by omega
    rw [List.take_length]
    repeat' (first | (refine AW.sreg rfl fun K hK => ?_; simp only [go_sem, Nat.reduceAdd, Nat.reduceMul, Int.reduceToNat, Nat.reduceLT, Nat.reduceLeDiff, Nat.le_refl, Nat.reduceEqDiff, ↓reduceIte, beq_self_eq_true, bne_self_eq_false, Int.reduceBEq, Int.reduceBNe, or_self, true_or, or_true, Option.map_some, Option.map_none, List.length_map]) | (refine AW.seq_k fun K hK => ?_) | (refine AW.exit ?_; simp only [go_sem, ↓reduceIte]) | (refine AW.condF rfl (by first | rfl | (simp; omega) | (simp [*]; done) | fail) ?_) | (refine hK _ ?_; clear hK K) | (clear hK K; refine hK _ ?_; clear hK K) | (refine AW.ret (Fin.data rfl (by first | (simp only [go_sem]; done) | (simp [go_sem, *]; done) | (simp [go_sem]; omega) | rfl) rfl)))
end Go.AX

namespace Go.AX
open Go Go.Proofs Go.RowKit
/-- A row of the table of wins, and the table. -/
abbrev tbR (ms : List Mk) (ps : List Str) (a : Str) : List D := ps.map fun b => D.int .i64 (wnF ms a b)
abbrev tbV (ms : List Mk) (ps : List Str) : V := .d (.ptr [.sl (ps.map D.str), .sl (ps.map fun a => .sl (tbR ms ps a))] 0)
theorem balance_any (ms : List Mk) (ps : List Str) (hpl : ps.length ≤ 1000) (j : Nat) (pa : Str) (hj : ps[j]? = some pa) : Does Tryz.prog 115 [tbV ms ps, I j] [] (I (blF ms ps pa)) [] := by
  have hjl := get_lt hj
  have hr : (ps.map fun a => D.sl (tbR ms ps a))[j]? = some (.sl (tbR ms ps pa)) := by rw [List.getElem?_map, hj]; rfl
  refine Does.of_AW (n := 40) Tryz.func115 rfl rfl rfl fun cx hcx => ?_
  repeat' (first | (refine AW.sreg rfl fun K hK => ?_; simp only [go_sem, Nat.reduceAdd, Nat.reduceMul, Int.reduceToNat, Nat.reduceLT, Nat.reduceLeDiff, Nat.le_refl, Nat.reduceEqDiff, ↓reduceIte, beq_self_eq_true, bne_self_eq_false, Int.reduceBEq, Int.reduceBNe, or_self, true_or, or_true, Option.map_some, Option.map_none, List.length_map]) | (refine AW.seq_k fun K hK => ?_) | (refine AW.block ?_) | (refine hK _ ?_; clear hK K))
  refine AW.loopF (ι := Nat) [0, 1, 11] (fun p => [(5, I (blF ms (ps.take p) pa)), (12, I p)]) (fun p => []) 8 (fun p => p ≤ ps.length) (fun p => ps.length - p) 0 (Nat.zero_le _) (Weak.auto hcx rfl rfl (Nat.le_of_ble_eq_true rfl) (by simp [go_sem, gL, kL, renOf, V.obj, lk, Nat.blt, Nat.ble, List.map_append, dv_push, List.take_zero, blF, List.foldl_nil]) (by simp [go_sem, gL, kL, renOf, V.obj, lk, Nat.blt, Nat.ble, List.map_append, dv_push, List.take_zero, blF, List.foldl_nil]) (by first | exact pk0 | exact pk1 ⟨_, rfl⟩ | exact pk2 ⟨_, rfl⟩ ⟨_, rfl⟩ | exact pk3 ⟨_, rfl⟩ ⟨_, rfl⟩ ⟨_, rfl⟩ | exact pk4 ⟨_, rfl⟩ ⟨_, rfl⟩ ⟨_, rfl⟩ ⟨_, rfl⟩) (by simp [go_sem, gL, kL, lk, renOf, V.obj, Nat.blt, Nat.ble, List.take_zero, blF, List.foldl_nil])) ?_; simp only [St.at_nil, St.at_cons, lk, Nat.reduceEqDiff, ↓reduceIte, Option.getD_some, Option.getD_none, List.cons_append, List.nil_append, List.append_nil]
  intro i h1
  have hb0 := blF_bd (ms := ms) (a := pa) (ps.take i) (by rw [List.length_take]; omega)
  by_cases hi : i < ps.length
  · obtain ⟨pb, hx, hxm, -⟩ := get_some hi
    have hr2 : (ps.map fun a => D.sl (tbR ms ps a))[i]? = some (.sl (tbR ms ps pb)) := by rw [List.getElem?_map, hx]; rfl
    have hc1 : (tbR ms ps pa)[i]? = some (.int .i64 (wnF ms pa pb)) := by rw [List.getElem?_map, hx]; rfl
    have hc2 : (tbR ms ps pb)[j]? = some (.int .i64 (wnF ms pb pa)) := by rw [List.getElem?_map, hj]; rfl
    have hl1 : (tbR ms ps pa).length = ps.length := List.length_map _
    have hl2 : (tbR ms ps pb).length = ps.length := List.length_map _
    have hll : (ps.map fun a => D.sl (tbR ms ps a)).length = ps.length := List.length_map _
    have hsn := blF_snoc (ms := ms) (a := pa) hx
    have hcb := cmpI_bd (wnF ms pa pb) (wnF ms pb pa)
    have hci := compare_int (wnF ms pa pb) (wnF ms pb pa)
    generalize blF ms (ps.take i) pa = n at *
    generalize cmpI (wnF ms pa pb) (wnF ms pb pa) = cv at *
    generalize wnF ms pa pb = w1 at *
    generalize wnF ms pb pa = w2 at *
    repeat' (first | ((first | refine AW.sreg rfl fun K hK => ?_ | refine AW.reg rfl ?_ | refine AW.regD hmix rfl ?_ | refine runT_call _ _ [] (fun hv _ => (hci).pure rfl rfl hv _) rfl rfl (dstOk_of rfl) rfl rfl ?_); simp only [go_sem, Nat.reduceAdd, Nat.reduceMul, Int.reduceToNat, Nat.reduceLT, Nat.reduceLeDiff, Nat.le_refl, Nat.reduceEqDiff, ↓reduceIte, beq_self_eq_true, bne_self_eq_false, Int.reduceBEq, Int.reduceBNe, or_self, true_or, or_true, Option.map_some, Option.map_none, List.length_map, hr, hr2, hc1, hc2]) | (refine AW.seq_k fun K hK => ?_) | (refine AW.block ?_) | (refine AW.skip ?_; simp only [Then, InBlock]) | (refine AW.condT rfl (by first | rfl | (simp; omega) | (simp [*]; done) | fail) ?_) | (refine hK _ ?_; clear hK K) | (with_reducible refine And.intro (?_ : regOk _ _ = true) ?_; kernel_rfl) | (with_reducible refine And.intro ?_ ?_; first | omega | assumption | (focus (decide)) | (focus (simp; done)) | (focus (simp; omega)) | (focus (constructor <;> omega)) | fail))
    exact ⟨i + 1, hi, by omega, (Weak.auto hcx rfl rfl (Nat.le_of_ble_eq_true rfl) (by simp [go_sem, gL, kL, renOf, V.obj, lk, Nat.blt, Nat.ble, List.map_append, dv_push, hsn]) (by simp [go_sem, gL, kL, renOf, V.obj, lk, Nat.blt, Nat.ble, List.map_append, dv_push, hsn]) (by first | exact pk0 | exact pk1 ⟨_, rfl⟩ | exact pk2 ⟨_, rfl⟩ ⟨_, rfl⟩ | exact pk3 ⟨_, rfl⟩ ⟨_, rfl⟩ ⟨_, rfl⟩ | exact pk4 ⟨_, rfl⟩ ⟨_, rfl⟩ ⟨_, rfl⟩ ⟨_, rfl⟩) (by simp [go_sem, gL, kL, lk, renOf, V.obj, Nat.blt, Nat.ble, hsn]))⟩
  · obtain rfl : i = ps.length := by omega
    rw [List.take_length]
    repeat' (first | (refine AW.sreg rfl fun K hK => ?_; simp only [go_sem, Nat.reduceAdd, Nat.reduceMul, Int.reduceToNat, Nat.reduceLT, Nat.reduceLeDiff, Nat.le_refl, Nat.reduceEqDiff, ↓reduceIte, beq_self_eq_true, bne_self_eq_false, Int.reduceBEq, Int.reduceBNe, or_self, true_or, or_true, Option.map_some, Option.map_none, List.length_map]) | (refine AW.seq_k fun K hK => ?_) | (refine AW.exit ?_; simp only [go_sem, ↓reduceIte]) | (refine AW.condF rfl (by first | rfl | (simp; omega) | (simp [*]; done) | fail) ?_) | (refine hK _ ?_; clear hK K) | (clear hK K; refine hK _ ?_; clear hK K) | (refine AW.ret (Fin.data rfl (by first | (simp only [go_sem]; done) | (simp [go_sem, *]; done) | (simp [go_sem]; omega) | rfl) rfl)))
theorem keysLen {ms : List Mk} {q : (List Str × List D) × (List Str × List D)} (hq : ShOk ms q) (hk : ∀ m ∈ ms, m.1.length ≤ 1000) : ∀ k ∈ q.1.1, k.length ≤ 1000000 := by
  intro k hkm
  have h1 := hq.pos hkm
  obtain ⟨m, hm⟩ := List.exists_mem_of_length_pos h1
  obtain ⟨h2, rfl⟩ := mem_gP.1 hm
  have := hk m h2
  omega
theorem table_any (ms : List Mk) (hl : ms.length ≤ 42) (hk : ∀ m ∈ ms, m.1.length ≤ 1000) (q : (List Str × List D) × (List Str × List D)) (hq : ShOk ms q) : Does Tryz.prog 66 [shV ms q] [] (tbV ms q.1.1) [] := by
  have hln := hq.len (by omega)
  have h1 := keys_any q.1.1 q.1.2 hln (keysLen hq hk) hq.rise
  refine Does.of_AW (n := 54) Tryz.func66 rfl rfl rfl fun cx hcx => ?_
  repeat' (first | ((first | refine AW.sreg rfl fun K hK => ?_ | refine run_call _ _ _ ((h1).pure rfl rfl _ _) rfl rfl (dstOk_of rfl) rfl rfl rfl ?_); simp only [go_sem, Nat.reduceAdd, Nat.reduceMul, Int.reduceToNat, Nat.reduceLT, Nat.reduceLeDiff, Nat.le_refl, Nat.reduceEqDiff, ↓reduceIte, beq_self_eq_true, bne_self_eq_false, Int.reduceBEq, Int.reduceBNe, or_self, true_or, or_true, Option.map_some, Option.map_none, List.length_map]) | (refine AW.seq_k fun K hK => ?_) | (refine AW.block ?_) | (refine hK _ ?_; clear hK K))
  refine AW.weak (Weak.nilB 448 1 112 22 1 rfl rfl) ?_
  refine AW.loopF (ι := Nat) [0, 3, 19, 20] (fun p => [(21, I p)]) (fun p => [(448, some (O.box 112 [.d (.sl (q.1.1.map D.str)), .slr 960 0 p])), (960, some (O.vec 22 1 (dv ((q.1.1.take p).map fun a => D.sl (tbR ms q.1.1 a)))))]) 16 (fun p => p ≤ q.1.1.length) (fun p => q.1.1.length - p) 0 (Nat.zero_le _) (Weak.objs hcx [(448, 448), (960, 960)] rfl rfl (Nat.le_of_ble_eq_true rfl) (by simp [go_sem, gL, kL, List.map_append, dv_push, List.take_zero, dvz, List.map_nil]) (by simp [go_sem, gL, kL, List.map_append, dv_push, List.take_zero, dvz, List.map_nil]) (by first | exact pk0 | exact pk1 ⟨_, rfl⟩ | exact pk2 ⟨_, rfl⟩ ⟨_, rfl⟩ | exact pk3 ⟨_, rfl⟩ ⟨_, rfl⟩ ⟨_, rfl⟩ | exact pk4 ⟨_, rfl⟩ ⟨_, rfl⟩ ⟨_, rfl⟩ ⟨_, rfl⟩) (by simp [gL, lk, List.take_zero, dvz, List.map_nil])) ?_; simp only [St.at_nil, St.at_cons, lk, Nat.reduceEqDiff, ↓reduceIte, Option.getD_some, Option.getD_none, List.cons_append, List.nil_append, List.append_nil]
  intro i e1
  by_cases hi : i < q.1.1.length
  · obtain ⟨pa, hp, hpm, -⟩ := get_some hi
    have hget : (q.1.1.map D.str)[i]? = some (.str pa) := by simp only [List.getElem?_map, hp, Option.map_some]
    have hsn := take_snoc hp
    repeat' (first | (refine AW.sreg rfl fun K hK => ?_; simp only [go_sem, Nat.reduceAdd, Nat.reduceMul, Int.reduceToNat, Nat.reduceLT, Nat.reduceLeDiff, Nat.le_refl, Nat.reduceEqDiff, ↓reduceIte, beq_self_eq_true, bne_self_eq_false, Int.reduceBEq, Int.reduceBNe, or_self, true_or, or_true, Option.map_some, Option.map_none, List.length_map, hget]) | (refine AW.seq_k fun K hK => ?_) | (refine AW.block ?_) | (refine AW.skip ?_; simp only [Then, InBlock]) | (refine AW.condT rfl (by first | rfl | (simp; omega) | (simp [*]; done) | fail) ?_) | (refine hK _ ?_; clear hK K) | (with_reducible refine And.intro ?_ ?_; first | omega | assumption | (focus (decide)) | (focus (simp; done)) | (focus (simp; omega)) | (focus (constructor <;> omega)) | fail))
    refine AW.weak (Weak.nil 6 3 1 rfl) ?_
    refine AW.loopF (ι := Nat) [0, 3, 5, 19, 20, 21, 28, 29] (fun p => [(6, .slr 1728 0 p), (30, I p)]) (fun p => [(448, some (O.box 112 [.d (.sl (q.1.1.map D.str)), .slr 960 0 i])), (960, some (O.vec 22 1 (dv ((q.1.1.take i).map fun a => D.sl (tbR ms q.1.1 a))))), (1728, some (O.vec 3 1 (dv ((tbR ms q.1.1 pa).take p))))]) 28 (fun p => p ≤ q.1.1.length) (fun p => q.1.1.length - p) 0 (Nat.zero_le _) (Weak.objs hcx [(448, 448), (960, 960), (1728, 1728)] rfl rfl (Nat.le_of_ble_eq_true rfl) (by simp [go_sem, gL, kL, List.map_append, dv_push, List.take_zero, dvz, List.map_nil]) (by simp [go_sem, gL, kL, List.map_append, dv_push, List.take_zero, dvz, List.map_nil]) (by first | exact pk0 | exact pk1 ⟨_, rfl⟩ | exact pk2 ⟨_, rfl⟩ ⟨_, rfl⟩ | exact pk3 ⟨_, rfl⟩ ⟨_, rfl⟩ ⟨_, rfl⟩ | exact pk4 ⟨_, rfl⟩ ⟨_, rfl⟩ ⟨_, rfl⟩ ⟨_, rfl⟩) (by simp [gL, lk, List.take_zero, dvz, List.map_nil])) ?_; simp only [St.at_nil, St.at_cons, lk, Nat.reduceEqDiff, ↓reduceIte, Option.getD_some, Option.getD_none, List.cons_append, List.nil_append, List.append_nil]
    intro k e2
    by_cases hk2 : k < q.1.1.length
    · obtain ⟨pb, hp2, hpm2, -⟩ := get_some hk2
      have hget2 : (q.1.1.map D.str)[k]? = some (.str pb) := by simp only [List.getElem?_map, hp2, Option.map_some]
      have hr : (tbR ms q.1.1 pa)[k]? = some (.int .i64 (wnF ms pa pb)) := by rw [List.getElem?_map, hp2]; rfl
      have hsr := take_snoc hr
      have hw := wins_any ms hl q hq pa pb hpm hpm2
      have htl : List.take k (dv ((tbR ms q.1.1 pa).take k)) = dv ((tbR ms q.1.1 pa).take k) := List.take_of_length_le (by simp [dv]; omega)
      repeat' (first | ((first | refine AW.sreg rfl fun K hK => ?_ | refine AW.reg rfl ?_ | refine run_call _ _ _ ((hw).pure rfl rfl _ _) rfl rfl (dstOk_of rfl) rfl rfl rfl ?_); simp only [go_sem, Nat.reduceAdd, Nat.reduceMul, Int.reduceToNat, Nat.reduceLT, Nat.reduceLeDiff, Nat.le_refl, Nat.reduceEqDiff, ↓reduceIte, beq_self_eq_true, bne_self_eq_false, Int.reduceBEq, Int.reduceBNe, or_self, true_or, or_true, Option.map_some, Option.map_none, List.length_map, hget2, htl]) | (refine AW.seq_k fun K hK => ?_) | (refine AW.block ?_) | (refine AW.skip ?_; simp only [Then, InBlock]) | (refine AW.condT rfl (by first | rfl | (simp; omega) | (simp [*]; done) | fail) ?_) | (refine hK _ ?_; clear hK K) | (with_reducible refine And.intro ?_ ?_; first | omega | assumption | (focus (decide)) | (focus (simp; done)) | (focus (simp; omega)) | (focus (constructor <;> omega)) | fail))
      exact ⟨k + 1, hk2, by omega, (Weak.objs hcx [(448, 448), (960, 960), (1728, 2432)] rfl rfl (Nat.le_of_ble_eq_true rfl) (by simp [go_sem, gL, kL, List.map_append, dv_push, hsr]) (by simp [go_sem, gL, kL, List.map_append, dv_push, hsr]) (by first | exact pk0 | exact pk1 ⟨_, rfl⟩ | exact pk2 ⟨_, rfl⟩ ⟨_, rfl⟩ | exact pk3 ⟨_, rfl⟩ ⟨_, rfl⟩ ⟨_, rfl⟩ | exact pk4 ⟨_, rfl⟩ ⟨_, rfl⟩ ⟨_, rfl⟩ ⟨_, rfl⟩) (by simp [gL, lk, hsr]))⟩
    · obtain rfl : k = q.1.1.length := by omega
      have htr : List.take q.1.1.length (tbR ms q.1.1 pa) = tbR ms q.1.1 pa := List.take_of_length_le (by simp)
      rw [htr]
      have htl : List.take i (dv ((q.1.1.take i).map fun a => D.sl (tbR ms q.1.1 a))) = dv ((q.1.1.take i).map fun a => D.sl (tbR ms q.1.1 a)) := List.take_of_length_le (by simp [dv]; omega)
      repeat' (first | ((first | refine AW.sreg rfl fun K hK => ?_ | refine AW.reg rfl ?_); simp only [go_sem, Nat.reduceAdd, Nat.reduceMul, Int.reduceToNat, Nat.reduceLT, Nat.reduceLeDiff, Nat.le_refl, Nat.reduceEqDiff, ↓reduceIte, beq_self_eq_true, bne_self_eq_false, Int.reduceBEq, Int.reduceBNe, or_self, true_or, or_true, Option.map_some, Option.map_none, List.length_map, htl]) | (refine AW.seq_k fun K hK => ?_) | (refine AW.exit ?_; simp only [go_sem, ↓reduceIte]) | (refine AW.condF rfl (by first | rfl | (simp; omega) | (simp [*]; done) | fail) ?_) | (refine hK _ ?_; clear hK K) | (clear hK K; refine hK _ ?_; clear hK K) | (with_reducible refine And.intro ?_ ?_; first | omega | assumption | (focus (decide)) | (focus (simp; done)) | (focus (simp; omega)) | (focus (constructor <;> omega)) | fail))
      exact ⟨i + 1, hi, by omega, (Weak.objs hcx [(448, 448), (960, 2304)] rfl rfl (Nat.le_of_ble_eq_true rfl) (by simp [go_sem, gL, kL, List.map_append, dv_push, hsn, frzL_appV, belL_app, renL_app, toDL_dvF, dv_appV]) (by simp [go_sem, gL, kL, List.map_append, dv_push, hsn, frzL_appV, belL_app, renL_app, toDL_dvF, dv_appV]) (by first | exact pk0 | exact pk1 ⟨_, rfl⟩ | exact pk2 ⟨_, rfl⟩ ⟨_, rfl⟩ | exact pk3 ⟨_, rfl⟩ ⟨_, rfl⟩ ⟨_, rfl⟩ | exact pk4 ⟨_, rfl⟩ ⟨_, rfl⟩ ⟨_, rfl⟩ ⟨_, rfl⟩) (by simp [gL, lk, hsn, frzL_appV, belL_app, renL_app, toDL_dvF, dv_appV]))⟩
  · obtain rfl : i = q.1.1.length := by omega
    rw [List.take_length]
    repeat' (first | (refine AW.sreg rfl fun K hK => ?_; simp only [go_sem, Nat.reduceAdd, Nat.reduceMul, Int.reduceToNat, Nat.reduceLT, Nat.reduceLeDiff, Nat.le_refl, Nat.reduceEqDiff, ↓reduceIte, beq_self_eq_true, bne_self_eq_false, Int.reduceBEq, Int.reduceBNe, or_self, true_or, or_true, Option.map_some, Option.map_none, List.length_map]) | (refine AW.seq_k fun K hK => ?_) | (refine AW.exit ?_; simp only [go_sem, ↓reduceIte]) | (refine AW.condF rfl (by first | rfl | (simp; omega) | (simp [*]; done) | fail) ?_) | (refine hK _ ?_; clear hK K) | (clear hK K; refine hK _ ?_; clear hK K))
    exact AW.ret (Fin.data rfl (by simp [go_sem, toDL_dvF]) rfl)
end Go.AX

namespace Go.AX
open Go Go.Proofs Go.RowKit
attribute [go_sem] aRange aEntry mapOf Lf.done Lf.may Lf.next
theorem nodup_subN : ∀ (l r : List Nat), l.Nodup → (∀ x ∈ l, x ∈ r) → l.length ≤ r.length
  | [], _, _, _ => Nat.zero_le _
  | x :: l, r, hn, h => by
    have hn' := List.nodup_cons.1 hn
    have hx := h x (by simp)
    have ih := nodup_subN l (r.erase x) hn'.2 fun y hy => by
      have hne : y ≠ x := by rintro rfl; exact hn'.1 hy
      exact (List.mem_erase_of_ne hne).2 (h y (List.mem_cons_of_mem _ hy))
    rw [List.length_erase_of_mem hx] at ih
    have := List.length_pos_of_mem hx
    simp only [List.length_cons]
    omega
/-- Some places of a map were seen: there the new map holds what it should. -/
structure Sn (ks : List Str) (g : Str → Int) (seen : List Nat) (wm : IM) : Prop where
  nd : seen.Nodup
  lt : ∀ j ∈ seen, j < ks.length
  ok : ∀ j ∈ seen, ∀ x, ks[j]? = some x → imG wm x = g x
theorem Sn.nil (ks : List Str) (g : Str → Int) (wm : IM) : Sn ks g [] wm := ⟨List.nodup_nil, by simp, by simp⟩
theorem Sn.add {ks : List Str} {g : Str → Int} {seen : List Nat} {wm : IM} (h : Sn ks g seen wm) {j : Nat} {x : Str} (hj : j ∉ seen) (hx : ks[j]? = some x) : Sn ks g (seen ++ [j]) (imP wm x (g x)) where
  nd := by rw [List.nodup_append]; exact ⟨h.nd, by simp, fun a ha b hb => by simp at hb; subst hb; rintro rfl; exact hj ha⟩
  lt := fun i hi => by
    rcases List.mem_append.1 hi with hi | hi
    · exact h.lt i hi
    · obtain rfl := List.mem_singleton.1 hi
      exact get_lt hx
  ok := fun i hi y hy => by
    rw [imG_put]
    split
    · rename_i e; rw [e]
    · rename_i e
      rcases List.mem_append.1 hi with hi | hi
      · exact h.ok i hi y hy
      · obtain rfl := List.mem_singleton.1 hi
        rw [hx] at hy
        cases hy
        exact absurd rfl e
theorem Sn.all {ks : List Str} {g : Str → Int} {seen : List Nat} {wm : IM} (h : Sn ks g seen wm) (hd : ∀ i, i < ks.length → i ∈ seen) : ∀ x ∈ ks, imG wm x = g x := fun x hx => by
  obtain ⟨i, hi⟩ := List.getElem?_of_mem hx
  exact h.ok i (hd i (get_lt hi)) x hi
theorem Sn.len {ks : List Str} {g : Str → Int} {seen : List Nat} {wm : IM} (h : Sn ks g seen wm) {j : Nat} (hj : j ∉ seen) (hl : j < ks.length) : seen.length < ks.length := by
  have hn : (seen ++ [j]).Nodup := by rw [List.nodup_append]; exact ⟨h.nd, by simp, fun a ha b hb => by simp at hb; subst hb; rintro rfl; exact hj ha⟩
  have := nodup_subN (seen ++ [j]) (List.range ks.length) hn fun i hi => by
    rcases List.mem_append.1 hi with hi | hi
    · exact List.mem_range.2 (h.lt i hi)
    · obtain rfl := List.mem_singleton.1 hi
      exact List.mem_range.2 hl
  simp at this
  omega
end Go.AX

namespace Go.AX
open Go Go.Proofs Go.RowKit
theorem values4_any (ms : List Mk) (hl : ms.length ≤ 42) (hi10 : In10 (scs ms)) (hk : ∀ m ∈ ms, m.1.length ≤ 1000) (q : (List Str × List D) × (List Str × List D)) (hq : ShOk ms q) : Does Tryz.prog 82 [shV ms q, I 4] [] (.d (.map (q.1.1.map D.str) (q.1.1.map fun k => vlD (wnV ms k)))) [] := by
  have hln := hq.len (by omega)
  have h1 := keys_any q.1.1 q.1.2 hln (keysLen hq hk) hq.rise
  have htb := table_any ms hl hk q hq
  have hpe : q.1.1 = pps ms := hq.eqP
  refine Does.of_AW (n := 140) Tryz.func82 rfl rfl rfl fun cx hcx => ?_
  repeat' (first | ((first | refine AW.sreg rfl fun K hK => ?_ | refine run_call _ _ _ ((h1).pure rfl rfl _ _) rfl rfl (dstOk_of rfl) rfl rfl rfl ?_ | refine run_call _ _ _ ((htb).pure rfl rfl _ _) rfl rfl (dstOk_of rfl) rfl rfl rfl ?_); simp only [go_sem, Nat.reduceAdd, Nat.reduceMul, Int.reduceToNat, Nat.reduceLT, Nat.reduceLeDiff, Nat.le_refl, Nat.reduceEqDiff, ↓reduceIte, beq_self_eq_true, bne_self_eq_false, Int.reduceBEq, Int.reduceBNe, or_self, true_or, or_true, Option.map_some, Option.map_none, List.length_map]) | (refine AW.seq_k fun K hK => ?_) | (refine AW.block ?_) | (refine AW.condT rfl (by first | rfl | (simp; omega) | (simp [*]; done) | fail) ?_) | (refine AW.condF rfl (by first | rfl | (simp; omega) | (simp [*]; done) | fail) ?_) | (refine hK _ ?_; clear hK K))
  refine AW.loopF (ι := Nat) [5, 15, 123, 124] (fun p => [(125, I p)]) (fun p => [(64, some (O.map ((q.1.1.take p).map D.str) (dv ((q.1.1.take p).map fun k => vlD (wnV ms k)))))]) 19 (fun p => p ≤ q.1.1.length) (fun p => q.1.1.length - p) 0 (Nat.zero_le _) (Weak.auto hcx rfl rfl (Nat.le_of_ble_eq_true rfl) (by simp [go_sem, gL, kL, renOf, V.obj, lk, Nat.blt, Nat.ble, List.map_append, dv_push, List.take_zero, dvz, List.map_nil]) (by simp [go_sem, gL, kL, renOf, V.obj, lk, Nat.blt, Nat.ble, List.map_append, dv_push, List.take_zero, dvz, List.map_nil]) (by first | exact pk0 | exact pk1 ⟨_, rfl⟩ | exact pk2 ⟨_, rfl⟩ ⟨_, rfl⟩ | exact pk3 ⟨_, rfl⟩ ⟨_, rfl⟩ ⟨_, rfl⟩ | exact pk4 ⟨_, rfl⟩ ⟨_, rfl⟩ ⟨_, rfl⟩ ⟨_, rfl⟩) (by simp [go_sem, gL, kL, lk, renOf, V.obj, Nat.blt, Nat.ble, List.take_zero, dvz, List.map_nil])) ?_; simp only [St.at_nil, St.at_cons, lk, Nat.reduceEqDiff, ↓reduceIte, Option.getD_some, Option.getD_none, List.cons_append, List.nil_append, List.append_nil]
  intro j e1
  by_cases hj : j < q.1.1.length
  · obtain ⟨p, hp, hpm, -⟩ := get_some hj
    have hget : (q.1.1.map D.str)[j]? = some (.str p) := by simp only [List.getElem?_map, hp, Option.map_some]
    obtain ⟨z, hz1, hz2⟩ := hq.at hpm
    have hpos := hq.pos hpm
    have hgl := gP_len ms p
    have hsn := take_snoc hp
    have hnk : fndK (.str p) ((q.1.1.take j).map D.str) = some none := fnd_no fun hm => by
      have hnd := hq.pa.nd
      rw [← List.take_append_drop (j + 1) q.1.1, hsn] at hnd
      have := (List.nodup_append.1 (List.nodup_append.1 hnd).1).2.2 p hm p (by simp)
      exact this rfl
    have hbl := balance_any ms q.1.1 (by omega) j p hp
    have hwh := whole_any (blF ms q.1.1 p)
    repeat' (first | ((first | refine AW.sreg rfl fun K hK => ?_ | refine AW.reg rfl ?_ | refine run_call _ _ _ ((hbl).pure rfl rfl _ _) rfl rfl (dstOk_of rfl) rfl rfl rfl ?_ | refine run_call _ _ _ ((hwh).pure rfl rfl _ _) rfl rfl (dstOk_of rfl) rfl rfl rfl ?_ | refine run_call _ _ _ ((zero_ok).pure rfl rfl _ _) rfl rfl (dstOk_of rfl) rfl rfl rfl ?_); simp only [go_sem, Nat.reduceAdd, Nat.reduceMul, Int.reduceToNat, Nat.reduceLT, Nat.reduceLeDiff, Nat.le_refl, Nat.reduceEqDiff, ↓reduceIte, beq_self_eq_true, bne_self_eq_false, Int.reduceBEq, Int.reduceBNe, or_self, true_or, or_true, Option.map_some, Option.map_none, List.length_map, hget, hnk]) | (refine AW.seq_k fun K hK => ?_) | (refine AW.block ?_) | (refine AW.skip ?_; simp only [Then, InBlock]) | (refine AW.condT rfl (by first | rfl | (simp; omega) | (simp [*]; done) | fail) ?_) | (refine hK _ ?_; clear hK K) | (with_reducible refine And.intro ?_ ?_; first | omega | assumption | (focus (decide)) | (focus (simp; done)) | (focus (simp; omega)) | (focus (constructor <;> omega)) | fail))
    exact ⟨j + 1, hj, by omega, (Weak.auto hcx rfl rfl (Nat.le_of_ble_eq_true rfl) (by simp [go_sem, gL, kL, renOf, V.obj, lk, Nat.blt, Nat.ble, List.map_append, dv_push, hsn, wnV, ← hpe]) (by simp [go_sem, gL, kL, renOf, V.obj, lk, Nat.blt, Nat.ble, List.map_append, dv_push, hsn, wnV, ← hpe]) (by first | exact pk0 | exact pk1 ⟨_, rfl⟩ | exact pk2 ⟨_, rfl⟩ ⟨_, rfl⟩ | exact pk3 ⟨_, rfl⟩ ⟨_, rfl⟩ ⟨_, rfl⟩ | exact pk4 ⟨_, rfl⟩ ⟨_, rfl⟩ ⟨_, rfl⟩ ⟨_, rfl⟩) (by simp [go_sem, gL, kL, lk, renOf, V.obj, Nat.blt, Nat.ble, hsn, wnV, ← hpe]))⟩
  · obtain rfl : j = q.1.1.length := by omega
    rw [List.take_length]
    repeat' (first | (refine AW.sreg rfl fun K hK => ?_; simp only [go_sem, Nat.reduceAdd, Nat.reduceMul, Int.reduceToNat, Nat.reduceLT, Nat.reduceLeDiff, Nat.le_refl, Nat.reduceEqDiff, ↓reduceIte, beq_self_eq_true, bne_self_eq_false, Int.reduceBEq, Int.reduceBNe, or_self, true_or, or_true, Option.map_some, Option.map_none, List.length_map]) | (refine AW.seq_k fun K hK => ?_) | (refine AW.exit ?_; simp only [go_sem, ↓reduceIte]) | (refine AW.condF rfl (by first | rfl | (simp; omega) | (simp [*]; done) | fail) ?_) | (refine hK _ ?_; clear hK K) | (clear hK K; refine hK _ ?_; clear hK K))
    exact AW.ret (Fin.data rfl (by simp [go_sem, toDL_dvF]) rfl)
end Go.AX

namespace Go.AX
open Go Go.Proofs Go.RowKit
/-- Marks that are right stay so if some are left out. -/
theorem good_lt {ms : List Mk} (g : GoodM ms) : ∀ (d i : Nat) (x y : Mk), ms[i]? = some x → ms[i + d + 1]? = some y → ltP (x.1, x.2.1) (y.1, y.2.1) = true
  | 0, i, x, y, hx, hy => by
    have h := g.ord i x y hx hy
    rw [← cpP_lt, decide_eq_true h]
  | d + 1, i, x, y, hx, hy => by
    obtain ⟨z, hz, -, -⟩ := get_some (l := ms) (i := i + d + 1) (by have := get_lt hy; omega)
    have h1 := good_lt g d i x z hx hz
    have h2 := g.ord (i + d + 1) z y hz (by rw [← hy]; congr 1)
    have h3 : ltP (z.1, z.2.1) (y.1, y.2.1) = true := by rw [← cpP_lt, decide_eq_true h2]
    exact ltP_trans h1 h3
theorem good_pw {ms : List Mk} (g : GoodM ms) : ms.Pairwise (fun x y => ltP (x.1, x.2.1) (y.1, y.2.1) = true) := by
  rw [List.pairwise_iff_getElem]
  intro i j hi hj hij
  exact good_lt g (j - i - 1) i _ _ (List.getElem?_eq_getElem hi) (by rw [show i + (j - i - 1) + 1 = j by omega]; exact List.getElem?_eq_getElem hj)
theorem cnt_all {ms : List Mk} (g : GoodM ms) (p : Str) : ∀ n, n ≤ ms.length → cnt (ms.take n) p ≤ 12
  | 0, _ => by simp [cnt]
  | n + 1, h => by
    obtain ⟨x, hx, -, -⟩ := get_some (l := ms) (i := n) (by omega)
    have ih := cnt_all g p n (by omega)
    rw [take_snoc hx, cnt_snoc]
    split
    · rename_i e
      have := g.cnt n x hx
      rw [e] at this
      exact this
    · omega
theorem GoodM.filter {ms : List Mk} (g : GoodM ms) (f : Mk → Bool) : GoodM (ms.filter f) where
  keys := fun m hm => g.keys m (List.mem_filter.1 hm).1
  sc := fun m hm => g.sc m (List.mem_filter.1 hm).1
  ord := fun i x y hx hy => by
    have hp := (good_pw g).filter f
    rw [List.pairwise_iff_getElem] at hp
    have h1 := get_lt hx
    have h2 := get_lt hy
    have h3 := hp i (i + 1) h1 h2 (by omega)
    rw [List.getElem?_eq_getElem h1] at hx
    rw [List.getElem?_eq_getElem h2] at hy
    cases hx
    cases hy
    rw [← cpP_lt] at h3
    simpa using h3
  cnt := fun n m hm => by
    have h0 := cnt_all g m.1 ms.length (Nat.le_refl _)
    rw [List.take_length] at h0
    have h1 : Go.AX.cnt ((ms.filter f).take (n + 1)) m.1 ≤ Go.AX.cnt ms m.1 := by
      have : ((ms.filter f).take (n + 1)).Sublist ms := (List.take_sublist _ _).trans List.filter_sublist
      have := (this.filter fun x => x.1 == m.1).length_le
      unfold Go.AX.cnt
      omega
    rw [take_snoc hm, cnt_snoc, if_pos rfl] at h1
    omega
theorem MkO.filter {ms : List Mk} {H L : List Str} (h : MkO ms H L) (f : Mk → Bool) : MkO (ms.filter f) H L where
  len := Nat.le_trans (List.length_filter_le _ _) h.len
  good := h.good.filter f
  hH := h.hH
  pe := fun m hm => h.pe m (List.mem_filter.1 hm).1
  sh := fun m hm => h.sh m (List.mem_filter.1 hm).1
  hL := h.hL
  pl := fun m hm => h.pl m (List.mem_filter.1 hm).1
theorem papersOf_any (ms : List Mk) (H L : List Str) (h : MkO ms H L) : DoesI Tryz.prog 20 [.d (.sl (ms.map mkD))] [] (ShOk ms) (fun q => .tup [.d (.sl (q.1.1.map D.str)), I 0]) (fun _ => []) := by
  have h1 := checkedO ms H L h
  have hl := h.len
  have h2 := fun q (hq : ShOk ms q) => keys_any q.1.1 q.1.2 (hq.len (by omega)) (keysLen hq fun m hm => (h.sh m hm).1) hq.rise
  refine DoesI.of_AW (n := 19) Tryz.func20 rfl rfl rfl fun cx hcx => ?_
  repeat' (first | ((first | refine AW.sreg rfl fun K hK => ?_ | refine run_call _ _ _ ((h2 _ hq).pure rfl rfl _ _) rfl rfl (dstOk_of rfl) rfl rfl rfl ?_); simp only [go_sem, Nat.reduceAdd, Nat.reduceMul, Int.reduceToNat, Nat.reduceLT, Nat.reduceLeDiff, Nat.le_refl, Nat.reduceEqDiff, ↓reduceIte, beq_self_eq_true, bne_self_eq_false, Int.reduceBEq, Int.reduceBNe, or_self, true_or, or_true, Option.map_some, Option.map_none, Nat.reduceSub, Nat.add_zero]) | (refine AW.seq_k fun K hK => ?_) | (refine AW.skip ?_; simp only [Then, InBlock]) | (refine AW.condF rfl (by first | rfl | (simp; omega) | (simp [*]; done) | fail) ?_) | (refine hK _ ?_; clear hK K) | (refine run_callI _ _ _ ((h1).pure rfl (fun _ => rfl) _ _) rfl rfl (dstOk_of rfl) rfl rfl rfl ?_; rintro q hq; (try dsimp only at q); (try dsimp only at hq); simp only [go_sem, Nat.reduceAdd, Nat.reduceMul, Int.reduceToNat, Nat.reduceLT, Nat.reduceLeDiff, Nat.le_refl, Nat.reduceEqDiff, ↓reduceIte, beq_self_eq_true, bne_self_eq_false, Int.reduceBEq, Int.reduceBNe, or_self, true_or, or_true, Option.map_some, Option.map_none, Nat.reduceSub, Nat.add_zero]))
  exact AW.ret ⟨q, hq, Fin.data rfl (by simp [go_sem]) rfl⟩
end Go.AX

namespace Go.AX
open Go Go.Proofs Go.RowKit
section
variable {P : Program} {cx : Cx}
end
end Go.AX

namespace Go.AX
open Go Go.Proofs Go.RowKit
/-- Places of a map that were seen. -/
structure Sd (n : Nat) (seen : List Nat) : Prop where
  nd : seen.Nodup
  lt : ∀ j ∈ seen, j < n
theorem Sd.nil (n : Nat) : Sd n [] := ⟨List.nodup_nil, by simp⟩
theorem Sd.add {n : Nat} {seen : List Nat} (h : Sd n seen) {j : Nat} (hj : j ∉ seen) (hl : j < n) : Sd n (seen ++ [j]) where
  nd := by rw [List.nodup_append]; exact ⟨h.nd, by simp, fun a ha b hb => by simp at hb; subst hb; rintro rfl; exact hj ha⟩
  lt := fun i hi => by
    rcases List.mem_append.1 hi with hi | hi
    · exact h.lt i hi
    · obtain rfl := List.mem_singleton.1 hi
      exact hl
theorem Sd.len {n : Nat} {seen : List Nat} (h : Sd n seen) {j : Nat} (hj : j ∉ seen) (hl : j < n) : seen.length < n := by
  have := nodup_subN (seen ++ [j]) (List.range n) (h.add hj hl).nd fun i hi => List.mem_range.2 ((h.add hj hl).lt i hi)
  simp at this
  omega
end Go.AX
