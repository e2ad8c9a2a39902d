/- Draws as functions; pairs drawn; a map of what is open. -/
import Derived.Test.YtgjmekhidpldnaaGreatDoorRB
import Derived.Test.YtgjmekhidpldnaaGreatDoorAx36
import Derived.Test.YtgjmekhidpldnaaGreatDoorRA
set_option linter.unusedSimpArgs false
set_option linter.unusedVariables false
set_option linter.unnecessarySimpa false
set_option maxRecDepth 100000
set_option maxHeartbeats 4000000
set_option maxRecDepth 1000000
namespace Go.AX
open Go Go.Proofs Go.RowKit
def pk (l : List Int) (a : Int) (ns : List Int) : Int := ns.getD (nextV l a ns.length).toNat 0
def og (l : List Int) (a : Int) (ss : List Str) : Str := ss.getD (nextV l a ss.length).toNat []
def fl (l : List Int) (a n : Int) : Bool := nextV l a n == 0
theorem pk_mem (l : List Int) (a : Int) (ns : List Int) (h : ns ≠ []) : pk l a ns ∈ ns := pick_mem l a ns h
theorem og_mem (l : List Int) (a : Int) (ns : List Str) (h : ns ≠ []) : og l a ns ∈ ns := one_mem l a ns h
theorem pick_f (l : List Int) (hl2 : l.length ≤ 9223372036854775807) (at_ : Int) (ha : 0 ≤ at_) (hb : at_ ≤ 1000000) (ns : List Int) (hs : ns ≠ []) (hs2 : ns.length ≤ 1000000) :
    Does Tryz.prog 22 [.ptr 0 0, .slr 1 0 ns.length] [Stm l at_, IV ns] (I (pk l at_ ns)) [Stm l (at_ + 1), IV ns] := pick_any l hl2 at_ ha hb ns hs hs2
theorem one_f (l : List Int) (hl2 : l.length ≤ 9223372036854775807) (at_ : Int) (ha : 0 ≤ at_) (hb : at_ ≤ 1000000) (ns : List Str) (hs : ns ≠ []) (hs2 : ns.length ≤ 1000000) :
    Does Tryz.prog 23 [.ptr 0 0, .slr 1 0 ns.length] [Stm l at_, SV ns] (S (og l at_ ns)) [Stm l (at_ + 1), SV ns] := one10_any l hl2 at_ ha hb ns hs hs2
theorem flip_f (l : List Int) (hl2 : l.length ≤ 9223372036854775807) (at_ n : Int) (h1 : 1 ≤ n) (h2 : n ≤ 9223372036854775807) (ha : 0 ≤ at_) (hb : at_ ≤ 1000000) :
    Does Tryz.prog 24 [.ptr 0 0, I n] [Stm l at_] (B (fl l at_ n)) [Stm l (at_ + 1)] := flip_any l hl2 at_ n h1 h2 ha hb
def rg (l : List Int) (a lo hi : Int) : Int := lo + nextV l a (hi - lo + 1)
theorem rg_range (l : List Int) (a lo hi : Int) (h : lo ≤ hi) : lo ≤ rg l a lo hi ∧ rg l a lo hi ≤ hi := by
  have := nextV_range l a (hi - lo + 1) (by omega)
  unfold rg
  omega
theorem range_f (l : List Int) (hl2 : l.length ≤ 9223372036854775807) (at_ lo hi : Int) (h1 : lo ≤ hi) (h2 : -1000000000 ≤ lo) (h3 : hi ≤ 1000000000) (ha : 0 ≤ at_) (hb : at_ ≤ 1000000) :
    Does Tryz.prog 7 [.ptr 0 0, I lo, I hi] [Stm l at_] (I (rg l at_ lo hi)) [Stm l (at_ + 1)] := range_any l hl2 at_ lo hi h1 h2 h3 ha hb
theorem dv_takeP (q : List D) (r : List D) : (dv (q ++ r)).take q.length = dv q := by simp [dv]
theorem frz_slrP {hv : Nat → Option O} {keep : Nat → Bool} {id e s n : Nat} {xs ys : List D} (hk : keep id = false) (h : hv id = some (.vec e s (dv (xs ++ ys)))) (hn : n = xs.length) : frz hv keep (.slr id 0 n) = .d (.sl xs) := by
  subst hn
  have hle : xs.length ≤ xs.length + ys.length := Nat.le_add_right _ _
  have e : toD hv keep 8 (.slr id 0 xs.length) = some (.sl xs) := by
    rw [toD]
    simp only [hk, Bool.false_eq_true, if_false, h, dv_length, List.length_append, Nat.zero_add, hle, if_true, List.drop_zero]
    rw [dv_takeP, show toDL (toD hv keep 7) (dv xs) = some xs from toDL_dv hv keep 6 xs]
  simp only [frz, hk, Bool.false_eq_true, if_false, e]
theorem toDL_dvF {F : V → Option D} (h : ∀ x : D, F (.d x) = some x) : ∀ xs : List D, toDL F (dv xs) = some xs
  | [] => rfl
  | x :: xs => by
    have := toDL_dvF h xs
    simp only [dv] at this
    simp only [dv, List.map_cons, toDL, this, h]
/-! pairs, drawn -/
def p10 (l : List Int) (papers people : List Str) (a : Int) : Nat → List Pr × Int
  | 0 => ([], a)
  | n + 1 => ((p10 l papers people a n).1 ++ [(og l (p10 l papers people a n).2 papers, og l ((p10 l papers people a n).2 + 1) people)], (p10 l papers people a n).2 + 1 + 1)
theorem p10_len (l : List Int) (papers people : List Str) (a : Int) : ∀ n, (p10 l papers people a n).1.length = n
  | 0 => rfl
  | n + 1 => by simp [p10, p10_len l papers people a n]
theorem p10_at (l : List Int) (papers people : List Str) (a : Int) : ∀ n : Nat, (p10 l papers people a n).2 = a + 2 * n
  | 0 => by simp [p10]
  | n + 1 => by simp only [p10, p10_at l papers people a n]; omega
theorem p10_mem (l : List Int) (papers people : List Str) (hp : papers ≠ []) (hq : people ≠ []) (a : Int) : ∀ n, ∀ p ∈ (p10 l papers people a n).1, p.1 ∈ papers ∧ p.2 ∈ people
  | 0, p, h => by simp [p10] at h
  | n + 1, p, h => by
    simp only [p10] at h
    rcases List.mem_append.1 h with h | h
    · exact p10_mem l papers people hp hq a n p h
    · obtain rfl := List.mem_singleton.1 h
      exact ⟨og_mem l _ _ hp, og_mem l _ _ hq⟩
def prs10 (l : List Int) (papers people : List Str) (a : Int) (n : Nat) : List Pr := compactM (isort ltP (p10 l papers people a n).1)
theorem prs10_mem (l : List Int) (papers people : List Str) (hp : papers ≠ []) (hq : people ≠ []) (a : Int) (n : Nat) : ∀ p ∈ prs10 l papers people a n, p.1 ∈ papers ∧ p.2 ∈ people := fun p h =>
  p10_mem l papers people hp hq a n p ((isort_perm ltP _).mem_iff.1 ((compactM_mem _ _).1 h))
theorem prs10_len (l : List Int) (papers people : List Str) (a : Int) (n : Nat) : (prs10 l papers people a n).length ≤ n := by
  have h1 := compactM_len (isort ltP (p10 l papers people a n).1)
  have h2 := (isort_perm ltP (p10 l papers people a n).1).length_eq
  rw [p10_len] at h2
  unfold prs10
  omega
theorem pairs10_f (l : List Int) (hl2 : l.length ≤ 9223372036854775807) (a : Int) (ha : 0 ≤ a) (hb : a ≤ 100000) (papers people : List Str) (hp0 : papers ≠ []) (hq0 : people ≠ []) (hp : papers.length ≤ 1000) (hq : people.length ≤ 1000) (many : Nat) (hm : many ≤ 12) :
    Does Tryz.prog 20 [.ptr 0 0, .slr 1 0 papers.length, .slr 2 0 people.length, I many] [Stm l a, SV papers, SV people]
      (.d (.sl ((prs10 l papers people a many).map prD))) [Stm l (a + 2 * many), SV papers, SV people] := by
  have hp1 : 0 < papers.length := List.length_pos_iff.2 hp0
  have hq1 : 0 < people.length := List.length_pos_iff.2 hq0
  refine Does.of_AW (n := 44) Tryz.func20 rfl rfl rfl fun cx hcx => ?_
  repeat' (first | (refine AW.sreg rfl fun K hK => ?_; simp only [go_sem, Nat.reduceAdd, Nat.reduceMul, Int.reduceToNat, Nat.reduceLT, Nat.reduceLeDiff, Nat.le_refl, Nat.reduceEqDiff, ↓reduceIte, beq_self_eq_true, bne_self_eq_false, Int.reduceBEq, Int.reduceBNe, or_self, true_or, or_true, Option.map_some, Option.map_none]) | (refine AW.seq_k fun K hK => ?_) | (refine AW.block ?_) | (refine hK _ ?_; clear hK K))
  refine AW.weak (Weak.nil 9 47 2 rfl) ?_
  refine AW.loopF (ι := Nat) [0, 1, 2, 10] (fun p => [(9, .slr 448 0 p), (11, I p)]) (fun p => [(0, some (Stm l (p10 l papers people a p).2)), (1, some (SV papers)), (2, some (SV people)), (448, some (O.vec 47 2 (dv ((p10 l papers people a p).1.map prD))))]) 8 (fun p => p ≤ many) (fun p => many - p) 0 (Nat.zero_le _) (Weak.auto hcx rfl rfl (Nat.le_of_ble_eq_true rfl) (by simp [go_sem, gL, kL, renOf, V.obj, lk, Nat.blt, Nat.ble, List.map_append, dv_push, p10]) (by simp [go_sem, gL, kL, renOf, V.obj, lk, Nat.blt, Nat.ble, List.map_append, dv_push, p10]) (by first | (intro i hi; exact absurd hi (Nat.not_lt_zero _)) | (intro i0 hi0; match i0, hi0 with | 0, _ => exact ⟨_, rfl⟩ | n0+1, h0 => exact absurd h0 (Nat.not_lt.2 (Nat.le_add_left 1 n0))) | (intro i0 hi0; match i0, hi0 with | 0, _ => exact ⟨_, rfl⟩ | 1, _ => exact ⟨_, rfl⟩ | n0+2, h0 => exact absurd h0 (Nat.not_lt.2 (Nat.le_add_left 2 n0))) | (intro i0 hi0; match i0, hi0 with | 0, _ => exact ⟨_, rfl⟩ | 1, _ => exact ⟨_, rfl⟩ | 2, _ => exact ⟨_, rfl⟩ | n0+3, h0 => exact absurd h0 (Nat.not_lt.2 (Nat.le_add_left 3 n0))) | (intro i0 hi0; match i0, hi0 with | 0, _ => exact ⟨_, rfl⟩ | 1, _ => exact ⟨_, rfl⟩ | 2, _ => exact ⟨_, rfl⟩ | 3, _ => exact ⟨_, rfl⟩ | n0+4, h0 => exact absurd h0 (Nat.not_lt.2 (Nat.le_add_left 4 n0)))) (by simp [go_sem, gL, kL, lk, renOf, V.obj, Nat.blt, Nat.ble, p10])) ?_; simp only [St.at_nil, St.at_cons, lk, Nat.reduceEqDiff, ↓reduceIte, Option.getD_some, Option.getD_none, List.cons_append, List.nil_append, List.append_nil]
  intro i h1
  have hat := p10_at l papers people a i
  have hln := p10_len l papers people a i
  by_cases hi : i < many
  · have hst : p10 l papers people a (i + 1) = ((p10 l papers people a i).1 ++ [(og l (p10 l papers people a i).2 papers, og l ((p10 l papers people a i).2 + 1) people)], (p10 l papers people a i).2 + 1 + 1) := rfl
    generalize p10 l papers people a i = q at *
    obtain ⟨q1, q2⟩ := q
    simp only at hat hln hst ⊢
    have r1 := nextV_range l q2 papers.length (by omega)
    have r2 := nextV_range l (q2 + 1) people.length (by omega)
    have n1 := next_any l hl2 q2 papers.length (by omega) (by omega) (by omega) (by omega)
    have n2 := next_any l hl2 (q2 + 1) people.length (by omega) (by omega) (by omega) (by omega)
    have g1 : papers[(nextV l q2 papers.length).toNat]? = some (og l q2 papers) := by
      unfold og
      rw [List.getElem?_eq_getElem (by omega), List.getD_eq_getElem?_getD, List.getElem?_eq_getElem (by omega)]
      rfl
    have g2 : people[(nextV l (q2 + 1) people.length).toNat]? = some (og l (q2 + 1) people) := by
      unfold og
      rw [List.getElem?_eq_getElem (by omega), List.getD_eq_getElem?_getD, List.getElem?_eq_getElem (by omega)]
      rfl
    generalize og l q2 papers = x1 at *
    generalize og l (q2 + 1) people = x2 at *
    generalize nextV l q2 papers.length = v1 at *
    generalize nextV l (q2 + 1) people.length = v2 at *
    have hg1 : (dv (papers.map D.str))[0 + v1.toNat]? = some (.d (.str x1)) := by simp only [dv, Nat.zero_add, List.getElem?_map, g1, Option.map_some]
    have hg2 : (dv (people.map D.str))[0 + v2.toNat]? = some (.d (.str x2)) := by simp only [dv, Nat.zero_add, List.getElem?_map, g2, Option.map_some]
    have htl : List.take i (dv (q1.map prD)) = dv (q1.map prD) := List.take_of_length_le (by simp [dv, hln])
    repeat' (first | ((first | refine AW.sreg rfl fun K hK => ?_ | refine AW.reg rfl ?_ | refine AW.regD hmix rfl ?_ | refine runT_call _ _ [0] (fun hv hag => (n1).objs [0] ⟨((hag 0 (by simp)).trans rfl), trivial⟩ rfl (by decide) (by simp [go_sem, renOs]) (by simp) (by simp) (by simp [go_sem]) (by simp [go_sem]) (by simp [go_sem]) (by simp [go_sem])) rfl rfl (dstOk_of rfl) rfl rfl ?_ | refine runT_call _ _ [0] (fun hv hag => (n2).objs [0] ⟨((hag 0 (by simp)).trans rfl), trivial⟩ rfl (by decide) (by simp [go_sem, renOs]) (by simp) (by simp) (by simp [go_sem]) (by simp [go_sem]) (by simp [go_sem]) (by simp [go_sem])) rfl rfl (dstOk_of rfl) rfl rfl ?_); simp only [go_sem, Nat.reduceAdd, Nat.reduceMul, Int.reduceToNat, Nat.reduceLT, Nat.reduceLeDiff, Nat.le_refl, Nat.reduceEqDiff, ↓reduceIte, beq_self_eq_true, bne_self_eq_false, Int.reduceBEq, Int.reduceBNe, or_self, true_or, or_true, Option.map_some, Option.map_none, hg1, hg2, hln, List.length_map, dv_length, htl]) | (refine AW.seq_k fun K hK => ?_) | (refine AW.block ?_) | (refine AW.skip ?_; simp only [Then, InBlock]) | (refine AW.condT rfl (by first | rfl | (simp; omega) | (simp [*]; done) | fail) ?_) | (refine hK _ ?_; clear hK K) | (refine stepB_split (fun h => ?_) (fun h => ?_) <;> (have hb0 := h) <;> (try simp only [Bool.not_eq_true', Bool.not_eq_false'] at hb0) <;> (try simp only [decide_eq_true_eq, decide_eq_false_iff_not, Bool.not_eq_true', Bool.not_eq_false', Bool.not_eq_eq_eq_not, Bool.not_true, Bool.not_false, beq_iff_eq, bne_iff_ne, beq_eq_false_iff_ne, ne_eq, Bool.and_eq_true, Bool.or_eq_true, Bool.or_eq_false_iff] at h) <;> simp only [go_sem, Nat.reduceAdd, Nat.reduceMul, Int.reduceToNat, Nat.reduceLT, Nat.reduceLeDiff, Nat.le_refl, Nat.reduceEqDiff, ↓reduceIte, beq_self_eq_true, bne_self_eq_false, Int.reduceBEq, Int.reduceBNe, or_self, true_or, or_true, Option.map_some, Option.map_none, hb0, h, decide_true, decide_false, hg1, hg2, hln, List.length_map, dv_length, htl] <;> (try clear hb0)) | (with_reducible refine And.intro (?_ : regOk _ _ = true) ?_; kernel_rfl) | (with_reducible refine And.intro ?_ ?_; first | omega | assumption | (focus (decide)) | (focus (simp; done)) | (focus (simp; omega)) | (focus (constructor <;> omega)) | fail) | (exfalso; omega))
    exact ⟨i + 1, hi, by omega, (Weak.auto hcx rfl rfl (Nat.le_of_ble_eq_true rfl) (by simp [go_sem, gL, kL, renOf, V.obj, lk, Nat.blt, Nat.ble, List.map_append, dv_push, hst]) (by simp [go_sem, gL, kL, renOf, V.obj, lk, Nat.blt, Nat.ble, List.map_append, dv_push, hst]) (by first | (intro i hi; exact absurd hi (Nat.not_lt_zero _)) | (intro i0 hi0; match i0, hi0 with | 0, _ => exact ⟨_, rfl⟩ | n0+1, h0 => exact absurd h0 (Nat.not_lt.2 (Nat.le_add_left 1 n0))) | (intro i0 hi0; match i0, hi0 with | 0, _ => exact ⟨_, rfl⟩ | 1, _ => exact ⟨_, rfl⟩ | n0+2, h0 => exact absurd h0 (Nat.not_lt.2 (Nat.le_add_left 2 n0))) | (intro i0 hi0; match i0, hi0 with | 0, _ => exact ⟨_, rfl⟩ | 1, _ => exact ⟨_, rfl⟩ | 2, _ => exact ⟨_, rfl⟩ | n0+3, h0 => exact absurd h0 (Nat.not_lt.2 (Nat.le_add_left 3 n0))) | (intro i0 hi0; match i0, hi0 with | 0, _ => exact ⟨_, rfl⟩ | 1, _ => exact ⟨_, rfl⟩ | 2, _ => exact ⟨_, rfl⟩ | 3, _ => exact ⟨_, rfl⟩ | n0+4, h0 => exact absurd h0 (Nat.not_lt.2 (Nat.le_add_left 4 n0)))) (by simp [go_sem, gL, kL, lk, renOf, V.obj, Nat.blt, Nat.ble, hst]))⟩
  · obtain rfl : i = many := by omega
    have hperm := isort_perm ltP (p10 l papers people a i).1
    have hs := sortFunc_Pr ltP cpP (fun x y => (cpP_lt x y).symm) 50 pairOrder_any (p10 l papers people a i).1 (by omega)
    have hc := compact_Pr (isort ltP (p10 l papers people a i).1) (by rw [hperm.length_eq]; omega)
    rw [hperm.length_eq] at hc
    have hcl := compactM_len (isort ltP (p10 l papers people a i).1)
    rw [hperm.length_eq] at hcl
    rw [hln] at hs hc hcl
    repeat' (first | ((first | refine AW.sreg rfl fun K hK => ?_ | refine run_call _ _ _ ((hs).objs [_] ⟨rfl, trivial⟩ rfl (by decide) (by simp [go_sem, renOs]) (by simp) (by simp) (by simp [go_sem]) (by simp [go_sem]) (by simp [go_sem]) (by simp [go_sem])) rfl rfl (dstOk_of rfl) rfl rfl rfl ?_ | refine run_call _ _ _ ((hc).objs [_] ⟨rfl, trivial⟩ rfl (by decide) (by simp [go_sem, renOs]) (by simp) (by simp) (by simp [go_sem]) (by simp [go_sem]) (by simp [go_sem]) (by simp [go_sem])) rfl rfl (dstOk_of rfl) rfl rfl rfl ?_); simp only [go_sem, Nat.reduceAdd, Nat.reduceMul, Int.reduceToNat, Nat.reduceLT, Nat.reduceLeDiff, Nat.le_refl, Nat.reduceEqDiff, ↓reduceIte, beq_self_eq_true, bne_self_eq_false, Int.reduceBEq, Int.reduceBNe, or_self, true_or, or_true, Option.map_some, Option.map_none]) | (refine AW.seq_k fun K hK => ?_) | (refine AW.exit ?_; simp only [go_sem, ↓reduceIte]) | (refine AW.condF rfl (by first | rfl | (simp; omega) | (simp [*]; done) | fail) ?_) | (refine hK _ ?_; clear hK K) | (clear hK K; refine hK _ ?_; clear hK K))
    exact AW.ret (Fin.objs [0, 1, 2] rfl (frz_slrP (e := 47) (s := 2) (xs := (prs10 l papers people a i).map prD) (ys := List.replicate (i - (prs10 l papers people a i).length) (prD ([], []))) rfl rfl (by simp [prs10])) ⟨⟨_, rfl, by simp [go_sem, inI, gI, hat]⟩, ⟨_, rfl, by simp [go_sem, inI, gI]⟩, ⟨_, rfl, by simp [go_sem, inI, gI]⟩, trivial⟩ (by simp) rfl (by simp [go_sem]) (by simp [go_sem]) rfl)
/-! a map of what is open -/
abbrev OM := List (Str × Bool)
def omI (m : OM) (k : Str) : Option Nat := (m.map (·.1)).findIdx? (fun x => k == x)
def omG (m : OM) (k : Str) : Bool := match omI m k with
  | some j => (m.getD j ([], false)).2
  | none => false
def omP (m : OM) (k : Str) (v : Bool) : OM := match omI m k with
  | some j => m.set j (k, v)
  | none => m ++ [(k, v)]
theorem fnd_om (m : OM) (k : Str) : fndK (.str k) (m.map fun q => D.str q.1) = some (omI m k) := by
  have : (m.map fun q => D.str q.1) = (m.map (·.1)).map D.str := by simp
  rw [this, fndK_str]
  rfl
theorem omI_some {m : OM} {k : Str} {j : Nat} (h : omI m k = some j) : ∃ v, m[j]? = some (k, v) ∧ omG m k = v := by
  have h2 := h
  unfold omI at h
  rw [List.findIdx?_eq_some_iff_getElem] at h
  obtain ⟨hj, hk, -⟩ := h
  simp only [List.length_map] at hj
  have hk : k = (m[j]).1 := by simpa using hk
  refine ⟨(m[j]).2, ?_, ?_⟩
  · rw [List.getElem?_eq_getElem hj, hk]
  · unfold omG
    rw [h2]
    simp [List.getD_eq_getElem?_getD, List.getElem?_eq_getElem hj]
theorem omI_new {m : OM} {k : Str} (v : Bool) (h : omI m k = none) : omI (m ++ [(k, v)]) k = some m.length := by
  unfold omI at *
  rw [List.map_append, List.findIdx?_append, h]
  simp
theorem omP_keys {m : OM} {k : Str} {j : Nat} {v : Bool} (h : m[j]? = some (k, v)) : (m.map fun q => D.str q.1).set j (.str k) = m.map fun q => D.str q.1 := by
  refine List.ext_getElem? fun i => ?_
  rw [List.getElem?_set]
  split
  · rename_i e
    subst e
    have hl : j < m.length := by
      rcases Nat.lt_or_ge j m.length with h' | h'
      · exact h'
      · simp [List.getElem?_eq_none h'] at h
    rw [List.getElem?_eq_getElem hl] at h
    have h' : m[j] = (k, v) := by simpa using h
    simp [hl, h']
  · rfl
theorem omP_vals (m : OM) (k : Str) (j : Nat) (v : Bool) : (dv (m.map fun q => D.bool q.2)).set j (.d (.bool v)) = dv ((m.set j (k, v)).map fun q => D.bool q.2) := by simp [dv, List.map_set]
theorem omP_keys2 {m : OM} {k : Str} {j : Nat} {v v2 : Bool} (h : m[j]? = some (k, v)) : ((m.set j (k, v2)).map fun q => D.str q.1) = m.map fun q => D.str q.1 := by
  rw [List.map_set]
  exact omP_keys h
theorem fnd_new {m : OM} {k : Str} (h : omI m k = none) : fndK (.str k) ((m.map fun q => D.str q.1) ++ [.str k]) = some (some m.length) := by
  have := fnd_om (m ++ [(k, false)]) k
  rw [omI_new false h] at this
  simpa using this
theorem omP_none {m : OM} {k : Str} {v : Bool} (h : omI m k = none) : omP m k v = m ++ [(k, v)] := by unfold omP; rw [h]
theorem omP_some {m : OM} {k : Str} {v : Bool} {j : Nat} (h : omI m k = some j) : omP m k v = m.set j (k, v) := by unfold omP; rw [h]
theorem omG_none {m : OM} {k : Str} (h : omI m k = none) : omG m k = false := by unfold omG; rw [h]
end Go.AX

namespace Go.AX
open Go Go.Proofs Go.RowKit
theorem pr_beq (x y : Pr) : (x.1 == y.1 && x.2 == y.2) = decide (x = y) := by
  by_cases h : x = y
  · subst h; simp
  · have : ¬ (x.1 = y.1 ∧ x.2 = y.2) := fun e => h (Prod.ext e.1 e.2)
    simp only [h, decide_false]
    rw [Bool.eq_false_iff]
    intro e
    simp at e
    exact this e
theorem index_Pr (xs : List Pr) (hl : xs.length ≤ 1000) (v : Pr) :
    Does Tryz.prog 52 [.d (.sl (xs.map prD)), .d (prD v)] [] (I (idxG (fun x => v.1 == x.1 && v.2 == x.2) xs 0)) [] := by
  refine Does.of_AW (n := 19) Tryz.func52 rfl rfl rfl fun cx hcx => ?_
  generalize hR : idxG (fun x => v.1 == x.1 && v.2 == x.2) xs 0 = R
  repeat' (first | (refine AW.sreg rfl fun K hK => ?_; simp only [go_sem, Nat.reduceAdd, Nat.reduceMul, Int.reduceToNat, Nat.reduceLT, Nat.reduceLeDiff, Nat.le_refl, Nat.reduceEqDiff, ↓reduceIte, beq_self_eq_true, bne_self_eq_false, Int.reduceBEq, Int.reduceBNe, or_self, true_or, or_true, Option.map_some, Option.map_none, List.length_map]) | (refine AW.seq_k fun K hK => ?_) | (refine AW.block ?_) | (refine hK _ ?_; clear hK K))
  refine AW.loopF (ι := Nat) [0, 3, 7] (fun p => [(8, I p)]) (fun p => [(0, some (O.box 47 [S v.1, S v.2]))]) 4 (fun p => p ≤ xs.length ∧ idxG (fun x => v.1 == x.1 && v.2 == x.2) (xs.drop p) p = R) (fun p => xs.length - p) 0 ⟨by simp, hR⟩ (Weak.auto hcx rfl rfl (Nat.le_of_ble_eq_true rfl) (by simp [go_sem, gL, kL, renOf, V.obj, lk, Nat.blt, Nat.ble, List.map_append, dv_push]) (by simp [go_sem, gL, kL, renOf, V.obj, lk, Nat.blt, Nat.ble, List.map_append, dv_push]) (by first | (intro i hi; exact absurd hi (Nat.not_lt_zero _)) | (intro i0 hi0; match i0, hi0 with | 0, _ => exact ⟨_, rfl⟩ | n0+1, h0 => exact absurd h0 (Nat.not_lt.2 (Nat.le_add_left 1 n0))) | (intro i0 hi0; match i0, hi0 with | 0, _ => exact ⟨_, rfl⟩ | 1, _ => exact ⟨_, rfl⟩ | n0+2, h0 => exact absurd h0 (Nat.not_lt.2 (Nat.le_add_left 2 n0))) | (intro i0 hi0; match i0, hi0 with | 0, _ => exact ⟨_, rfl⟩ | 1, _ => exact ⟨_, rfl⟩ | 2, _ => exact ⟨_, rfl⟩ | n0+3, h0 => exact absurd h0 (Nat.not_lt.2 (Nat.le_add_left 3 n0))) | (intro i0 hi0; match i0, hi0 with | 0, _ => exact ⟨_, rfl⟩ | 1, _ => exact ⟨_, rfl⟩ | 2, _ => exact ⟨_, rfl⟩ | 3, _ => exact ⟨_, rfl⟩ | n0+4, h0 => exact absurd h0 (Nat.not_lt.2 (Nat.le_add_left 4 n0)))) (by simp [go_sem, gL, kL, lk, renOf, V.obj, Nat.blt, Nat.ble])) ?_; simp only [St.at_nil, St.at_cons, lk, Nat.reduceEqDiff, ↓reduceIte, Option.getD_some, Option.getD_none, List.cons_append, List.nil_append, List.append_nil]
  rintro i ⟨h1, h2⟩
  by_cases hi : i < xs.length
  · obtain ⟨x, hx, hxm, hxd⟩ := get_some hi
    have hget : (xs.map prD)[i]? = some (prD x) := by simp [hx]
    rw [hxd, idxG] at h2
    repeat' (first | ((first | refine AW.sreg rfl fun K hK => ?_ | refine AW.sregD hmix rfl fun K hK => ?_ | refine AW.reg rfl ?_); simp only [go_sem, Nat.reduceAdd, Nat.reduceMul, Int.reduceToNat, Nat.reduceLT, Nat.reduceLeDiff, Nat.le_refl, Nat.reduceEqDiff, ↓reduceIte, beq_self_eq_true, bne_self_eq_false, Int.reduceBEq, Int.reduceBNe, or_self, true_or, or_true, Option.map_some, Option.map_none, List.length_map, hget]) | (refine AW.seq_k fun K hK => ?_) | (refine AW.block ?_) | (refine AW.skip ?_; simp only [Then, InBlock]) | (refine AW.condT rfl (by first | rfl | (simp; omega) | (simp [*]; done) | fail) ?_) | (refine AW.cond rfl (fun h => ?_) (fun h => ?_) <;> (try simp only [decide_eq_true_eq, decide_eq_false_iff_not, Bool.not_eq_true', Bool.not_eq_false', Bool.not_eq_eq_eq_not, Bool.not_true, Bool.not_false, beq_iff_eq, bne_iff_ne, beq_eq_false_iff_ne, ne_eq, Bool.and_eq_true, Bool.or_eq_true, Bool.or_eq_false_iff] at h)) | (refine hK _ ?_; clear hK K) | (with_reducible refine And.intro (?_ : regOk _ _ = true) ?_; kernel_rfl) | (with_reducible refine And.intro ?_ ?_; first | omega | assumption | (focus (decide)) | (focus (simp; done)) | (focus (simp; omega)) | (focus (constructor <;> omega)) | fail))
    · rw [if_pos (by simp [h])] at h2
      subst h2
      exact AW.ret (Fin.data rfl (by simp [go_sem]) rfl)
    · rw [if_neg (by rw [h]; simp)] at h2
      exact ⟨i + 1, ⟨hi, h2⟩, by omega, (Weak.auto hcx rfl rfl (Nat.le_of_ble_eq_true rfl) (by simp [go_sem, gL, kL, renOf, V.obj, lk, Nat.blt, Nat.ble, List.map_append, dv_push]) (by simp [go_sem, gL, kL, renOf, V.obj, lk, Nat.blt, Nat.ble, List.map_append, dv_push]) (by first | (intro i hi; exact absurd hi (Nat.not_lt_zero _)) | (intro i0 hi0; match i0, hi0 with | 0, _ => exact ⟨_, rfl⟩ | n0+1, h0 => exact absurd h0 (Nat.not_lt.2 (Nat.le_add_left 1 n0))) | (intro i0 hi0; match i0, hi0 with | 0, _ => exact ⟨_, rfl⟩ | 1, _ => exact ⟨_, rfl⟩ | n0+2, h0 => exact absurd h0 (Nat.not_lt.2 (Nat.le_add_left 2 n0))) | (intro i0 hi0; match i0, hi0 with | 0, _ => exact ⟨_, rfl⟩ | 1, _ => exact ⟨_, rfl⟩ | 2, _ => exact ⟨_, rfl⟩ | n0+3, h0 => exact absurd h0 (Nat.not_lt.2 (Nat.le_add_left 3 n0))) | (intro i0 hi0; match i0, hi0 with | 0, _ => exact ⟨_, rfl⟩ | 1, _ => exact ⟨_, rfl⟩ | 2, _ => exact ⟨_, rfl⟩ | 3, _ => exact ⟨_, rfl⟩ | n0+4, h0 => exact absurd h0 (Nat.not_lt.2 (Nat.le_add_left 4 n0)))) (by simp [go_sem, gL, kL, lk, renOf, V.obj, Nat.blt, Nat.ble]))⟩
  · obtain rfl : i = xs.length := by omega
    simp only [List.drop_length, idxG] at h2
    subst h2
    repeat' (first | (refine AW.sreg rfl fun K hK => ?_; simp only [go_sem, Nat.reduceAdd, Nat.reduceMul, Int.reduceToNat, Nat.reduceLT, Nat.reduceLeDiff, Nat.le_refl, Nat.reduceEqDiff, ↓reduceIte, beq_self_eq_true, bne_self_eq_false, Int.reduceBEq, Int.reduceBNe, or_self, true_or, or_true, Option.map_some, Option.map_none, List.length_map]) | (refine AW.seq_k fun K hK => ?_) | (refine AW.exit ?_; simp only [go_sem, ↓reduceIte]) | (refine AW.condF rfl (by first | rfl | (simp; omega) | (simp [*]; done) | fail) ?_) | (refine hK _ ?_; clear hK K) | (clear hK K; refine hK _ ?_; clear hK K) | (refine AW.ret (Fin.data rfl (by first | (simp only [go_sem]; done) | (simp [go_sem, *]; done) | (simp [go_sem]; omega) | rfl) rfl)))
theorem contains_Pr (xs : List Pr) (hl : xs.length ≤ 1000) (v : Pr) :
    Does Tryz.prog 21 [.d (.sl (xs.map prD)), .d (prD v)] [] (B (decide (v ∈ xs))) [] := by
  have e : decide (v ∈ xs) = xs.any (fun x => v.1 == x.1 && v.2 == x.2) := by
    rw [Bool.eq_iff_iff]
    simp only [decide_eq_true_eq, List.any_eq_true, pr_beq]
    exact ⟨fun h => ⟨v, h, rfl⟩, fun ⟨x, h, e⟩ => e ▸ h⟩
  rw [e, ← idxG_any (fun x => v.1 == x.1 && v.2 == x.2) xs 0]
  refine Does.of_AW (n := 9) Tryz.func21 rfl rfl rfl fun cx hcx => ?_
  repeat' (first | ((first | refine AW.sreg rfl fun K hK => ?_ | refine run_call _ _ _ ((index_Pr xs hl v).pure rfl rfl _ _) rfl rfl (dstOk_of rfl) rfl rfl rfl ?_); simp only [go_sem, Nat.reduceAdd, Nat.reduceMul, Int.reduceToNat, Nat.reduceLT, Nat.reduceLeDiff, Nat.le_refl, Nat.reduceEqDiff, ↓reduceIte, beq_self_eq_true, bne_self_eq_false, Int.reduceBEq, Int.reduceBNe, or_self, true_or, or_true, Option.map_some, Option.map_none]) | (refine hK _ ?_; clear hK K) | (refine AW.ret (Fin.data rfl (by first | (simp only [go_sem]; done) | (simp [go_sem, *]; done) | (simp [go_sem]; omega) | rfl) rfl)))
abbrev Pa2 : List Str := [[112, 97], [112, 98]]
abbrev Pa3 : List Str := [[112, 97], [112, 98], [112, 99]]
abbrev Pa4 : List Str := [[112, 97], [112, 97], [112, 98], [112, 99]]
abbrev Qa3 : List Str := [[97, 110, 110], [98, 111, 98], [99, 105, 100]]
abbrev Qb3 : List Str := [[98, 111, 98], [99, 105, 100], [100, 101, 101]]
abbrev At4 : List Int := [0, 5, 10, 50]
abbrev eve : Str := [101, 118, 101]
abbrev ann : Str := [97, 110, 110]
/-- Turns, what is open, the moment, the place in the stream. -/
def tnS (l : List Int) (z : List Tu × OM × Int × Int) : List Tu × OM × Int × Int :=
  (z.1 ++ [(z.2.2.1 + pk l z.2.2.2 At4, og l (z.2.2.2 + 1) Pa4, !omG z.2.1 (og l (z.2.2.2 + 1) Pa4))], omP z.2.1 (og l (z.2.2.2 + 1) Pa4) (!omG z.2.1 (og l (z.2.2.2 + 1) Pa4)), z.2.2.1 + pk l z.2.2.2 At4, z.2.2.2 + 1 + 1)
def tnF (l : List Int) (a : Int) : Nat → List Tu × OM × Int × Int
  | 0 => ([], [], 0, a)
  | n + 1 => tnS l (tnF l a n)
theorem tnF_succ (l : List Int) (a : Int) (n : Nat) : tnF l a (n + 1) = tnS l (tnF l a n) := rfl
theorem tnF_at (l : List Int) (a : Int) : ∀ n : Nat, (tnF l a n).2.2.2 = a + 2 * n ∧ (tnF l a n).1.length = n ∧ 0 ≤ (tnF l a n).2.2.1 ∧ (tnF l a n).2.2.1 ≤ 50 * n
  | 0 => by simp [tnF]
  | n + 1 => by
    obtain ⟨h1, h2, h3, h4⟩ := tnF_at l a n
    have hm := pk_mem l (tnF l a n).2.2.2 At4 (by simp)
    generalize hp : pk l (tnF l a n).2.2.2 At4 = q at hm
    simp only [List.mem_cons, List.not_mem_nil, or_false] at hm
    refine ⟨?_, ?_, ?_, ?_⟩
    · simp only [tnF, tnS]; omega
    · simp [tnF, tnS, h2]
    · simp only [tnF, tnS]; omega
    · simp only [tnF, tnS]; omega
theorem tnF_mem (l : List Int) (a : Int) : ∀ n : Nat, ∀ t ∈ (tnF l a n).1, t.2.1 ∈ Pa4 ∧ 0 ≤ t.1 ∧ t.1 ≤ 50 * n
  | 0, t, h => by simp [tnF] at h
  | n + 1, t, h => by
    simp only [tnF, tnS] at h
    rcases List.mem_append.1 h with h | h
    · obtain ⟨h1, h2, h3⟩ := tnF_mem l a n t h
      exact ⟨h1, h2, by omega⟩
    · obtain rfl := List.mem_singleton.1 h
      obtain ⟨h1, h2, h3, h4⟩ := tnF_at l a n
      have hm := pk_mem l (tnF l a n).2.2.2 At4 (by simp)
      generalize hp : pk l (tnF l a n).2.2.2 At4 = q at hm
      simp only [List.mem_cons, List.not_mem_nil, or_false] at hm
      exact ⟨og_mem l _ _ (by simp), by simp only; omega, by simp only; omega⟩
def hdF (n : Int) : List Str := if n = 0 then [] else if n = 1 then [eve] else [ann, eve]
def baF (l : List Int) (a : Int) : List Pr := prs10 l Pa2 Qa3 (a + 1 + 1) (rg l (a + 1) 0 2).toNat
def a2F (l : List Int) (a : Int) : Int := a + 1 + 1 + 2 * rg l (a + 1) 0 2
def qaF (l : List Int) (a : Int) : List Pr := prs10 l Pa3 Qb3 (a2F l a + 1) (rg l (a2F l a) 0 6).toNat
def paF (l : List Int) (a : Int) : List Pr := (qaF l a).filter fun p => !decide (p ∈ baF l a)
def a3F (l : List Int) (a : Int) : Int := a2F l a + 1 + 2 * rg l (a2F l a) 0 6
def bdF (l : List Int) (a : Int) : Bd := ⟨paF l a, baF l a, hdF (nextV l a 3), (tnF l (a3F l a + 1) (rg l (a3F l a) 0 6).toNat).1⟩
def a4F (l : List Int) (a : Int) : Int := a3F l a + 1 + 2 * rg l (a3F l a) 0 6
theorem dvz : dv [] = [] := rfl
theorem bd_size (h : 30 < Tryz.prog.types.size) : (Tryz.prog.types[30]'h).size = 4 := by kernel_rfl
theorem rightBoard_f (l : List Int) (hl2 : l.length ≤ 9223372036854775807) (a : Int) (ha : 0 ≤ a) (hb : a ≤ 10000) :
    Does Tryz.prog 5 [.ptr 0 0] [Stm l a] (.d (bdD (bdF l a))) [Stm l (a4F l a)] := by
  have r0 := nextV_range l a 3 (by omega)
  have n0 := next_any l hl2 a 3 (by omega) (by omega) (by omega) (by omega)
  have r1 := rg_range l (a + 1) 0 2 (by omega)
  obtain ⟨k1, e1⟩ := Int.eq_ofNat_of_zero_le r1.1
  have hk1 : k1 ≤ 2 := by omega
  have n1 := range_f l hl2 (a + 1) 0 2 (by omega) (by omega) (by omega) (by omega) (by omega)
  rw [e1] at n1
  have q1 := pairs10_f l hl2 (a + 1 + 1) (by omega) (by omega) Pa2 Qa3 (by simp) (by simp) (by simp) (by simp) k1 (by omega)
  rw [show a + 1 + 1 + 2 * (k1 : Int) = a2F l a by unfold a2F; rw [e1], show prs10 l Pa2 Qa3 (a + 1 + 1) k1 = baF l a by unfold baF; rw [e1, Int.toNat_natCast]] at q1
  have b2 : 0 ≤ a2F l a ∧ a2F l a ≤ 10010 := by unfold a2F; omega
  have r2 := rg_range l (a2F l a) 0 6 (by omega)
  obtain ⟨k2, e2⟩ := Int.eq_ofNat_of_zero_le r2.1
  have hk2 : k2 ≤ 6 := by omega
  have n2 := range_f l hl2 (a2F l a) 0 6 (by omega) (by omega) (by omega) (by omega) (by omega)
  rw [e2] at n2
  have q2 := pairs10_f l hl2 (a2F l a + 1) (by omega) (by omega) Pa3 Qb3 (by simp) (by simp) (by simp) (by simp) k2 (by omega)
  rw [show a2F l a + 1 + 2 * (k2 : Int) = a3F l a by unfold a3F; rw [e2], show prs10 l Pa3 Qb3 (a2F l a + 1) k2 = qaF l a by unfold qaF; rw [e2, Int.toNat_natCast]] at q2
  have b3 : 0 ≤ a3F l a ∧ a3F l a ≤ 10030 := by unfold a3F; omega
  have r3 := rg_range l (a3F l a) 0 6 (by omega)
  obtain ⟨k3, e3⟩ := Int.eq_ofNat_of_zero_le r3.1
  have hk3 : k3 ≤ 6 := by omega
  have n3 := range_f l hl2 (a3F l a) 0 6 (by omega) (by omega) (by omega) (by omega) (by omega)
  rw [e3] at n3
  have e4 : a4F l a = (tnF l (a3F l a + 1) k3).2.2.2 := by rw [(tnF_at l _ _).1]; unfold a4F; rw [e3]
  have hql : (qaF l a).length ≤ 6 := by
    have := prs10_len l Pa3 Qb3 (a2F l a + 1) (rg l (a2F l a) 0 6).toNat
    unfold qaF; omega
  have hbl : (baF l a).length ≤ 2 := by
    have := prs10_len l Pa2 Qa3 (a + 1 + 1) (rg l (a + 1) 0 2).toNat
    unfold baF; omega
  refine Does.of_AW (n := 79) Tryz.func5 rfl rfl rfl fun cx hcx => ?_
  have h3 : nextV l a 3 = 0 ∨ nextV l a 3 = 1 ∨ nextV l a 3 = 2 := by omega
  rw [e4]
  unfold bdF paF
  rw [e3, Int.toNat_natCast]
  generalize nextV l a 3 = v0 at *
  generalize baF l a = ba at *
  generalize qaF l a = qa at *
  generalize a2F l a = a2 at *
  generalize a3F l a = a3 at *
  clear e1 e2 e3 e4 r1 r2 r3
  generalize hhd : hdF v0 = hd
  replace hhd := hhd.symm
  rcases h3 with rfl | rfl | rfl
  all_goals
    repeat' (first | ((first | refine AW.sreg rfl fun K hK => ?_ | refine run_call _ _ _ ((n0).objs [0] ⟨rfl, trivial⟩ rfl (by decide) (by simp [go_sem, renOs]) (by simp) (by simp) (by simp [go_sem]) (by simp [go_sem]) (by simp [go_sem]) (by simp [go_sem])) rfl rfl (dstOk_of rfl) rfl rfl rfl ?_ | refine run_call _ _ _ ((n1).objs [0] ⟨rfl, trivial⟩ rfl (by decide) (by simp [go_sem, renOs]) (by simp) (by simp) (by simp [go_sem]) (by simp [go_sem]) (by simp [go_sem]) (by simp [go_sem])) rfl rfl (dstOk_of rfl) rfl rfl rfl ?_ | refine run_call _ _ _ ((q1).objs [0, _, _] ⟨rfl, rfl, rfl, trivial⟩ rfl (by decide) (by simp [go_sem, renOs]) (by simp) (by simp) (by simp [go_sem]) (by simp [go_sem]) (by simp [go_sem]) (by simp [go_sem])) rfl rfl (dstOk_of rfl) rfl rfl rfl ?_ | refine run_call _ _ _ ((n2).objs [0] ⟨rfl, trivial⟩ rfl (by decide) (by simp [go_sem, renOs]) (by simp) (by simp) (by simp [go_sem]) (by simp [go_sem]) (by simp [go_sem]) (by simp [go_sem])) rfl rfl (dstOk_of rfl) rfl rfl rfl ?_ | refine run_call _ _ _ ((q2).objs [0, _, _] ⟨rfl, rfl, rfl, trivial⟩ rfl (by decide) (by simp [go_sem, renOs]) (by simp) (by simp) (by simp [go_sem]) (by simp [go_sem]) (by simp [go_sem]) (by simp [go_sem])) rfl rfl (dstOk_of rfl) rfl rfl rfl ?_); simp only [go_sem, Nat.reduceAdd, Nat.reduceMul, Int.reduceToNat, Nat.reduceLT, Nat.reduceLeDiff, Nat.le_refl, Nat.reduceEqDiff, ↓reduceIte, beq_self_eq_true, bne_self_eq_false, Int.reduceBEq, Int.reduceBNe, or_self, true_or, or_true, Option.map_some, Option.map_none]) | (refine AW.seq_k fun K hK => ?_) | (refine AW.block ?_) | (refine hK _ ?_; clear hK K) | (with_reducible refine And.intro ?_ ?_; first | omega | assumption | (focus (decide)) | (focus (simp; done)) | (focus (simp; omega)) | (focus (constructor <;> omega)) | fail))
    refine AW.weak (Weak.nilB 640 0 30 47 2 rfl rfl) ?_
    try refine AW.weak (Weak.nilB 640 2 30 9 1 rfl rfl) ?_
    refine AW.loopF (ι := Nat) [0, 2, 3, 29, 30] (fun p => [(31, I p)]) (fun p => [(0, some (Stm l a3)), (64, some (O.box 30 [.nils, .nils, .nils, .nils])), (640, some (O.box 30 [.slr 1792 0 ((qa.take p).filter fun y => !decide (y ∈ ba)).length, .d (.sl (ba.map prD)), .d (.sl (hd.map .str)), .nils])), (1792, some (O.vec 47 2 (dv (((qa.take p).filter fun y => !decide (y ∈ ba)).map prD))))]) 30 (fun p => p ≤ qa.length) (fun p => qa.length - p) 0 (Nat.zero_le _) (Weak.objs hcx [(640, 640), (1792, 1792), (64, 64)] rfl rfl (Nat.le_of_ble_eq_true rfl) (by simp [go_sem, gL, kL, List.map_append, dv_push, hhd, hdF, dv, List.take_zero, List.filter_nil, List.map_nil, List.length_nil]) (by simp [go_sem, gL, kL, List.map_append, dv_push, hhd, hdF, dv, List.take_zero, List.filter_nil, List.map_nil, List.length_nil]) (by first | (intro i hi; exact absurd hi (Nat.not_lt_zero _)) | (intro i0 hi0; match i0, hi0 with | 0, _ => exact ⟨_, rfl⟩ | n0+1, h0 => exact absurd h0 (Nat.not_lt.2 (Nat.le_add_left 1 n0))) | (intro i0 hi0; match i0, hi0 with | 0, _ => exact ⟨_, rfl⟩ | 1, _ => exact ⟨_, rfl⟩ | n0+2, h0 => exact absurd h0 (Nat.not_lt.2 (Nat.le_add_left 2 n0))) | (intro i0 hi0; match i0, hi0 with | 0, _ => exact ⟨_, rfl⟩ | 1, _ => exact ⟨_, rfl⟩ | 2, _ => exact ⟨_, rfl⟩ | n0+3, h0 => exact absurd h0 (Nat.not_lt.2 (Nat.le_add_left 3 n0))) | (intro i0 hi0; match i0, hi0 with | 0, _ => exact ⟨_, rfl⟩ | 1, _ => exact ⟨_, rfl⟩ | 2, _ => exact ⟨_, rfl⟩ | 3, _ => exact ⟨_, rfl⟩ | n0+4, h0 => exact absurd h0 (Nat.not_lt.2 (Nat.le_add_left 4 n0)))) (by simp [gL, lk, hhd, hdF, dv, List.take_zero, List.filter_nil, List.map_nil, List.length_nil])) ?_; simp only [St.at_nil, St.at_cons, lk, Nat.reduceEqDiff, ↓reduceIte, Option.getD_some, Option.getD_none, List.cons_append, List.nil_append, List.append_nil]
    intro i hi1
    by_cases hi : i < qa.length
    · obtain ⟨x, hx, hxm, -⟩ := get_some hi
      have hget : (qa.map prD)[i]? = some (prD x) := by simp [hx]
      have hcon := contains_Pr ba (by omega) x
      have htk : qa.take (i + 1) = qa.take i ++ [x] := by rw [List.take_add_one, hx]; rfl
      have htl : List.take ((qa.take i).filter fun y => !decide (y ∈ ba)).length (dv (((qa.take i).filter fun y => !decide (y ∈ ba)).map prD)) = dv (((qa.take i).filter fun y => !decide (y ∈ ba)).map prD) := List.take_of_length_le (by simp [dv])
      have hfl : ((qa.take i).filter fun y => !decide (y ∈ ba)).length ≤ 6 := by
        have h1 := List.length_filter_le (fun y => !decide (y ∈ ba)) (qa.take i)
        have h2 := List.length_take_le i qa
        omega
      by_cases hin : x ∈ ba
      · have hst : (qa.take (i + 1)).filter (fun y => !decide (y ∈ ba)) = (qa.take i).filter (fun y => !decide (y ∈ ba)) := by rw [htk, List.filter_append]; simp [hin]
        have hd1 : decide (x ∈ ba) = true := by simpa using hin
        rw [hd1] at hcon
        repeat' (first | ((first | refine AW.sreg rfl fun K hK => ?_ | refine AW.reg rfl ?_ | refine run_call _ _ _ ((hcon).pure rfl rfl _ _) rfl rfl (dstOk_of rfl) rfl rfl rfl ?_); simp only [go_sem, Nat.reduceAdd, Nat.reduceMul, Int.reduceToNat, Nat.reduceLT, Nat.reduceLeDiff, Nat.le_refl, Nat.reduceEqDiff, ↓reduceIte, beq_self_eq_true, bne_self_eq_false, Int.reduceBEq, Int.reduceBNe, or_self, true_or, or_true, Option.map_some, Option.map_none, hget, List.length_map, dv_length, htl]) | (refine AW.seq_k fun K hK => ?_) | (refine AW.block ?_) | (refine AW.skip ?_; simp only [Then, InBlock]) | (refine AW.condT rfl (by first | rfl | (simp; omega) | (simp [*]; done) | fail) ?_) | (refine AW.condF rfl (by first | rfl | (simp; omega) | (simp [*]; done) | fail) ?_) | (refine hK _ ?_; clear hK K) | (with_reducible refine And.intro ?_ ?_; first | omega | assumption | (focus (decide)) | (focus (simp; done)) | (focus (simp; omega)) | (focus (constructor <;> omega)) | fail))
        exact ⟨i + 1, hi, by omega, (Weak.objs hcx [(640, 640), (1792, 1792), (64, 64)] rfl rfl (Nat.le_of_ble_eq_true rfl) (by simp [go_sem, gL, kL, List.map_append, dv_push, hst]) (by simp [go_sem, gL, kL, List.map_append, dv_push, hst]) (by first | (intro i hi; exact absurd hi (Nat.not_lt_zero _)) | (intro i0 hi0; match i0, hi0 with | 0, _ => exact ⟨_, rfl⟩ | n0+1, h0 => exact absurd h0 (Nat.not_lt.2 (Nat.le_add_left 1 n0))) | (intro i0 hi0; match i0, hi0 with | 0, _ => exact ⟨_, rfl⟩ | 1, _ => exact ⟨_, rfl⟩ | n0+2, h0 => exact absurd h0 (Nat.not_lt.2 (Nat.le_add_left 2 n0))) | (intro i0 hi0; match i0, hi0 with | 0, _ => exact ⟨_, rfl⟩ | 1, _ => exact ⟨_, rfl⟩ | 2, _ => exact ⟨_, rfl⟩ | n0+3, h0 => exact absurd h0 (Nat.not_lt.2 (Nat.le_add_left 3 n0))) | (intro i0 hi0; match i0, hi0 with | 0, _ => exact ⟨_, rfl⟩ | 1, _ => exact ⟨_, rfl⟩ | 2, _ => exact ⟨_, rfl⟩ | 3, _ => exact ⟨_, rfl⟩ | n0+4, h0 => exact absurd h0 (Nat.not_lt.2 (Nat.le_add_left 4 n0)))) (by simp [gL, lk, hst]))⟩
      · have hst : (qa.take (i + 1)).filter (fun y => !decide (y ∈ ba)) = (qa.take i).filter (fun y => !decide (y ∈ ba)) ++ [x] := by rw [htk, List.filter_append]; simp [hin]
        have hd1 : decide (x ∈ ba) = false := by simpa using hin
        rw [hd1] at hcon
        repeat' (first | ((first | refine AW.sreg rfl fun K hK => ?_ | refine AW.reg rfl ?_ | refine run_call _ _ _ ((hcon).pure rfl rfl _ _) rfl rfl (dstOk_of rfl) rfl rfl rfl ?_); simp only [go_sem, Nat.reduceAdd, Nat.reduceMul, Int.reduceToNat, Nat.reduceLT, Nat.reduceLeDiff, Nat.le_refl, Nat.reduceEqDiff, ↓reduceIte, beq_self_eq_true, bne_self_eq_false, Int.reduceBEq, Int.reduceBNe, or_self, true_or, or_true, Option.map_some, Option.map_none, hget, List.length_map, dv_length, htl]) | (refine AW.seq_k fun K hK => ?_) | (refine AW.block ?_) | (refine AW.skip ?_; simp only [Then, InBlock]) | (refine AW.condT rfl (by first | rfl | (simp; omega) | (simp [*]; done) | fail) ?_) | (refine hK _ ?_; clear hK K) | (with_reducible refine And.intro ?_ ?_; first | omega | assumption | (focus (decide)) | (focus (simp; done)) | (focus (simp; omega)) | (focus (constructor <;> omega)) | fail))
        exact ⟨i + 1, hi, by omega, (Weak.objs hcx [(640, 640), (1792, 2816), (64, 64)] rfl rfl (Nat.le_of_ble_eq_true rfl) (by simp [go_sem, gL, kL, List.map_append, dv_push, hst]) (by simp [go_sem, gL, kL, List.map_append, dv_push, hst]) (by first | (intro i hi; exact absurd hi (Nat.not_lt_zero _)) | (intro i0 hi0; match i0, hi0 with | 0, _ => exact ⟨_, rfl⟩ | n0+1, h0 => exact absurd h0 (Nat.not_lt.2 (Nat.le_add_left 1 n0))) | (intro i0 hi0; match i0, hi0 with | 0, _ => exact ⟨_, rfl⟩ | 1, _ => exact ⟨_, rfl⟩ | n0+2, h0 => exact absurd h0 (Nat.not_lt.2 (Nat.le_add_left 2 n0))) | (intro i0 hi0; match i0, hi0 with | 0, _ => exact ⟨_, rfl⟩ | 1, _ => exact ⟨_, rfl⟩ | 2, _ => exact ⟨_, rfl⟩ | n0+3, h0 => exact absurd h0 (Nat.not_lt.2 (Nat.le_add_left 3 n0))) | (intro i0 hi0; match i0, hi0 with | 0, _ => exact ⟨_, rfl⟩ | 1, _ => exact ⟨_, rfl⟩ | 2, _ => exact ⟨_, rfl⟩ | 3, _ => exact ⟨_, rfl⟩ | n0+4, h0 => exact absurd h0 (Nat.not_lt.2 (Nat.le_add_left 4 n0)))) (by simp [gL, lk, hst]))⟩
    · obtain rfl : i = qa.length := by omega
      rw [List.take_length]
      generalize hpa : (qa.filter fun y => !decide (y ∈ ba)) = pa
      repeat' (first | ((first | refine AW.sreg rfl fun K hK => ?_ | refine run_call _ _ _ ((n3).objs [0] ⟨rfl, trivial⟩ rfl (by decide) (by simp [go_sem, renOs]) (by simp) (by simp) (by simp [go_sem]) (by simp [go_sem]) (by simp [go_sem]) (by simp [go_sem])) rfl rfl (dstOk_of rfl) rfl rfl rfl ?_); simp only [go_sem, Nat.reduceAdd, Nat.reduceMul, Int.reduceToNat, Nat.reduceLT, Nat.reduceLeDiff, Nat.le_refl, Nat.reduceEqDiff, ↓reduceIte, beq_self_eq_true, bne_self_eq_false, Int.reduceBEq, Int.reduceBNe, or_self, true_or, or_true, Option.map_some, Option.map_none, List.length_map]) | (refine AW.seq_k fun K hK => ?_) | (refine AW.block ?_) | (refine AW.exit ?_; simp only [go_sem, ↓reduceIte]) | (refine AW.condF rfl (by first | rfl | (simp; omega) | (simp [*]; done) | fail) ?_) | (refine hK _ ?_; clear hK K) | (clear hK K; refine hK _ ?_; clear hK K))
      refine AW.weak (Weak.nilB 640 3 30 61 3 rfl rfl) ?_
      refine AW.loopF (ι := Nat) [0, 2, 3, 7, 49] (fun p => [(50, I p), (6, I (tnF l (a3 + 1) p).2.2.1)]) (fun p => [(0, some (Stm l (tnF l (a3 + 1) p).2.2.2)), (64, some (O.box 30 [.nils, .nils, .nils, .nils])), (640, some (O.box 30 [.d (.sl (pa.map prD)), .d (.sl (ba.map prD)), .d (.sl (hd.map .str)), .slr 2368 0 (tnF l (a3 + 1) p).1.length])), (2368, some (O.vec 61 3 (dv ((tnF l (a3 + 1) p).1.map tuD)))), (2048, some (O.map ((tnF l (a3 + 1) p).2.1.map fun q => D.str q.1) (dv ((tnF l (a3 + 1) p).2.1.map fun q => D.bool q.2))))]) 38 (fun p => p ≤ k3) (fun p => k3 - p) 0 (Nat.zero_le _) (Weak.objs hcx [(640, 640), (2368, 2368), (64, 64), (2048, 2048)] rfl rfl (Nat.le_of_ble_eq_true rfl) (by simp [go_sem, gL, kL, List.map_append, dv_push, tnF, dvz, toDL_dvF, List.map_nil, List.length_nil]) (by simp [go_sem, gL, kL, List.map_append, dv_push, tnF, dvz, toDL_dvF, List.map_nil, List.length_nil]) (by first | (intro i hi; exact absurd hi (Nat.not_lt_zero _)) | (intro i0 hi0; match i0, hi0 with | 0, _ => exact ⟨_, rfl⟩ | n0+1, h0 => exact absurd h0 (Nat.not_lt.2 (Nat.le_add_left 1 n0))) | (intro i0 hi0; match i0, hi0 with | 0, _ => exact ⟨_, rfl⟩ | 1, _ => exact ⟨_, rfl⟩ | n0+2, h0 => exact absurd h0 (Nat.not_lt.2 (Nat.le_add_left 2 n0))) | (intro i0 hi0; match i0, hi0 with | 0, _ => exact ⟨_, rfl⟩ | 1, _ => exact ⟨_, rfl⟩ | 2, _ => exact ⟨_, rfl⟩ | n0+3, h0 => exact absurd h0 (Nat.not_lt.2 (Nat.le_add_left 3 n0))) | (intro i0 hi0; match i0, hi0 with | 0, _ => exact ⟨_, rfl⟩ | 1, _ => exact ⟨_, rfl⟩ | 2, _ => exact ⟨_, rfl⟩ | 3, _ => exact ⟨_, rfl⟩ | n0+4, h0 => exact absurd h0 (Nat.not_lt.2 (Nat.le_add_left 4 n0)))) (by simp [gL, lk, tnF, dvz, toDL_dvF, List.map_nil, List.length_nil])) ?_; simp only [St.at_nil, St.at_cons, lk, Nat.reduceEqDiff, ↓reduceIte, Option.getD_some, Option.getD_none, List.cons_append, List.nil_append, List.append_nil]
      intro j hj1
      have hat := tnF_at l (a3 + 1) j
      by_cases hj : j < k3
      · have hst := tnF_succ l (a3 + 1) j
        unfold tnS at hst
        generalize tnF l (a3 + 1) j = z at *
        obtain ⟨ts, om, at_, po⟩ := z
        simp only at hat hst ⊢
        obtain ⟨h1, h2, h5, h6⟩ := hat
        have p1 := pick_f l hl2 po (by omega) (by omega) At4 (by simp) (by simp)
        have p2 := one_f l hl2 (po + 1) (by omega) (by omega) Pa4 (by simp) (by simp)
        have pm := pk_mem l po At4 (by simp)
        generalize pk l po At4 = dt at *
        generalize og l (po + 1) Pa4 = pp at *
        have hdt : 0 ≤ dt ∧ dt ≤ 50 := by
          simp only [List.mem_cons, List.not_mem_nil, or_false] at pm
          omega
        have htl : List.take ts.length (dv (ts.map tuD)) = dv (ts.map tuD) := List.take_of_length_le (by simp [dv])
        have hf := fnd_om om pp
        cases ho : omI om pp with
        | none =>
          rw [ho] at hf
          have hf2 := fnd_new ho
          rw [omG_none ho, omP_none ho] at hst
          have hgn : (dv (om.map fun q => D.bool q.2) ++ [V.d (D.bool true)])[om.length]? = some (V.d (D.bool true)) := by simp [dv]
          repeat' (first | ((first | refine AW.sreg rfl fun K hK => ?_ | refine AW.reg rfl ?_ | refine run_call _ _ _ ((p1).objs [0, _] ⟨rfl, rfl, trivial⟩ rfl (by decide) (by simp [go_sem, renOs]) (by simp) (by simp) (by simp [go_sem]) (by simp [go_sem]) (by simp [go_sem]) (by simp [go_sem])) rfl rfl (dstOk_of rfl) rfl rfl rfl ?_ | refine run_call _ _ _ ((p2).objs [0, _] ⟨rfl, rfl, trivial⟩ rfl (by decide) (by simp [go_sem, renOs]) (by simp) (by simp) (by simp [go_sem]) (by simp [go_sem]) (by simp [go_sem]) (by simp [go_sem])) rfl rfl (dstOk_of rfl) rfl rfl rfl ?_); simp only [go_sem, Nat.reduceAdd, Nat.reduceMul, Int.reduceToNat, Nat.reduceLT, Nat.reduceLeDiff, Nat.le_refl, Nat.reduceEqDiff, ↓reduceIte, beq_self_eq_true, bne_self_eq_false, Int.reduceBEq, Int.reduceBNe, or_self, true_or, or_true, Option.map_some, Option.map_none, hf, hf2, hgn, htl, List.length_map, dv_length]) | (refine AW.seq_k fun K hK => ?_) | (refine AW.block ?_) | (refine AW.skip ?_; simp only [Then, InBlock]) | (refine AW.condT rfl (by first | rfl | (simp; omega) | (simp [*]; done) | fail) ?_) | (refine hK _ ?_; clear hK K) | (with_reducible refine And.intro ?_ ?_; first | omega | assumption | (focus (decide)) | (focus (simp; done)) | (focus (simp; omega)) | (focus (constructor <;> omega)) | fail))
          exact ⟨j + 1, hj, by omega, (Weak.objs hcx [(640, 640), (2368, 4160), (64, 64), (2048, 2048)] rfl rfl (Nat.le_of_ble_eq_true rfl) (by simp [go_sem, gL, kL, List.map_append, dv_push, hst]) (by simp [go_sem, gL, kL, List.map_append, dv_push, hst]) (by first | (intro i hi; exact absurd hi (Nat.not_lt_zero _)) | (intro i0 hi0; match i0, hi0 with | 0, _ => exact ⟨_, rfl⟩ | n0+1, h0 => exact absurd h0 (Nat.not_lt.2 (Nat.le_add_left 1 n0))) | (intro i0 hi0; match i0, hi0 with | 0, _ => exact ⟨_, rfl⟩ | 1, _ => exact ⟨_, rfl⟩ | n0+2, h0 => exact absurd h0 (Nat.not_lt.2 (Nat.le_add_left 2 n0))) | (intro i0 hi0; match i0, hi0 with | 0, _ => exact ⟨_, rfl⟩ | 1, _ => exact ⟨_, rfl⟩ | 2, _ => exact ⟨_, rfl⟩ | n0+3, h0 => exact absurd h0 (Nat.not_lt.2 (Nat.le_add_left 3 n0))) | (intro i0 hi0; match i0, hi0 with | 0, _ => exact ⟨_, rfl⟩ | 1, _ => exact ⟨_, rfl⟩ | 2, _ => exact ⟨_, rfl⟩ | 3, _ => exact ⟨_, rfl⟩ | n0+4, h0 => exact absurd h0 (Nat.not_lt.2 (Nat.le_add_left 4 n0)))) (by simp [gL, lk, hst]))⟩
        | some i =>
          obtain ⟨v, hv, hg⟩ := omI_some ho
          rw [ho] at hf
          rw [hg, omP_some ho] at hst
          have hk1 := omP_keys hv
          have hk2 := omP_keys2 (v2 := !v) hv
          have hvv := omP_vals om pp i (!v)
          have hgv : (dv (om.map fun q => D.bool q.2))[i]? = some (.d (.bool v)) := by simp [dv, hv]
          have hil : i < om.length := by
            rcases Nat.lt_or_ge i om.length with h' | h'
            · exact h'
            · simp [List.getElem?_eq_none h'] at hv
          have hgs : ((dv (om.map fun q => D.bool q.2)).set i (V.d (D.bool (!v))))[i]? = some (V.d (D.bool (!v))) := by simp [dv, hil]
          repeat' (first | ((first | refine AW.sreg rfl fun K hK => ?_ | refine AW.reg rfl ?_ | refine run_call _ _ _ ((p1).objs [0, _] ⟨rfl, rfl, trivial⟩ rfl (by decide) (by simp [go_sem, renOs]) (by simp) (by simp) (by simp [go_sem]) (by simp [go_sem]) (by simp [go_sem]) (by simp [go_sem])) rfl rfl (dstOk_of rfl) rfl rfl rfl ?_ | refine run_call _ _ _ ((p2).objs [0, _] ⟨rfl, rfl, trivial⟩ rfl (by decide) (by simp [go_sem, renOs]) (by simp) (by simp) (by simp [go_sem]) (by simp [go_sem]) (by simp [go_sem]) (by simp [go_sem])) rfl rfl (dstOk_of rfl) rfl rfl rfl ?_); simp only [go_sem, Nat.reduceAdd, Nat.reduceMul, Int.reduceToNat, Nat.reduceLT, Nat.reduceLeDiff, Nat.le_refl, Nat.reduceEqDiff, ↓reduceIte, beq_self_eq_true, bne_self_eq_false, Int.reduceBEq, Int.reduceBNe, or_self, true_or, or_true, Option.map_some, Option.map_none, hf, hk1, hgv, hgs, htl, List.length_map, dv_length]) | (refine AW.seq_k fun K hK => ?_) | (refine AW.block ?_) | (refine AW.skip ?_; simp only [Then, InBlock]) | (refine AW.condT rfl (by first | rfl | (simp; omega) | (simp [*]; done) | fail) ?_) | (refine hK _ ?_; clear hK K) | (with_reducible refine And.intro ?_ ?_; first | omega | assumption | (focus (decide)) | (focus (simp; done)) | (focus (simp; omega)) | (focus (constructor <;> omega)) | fail))
          exact ⟨j + 1, hj, by omega, (Weak.objs hcx [(640, 640), (2368, 4160), (64, 64), (2048, 2048)] rfl rfl (Nat.le_of_ble_eq_true rfl) (by simp [go_sem, gL, kL, List.map_append, dv_push, hst, hk1, dv_set1]) (by simp [go_sem, gL, kL, List.map_append, dv_push, hst, hk1, dv_set1]) (by first | (intro i hi; exact absurd hi (Nat.not_lt_zero _)) | (intro i0 hi0; match i0, hi0 with | 0, _ => exact ⟨_, rfl⟩ | n0+1, h0 => exact absurd h0 (Nat.not_lt.2 (Nat.le_add_left 1 n0))) | (intro i0 hi0; match i0, hi0 with | 0, _ => exact ⟨_, rfl⟩ | 1, _ => exact ⟨_, rfl⟩ | n0+2, h0 => exact absurd h0 (Nat.not_lt.2 (Nat.le_add_left 2 n0))) | (intro i0 hi0; match i0, hi0 with | 0, _ => exact ⟨_, rfl⟩ | 1, _ => exact ⟨_, rfl⟩ | 2, _ => exact ⟨_, rfl⟩ | n0+3, h0 => exact absurd h0 (Nat.not_lt.2 (Nat.le_add_left 3 n0))) | (intro i0 hi0; match i0, hi0 with | 0, _ => exact ⟨_, rfl⟩ | 1, _ => exact ⟨_, rfl⟩ | 2, _ => exact ⟨_, rfl⟩ | 3, _ => exact ⟨_, rfl⟩ | n0+4, h0 => exact absurd h0 (Nat.not_lt.2 (Nat.le_add_left 4 n0)))) (by simp [gL, lk, hst, hk1, dv_set1]))⟩
      · obtain rfl : j = k3 := by omega
        generalize tnF l (a3 + 1) j = z at *
        obtain ⟨ts, om, at_, po⟩ := z
        simp only at hat ⊢
        have htl : List.take ts.length (dv (ts.map tuD)) = dv (ts.map tuD) := List.take_of_length_le (by simp [dv])
        repeat' (first | (refine AW.sreg rfl fun K hK => ?_; simp only [go_sem, Nat.reduceAdd, Nat.reduceMul, Int.reduceToNat, Nat.reduceLT, Nat.reduceLeDiff, Nat.le_refl, Nat.reduceEqDiff, ↓reduceIte, beq_self_eq_true, bne_self_eq_false, Int.reduceBEq, Int.reduceBNe, or_self, true_or, or_true, Option.map_some, Option.map_none, List.length_map]) | (refine AW.seq_k fun K hK => ?_) | (refine AW.exit ?_; simp only [go_sem, ↓reduceIte]) | (refine AW.condF rfl (by first | rfl | (simp; omega) | (simp [*]; done) | fail) ?_) | (refine hK _ ?_; clear hK K) | (clear hK K; refine hK _ ?_; clear hK K))
        subst hpa
        exact AW.ret (Fin.one rfl (by simp [go_sem, bd_size, toDL_dvF, dv_length, htl]; done) ⟨_, rfl, by simp [go_sem]; done⟩ rfl rfl rfl)
end Go.AX

namespace Go.AX
open Go Go.Proofs Go.RowKit
theorem valid_any (s : List UInt8) (h : s.length ≤ 1000000) : Does Tryz.prog 111 [.d (.str s)] [] (.d (.bool (Lib.validD s))) [] := by
  refine Does.of_str1 (y := .bool (Lib.validD s)) ⟨Tryz.f111, Tryz.func111, rfl, by kernel_rfl⟩ (fun w ok => by simp only [RV, RD]) fun w hg => ?_
  refine (Any.utf8_ValidString Tryz.l196 ⟨s.toArray⟩ w (by simp [ByteArray.size]; omega) ⟨fun c hc => hg.cell (g := 0) (l := firstL) (by kernel_rfl) c .u8 (Lib.firstT c) (of_decide_eq_true (List.all_eq_true.1 first_all c (List.mem_range.2 hc))), fun i hi => ?_⟩).mono fun e w' ⟨h1, h2⟩ => ⟨by simpa using h1, h2⟩
  have e1 := List.all_eq_true.1 acc_all i (List.mem_range.2 hi)
  simp only [Bool.and_eq_true, decide_eq_true_eq] at e1
  exact ⟨hg.cell (g := 1) (l := accL) (by kernel_rfl) (2 * i) .u8 (Lib.accLo i) e1.1, hg.cell (g := 1) (l := accL) (by kernel_rfl) (2 * i + 1) .u8 (Lib.accHi i) e1.2⟩
theorem isMoment_any (n : Int) : Does Tryz.prog 67 [I n] [] (B (decide (0 ≤ n) && decide (n < 5761440))) [] := by
  refine Does.of_AW (n := 9) Tryz.func67 rfl rfl rfl fun cx hcx => ?_
  repeat' (first | (refine AW.sreg rfl fun K hK => ?_; simp only [go_sem, Nat.reduceAdd, Nat.reduceMul, Int.reduceToNat, Nat.reduceLT, Nat.reduceLeDiff, Nat.le_refl, Nat.reduceEqDiff, ↓reduceIte, beq_self_eq_true, bne_self_eq_false, Int.reduceBEq, Int.reduceBNe, or_self, true_or, or_true, Option.map_some, Option.map_none]) | (refine hK _ ?_; clear hK K) | (refine stepB_split (fun h => ?_) (fun h => ?_) <;> (have hb0 := h) <;> (try simp only [Bool.not_eq_true', Bool.not_eq_false'] at hb0) <;> (try simp only [decide_eq_true_eq, decide_eq_false_iff_not, Bool.not_eq_true', Bool.not_eq_false', Bool.not_eq_eq_eq_not, Bool.not_true, Bool.not_false, beq_iff_eq, bne_iff_ne, beq_eq_false_iff_ne, ne_eq, Bool.and_eq_true, Bool.or_eq_true, Bool.or_eq_false_iff] at h) <;> simp only [go_sem, Nat.reduceAdd, Nat.reduceMul, Int.reduceToNat, Nat.reduceLT, Nat.reduceLeDiff, Nat.le_refl, Nat.reduceEqDiff, ↓reduceIte, beq_self_eq_true, bne_self_eq_false, Int.reduceBEq, Int.reduceBNe, or_self, true_or, or_true, Option.map_some, Option.map_none, hb0, h, decide_true, decide_false] <;> (try clear hb0)) | (refine AW.ret (Fin.data rfl (by first | (simp only [go_sem]; done) | (simp [go_sem, *]; done) | (simp [go_sem]; omega) | rfl) rfl)))
def sufN (s : Str) : Bool := decide (1 ≤ s.length) && s.drop (s.length - 1) == [10]
theorem hasSuffix_any (s : Str) (hl : s.length ≤ 1000000) : Does Tryz.prog 112 [S s, S [10]] [] (B (sufN s)) [] := by
  have h1 : Does Tryz.prog 154 [S s, S [10]] [] (B (sufN s)) [] := by
    refine Does.of_AW (n := 21) Tryz.func154 rfl rfl rfl fun cx hcx => ?_
    unfold sufN
    by_cases h0 : 1 ≤ s.length
    · have e1 : ((s.length : Int) - ((1 : Nat) : Int)).toNat = s.length - 1 := by omega
      have e2 : (s.drop (s.length - 1)).take (s.length - (s.length - 1)) = s.drop (s.length - 1) := List.take_of_length_le (by simp)
      repeat' (first | (refine AW.sreg rfl fun K hK => ?_; simp only [go_sem, Nat.reduceAdd, Nat.reduceMul, Int.reduceToNat, Nat.reduceLT, Nat.reduceLeDiff, Nat.le_refl, Nat.reduceEqDiff, ↓reduceIte, beq_self_eq_true, bne_self_eq_false, Int.reduceBEq, Int.reduceBNe, or_self, true_or, or_true, Option.map_some, Option.map_none, List.length_cons, List.length_nil, e1, e2]) | (refine hK _ ?_; clear hK K) | (refine stepB_split (fun h => ?_) (fun h => ?_) <;> (have hb0 := h) <;> (try simp only [Bool.not_eq_true', Bool.not_eq_false'] at hb0) <;> (try simp only [decide_eq_true_eq, decide_eq_false_iff_not, Bool.not_eq_true', Bool.not_eq_false', Bool.not_eq_eq_eq_not, Bool.not_true, Bool.not_false, beq_iff_eq, bne_iff_ne, beq_eq_false_iff_ne, ne_eq, Bool.and_eq_true, Bool.or_eq_true, Bool.or_eq_false_iff] at h) <;> simp only [go_sem, Nat.reduceAdd, Nat.reduceMul, Int.reduceToNat, Nat.reduceLT, Nat.reduceLeDiff, Nat.le_refl, Nat.reduceEqDiff, ↓reduceIte, beq_self_eq_true, bne_self_eq_false, Int.reduceBEq, Int.reduceBNe, or_self, true_or, or_true, Option.map_some, Option.map_none, hb0, h, decide_true, decide_false, List.length_cons, List.length_nil, e1, e2] <;> (try clear hb0)) | (with_reducible refine And.intro ?_ ?_; first | omega | assumption | (focus (decide)) | (focus (simp; done)) | (focus (simp; omega)) | (focus (constructor <;> omega)) | fail) | (exfalso; omega))
      exact AW.ret (Fin.data rfl (by simp [go_sem, h0]) rfl)
    · have e0 : s = [] := List.eq_nil_of_length_eq_zero (by omega)
      subst e0
      repeat' (first | (refine AW.sreg rfl fun K hK => ?_; simp only [go_sem, Nat.reduceAdd, Nat.reduceMul, Int.reduceToNat, Nat.reduceLT, Nat.reduceLeDiff, Nat.le_refl, Nat.reduceEqDiff, ↓reduceIte, beq_self_eq_true, bne_self_eq_false, Int.reduceBEq, Int.reduceBNe, or_self, true_or, or_true, Option.map_some, Option.map_none]) | (refine hK _ ?_; clear hK K) | (refine stepB_split (fun h => ?_) (fun h => ?_) <;> (have hb0 := h) <;> (try simp only [Bool.not_eq_true', Bool.not_eq_false'] at hb0) <;> (try simp only [decide_eq_true_eq, decide_eq_false_iff_not, Bool.not_eq_true', Bool.not_eq_false', Bool.not_eq_eq_eq_not, Bool.not_true, Bool.not_false, beq_iff_eq, bne_iff_ne, beq_eq_false_iff_ne, ne_eq, Bool.and_eq_true, Bool.or_eq_true, Bool.or_eq_false_iff] at h) <;> simp only [go_sem, Nat.reduceAdd, Nat.reduceMul, Int.reduceToNat, Nat.reduceLT, Nat.reduceLeDiff, Nat.le_refl, Nat.reduceEqDiff, ↓reduceIte, beq_self_eq_true, bne_self_eq_false, Int.reduceBEq, Int.reduceBNe, or_self, true_or, or_true, Option.map_some, Option.map_none, hb0, h, decide_true, decide_false] <;> (try clear hb0)) | (with_reducible refine And.intro ?_ ?_; first | omega | assumption | (focus (decide)) | (focus (simp; done)) | (focus (simp; omega)) | (focus (constructor <;> omega)) | fail) | (refine AW.ret (Fin.data rfl (by first | (simp only [go_sem]; done) | (simp [go_sem, *]; done) | (simp [go_sem]; omega) | rfl) rfl)))
  refine Does.of_AW (n := 8) Tryz.func112 rfl rfl rfl fun cx hcx => ?_
  repeat' (first | ((first | refine AW.sreg rfl fun K hK => ?_ | refine run_call _ _ _ ((h1).pure rfl rfl _ _) rfl rfl (dstOk_of rfl) rfl rfl rfl ?_); simp only [go_sem, Nat.reduceAdd, Nat.reduceMul, Int.reduceToNat, Nat.reduceLT, Nat.reduceLeDiff, Nat.le_refl, Nat.reduceEqDiff, ↓reduceIte, beq_self_eq_true, bne_self_eq_false, Int.reduceBEq, Int.reduceBNe, or_self, true_or, or_true, Option.map_some, Option.map_none]) | (refine hK _ ?_; clear hK K) | (refine AW.ret (Fin.data rfl (by first | (simp only [go_sem]; done) | (simp [go_sem, *]; done) | (simp [go_sem]; omega) | rfl) rfl)))
def okT (c : UInt8) : Bool := !((decide ((c.toNat : Int) < 32) && !((c.toNat : Int) == 10)) || (c.toNat : Int) == 127)
def textB (s : Str) : Bool := s.all okT && (Lib.validD s && (s == [] || sufN s))
theorem isText_any (s : Str) (hl : s.length ≤ 1000000) : Does Tryz.prog 71 [S s] [] (B (textB s)) [] := by
  have hv := valid_any s hl
  have hs := hasSuffix_any s hl
  refine Does.of_AW (n := 36) Tryz.func71 rfl rfl rfl fun cx hcx => ?_
  unfold textB
  generalize hR : (s.all okT && (Lib.validD s && (s == [] || sufN s))) = R
  generalize hU : (Lib.validD s && (s == [] || sufN s)) = U at hR
  repeat' (first | (refine AW.sreg rfl fun K hK => ?_; simp only [go_sem, Nat.reduceAdd, Nat.reduceMul, Int.reduceToNat, Nat.reduceLT, Nat.reduceLeDiff, Nat.le_refl, Nat.reduceEqDiff, ↓reduceIte, beq_self_eq_true, bne_self_eq_false, Int.reduceBEq, Int.reduceBNe, or_self, true_or, or_true, Option.map_some, Option.map_none]) | (refine AW.seq_k fun K hK => ?_) | (refine AW.block ?_) | (refine hK _ ?_; clear hK K))
  refine AW.loopF (ι := Nat) [0] (fun p => [(3, I p)]) (fun p => []) 1 (fun p => p ≤ s.length ∧ ((s.drop p).all okT && U) = R) (fun p => s.length - p) 0 ⟨by simp, by simpa using hR⟩ (Weak.auto hcx rfl rfl (Nat.le_of_ble_eq_true rfl) (by simp [go_sem, gL, kL, renOf, V.obj, lk, Nat.blt, Nat.ble, List.map_append, dv_push]) (by simp [go_sem, gL, kL, renOf, V.obj, lk, Nat.blt, Nat.ble, List.map_append, dv_push]) (by first | (intro i hi; exact absurd hi (Nat.not_lt_zero _)) | (intro i0 hi0; match i0, hi0 with | 0, _ => exact ⟨_, rfl⟩ | n0+1, h0 => exact absurd h0 (Nat.not_lt.2 (Nat.le_add_left 1 n0))) | (intro i0 hi0; match i0, hi0 with | 0, _ => exact ⟨_, rfl⟩ | 1, _ => exact ⟨_, rfl⟩ | n0+2, h0 => exact absurd h0 (Nat.not_lt.2 (Nat.le_add_left 2 n0))) | (intro i0 hi0; match i0, hi0 with | 0, _ => exact ⟨_, rfl⟩ | 1, _ => exact ⟨_, rfl⟩ | 2, _ => exact ⟨_, rfl⟩ | n0+3, h0 => exact absurd h0 (Nat.not_lt.2 (Nat.le_add_left 3 n0))) | (intro i0 hi0; match i0, hi0 with | 0, _ => exact ⟨_, rfl⟩ | 1, _ => exact ⟨_, rfl⟩ | 2, _ => exact ⟨_, rfl⟩ | 3, _ => exact ⟨_, rfl⟩ | n0+4, h0 => exact absurd h0 (Nat.not_lt.2 (Nat.le_add_left 4 n0)))) (by simp [go_sem, gL, kL, lk, renOf, V.obj, Nat.blt, Nat.ble])) ?_; simp only [St.at_nil, St.at_cons, lk, Nat.reduceEqDiff, ↓reduceIte, Option.getD_some, Option.getD_none, List.cons_append, List.nil_append, List.append_nil]
  rintro i ⟨h1, h2⟩
  by_cases hi : i < s.length
  · obtain ⟨c, hc, hcm, hcd⟩ := get_some hi
    rw [hcd, List.all_cons] at h2
    repeat' (first | ((first | refine AW.sreg rfl fun K hK => ?_ | refine AW.reg rfl ?_); simp only [go_sem, Nat.reduceAdd, Nat.reduceMul, Int.reduceToNat, Nat.reduceLT, Nat.reduceLeDiff, Nat.le_refl, Nat.reduceEqDiff, ↓reduceIte, beq_self_eq_true, bne_self_eq_false, Int.reduceBEq, Int.reduceBNe, or_self, true_or, or_true, Option.map_some, Option.map_none, hc]) | (refine AW.seq_k fun K hK => ?_) | (refine AW.block ?_) | (refine AW.skip ?_; simp only [Then, InBlock]) | (refine AW.condT rfl (by first | rfl | (simp; omega) | (simp [*]; done) | fail) ?_) | (refine AW.condF rfl (by first | rfl | (simp; omega) | (simp [*]; done) | fail) ?_) | (refine AW.cond rfl (fun h => ?_) (fun h => ?_) <;> (try simp only [decide_eq_true_eq, decide_eq_false_iff_not, Bool.not_eq_true', Bool.not_eq_false', Bool.not_eq_eq_eq_not, Bool.not_true, Bool.not_false, beq_iff_eq, bne_iff_ne, beq_eq_false_iff_ne, ne_eq, Bool.and_eq_true, Bool.or_eq_true, Bool.or_eq_false_iff] at h)) | (refine hK _ ?_; clear hK K) | (refine stepB_split (fun h => ?_) (fun h => ?_) <;> (have hb0 := h) <;> (try simp only [Bool.not_eq_true', Bool.not_eq_false'] at hb0) <;> (try simp only [decide_eq_true_eq, decide_eq_false_iff_not, Bool.not_eq_true', Bool.not_eq_false', Bool.not_eq_eq_eq_not, Bool.not_true, Bool.not_false, beq_iff_eq, bne_iff_ne, beq_eq_false_iff_ne, ne_eq, Bool.and_eq_true, Bool.or_eq_true, Bool.or_eq_false_iff] at h) <;> simp only [go_sem, Nat.reduceAdd, Nat.reduceMul, Int.reduceToNat, Nat.reduceLT, Nat.reduceLeDiff, Nat.le_refl, Nat.reduceEqDiff, ↓reduceIte, beq_self_eq_true, bne_self_eq_false, Int.reduceBEq, Int.reduceBNe, or_self, true_or, or_true, Option.map_some, Option.map_none, hb0, h, decide_true, decide_false, hc] <;> (try clear hb0)) | (with_reducible refine And.intro ?_ ?_; first | omega | assumption | (focus (decide)) | (focus (simp; done)) | (focus (simp; omega)) | (focus (constructor <;> omega)) | fail))
    all_goals first
      | (have hok : okT c = true := by (try simp only [bne_eq_false_iff_eq] at *); simp [okT]; omega
         rw [hok, Bool.true_and] at h2
         exact ⟨i + 1, ⟨hi, h2⟩, by omega, (Weak.auto hcx rfl rfl (Nat.le_of_ble_eq_true rfl) (by simp [go_sem, gL, kL, renOf, V.obj, lk, Nat.blt, Nat.ble, List.map_append, dv_push]) (by simp [go_sem, gL, kL, renOf, V.obj, lk, Nat.blt, Nat.ble, List.map_append, dv_push]) (by first | (intro i hi; exact absurd hi (Nat.not_lt_zero _)) | (intro i0 hi0; match i0, hi0 with | 0, _ => exact ⟨_, rfl⟩ | n0+1, h0 => exact absurd h0 (Nat.not_lt.2 (Nat.le_add_left 1 n0))) | (intro i0 hi0; match i0, hi0 with | 0, _ => exact ⟨_, rfl⟩ | 1, _ => exact ⟨_, rfl⟩ | n0+2, h0 => exact absurd h0 (Nat.not_lt.2 (Nat.le_add_left 2 n0))) | (intro i0 hi0; match i0, hi0 with | 0, _ => exact ⟨_, rfl⟩ | 1, _ => exact ⟨_, rfl⟩ | 2, _ => exact ⟨_, rfl⟩ | n0+3, h0 => exact absurd h0 (Nat.not_lt.2 (Nat.le_add_left 3 n0))) | (intro i0 hi0; match i0, hi0 with | 0, _ => exact ⟨_, rfl⟩ | 1, _ => exact ⟨_, rfl⟩ | 2, _ => exact ⟨_, rfl⟩ | 3, _ => exact ⟨_, rfl⟩ | n0+4, h0 => exact absurd h0 (Nat.not_lt.2 (Nat.le_add_left 4 n0)))) (by simp [go_sem, gL, kL, lk, renOf, V.obj, Nat.blt, Nat.ble]))⟩)
      | (have hok : okT c = false := by (try simp only [bne_eq_false_iff_eq] at *); simp [okT]; omega
         rw [hok, Bool.false_and, Bool.false_and] at h2
         subst h2
         exact AW.ret (Fin.data rfl (by simp [go_sem]; done) rfl))
      | (have hok : okT c = false := by (try simp only [bne_eq_false_iff_eq] at *); simp [okT]; omega
         rw [hok, Bool.false_and, Bool.false_and] at h2
         subst h2
         exact AW.ret (Fin.data rfl (by simp [go_sem]; omega) rfl))
      | trace_state
  · obtain rfl : i = s.length := by omega
    simp only [List.drop_length, List.all_nil, Bool.true_and] at h2
    subst h2
    subst hU
    repeat' (first | ((first | refine AW.sreg rfl fun K hK => ?_ | refine run_call _ _ _ ((hv).pure rfl rfl _ _) rfl rfl (dstOk_of rfl) rfl rfl rfl ?_ | refine run_call _ _ _ ((hs).pure rfl rfl _ _) rfl rfl (dstOk_of rfl) rfl rfl rfl ?_); simp only [go_sem, Nat.reduceAdd, Nat.reduceMul, Int.reduceToNat, Nat.reduceLT, Nat.reduceLeDiff, Nat.le_refl, Nat.reduceEqDiff, ↓reduceIte, beq_self_eq_true, bne_self_eq_false, Int.reduceBEq, Int.reduceBNe, or_self, true_or, or_true, Option.map_some, Option.map_none]) | (refine AW.seq_k fun K hK => ?_) | (refine AW.exit ?_; simp only [go_sem, ↓reduceIte]) | (refine AW.condF rfl (by first | rfl | (simp; omega) | (simp [*]; done) | fail) ?_) | (refine hK _ ?_; clear hK K) | (clear hK K; refine hK _ ?_; clear hK K) | (refine stepB_split (fun h => ?_) (fun h => ?_) <;> (have hb0 := h) <;> (try simp only [Bool.not_eq_true', Bool.not_eq_false'] at hb0) <;> (try simp only [decide_eq_true_eq, decide_eq_false_iff_not, Bool.not_eq_true', Bool.not_eq_false', Bool.not_eq_eq_eq_not, Bool.not_true, Bool.not_false, beq_iff_eq, bne_iff_ne, beq_eq_false_iff_ne, ne_eq, Bool.and_eq_true, Bool.or_eq_true, Bool.or_eq_false_iff] at h) <;> simp only [go_sem, Nat.reduceAdd, Nat.reduceMul, Int.reduceToNat, Nat.reduceLT, Nat.reduceLeDiff, Nat.le_refl, Nat.reduceEqDiff, ↓reduceIte, beq_self_eq_true, bne_self_eq_false, Int.reduceBEq, Int.reduceBNe, or_self, true_or, or_true, Option.map_some, Option.map_none, hb0, h, decide_true, decide_false] <;> (try clear hb0)))
    all_goals first | exact AW.ret (Fin.data rfl (by simp_all [go_sem]; done) rfl) | trace_state
theorem inR_any (n lo hi : Int) : Does Tryz.prog 101 [I n, I lo, I hi] [] (B (decide (lo ≤ n) && decide (n ≤ hi))) [] := by
  refine Does.of_AW (n := 15) Tryz.func101 rfl rfl rfl fun cx hcx => ?_
  by_cases h : lo ≤ n
  · repeat' (first | (refine AW.sreg rfl fun K hK => ?_; simp only [go_sem, Nat.reduceAdd, Nat.reduceMul, Int.reduceToNat, Nat.reduceLT, Nat.reduceLeDiff, Nat.le_refl, Nat.reduceEqDiff, ↓reduceIte, beq_self_eq_true, bne_self_eq_false, Int.reduceBEq, Int.reduceBNe, or_self, true_or, or_true, Option.map_some, Option.map_none, h]) | (refine hK _ ?_; clear hK K) | (refine AW.ret (Fin.data rfl (by first | (simp only [go_sem]; done) | (simp [go_sem, *]; done) | (simp [go_sem]; omega) | rfl) rfl)))
  · repeat' (first | (refine AW.sreg rfl fun K hK => ?_; simp only [go_sem, Nat.reduceAdd, Nat.reduceMul, Int.reduceToNat, Nat.reduceLT, Nat.reduceLeDiff, Nat.le_refl, Nat.reduceEqDiff, ↓reduceIte, beq_self_eq_true, bne_self_eq_false, Int.reduceBEq, Int.reduceBNe, or_self, true_or, or_true, Option.map_some, Option.map_none, h]) | (refine hK _ ?_; clear hK K) | (refine stepB_split (fun h => ?_) (fun h => ?_) <;> (have hb0 := h) <;> (try simp only [Bool.not_eq_true', Bool.not_eq_false'] at hb0) <;> (try simp only [decide_eq_true_eq, decide_eq_false_iff_not, Bool.not_eq_true', Bool.not_eq_false', Bool.not_eq_eq_eq_not, Bool.not_true, Bool.not_false, beq_iff_eq, bne_iff_ne, beq_eq_false_iff_ne, ne_eq, Bool.and_eq_true, Bool.or_eq_true, Bool.or_eq_false_iff] at h) <;> simp only [go_sem, Nat.reduceAdd, Nat.reduceMul, Int.reduceToNat, Nat.reduceLT, Nat.reduceLeDiff, Nat.le_refl, Nat.reduceEqDiff, ↓reduceIte, beq_self_eq_true, bne_self_eq_false, Int.reduceBEq, Int.reduceBNe, or_self, true_or, or_true, Option.map_some, Option.map_none, hb0, h, decide_true, decide_false, h] <;> (try clear hb0)) | (refine AW.ret (Fin.data rfl (by first | (simp only [go_sem]; done) | (simp [go_sem, *]; done) | (simp [go_sem]; omega) | rfl) rfl)))
def momB (n : Int) : Bool := decide (0 ≤ n) && decide (n < 5761440)
theorem momR_any (n : Int) : Does Tryz.prog 99 [I n] [] (B (momB n)) [] := by
  have h := inR_any n 0 5761439
  have e : momB n = (decide (0 ≤ n) && decide (n ≤ 5761439)) := by
    unfold momB
    congr 1
    exact decide_eq_decide.2 (by omega)
  rw [e]
  refine Does.of_AW (n := 5) Tryz.func99 rfl rfl rfl fun cx hcx => ?_
  repeat' (first | ((first | refine AW.sreg rfl fun K hK => ?_ | refine run_call _ _ _ ((h).pure rfl rfl _ _) rfl rfl (dstOk_of rfl) rfl rfl rfl ?_); simp only [go_sem, Nat.reduceAdd, Nat.reduceMul, Int.reduceToNat, Nat.reduceLT, Nat.reduceLeDiff, Nat.le_refl, Nat.reduceEqDiff, ↓reduceIte, beq_self_eq_true, bne_self_eq_false, Int.reduceBEq, Int.reduceBNe, or_self, true_or, or_true, Option.map_some, Option.map_none]) | (refine hK _ ?_; clear hK K) | (refine AW.ret (Fin.data rfl (by first | (simp only [go_sem]; done) | (simp [go_sem, *]; done) | (simp [go_sem]; omega) | rfl) rfl)))
/-- The last byte is a newline. -/
def endN (s : Str) : Bool := (s[s.length - 1]?.getD 0).toNat == 10
def textR (s : Str) : Bool := s.all okT && (Lib.validD s && (s == [] || endN s))
theorem isTextR_any (s : Str) (hl : s.length ≤ 1000000) : Does Tryz.prog 102 [S s] [] (B (textR s)) [] := by
  have hv := valid_any s hl
  refine Does.of_AW (n := 40) Tryz.func102 rfl rfl rfl fun cx hcx => ?_
  unfold textR
  generalize hR : (s.all okT && (Lib.validD s && (s == [] || endN s))) = R
  generalize hU : (Lib.validD s && (s == [] || endN s)) = U at hR
  repeat' (first | (refine AW.sreg rfl fun K hK => ?_; simp only [go_sem, Nat.reduceAdd, Nat.reduceMul, Int.reduceToNat, Nat.reduceLT, Nat.reduceLeDiff, Nat.le_refl, Nat.reduceEqDiff, ↓reduceIte, beq_self_eq_true, bne_self_eq_false, Int.reduceBEq, Int.reduceBNe, or_self, true_or, or_true, Option.map_some, Option.map_none]) | (refine AW.seq_k fun K hK => ?_) | (refine AW.block ?_) | (refine hK _ ?_; clear hK K))
  refine AW.loopF (ι := Nat) [0, 5] (fun p => [(6, I p)]) (fun p => []) 1 (fun p => p ≤ s.length ∧ ((s.drop p).all okT && U) = R) (fun p => s.length - p) 0 ⟨by simp, by simpa using hR⟩ (Weak.auto hcx rfl rfl (Nat.le_of_ble_eq_true rfl) (by simp [go_sem, gL, kL, renOf, V.obj, lk, Nat.blt, Nat.ble, List.map_append, dv_push]) (by simp [go_sem, gL, kL, renOf, V.obj, lk, Nat.blt, Nat.ble, List.map_append, dv_push]) (by first | (intro i hi; exact absurd hi (Nat.not_lt_zero _)) | (intro i0 hi0; match i0, hi0 with | 0, _ => exact ⟨_, rfl⟩ | n0+1, h0 => exact absurd h0 (Nat.not_lt.2 (Nat.le_add_left 1 n0))) | (intro i0 hi0; match i0, hi0 with | 0, _ => exact ⟨_, rfl⟩ | 1, _ => exact ⟨_, rfl⟩ | n0+2, h0 => exact absurd h0 (Nat.not_lt.2 (Nat.le_add_left 2 n0))) | (intro i0 hi0; match i0, hi0 with | 0, _ => exact ⟨_, rfl⟩ | 1, _ => exact ⟨_, rfl⟩ | 2, _ => exact ⟨_, rfl⟩ | n0+3, h0 => exact absurd h0 (Nat.not_lt.2 (Nat.le_add_left 3 n0))) | (intro i0 hi0; match i0, hi0 with | 0, _ => exact ⟨_, rfl⟩ | 1, _ => exact ⟨_, rfl⟩ | 2, _ => exact ⟨_, rfl⟩ | 3, _ => exact ⟨_, rfl⟩ | n0+4, h0 => exact absurd h0 (Nat.not_lt.2 (Nat.le_add_left 4 n0)))) (by simp [go_sem, gL, kL, lk, renOf, V.obj, Nat.blt, Nat.ble])) ?_; simp only [St.at_nil, St.at_cons, lk, Nat.reduceEqDiff, ↓reduceIte, Option.getD_some, Option.getD_none, List.cons_append, List.nil_append, List.append_nil]
  rintro i ⟨h1, h2⟩
  by_cases hi : i < s.length
  · obtain ⟨c, hc, hcm, hcd⟩ := get_some hi
    rw [hcd, List.all_cons] at h2
    repeat' (first | ((first | refine AW.sreg rfl fun K hK => ?_ | refine AW.reg rfl ?_); simp only [go_sem, Nat.reduceAdd, Nat.reduceMul, Int.reduceToNat, Nat.reduceLT, Nat.reduceLeDiff, Nat.le_refl, Nat.reduceEqDiff, ↓reduceIte, beq_self_eq_true, bne_self_eq_false, Int.reduceBEq, Int.reduceBNe, or_self, true_or, or_true, Option.map_some, Option.map_none, hc]) | (refine AW.seq_k fun K hK => ?_) | (refine AW.block ?_) | (refine AW.skip ?_; simp only [Then, InBlock]) | (refine AW.condT rfl (by first | rfl | (simp; omega) | (simp [*]; done) | fail) ?_) | (refine AW.condF rfl (by first | rfl | (simp; omega) | (simp [*]; done) | fail) ?_) | (refine AW.cond rfl (fun h => ?_) (fun h => ?_) <;> (try simp only [decide_eq_true_eq, decide_eq_false_iff_not, Bool.not_eq_true', Bool.not_eq_false', Bool.not_eq_eq_eq_not, Bool.not_true, Bool.not_false, beq_iff_eq, bne_iff_ne, beq_eq_false_iff_ne, ne_eq, Bool.and_eq_true, Bool.or_eq_true, Bool.or_eq_false_iff] at h)) | (refine hK _ ?_; clear hK K) | (refine stepB_split (fun h => ?_) (fun h => ?_) <;> (have hb0 := h) <;> (try simp only [Bool.not_eq_true', Bool.not_eq_false'] at hb0) <;> (try simp only [decide_eq_true_eq, decide_eq_false_iff_not, Bool.not_eq_true', Bool.not_eq_false', Bool.not_eq_eq_eq_not, Bool.not_true, Bool.not_false, beq_iff_eq, bne_iff_ne, beq_eq_false_iff_ne, ne_eq, Bool.and_eq_true, Bool.or_eq_true, Bool.or_eq_false_iff] at h) <;> simp only [go_sem, Nat.reduceAdd, Nat.reduceMul, Int.reduceToNat, Nat.reduceLT, Nat.reduceLeDiff, Nat.le_refl, Nat.reduceEqDiff, ↓reduceIte, beq_self_eq_true, bne_self_eq_false, Int.reduceBEq, Int.reduceBNe, or_self, true_or, or_true, Option.map_some, Option.map_none, hb0, h, decide_true, decide_false, hc] <;> (try clear hb0)) | (with_reducible refine And.intro ?_ ?_; first | omega | assumption | (focus (decide)) | (focus (simp; done)) | (focus (simp; omega)) | (focus (constructor <;> omega)) | fail))
    all_goals first
      | (have hok : okT c = true := by (try simp only [bne_eq_false_iff_eq] at *); simp [okT]; omega
         rw [hok, Bool.true_and] at h2
         exact ⟨i + 1, ⟨hi, h2⟩, by omega, (Weak.auto hcx rfl rfl (Nat.le_of_ble_eq_true rfl) (by simp [go_sem, gL, kL, renOf, V.obj, lk, Nat.blt, Nat.ble, List.map_append, dv_push]) (by simp [go_sem, gL, kL, renOf, V.obj, lk, Nat.blt, Nat.ble, List.map_append, dv_push]) (by first | (intro i hi; exact absurd hi (Nat.not_lt_zero _)) | (intro i0 hi0; match i0, hi0 with | 0, _ => exact ⟨_, rfl⟩ | n0+1, h0 => exact absurd h0 (Nat.not_lt.2 (Nat.le_add_left 1 n0))) | (intro i0 hi0; match i0, hi0 with | 0, _ => exact ⟨_, rfl⟩ | 1, _ => exact ⟨_, rfl⟩ | n0+2, h0 => exact absurd h0 (Nat.not_lt.2 (Nat.le_add_left 2 n0))) | (intro i0 hi0; match i0, hi0 with | 0, _ => exact ⟨_, rfl⟩ | 1, _ => exact ⟨_, rfl⟩ | 2, _ => exact ⟨_, rfl⟩ | n0+3, h0 => exact absurd h0 (Nat.not_lt.2 (Nat.le_add_left 3 n0))) | (intro i0 hi0; match i0, hi0 with | 0, _ => exact ⟨_, rfl⟩ | 1, _ => exact ⟨_, rfl⟩ | 2, _ => exact ⟨_, rfl⟩ | 3, _ => exact ⟨_, rfl⟩ | n0+4, h0 => exact absurd h0 (Nat.not_lt.2 (Nat.le_add_left 4 n0)))) (by simp [go_sem, gL, kL, lk, renOf, V.obj, Nat.blt, Nat.ble]))⟩)
      | (have hok : okT c = false := by (try simp only [bne_eq_false_iff_eq] at *); simp [okT]; omega
         rw [hok, Bool.false_and, Bool.false_and] at h2
         subst h2
         exact AW.ret (Fin.data rfl (by simp [go_sem]; done) rfl))
      | (have hok : okT c = false := by (try simp only [bne_eq_false_iff_eq] at *); simp [okT]; omega
         rw [hok, Bool.false_and, Bool.false_and] at h2
         subst h2
         exact AW.ret (Fin.data rfl (by simp [go_sem]; omega) rfl))
      | trace_state
  · obtain rfl : i = s.length := by omega
    simp only [List.drop_length, List.all_nil, Bool.true_and] at h2
    subst h2
    subst hU
    by_cases h0 : s = []
    · subst h0
      repeat' (first | ((first | refine AW.sreg rfl fun K hK => ?_ | refine run_call _ _ _ ((hv).pure rfl rfl _ _) rfl rfl (dstOk_of rfl) rfl rfl rfl ?_); simp only [go_sem, Nat.reduceAdd, Nat.reduceMul, Int.reduceToNat, Nat.reduceLT, Nat.reduceLeDiff, Nat.le_refl, Nat.reduceEqDiff, ↓reduceIte, beq_self_eq_true, bne_self_eq_false, Int.reduceBEq, Int.reduceBNe, or_self, true_or, or_true, Option.map_some, Option.map_none]) | (refine AW.seq_k fun K hK => ?_) | (refine AW.exit ?_; simp only [go_sem, ↓reduceIte]) | (refine AW.condF rfl (by first | rfl | (simp; omega) | (simp [*]; done) | fail) ?_) | (refine hK _ ?_; clear hK K) | (clear hK K; refine hK _ ?_; clear hK K) | (refine stepB_split (fun h => ?_) (fun h => ?_) <;> (have hb0 := h) <;> (try simp only [Bool.not_eq_true', Bool.not_eq_false'] at hb0) <;> (try simp only [decide_eq_true_eq, decide_eq_false_iff_not, Bool.not_eq_true', Bool.not_eq_false', Bool.not_eq_eq_eq_not, Bool.not_true, Bool.not_false, beq_iff_eq, bne_iff_ne, beq_eq_false_iff_ne, ne_eq, Bool.and_eq_true, Bool.or_eq_true, Bool.or_eq_false_iff] at h) <;> simp only [go_sem, Nat.reduceAdd, Nat.reduceMul, Int.reduceToNat, Nat.reduceLT, Nat.reduceLeDiff, Nat.le_refl, Nat.reduceEqDiff, ↓reduceIte, beq_self_eq_true, bne_self_eq_false, Int.reduceBEq, Int.reduceBNe, or_self, true_or, or_true, Option.map_some, Option.map_none, hb0, h, decide_true, decide_false] <;> (try clear hb0)))
      all_goals first | exact AW.ret (Fin.data rfl (by simp_all [go_sem]; done) rfl) | trace_state
    · have hpos : 0 < s.length := List.length_pos_iff.2 h0
      obtain ⟨c, hc, -, -⟩ := get_some (l := s) (i := s.length - 1) (by omega)
      have e1 : ((s.length : Int) - 1).toNat = s.length - 1 := by omega
      have he : endN s = ((c.toNat : Int) == 10) := by
        unfold endN
        rw [hc]
        by_cases h : c.toNat = 10
        · simp [h]
        · have h2 : ¬ (c.toNat : Int) = 10 := by omega
          rw [Option.getD_some, beq_eq_false_iff_ne.2 h, beq_eq_false_iff_ne.2 h2]
      have hb : (s == []) = false := by simpa using h0
      repeat' (first | ((first | refine AW.sreg rfl fun K hK => ?_ | refine run_call _ _ _ ((hv).pure rfl rfl _ _) rfl rfl (dstOk_of rfl) rfl rfl rfl ?_); simp only [go_sem, Nat.reduceAdd, Nat.reduceMul, Int.reduceToNat, Nat.reduceLT, Nat.reduceLeDiff, Nat.le_refl, Nat.reduceEqDiff, ↓reduceIte, beq_self_eq_true, bne_self_eq_false, Int.reduceBEq, Int.reduceBNe, or_self, true_or, or_true, Option.map_some, Option.map_none, e1, hc, hb]) | (refine AW.seq_k fun K hK => ?_) | (refine AW.exit ?_; simp only [go_sem, ↓reduceIte]) | (refine AW.condF rfl (by first | rfl | (simp; omega) | (simp [*]; done) | fail) ?_) | (refine hK _ ?_; clear hK K) | (clear hK K; refine hK _ ?_; clear hK K) | (refine stepB_split (fun h => ?_) (fun h => ?_) <;> (have hb0 := h) <;> (try simp only [Bool.not_eq_true', Bool.not_eq_false'] at hb0) <;> (try simp only [decide_eq_true_eq, decide_eq_false_iff_not, Bool.not_eq_true', Bool.not_eq_false', Bool.not_eq_eq_eq_not, Bool.not_true, Bool.not_false, beq_iff_eq, bne_iff_ne, beq_eq_false_iff_ne, ne_eq, Bool.and_eq_true, Bool.or_eq_true, Bool.or_eq_false_iff] at h) <;> simp only [go_sem, Nat.reduceAdd, Nat.reduceMul, Int.reduceToNat, Nat.reduceLT, Nat.reduceLeDiff, Nat.le_refl, Nat.reduceEqDiff, ↓reduceIte, beq_self_eq_true, bne_self_eq_false, Int.reduceBEq, Int.reduceBNe, or_self, true_or, or_true, Option.map_some, Option.map_none, hb0, h, decide_true, decide_false, e1, hc, hb] <;> (try clear hb0)) | (with_reducible refine And.intro ?_ ?_; first | omega | assumption | (focus (decide)) | (focus (simp; done)) | (focus (simp; omega)) | (focus (constructor <;> omega)) | fail))
      all_goals first | exact AW.ret (Fin.data rfl (by simp_all [go_sem]; done) rfl) | trace_state
/-! posts -/
/-- A post: No, At, Paper, Person, To, Words. -/
abbrev Po := Int × Int × Str × Str × Int × Str
abbrev poD (p : Po) : D := .agg [.int .i64 p.1, .int .i64 p.2.1, .str p.2.2.1, .str p.2.2.2.1, .int .i64 p.2.2.2.2.1, .str p.2.2.2.2.2]
/-- What the answered post has to do with it. -/
def pA (bs : List Po) (pa : Str) (tt : Int) : Bool := !(tt == 0) && ((decide (tt < 1) || decide ((bs.length : Int) < tt)) || (match bs[(tt - 1).toNat]? with | none => false | some q => !(q.2.2.1 == pa)))
def pT (y t : Bool) (bs : List Po) (p : Po) : Int :=
  if (!keyB p.2.2.1 || !keyB p.2.2.2.1) = true then 5
  else if y = false then 16
  else if pA bs p.2.2.1 p.2.2.2.2.1 = true then 8
  else if (p.2.2.2.2.2 == [] || !t) = true then 3
  else if (4000 : Int) < (p.2.2.2.2.2.length : Int) then 2 else 0
def pL (bs : List Po) (at_ : Int) : Bool := match bs.getLast? with
  | none => false
  | some q => decide (at_ < q.2.1)
/-- The error of a post behind others. -/
def pF (may : Str → Str → Int → Bool) (txt : Str → Bool) (bs : List Po) (p : Po) : Int :=
  if ¬ p.1 = (bs.length : Int) + 1 ∨ momB p.2.1 = false then 1
  else if pL bs p.2.1 = true then 7
  else pT (may p.2.2.1 p.2.2.2.1 p.2.1) (txt p.2.2.2.2.2) bs p
/-- The first error of a list, each held against what comes ahead of it. -/
def goF {α : Type} (f : List α → α → Int) : List α → List α → Int
  | _, [] => 0
  | b, p :: r => if f b p ≠ 0 then f b p else goF f (b ++ [p]) r
theorem goF_step {α : Type} (f : List α → α → Int) {xs : List α} {i : Nat} {x : α} (h : xs[i]? = some x) : goF f (xs.take i) (xs.drop i) = if f (xs.take i) x ≠ 0 then f (xs.take i) x else goF f (xs.take (i + 1)) (xs.drop (i + 1)) := by
  have hl : i < xs.length := by
    rcases Nat.lt_or_ge i xs.length with h' | h'
    · exact h'
    · simp [List.getElem?_eq_none h'] at h
  rw [List.getElem?_eq_getElem hl] at h
  have hx : xs[i] = x := by simpa using h
  rw [List.drop_eq_getElem_cons hl, goF, hx, List.take_add_one, List.getElem?_eq_getElem hl, hx]
  rfl
theorem goF_zero {α : Type} (f : List α → α → Int) : ∀ (r b : List α), goF f b r = 0 → ∀ i x, r[i]? = some x → f (b ++ r.take i) x = 0
  | [], b, h, i, x, hx => by simp at hx
  | p :: r, b, h, i, x, hx => by
    simp only [goF] at h
    split at h
    · rename_i hne; exact absurd h hne
    · rename_i h0
      simp only [ne_eq, Decidable.not_not] at h0
      cases i with
      | zero => simp at hx; subst hx; simpa using h0
      | succ i =>
        have := goF_zero f r (b ++ [p]) h i x (by simpa using hx)
        simpa using this
def mayR (b : Bd) (pa pe : Str) (at_ : Int) : Bool := openB b.turns pa at_ && !decide (((pa, pe) : Pr) ∈ b.barred) && ((b.heads.any fun x => pe == x) || decide (((pa, pe) : Pr) ∈ b.pairs))
theorem index_St (xs : List Str) (hl : xs.length ≤ 1000) (v : Str) :
    Does Tryz.prog 152 [.d (.sl (xs.map D.str)), S v] [] (I (idxG (fun x => v == x) xs 0)) [] := by
  refine Does.of_AW (n := 19) Tryz.func152 rfl rfl rfl fun cx hcx => ?_
  generalize hR : idxG (fun x => v == x) xs 0 = R
  repeat' (first | (refine AW.sreg rfl fun K hK => ?_; simp only [go_sem, Nat.reduceAdd, Nat.reduceMul, Int.reduceToNat, Nat.reduceLT, Nat.reduceLeDiff, Nat.le_refl, Nat.reduceEqDiff, ↓reduceIte, beq_self_eq_true, bne_self_eq_false, Int.reduceBEq, Int.reduceBNe, or_self, true_or, or_true, Option.map_some, Option.map_none, List.length_map]) | (refine AW.seq_k fun K hK => ?_) | (refine AW.block ?_) | (refine hK _ ?_; clear hK K))
  refine AW.loopF (ι := Nat) [0, 1, 7] (fun p => [(8, I p)]) (fun p => []) 1 (fun p => p ≤ xs.length ∧ idxG (fun x => v == x) (xs.drop p) p = R) (fun p => xs.length - p) 0 ⟨by simp, hR⟩ (Weak.auto hcx rfl rfl (Nat.le_of_ble_eq_true rfl) (by simp [go_sem, gL, kL, renOf, V.obj, lk, Nat.blt, Nat.ble, List.map_append, dv_push]) (by simp [go_sem, gL, kL, renOf, V.obj, lk, Nat.blt, Nat.ble, List.map_append, dv_push]) (by first | (intro i hi; exact absurd hi (Nat.not_lt_zero _)) | (intro i0 hi0; match i0, hi0 with | 0, _ => exact ⟨_, rfl⟩ | n0+1, h0 => exact absurd h0 (Nat.not_lt.2 (Nat.le_add_left 1 n0))) | (intro i0 hi0; match i0, hi0 with | 0, _ => exact ⟨_, rfl⟩ | 1, _ => exact ⟨_, rfl⟩ | n0+2, h0 => exact absurd h0 (Nat.not_lt.2 (Nat.le_add_left 2 n0))) | (intro i0 hi0; match i0, hi0 with | 0, _ => exact ⟨_, rfl⟩ | 1, _ => exact ⟨_, rfl⟩ | 2, _ => exact ⟨_, rfl⟩ | n0+3, h0 => exact absurd h0 (Nat.not_lt.2 (Nat.le_add_left 3 n0))) | (intro i0 hi0; match i0, hi0 with | 0, _ => exact ⟨_, rfl⟩ | 1, _ => exact ⟨_, rfl⟩ | 2, _ => exact ⟨_, rfl⟩ | 3, _ => exact ⟨_, rfl⟩ | n0+4, h0 => exact absurd h0 (Nat.not_lt.2 (Nat.le_add_left 4 n0)))) (by simp [go_sem, gL, kL, lk, renOf, V.obj, Nat.blt, Nat.ble])) ?_; simp only [St.at_nil, St.at_cons, lk, Nat.reduceEqDiff, ↓reduceIte, Option.getD_some, Option.getD_none, List.cons_append, List.nil_append, List.append_nil]
  rintro i ⟨h1, h2⟩
  by_cases hi : i < xs.length
  · obtain ⟨x, hx, hxm, hxd⟩ := get_some hi
    have hget : (xs.map D.str)[i]? = some (.str x) := by simp [hx]
    rw [hxd, idxG] at h2
    repeat' (first | ((first | refine AW.sreg rfl fun K hK => ?_ | refine AW.reg rfl ?_); simp only [go_sem, Nat.reduceAdd, Nat.reduceMul, Int.reduceToNat, Nat.reduceLT, Nat.reduceLeDiff, Nat.le_refl, Nat.reduceEqDiff, ↓reduceIte, beq_self_eq_true, bne_self_eq_false, Int.reduceBEq, Int.reduceBNe, or_self, true_or, or_true, Option.map_some, Option.map_none, List.length_map, hget]) | (refine AW.seq_k fun K hK => ?_) | (refine AW.block ?_) | (refine AW.skip ?_; simp only [Then, InBlock]) | (refine AW.condT rfl (by first | rfl | (simp; omega) | (simp [*]; done) | fail) ?_) | (refine AW.cond rfl (fun h => ?_) (fun h => ?_) <;> (try simp only [decide_eq_true_eq, decide_eq_false_iff_not, Bool.not_eq_true', Bool.not_eq_false', Bool.not_eq_eq_eq_not, Bool.not_true, Bool.not_false, beq_iff_eq, bne_iff_ne, beq_eq_false_iff_ne, ne_eq, Bool.and_eq_true, Bool.or_eq_true, Bool.or_eq_false_iff] at h)) | (refine hK _ ?_; clear hK K) | (with_reducible refine And.intro ?_ ?_; first | omega | assumption | (focus (decide)) | (focus (simp; done)) | (focus (simp; omega)) | (focus (constructor <;> omega)) | fail) | (refine AW.ret (Fin.data rfl (by first | (simp only [go_sem]; done) | ((rw [if_pos (by simpa using h)] at h2; subst h2; simp [go_sem]); done) | (simp [go_sem]; omega) | rfl) rfl)))
    rw [if_neg (by simpa using h)] at h2
    exact ⟨i + 1, ⟨hi, h2⟩, by omega, (Weak.auto hcx rfl rfl (Nat.le_of_ble_eq_true rfl) (by simp [go_sem, gL, kL, renOf, V.obj, lk, Nat.blt, Nat.ble, List.map_append, dv_push]) (by simp [go_sem, gL, kL, renOf, V.obj, lk, Nat.blt, Nat.ble, List.map_append, dv_push]) (by first | (intro i hi; exact absurd hi (Nat.not_lt_zero _)) | (intro i0 hi0; match i0, hi0 with | 0, _ => exact ⟨_, rfl⟩ | n0+1, h0 => exact absurd h0 (Nat.not_lt.2 (Nat.le_add_left 1 n0))) | (intro i0 hi0; match i0, hi0 with | 0, _ => exact ⟨_, rfl⟩ | 1, _ => exact ⟨_, rfl⟩ | n0+2, h0 => exact absurd h0 (Nat.not_lt.2 (Nat.le_add_left 2 n0))) | (intro i0 hi0; match i0, hi0 with | 0, _ => exact ⟨_, rfl⟩ | 1, _ => exact ⟨_, rfl⟩ | 2, _ => exact ⟨_, rfl⟩ | n0+3, h0 => exact absurd h0 (Nat.not_lt.2 (Nat.le_add_left 3 n0))) | (intro i0 hi0; match i0, hi0 with | 0, _ => exact ⟨_, rfl⟩ | 1, _ => exact ⟨_, rfl⟩ | 2, _ => exact ⟨_, rfl⟩ | 3, _ => exact ⟨_, rfl⟩ | n0+4, h0 => exact absurd h0 (Nat.not_lt.2 (Nat.le_add_left 4 n0)))) (by simp [go_sem, gL, kL, lk, renOf, V.obj, Nat.blt, Nat.ble]))⟩
  · obtain rfl : i = xs.length := by omega
    simp only [List.drop_length, idxG] at h2
    subst h2
    repeat' (first | (refine AW.sreg rfl fun K hK => ?_; simp only [go_sem, Nat.reduceAdd, Nat.reduceMul, Int.reduceToNat, Nat.reduceLT, Nat.reduceLeDiff, Nat.le_refl, Nat.reduceEqDiff, ↓reduceIte, beq_self_eq_true, bne_self_eq_false, Int.reduceBEq, Int.reduceBNe, or_self, true_or, or_true, Option.map_some, Option.map_none, List.length_map]) | (refine AW.seq_k fun K hK => ?_) | (refine AW.exit ?_; simp only [go_sem, ↓reduceIte]) | (refine AW.condF rfl (by first | rfl | (simp; omega) | (simp [*]; done) | fail) ?_) | (refine hK _ ?_; clear hK K) | (clear hK K; refine hK _ ?_; clear hK K) | (refine AW.ret (Fin.data rfl (by first | (simp only [go_sem]; done) | (simp [go_sem, *]; done) | (simp [go_sem]; omega) | rfl) rfl)))
theorem contains_St (xs : List Str) (hl : xs.length ≤ 1000) (v : Str) :
    Does Tryz.prog 110 [.d (.sl (xs.map D.str)), S v] [] (B (xs.any fun x => v == x)) [] := by
  rw [← idxG_any (fun x => v == x) xs 0]
  refine Does.of_AW (n := 9) Tryz.func110 rfl rfl rfl fun cx hcx => ?_
  repeat' (first | ((first | refine AW.sreg rfl fun K hK => ?_ | refine run_call _ _ _ ((index_St xs hl v).pure rfl rfl _ _) rfl rfl (dstOk_of rfl) rfl rfl rfl ?_); simp only [go_sem, Nat.reduceAdd, Nat.reduceMul, Int.reduceToNat, Nat.reduceLT, Nat.reduceLeDiff, Nat.le_refl, Nat.reduceEqDiff, ↓reduceIte, beq_self_eq_true, bne_self_eq_false, Int.reduceBEq, Int.reduceBNe, or_self, true_or, or_true, Option.map_some, Option.map_none]) | (refine hK _ ?_; clear hK K) | (refine AW.ret (Fin.data rfl (by first | (simp only [go_sem]; done) | (simp [go_sem, *]; done) | (simp [go_sem]; omega) | rfl) rfl)))

/-- A board that is not too large. -/
structure BdS (b : Bd) : Prop where
  pairs : b.pairs.length ≤ 100
  barred : b.barred.length ≤ 100
  heads : b.heads.length ≤ 20
  turns : b.turns.length ≤ 100
theorem mayR_any (b : Bd) (hb : BdS b) (pa pe : Str) (at_ : Int) : Does Tryz.prog 100 [.d (bdD b), .d (prD (pa, pe)), I at_] [] (B (mayR b pa pe at_)) [] := by
  have h1 := openAt_any b (by have := hb.turns; omega) pa at_
  have h2 := contains_Pr b.barred (by have := hb.barred; omega) (pa, pe)
  have h3 := contains_Pr b.pairs (by have := hb.pairs; omega) (pa, pe)
  have h4 := contains_St b.heads (by have := hb.heads; omega) pe
  refine Does.of_AW (n := 32) Tryz.func100 rfl rfl rfl fun cx hcx => ?_
  unfold mayR
  generalize openB b.turns pa at_ = c1 at *
  generalize decide (((pa, pe) : Pr) ∈ b.barred) = c2 at *
  generalize decide (((pa, pe) : Pr) ∈ b.pairs) = c3 at *
  generalize (b.heads.any fun x => pe == x) = c4 at *
  cases c1 <;> cases c2 <;> cases c4
  all_goals
    repeat' (first | ((first | refine AW.sreg rfl fun K hK => ?_ | refine run_call _ _ _ ((h1).pure rfl rfl _ _) rfl rfl (dstOk_of rfl) rfl rfl rfl ?_ | refine run_call _ _ _ ((h2).pure rfl rfl _ _) rfl rfl (dstOk_of rfl) rfl rfl rfl ?_ | refine run_call _ _ _ ((h3).pure rfl rfl _ _) rfl rfl (dstOk_of rfl) rfl rfl rfl ?_ | refine run_call _ _ _ ((h4).pure rfl rfl _ _) rfl rfl (dstOk_of rfl) rfl rfl rfl ?_); simp only [go_sem, Nat.reduceAdd, Nat.reduceMul, Int.reduceToNat, Nat.reduceLT, Nat.reduceLeDiff, Nat.le_refl, Nat.reduceEqDiff, ↓reduceIte, beq_self_eq_true, bne_self_eq_false, Int.reduceBEq, Int.reduceBNe, or_self, true_or, or_true, Option.map_some, Option.map_none]) | (refine hK _ ?_; clear hK K))
    all_goals exact AW.ret (Fin.data rfl (by simp [go_sem]; done) rfl)
end Go.AX
