/- Orders by pairs: the plain law. -/
import Derived.Test.YtmcchfkclhpbhaaGreatDoorVH
import Derived.Test.YtmcchfkclhpbhaaGreatDoorAx34
set_option linter.unusedSimpArgs false
set_option linter.unusedVariables false
set_option linter.unnecessarySimpa false
set_option maxRecDepth 1000000
set_option maxHeartbeats 4000000
namespace Go.AX
open Go Go.Proofs Go.RowKit
/-- The one that is before all others is the first one of a stable sort. -/
theorem head_first (v : Str → Int) (ks : List Str) (p : Str) (hp : p ∈ ks) (h : ∀ q ∈ ks, q ≠ p → v q < v p) : ∃ r, isort (fun x y => decide (v y < v x)) ks = p :: r := by
  have hs := isort_sorted (lt := fun x y => decide (v y < v x)) (fun a b h => by simp only [decide_eq_true_eq, decide_eq_false_iff_not] at *; omega) (fun a b c h1 h2 => by simp only [decide_eq_false_iff_not] at *; omega) ks
  have hm := (isort_perm (fun x y => decide (v y < v x)) ks).mem_iff (a := p)
  have hq := fun q => (isort_perm (fun x y => decide (v y < v x)) ks).mem_iff (a := q)
  generalize isort (fun x y => decide (v y < v x)) ks = o at *
  cases o with
  | nil => exact absurd (hm.2 hp) (by simp)
  | cons a r =>
    by_cases ha : a = p
    · exact ⟨r, by rw [ha]⟩
    · exfalso
      have h1 := hm.2 hp
      simp only [List.mem_cons] at h1
      rcases h1 with h1 | h1
      · exact ha h1.symm
      · have h2 := (List.pairwise_cons.1 hs).1 p h1
        have h3 := h a ((hq a).1 (by simp)) ha
        simp only [decide_eq_false_iff_not] at h2
        omega
/-- What contradicts an order. -/
def agC (w : Str → Str → Int) : List Str → Int
  | [] => 0
  | a :: r => (r.map fun b => w b a).sum + agC w r
theorem agC_split (w : Str → Str → Int) (p : Str) (l2 : List Str) : ∀ l1 : List Str, agC w (l1 ++ p :: l2) = agC w (l1 ++ l2) + (l1.map fun x => w p x).sum + (l2.map fun x => w x p).sum
  | [] => by simp only [List.nil_append, agC, List.map_nil, List.sum_nil]; omega
  | a :: l1 => by
    simp only [List.cons_append, agC, agC_split w p l2 l1, List.map_append, List.map_cons, List.sum_append, List.sum_cons]
    omega
theorem sum_lt {α : Type} {f g : α → Int} : ∀ {l : List α}, (∀ x ∈ l, f x < g x) → l ≠ [] → (l.map f).sum < (l.map g).sum
  | [], _, h => absurd rfl h
  | [a], h, _ => by have := h a (by simp); simp; omega
  | a :: b :: l, h, _ => by
    have h1 := sum_lt (l := b :: l) (fun x hx => h x (List.mem_cons_of_mem _ hx)) (by simp)
    have h2 := h a (by simp)
    simp only [List.map_cons, List.sum_cons] at h1 ⊢
    omega
/-- The best order begins with the one that beats all others. -/
theorem cond_first {w : Str → Str → Int} {ps o : List Str} (hnd : ps.Nodup) (ho : o.Perm ps) (hmin : ∀ o', o'.Perm ps → agC w o ≤ agC w o') {p : Str} (hp : p ∈ ps) (hb : ∀ q ∈ ps, q ≠ p → w q p < w p q) : ∃ r, o = p :: r := by
  obtain ⟨l1, l2, rfl⟩ := List.append_of_mem (ho.mem_iff.2 hp)
  cases l1 with
  | nil => exact ⟨l2, rfl⟩
  | cons a l1 =>
    exfalso
    have h1 := hmin (p :: (a :: l1 ++ l2)) ((List.perm_middle.symm).trans ho)
    rw [agC_split] at h1
    simp only [agC, List.map_append, List.sum_append] at h1
    have hn2 := ho.nodup_iff.2 hnd
    have h2 : ∀ x ∈ a :: l1, w x p < w p x := fun x hx => hb x (ho.mem_iff.1 (by simp only [List.mem_append]; exact .inl hx)) fun e => by
      subst e
      have := (List.nodup_append.1 hn2).2.2 x hx x (by simp)
      exact this rfl
    have h3 := sum_lt (f := fun x => w x p) (g := fun x => w p x) h2 (by simp)
    omega
/-- Sets of papers. -/
def bits (n L : Nat) : List Nat := (List.range n).filter fun i => L.testBit i
def clr (L i : Nat) : Nat := if L.testBit i then L - 2 ^ i else L
theorem bit_all : ((List.range 64).all fun L => (List.range 6).all fun i => decide (bitsI .and .i64 (((L : Nat) : Int).fdiv (2 ^ (min i 64))) 1 = if L.testBit i then 1 else 0)) = true := by kernel_rfl
theorem clr_all : ((List.range 64).all fun L => (List.range 6).all fun i => decide (bitsI .andNot .i64 ((L : Nat) : Int) (IntKind.i64.wrap (1 * 2 ^ (min i 64))) = ((clr L i : Nat) : Int))) = true := by kernel_rfl
theorem pow_all : ((List.range 7).all fun n => decide (IntKind.i64.wrap (1 * 2 ^ (min n 64)) = ((2 ^ n : Nat) : Int))) = true := by kernel_rfl
theorem perm_all : ((List.range 7).all fun n => (List.range (2 ^ n)).all fun L => (Nat.beq L 0 || !(bits n L).isEmpty) && (bits n L).all fun i => (bits n L).isPerm (i :: bits n (clr L i)) && Nat.blt (clr L i) L) = true := by kernel_rfl
theorem full_all : ((List.range 7).all fun n => decide (bits n (2 ^ n - 1) = List.range n)) = true := by kernel_rfl
theorem bit_eq {L i : Nat} (hL : L < 64) (hi : i < 6) : bitsI .and .i64 ((L : Int).fdiv (2 ^ (min i 64))) 1 = if L.testBit i then 1 else 0 := by
  have h := List.all_eq_true.1 (List.all_eq_true.1 bit_all L (List.mem_range.2 hL)) i (List.mem_range.2 hi)
  exact of_decide_eq_true h
theorem clr_eq {L i : Nat} (hL : L < 64) (hi : i < 6) : bitsI .andNot .i64 (L : Int) (IntKind.i64.wrap (1 * 2 ^ (min i 64))) = ((clr L i : Nat) : Int) := by
  have h := List.all_eq_true.1 (List.all_eq_true.1 clr_all L (List.mem_range.2 hL)) i (List.mem_range.2 hi)
  exact of_decide_eq_true h
theorem pow_eq {n : Nat} (hn : n ≤ 6) : IntKind.i64.wrap (1 * 2 ^ (min n 64)) = ((2 ^ n : Nat) : Int) := of_decide_eq_true (List.all_eq_true.1 pow_all n (List.mem_range.2 (by omega)))
theorem full_eq {n : Nat} (hn : n ≤ 6) : bits n (2 ^ n - 1) = List.range n := of_decide_eq_true (List.all_eq_true.1 full_all n (List.mem_range.2 (by omega)))
theorem bits_at {n L : Nat} (hn : n ≤ 6) (hL : L < 2 ^ n) : (0 < L → bits n L ≠ []) ∧ ∀ i ∈ bits n L, (bits n L).Perm (i :: bits n (clr L i)) ∧ clr L i < L := by
  have h := List.all_eq_true.1 (List.all_eq_true.1 perm_all n (List.mem_range.2 (by omega))) L (List.mem_range.2 hL)
  simp only [Bool.and_eq_true, Bool.or_eq_true, List.all_eq_true, Bool.not_eq_true', List.isEmpty_eq_false_iff, List.isPerm_iff, Nat.beq_eq_true_eq, Nat.blt_eq] at h
  exact ⟨fun h0 => h.1.resolve_left (fun e => by simp at e; omega), h.2⟩
theorem pow_le {n : Nat} (hn : n ≤ 6) : 2 ^ n ≤ 64 := Nat.pow_le_pow_right (n := 2) (by omega) hn
theorem bits_lt {n L i : Nat} (h : i ∈ bits n L) : i < n ∧ L.testBit i = true := by
  unfold bits at h
  rw [List.mem_filter] at h
  exact ⟨List.mem_range.1 h.1, h.2⟩
theorem bits_mem {n L i : Nat} (h : i < n) (hb : L.testBit i = true) : i ∈ bits n L := by
  unfold bits
  rw [List.mem_filter]
  exact ⟨List.mem_range.2 h, hb⟩
def subS (ps : List Str) (L : Nat) : List Str := (bits ps.length L).map fun i => ps.getD i []
theorem subS_full {ps : List Str} (hn : ps.length ≤ 6) : subS ps (2 ^ ps.length - 1) = ps := by
  unfold subS
  rw [full_eq hn]
  apply List.ext_getElem?
  intro i
  rw [List.getElem?_map]
  by_cases hi : i < ps.length
  · rw [List.getElem?_range hi, List.getElem?_eq_getElem hi]
    simp [List.getD, List.getElem?_eq_getElem hi]
  · rw [List.getElem?_eq_none (by simpa using hi), List.getElem?_eq_none (by omega)]
    rfl
/-- What it costs to put a paper ahead of some. -/
def cW (w : Str → Str → Int) (ps : List Str) (R i : Nat) : Int := ((subS ps R).map fun b => w b (ps.getD i [])).sum
/-- The table of the least contradictions, up to M. -/
structure DpOk (w : Str → Str → Int) (ps : List Str) (bs : Nat → Int) (ns : Nat → Nat) (M : Nat) : Prop where
  z : bs 0 = 0
  at_ : ∀ L, 0 < L → L < M → ns L ∈ bits ps.length L ∧ bs L = bs (clr L (ns L)) + cW w ps (clr L (ns L)) (ns L) ∧ ∀ i ∈ bits ps.length L, bs L ≤ bs (clr L i) + cW w ps (clr L i) i
theorem subS_perm {ps : List Str} (hn : ps.length ≤ 6) {L i : Nat} (hL : L < 2 ^ ps.length) (hi : i ∈ bits ps.length L) : (subS ps L).Perm (ps.getD i [] :: subS ps (clr L i)) := ((bits_at hn hL).2 i hi).1.map _
theorem dp_le {w : Str → Str → Int} {ps : List Str} {bs : Nat → Int} {ns : Nat → Nat} (hn : ps.length ≤ 6) (h : DpOk w ps bs ns (2 ^ ps.length)) : ∀ (o : List Str) (L : Nat), L < 2 ^ ps.length → o.Perm (subS ps L) → bs L ≤ agC w o
  | [], L, hL, ho => by
    have h0 := ho.nil_eq.symm
    have : bits ps.length L = [] := by simpa [subS] using h0
    by_cases hz : L = 0
    · subst hz; rw [h.z]; exact Int.le_refl _
    · exact absurd this ((bits_at hn hL).1 (by omega))
  | a :: r, L, hL, ho => by
    have hm : a ∈ subS ps L := ho.mem_iff.1 (by simp)
    obtain ⟨i, hi, rfl⟩ := List.mem_map.1 hm
    have hr : r.Perm (subS ps (clr L i)) := (ho.trans (subS_perm hn hL hi)).cons_inv
    have hlt := ((bits_at hn hL).2 i hi).2
    have h1 := dp_le hn h r (clr L i) (by omega) hr
    have h2 := (h.at_ L (by omega) hL).2.2 i hi
    have h3 : cW w ps (clr L i) i = (r.map fun b => w b (ps.getD i [])).sum := sumI_perm ((hr.map _).symm)
    simp only [agC]
    omega
/-- What is added of those in R, up to k. -/
def kS (w : Str → Str → Int) (ps : List Str) (R i k : Nat) : Int := ((List.range k).map fun j => if R.testBit j then w (ps.getD j []) (ps.getD i []) else 0).sum
theorem kS_succ (w : Str → Str → Int) (ps : List Str) (R i k : Nat) : kS w ps R i (k + 1) = kS w ps R i k + if R.testBit k then w (ps.getD k []) (ps.getD i []) else 0 := by
  unfold kS
  rw [List.range_succ, List.map_append, List.sum_append]
  simp
theorem kS_all (w : Str → Str → Int) (ps : List Str) (R i : Nat) : kS w ps R i ps.length = cW w ps R i := by
  unfold kS cW subS bits
  generalize List.range ps.length = l
  induction l with
  | nil => rfl
  | cons a l ih =>
    simp only [List.map_cons, List.sum_cons, List.filter_cons]
    split <;> simp_all
theorem kS_bd {w : Str → Str → Int} {ps : List Str} {C : Int} (hw : ∀ a ∈ ps, ∀ b ∈ ps, 0 ≤ w a b ∧ w a b ≤ C) {R i : Nat} (hi : i < ps.length) : ∀ k, k ≤ ps.length → 0 ≤ kS w ps R i k ∧ kS w ps R i k ≤ k * C
  | 0, _ => by simp [kS]
  | k + 1, hk => by
    have h1 := kS_bd hw hi (R := R) k (by omega)
    rw [kS_succ]
    have hg : ∀ j, j < ps.length → ps.getD j [] ∈ ps := fun j hj => by
      rw [List.getD, List.getElem?_eq_getElem hj]; exact List.getElem_mem hj
    have h2 := hw _ (hg k (by omega)) _ (hg i hi)
    have h3 : ((k + 1 : Nat) : Int) * C = k * C + C := by rw [Int.natCast_add, Int.add_mul]; simp
    rw [h3]
    split <;> omega
end Go.AX

namespace Go.AX
open Go Go.Proofs Go.RowKit
def upN {β : Type} (f : Nat → β) (L : Nat) (v : β) : Nat → β := fun x => if x = L then v else f x
theorem upN_same {β : Type} (f : Nat → β) (L : Nat) (v : β) : upN f L v L = v := by simp [upN]
theorem upN_ne {β : Type} (f : Nat → β) {L x : Nat} (v : β) (h : x ≠ L) : upN f L v x = f x := by simp [upN, h]
theorem upN_upN {β : Type} (f : Nat → β) (L : Nat) (v u : β) : upN (upN f L v) L u = upN f L u := by
  funext x
  unfold upN
  split <;> rfl
theorem upN_self {β : Type} (f : Nat → β) (L : Nat) : upN f L (f L) = f := by
  funext x
  unfold upN
  split
  · rename_i h; rw [h]
  · rfl
theorem upN_cast (f : Nat → Nat) (L v : Nat) : upN (fun x => ((f x : Nat) : Int)) L (v : Int) = fun x => ((upN f L v x : Nat) : Int) := by
  funext x
  unfold upN
  split <;> rfl
/-- A row of numbers. -/
def tbl (P : Nat) (f : Nat → Int) : List D := (List.range P).map fun L => D.int .i64 (f L)
theorem tbl_len (P : Nat) (f : Nat → Int) : (tbl P f).length = P := by simp [tbl]
theorem tbl_get {P L : Nat} (f : Nat → Int) (h : L < P) : (tbl P f)[L]? = some (.int .i64 (f L)) := by
  unfold tbl
  rw [List.getElem?_map, List.getElem?_range h]
  rfl
theorem tbl_set {P L : Nat} (f : Nat → Int) (v : Int) (h : L < P) : (dv (tbl P f)).set L (.d (.int .i64 v)) = dv (tbl P (upN f L v)) := by
  apply List.ext_getElem?
  intro i
  rw [List.getElem?_set]
  simp only [dv, List.length_map, tbl_len, List.getElem?_map]
  by_cases e : L = i
  · subst e
    rw [if_pos rfl, if_pos h, tbl_get _ h, upN_same]
    rfl
  · rw [if_neg e]
    by_cases hi : i < P
    · rw [tbl_get _ hi, tbl_get _ hi, upN_ne _ _ (Ne.symm e)]
    · rw [List.getElem?_eq_none (by rw [tbl_len]; omega), List.getElem?_eq_none (by rw [tbl_len]; omega)]
theorem tbl_dv {P L : Nat} (f : Nat → Int) (h : L < P) : (dv (tbl P f))[L]? = some (.d (.int .i64 (f L))) := by
  unfold dv
  rw [List.getElem?_map, tbl_get f h]
  rfl
theorem tbl_zero (P : Nat) : dv (tbl P fun _ => 0) = List.replicate P (V.d (.int .i64 0)) := by
  unfold tbl dv
  rw [List.map_map]
  apply List.ext_getElem?
  intro i
  rw [List.getElem?_map, List.getElem?_replicate]
  by_cases hi : i < P
  · rw [List.getElem?_range hi, if_pos hi]; rfl
  · rw [List.getElem?_eq_none (by simpa using hi), if_neg hi]; rfl
/-- At a mask, all before j tried. -/
structure DpI (w : Str → Str → Int) (ps : List Str) (bs : Nat → Int) (L j : Nat) (v : Int) (x : Nat) : Prop where
  h : (v = -1 ∧ ∀ i ∈ bits ps.length L, ¬ i < j) ∨ (0 ≤ v ∧ x ∈ bits ps.length L ∧ v = bs (clr L x) + cW w ps (clr L x) x ∧ ∀ i ∈ bits ps.length L, i < j → v ≤ bs (clr L i) + cW w ps (clr L i) i)
/-- All that the loop over masks knows. -/
structure DpS (w : Str → Str → Int) (ps : List Str) (bs : Nat → Int) (ns : Nat → Nat) (M : Nat) : Prop where
  ok : DpOk w ps bs ns M
  bd : ∀ L, L < M → 0 ≤ bs L ∧ bs L ≤ 20000 * L
theorem cW_bd {w : Str → Str → Int} {ps : List Str} (hn : ps.length ≤ 6) (hw : ∀ a ∈ ps, ∀ b ∈ ps, 0 ≤ w a b ∧ w a b ≤ 1764) {R i : Nat} (hi : i < ps.length) : 0 ≤ cW w ps R i ∧ cW w ps R i ≤ 10584 := by
  have h := kS_bd hw hi (R := R) ps.length (Nat.le_refl _)
  rw [kS_all] at h
  omega
theorem dp_start (w : Str → Str → Int) (ps : List Str) : DpS w ps (fun _ => 0) (fun _ => 0) 1 := ⟨⟨rfl, fun L h1 h2 => by omega⟩, fun L hL => ⟨Int.le_refl _, by omega⟩⟩
theorem dpi_start (w : Str → Str → Int) (ps : List Str) (bs : Nat → Int) (L x : Nat) : DpI w ps bs L 0 (-1) x := ⟨.inl ⟨rfl, fun i _ => by omega⟩⟩
theorem dpi_skip {w : Str → Str → Int} {ps : List Str} {bs : Nat → Int} {L j : Nat} {v : Int} {x : Nat} (h : DpI w ps bs L j v x) (hj : L.testBit j = false) : DpI w ps bs L (j + 1) v x := by
  have hne : ∀ i ∈ bits ps.length L, i ≠ j := fun i hi e => by subst e; have := (bits_lt hi).2; rw [hj] at this; cases this
  refine ⟨h.h.imp (fun h1 => ⟨h1.1, fun i hi => ?_⟩) (fun h1 => ⟨h1.1, h1.2.1, h1.2.2.1, fun i hi hij => h1.2.2.2 i hi ?_⟩)⟩
  · have := h1.2 i hi
    have := hne i hi
    omega
  · have := hne i hi
    omega
theorem dpi_take {w : Str → Str → Int} {ps : List Str} {bs : Nat → Int} {L j : Nat} {v : Int} {x : Nat} (h : DpI w ps bs L j v x) (hm : j ∈ bits ps.length L) (h0 : 0 ≤ bs (clr L j) + cW w ps (clr L j) j) (hc : v < 0 ∨ bs (clr L j) + cW w ps (clr L j) j < v) : DpI w ps bs L (j + 1) (bs (clr L j) + cW w ps (clr L j) j) j := by
  refine ⟨.inr ⟨h0, hm, rfl, fun i hi hij => ?_⟩⟩
  by_cases e : i = j
  · subst e; exact Int.le_refl _
  · rcases h.h with h1 | h1
    · exact absurd (show i < j by omega) (h1.2 i hi)
    · have := h1.2.2.2 i hi (by omega)
      omega
theorem dpi_leave {w : Str → Str → Int} {ps : List Str} {bs : Nat → Int} {L j : Nat} {v : Int} {x : Nat} (h : DpI w ps bs L j v x) (hv : ¬ v < 0) (hc : ¬ bs (clr L j) + cW w ps (clr L j) j < v) : DpI w ps bs L (j + 1) v x := by
  refine ⟨h.h.imp (fun h1 => by omega) (fun h1 => ⟨h1.1, h1.2.1, h1.2.2.1, fun i hi hij => ?_⟩)⟩
  by_cases e : i = j
  · subst e; omega
  · exact h1.2.2.2 i hi (by omega)
theorem dp_step {w : Str → Str → Int} {ps : List Str} {bs : Nat → Int} {ns : Nat → Nat} {L : Nat} {v : Int} {x : Nat} (hn : ps.length ≤ 6) (hw : ∀ a ∈ ps, ∀ b ∈ ps, 0 ≤ w a b ∧ w a b ≤ 1764) (h : DpS w ps bs ns L) (h0 : 0 < L) (hL : L < 2 ^ ps.length) (hi : DpI w ps bs L ps.length v x) : DpS w ps (upN bs L v) (upN ns L x) (L + 1) := by
  have hb := bits_at hn hL
  rcases hi.h with ⟨-, h1⟩ | ⟨hv, hx, he, hall⟩
  · exfalso
    have := hb.1 h0
    obtain ⟨i, hi⟩ := List.exists_mem_of_ne_nil _ this
    exact h1 i hi (bits_lt hi).1
  · refine ⟨⟨by rw [upN_ne _ _ (by omega)]; exact h.ok.z, fun K k1 k2 => ?_⟩, fun K hK => ?_⟩
    · by_cases e : K = L
      · subst e
        have hc := (hb.2 x hx).2
        rw [upN_same, upN_same, upN_ne _ _ (by omega)]
        refine ⟨hx, he, fun i hi => ?_⟩
        have := (hb.2 i hi).2
        rw [upN_ne _ _ (by omega)]
        exact hall i hi (bits_lt hi).1
      · have hK := h.ok.at_ K k1 (by omega)
        have hb2 := bits_at hn (show K < 2 ^ ps.length by omega)
        have hc := (hb2.2 _ hK.1).2
        rw [upN_ne _ _ e, upN_ne _ _ e, upN_ne _ _ (by omega)]
        refine ⟨hK.1, hK.2.1, fun i hi => ?_⟩
        have := (hb2.2 i hi).2
        rw [upN_ne _ _ (by omega)]
        exact hK.2.2 i hi
    · by_cases e : K = L
      · subst e
        have hc := (hb.2 x hx).2
        have h1 := h.bd (clr K x) hc
        have h2 := cW_bd hn hw (R := clr K x) (bits_lt hx).1
        rw [upN_same]
        omega
      · rw [upN_ne _ _ e]
        exact h.bd K (by omega)
/-- What is written of the order so far: the rest completes it. -/
def OutOk (w : Str → Str → Int) (ps : List Str) (bs : Nat → Int) (B : Int) (out : List Str) (L : Nat) : Prop := ∀ o', o'.Perm (subS ps L) → agC w o' = bs L → (out ++ o').Perm ps ∧ agC w (out ++ o') = B
theorem out_start {w : Str → Str → Int} {ps : List Str} (hn : ps.length ≤ 6) (bs : Nat → Int) : OutOk w ps bs (bs (2 ^ ps.length - 1)) [] (2 ^ ps.length - 1) := fun o' h1 h2 => by
  rw [subS_full hn] at h1
  exact ⟨h1, h2⟩
theorem out_step {w : Str → Str → Int} {ps : List Str} {bs : Nat → Int} {ns : Nat → Nat} {B : Int} {out : List Str} {L : Nat} (hn : ps.length ≤ 6) (h : DpOk w ps bs ns (2 ^ ps.length)) (h0 : 0 < L) (hL : L < 2 ^ ps.length) (ho : OutOk w ps bs B out L) : OutOk w ps bs B (out ++ [ps.getD (ns L) []]) (clr L (ns L)) := fun o' h1 h2 => by
  obtain ⟨hx, he, -⟩ := h.at_ L h0 hL
  rw [List.append_assoc]
  refine ho _ ((h1.cons _).trans (subS_perm hn hL hx).symm) ?_
  have h3 : cW w ps (clr L (ns L)) (ns L) = (o'.map fun b => w b (ps.getD (ns L) [])).sum := sumI_perm ((h1.map _).symm)
  simp only [List.singleton_append, agC]
  omega
theorem out_end {w : Str → Str → Int} {ps : List Str} {bs : Nat → Int} {ns : Nat → Nat} {B : Int} {out : List Str} {M : Nat} (h : DpOk w ps bs ns M) (ho : OutOk w ps bs B out 0) : out.Perm ps ∧ agC w out = B := by
  have h1 := ho [] (by simp [subS, bits]) h.z.symm
  rwa [List.append_nil] at h1
theorem wnF_bd {ms : List Mk} (hl : ms.length ≤ 42) (a b : Str) : 0 ≤ wnF ms a b ∧ wnF ms a b ≤ 1764 := wnT_bd (by have := gP_len ms b; omega) (by have := gP_len ms a; omega)
theorem getD_at {ps : List Str} {i : Nat} (hi : i < ps.length) : ps[i]? = some (ps.getD i []) := by
  rw [List.getD, List.getElem?_eq_getElem hi]; rfl
theorem tbR_at {ms : List Mk} {ps : List Str} {k : Nat} (hk : k < ps.length) : (ps.map fun a => D.sl (tbR ms ps a))[k]? = some (.sl (tbR ms ps (ps.getD k []))) := by
  rw [List.getElem?_map, getD_at hk]; rfl
theorem tbRR_at {ms : List Mk} {ps : List Str} {i : Nat} (a : Str) (hi : i < ps.length) : (tbR ms ps a)[i]? = some (.int .i64 (wnF ms a (ps.getD i []))) := by
  rw [List.getElem?_map, getD_at hi]; rfl
abbrev bvec (P : Nat) (f : Nat → Int) : O := .vec 3 1 (dv (tbl P f))
abbrev nvec (P : Nat) (f : Nat → Nat) : O := .vec 3 1 (dv (tbl P fun x => ((f x : Nat) : Int)))
theorem least_any (ms : List Mk) (H L : List Str) (hmk : MkO ms H L) (hn6 : (pps ms).length ≤ 6) : DoesI Tryz.prog 24 [.d (.sl (ms.map mkD))] [] (fun q : List Str × Int => q.1.Perm (pps ms) ∧ agC (wnF ms) q.1 = q.2 ∧ ∀ o', o'.Perm (pps ms) → q.2 ≤ agC (wnF ms) o') (fun q => .tup [.d (.sl (q.1.map D.str)), I q.2, I 0]) (fun q => []) := by
  have h1 := checkedO ms H L hmk
  have hw : ∀ a ∈ pps ms, ∀ b ∈ pps ms, 0 ≤ wnF ms a b ∧ wnF ms a b ≤ 1764 := fun a _ b _ => wnF_bd hmk.len a b
  refine DoesI.of_AW (n := 147) Tryz.func24 rfl rfl rfl fun cx hcx => ?_
  have ha : ∀ q, ShOk ms q → Does Tryz.prog 66 [shV ms q] [] (tbV ms (pps ms)) [] := fun q hq => by rw [← hq.eqP]; exact table_any ms hmk.len (fun m hm => (hmk.sh m hm).1) q hq
  have hll : ∀ q, ShOk ms q → q.1.1.length ≤ 6 := fun q hq => by rw [hq.eqP]; exact hn6
  refine AW.sreg rfl fun K hK => ?_; simp only [go_sem, Nat.reduceAdd, Nat.reduceMul, Int.reduceToNat, Nat.reduceLT, Nat.reduceLeDiff, Nat.le_refl, Nat.reduceEqDiff, ↓reduceIte, beq_self_eq_true, bne_self_eq_false, Int.reduceBEq, Int.reduceBNe, or_self, true_or, or_true, Option.map_some, Option.map_none]
  refine hK _ ?_; (try clear hK K)
  refine AW.sreg rfl fun K hK => ?_; simp only [go_sem, Nat.reduceAdd, Nat.reduceMul, Int.reduceToNat, Nat.reduceLT, Nat.reduceLeDiff, Nat.le_refl, Nat.reduceEqDiff, ↓reduceIte, beq_self_eq_true, bne_self_eq_false, Int.reduceBEq, Int.reduceBNe, or_self, true_or, or_true, Option.map_some, Option.map_none]
  first | (refine run_callI _ _ _ ((h1).pure rfl (fun _ => rfl) _ _) rfl rfl (dstOk_of rfl) rfl rfl rfl ?_; rintro q hq; (try dsimp only at q); (try dsimp only at hq); simp only [go_sem, Nat.reduceAdd, Nat.reduceMul, Int.reduceToNat, Nat.reduceLT, Nat.reduceLeDiff, Nat.le_refl, Nat.reduceEqDiff, ↓reduceIte, beq_self_eq_true, bne_self_eq_false, Int.reduceBEq, Int.reduceBNe, or_self, true_or, or_true, Option.map_some, Option.map_none])
  refine hK _ ?_; (try clear hK K)
  replace hll := hll q hq
  replace ha := ha q hq
  generalize hps : pps ms = ps at *
  have hP := pow_eq hn6
  have hP6 := pow_le hn6
  have hP0 : 0 < 2 ^ ps.length := Nat.pow_pos (by omega)
  generalize hPP : 2 ^ ps.length = P at *
  repeat' (first | ((first | refine AW.sreg rfl fun K hK => ?_ | refine run_call _ _ _ ((ha).pure rfl rfl _ _) rfl rfl (dstOk_of rfl) rfl rfl rfl ?_); simp only [go_sem, Nat.reduceAdd, Nat.reduceMul, Int.reduceToNat, Nat.reduceLT, Nat.reduceLeDiff, Nat.le_refl, Nat.reduceEqDiff, ↓reduceIte, beq_self_eq_true, bne_self_eq_false, Int.reduceBEq, Int.reduceBNe, or_self, true_or, or_true, Option.map_some, Option.map_none, List.length_map, hP, Int.toNat_natCast]) | (refine AW.seq_k fun K hK => ?_) | (refine AW.block ?_) | (refine AW.skip ?_; simp only [Then, InBlock]) | (refine AW.condF rfl (by first | rfl | (simp; omega) | (simp [*]; done) | fail) ?_) | (refine hK _ ?_; clear hK K) | (with_reducible refine And.intro ?_ ?_; first | omega | assumption | (focus (decide)) | (focus (simp; done)) | (focus (simp; omega)) | (focus (constructor <;> omega)) | fail))
  rw [← tbl_zero P]
  refine AW.loopF (ι := Nat × (Nat → Int) × (Nat → Nat)) [7, 8, 9, 10] (fun p => [(11, I p.1)]) (fun p => [(1856, some (bvec P p.2.1)), (2112, some (nvec P p.2.2))]) 34 (fun p => 1 ≤ p.1 ∧ p.1 ≤ P ∧ DpS (wnF ms) ps p.2.1 p.2.2 p.1) (fun p => P - p.1) (1, (fun _ => 0), fun _ => 0) ⟨Nat.le_refl _, hP0, dp_start _ _⟩ (Weak.auto hcx rfl rfl (Nat.le_of_ble_eq_true rfl) (by simp [go_sem, gL, kL, renOf, V.obj, lk, Nat.blt, Nat.ble, List.map_append, dv_push]) (by simp [go_sem, gL, kL, renOf, V.obj, lk, Nat.blt, Nat.ble, List.map_append, dv_push]) (by first | exact pk0 | exact pk1 ⟨_, rfl⟩ | exact pk2 ⟨_, rfl⟩ ⟨_, rfl⟩ | exact pk3 ⟨_, rfl⟩ ⟨_, rfl⟩ ⟨_, rfl⟩ | exact pk4 ⟨_, rfl⟩ ⟨_, rfl⟩ ⟨_, rfl⟩ ⟨_, rfl⟩) (by simp [go_sem, gL, kL, lk, renOf, V.obj, Nat.blt, Nat.ble])) ?_; simp only [St.at_nil, St.at_cons, lk, Nat.reduceEqDiff, ↓reduceIte, Option.getD_some, Option.getD_none, List.cons_append, List.nil_append, List.append_nil]
  rintro ⟨M, bs, ns⟩ ⟨m1, m2, m3⟩
  dsimp only at m1 m2 m3 ⊢
  by_cases hM : M < P
  · have g1 := tbl_dv bs hM
    have s1 := fun v => tbl_set bs v hM
    repeat' (first | (refine AW.sreg rfl fun K hK => ?_; simp only [go_sem, Nat.reduceAdd, Nat.reduceMul, Int.reduceToNat, Nat.reduceLT, Nat.reduceLeDiff, Nat.le_refl, Nat.reduceEqDiff, ↓reduceIte, beq_self_eq_true, bne_self_eq_false, Int.reduceBEq, Int.reduceBNe, or_self, true_or, or_true, Option.map_some, Option.map_none, List.length_map, hP, Int.toNat_natCast, Nat.zero_add, g1, s1]) | (refine AW.seq_k fun K hK => ?_) | (refine AW.block ?_) | (refine AW.skip ?_; simp only [Then, InBlock]) | (refine AW.condT rfl (by first | rfl | (simp; omega) | (simp [*]; done) | fail) ?_) | (refine hK _ ?_; clear hK K) | (with_reducible refine And.intro ?_ ?_; first | omega | assumption | (focus (decide)) | (focus (simp; done)) | (focus (simp; omega)) | (focus (constructor <;> omega)) | fail))
    refine AW.loopF (ι := Nat × Int × Nat) [7, 8, 9, 10, 11, 54] (fun p => [(55, I p.1)]) (fun p => [(1856, some (bvec P (upN bs M p.2.1))), (2112, some (nvec P (upN ns M p.2.2)))]) 40 (fun p => p.1 ≤ ps.length ∧ DpI (wnF ms) ps bs M p.1 p.2.1 p.2.2) (fun p => ps.length - p.1) (0, -1, ns M) ⟨Nat.zero_le _, dpi_start _ _ _ _ _⟩ (Weak.auto hcx rfl rfl (Nat.le_of_ble_eq_true rfl) (by simp [go_sem, gL, kL, renOf, V.obj, lk, Nat.blt, Nat.ble, List.map_append, dv_push, upN_self]) (by simp [go_sem, gL, kL, renOf, V.obj, lk, Nat.blt, Nat.ble, List.map_append, dv_push, upN_self]) (by first | exact pk0 | exact pk1 ⟨_, rfl⟩ | exact pk2 ⟨_, rfl⟩ ⟨_, rfl⟩ | exact pk3 ⟨_, rfl⟩ ⟨_, rfl⟩ ⟨_, rfl⟩ | exact pk4 ⟨_, rfl⟩ ⟨_, rfl⟩ ⟨_, rfl⟩ ⟨_, rfl⟩) (by simp [go_sem, gL, kL, lk, renOf, V.obj, Nat.blt, Nat.ble, upN_self])) ?_; simp only [St.at_nil, St.at_cons, lk, Nat.reduceEqDiff, ↓reduceIte, Option.getD_some, Option.getD_none, List.cons_append, List.nil_append, List.append_nil]
    rintro ⟨i, v, x⟩ ⟨i1, i2⟩
    dsimp only at i1 i2 ⊢
    by_cases hi : i < ps.length
    · have e1 := bit_eq (show M < 64 by omega) (show i < 6 by omega)
      have e2 := clr_eq (show M < 64 by omega) (show i < 6 by omega)
      cases hb : M.testBit i with
      | false =>
        rw [hb] at e1
        repeat' (first | ((first | refine AW.sreg rfl fun K hK => ?_ | refine AW.reg rfl ?_); simp only [go_sem, Nat.reduceAdd, Nat.reduceMul, Int.reduceToNat, Nat.reduceLT, Nat.reduceLeDiff, Nat.le_refl, Nat.reduceEqDiff, ↓reduceIte, beq_self_eq_true, bne_self_eq_false, Int.reduceBEq, Int.reduceBNe, or_self, true_or, or_true, Option.map_some, Option.map_none, List.length_map, hP, Int.toNat_natCast, Nat.zero_add, e1]) | (refine AW.seq_k fun K hK => ?_) | (refine AW.block ?_) | (refine AW.skip ?_; simp only [Then, InBlock]) | (refine AW.exit ?_; simp only [go_sem, ↓reduceIte]) | (refine AW.condT rfl (by first | rfl | (simp; omega) | (simp [*]; done) | fail) ?_) | (refine hK _ ?_; clear hK K) | (clear hK K; refine hK _ ?_; clear hK K) | (with_reducible refine And.intro ?_ ?_; first | omega | assumption | (focus (decide)) | (focus (simp; done)) | (focus (simp; omega)) | (focus (constructor <;> omega)) | fail))
        exact ⟨(i + 1, v, x), ⟨hi, dpi_skip i2 hb⟩, by simp only; omega, (Weak.auto hcx rfl rfl (Nat.le_of_ble_eq_true rfl) (by simp [go_sem, gL, kL, renOf, V.obj, lk, Nat.blt, Nat.ble, List.map_append, dv_push]) (by simp [go_sem, gL, kL, renOf, V.obj, lk, Nat.blt, Nat.ble, List.map_append, dv_push]) (by first | exact pk0 | exact pk1 ⟨_, rfl⟩ | exact pk2 ⟨_, rfl⟩ ⟨_, rfl⟩ | exact pk3 ⟨_, rfl⟩ ⟨_, rfl⟩ ⟨_, rfl⟩ | exact pk4 ⟨_, rfl⟩ ⟨_, rfl⟩ ⟨_, rfl⟩ ⟨_, rfl⟩) (by simp [go_sem, gL, kL, lk, renOf, V.obj, Nat.blt, Nat.ble]))⟩
      | true =>
        rw [hb] at e1
        have hbm := bits_mem hi hb
        have hcl := (bits_at hn6 (by rw [hPP]; exact hM)).2 i hbm
        have g2 := tbl_dv (upN bs M v) (show clr M i < P by omega)
        rw [upN_ne _ _ (show clr M i ≠ M by omega)] at g2
        have hbd := m3.bd (clr M i) hcl.2
        have hkb := fun k hk => kS_bd hw hi (R := clr M i) k hk
        repeat' (first | (refine AW.sreg rfl fun K hK => ?_; simp only [go_sem, Nat.reduceAdd, Nat.reduceMul, Int.reduceToNat, Nat.reduceLT, Nat.reduceLeDiff, Nat.le_refl, Nat.reduceEqDiff, ↓reduceIte, beq_self_eq_true, bne_self_eq_false, Int.reduceBEq, Int.reduceBNe, or_self, true_or, or_true, Option.map_some, Option.map_none, List.length_map, hP, Int.toNat_natCast, Nat.zero_add, e1, e2, g2]) | (refine AW.seq_k fun K hK => ?_) | (refine AW.block ?_) | (refine AW.skip ?_; simp only [Then, InBlock]) | (refine AW.condT rfl (by first | rfl | (simp; omega) | (simp [*]; done) | fail) ?_) | (refine AW.condF rfl (by first | rfl | (simp; omega) | (simp [*]; done) | fail) ?_) | (refine hK _ ?_; clear hK K) | (with_reducible refine And.intro ?_ ?_; first | omega | assumption | (focus (decide)) | (focus (simp; done)) | (focus (simp; omega)) | (focus (constructor <;> omega)) | fail))
        refine AW.loopF (ι := Nat) [7, 8, 9, 10, 11, 12, 13, 54, 55, 71] (fun p => [(14, I (bs (clr M i) + kS (wnF ms) ps (clr M i) i p)), (72, I p)]) (fun p => [(1856, some (bvec P (upN bs M v))), (2112, some (nvec P (upN ns M x)))]) 50 (fun p => p ≤ ps.length) (fun p => ps.length - p) 0 (Nat.zero_le _) (Weak.auto hcx rfl rfl (Nat.le_of_ble_eq_true rfl) (by simp [go_sem, gL, kL, renOf, V.obj, lk, Nat.blt, Nat.ble, List.map_append, dv_push, kS, List.range_zero, List.map_nil, List.sum_nil]) (by simp [go_sem, gL, kL, renOf, V.obj, lk, Nat.blt, Nat.ble, List.map_append, dv_push, kS, List.range_zero, List.map_nil, List.sum_nil]) (by first | exact pk0 | exact pk1 ⟨_, rfl⟩ | exact pk2 ⟨_, rfl⟩ ⟨_, rfl⟩ | exact pk3 ⟨_, rfl⟩ ⟨_, rfl⟩ ⟨_, rfl⟩ | exact pk4 ⟨_, rfl⟩ ⟨_, rfl⟩ ⟨_, rfl⟩ ⟨_, rfl⟩) (by simp [go_sem, gL, kL, lk, renOf, V.obj, Nat.blt, Nat.ble, kS, List.range_zero, List.map_nil, List.sum_nil])) ?_; simp only [St.at_nil, St.at_cons, lk, Nat.reduceEqDiff, ↓reduceIte, Option.getD_some, Option.getD_none, List.cons_append, List.nil_append, List.append_nil]
        intro k k1
        have hk0 := hkb k k1
        by_cases hk : k < ps.length
        · have f1 := bit_eq (show clr M i < 64 by omega) (show k < 6 by omega)
          have hsc := kS_succ (wnF ms) ps (clr M i) i k
          cases hb2 : (clr M i).testBit k with
          | false =>
            rw [hb2] at f1 hsc
            simp only [Bool.false_eq_true, if_false, Int.add_zero] at hsc
            repeat' (first | ((first | refine AW.sreg rfl fun K hK => ?_ | refine AW.reg rfl ?_); simp only [go_sem, Nat.reduceAdd, Nat.reduceMul, Int.reduceToNat, Nat.reduceLT, Nat.reduceLeDiff, Nat.le_refl, Nat.reduceEqDiff, ↓reduceIte, beq_self_eq_true, bne_self_eq_false, Int.reduceBEq, Int.reduceBNe, or_self, true_or, or_true, Option.map_some, Option.map_none, List.length_map, hP, Int.toNat_natCast, Nat.zero_add, f1]) | (refine AW.seq_k fun K hK => ?_) | (refine AW.block ?_) | (refine AW.skip ?_; simp only [Then, InBlock]) | (refine AW.condT rfl (by first | rfl | (simp; omega) | (simp [*]; done) | fail) ?_) | (refine AW.condF rfl (by first | rfl | (simp; omega) | (simp [*]; done) | fail) ?_) | (refine hK _ ?_; clear hK K) | (with_reducible refine And.intro ?_ ?_; first | omega | assumption | (focus (decide)) | (focus (simp; done)) | (focus (simp; omega)) | (focus (constructor <;> omega)) | fail))
            exact ⟨k + 1, hk, by omega, (Weak.auto hcx rfl rfl (Nat.le_of_ble_eq_true rfl) (by simp [go_sem, gL, kL, renOf, V.obj, lk, Nat.blt, Nat.ble, List.map_append, dv_push, hsc]) (by simp [go_sem, gL, kL, renOf, V.obj, lk, Nat.blt, Nat.ble, List.map_append, dv_push, hsc]) (by first | exact pk0 | exact pk1 ⟨_, rfl⟩ | exact pk2 ⟨_, rfl⟩ ⟨_, rfl⟩ | exact pk3 ⟨_, rfl⟩ ⟨_, rfl⟩ ⟨_, rfl⟩ | exact pk4 ⟨_, rfl⟩ ⟨_, rfl⟩ ⟨_, rfl⟩ ⟨_, rfl⟩) (by simp [go_sem, gL, kL, lk, renOf, V.obj, Nat.blt, Nat.ble, hsc]))⟩
          | true =>
            rw [hb2] at f1 hsc
            simp only [if_true] at hsc
            have r1 := tbR_at (ms := ms) hk
            have r2 := tbRR_at (ms := ms) (ps.getD k []) hi
            have hww := wnF_bd hmk.len (ps.getD k []) (ps.getD i [])
            generalize wnF ms (ps.getD k []) (ps.getD i []) = wv at *
            repeat' (first | ((first | refine AW.sreg rfl fun K hK => ?_ | refine AW.reg rfl ?_); simp only [go_sem, Nat.reduceAdd, Nat.reduceMul, Int.reduceToNat, Nat.reduceLT, Nat.reduceLeDiff, Nat.le_refl, Nat.reduceEqDiff, ↓reduceIte, beq_self_eq_true, bne_self_eq_false, Int.reduceBEq, Int.reduceBNe, or_self, true_or, or_true, Option.map_some, Option.map_none, List.length_map, hP, Int.toNat_natCast, Nat.zero_add, f1, r1, r2]) | (refine AW.seq_k fun K hK => ?_) | (refine AW.block ?_) | (refine AW.skip ?_; simp only [Then, InBlock]) | (refine AW.condT rfl (by first | rfl | (simp; omega) | (simp [*]; done) | fail) ?_) | (refine hK _ ?_; clear hK K) | (with_reducible refine And.intro ?_ ?_; first | omega | assumption | (focus (decide)) | (focus (simp; done)) | (focus (simp; omega)) | (focus (constructor <;> omega)) | fail))
            exact ⟨k + 1, hk, by omega, (Weak.auto hcx rfl rfl (Nat.le_of_ble_eq_true rfl) (by simp [go_sem, gL, kL, renOf, V.obj, lk, Nat.blt, Nat.ble, List.map_append, dv_push, hsc, Int.add_assoc]) (by simp [go_sem, gL, kL, renOf, V.obj, lk, Nat.blt, Nat.ble, List.map_append, dv_push, hsc, Int.add_assoc]) (by first | exact pk0 | exact pk1 ⟨_, rfl⟩ | exact pk2 ⟨_, rfl⟩ ⟨_, rfl⟩ | exact pk3 ⟨_, rfl⟩ ⟨_, rfl⟩ ⟨_, rfl⟩ | exact pk4 ⟨_, rfl⟩ ⟨_, rfl⟩ ⟨_, rfl⟩ ⟨_, rfl⟩) (by simp [go_sem, gL, kL, lk, renOf, V.obj, Nat.blt, Nat.ble, hsc, Int.add_assoc]))⟩
        · obtain rfl : k = ps.length := by omega
          rw [kS_all]
          have h0 := hkb ps.length (Nat.le_refl _)
          rw [kS_all] at h0
          have g3 := tbl_dv (upN bs M v) hM
          rw [upN_same] at g3
          have s3 : ∀ u : Int, (dv (tbl P (upN bs M v))).set M (.d (.int .i64 u)) = dv (tbl P (upN bs M u)) := fun u => by rw [tbl_set _ _ hM, upN_upN]
          have s4 : ∀ u : Nat, (dv (tbl P fun y => ((upN ns M x y : Nat) : Int))).set M (.d (.int .i64 u)) = dv (tbl P fun y => ((upN ns M u y : Nat) : Int)) := fun u => by rw [tbl_set _ _ hM, upN_cast, upN_upN]
          have g4 := tbl_dv (fun y => ((upN ns M x y : Nat) : Int)) hM
          have tk := dpi_take i2 hbm
          have lv := fun a => dpi_leave (x := x) i2 a
          generalize hcost : bs (clr M i) + cW (wnF ms) ps (clr M i) i = cost at *
          by_cases hv : v < 0
          · repeat' (first | ((first | refine AW.sreg rfl fun K hK => ?_ | refine AW.reg rfl ?_); simp only [go_sem, Nat.reduceAdd, Nat.reduceMul, Int.reduceToNat, Nat.reduceLT, Nat.reduceLeDiff, Nat.le_refl, Nat.reduceEqDiff, ↓reduceIte, beq_self_eq_true, bne_self_eq_false, Int.reduceBEq, Int.reduceBNe, or_self, true_or, or_true, Option.map_some, Option.map_none, List.length_map, Nat.zero_add, g3, hv, s3, s4, g4]) | (refine AW.seq_k fun K hK => ?_) | (refine AW.exit ?_; simp only [go_sem, ↓reduceIte]) | (refine AW.condT rfl (by first | rfl | (simp; omega) | (simp [*]; done) | fail) ?_) | (refine AW.condF rfl (by first | rfl | (simp; omega) | (simp [*]; done) | fail) ?_) | (refine hK _ ?_; clear hK K) | (clear hK K; refine hK _ ?_; clear hK K) | (with_reducible refine And.intro ?_ ?_; first | omega | assumption | (focus (decide)) | (focus (simp; done)) | (focus (simp; omega)) | (focus (constructor <;> omega)) | fail))
            exact ⟨(i + 1, cost, i), ⟨hi, tk (by omega) (.inl hv)⟩, by simp only; omega, (Weak.auto hcx rfl rfl (Nat.le_of_ble_eq_true rfl) (by simp [go_sem, gL, kL, renOf, V.obj, lk, Nat.blt, Nat.ble, List.map_append, dv_push]) (by simp [go_sem, gL, kL, renOf, V.obj, lk, Nat.blt, Nat.ble, List.map_append, dv_push]) (by first | exact pk0 | exact pk1 ⟨_, rfl⟩ | exact pk2 ⟨_, rfl⟩ ⟨_, rfl⟩ | exact pk3 ⟨_, rfl⟩ ⟨_, rfl⟩ ⟨_, rfl⟩ | exact pk4 ⟨_, rfl⟩ ⟨_, rfl⟩ ⟨_, rfl⟩ ⟨_, rfl⟩) (by simp [go_sem, gL, kL, lk, renOf, V.obj, Nat.blt, Nat.ble]))⟩
          · by_cases hcv : cost < v
            · repeat' (first | ((first | refine AW.sreg rfl fun K hK => ?_ | refine AW.reg rfl ?_); simp only [go_sem, Nat.reduceAdd, Nat.reduceMul, Int.reduceToNat, Nat.reduceLT, Nat.reduceLeDiff, Nat.le_refl, Nat.reduceEqDiff, ↓reduceIte, beq_self_eq_true, bne_self_eq_false, Int.reduceBEq, Int.reduceBNe, or_self, true_or, or_true, Option.map_some, Option.map_none, List.length_map, Nat.zero_add, g3, hv, hcv, s3, s4, g4]) | (refine AW.seq_k fun K hK => ?_) | (refine AW.exit ?_; simp only [go_sem, ↓reduceIte]) | (refine AW.condT rfl (by first | rfl | (simp; omega) | (simp [*]; done) | fail) ?_) | (refine AW.condF rfl (by first | rfl | (simp; omega) | (simp [*]; done) | fail) ?_) | (refine hK _ ?_; clear hK K) | (clear hK K; refine hK _ ?_; clear hK K) | (refine stepB_split (fun h => ?_) (fun h => ?_) <;> (have hb0 := h) <;> (try simp only [Bool.not_eq_true', Bool.not_eq_false'] at hb0) <;> (try simp only [decide_eq_true_eq, decide_eq_false_iff_not, Bool.not_eq_true', Bool.not_eq_false', Bool.not_eq_eq_eq_not, Bool.not_true, Bool.not_false, beq_iff_eq, bne_iff_ne, beq_eq_false_iff_ne, ne_eq, Bool.and_eq_true, Bool.or_eq_true, Bool.or_eq_false_iff] at h) <;> simp only [go_sem, Nat.reduceAdd, Nat.reduceMul, Int.reduceToNat, Nat.reduceLT, Nat.reduceLeDiff, Nat.le_refl, Nat.reduceEqDiff, ↓reduceIte, beq_self_eq_true, bne_self_eq_false, Int.reduceBEq, Int.reduceBNe, or_self, true_or, or_true, Option.map_some, Option.map_none, hb0, h, decide_true, decide_false, List.length_map, Nat.zero_add, g3, hv, hcv, s3, s4, g4] <;> (try clear hb0)) | (with_reducible refine And.intro ?_ ?_; first | omega | assumption | (focus (decide)) | (focus (simp; done)) | (focus (simp; omega)) | (focus (constructor <;> omega)) | fail))
              exact ⟨(i + 1, cost, i), ⟨hi, tk (by omega) (.inr hcv)⟩, by simp only; omega, (Weak.auto hcx rfl rfl (Nat.le_of_ble_eq_true rfl) (by simp [go_sem, gL, kL, renOf, V.obj, lk, Nat.blt, Nat.ble, List.map_append, dv_push]) (by simp [go_sem, gL, kL, renOf, V.obj, lk, Nat.blt, Nat.ble, List.map_append, dv_push]) (by first | exact pk0 | exact pk1 ⟨_, rfl⟩ | exact pk2 ⟨_, rfl⟩ ⟨_, rfl⟩ | exact pk3 ⟨_, rfl⟩ ⟨_, rfl⟩ ⟨_, rfl⟩ | exact pk4 ⟨_, rfl⟩ ⟨_, rfl⟩ ⟨_, rfl⟩ ⟨_, rfl⟩) (by simp [go_sem, gL, kL, lk, renOf, V.obj, Nat.blt, Nat.ble]))⟩
            · repeat' (first | ((first | refine AW.sreg rfl fun K hK => ?_ | refine AW.reg rfl ?_); simp only [go_sem, Nat.reduceAdd, Nat.reduceMul, Int.reduceToNat, Nat.reduceLT, Nat.reduceLeDiff, Nat.le_refl, Nat.reduceEqDiff, ↓reduceIte, beq_self_eq_true, bne_self_eq_false, Int.reduceBEq, Int.reduceBNe, or_self, true_or, or_true, Option.map_some, Option.map_none, List.length_map, Nat.zero_add, g3, hv, hcv, s3, s4, g4]) | (refine AW.seq_k fun K hK => ?_) | (refine AW.skip ?_; simp only [Then, InBlock]) | (refine AW.exit ?_; simp only [go_sem, ↓reduceIte]) | (refine AW.condF rfl (by first | rfl | (simp; omega) | (simp [*]; done) | fail) ?_) | (refine hK _ ?_; clear hK K) | (clear hK K; refine hK _ ?_; clear hK K) | (refine stepB_split (fun h => ?_) (fun h => ?_) <;> (have hb0 := h) <;> (try simp only [Bool.not_eq_true', Bool.not_eq_false'] at hb0) <;> (try simp only [decide_eq_true_eq, decide_eq_false_iff_not, Bool.not_eq_true', Bool.not_eq_false', Bool.not_eq_eq_eq_not, Bool.not_true, Bool.not_false, beq_iff_eq, bne_iff_ne, beq_eq_false_iff_ne, ne_eq, Bool.and_eq_true, Bool.or_eq_true, Bool.or_eq_false_iff] at h) <;> simp only [go_sem, Nat.reduceAdd, Nat.reduceMul, Int.reduceToNat, Nat.reduceLT, Nat.reduceLeDiff, Nat.le_refl, Nat.reduceEqDiff, ↓reduceIte, beq_self_eq_true, bne_self_eq_false, Int.reduceBEq, Int.reduceBNe, or_self, true_or, or_true, Option.map_some, Option.map_none, hb0, h, decide_true, decide_false, List.length_map, Nat.zero_add, g3, hv, hcv, s3, s4, g4] <;> (try clear hb0)) | (with_reducible refine And.intro ?_ ?_; first | omega | assumption | (focus (decide)) | (focus (simp; done)) | (focus (simp; omega)) | (focus (constructor <;> omega)) | fail))
              exact ⟨(i + 1, v, x), ⟨hi, lv hv hcv⟩, by simp only; omega, (Weak.auto hcx rfl rfl (Nat.le_of_ble_eq_true rfl) (by simp [go_sem, gL, kL, renOf, V.obj, lk, Nat.blt, Nat.ble, List.map_append, dv_push]) (by simp [go_sem, gL, kL, renOf, V.obj, lk, Nat.blt, Nat.ble, List.map_append, dv_push]) (by first | exact pk0 | exact pk1 ⟨_, rfl⟩ | exact pk2 ⟨_, rfl⟩ ⟨_, rfl⟩ | exact pk3 ⟨_, rfl⟩ ⟨_, rfl⟩ ⟨_, rfl⟩ | exact pk4 ⟨_, rfl⟩ ⟨_, rfl⟩ ⟨_, rfl⟩ ⟨_, rfl⟩) (by simp [go_sem, gL, kL, lk, renOf, V.obj, Nat.blt, Nat.ble]))⟩
    · obtain rfl : i = ps.length := by omega
      repeat' (first | ((first | refine AW.sreg rfl fun K hK => ?_ | refine AW.reg rfl ?_); simp only [go_sem, Nat.reduceAdd, Nat.reduceMul, Int.reduceToNat, Nat.reduceLT, Nat.reduceLeDiff, Nat.le_refl, Nat.reduceEqDiff, ↓reduceIte, beq_self_eq_true, bne_self_eq_false, Int.reduceBEq, Int.reduceBNe, or_self, true_or, or_true, Option.map_some, Option.map_none, List.length_map, hP, Int.toNat_natCast, Nat.zero_add]) | (refine AW.seq_k fun K hK => ?_) | (refine AW.exit ?_; simp only [go_sem, ↓reduceIte]) | (refine AW.condF rfl (by first | rfl | (simp; omega) | (simp [*]; done) | fail) ?_) | (refine hK _ ?_; clear hK K) | (clear hK K; refine hK _ ?_; clear hK K) | (with_reducible refine And.intro ?_ ?_; first | omega | assumption | (focus (decide)) | (focus (simp; done)) | (focus (simp; omega)) | (focus (constructor <;> omega)) | fail))
      exact ⟨(M + 1, upN bs M v, upN ns M x), ⟨by simp only; omega, hM, dp_step hn6 hw m3 m1 (by rw [hPP]; exact hM) i2⟩, by simp only; omega, (Weak.auto hcx rfl rfl (Nat.le_of_ble_eq_true rfl) (by simp [go_sem, gL, kL, renOf, V.obj, lk, Nat.blt, Nat.ble, List.map_append, dv_push]) (by simp [go_sem, gL, kL, renOf, V.obj, lk, Nat.blt, Nat.ble, List.map_append, dv_push]) (by first | exact pk0 | exact pk1 ⟨_, rfl⟩ | exact pk2 ⟨_, rfl⟩ ⟨_, rfl⟩ | exact pk3 ⟨_, rfl⟩ ⟨_, rfl⟩ ⟨_, rfl⟩ | exact pk4 ⟨_, rfl⟩ ⟨_, rfl⟩ ⟨_, rfl⟩ ⟨_, rfl⟩) (by simp [go_sem, gL, kL, lk, renOf, V.obj, Nat.blt, Nat.ble]))⟩
  obtain rfl : M = P := by omega
  repeat' (first | (refine AW.sreg rfl fun K hK => ?_; simp only [go_sem, Nat.reduceAdd, Nat.reduceMul, Int.reduceToNat, Nat.reduceLT, Nat.reduceLeDiff, Nat.le_refl, Nat.reduceEqDiff, ↓reduceIte, beq_self_eq_true, bne_self_eq_false, Int.reduceBEq, Int.reduceBNe, or_self, true_or, or_true, Option.map_some, Option.map_none, List.length_map, hP, Int.toNat_natCast, Nat.zero_add]) | (refine AW.seq_k fun K hK => ?_) | (refine AW.block ?_) | (refine AW.exit ?_; simp only [go_sem, ↓reduceIte]) | (refine AW.condF rfl (by first | rfl | (simp; omega) | (simp [*]; done) | fail) ?_) | (refine hK _ ?_; clear hK K) | (clear hK K; refine hK _ ?_; clear hK K) | (with_reducible refine And.intro ?_ ?_; first | omega | assumption | (focus (decide)) | (focus (simp; done)) | (focus (simp; omega)) | (focus (constructor <;> omega)) | fail))
  refine AW.weak (Weak.nil 16 9 1 rfl) ?_
  have hP3 : ((M : Nat) : Int) - 1 = ((M - 1 : Nat) : Int) := by omega
  refine AW.loopF (ι := Nat × List Str) [7, 8, 9, 10] (fun p => [(16, .slr 2432 0 p.2.length), (17, I p.1)]) (fun p => [(1856, some (bvec M bs)), (2112, some (nvec M ns)), (2432, some (SWk p.2))]) 40 (fun p => p.2.length + p.1 < M ∧ OutOk (wnF ms) ps bs (bs (M - 1)) p.2 p.1) (fun p => p.1) (M - 1, []) ⟨by simp only [List.length_nil]; omega, by rw [← hPP]; exact out_start hn6 bs⟩ (Weak.auto hcx rfl rfl (Nat.le_of_ble_eq_true rfl) (by simp [go_sem, gL, kL, renOf, V.obj, lk, Nat.blt, Nat.ble, List.map_append, dv_push, hP3]) (by simp [go_sem, gL, kL, renOf, V.obj, lk, Nat.blt, Nat.ble, List.map_append, dv_push, hP3]) (by first | exact pk0 | exact pk1 ⟨_, rfl⟩ | exact pk2 ⟨_, rfl⟩ ⟨_, rfl⟩ | exact pk3 ⟨_, rfl⟩ ⟨_, rfl⟩ ⟨_, rfl⟩ | exact pk4 ⟨_, rfl⟩ ⟨_, rfl⟩ ⟨_, rfl⟩ ⟨_, rfl⟩) (by simp [go_sem, gL, kL, lk, renOf, V.obj, Nat.blt, Nat.ble, hP3])) ?_; simp only [St.at_nil, St.at_cons, lk, Nat.reduceEqDiff, ↓reduceIte, Option.getD_some, Option.getD_none, List.cons_append, List.nil_append, List.append_nil]
  rintro ⟨R, out⟩ ⟨r1, r2⟩
  dsimp only at r1 r2 ⊢
  by_cases hR : 0 < R
  · have hRM : R < M := by omega
    have hR2 : R < 2 ^ ps.length := by omega
    have hok : DpOk (wnF ms) ps bs ns (2 ^ ps.length) := by rw [hPP]; exact m3.ok
    have hx := (hok.at_ R hR hR2).1
    have hc := (bits_at hn6 hR2).2 _ hx
    have hxl := (bits_lt hx).1
    have g5 := tbl_dv (fun y => ((ns y : Nat) : Int)) hRM
    have hst := out_step hn6 hok hR hR2 r2
    have e2 := clr_eq (show R < 64 by omega) (show ns R < 6 by omega)
    have g6 : (ps.map D.str)[ns R]? = some (.str (ps.getD (ns R) [])) := by rw [List.getElem?_map, getD_at hxl]; rfl
    have htl : List.take out.length (dv (out.map D.str)) = dv (out.map D.str) := List.take_of_length_le (by simp [dv])
    generalize ps.getD (ns R) [] = pa at *
    generalize ns R = x at *
    repeat' (first | ((first | refine AW.sreg rfl fun K hK => ?_ | refine AW.reg rfl ?_ | refine AW.regD hmix rfl ?_); simp only [go_sem, Nat.reduceAdd, Nat.reduceMul, Int.reduceToNat, Nat.reduceLT, Nat.reduceLeDiff, Nat.le_refl, Nat.reduceEqDiff, ↓reduceIte, beq_self_eq_true, bne_self_eq_false, Int.reduceBEq, Int.reduceBNe, or_self, true_or, or_true, Option.map_some, Option.map_none, List.length_map, hP, Int.toNat_natCast, Nat.zero_add, g5, g6, e2, htl]) | (refine AW.seq_k fun K hK => ?_) | (refine AW.block ?_) | (refine AW.skip ?_; simp only [Then, InBlock]) | (refine AW.condT rfl (by first | rfl | (simp; omega) | (simp [*]; done) | fail) ?_) | (refine hK _ ?_; clear hK K) | (with_reducible refine And.intro (?_ : regOk _ _ = true) ?_; kernel_rfl) | (with_reducible refine And.intro ?_ ?_; first | omega | assumption | (focus (decide)) | (focus (simp; done)) | (focus (simp; omega)) | (focus (constructor <;> omega)) | fail))
    exact ⟨(clr R x, out ++ [pa]), ⟨by simp only [List.length_append, List.length_singleton]; omega, hst⟩, by simp only; omega, (Weak.auto hcx rfl rfl (Nat.le_of_ble_eq_true rfl) (by simp [go_sem, gL, kL, renOf, V.obj, lk, Nat.blt, Nat.ble, List.map_append, dv_push]) (by simp [go_sem, gL, kL, renOf, V.obj, lk, Nat.blt, Nat.ble, List.map_append, dv_push]) (by first | exact pk0 | exact pk1 ⟨_, rfl⟩ | exact pk2 ⟨_, rfl⟩ ⟨_, rfl⟩ | exact pk3 ⟨_, rfl⟩ ⟨_, rfl⟩ ⟨_, rfl⟩ | exact pk4 ⟨_, rfl⟩ ⟨_, rfl⟩ ⟨_, rfl⟩ ⟨_, rfl⟩) (by simp [go_sem, gL, kL, lk, renOf, V.obj, Nat.blt, Nat.ble]))⟩
  · obtain rfl : R = 0 := by omega
    obtain ⟨q1, q2⟩ := out_end m3.ok r2
    have g7 := tbl_dv bs (show M - 1 < M by omega)
    repeat' (first | ((first | refine AW.sreg rfl fun K hK => ?_ | refine AW.sregD hmix rfl fun K hK => ?_); simp only [go_sem, Nat.reduceAdd, Nat.reduceMul, Int.reduceToNat, Nat.reduceLT, Nat.reduceLeDiff, Nat.le_refl, Nat.reduceEqDiff, ↓reduceIte, beq_self_eq_true, bne_self_eq_false, Int.reduceBEq, Int.reduceBNe, or_self, true_or, or_true, Option.map_some, Option.map_none, List.length_map, hP, hP3, Int.toNat_natCast, Nat.zero_add, g7]) | (refine AW.seq_k fun K hK => ?_) | (refine AW.exit ?_; simp only [go_sem, ↓reduceIte]) | (refine AW.condF rfl (by first | rfl | (simp; omega) | (simp [*]; done) | fail) ?_) | (refine hK _ ?_; clear hK K) | (clear hK K; refine hK _ ?_; clear hK K) | (with_reducible refine And.intro (?_ : regOk _ _ = true) ?_; kernel_rfl) | (with_reducible refine And.intro ?_ ?_; first | omega | assumption | (focus (decide)) | (focus (simp; done)) | (focus (simp; omega)) | (focus (constructor <;> omega)) | fail))
    exact AW.ret ⟨(out, bs (M - 1)), ⟨q1, q2, fun o' ho' => dp_le hn6 (by rw [hPP]; exact m3.ok) o' (M - 1) (by omega) (by rw [← hPP, subS_full hn6]; exact ho')⟩, Fin.data rfl (by simp [go_sem, toDL_dvF]) rfl⟩
end Go.AX

namespace Go.AX
open Go Go.Proofs Go.RowKit
theorem nodup_perm : ∀ (l r : List Str), l.Nodup → (∀ x ∈ l, x ∈ r) → r.length ≤ l.length → l.Perm r
  | [], r, _, _, h => by
    have : r = [] := List.eq_nil_of_length_eq_zero (by simpa using h)
    subst this
    exact List.Perm.refl _
  | x :: l, r, hn, h, hl => by
    have hn' := List.nodup_cons.1 hn
    have hx := h x (by simp)
    have h1 := List.length_erase_of_mem hx
    have h2 := List.length_pos_of_mem hx
    simp only [List.length_cons] at hl
    have ih := nodup_perm l (r.erase x) hn'.2 (fun y hy => by
      have hne : y ≠ x := by rintro rfl; exact hn'.1 hy
      exact (List.mem_erase_of_ne hne).2 (h y (List.mem_cons_of_mem _ hy))) (by omega)
    exact (ih.cons x).trans (List.perm_cons_erase hx).symm
theorem agC_drop (w : Str → Str → Int) {o : List Str} {i : Nat} {a : Str} (h : o[i]? = some a) : agC w (o.drop i) = ((o.drop (i + 1)).map fun b => w b a).sum + agC w (o.drop (i + 1)) := by
  obtain ⟨hi, rfl⟩ := List.getElem?_eq_some_iff.1 h
  rw [List.drop_eq_getElem_cons hi]
  rfl
theorem against_any (ms : List Mk) (H L : List Str) (hmk : MkO ms H L) (hn6 : (pps ms).length ≤ 6) (o : List Str) (ho : o.length ≤ 10) : DoesI Tryz.prog 26 [.d (.sl (ms.map mkD)), .d (.sl (o.map D.str))] [] (fun q : Int × Int => (q.2 = 0 → o.Perm (pps ms) ∧ q.1 = agC (wnF ms) o) ∧ (o.Perm (pps ms) → q.2 = 0)) (fun q => .tup [I q.1, I q.2]) (fun q => []) := by
  have h1 := checkedO ms H L hmk
  have hw := wnF_bd hmk.len
  refine DoesI.of_AW (n := 78) Tryz.func26 rfl rfl rfl fun cx hcx => ?_
  refine AW.sreg rfl fun K hK => ?_; simp only [go_sem, Nat.reduceAdd, Nat.reduceMul, Int.reduceToNat, Nat.reduceLT, Nat.reduceLeDiff, Nat.le_refl, Nat.reduceEqDiff, ↓reduceIte, beq_self_eq_true, bne_self_eq_false, Int.reduceBEq, Int.reduceBNe, or_self, true_or, or_true, Option.map_some, Option.map_none]
  refine hK _ ?_; (try clear hK K)
  refine AW.sreg rfl fun K hK => ?_; simp only [go_sem, Nat.reduceAdd, Nat.reduceMul, Int.reduceToNat, Nat.reduceLT, Nat.reduceLeDiff, Nat.le_refl, Nat.reduceEqDiff, ↓reduceIte, beq_self_eq_true, bne_self_eq_false, Int.reduceBEq, Int.reduceBNe, or_self, true_or, or_true, Option.map_some, Option.map_none]
  first | (refine run_callI _ _ _ ((h1).pure rfl (fun _ => rfl) _ _) rfl rfl (dstOk_of rfl) rfl rfl rfl ?_; rintro q hq; (try dsimp only at q); (try dsimp only at hq); simp only [go_sem, Nat.reduceAdd, Nat.reduceMul, Int.reduceToNat, Nat.reduceLT, Nat.reduceLeDiff, Nat.le_refl, Nat.reduceEqDiff, ↓reduceIte, beq_self_eq_true, bne_self_eq_false, Int.reduceBEq, Int.reduceBNe, or_self, true_or, or_true, Option.map_some, Option.map_none])
  refine hK _ ?_; (try clear hK K)
  have hwn := wins_any ms hmk.len q hq
  have e1 := hq.eqP
  have hfd := fun p => hq.pa.find p
  have hnp : (pps ms).Nodup := rise_nodupS (onc_rise _)
  rw [← e1] at hn6 hnp ⊢
  repeat' (first | (refine AW.sreg rfl fun K hK => ?_; simp only [go_sem, Nat.reduceAdd, Nat.reduceMul, Int.reduceToNat, Nat.reduceLT, Nat.reduceLeDiff, Nat.le_refl, Nat.reduceEqDiff, ↓reduceIte, beq_self_eq_true, bne_self_eq_false, Int.reduceBEq, Int.reduceBNe, or_self, true_or, or_true, Option.map_some, Option.map_none, List.length_map]) | (refine AW.seq_k fun K hK => ?_) | (refine AW.block ?_) | (refine AW.skip ?_; simp only [Then, InBlock]) | (refine AW.condF rfl (by first | rfl | (simp; omega) | (simp [*]; done) | fail) ?_) | (refine hK _ ?_; clear hK K))
  refine AW.loopF (ι := Nat) [1, 6, 8, 25, 26] (fun p => [(27, I p)]) (fun p => [(704, some (O.map ((o.take p).map D.str) (dv ((o.take p).map fun _ => D.bool true))))]) 16 (fun p => p ≤ o.length ∧ (o.take p).Nodup ∧ ∀ x ∈ o.take p, x ∈ q.1.1) (fun p => o.length - p) 0 ⟨Nat.zero_le _, by simp, by simp⟩ (Weak.auto hcx rfl rfl (Nat.le_of_ble_eq_true rfl) (by simp [go_sem, gL, kL, renOf, V.obj, lk, Nat.blt, Nat.ble, List.map_append, dv_push, List.take_zero, dvz, List.map_nil]) (by simp [go_sem, gL, kL, renOf, V.obj, lk, Nat.blt, Nat.ble, List.map_append, dv_push, List.take_zero, dvz, List.map_nil]) (by first | exact pk0 | exact pk1 ⟨_, rfl⟩ | exact pk2 ⟨_, rfl⟩ ⟨_, rfl⟩ | exact pk3 ⟨_, rfl⟩ ⟨_, rfl⟩ ⟨_, rfl⟩ | exact pk4 ⟨_, rfl⟩ ⟨_, rfl⟩ ⟨_, rfl⟩ ⟨_, rfl⟩) (by simp [go_sem, gL, kL, lk, renOf, V.obj, Nat.blt, Nat.ble, List.take_zero, dvz, List.map_nil])) ?_; simp only [St.at_nil, St.at_cons, lk, Nat.reduceEqDiff, ↓reduceIte, Option.getD_some, Option.getD_none, List.cons_append, List.nil_append, List.append_nil]
  rintro i ⟨i1, i2, i3⟩
  have hno : ∀ {e : Int}, e ≠ 0 → ¬ o.Perm q.1.1 → ((e = 0 → o.Perm q.1.1 ∧ (0 : Int) = agC (wnF ms) o) ∧ (o.Perm q.1.1 → e = 0)) := fun he hp => ⟨fun h => absurd h he, fun h => absurd h hp⟩
  by_cases hi : i < o.length
  · obtain ⟨x, hx, hxm, -⟩ := get_some hi
    have hget : (o.map D.str)[i]? = some (.str x) := by simp only [List.getElem?_map, hx, Option.map_some]
    have hsn := take_snoc hx
    by_cases hm : x ∈ q.1.1
    case neg =>
      have hnn : ¬ o.Perm q.1.1 := fun hp => hm (hp.mem_iff.1 hxm)
      have e0 : gP ms x = [] := Classical.byContradiction fun h => hm ((hq.pa.mem x).2 h)
      rcases hfd x with ⟨f1, f2⟩ | ⟨j, f1, f2⟩
      · repeat' (first | (refine AW.sreg rfl fun K hK => ?_; simp only [go_sem, Nat.reduceAdd, Nat.reduceMul, Int.reduceToNat, Nat.reduceLT, Nat.reduceLeDiff, Nat.le_refl, Nat.reduceEqDiff, ↓reduceIte, beq_self_eq_true, bne_self_eq_false, Int.reduceBEq, Int.reduceBNe, or_self, true_or, or_true, Option.map_some, Option.map_none, List.length_map, hget, f1]) | (refine AW.seq_k fun K hK => ?_) | (refine AW.block ?_) | (refine AW.skip ?_; simp only [Then, InBlock]) | (refine AW.condT rfl (by first | rfl | (simp; omega) | (simp [*]; done) | fail) ?_) | (refine hK _ ?_; clear hK K) | (with_reducible refine And.intro ?_ ?_; first | omega | assumption | (focus (decide)) | (focus (simp; done)) | (focus (simp; omega)) | (focus (constructor <;> omega)) | fail))
        exact AW.ret ⟨(0, 8), hno (by decide) hnn, Fin.data rfl (by simp [go_sem]) rfl⟩
      · rw [e0] at f2
        repeat' (first | (refine AW.sreg rfl fun K hK => ?_; simp only [go_sem, Nat.reduceAdd, Nat.reduceMul, Int.reduceToNat, Nat.reduceLT, Nat.reduceLeDiff, Nat.le_refl, Nat.reduceEqDiff, ↓reduceIte, beq_self_eq_true, bne_self_eq_false, Int.reduceBEq, Int.reduceBNe, or_self, true_or, or_true, Option.map_some, Option.map_none, List.length_map, List.map_nil, List.length_nil, Int.ofNat_zero, hget, f1, f2]) | (refine AW.seq_k fun K hK => ?_) | (refine AW.block ?_) | (refine AW.skip ?_; simp only [Then, InBlock]) | (refine AW.condT rfl (by first | rfl | (simp; omega) | (simp [*]; done) | fail) ?_) | (refine hK _ ?_; clear hK K) | (with_reducible refine And.intro ?_ ?_; first | omega | assumption | (focus (decide)) | (focus (simp; done)) | (focus (simp; omega)) | (focus (constructor <;> omega)) | fail))
        exact AW.ret ⟨(0, 8), hno (by decide) hnn, Fin.data rfl (by simp [go_sem]) rfl⟩
    have hp1 := hq.pos hm
    obtain ⟨j, f1, f2⟩ := hq.at hm
    have hgl : ¬ (((gP ms x).length : Nat) : Int) = 0 := by omega
    by_cases hf : x ∈ o.take i
    case neg =>
      have hnk := fnd_no hf
      have hnd : (o.take (i + 1)).Nodup := by
        rw [hsn]
        exact List.nodup_append.2 ⟨i2, by simp, fun a ha b hb => by
          obtain rfl := List.mem_singleton.1 hb
          rintro rfl
          exact hf ha⟩
      have hin : ∀ y ∈ o.take (i + 1), y ∈ q.1.1 := fun y hy => by
        rw [hsn] at hy
        rcases List.mem_append.1 hy with hy | hy
        · exact i3 y hy
        · obtain rfl := List.mem_singleton.1 hy
          exact hm
      repeat' (first | ((first | refine AW.sreg rfl fun K hK => ?_ | refine AW.reg rfl ?_); simp only [go_sem, Nat.reduceAdd, Nat.reduceMul, Int.reduceToNat, Nat.reduceLT, Nat.reduceLeDiff, Nat.le_refl, Nat.reduceEqDiff, ↓reduceIte, beq_self_eq_true, bne_self_eq_false, Int.reduceBEq, Int.reduceBNe, or_self, true_or, or_true, Option.map_some, Option.map_none, List.length_map, hget, f1, f2, hnk, hgl]) | (refine AW.seq_k fun K hK => ?_) | (refine AW.block ?_) | (refine AW.skip ?_; simp only [Then, InBlock]) | (refine AW.condT rfl (by first | rfl | (simp; omega) | (simp [*]; done) | fail) ?_) | (refine AW.condF rfl (by first | rfl | (simp; omega) | (simp [*]; done) | fail) ?_) | (refine AW.cond rfl (fun h => ?_) (fun h => ?_) <;> (try simp only [decide_eq_true_eq, decide_eq_false_iff_not, Bool.not_eq_true', Bool.not_eq_false', Bool.not_eq_eq_eq_not, Bool.not_true, Bool.not_false, beq_iff_eq, bne_iff_ne, beq_eq_false_iff_ne, ne_eq, Bool.and_eq_true, Bool.or_eq_true, Bool.or_eq_false_iff] at h)) | (refine hK _ ?_; clear hK K) | (with_reducible refine And.intro ?_ ?_; first | omega | assumption | (focus (decide)) | (focus (simp; done)) | (focus (simp; omega)) | (focus (constructor <;> omega)) | fail) | (exfalso; omega))
      exact ⟨i + 1, ⟨hi, hnd, hin⟩, by omega, (Weak.auto hcx rfl rfl (Nat.le_of_ble_eq_true rfl) (by simp [go_sem, gL, kL, renOf, V.obj, lk, Nat.blt, Nat.ble, List.map_append, dv_push, hsn]) (by simp [go_sem, gL, kL, renOf, V.obj, lk, Nat.blt, Nat.ble, List.map_append, dv_push, hsn]) (by first | exact pk0 | exact pk1 ⟨_, rfl⟩ | exact pk2 ⟨_, rfl⟩ ⟨_, rfl⟩ | exact pk3 ⟨_, rfl⟩ ⟨_, rfl⟩ ⟨_, rfl⟩ | exact pk4 ⟨_, rfl⟩ ⟨_, rfl⟩ ⟨_, rfl⟩ ⟨_, rfl⟩) (by simp [go_sem, gL, kL, lk, renOf, V.obj, Nat.blt, Nat.ble, hsn]))⟩
    case pos =>
      obtain ⟨k, hk⟩ := List.getElem?_of_mem hf
      have hkl := get_lt hk
      rw [List.length_take] at hkl
      have hfk := fnd_at i2 hk
      have hgv : (dv ((o.take i).map fun _ => D.bool true))[k]? = some (.d (.bool true)) := by
        unfold dv
        rw [List.getElem?_map, List.getElem?_map, hk]
        rfl
      have hnn : ¬ o.Perm q.1.1 := fun hp => by
        have hnd := hp.nodup_iff.2 hnp
        rw [List.getElem?_take_of_lt (by omega)] at hk
        have := (List.getElem?_inj (by omega) hnd).1 (hk.trans hx.symm)
        omega
      repeat' (first | (refine AW.sreg rfl fun K hK => ?_; simp only [go_sem, Nat.reduceAdd, Nat.reduceMul, Int.reduceToNat, Nat.reduceLT, Nat.reduceLeDiff, Nat.le_refl, Nat.reduceEqDiff, ↓reduceIte, beq_self_eq_true, bne_self_eq_false, Int.reduceBEq, Int.reduceBNe, or_self, true_or, or_true, Option.map_some, Option.map_none, List.length_map, hget, f1, f2, hfk, hgv, hgl]) | (refine AW.seq_k fun K hK => ?_) | (refine AW.block ?_) | (refine AW.skip ?_; simp only [Then, InBlock]) | (refine AW.condT rfl (by first | rfl | (simp; omega) | (simp [*]; done) | fail) ?_) | (refine AW.cond rfl (fun h => ?_) (fun h => ?_) <;> (try simp only [decide_eq_true_eq, decide_eq_false_iff_not, Bool.not_eq_true', Bool.not_eq_false', Bool.not_eq_eq_eq_not, Bool.not_true, Bool.not_false, beq_iff_eq, bne_iff_ne, beq_eq_false_iff_ne, ne_eq, Bool.and_eq_true, Bool.or_eq_true, Bool.or_eq_false_iff] at h)) | (refine hK _ ?_; clear hK K) | (with_reducible refine And.intro ?_ ?_; first | omega | assumption | (focus (decide)) | (focus (simp; done)) | (focus (simp; omega)) | (focus (constructor <;> omega)) | fail) | (exfalso; omega))
      exact AW.ret ⟨(0, 6), hno (by decide) hnn, Fin.data rfl (by simp [go_sem]) rfl⟩
  · obtain rfl : i = o.length := by omega
    rw [List.take_length] at i2 i3
    by_cases hle : o.length < q.1.1.length
    · have hnn : ¬ o.Perm q.1.1 := fun hp => by have := hp.length_eq; omega
      repeat' (first | (refine AW.sreg rfl fun K hK => ?_; simp only [go_sem, Nat.reduceAdd, Nat.reduceMul, Int.reduceToNat, Nat.reduceLT, Nat.reduceLeDiff, Nat.le_refl, Nat.reduceEqDiff, ↓reduceIte, beq_self_eq_true, bne_self_eq_false, Int.reduceBEq, Int.reduceBNe, or_self, true_or, or_true, Option.map_some, Option.map_none, List.length_map, hle]) | (refine AW.seq_k fun K hK => ?_) | (refine AW.exit ?_; simp only [go_sem, ↓reduceIte]) | (refine AW.condT rfl (by first | rfl | (simp; omega) | (simp [*]; done) | fail) ?_) | (refine AW.condF rfl (by first | rfl | (simp; omega) | (simp [*]; done) | fail) ?_) | (refine hK _ ?_; clear hK K) | (clear hK K; refine hK _ ?_; clear hK K))
      exact AW.ret ⟨(0, 3), hno (by decide) hnn, Fin.data rfl (by simp [go_sem]) rfl⟩
    have hpm := nodup_perm o q.1.1 i2 i3 (by omega)
    clear hno
    repeat' (first | (refine AW.sreg rfl fun K hK => ?_; simp only [go_sem, Nat.reduceAdd, Nat.reduceMul, Int.reduceToNat, Nat.reduceLT, Nat.reduceLeDiff, Nat.le_refl, Nat.reduceEqDiff, ↓reduceIte, beq_self_eq_true, bne_self_eq_false, Int.reduceBEq, Int.reduceBNe, or_self, true_or, or_true, Option.map_some, Option.map_none, List.length_map, hle]) | (refine AW.seq_k fun K hK => ?_) | (refine AW.block ?_) | (refine AW.skip ?_; simp only [Then, InBlock]) | (refine AW.exit ?_; simp only [go_sem, ↓reduceIte]) | (refine AW.condF rfl (by first | rfl | (simp; omega) | (simp [*]; done) | fail) ?_) | (refine hK _ ?_; clear hK K) | (clear hK K; refine hK _ ?_; clear hK K))
    refine AW.loopF (ι := Nat × Int) [1, 6, 53, 54] (fun p => [(11, I p.2), (55, I p.1)]) (fun p => []) 32 (fun p => p.1 ≤ o.length ∧ p.2 = agC (wnF ms) o - agC (wnF ms) (o.drop p.1) ∧ 0 ≤ p.2 ∧ p.2 ≤ 17640 * p.1) (fun p => o.length - p.1) (0, 0) ⟨Nat.zero_le _, by simp, by simp, by simp⟩ (Weak.auto hcx rfl rfl (Nat.le_of_ble_eq_true rfl) (by simp [go_sem, gL, kL, renOf, V.obj, lk, Nat.blt, Nat.ble, List.map_append, dv_push]) (by simp [go_sem, gL, kL, renOf, V.obj, lk, Nat.blt, Nat.ble, List.map_append, dv_push]) (by first | exact pk0 | exact pk1 ⟨_, rfl⟩ | exact pk2 ⟨_, rfl⟩ ⟨_, rfl⟩ | exact pk3 ⟨_, rfl⟩ ⟨_, rfl⟩ ⟨_, rfl⟩ | exact pk4 ⟨_, rfl⟩ ⟨_, rfl⟩ ⟨_, rfl⟩ ⟨_, rfl⟩) (by simp [go_sem, gL, kL, lk, renOf, V.obj, Nat.blt, Nat.ble])) ?_; simp only [St.at_nil, St.at_cons, lk, Nat.reduceEqDiff, ↓reduceIte, Option.getD_some, Option.getD_none, List.cons_append, List.nil_append, List.append_nil]
    rintro ⟨i, n⟩ ⟨n1, n2, n3, n4⟩
    dsimp only at n1 n2 n3 n4 ⊢
    by_cases hi : i < o.length
    · obtain ⟨x, hx, hxm, -⟩ := get_some hi
      have hget : (o.map D.str)[i]? = some (.str x) := by simp only [List.getElem?_map, hx, Option.map_some]
      have hdr := agC_drop (wnF ms) hx
      have hall : (o.map D.str).all (elemOkD 1) = true := by
        simp only [List.all_map, List.all_eq_true]
        intro y _
        rfl
      have htk : List.take (o.length - ((i : Int) + 1).toNat) (List.drop ((i : Int) + 1).toNat (o.map D.str)) = (o.drop (i + 1)).map D.str := by
        rw [show ((i : Int) + 1).toNat = i + 1 by omega, ← List.map_drop]
        exact List.take_of_length_le (by simp)
      have hrl : (o.drop (i + 1)).length = o.length - (i + 1) := List.length_drop
      have hrm : ∀ y ∈ o.drop (i + 1), y ∈ q.1.1 := fun y hy => i3 y (List.mem_of_mem_drop hy)
      generalize hdrop : o.drop (i + 1) = r at *
      repeat' (first | (refine AW.sreg rfl fun K hK => ?_; simp only [go_sem, Nat.reduceAdd, Nat.reduceMul, Int.reduceToNat, Nat.reduceLT, Nat.reduceLeDiff, Nat.le_refl, Nat.reduceEqDiff, ↓reduceIte, beq_self_eq_true, bne_self_eq_false, Int.reduceBEq, Int.reduceBNe, or_self, true_or, or_true, Option.map_some, Option.map_none, List.length_map, hget, hall, and_true, htk]) | (refine AW.seq_k fun K hK => ?_) | (refine AW.block ?_) | (refine AW.skip ?_; simp only [Then, InBlock]) | (refine AW.condT rfl (by first | rfl | (simp; omega) | (simp [*]; done) | fail) ?_) | (refine hK _ ?_; clear hK K) | (with_reducible refine And.intro ?_ ?_; first | omega | assumption | (focus (decide)) | (focus (simp; done)) | (focus (simp; omega)) | (focus (constructor <;> omega)) | fail))
      refine AW.loopF (ι := Nat × Int) [1, 6, 13, 53, 54, 55, 63, 64] (fun p => [(11, I p.2), (65, I p.1)]) (fun p => []) 44 (fun p => p.1 ≤ r.length ∧ p.2 = n + ((r.take p.1).map fun b => wnF ms b x).sum ∧ 0 ≤ p.2 ∧ p.2 ≤ 17640 * i + 1764 * p.1) (fun p => r.length - p.1) (0, n) ⟨Nat.zero_le _, by simp, n3, by simp only; omega⟩ (Weak.auto hcx rfl rfl (Nat.le_of_ble_eq_true rfl) (by simp [go_sem, gL, kL, renOf, V.obj, lk, Nat.blt, Nat.ble, List.map_append, dv_push]) (by simp [go_sem, gL, kL, renOf, V.obj, lk, Nat.blt, Nat.ble, List.map_append, dv_push]) (by first | exact pk0 | exact pk1 ⟨_, rfl⟩ | exact pk2 ⟨_, rfl⟩ ⟨_, rfl⟩ | exact pk3 ⟨_, rfl⟩ ⟨_, rfl⟩ ⟨_, rfl⟩ | exact pk4 ⟨_, rfl⟩ ⟨_, rfl⟩ ⟨_, rfl⟩ ⟨_, rfl⟩) (by simp [go_sem, gL, kL, lk, renOf, V.obj, Nat.blt, Nat.ble])) ?_; simp only [St.at_nil, St.at_cons, lk, Nat.reduceEqDiff, ↓reduceIte, Option.getD_some, Option.getD_none, List.cons_append, List.nil_append, List.append_nil]
      rintro ⟨k, m⟩ ⟨m1, m2, m3, m4⟩
      dsimp only at m1 m2 m3 m4 ⊢
      by_cases hk : k < r.length
      · obtain ⟨y, hy, hym, -⟩ := get_some hk
        have hgy : (r.map D.str)[k]? = some (.str y) := by simp only [List.getElem?_map, hy, Option.map_some]
        have hsn : ((r.take (k + 1)).map fun b => wnF ms b x).sum = ((r.take k).map fun b => wnF ms b x).sum + wnF ms y x := by
          rw [take_snoc hy, List.map_append, List.sum_append]
          simp
        have hwv := hwn y x (hrm y hym) (i3 x hxm)
        have hww := hw y x
        generalize wnF ms y x = wv at *
        repeat' (first | ((first | refine AW.sreg rfl fun K hK => ?_ | refine AW.reg rfl ?_ | refine run_call _ _ _ ((hwv).pure rfl rfl _ _) rfl rfl (dstOk_of rfl) rfl rfl rfl ?_); simp only [go_sem, Nat.reduceAdd, Nat.reduceMul, Int.reduceToNat, Nat.reduceLT, Nat.reduceLeDiff, Nat.le_refl, Nat.reduceEqDiff, ↓reduceIte, beq_self_eq_true, bne_self_eq_false, Int.reduceBEq, Int.reduceBNe, or_self, true_or, or_true, Option.map_some, Option.map_none, List.length_map, hgy]) | (refine AW.seq_k fun K hK => ?_) | (refine AW.block ?_) | (refine AW.skip ?_; simp only [Then, InBlock]) | (refine AW.condT rfl (by first | rfl | (simp; omega) | (simp [*]; done) | fail) ?_) | (refine hK _ ?_; clear hK K) | (with_reducible refine And.intro ?_ ?_; first | omega | assumption | (focus (decide)) | (focus (simp; done)) | (focus (simp; omega)) | (focus (constructor <;> omega)) | fail))
        exact ⟨(k + 1, m + wv), ⟨hk, by simp only; omega, by simp only; omega, by simp only; omega⟩, by simp only; omega, (Weak.auto hcx rfl rfl (Nat.le_of_ble_eq_true rfl) (by simp [go_sem, gL, kL, renOf, V.obj, lk, Nat.blt, Nat.ble, List.map_append, dv_push]) (by simp [go_sem, gL, kL, renOf, V.obj, lk, Nat.blt, Nat.ble, List.map_append, dv_push]) (by first | exact pk0 | exact pk1 ⟨_, rfl⟩ | exact pk2 ⟨_, rfl⟩ ⟨_, rfl⟩ | exact pk3 ⟨_, rfl⟩ ⟨_, rfl⟩ ⟨_, rfl⟩ | exact pk4 ⟨_, rfl⟩ ⟨_, rfl⟩ ⟨_, rfl⟩ ⟨_, rfl⟩) (by simp [go_sem, gL, kL, lk, renOf, V.obj, Nat.blt, Nat.ble]))⟩
      · obtain rfl : k = r.length := by omega
        rw [List.take_length] at m2
        repeat' (first | ((first | refine AW.sreg rfl fun K hK => ?_ | refine AW.reg rfl ?_); simp only [go_sem, Nat.reduceAdd, Nat.reduceMul, Int.reduceToNat, Nat.reduceLT, Nat.reduceLeDiff, Nat.le_refl, Nat.reduceEqDiff, ↓reduceIte, beq_self_eq_true, bne_self_eq_false, Int.reduceBEq, Int.reduceBNe, or_self, true_or, or_true, Option.map_some, Option.map_none, List.length_map]) | (refine AW.seq_k fun K hK => ?_) | (refine AW.exit ?_; simp only [go_sem, ↓reduceIte]) | (refine AW.condF rfl (by first | rfl | (simp; omega) | (simp [*]; done) | fail) ?_) | (refine hK _ ?_; clear hK K) | (clear hK K; refine hK _ ?_; clear hK K) | (with_reducible refine And.intro ?_ ?_; first | omega | assumption | (focus (decide)) | (focus (simp; done)) | (focus (simp; omega)) | (focus (constructor <;> omega)) | fail))
        exact ⟨(i + 1, m), ⟨hi, by simp only [hdrop]; omega, m3, by simp only; omega⟩, by simp only; omega, (Weak.auto hcx rfl rfl (Nat.le_of_ble_eq_true rfl) (by simp [go_sem, gL, kL, renOf, V.obj, lk, Nat.blt, Nat.ble, List.map_append, dv_push]) (by simp [go_sem, gL, kL, renOf, V.obj, lk, Nat.blt, Nat.ble, List.map_append, dv_push]) (by first | exact pk0 | exact pk1 ⟨_, rfl⟩ | exact pk2 ⟨_, rfl⟩ ⟨_, rfl⟩ | exact pk3 ⟨_, rfl⟩ ⟨_, rfl⟩ ⟨_, rfl⟩ | exact pk4 ⟨_, rfl⟩ ⟨_, rfl⟩ ⟨_, rfl⟩ ⟨_, rfl⟩) (by simp [go_sem, gL, kL, lk, renOf, V.obj, Nat.blt, Nat.ble]))⟩
    · obtain rfl : i = o.length := by omega
      rw [List.drop_length] at n2
      repeat' (first | (refine AW.sreg rfl fun K hK => ?_; simp only [go_sem, Nat.reduceAdd, Nat.reduceMul, Int.reduceToNat, Nat.reduceLT, Nat.reduceLeDiff, Nat.le_refl, Nat.reduceEqDiff, ↓reduceIte, beq_self_eq_true, bne_self_eq_false, Int.reduceBEq, Int.reduceBNe, or_self, true_or, or_true, Option.map_some, Option.map_none, List.length_map]) | (refine AW.seq_k fun K hK => ?_) | (refine AW.exit ?_; simp only [go_sem, ↓reduceIte]) | (refine AW.condF rfl (by first | rfl | (simp; omega) | (simp [*]; done) | fail) ?_) | (refine hK _ ?_; clear hK K) | (clear hK K; refine hK _ ?_; clear hK K))
      exact AW.ret ⟨(n, 0), ⟨fun _ => ⟨hpm, by rw [n2]; simp [agC]⟩, fun _ => rfl⟩, Fin.data rfl (by simp [go_sem]) rfl⟩
end Go.AX

namespace Go.AX
open Go Go.Proofs Go.RowKit
theorem frz_slrT {hv : Nat → Option O} {keep : Nat → Bool} {id e s lo n : Nat} {xs ys : List D} (hk : keep id = false) (h : hv id = some (.vec e s (dv xs))) (hn : lo + n ≤ xs.length) (hy : (xs.drop lo).take n = ys) : frz hv keep (.slr id lo n) = .d (.sl ys) := by
  have hd : List.take n (List.drop lo (dv xs)) = dv ys := by
    rw [← hy]
    unfold dv
    rw [List.map_take, List.map_drop]
  have e : toD hv keep 8 (.slr id lo n) = some (.sl ys) := by
    rw [toD]
    simp only [hk, Bool.false_eq_true, if_false, h, dv_length, hn, if_true]
    rw [hd, show toDL (toD hv keep 7) (dv ys) = some ys from toDL_dv hv keep 6 ys]
  simp only [frz, hk, Bool.false_eq_true, if_false, e]
theorem swap_perm {α : Type} {l : List α} {i j : Nat} {x y : α} (hx : l[i]? = some x) (hy : l[j]? = some y) : ((l.set i y).set j x).Perm l := by
  have hi : i < l.length := by
    rcases Nat.lt_or_ge i l.length with h | h
    · exact h
    · simp [List.getElem?_eq_none h] at hx
  have hj : j < l.length := by
    rcases Nat.lt_or_ge j l.length with h | h
    · exact h
    · simp [List.getElem?_eq_none h] at hy
  rw [List.getElem?_eq_getElem hi] at hx
  rw [List.getElem?_eq_getElem hj] at hy
  cases hx; cases hy
  exact List.set_set_perm hi hj
abbrev NV (xs : List Nat) : List V := dv (xs.map fun k : Nat => D.int .i64 (k : Int))
theorem orderI (l : List Int) (hl2 : l.length ≤ 9223372036854775807) (at_ : Int) (ha : 0 ≤ at_) (hb : at_ ≤ 10000) (n : Nat) (hn : n ≤ 100) :
    DoesI Tryz.prog 69 [.ptr 0 0, I n] [Stm l at_] (fun q : List Nat × Int => q.1.Perm (List.range n) ∧ at_ ≤ q.2 ∧ q.2 ≤ at_ + 100) (fun q => .d (.sl (q.1.map fun k : Nat => D.int .i64 (k : Int)))) (fun q => [Stm l q.2]) := by
  refine DoesI.of_AW (n := 43) Tryz.func69 rfl rfl rfl fun cx hcx => ?_
  repeat' (first | (refine AW.sreg rfl fun K hK => ?_; simp only [go_sem, Nat.reduceAdd, Nat.reduceMul, Int.reduceToNat, Nat.reduceLT, Nat.reduceLeDiff, Nat.le_refl, Nat.reduceEqDiff, ↓reduceIte, beq_self_eq_true, bne_self_eq_false, Int.reduceBEq, Int.reduceBNe, or_self, true_or, or_true, Option.map_some, Option.map_none]) | (refine AW.seq_k fun K hK => ?_) | (refine AW.block ?_) | (refine hK _ ?_; clear hK K))
  refine AW.weak (Weak.nil 5 3 1 rfl) ?_
  refine AW.loopF (ι := Nat) [0, 1, 9] (fun p => [(10, I p), (5, .slr 320 0 p)]) (fun p => [(0, some (Stm l at_)), (320, some (O.vec 3 1 (NV (List.range p))))]) 6 (fun p => p ≤ n) (fun p => n - p) 0 (Nat.zero_le _) (Weak.auto hcx rfl rfl (Nat.le_of_ble_eq_true rfl) (by simp [go_sem, gL, kL, renOf, V.obj, lk, Nat.blt, Nat.ble, List.map_append, dv_push]) (by simp [go_sem, gL, kL, renOf, V.obj, lk, Nat.blt, Nat.ble, List.map_append, dv_push]) (by first | exact pk0 | exact pk1 ⟨_, rfl⟩ | exact pk2 ⟨_, rfl⟩ ⟨_, rfl⟩ | exact pk3 ⟨_, rfl⟩ ⟨_, rfl⟩ ⟨_, rfl⟩ | exact pk4 ⟨_, rfl⟩ ⟨_, rfl⟩ ⟨_, rfl⟩ ⟨_, rfl⟩) (by simp [go_sem, gL, kL, lk, renOf, V.obj, Nat.blt, Nat.ble])) ?_; simp only [St.at_nil, St.at_cons, lk, Nat.reduceEqDiff, ↓reduceIte, Option.getD_some, Option.getD_none, List.cons_append, List.nil_append, List.append_nil]
  intro i h1
  by_cases hi : i < n
  · have ht : (NV (List.range i)).take i = NV (List.range i) := List.take_of_length_le (by simp [NV, dv])
    repeat' (first | ((first | refine AW.sreg rfl fun K hK => ?_ | refine AW.reg rfl ?_); simp only [go_sem, Nat.reduceAdd, Nat.reduceMul, Int.reduceToNat, Nat.reduceLT, Nat.reduceLeDiff, Nat.le_refl, Nat.reduceEqDiff, ↓reduceIte, beq_self_eq_true, bne_self_eq_false, Int.reduceBEq, Int.reduceBNe, or_self, true_or, or_true, Option.map_some, Option.map_none, ht]) | (refine AW.seq_k fun K hK => ?_) | (refine AW.block ?_) | (refine AW.skip ?_; simp only [Then, InBlock]) | (refine AW.condT rfl (by first | rfl | (simp; omega) | (simp [*]; done) | fail) ?_) | (refine hK _ ?_; clear hK K) | (with_reducible refine And.intro ?_ ?_; first | omega | assumption | (focus (decide)) | (focus (simp; done)) | (focus (simp; omega)) | (focus (constructor <;> omega)) | fail))
    exact ⟨i + 1, hi, by omega, (Weak.auto hcx rfl rfl (Nat.le_of_ble_eq_true rfl) (by simp [go_sem, gL, kL, renOf, V.obj, lk, Nat.blt, Nat.ble, List.map_append, dv_push, List.range_succ, NV]) (by simp [go_sem, gL, kL, renOf, V.obj, lk, Nat.blt, Nat.ble, List.map_append, dv_push, List.range_succ, NV]) (by first | exact pk0 | exact pk1 ⟨_, rfl⟩ | exact pk2 ⟨_, rfl⟩ ⟨_, rfl⟩ | exact pk3 ⟨_, rfl⟩ ⟨_, rfl⟩ ⟨_, rfl⟩ | exact pk4 ⟨_, rfl⟩ ⟨_, rfl⟩ ⟨_, rfl⟩ ⟨_, rfl⟩) (by simp [go_sem, gL, kL, lk, renOf, V.obj, Nat.blt, Nat.ble, List.range_succ, NV]))⟩
  · obtain rfl : i = n := by omega
    repeat' (first | (refine AW.sreg rfl fun K hK => ?_; simp only [go_sem, Nat.reduceAdd, Nat.reduceMul, Int.reduceToNat, Nat.reduceLT, Nat.reduceLeDiff, Nat.le_refl, Nat.reduceEqDiff, ↓reduceIte, beq_self_eq_true, bne_self_eq_false, Int.reduceBEq, Int.reduceBNe, or_self, true_or, or_true, Option.map_some, Option.map_none]) | (refine AW.seq_k fun K hK => ?_) | (refine AW.block ?_) | (refine AW.exit ?_; simp only [go_sem, ↓reduceIte]) | (refine AW.condF rfl (by first | rfl | (simp; omega) | (simp [*]; done) | fail) ?_) | (refine hK _ ?_; clear hK K) | (clear hK K; refine hK _ ?_; clear hK K) | (with_reducible refine And.intro ?_ ?_; first | omega | assumption | (focus (decide)) | (focus (simp; done)) | (focus (simp; omega)) | (focus (constructor <;> omega)) | fail))
    refine AW.loopF (ι := Nat × List Nat × Int) [0, 5] (fun p => [(7, I ((p.1 : Int) - 1)), (5, .slr 320 0 i)]) (fun p => [(0, some (Stm l p.2.2)), (320, some (O.vec 3 1 (NV p.2.1)))]) 20 (fun p => p.1 ≤ i ∧ p.2.1.Perm (List.range i) ∧ at_ ≤ p.2.2 ∧ p.2.2 ≤ at_ + (i - p.1)) (fun p => p.1) (i, List.range i, at_) ⟨Nat.le_refl _, List.Perm.refl _, by simp only; omega, by simp only; omega⟩ (Weak.auto hcx rfl rfl (Nat.le_of_ble_eq_true rfl) (by simp [go_sem, gL, kL, renOf, V.obj, lk, Nat.blt, Nat.ble, List.map_append, dv_push]) (by simp [go_sem, gL, kL, renOf, V.obj, lk, Nat.blt, Nat.ble, List.map_append, dv_push]) (by first | exact pk0 | exact pk1 ⟨_, rfl⟩ | exact pk2 ⟨_, rfl⟩ ⟨_, rfl⟩ | exact pk3 ⟨_, rfl⟩ ⟨_, rfl⟩ ⟨_, rfl⟩ | exact pk4 ⟨_, rfl⟩ ⟨_, rfl⟩ ⟨_, rfl⟩ ⟨_, rfl⟩) (by simp [go_sem, gL, kL, lk, renOf, V.obj, Nat.blt, Nat.ble])) ?_; simp only [St.at_nil, St.at_cons, lk, Nat.reduceEqDiff, ↓reduceIte, Option.getD_some, Option.getD_none, List.cons_append, List.nil_append, List.append_nil]
    rintro ⟨m, os, a⟩ ⟨g1, g2, g3, g4⟩
    simp only at g1 g2 g3 g4 ⊢
    have hol : os.length = i := by rw [g2.length_eq]; simp
    by_cases hm : 2 ≤ m
    · obtain ⟨M, rfl⟩ : ∃ M, m = M + 1 := ⟨m - 1, by omega⟩
      have hm1 : ((M + 1 : Nat) : Int) - 1 = (M : Int) := by omega
      have hM : (0 : Int) < (M : Int) := by omega
      have hn2 := nextI l hl2 a ((M : Int) + 1) (by omega) (by omega) (by omega) (by omega)
      have hgk : ∀ k : Int, 0 ≤ k → k < (M : Int) + 1 → ∃ v : Nat, os[k.toNat]? = some v ∧ (NV os)[0 + k.toNat]? = some (.d (.int .i64 (v : Int))) := by
        intro k k0 k1
        obtain ⟨v, hv, -, -⟩ := get_some (l := os) (i := k.toNat) (by omega)
        exact ⟨v, hv, by simp only [NV, dv, Nat.zero_add, List.getElem?_map, hv, Option.map_some]⟩
      have hset : ∀ (o : List Nat) (j v : Nat), (NV o).set (0 + j) (.d (.int .i64 (v : Int))) = NV (o.set j v) := by
        intro o j v
        simp only [NV, dv, Nat.zero_add, List.map_set]
      obtain ⟨xm, hxm, hgm⟩ := hgk M (by omega) (by omega)
      rw [Int.toNat_natCast] at hgm hxm
      rw [hm1]
      repeat' (first | ((first | refine AW.sreg rfl fun K hK => ?_ | refine AW.regD hmix rfl ?_); simp only [go_sem, Nat.reduceAdd, Nat.reduceMul, Int.reduceToNat, Nat.reduceLT, Nat.reduceLeDiff, Nat.le_refl, Nat.reduceEqDiff, ↓reduceIte, beq_self_eq_true, bne_self_eq_false, Int.reduceBEq, Int.reduceBNe, or_self, true_or, or_true, Option.map_some, Option.map_none, hgm]) | (refine AW.seq_k fun K hK => ?_) | (refine AW.block ?_) | (refine AW.skip ?_; simp only [Then, InBlock]) | (refine AW.condT rfl (by first | rfl | (simp; omega) | (simp [*]; done) | fail) ?_) | (refine hK _ ?_; clear hK K) | (refine run_callI _ _ _ ((hn2).objs [0] ⟨rfl, trivial⟩ rfl (by decide) (by simp [go_sem, renOs]) (by simp [go_sem]) (by simp [go_sem]) (fun j hj => ⟨by simp, by simp, by simp [go_sem], by simp [go_sem]⟩)) rfl rfl (dstOk_of rfl) rfl rfl rfl ?_; rintro k hk; (try dsimp only at k); (try dsimp only at hk); simp only [go_sem, Nat.reduceAdd, Nat.reduceMul, Int.reduceToNat, Nat.reduceLT, Nat.reduceLeDiff, Nat.le_refl, Nat.reduceEqDiff, ↓reduceIte, beq_self_eq_true, bne_self_eq_false, Int.reduceBEq, Int.reduceBNe, or_self, true_or, or_true, Option.map_some, Option.map_none, hgm]) | (with_reducible refine And.intro ?_ ?_; first | omega | assumption | (focus (decide)) | (focus (simp; done)) | (focus (simp; omega)) | (focus (constructor <;> omega)) | fail))
      obtain ⟨xk, hxk, hgk2⟩ := hgk k hk.1 hk.2
      obtain ⟨v2, hv2, -, -⟩ := get_some (l := os.set M xk) (i := k.toNat) (by rw [List.length_set]; omega)
      have hg3 : (NV (os.set M xk))[0 + k.toNat]? = some (.d (.int .i64 (v2 : Int))) := by simp only [NV, dv, Nat.zero_add, List.getElem?_map, hv2, Option.map_some]
      simp only [go_sem, Nat.reduceAdd, Nat.reduceMul, Int.reduceToNat, Nat.reduceLT, Nat.reduceLeDiff, Nat.le_refl, Nat.reduceEqDiff, ↓reduceIte, beq_self_eq_true, bne_self_eq_false, Int.reduceBEq, Int.reduceBNe, or_self, true_or, or_true, Option.map_some, Option.map_none, hgm, hgk2, hset, hg3]
      repeat' (first | (refine AW.reg rfl ?_; simp only [go_sem, Nat.reduceAdd, Nat.reduceMul, Int.reduceToNat, Nat.reduceLT, Nat.reduceLeDiff, Nat.le_refl, Nat.reduceEqDiff, ↓reduceIte, beq_self_eq_true, bne_self_eq_false, Int.reduceBEq, Int.reduceBNe, or_self, true_or, or_true, Option.map_some, Option.map_none, hgm, hgk2, hset, hg3]) | (refine hK _ ?_; clear hK K) | (with_reducible refine And.intro (?_ : regOk _ _ = true) ?_; kernel_rfl) | (with_reducible refine And.intro ?_ ?_; first | omega | assumption | (focus (decide)) | (focus (simp; done)) | (focus (simp; omega)) | (focus (constructor <;> omega)) | fail))
      refine ⟨(M, (os.set M xk).set k.toNat xm, a + 1), ⟨by omega, (swap_perm hxm hxk).trans g2, by simp only; omega, by simp only; omega⟩, by simp only; omega, (Weak.auto hcx rfl rfl (Nat.le_of_ble_eq_true rfl) (by simp [go_sem, gL, kL, renOf, V.obj, lk, Nat.blt, Nat.ble, List.map_append, dv_push]) (by simp [go_sem, gL, kL, renOf, V.obj, lk, Nat.blt, Nat.ble, List.map_append, dv_push]) (by first | exact pk0 | exact pk1 ⟨_, rfl⟩ | exact pk2 ⟨_, rfl⟩ ⟨_, rfl⟩ | exact pk3 ⟨_, rfl⟩ ⟨_, rfl⟩ ⟨_, rfl⟩ | exact pk4 ⟨_, rfl⟩ ⟨_, rfl⟩ ⟨_, rfl⟩ ⟨_, rfl⟩) (by simp [go_sem, gL, kL, lk, renOf, V.obj, Nat.blt, Nat.ble]))⟩
    · repeat' (first | (refine AW.sreg rfl fun K hK => ?_; simp only [go_sem, Nat.reduceAdd, Nat.reduceMul, Int.reduceToNat, Nat.reduceLT, Nat.reduceLeDiff, Nat.le_refl, Nat.reduceEqDiff, ↓reduceIte, beq_self_eq_true, bne_self_eq_false, Int.reduceBEq, Int.reduceBNe, or_self, true_or, or_true, Option.map_some, Option.map_none]) | (refine AW.seq_k fun K hK => ?_) | (refine AW.exit ?_; simp only [go_sem, ↓reduceIte]) | (refine AW.condF rfl (by first | rfl | (simp; omega) | (simp [*]; done) | fail) ?_) | (refine hK _ ?_; clear hK K) | (clear hK K; refine hK _ ?_; clear hK K))
      all_goals first | (exfalso; omega) | exact AW.ret ⟨(os, a), ⟨g2, by simp only; omega, by simp only; omega⟩, Fin.one rfl ((frz_slr rfl rfl (by simp [hol])).trans (by simp [go_sem])) ⟨_, rfl, by simp [go_sem]⟩ rfl rfl rfl⟩ | trace_state
theorem paperOrderI (l : List Int) (hl : l.length ≤ 9223372036854775807) (at_ : Int) (ha : 0 ≤ at_) (hb : at_ ≤ 5000) (ms : List Mk) (hml : ms.length ≤ 1000) (hn6 : (pps ms).length ≤ 6) :
    DoesI Tryz.prog 25 [.ptr 0 0, .d (.sl (ms.map mkD))] [Stm l at_] (fun q : List Str × Int => q.1.length ≤ 10 ∧ at_ ≤ q.2 ∧ q.2 ≤ at_ + 200) (fun q => .d (.sl (q.1.map D.str))) (fun q => [Stm l q.2]) := by
  have h1 := markedPapersD_any ms hml
  have h2 := orderI l hl at_ ha (by omega) (pps ms).length (by omega)
  generalize pps ms = ps at *
  refine DoesI.of_AW (n := 46) Tryz.func25 rfl rfl rfl fun cx hcx => ?_
  repeat' (first | ((first | refine AW.sreg rfl fun K hK => ?_ | refine run_call _ _ _ ((h1).pure rfl rfl _ _) rfl rfl (dstOk_of rfl) rfl rfl rfl ?_); simp only [go_sem, Nat.reduceAdd, Nat.reduceMul, Int.reduceToNat, Nat.reduceLT, Nat.reduceLeDiff, Nat.le_refl, Nat.reduceEqDiff, ↓reduceIte, beq_self_eq_true, bne_self_eq_false, Int.reduceBEq, Int.reduceBNe, or_self, true_or, or_true, Option.map_some, Option.map_none, List.length_map]) | (refine AW.seq_k fun K hK => ?_) | (refine AW.block ?_) | (refine hK _ ?_; clear hK K) | (refine run_callI _ _ _ ((h2).objs [0] ⟨rfl, trivial⟩ rfl (by decide) (by simp [go_sem, renOs]) (by simp [go_sem]) (by simp [go_sem]) (fun j hj => ⟨by simp, by simp, by simp [go_sem], by simp [go_sem]⟩)) rfl rfl (dstOk_of rfl) rfl rfl rfl ?_; rintro ⟨o, a⟩ ⟨o1, o2, o3⟩; (try dsimp only at o); (try dsimp only at a); (try dsimp only at o1); (try dsimp only at o2); (try dsimp only at o3); simp only [go_sem, Nat.reduceAdd, Nat.reduceMul, Int.reduceToNat, Nat.reduceLT, Nat.reduceLeDiff, Nat.le_refl, Nat.reduceEqDiff, ↓reduceIte, beq_self_eq_true, bne_self_eq_false, Int.reduceBEq, Int.reduceBNe, or_self, true_or, or_true, Option.map_some, Option.map_none, List.length_map]))
  refine AW.weak (Weak.nil 6 9 1 rfl) ?_
  have hol : o.length = ps.length := by rw [o1.length_eq]; simp
  refine AW.loopF (ι := Nat × List Str) [0, 5, 14, 15] (fun p => [(6, .slr 768 0 p.1), (16, I p.1)]) (fun p => [(0, some (Stm l a)), (768, some (SWk p.2))]) 13 (fun p => p.1 ≤ o.length ∧ p.2.length = p.1) (fun p => o.length - p.1) (0, []) ⟨Nat.zero_le _, rfl⟩ (Weak.auto hcx rfl rfl (Nat.le_of_ble_eq_true rfl) (by simp [go_sem, gL, kL, renOf, V.obj, lk, Nat.blt, Nat.ble, List.map_append, dv_push]) (by simp [go_sem, gL, kL, renOf, V.obj, lk, Nat.blt, Nat.ble, List.map_append, dv_push]) (by first | exact pk0 | exact pk1 ⟨_, rfl⟩ | exact pk2 ⟨_, rfl⟩ ⟨_, rfl⟩ | exact pk3 ⟨_, rfl⟩ ⟨_, rfl⟩ ⟨_, rfl⟩ | exact pk4 ⟨_, rfl⟩ ⟨_, rfl⟩ ⟨_, rfl⟩ ⟨_, rfl⟩) (by simp [go_sem, gL, kL, lk, renOf, V.obj, Nat.blt, Nat.ble])) ?_; simp only [St.at_nil, St.at_cons, lk, Nat.reduceEqDiff, ↓reduceIte, Option.getD_some, Option.getD_none, List.cons_append, List.nil_append, List.append_nil]
  rintro ⟨i, out⟩ ⟨i1, i2⟩
  dsimp only at i1 i2 ⊢
  by_cases hi : i < o.length
  · obtain ⟨k, hk, hkm, -⟩ := get_some hi
    have hkl : k < ps.length := List.mem_range.1 (o1.mem_iff.1 hkm)
    have hget : (o.map fun k : Nat => D.int .i64 (k : Int))[i]? = some (.int .i64 (k : Int)) := by simp only [List.getElem?_map, hk, Option.map_some]
    have hg2 : (ps.map D.str)[k]? = some (.str (ps.getD k [])) := by rw [List.getElem?_map, getD_at hkl]; rfl
    have htl : List.take i (dv (out.map D.str)) = dv (out.map D.str) := List.take_of_length_le (by simp [dv, i2])
    repeat' (first | ((first | refine AW.sreg rfl fun K hK => ?_ | refine AW.reg rfl ?_); simp only [go_sem, Nat.reduceAdd, Nat.reduceMul, Int.reduceToNat, Nat.reduceLT, Nat.reduceLeDiff, Nat.le_refl, Nat.reduceEqDiff, ↓reduceIte, beq_self_eq_true, bne_self_eq_false, Int.reduceBEq, Int.reduceBNe, or_self, true_or, or_true, Option.map_some, Option.map_none, List.length_map, hget, hg2, htl, Int.toNat_natCast]) | (refine AW.seq_k fun K hK => ?_) | (refine AW.block ?_) | (refine AW.skip ?_; simp only [Then, InBlock]) | (refine AW.condT rfl (by first | rfl | (simp; omega) | (simp [*]; done) | fail) ?_) | (refine hK _ ?_; clear hK K) | (with_reducible refine And.intro ?_ ?_; first | omega | assumption | (focus (decide)) | (focus (simp; done)) | (focus (simp; omega)) | (focus (constructor <;> omega)) | fail))
    exact ⟨(i + 1, out ++ [ps.getD k []]), ⟨hi, by simp [i2]⟩, by simp only; omega, (Weak.auto hcx rfl rfl (Nat.le_of_ble_eq_true rfl) (by simp [go_sem, gL, kL, renOf, V.obj, lk, Nat.blt, Nat.ble, List.map_append, dv_push]) (by simp [go_sem, gL, kL, renOf, V.obj, lk, Nat.blt, Nat.ble, List.map_append, dv_push]) (by first | exact pk0 | exact pk1 ⟨_, rfl⟩ | exact pk2 ⟨_, rfl⟩ ⟨_, rfl⟩ | exact pk3 ⟨_, rfl⟩ ⟨_, rfl⟩ ⟨_, rfl⟩ | exact pk4 ⟨_, rfl⟩ ⟨_, rfl⟩ ⟨_, rfl⟩ ⟨_, rfl⟩) (by simp [go_sem, gL, kL, lk, renOf, V.obj, Nat.blt, Nat.ble]))⟩
  · obtain rfl : i = o.length := by omega
    repeat' (first | (refine AW.sreg rfl fun K hK => ?_; simp only [go_sem, Nat.reduceAdd, Nat.reduceMul, Int.reduceToNat, Nat.reduceLT, Nat.reduceLeDiff, Nat.le_refl, Nat.reduceEqDiff, ↓reduceIte, beq_self_eq_true, bne_self_eq_false, Int.reduceBEq, Int.reduceBNe, or_self, true_or, or_true, Option.map_some, Option.map_none, List.length_map]) | (refine AW.seq_k fun K hK => ?_) | (refine AW.exit ?_; simp only [go_sem, ↓reduceIte]) | (refine AW.condF rfl (by first | rfl | (simp; omega) | (simp [*]; done) | fail) ?_) | (refine hK _ ?_; clear hK K) | (clear hK K; refine hK _ ?_; clear hK K))
    first | (refine run_callI _ _ _ ((flipI l hl _ 6 (by omega) (by omega) (by omega) (by omega)).objs [0] ⟨rfl, trivial⟩ rfl (by decide) (by simp [go_sem, renOs]) (by simp [go_sem]) (by simp [go_sem]) (fun j hj => ⟨by simp, by simp, by simp [go_sem], by simp [go_sem]⟩)) rfl rfl (dstOk_of rfl) rfl rfl rfl ?_; rintro r hr; (try dsimp only at r); (try dsimp only at hr); simp only [go_sem, Nat.reduceAdd, Nat.reduceMul, Int.reduceToNat, Nat.reduceLT, Nat.reduceLeDiff, Nat.le_refl, Nat.reduceEqDiff, ↓reduceIte, beq_self_eq_true, bne_self_eq_false, Int.reduceBEq, Int.reduceBNe, or_self, true_or, or_true, Option.map_some, Option.map_none])
    refine hK _ ?_
    clear hK K
    refine AW.joinK (fun q : List Str × Int => q.1.length ≤ 7 ∧ a ≤ q.2 ∧ q.2 ≤ a + 2) (fun q => (⟨46, [(0, .ptr 0 0), (6, .slr 768 0 q.1.length)], [(0, some (Stm l q.2)), (768, some (SWk q.1))], 13⟩ : St)) ?_ ?_
    · have hon := h06_f l hl (a + 1) (by omega) (by omega) [[112, 97], [122, 122]] (by simp) (by simp)
      generalize og l (a + 1) [[112, 97], [122, 122]] = x at hon
      have htl : List.take o.length (dv (out.map D.str)) = dv (out.map D.str) := List.take_of_length_le (by simp [dv, i2])
      repeat' (first | ((first | refine AW.reg rfl ?_ | refine run_call _ _ _ ((hon).objs [0, _] ⟨rfl, rfl, trivial⟩ rfl (by decide) (by simp [go_sem, renOs]) (by simp) (by simp) (by simp [go_sem]) (by simp [go_sem]) (by simp [go_sem]) (by simp [go_sem])) rfl rfl (dstOk_of rfl) rfl rfl rfl ?_); simp only [go_sem, Nat.reduceAdd, Nat.reduceMul, Int.reduceToNat, Nat.reduceLT, Nat.reduceLeDiff, Nat.le_refl, Nat.reduceEqDiff, ↓reduceIte, beq_self_eq_true, bne_self_eq_false, Int.reduceBEq, Int.reduceBNe, or_self, true_or, or_true, Option.map_some, Option.map_none, List.length_map, htl]) | (refine AW.skip ?_; simp only [Then, InBlock]) | (refine AW.cond rfl (fun h => ?_) (fun h => ?_) <;> (try simp only [decide_eq_true_eq, decide_eq_false_iff_not, Bool.not_eq_true', Bool.not_eq_false', Bool.not_eq_eq_eq_not, Bool.not_true, Bool.not_false, beq_iff_eq, bne_iff_ne, beq_eq_false_iff_ne, ne_eq, Bool.and_eq_true, Bool.or_eq_true, Bool.or_eq_false_iff] at h)) | (with_reducible refine And.intro ?_ ?_; first | omega | assumption | (focus (decide)) | (focus (simp; done)) | (focus (simp; omega)) | (focus (constructor <;> omega)) | fail))
      · exact ⟨(out ++ [x], a + 1 + 1), ⟨by simp only [List.length_append, List.length_singleton]; omega, by simp only; omega, by simp only; omega⟩, (Weak.auto hcx rfl rfl (Nat.le_of_ble_eq_true rfl) (by simp [go_sem, gL, kL, renOf, V.obj, lk, Nat.blt, Nat.ble, List.map_append, dv_push, i2]) (by simp [go_sem, gL, kL, renOf, V.obj, lk, Nat.blt, Nat.ble, List.map_append, dv_push, i2]) (by first | exact pk0 | exact pk1 ⟨_, rfl⟩ | exact pk2 ⟨_, rfl⟩ ⟨_, rfl⟩ | exact pk3 ⟨_, rfl⟩ ⟨_, rfl⟩ ⟨_, rfl⟩ | exact pk4 ⟨_, rfl⟩ ⟨_, rfl⟩ ⟨_, rfl⟩ ⟨_, rfl⟩) (by simp [go_sem, gL, kL, lk, renOf, V.obj, Nat.blt, Nat.ble, i2]))⟩
      · exact ⟨(out, a + 1), ⟨by simp only; omega, by simp only; omega, by simp only; omega⟩, (Weak.auto hcx rfl rfl (Nat.le_of_ble_eq_true rfl) (by simp [go_sem, gL, kL, renOf, V.obj, lk, Nat.blt, Nat.ble, List.map_append, dv_push, i2]) (by simp [go_sem, gL, kL, renOf, V.obj, lk, Nat.blt, Nat.ble, List.map_append, dv_push, i2]) (by first | exact pk0 | exact pk1 ⟨_, rfl⟩ | exact pk2 ⟨_, rfl⟩ ⟨_, rfl⟩ | exact pk3 ⟨_, rfl⟩ ⟨_, rfl⟩ ⟨_, rfl⟩ | exact pk4 ⟨_, rfl⟩ ⟨_, rfl⟩ ⟨_, rfl⟩ ⟨_, rfl⟩) (by simp [go_sem, gL, kL, lk, renOf, V.obj, Nat.blt, Nat.ble, i2]))⟩
    · rintro s0 ⟨u, b⟩ ⟨hu, hb1, hb2⟩ hw0
      refine hK _ (AW.weak hw0 ?_)
      clear hw0 hK K
      dsimp only at hu hb1 hb2 ⊢
      repeat' (first | ((first | refine AW.sreg rfl fun K hK => ?_ | refine AW.reg rfl ?_); simp only [go_sem, Nat.reduceAdd, Nat.reduceMul, Int.reduceToNat, Nat.reduceLT, Nat.reduceLeDiff, Nat.le_refl, Nat.reduceEqDiff, ↓reduceIte, beq_self_eq_true, bne_self_eq_false, Int.reduceBEq, Int.reduceBNe, or_self, true_or, or_true, Option.map_some, Option.map_none, List.length_map]) | (refine AW.seq_k fun K hK => ?_) | (refine AW.skip ?_; simp only [Then, InBlock]) | (refine AW.condF rfl (by first | rfl | (simp; omega) | (simp [*]; done) | fail) ?_) | (refine AW.cond rfl (fun h => ?_) (fun h => ?_) <;> (try simp only [decide_eq_true_eq, decide_eq_false_iff_not, Bool.not_eq_true', Bool.not_eq_false', Bool.not_eq_eq_eq_not, Bool.not_true, Bool.not_false, beq_iff_eq, bne_iff_ne, beq_eq_false_iff_ne, ne_eq, Bool.and_eq_true, Bool.or_eq_true, Bool.or_eq_false_iff] at h)) | (refine hK _ ?_; clear hK K) | (refine stepB_split (fun h => ?_) (fun h => ?_) <;> (have hb0 := h) <;> (try simp only [Bool.not_eq_true', Bool.not_eq_false'] at hb0) <;> (try simp only [decide_eq_true_eq, decide_eq_false_iff_not, Bool.not_eq_true', Bool.not_eq_false', Bool.not_eq_eq_eq_not, Bool.not_true, Bool.not_false, beq_iff_eq, bne_iff_ne, beq_eq_false_iff_ne, ne_eq, Bool.and_eq_true, Bool.or_eq_true, Bool.or_eq_false_iff] at h) <;> simp only [go_sem, Nat.reduceAdd, Nat.reduceMul, Int.reduceToNat, Nat.reduceLT, Nat.reduceLeDiff, Nat.le_refl, Nat.reduceEqDiff, ↓reduceIte, beq_self_eq_true, bne_self_eq_false, Int.reduceBEq, Int.reduceBNe, or_self, true_or, or_true, Option.map_some, Option.map_none, hb0, h, decide_true, decide_false, List.length_map] <;> (try clear hb0)) | (refine run_callI _ _ _ ((flipI l hl _ 8 (by omega) (by omega) (by omega) (by omega)).objs [0] ⟨rfl, trivial⟩ rfl (by decide) (by simp [go_sem, renOs]) (by simp [go_sem]) (by simp [go_sem]) (fun j hj => ⟨by simp, by simp, by simp [go_sem], by simp [go_sem]⟩)) rfl rfl (dstOk_of rfl) rfl rfl rfl ?_; rintro r2 hr2; (try dsimp only at r2); (try dsimp only at hr2); simp only [go_sem, Nat.reduceAdd, Nat.reduceMul, Int.reduceToNat, Nat.reduceLT, Nat.reduceLeDiff, Nat.le_refl, Nat.reduceEqDiff, ↓reduceIte, beq_self_eq_true, bne_self_eq_false, Int.reduceBEq, Int.reduceBNe, or_self, true_or, or_true, Option.map_some, Option.map_none, List.length_map]) | (with_reducible refine And.intro ?_ ?_; first | omega | assumption | (focus (decide)) | (focus (simp; done)) | (focus (simp; omega)) | (focus (constructor <;> omega)) | fail))
      · exact AW.ret ⟨(u.drop 1, b + 1), ⟨by simp only [List.length_drop]; omega, by simp only; omega, by simp only; omega⟩, Fin.one rfl ((frz_slrT (ys := (u.drop 1).map D.str) rfl rfl (by simp only [List.length_map]; omega) (by rw [← List.map_drop]; exact List.take_of_length_le (by simp))).trans (by simp [go_sem])) ⟨_, rfl, by simp [go_sem]⟩ rfl rfl rfl⟩
      · exact AW.ret ⟨(u, b + 1), ⟨by simp only; omega, by simp only; omega, by simp only; omega⟩, Fin.one rfl ((frz_slr rfl rfl (by simp)).trans (by simp [go_sem])) ⟨_, rfl, by simp [go_sem]⟩ rfl rfl rfl⟩
      · exact AW.ret ⟨(u, b + 1), ⟨by simp only; omega, by simp only; omega, by simp only; omega⟩, Fin.one rfl ((frz_slr rfl rfl (by simp)).trans (by simp [go_sem])) ⟨_, rfl, by simp [go_sem]⟩ rfl rfl rfl⟩
end Go.AX

namespace Go.AX
open Go Go.Proofs Go.RowKit
/-- The check of a drawn region, the order ahead of the conflicts. -/
def regOk2 (ops : Array Oper) (tr : List Tr) : Bool :=
  let b := befOf ops.toList []
  (ops.toList.zipIdx.all fun (o, i) => o.after.toList.all fun e => !Region.binds .any e || decide (e.on < i)) &&
  (ops.toList.zip tr).zipIdx.all fun (oj, j) => ((ops.toList.zip tr).take j).zipIdx.all fun (oi, i) => (b.getD j 0).testBit i || !confl ops oi.1 oj.1 oi.2 oj.2
theorem regOk_swap {ops : Array Oper} {tr : List Tr} (h : regOk2 ops tr = true) : regOk ops tr = true := by
  unfold regOk2 at h
  unfold regOk
  simp only [Bool.or_comm] at h ⊢
  exact h
/-- A list of values by places. -/
def wv (n : Nat) (g : Nat → V) : List V := (List.range n).map g
theorem wv_len (n : Nat) (g : Nat → V) : (wv n g).length = n := by simp [wv]
theorem wv_get {n j : Nat} (g : Nat → V) (h : j < n) : (wv n g)[j]? = some (g j) := by
  unfold wv
  rw [List.getElem?_map, List.getElem?_range h]
  rfl
theorem wv_set {n j : Nat} (g : Nat → V) (v : V) (h : j < n) : (wv n g).set j v = wv n (upN g j v) := by
  apply List.ext_getElem?
  intro i
  rw [List.getElem?_set, wv_len]
  by_cases e : j = i
  · subst e
    rw [if_pos rfl, if_pos h, wv_get _ h, upN_same]
  · rw [if_neg e]
    by_cases hi : i < n
    · rw [wv_get _ hi, wv_get _ hi, upN_ne _ _ (Ne.symm e)]
    · rw [List.getElem?_eq_none (by rw [wv_len]; omega), List.getElem?_eq_none (by rw [wv_len]; omega)]
theorem frzL_map {hv : Nat → Option O} {keep : Nat → Bool} {g h : Nat → V} : ∀ l : List Nat, (∀ j ∈ l, frz hv keep (g j) = h j) → frzL hv keep (l.map g) = l.map h
  | [], _ => rfl
  | a :: l, e => by simp only [List.map_cons, frzL, e a (by simp), frzL_map l fun j hj => e j (List.mem_cons_of_mem _ hj)]
theorem renL_map {r : Nat → Nat} {g : Nat → V} : ∀ l : List Nat, renL r (l.map g) = l.map fun j => (g j).ren r
  | [] => rfl
  | a :: l => by simp only [List.map_cons, renL, renL_map l]
theorem belL_map {k : Nat} {g : Nat → V} : ∀ l : List Nat, (∀ j ∈ l, (g j).bel k = true) → belL k (l.map g) = true
  | [], _ => rfl
  | a :: l, e => by simp only [List.map_cons, belL, e a (by simp), belL_map l fun j hj => e j (List.mem_cons_of_mem _ hj), Bool.and_self]
section
variable {cx : Cx}
/-- Weakening to a state with a family of rows. -/
theorem Weak.rows (hcx : CxOk cx 0) {st st' : St} (g : Nat → Nat) (n B N : Nat) (W : Nat → Nat → Int) (base : List (Nat × Option O)) (hH : st'.H = base ++ Go.AX.fam (fun j => bvec n (W j)) B (List.range N)) (hn : st'.n = st.n)
    (he : ∀ p ∈ st'.env, ∃ v, lk st.env p.1 = some v ∧ frz st.hv (fun _ => true) v = p.2.ren g ∧ p.2.bel (64 * st'.c) = true)
    (hb : ∀ p ∈ base, ∃ o, p.2 = some o ∧ p.1 < 64 * st'.c ∧ o.bel (64 * st'.c) = true ∧ ∃ o', st.hv (g p.1) = some o' ∧ o'.frz st.hv (fun _ => true) = o.ren g)
    (hf : ∀ j, j < N → B + j < 64 * st'.c ∧ st.hv (g (B + j)) = some (bvec n (W j)))
    (hinj : ∀ p q, g p = g q → p = q) : Weak cx st st' := by
  refine Weak.go hcx g (fun _ => true) hn (by simp) (Nat.zero_le _) he ?_ (by simp) (fun p _ q _ h => hinj _ _ h)
  intro p hp
  rw [hH] at hp
  rcases List.mem_append.1 hp with hp | hp
  · obtain ⟨o, h1, h2, h3, o', h4, h5⟩ := hb p hp
    exact ⟨o, h1, h2, h3, rfl, o', h4, h5⟩
  · obtain ⟨j, x, h1, rfl⟩ := fam_mem hp
    have hj := get_lt h1
    rw [List.length_range] at hj
    rw [List.getElem?_range hj] at h1
    cases h1
    obtain ⟨h2, h3⟩ := hf j hj
    exact ⟨_, rfl, h2, by simp [go_sem], rfl, _, h3, by simp [go_sem]⟩
theorem lk_rows {n B N j : Nat} (W : Nat → Nat → Int) (h : j < N) : lk (fam (fun j => bvec n (W j)) B (List.range N)) (B + j) = some (some (bvec n (W j))) := lk_fam_in (by rw [List.getElem?_range h])
/-- Rows let go are data. -/
theorem frz_rows {hv : Nat → Option O} {keep : Nat → Bool} {V0 B e s n : Nat} {G : Nat → V} {W : Nat → Nat → Int} (hk : keep V0 = false) (h : hv V0 = some (.vec e s (wv n G))) (hG : ∀ j, j < n → G j = .slr (B + j) 0 n) (hf : ∀ j, j < n → keep (B + j) = false ∧ hv (B + j) = some (bvec n (W j))) : frz hv keep (.slr V0 0 n) = .d (.sl ((List.range n).map fun j => D.sl (tbl n (W j)))) := by
  have hl : ∀ l : List Nat, (∀ j ∈ l, j < n) → toDL (toD hv keep 7) (l.map G) = some (l.map fun j => D.sl (tbl n (W j))) := by
    intro l
    induction l with
    | nil => intro _; rfl
    | cons a l ih =>
      intro hl
      obtain ⟨h1, h2⟩ := hf a (hl a (by simp))
      have e1 : toD hv keep 7 (G a) = some (.sl (tbl n (W a))) := by
        rw [hG a (hl a (by simp)), toD]
        simp only [h1, Bool.false_eq_true, if_false, h2, dv_length, tbl_len, Nat.zero_add, Nat.le_refl, if_true, List.drop_zero]
        rw [show (dv (tbl n (W a))).take n = dv (tbl n (W a)) from List.take_of_length_le (by rw [dv_length, tbl_len]; exact Nat.le_refl _)]
        rw [show toDL (toD hv keep 6) (dv (tbl n (W a))) = some (tbl n (W a)) from toDL_dv hv keep 5 _]
      simp only [List.map_cons, toDL, e1, ih fun j hj => hl j (List.mem_cons_of_mem _ hj)]
  have h1 : toD hv keep 8 (.slr V0 0 n) = some (.sl ((List.range n).map fun j => D.sl (tbl n (W j)))) := by
    rw [toD]
    simp only [hk, Bool.false_eq_true, if_false, h, wv_len, Nat.zero_add, Nat.le_refl, if_true, List.drop_zero]
    rw [show (wv n G).take n = wv n G from List.take_of_length_le (by rw [wv_len]; exact Nat.le_refl _)]
    rw [show toDL (toD hv keep 7) (wv n G) = _ from hl (List.range n) fun j hj => List.mem_range.1 hj]
  simp only [frz, hk, Bool.false_eq_true, if_false, h1]
end
/-- The ways between papers, with what is kept through the rounds. -/
structure WyOk (w : Str → Str → Int) (ps : List Str) (W : Nat → Nat → Int) : Prop where
  nn : ∀ i, i < ps.length → ∀ k, k < ps.length → 0 ≤ W i k ∧ W i k ≤ 1764
  con : ∀ p, p < ps.length → (∀ q, q < ps.length → q ≠ p → w (ps.getD q []) (ps.getD p []) < w (ps.getD p []) (ps.getD q [])) → (∀ i, i < ps.length → W i p = 0) ∧ ∀ k, k < ps.length → k ≠ p → 0 < W p k
def w0 (w : Str → Str → Int) (ps : List Str) (i k : Nat) : Int := if w (ps.getD k []) (ps.getD i []) < w (ps.getD i []) (ps.getD k []) then w (ps.getD i []) (ps.getD k []) else 0
theorem w0_ok {w : Str → Str → Int} {ps : List Str} (hw : ∀ a b, 0 ≤ w a b ∧ w a b ≤ 1764) : WyOk w ps (w0 w ps) where
  nn := fun i hi k hk => by
    have := hw (ps.getD i []) (ps.getD k [])
    unfold w0
    split <;> omega
  con := fun p hp h => ⟨fun i hi => by
      unfold w0
      by_cases e : i = p
      · subst e; simp
      · have := h i hi e
        rw [if_neg (by omega)],
    fun k hk e => by
      have h1 := h k hk e
      have := hw (ps.getD k []) (ps.getD p [])
      unfold w0
      rw [if_pos h1]
      omega⟩
theorem w_step {w : Str → Str → Int} {ps : List Str} {W : Nat → Nat → Int} (h : WyOk w ps W) {i k m : Nat} (hi : i < ps.length) (hk : k < ps.length) (hm : m < ps.length) {v : Int} (hv : v = max (W i k) (min (W i m) (W m k))) : WyOk w ps (upN W i (upN (W i) k v)) := by
  have h1 := h.nn i hi k hk
  have h2 := h.nn i hi m hm
  have h3 := h.nn m hm k hk
  have hat : ∀ a b, upN W i (upN (W i) k v) a b = if a = i ∧ b = k then v else W a b := fun a b => by
    by_cases ea : a = i
    · subst ea
      rw [upN_same]
      by_cases eb : b = k
      · subst eb; rw [upN_same, if_pos ⟨rfl, rfl⟩]
      · rw [upN_ne _ _ eb, if_neg (fun h => eb h.2)]
    · rw [upN_ne _ _ ea, if_neg (fun h => ea h.1)]
  refine ⟨fun a ha b hb => ?_, fun p hp hc => ⟨fun a ha => ?_, fun b hb hne => ?_⟩⟩
  · rw [hat]
    have := h.nn a ha b hb
    split <;> omega
  · rw [hat]
    have hz := (h.con p hp hc).1
    split
    · rename_i e
      obtain ⟨rfl, rfl⟩ := e
      have z1 := hz a ha
      have z2 := hz m hm
      omega
    · exact hz a ha
  · rw [hat]
    have hz := (h.con p hp hc).2
    split
    · rename_i e
      obtain ⟨rfl, rfl⟩ := e
      have := hz b hb hne
      omega
    · exact hz b hb hne
/-- Against how many a paper has the stronger way. -/
def stF (n : Nat) (W : Nat → Nat → Int) (i k : Nat) : Nat := ((List.range k).filter fun k => decide (W k i < W i k)).length
theorem stF_succ (n : Nat) (W : Nat → Nat → Int) (i k : Nat) : stF n W i (k + 1) = stF n W i k + if W k i < W i k then 1 else 0 := by
  unfold stF
  rw [List.range_succ, List.filter_append, List.length_append]
  congr 1
  by_cases h : W k i < W i k <;> simp [h]
theorem stF_le (n : Nat) (W : Nat → Nat → Int) (i k : Nat) : stF n W i k ≤ k := by
  have := List.length_filter_le (fun k => decide (W k i < W i k)) (List.range k)
  rw [List.length_range] at this
  exact this
theorem st_first {w : Str → Str → Int} {ps : List Str} {W : Nat → Nat → Int} (h : WyOk w ps W) {p : Nat} (hp : p < ps.length) (hc : ∀ q, q < ps.length → q ≠ p → w (ps.getD q []) (ps.getD p []) < w (ps.getD p []) (ps.getD q [])) {q : Nat} (hq : q < ps.length) (hne : q ≠ p) : stF ps.length W q ps.length < stF ps.length W p ps.length := by
  obtain ⟨hz, hpos⟩ := h.con p hp hc
  unfold stF
  have hsub : ∀ k ∈ q :: (List.range ps.length).filter (fun k => decide (W k q < W q k)), k ∈ (List.range ps.length).filter fun k => decide (W k p < W p k) := by
    intro k hk
    rw [List.mem_filter, List.mem_range, decide_eq_true_eq]
    rcases List.mem_cons.1 hk with rfl | hk
    · have := hz k hq
      have := hpos k hq hne
      exact ⟨hq, by omega⟩
    · rw [List.mem_filter, List.mem_range, decide_eq_true_eq] at hk
      have h1 := hz k hk.1
      refine ⟨hk.1, ?_⟩
      by_cases e : k = p
      · subst e
        have := hz q hq
        have := hpos q hq hne
        omega
      · have := hpos k hk.1 e
        omega
  have hnd : (q :: (List.range ps.length).filter (fun k => decide (W k q < W q k))).Nodup := by
    rw [List.nodup_cons]
    refine ⟨fun hm => ?_, List.Nodup.sublist List.filter_sublist List.nodup_range⟩
    rw [List.mem_filter, decide_eq_true_eq] at hm
    omega
  have := hnd.length_le_of_subset hsub
  simp only [List.length_cons] at this
  omega
/-- What a map of numbers answers. -/
def lkI (KS : List Str) (VS : List Int) (x : Str) : Int := match KS.findIdx? fun y => x == y with
  | none => 0
  | some j => VS.getD j 0
theorem lkI_find {KS : List Str} {VS : List Int} (hl : VS.length = KS.length) (x : Str) : (fndK (.str x) (KS.map D.str) = some none ∧ lkI KS VS x = 0) ∨ ∃ j, fndK (.str x) (KS.map D.str) = some (some j) ∧ ((VS.map (D.int .i64)).map V.d)[j]? = some (.d (.int .i64 (lkI KS VS x))) := by
  rw [fndK_str]
  unfold lkI
  cases h : KS.findIdx? fun y => x == y with
  | none => exact .inl ⟨rfl, rfl⟩
  | some j =>
    have hj : j < VS.length := by
      rw [hl]
      have := List.findIdx?_eq_some_iff_getElem.1 h
      exact this.1
    refine .inr ⟨j, rfl, ?_⟩
    rw [List.getElem?_map, List.getElem?_map, List.getElem?_eq_getElem hj]
    simp [List.getD, List.getElem?_eq_getElem hj]
theorem lkI_at {KS : List Str} {VS : List Int} (nd : KS.Nodup) {a : Nat} {x : Str} {v : Int} (h1 : KS[a]? = some x) (h2 : VS[a]? = some v) : lkI KS VS x = v := by
  unfold lkI
  rw [findIdx_at nd h1]
  simp [List.getD, h2]
theorem lkI_no {KS : List Str} {VS : List Int} {x : Str} (h : x ∉ KS) : lkI KS VS x = 0 := by
  unfold lkI
  rw [findIdx_none h]
/-- The map of strengths, the first i papers done. -/
structure SM (ps : List Str) (W : Nat → Nat → Int) (i : Nat) (KS : List Str) (VS : List Int) : Prop where
  nd : KS.Nodup
  len : VS.length = KS.length
  inn : ∀ x ∈ KS, ∃ j, j < i ∧ x = ps.getD j []
  at_ : ∀ j, j < i → lkI KS VS (ps.getD j []) = stF ps.length W j ps.length
theorem SM.zero (ps : List Str) (W : Nat → Nat → Int) : SM ps W 0 [] [] := ⟨List.nodup_nil, rfl, by simp, by simp⟩
theorem getD_inj {ps : List Str} (hn : ps.Nodup) {i j : Nat} (hi : i < ps.length) (hj : j < ps.length) (h : ps.getD i [] = ps.getD j []) : i = j := by
  have h1 := getD_at hi
  have h2 := getD_at hj
  rw [h] at h1
  exact (List.getElem?_inj hi hn).1 (h1.trans h2.symm)
theorem SM.new {ps : List Str} {W : Nat → Nat → Int} {i : Nat} {KS : List Str} {VS : List Int} (h : SM ps W i KS VS) (hn : ps.Nodup) (hi : i < ps.length) : ps.getD i [] ∉ KS := fun hm => by
  obtain ⟨j, hj, e⟩ := h.inn _ hm
  have := getD_inj hn hi (by omega) e
  omega
theorem lkI_app {KS : List Str} {VS : List Int} (hl : VS.length = KS.length) {x y : Str} (v : Int) (hne : x ≠ y) : lkI (KS ++ [y]) (VS ++ [v]) x = lkI KS VS x := by
  unfold lkI
  rw [List.findIdx?_append]
  cases h : KS.findIdx? fun y => x == y with
  | none => simp [hne]
  | some j =>
    have hj : j < VS.length := by
      rw [hl]
      exact (List.findIdx?_eq_some_iff_getElem.1 h).1
    simp [List.getD, List.getElem?_append_left hj]
/-- While a paper is done: it is not there yet, or it is the last one. -/
def SMi (KS : List Str) (VS : List Int) (p : Str) (c : Nat) (KT : List Str) (VT : List Int) : Prop := (c = 0 ∧ KT = KS ∧ VT = VS) ∨ (0 < c ∧ KT = KS ++ [p] ∧ VT = VS ++ [(c : Int)])
theorem SM.next {ps : List Str} {W : Nat → Nat → Int} {i : Nat} {KS KT : List Str} {VS VT : List Int} (h : SM ps W i KS VS) (hn : ps.Nodup) (hi : i < ps.length) (ht : SMi KS VS (ps.getD i []) (stF ps.length W i ps.length) KT VT) : SM ps W (i + 1) KT VT := by
  have hne := h.new hn hi
  rcases ht with ⟨h0, rfl, rfl⟩ | ⟨h0, rfl, rfl⟩
  · refine ⟨h.nd, h.len, fun x hx => ?_, fun j hj => ?_⟩
    · obtain ⟨j, hj, e⟩ := h.inn x hx
      exact ⟨j, by omega, e⟩
    · by_cases e : j = i
      · subst e
        rw [lkI_no hne, h0]
        rfl
      · exact h.at_ j (by omega)
  · refine ⟨?_, by simp [h.len], fun x hx => ?_, fun j hj => ?_⟩
    · exact List.nodup_append.2 ⟨h.nd, by simp, fun a ha b hb => by
        obtain rfl := List.mem_singleton.1 hb
        rintro rfl
        exact hne ha⟩
    · rcases List.mem_append.1 hx with hx | hx
      · obtain ⟨j, hj, e⟩ := h.inn x hx
        exact ⟨j, by omega, e⟩
      · obtain rfl := List.mem_singleton.1 hx
        exact ⟨i, by omega, rfl⟩
    · by_cases e : j = i
      · subst e
        refine lkI_at (a := KS.length) ?_ (by simp) (by rw [← h.len]; simp)
        exact List.nodup_append.2 ⟨h.nd, by simp, fun a ha b hb => by
          obtain rfl := List.mem_singleton.1 hb
          rintro rfl
          exact hne ha⟩
      · rw [lkI_app h.len _ (fun hh => e (getD_inj hn (by omega) hi hh))]
        exact h.at_ j (by omega)
/-- The first paper of an order by strengths. -/
theorem strong_first {w : Str → Str → Int} {ps : List Str} {W : Nat → Nat → Int} {KS : List Str} {VS : List Int} (hW : WyOk w ps W) (hs : SM ps W ps.length KS VS) (p : Str) (hp : p ∈ ps) (hb : ∀ q ∈ ps, q ≠ p → w q p < w p q) (hn : ps.Nodup) : ∃ r, isort (fun x y => decide (cmpI (lkI KS VS y) (lkI KS VS x) < 0)) ps = p :: r := by
  have e : (fun x y => decide (cmpI (lkI KS VS y) (lkI KS VS x) < 0)) = fun x y : Str => decide (lkI KS VS y < lkI KS VS x) := by
    funext x y
    exact decide_eq_decide.2 (cmpI_neg _ _)
  rw [e]
  have hget : ∀ x ∈ ps, ∃ j, j < ps.length ∧ x = ps.getD j [] := fun x hx => by
    obtain ⟨j, hj⟩ := List.getElem?_of_mem hx
    have hl := get_lt hj
    exact ⟨j, hl, Option.some.inj (hj.symm.trans (getD_at hl))⟩
  obtain ⟨a, ha, rfl⟩ := hget p hp
  refine head_first _ ps _ hp fun q hq hne => ?_
  obtain ⟨j, hj, rfl⟩ := hget q hq
  have hja : j ≠ a := fun e => hne (by rw [e])
  rw [hs.at_ j hj, hs.at_ a ha]
  have hmem : ∀ k, k < ps.length → ps.getD k [] ∈ ps := fun k hk => List.mem_of_getElem? (getD_at hk)
  have := st_first hW ha (fun k hk hk2 => hb _ (hmem k hk) fun e => hk2 (getD_inj hn hk ha e)) hj hja
  omega
theorem strong1_any {KS : List Str} {VS : List Int} (hl : VS.length = KS.length) (hb : ∀ x, 0 ≤ lkI KS VS x ∧ lkI KS VS x ≤ 1000) (x y : Str) : Does Tryz.prog 68 [S x, S y, .d (.ptr [.map (KS.map D.str) (VS.map (D.int .i64))] 0)] [] (I (cmpI (lkI KS VS y) (lkI KS VS x))) [] := by
  have hx := lkI_find hl x
  have hy := lkI_find hl y
  have bx := hb x
  have by_ := hb y
  generalize lkI KS VS x = a at *
  generalize lkI KS VS y = b at *
  have h1 := compare_int b a
  refine Does.of_AW (n := 13) Tryz.func68 rfl rfl rfl fun cx hcx => ?_
  rcases hx with ⟨hx, rfl⟩ | ⟨j, hx, gx⟩
  · rcases hy with ⟨hy, rfl⟩ | ⟨k, hy, gy⟩
    · repeat' (first | ((first | refine AW.sreg rfl fun K hK => ?_ | refine run_call _ _ _ ((h1).pure rfl rfl _ _) rfl rfl (dstOk_of rfl) rfl rfl rfl ?_); simp only [go_sem, Nat.reduceAdd, Nat.reduceMul, Int.reduceToNat, Nat.reduceLT, Nat.reduceLeDiff, Nat.le_refl, Nat.reduceEqDiff, ↓reduceIte, beq_self_eq_true, bne_self_eq_false, Int.reduceBEq, Int.reduceBNe, or_self, true_or, or_true, Option.map_some, Option.map_none, hx, hy]) | (refine hK _ ?_; clear hK K) | (refine AW.ret (Fin.data rfl (by first | (simp only [go_sem]; done) | (simp [go_sem, *]; done) | (simp [go_sem]; omega) | rfl) rfl)))
    · repeat' (first | ((first | refine AW.sreg rfl fun K hK => ?_ | refine run_call _ _ _ ((h1).pure rfl rfl _ _) rfl rfl (dstOk_of rfl) rfl rfl rfl ?_); simp only [go_sem, Nat.reduceAdd, Nat.reduceMul, Int.reduceToNat, Nat.reduceLT, Nat.reduceLeDiff, Nat.le_refl, Nat.reduceEqDiff, ↓reduceIte, beq_self_eq_true, bne_self_eq_false, Int.reduceBEq, Int.reduceBNe, or_self, true_or, or_true, Option.map_some, Option.map_none, hx, hy, gy]) | (refine hK _ ?_; clear hK K) | (refine AW.ret (Fin.data rfl (by first | (simp only [go_sem]; done) | (simp [go_sem, *]; done) | (simp [go_sem]; omega) | rfl) rfl)))
  · rcases hy with ⟨hy, rfl⟩ | ⟨k, hy, gy⟩
    · repeat' (first | ((first | refine AW.sreg rfl fun K hK => ?_ | refine run_call _ _ _ ((h1).pure rfl rfl _ _) rfl rfl (dstOk_of rfl) rfl rfl rfl ?_); simp only [go_sem, Nat.reduceAdd, Nat.reduceMul, Int.reduceToNat, Nat.reduceLT, Nat.reduceLeDiff, Nat.le_refl, Nat.reduceEqDiff, ↓reduceIte, beq_self_eq_true, bne_self_eq_false, Int.reduceBEq, Int.reduceBNe, or_self, true_or, or_true, Option.map_some, Option.map_none, hx, hy, gx]) | (refine hK _ ?_; clear hK K) | (refine AW.ret (Fin.data rfl (by first | (simp only [go_sem]; done) | (simp [go_sem, *]; done) | (simp [go_sem]; omega) | rfl) rfl)))
    · repeat' (first | ((first | refine AW.sreg rfl fun K hK => ?_ | refine run_call _ _ _ ((h1).pure rfl rfl _ _) rfl rfl (dstOk_of rfl) rfl rfl rfl ?_); simp only [go_sem, Nat.reduceAdd, Nat.reduceMul, Int.reduceToNat, Nat.reduceLT, Nat.reduceLeDiff, Nat.le_refl, Nat.reduceEqDiff, ↓reduceIte, beq_self_eq_true, bne_self_eq_false, Int.reduceBEq, Int.reduceBNe, or_self, true_or, or_true, Option.map_some, Option.map_none, hx, hy, gx, gy]) | (refine hK _ ?_; clear hK K) | (refine AW.ret (Fin.data rfl (by first | (simp only [go_sem]; done) | (simp [go_sem, *]; done) | (simp [go_sem]; omega) | rfl) rfl)))
theorem all_okS (xs : List Str) : (dv (xs.map D.str)).all (elemOk 1) = true := by
  simp only [dv, List.map_map, List.all_eq_true, List.mem_map, Function.comp_apply, forall_exists_index, and_imp, forall_apply_eq_imp_iff₂]
  intro x _
  rfl
theorem clone_St (xs : List Str) (hl : xs.length ≤ 1000) : Does Tryz.prog 67 [.d (.sl (xs.map D.str))] [] (.slr 0 0 xs.length) [.vec 9 1 (dv (xs.map D.str))] := by
  refine Does.of_AW (n := 8) Tryz.func67 rfl rfl rfl fun cx hcx => ?_
  refine AW.sreg rfl fun K hK => ?_; simp only [go_sem, Nat.reduceAdd, Nat.reduceMul, Int.reduceToNat, Nat.reduceLT, Nat.reduceLeDiff, Nat.le_refl, Nat.reduceEqDiff, ↓reduceIte, beq_self_eq_true, bne_self_eq_false, Int.reduceBEq, Int.reduceBNe, or_self, true_or, or_true, Option.map_some, Option.map_none]
  refine hK _ ?_; (try clear hK K)
  refine AW.seq_k fun K1 hK1 => ?_
  refine AW.seq_k fun K2 hK2 => ?_
  refine AW.nilCmp rfl rfl rfl rfl rfl rfl (by simp only [go_sem]; rfl) (by simp) (by simp) rfl (fun b hb => ?_)
  refine hK2 _ ?_
  refine AW.cond rfl (fun h => ?_) (fun h => ?_)
  · have h0 : xs = [] := by simpa using hb h
    subst h0
    repeat' (first | (refine AW.sreg rfl fun K hK => ?_; simp only [go_sem, Nat.reduceAdd, Nat.reduceMul, Int.reduceToNat, Nat.reduceLT, Nat.reduceLeDiff, Nat.le_refl, Nat.reduceEqDiff, ↓reduceIte, beq_self_eq_true, bne_self_eq_false, Int.reduceBEq, Int.reduceBNe, or_self, true_or, or_true, Option.map_some, Option.map_none, List.length_map]) | (refine hK _ ?_; clear hK K))
    refine AW.weak (Weak.nil 2 9 1 rfl) ?_
    exact AW.ret (Fin.objs [256] rfl (by simp [go_sem, inI, gI]) ⟨⟨_, rfl, by simp [go_sem, inI, gI]⟩, trivial⟩ (by simp) rfl (by simp [go_sem]) (by simp [go_sem]) rfl)
  · refine AW.skip (hK1 _ ?_)
    repeat' (first | (refine AW.sreg rfl fun K hK => ?_; simp only [go_sem, Nat.reduceAdd, Nat.reduceMul, Int.reduceToNat, Nat.reduceLT, Nat.reduceLeDiff, Nat.le_refl, Nat.reduceEqDiff, ↓reduceIte, beq_self_eq_true, bne_self_eq_false, Int.reduceBEq, Int.reduceBNe, or_self, true_or, or_true, Option.map_some, Option.map_none, List.length_map, all_okS]) | (refine hK _ ?_; clear hK K) | (with_reducible refine And.intro ?_ ?_; first | omega | assumption | (focus (decide)) | (focus (simp; done)) | (focus (simp; omega)) | (focus (constructor <;> omega)) | fail))
    exact AW.ret (Fin.objs [320] rfl (by simp [go_sem, inI, gI]) ⟨⟨_, rfl, by simp [go_sem, inI, gI]⟩, trivial⟩ (by simp) rfl (by simp [go_sem]) (by simp [go_sem]) rfl)

end Go.AX

namespace Go.AX
open Go Go.Proofs Go.RowKit
def gW (n i : Nat) (j : Nat) : V := if j < i then .slr (6400 + j) 0 n else .nils
theorem wv_nils (n : Nat) : List.replicate n V.nils = wv n (gW n 0) := by
  apply List.ext_getElem?
  intro i
  rw [List.getElem?_replicate]
  by_cases hi : i < n
  · rw [wv_get _ hi, if_pos hi]; rfl
  · rw [List.getElem?_eq_none (by rw [wv_len]; omega), if_neg hi]
abbrev wvO (n : Nat) (g : Nat → V) : O := .vec 22 1 (wv n g)
abbrev fmW (n N : Nat) (W : Nat → Nat → Int) : List (Nat × Option O) := fam (fun j => bvec n (W j)) 6400 (List.range N)
/-- The new row's number in the place of its last one. -/
def swp (a b x : Nat) : Nat := if x = a then b else if x = b then a else x
theorem swp_inj (a b : Nat) (p q : Nat) (h : swp a b p = swp a b q) : p = q := by
  unfold swp at h
  split at h <;> split at h <;> (try split at h) <;> (try split at h) <;> omega
theorem frzT_slr {hv : Nat → Option O} (i lo n : Nat) : frz hv (fun _ => true) (.slr i lo n) = .slr i lo n := by simp [frz]
theorem gW_bel {n i c : Nat} (h : 6400 + i ≤ c) (j : Nat) : (gW n i j).bel c = true := by
  unfold gW
  split
  · simp [V.bel]; omega
  · rfl
theorem tbl_ext {n : Nat} {f g : Nat → Int} (h : ∀ x, x < n → f x = g x) : tbl n f = tbl n g := List.map_congr_left fun x hx => by rw [h x (List.mem_range.1 hx)]
/-- A row of which k places are written. -/
def w0K (w : Str → Str → Int) (ps : List Str) (i k x : Nat) : Int := if x < k then w0 w ps i x else 0
theorem w0K_zero (w : Str → Str → Int) (ps : List Str) (n i : Nat) : tbl n (w0K w ps i 0) = tbl n fun _ => 0 := tbl_ext fun x _ => by simp [w0K]
theorem w0K_all (w : Str → Str → Int) (ps : List Str) (n i : Nat) : tbl n (w0K w ps i n) = tbl n (w0 w ps i) := tbl_ext fun x h => by simp [w0K, h]
theorem w0K_set (w : Str → Str → Int) (ps : List Str) (n i k : Nat) : tbl n (upN (w0K w ps i k) k (w0 w ps i k)) = tbl n (w0K w ps i (k + 1)) := tbl_ext fun x h => by
  unfold upN w0K
  by_cases e : x = k
  · subst e; simp
  · by_cases hx : x < k
    · rw [if_neg e, if_pos hx, if_pos (by omega)]
    · rw [if_neg e, if_neg hx, if_neg (by omega)]
theorem w0K_skip (w : Str → Str → Int) (ps : List Str) (n i k : Nat) (h0 : w0 w ps i k = 0) : tbl n (w0K w ps i k) = tbl n (w0K w ps i (k + 1)) := tbl_ext fun x h => by
  unfold w0K
  by_cases e : x = k
  · subst e; simp [h0]
  · by_cases hx : x < k
    · rw [if_pos hx, if_pos (by omega)]
    · rw [if_neg hx, if_neg (by omega)]
theorem hv_rows {n N j c k : Nat} {env : List (Nat × V)} {W : Nat → Nat → Int} {a : List (Nat × Option O)} (h : j < N) (ha : ∀ p ∈ a, p.1 ≠ 6400 + j) : St.hv ⟨k, env, a ++ fmW n N W, c⟩ (6400 + j) = some (bvec n (W j)) := by
  have : lk a (6400 + j) = none := by
    induction a with
    | nil => rfl
    | cons p a ih =>
      obtain ⟨x, y⟩ := p
      have h1 := ha (x, y) (by simp)
      simp only [lk]
      rw [if_neg h1]
      exact ih fun q hq => ha q (List.mem_cons_of_mem _ hq)
  unfold St.hv
  simp only [lk_app, this, lk_rows W h]
  rfl
/-- A reference of a row, or none. -/
def Rf (v : V) : Prop := v = .nils ∨ ∃ id lo n, v = .slr id lo n
theorem gW_rf (n i j : Nat) : Rf (gW n i j) := by
  unfold gW
  split
  · exact .inr ⟨_, _, _, rfl⟩
  · exact .inl rfl
theorem frzL_rf {hv : Nat → Option O} {n : Nat} {G : Nat → V} (h : ∀ j, Rf (G j)) : frzL hv (fun _ => true) (wv n G) = wv n G := frzL_map _ fun j _ => by
  rcases h j with e | ⟨a, b, c, e⟩
  · rw [e]; rfl
  · rw [e]; exact frzT_slr _ _ _
theorem upN_rf {G : Nat → V} (h : ∀ j, Rf (G j)) (i a b c : Nat) : ∀ j, Rf (upN G i (.slr a b c) j) := fun j => by
  unfold upN
  split
  · exact .inr ⟨_, _, _, rfl⟩
  · exact h j
theorem renL_rf {n : Nat} {G : Nat → V} (h : ∀ j, Rf (G j)) : renL id (wv n G) = wv n G := by
  unfold wv
  rw [renL_map]
  refine List.map_congr_left fun j _ => ?_
  rcases h j with e | ⟨a, b, c, e⟩ <;> rw [e] <;> rfl
theorem belL_gW {n i c : Nat} (h : 6400 + i ≤ c) : belL c (wv n (gW n i)) = true := belL_map _ fun j _ => gW_bel h j
theorem belL_up {n i c a lo m : Nat} (h : 6400 + i ≤ c) (ha : a < c) (k : Nat) : belL c (wv n (upN (gW n i) k (.slr a lo m))) = true := belL_map _ fun j _ => by
  unfold upN
  split
  · simpa [V.bel] using ha
  · exact gW_bel h j
theorem swp_o {a b x : Nat} (h1 : x ≠ a) (h2 : x ≠ b) : swp a b x = x := by
  unfold swp
  rw [if_neg h1, if_neg h2]
theorem swp_a (a b : Nat) : swp a b a = b := by simp [swp]
theorem renL_swp {n i : Nat} (hi : i < 100) : renL (swp (6400 + i) 13184) (wv n (gW n (i + 1))) = wv n (upN (gW n i) i (.slr 13184 0 n)) := by
  unfold wv
  rw [renL_map]
  refine List.map_congr_left fun j _ => ?_
  unfold upN gW
  by_cases e : j = i
  · subst e
    rw [if_pos (by omega), if_pos rfl]
    simp only [V.ren, swp_a]
  · by_cases hj : j < i
    · rw [if_pos (by omega), if_neg e, if_pos hj]
      simp only [V.ren]
      rw [swp_o (by omega) (by omega)]
    · rw [if_neg (by omega), if_neg e, if_neg hj]
      rfl
theorem hmx (a b c : Int) : (if (if b < a then b else a) > c then (if b < a then b else a) else c) = max c (min a b) := by
  split <;> split <;> omega
theorem strongest_any (ms : List Mk) (H L : List Str) (hmk : MkO ms H L) (hn6 : (pps ms).length ≤ 6) : DoesI Tryz.prog 23 [.d (.sl (ms.map mkD))] [] (fun o : List Str => ∀ p ∈ pps ms, (∀ q ∈ pps ms, q ≠ p → wnF ms q p < wnF ms p q) → ∃ r, o = p :: r) (fun o => .tup [.d (.sl (o.map D.str)), I 0]) (fun q => []) := by
  have h1 := checkedO ms H L hmk
  have hw := wnF_bd hmk.len
  refine DoesI.of_AW (n := 188) Tryz.func23 rfl rfl rfl fun cx hcx => ?_
  refine AW.sreg rfl fun K hK => ?_; simp only [go_sem, Nat.reduceAdd, Nat.reduceMul, Int.reduceToNat, Nat.reduceLT, Nat.reduceLeDiff, Nat.le_refl, Nat.reduceEqDiff, ↓reduceIte, beq_self_eq_true, bne_self_eq_false, Int.reduceBEq, Int.reduceBNe, or_self, true_or, or_true, Option.map_some, Option.map_none]
  refine hK _ ?_; (try clear hK K)
  refine AW.sreg rfl fun K hK => ?_; simp only [go_sem, Nat.reduceAdd, Nat.reduceMul, Int.reduceToNat, Nat.reduceLT, Nat.reduceLeDiff, Nat.le_refl, Nat.reduceEqDiff, ↓reduceIte, beq_self_eq_true, bne_self_eq_false, Int.reduceBEq, Int.reduceBNe, or_self, true_or, or_true, Option.map_some, Option.map_none]
  first | (refine run_callI _ _ _ ((h1).pure rfl (fun _ => rfl) _ _) rfl rfl (dstOk_of rfl) rfl rfl rfl ?_; rintro q hq; (try dsimp only at q); (try dsimp only at hq); simp only [go_sem, Nat.reduceAdd, Nat.reduceMul, Int.reduceToNat, Nat.reduceLT, Nat.reduceLeDiff, Nat.le_refl, Nat.reduceEqDiff, ↓reduceIte, beq_self_eq_true, bne_self_eq_false, Int.reduceBEq, Int.reduceBNe, or_self, true_or, or_true, Option.map_some, Option.map_none])
  refine hK _ ?_; (try clear hK K)
  have ha : Does Tryz.prog 66 [shV ms q] [] (tbV ms (pps ms)) [] := by rw [← hq.eqP]; exact table_any ms hmk.len (fun m hm => (hmk.sh m hm).1) q hq
  have hll : q.1.1.length ≤ 6 := by rw [hq.eqP]; exact hn6
  have hnp : (pps ms).Nodup := rise_nodupS (onc_rise _)
  generalize hps : pps ms = ps at *
  repeat' (first | ((first | refine AW.sreg rfl fun K hK => ?_ | refine run_call _ _ _ ((ha).pure rfl rfl _ _) rfl rfl (dstOk_of rfl) rfl rfl rfl ?_); simp only [go_sem, Nat.reduceAdd, Nat.reduceMul, Int.reduceToNat, Nat.reduceLT, Nat.reduceLeDiff, Nat.le_refl, Nat.reduceEqDiff, ↓reduceIte, beq_self_eq_true, bne_self_eq_false, Int.reduceBEq, Int.reduceBNe, or_self, true_or, or_true, Option.map_some, Option.map_none, List.length_map, Int.toNat_natCast]) | (refine AW.seq_k fun K hK => ?_) | (refine AW.block ?_) | (refine AW.skip ?_; simp only [Then, InBlock]) | (refine AW.condF rfl (by first | rfl | (simp; omega) | (simp [*]; done) | fail) ?_) | (refine hK _ ?_; clear hK K) | (with_reducible refine And.intro ?_ ?_; first | omega | assumption | (focus (decide)) | (focus (simp; done)) | (focus (simp; omega)) | (focus (constructor <;> omega)) | fail))
  rw [wv_nils]
  refine AW.loopF (ι := Nat) [6, 7, 8, 43] (fun p => [(44, I p)]) (fun p => (1728, some (wvO ps.length (gW ps.length p))) :: fmW ps.length p (w0 (wnF ms) ps)) 200 (fun p => p ≤ ps.length) (fun p => ps.length - p) 0 (Nat.zero_le _) (Weak.rows hcx id ps.length 6400 0 (w0 (wnF ms) ps) [(1728, some (wvO ps.length (gW ps.length 0)))] rfl rfl (by simp [go_sem, frzT_slr]) (by simp [go_sem, belL_gW, frzL_rf (gW_rf _ _), renL_rf (gW_rf _ _)]) (fun j hj => absurd hj (Nat.not_lt_zero _)) (fun _ _ h => h)) ?_
  simp only [St.at_nil, St.at_cons, lk, Nat.reduceEqDiff, ↓reduceIte, Option.getD_some, Option.getD_none, List.cons_append, List.nil_append, List.append_nil]
  intro i i1
  by_cases hi : i < ps.length
  · have g1 := wv_get (gW ps.length i) hi
    have e1 : gW ps.length i i = .nils := by simp [gW]
    rw [e1] at g1
    have s1 := fun v => wv_set (gW ps.length i) v hi
    have g2 := fun a => wv_get (upN (gW ps.length i) i a) hi
    simp only [upN_same] at g2
    repeat' (first | (refine AW.sreg rfl fun K hK => ?_; simp only [go_sem, Nat.reduceAdd, Nat.reduceMul, Int.reduceToNat, Nat.reduceLT, Nat.reduceLeDiff, Nat.le_refl, Nat.reduceEqDiff, ↓reduceIte, beq_self_eq_true, bne_self_eq_false, Int.reduceBEq, Int.reduceBNe, or_self, true_or, or_true, Option.map_some, Option.map_none, List.length_map, Int.toNat_natCast, Nat.zero_add, g1, s1, g2]) | (refine AW.seq_k fun K hK => ?_) | (refine AW.block ?_) | (refine AW.skip ?_; simp only [Then, InBlock]) | (refine AW.condT rfl (by first | rfl | (simp; omega) | (simp [*]; done) | fail) ?_) | (refine hK _ ?_; clear hK K) | (with_reducible refine And.intro ?_ ?_; first | omega | assumption | (focus (decide)) | (focus (simp; done)) | (focus (simp; omega)) | (focus (constructor <;> omega)) | fail))
    rw [← tbl_zero ps.length]
    refine AW.loopF (ι := Nat) [6, 7, 8, 9, 43, 44, 56] (fun p => [(57, I p)]) (fun p => (1728, some (wvO ps.length (upN (gW ps.length i) i (.slr 13184 0 ps.length)))) :: (13184, some (bvec ps.length (w0K (wnF ms) ps i p))) :: fmW ps.length i (w0 (wnF ms) ps)) 220 (fun p => p ≤ ps.length) (fun p => ps.length - p) 0 (Nat.zero_le _) (Weak.rows hcx id ps.length 6400 i (w0 (wnF ms) ps) [(1728, some (wvO ps.length (upN (gW ps.length i) i (.slr 13184 0 ps.length)))), (13184, some (bvec ps.length (w0K (wnF ms) ps i 0)))] rfl rfl (by simp [go_sem, frzT_slr]) (by simp [go_sem, belL_up (show 6400 + i ≤ 14080 by omega) (show 13184 < 14080 by omega), frzL_rf (upN_rf (gW_rf _ _) _ _ _ _), renL_rf (upN_rf (gW_rf _ _) _ _ _ _), w0K_zero]) (fun j hj => ⟨by simp only; omega, hv_rows (a := [_, _, _]) hj (by simp; omega)⟩) (fun _ _ h => h)) ?_
    simp only [St.at_nil, St.at_cons, lk, Nat.reduceEqDiff, ↓reduceIte, Option.getD_some, Option.getD_none, List.cons_append, List.nil_append, List.append_nil]
    intro k k1
    by_cases hk : k < ps.length
    · have r1 := tbR_at (ms := ms) hk
      have r2 := tbRR_at (ms := ms) (ps.getD k []) hi
      have r3 := tbR_at (ms := ms) hi
      have r4 := tbRR_at (ms := ms) (ps.getD i []) hk
      have g3 := tbl_dv (w0K (wnF ms) ps i k) hk
      have s3 := fun v => tbl_set (w0K (wnF ms) ps i k) v hk
      have hse := w0K_set (wnF ms) ps ps.length i k
      have hsk := w0K_skip (wnF ms) ps ps.length i k
      have hw0 : w0 (wnF ms) ps i k = if wnF ms (ps.getD k []) (ps.getD i []) < wnF ms (ps.getD i []) (ps.getD k []) then wnF ms (ps.getD i []) (ps.getD k []) else 0 := rfl
      by_cases hlt : wnF ms (ps.getD k []) (ps.getD i []) < wnF ms (ps.getD i []) (ps.getD k [])
      · rw [if_pos hlt] at hw0
        rw [hw0] at hse
        repeat' (first | ((first | refine AW.sreg rfl fun K hK => ?_ | refine AW.sregD hmix rfl fun K hK => ?_ | refine AW.reg rfl ?_ | refine AW.regD hmix rfl ?_); simp only [go_sem, Nat.reduceAdd, Nat.reduceMul, Int.reduceToNat, Nat.reduceLT, Nat.reduceLeDiff, Nat.le_refl, Nat.reduceEqDiff, ↓reduceIte, beq_self_eq_true, bne_self_eq_false, Int.reduceBEq, Int.reduceBNe, or_self, true_or, or_true, Option.map_some, Option.map_none, List.length_map, Int.toNat_natCast, Nat.zero_add, g2, g3, s3, r1, r2, r3, r4, hlt, hse]) | (refine AW.seq_k fun K hK => ?_) | (refine AW.block ?_) | (refine AW.skip ?_; simp only [Then, InBlock]) | (refine AW.condT rfl (by first | rfl | (simp; omega) | (simp [*]; done) | fail) ?_) | (refine hK _ ?_; clear hK K) | (with_reducible refine And.intro (?_ : regOk _ _ = true) ?_; kernel_rfl) | (with_reducible refine And.intro ?_ ?_; first | omega | assumption | (focus (decide)) | (focus (simp; done)) | (focus (simp; omega)) | (focus (constructor <;> omega)) | fail))
        exact ⟨k + 1, hk, by omega, Weak.rows hcx id ps.length 6400 i (w0 (wnF ms) ps) [(1728, some (wvO ps.length (upN (gW ps.length i) i (.slr 13184 0 ps.length)))), (13184, some (bvec ps.length (w0K (wnF ms) ps i (k + 1))))] rfl rfl (by simp [go_sem, frzT_slr]) (by simp [go_sem, belL_up (show 6400 + i ≤ 14080 by omega) (show 13184 < 14080 by omega), frzL_rf (upN_rf (gW_rf _ _) _ _ _ _), renL_rf (upN_rf (gW_rf _ _) _ _ _ _)]) (fun j hj => ⟨by simp only; omega, hv_rows (a := [_, _, _]) hj (by simp; omega)⟩) (fun _ _ h => h)⟩
      · rw [if_neg hlt] at hw0
        have hsk := hsk hw0
        repeat' (first | ((first | refine AW.sreg rfl fun K hK => ?_ | refine AW.sregD hmix rfl fun K hK => ?_ | refine AW.reg rfl ?_); simp only [go_sem, Nat.reduceAdd, Nat.reduceMul, Int.reduceToNat, Nat.reduceLT, Nat.reduceLeDiff, Nat.le_refl, Nat.reduceEqDiff, ↓reduceIte, beq_self_eq_true, bne_self_eq_false, Int.reduceBEq, Int.reduceBNe, or_self, true_or, or_true, Option.map_some, Option.map_none, List.length_map, Int.toNat_natCast, Nat.zero_add, g2, r1, r2, r3, r4, hlt]) | (refine AW.seq_k fun K hK => ?_) | (refine AW.block ?_) | (refine AW.skip ?_; simp only [Then, InBlock]) | (refine AW.condT rfl (by first | rfl | (simp; omega) | (simp [*]; done) | fail) ?_) | (refine AW.condF rfl (by first | rfl | (simp; omega) | (simp [*]; done) | fail) ?_) | (refine hK _ ?_; clear hK K) | (with_reducible refine And.intro (?_ : regOk _ _ = true) ?_; kernel_rfl) | (with_reducible refine And.intro ?_ ?_; first | omega | assumption | (focus (decide)) | (focus (simp; done)) | (focus (simp; omega)) | (focus (constructor <;> omega)) | fail))
        exact ⟨k + 1, hk, by omega, Weak.rows hcx id ps.length 6400 i (w0 (wnF ms) ps) [(1728, some (wvO ps.length (upN (gW ps.length i) i (.slr 13184 0 ps.length)))), (13184, some (bvec ps.length (w0K (wnF ms) ps i (k + 1))))] rfl rfl (by simp [go_sem, frzT_slr]) (by simp [go_sem, belL_up (show 6400 + i ≤ 14080 by omega) (show 13184 < 14080 by omega), frzL_rf (upN_rf (gW_rf _ _) _ _ _ _), renL_rf (upN_rf (gW_rf _ _) _ _ _ _), hsk]) (fun j hj => ⟨by simp only; omega, hv_rows (a := [_, _]) hj (by simp; omega)⟩) (fun _ _ h => h)⟩
    · obtain rfl : k = ps.length := by omega
      repeat' (first | ((first | refine AW.sreg rfl fun K hK => ?_ | refine AW.reg rfl ?_); simp only [go_sem, Nat.reduceAdd, Nat.reduceMul, Int.reduceToNat, Nat.reduceLT, Nat.reduceLeDiff, Nat.le_refl, Nat.reduceEqDiff, ↓reduceIte, beq_self_eq_true, bne_self_eq_false, Int.reduceBEq, Int.reduceBNe, or_self, true_or, or_true, Option.map_some, Option.map_none, List.length_map, Int.toNat_natCast, Nat.zero_add]) | (refine AW.seq_k fun K hK => ?_) | (refine AW.exit ?_; simp only [go_sem, ↓reduceIte]) | (refine AW.condF rfl (by first | rfl | (simp; omega) | (simp [*]; done) | fail) ?_) | (refine hK _ ?_; clear hK K) | (clear hK K; refine hK _ ?_; clear hK K) | (with_reducible refine And.intro ?_ ?_; first | omega | assumption | (focus (decide)) | (focus (simp; done)) | (focus (simp; omega)) | (focus (constructor <;> omega)) | fail))
      have hs : swp (6400 + i) 13184 1728 = 1728 := swp_o (by omega) (by omega)
      refine ⟨i + 1, hi, by omega, Weak.rows hcx (swp (6400 + i) 13184) ps.length 6400 (i + 1) (w0 (wnF ms) ps) [(1728, some (wvO ps.length (gW ps.length (i + 1))))] rfl rfl (by simp [go_sem, frzT_slr, hs]) (by simp [go_sem, belL_gW (show 6400 + (i + 1) ≤ 12800 by omega), frzL_rf (upN_rf (gW_rf _ _) _ _ _ _), renL_swp (show i < 100 by omega), hs]) (fun j hj => ⟨by simp only; omega, ?_⟩) (swp_inj _ _)⟩
      by_cases e : j = i
      · subst e
        rw [swp_a]
        simp [go_sem, w0K_all]
      · rw [swp_o (by omega) (by omega)]
        exact hv_rows (a := [_, _]) (by omega) (by simp; omega)
  obtain rfl : i = ps.length := by omega
  repeat' (first | (refine AW.sreg rfl fun K hK => ?_; simp only [go_sem, Nat.reduceAdd, Nat.reduceMul, Int.reduceToNat, Nat.reduceLT, Nat.reduceLeDiff, Nat.le_refl, Nat.reduceEqDiff, ↓reduceIte, beq_self_eq_true, bne_self_eq_false, Int.reduceBEq, Int.reduceBNe, or_self, true_or, or_true, Option.map_some, Option.map_none, List.length_map, Int.toNat_natCast, Nat.zero_add]) | (refine AW.seq_k fun K hK => ?_) | (refine AW.block ?_) | (refine AW.exit ?_; simp only [go_sem, ↓reduceIte]) | (refine AW.condF rfl (by first | rfl | (simp; omega) | (simp [*]; done) | fail) ?_) | (refine hK _ ?_; clear hK K) | (clear hK K; refine hK _ ?_; clear hK K))
  refine AW.loopF (ι := Nat × (Nat → Nat → Int)) [6, 7, 8, 99] (fun p => [(100, I p.1)]) (fun p => (1728, some (wvO ps.length (gW ps.length ps.length))) :: fmW ps.length ps.length p.2) 200 (fun p => p.1 ≤ ps.length ∧ WyOk (wnF ms) ps p.2) (fun p => ps.length - p.1) (0, w0 (wnF ms) ps) ⟨Nat.zero_le _, w0_ok hw⟩ (Weak.rows hcx id ps.length 6400 ps.length (w0 (wnF ms) ps) [(1728, some (wvO ps.length (gW ps.length ps.length)))] rfl rfl (by simp [go_sem, frzT_slr]) (by simp [go_sem, belL_gW (show 6400 + ps.length ≤ 12800 by omega), frzL_rf (gW_rf _ _), renL_rf (gW_rf _ _)]) (fun j hj => ⟨by simp only; omega, hv_rows (a := [_]) hj (by simp; omega)⟩) (fun _ _ h => h)) ?_
  simp only [St.at_nil, St.at_cons, lk, Nat.reduceEqDiff, ↓reduceIte, Option.getD_some, Option.getD_none, List.cons_append, List.nil_append, List.append_nil]
  rintro ⟨m, W⟩ ⟨m1, hW⟩
  dsimp only at m1 hW ⊢
  by_cases hm : m < ps.length
  · repeat' (first | (refine AW.sreg rfl fun K hK => ?_; simp only [go_sem, Nat.reduceAdd, Nat.reduceMul, Int.reduceToNat, Nat.reduceLT, Nat.reduceLeDiff, Nat.le_refl, Nat.reduceEqDiff, ↓reduceIte, beq_self_eq_true, bne_self_eq_false, Int.reduceBEq, Int.reduceBNe, or_self, true_or, or_true, Option.map_some, Option.map_none, List.length_map]) | (refine AW.seq_k fun K hK => ?_) | (refine AW.block ?_) | (refine AW.skip ?_; simp only [Then, InBlock]) | (refine AW.condT rfl (by first | rfl | (simp; omega) | (simp [*]; done) | fail) ?_) | (refine hK _ ?_; clear hK K))
    refine AW.loopF (ι := Nat × (Nat → Nat → Int)) [6, 7, 8, 11, 99, 100, 103] (fun p => [(104, I p.1)]) (fun p => (1728, some (wvO ps.length (gW ps.length ps.length))) :: fmW ps.length ps.length p.2) 200 (fun p => p.1 ≤ ps.length ∧ WyOk (wnF ms) ps p.2) (fun p => ps.length - p.1) (0, W) ⟨Nat.zero_le _, hW⟩ (Weak.rows hcx id ps.length 6400 ps.length (W) [(1728, some (wvO ps.length (gW ps.length ps.length)))] rfl rfl (by simp [go_sem, frzT_slr]) (by simp [go_sem, belL_gW (show 6400 + ps.length ≤ 12800 by omega), frzL_rf (gW_rf _ _), renL_rf (gW_rf _ _)]) (fun j hj => ⟨by simp only; omega, hv_rows (a := [_]) hj (by simp; omega)⟩) (fun _ _ h => h)) ?_
    simp only [St.at_nil, St.at_cons, lk, Nat.reduceEqDiff, ↓reduceIte, Option.getD_some, Option.getD_none, List.cons_append, List.nil_append, List.append_nil]
    clear hW W
    rintro ⟨i, W⟩ ⟨i1, hW⟩
    dsimp only at i1 hW ⊢
    by_cases hi : i < ps.length
    · repeat' (first | (refine AW.sreg rfl fun K hK => ?_; simp only [go_sem, Nat.reduceAdd, Nat.reduceMul, Int.reduceToNat, Nat.reduceLT, Nat.reduceLeDiff, Nat.le_refl, Nat.reduceEqDiff, ↓reduceIte, beq_self_eq_true, bne_self_eq_false, Int.reduceBEq, Int.reduceBNe, or_self, true_or, or_true, Option.map_some, Option.map_none, List.length_map]) | (refine AW.seq_k fun K hK => ?_) | (refine AW.block ?_) | (refine AW.skip ?_; simp only [Then, InBlock]) | (refine AW.condT rfl (by first | rfl | (simp; omega) | (simp [*]; done) | fail) ?_) | (refine hK _ ?_; clear hK K))
      refine AW.loopF (ι := Nat × (Nat → Nat → Int)) [6, 7, 8, 11, 12, 99, 100, 103, 104, 107] (fun p => [(108, I p.1)]) (fun p => (1728, some (wvO ps.length (gW ps.length ps.length))) :: fmW ps.length ps.length p.2) 200 (fun p => p.1 ≤ ps.length ∧ WyOk (wnF ms) ps p.2) (fun p => ps.length - p.1) (0, W) ⟨Nat.zero_le _, hW⟩ (Weak.rows hcx id ps.length 6400 ps.length (W) [(1728, some (wvO ps.length (gW ps.length ps.length)))] rfl rfl (by simp [go_sem, frzT_slr]) (by simp [go_sem, belL_gW (show 6400 + ps.length ≤ 12800 by omega), frzL_rf (gW_rf _ _), renL_rf (gW_rf _ _)]) (fun j hj => ⟨by simp only; omega, hv_rows (a := [_]) hj (by simp; omega)⟩) (fun _ _ h => h)) ?_
      simp only [St.at_nil, St.at_cons, lk, Nat.reduceEqDiff, ↓reduceIte, Option.getD_some, Option.getD_none, List.cons_append, List.nil_append, List.append_nil]
      clear hW W
      rintro ⟨k, W⟩ ⟨k1, hW⟩
      dsimp only at k1 hW ⊢
      by_cases hk : k < ps.length
      · have g1 := wv_get (gW ps.length ps.length) hi
        have g2 := wv_get (gW ps.length ps.length) hm
        have e1 : gW ps.length ps.length i = .slr (6400 + i) 0 ps.length := by simp [gW, hi]
        have e2 : gW ps.length ps.length m = .slr (6400 + m) 0 ps.length := by simp [gW, hm]
        rw [e1] at g1
        rw [e2] at g2
        have l1 := lk_rows (n := ps.length) (B := 6400) W hi
        have l2 := lk_rows (n := ps.length) (B := 6400) W hm
        have n1 : (1728 = 6400 + i) = False := eq_false (by omega)
        have n3 : (6400 + i = 1728) = False := eq_false (by omega)
        have n2 : (1728 = 6400 + m) = False := eq_false (by omega)
        have t1 := tbl_dv (W i) hk
        have t2 := tbl_dv (W i) hm
        have t3 := tbl_dv (W m) hk
        have s1 := fun v => tbl_set (W i) v hk
        repeat' (first | ((first | refine AW.sreg rfl fun K hK => ?_ | refine AW.reg rfl ?_ | refine AW.regD hmix rfl ?_); simp only [go_sem, Nat.reduceAdd, Nat.reduceMul, Int.reduceToNat, Nat.reduceLT, Nat.reduceLeDiff, Nat.le_refl, Nat.reduceEqDiff, ↓reduceIte, beq_self_eq_true, bne_self_eq_false, Int.reduceBEq, Int.reduceBNe, or_self, true_or, or_true, Option.map_some, Option.map_none, List.length_map, Int.toNat_natCast, Nat.zero_add, g1, g2, l1, l2, n1, n2, t1, t2, t3, s1, hmx]) | (refine AW.seq_k fun K hK => ?_) | (refine AW.block ?_) | (refine AW.skip ?_; simp only [Then, InBlock]) | (refine AW.condT rfl (by first | rfl | (simp; omega) | (simp [*]; done) | fail) ?_) | (refine hK _ ?_; clear hK K) | (with_reducible refine And.intro (?_ : regOk _ _ = true) ?_; exact regOk_swap (by kernel_rfl)) | (with_reducible refine And.intro ?_ ?_; first | omega | assumption | (focus (decide)) | (focus (simp; done)) | (focus (simp; omega)) | (focus (constructor <;> omega)) | fail))
        refine ⟨(k + 1, upN W i (upN (W i) k (max (W i k) (min (W i m) (W m k))))), ⟨hk, w_step hW hi hk hm rfl⟩, by simp only; omega, Weak.rows hcx id ps.length 6400 ps.length (upN W i (upN (W i) k (max (W i k) (min (W i m) (W m k))))) [(1728, some (wvO ps.length (gW ps.length ps.length)))] rfl rfl (by simp [go_sem, frzT_slr]) (by simp [go_sem, n1, belL_gW (show 6400 + ps.length ≤ 12800 by omega), frzL_rf (gW_rf _ _), renL_rf (gW_rf _ _), n3]) (fun j hj => ⟨by simp only; omega, ?_⟩) (fun _ _ h => h)⟩
        by_cases e : j = i
        · subst e
          simp [go_sem, upN_same]
        · rw [upN_ne _ _ e]
          exact hv_rows (a := [_, _]) hj (by simp; omega)
      · obtain rfl : k = ps.length := by omega
        repeat' (first | ((first | refine AW.sreg rfl fun K hK => ?_ | refine AW.reg rfl ?_); simp only [go_sem, Nat.reduceAdd, Nat.reduceMul, Int.reduceToNat, Nat.reduceLT, Nat.reduceLeDiff, Nat.le_refl, Nat.reduceEqDiff, ↓reduceIte, beq_self_eq_true, bne_self_eq_false, Int.reduceBEq, Int.reduceBNe, or_self, true_or, or_true, Option.map_some, Option.map_none, List.length_map]) | (refine AW.seq_k fun K hK => ?_) | (refine AW.exit ?_; simp only [go_sem, ↓reduceIte]) | (refine AW.condF rfl (by first | rfl | (simp; omega) | (simp [*]; done) | fail) ?_) | (refine hK _ ?_; clear hK K) | (clear hK K; refine hK _ ?_; clear hK K) | (with_reducible refine And.intro ?_ ?_; first | omega | assumption | (focus (decide)) | (focus (simp; done)) | (focus (simp; omega)) | (focus (constructor <;> omega)) | fail))
        exact ⟨(i + 1, W), ⟨hi, hW⟩, by simp only; omega, Weak.rows hcx id ps.length 6400 ps.length (W) [(1728, some (wvO ps.length (gW ps.length ps.length)))] rfl rfl (by simp [go_sem, frzT_slr]) (by simp [go_sem, belL_gW (show 6400 + ps.length ≤ 12800 by omega), frzL_rf (gW_rf _ _), renL_rf (gW_rf _ _)]) (fun j hj => ⟨by simp only; omega, hv_rows (a := [_]) hj (by simp; omega)⟩) (fun _ _ h => h)⟩
    · obtain rfl : i = ps.length := by omega
      repeat' (first | ((first | refine AW.sreg rfl fun K hK => ?_ | refine AW.reg rfl ?_); simp only [go_sem, Nat.reduceAdd, Nat.reduceMul, Int.reduceToNat, Nat.reduceLT, Nat.reduceLeDiff, Nat.le_refl, Nat.reduceEqDiff, ↓reduceIte, beq_self_eq_true, bne_self_eq_false, Int.reduceBEq, Int.reduceBNe, or_self, true_or, or_true, Option.map_some, Option.map_none, List.length_map]) | (refine AW.seq_k fun K hK => ?_) | (refine AW.exit ?_; simp only [go_sem, ↓reduceIte]) | (refine AW.condF rfl (by first | rfl | (simp; omega) | (simp [*]; done) | fail) ?_) | (refine hK _ ?_; clear hK K) | (clear hK K; refine hK _ ?_; clear hK K) | (with_reducible refine And.intro ?_ ?_; first | omega | assumption | (focus (decide)) | (focus (simp; done)) | (focus (simp; omega)) | (focus (constructor <;> omega)) | fail))
      exact ⟨(m + 1, W), ⟨hm, hW⟩, by simp only; omega, Weak.rows hcx id ps.length 6400 ps.length (W) [(1728, some (wvO ps.length (gW ps.length ps.length)))] rfl rfl (by simp [go_sem, frzT_slr]) (by simp [go_sem, belL_gW (show 6400 + ps.length ≤ 12800 by omega), frzL_rf (gW_rf _ _), renL_rf (gW_rf _ _)]) (fun j hj => ⟨by simp only; omega, hv_rows (a := [_]) hj (by simp; omega)⟩) (fun _ _ h => h)⟩
  obtain rfl : m = ps.length := by omega
  refine AW.weak (Weak.data hcx (st' := ⟨188, [(6, tbV ms ps), (7, I ps.length), (8, .d (.sl ((List.range ps.length).map fun j => D.sl (tbl ps.length (W j))))), (99, I ps.length), (100, I ps.length)], [], 200⟩) rfl rfl ?_) ?_
  · have hfz : ∀ hv : Nat → Option O, hv 1728 = some (wvO ps.length (gW ps.length ps.length)) → (∀ j, j < ps.length → hv (6400 + j) = some (bvec ps.length (W j))) → frz hv (fun _ => false) (.slr 1728 0 ps.length) = .d (.sl ((List.range ps.length).map fun j => D.sl (tbl ps.length (W j)))) := fun hv h1 h2 => frz_rows (B := 6400) rfl h1 (fun j hj => by simp [gW, hj]) (fun j hj => ⟨rfl, h2 j hj⟩)
    intro p hp
    simp only [List.mem_cons, List.not_mem_nil, or_false] at hp
    rcases hp with rfl | rfl | rfl | rfl | rfl
    · exact ⟨_, rfl, frz_d.trans rfl, rfl⟩
    · exact ⟨_, rfl, frz_d.trans rfl, rfl⟩
    · exact ⟨_, rfl, (hfz _ rfl (fun j hj => hv_rows (a := [_]) hj (by simp; omega))).trans rfl, rfl⟩
    · exact ⟨_, rfl, frz_d.trans rfl, rfl⟩
    · exact ⟨_, rfl, frz_d.trans rfl, rfl⟩
  repeat' (first | (refine AW.sreg rfl fun K hK => ?_; simp only [go_sem, Nat.reduceAdd, Nat.reduceMul, Int.reduceToNat, Nat.reduceLT, Nat.reduceLeDiff, Nat.le_refl, Nat.reduceEqDiff, ↓reduceIte, beq_self_eq_true, bne_self_eq_false, Int.reduceBEq, Int.reduceBNe, or_self, true_or, or_true, Option.map_some, Option.map_none, List.length_map, Int.toNat_natCast, Nat.zero_add]) | (refine AW.seq_k fun K hK => ?_) | (refine AW.block ?_) | (refine AW.exit ?_; simp only [go_sem, ↓reduceIte]) | (refine AW.condF rfl (by first | rfl | (simp; omega) | (simp [*]; done) | fail) ?_) | (refine hK _ ?_; clear hK K) | (clear hK K; refine hK _ ?_; clear hK K))
  clear h1 ha
  refine AW.loopF (ι := Nat × List Str × List Int) [6, 7, 8, 14, 147, 148] (fun p => [(149, I p.1)]) (fun p => [(12928, some (O.box 40 [.mpr 12864])), (12864, some (O.map (p.2.1.map D.str) (dv (p.2.2.map (D.int .i64)))))]) 210 (fun p => p.1 ≤ ps.length ∧ SM ps W p.1 p.2.1 p.2.2) (fun p => ps.length - p.1) (0, [], []) ⟨Nat.zero_le _, SM.zero _ _⟩ (Weak.objs hcx [(12928, 12928), (12864, 12864)] rfl rfl (Nat.le_of_ble_eq_true rfl) (by simp [go_sem, gL, kL, List.map_append, dv_push, dvz]) (by simp [go_sem, gL, kL, List.map_append, dv_push, dvz]) (by first | exact pk0 | exact pk1 ⟨_, rfl⟩ | exact pk2 ⟨_, rfl⟩ ⟨_, rfl⟩ | exact pk3 ⟨_, rfl⟩ ⟨_, rfl⟩ ⟨_, rfl⟩ | exact pk4 ⟨_, rfl⟩ ⟨_, rfl⟩ ⟨_, rfl⟩ ⟨_, rfl⟩) (by simp [gL, lk, dvz])) ?_; simp only [St.at_nil, St.at_cons, lk, Nat.reduceEqDiff, ↓reduceIte, Option.getD_some, Option.getD_none, List.cons_append, List.nil_append, List.append_nil]
  rintro ⟨i, KS, VS⟩ ⟨i1, i2⟩
  dsimp only at i1 i2 ⊢
  by_cases hi : i < ps.length
  · have hget : (ps.map D.str)[i]? = some (.str (ps.getD i [])) := by rw [List.getElem?_map, getD_at hi]; rfl
    have hnew := i2.new hnp hi
    have hnx := fun KT VT => i2.next (KT := KT) (VT := VT) hnp hi
    have hln := i2.len
    have hnd := i2.nd
    generalize hp : ps.getD i [] = pa at *
    repeat' (first | (refine AW.sreg rfl fun K hK => ?_; simp only [go_sem, Nat.reduceAdd, Nat.reduceMul, Int.reduceToNat, Nat.reduceLT, Nat.reduceLeDiff, Nat.le_refl, Nat.reduceEqDiff, ↓reduceIte, beq_self_eq_true, bne_self_eq_false, Int.reduceBEq, Int.reduceBNe, or_self, true_or, or_true, Option.map_some, Option.map_none, List.length_map, hget]) | (refine AW.seq_k fun K hK => ?_) | (refine AW.block ?_) | (refine AW.skip ?_; simp only [Then, InBlock]) | (refine AW.condT rfl (by first | rfl | (simp; omega) | (simp [*]; done) | fail) ?_) | (refine hK _ ?_; clear hK K) | (with_reducible refine And.intro ?_ ?_; first | omega | assumption | (focus (decide)) | (focus (simp; done)) | (focus (simp; omega)) | (focus (constructor <;> omega)) | fail))
    refine AW.loopF (ι := Nat × List Str × List Int) [6, 7, 8, 14, 15, 16, 147, 148, 149, 154] (fun p => [(155, I p.1)]) (fun p => [(12928, some (O.box 40 [.mpr 12864])), (12864, some (O.map (p.2.1.map D.str) (dv (p.2.2.map (D.int .i64)))))]) 220 (fun p => p.1 ≤ ps.length ∧ SMi KS VS pa (stF ps.length W i p.1) p.2.1 p.2.2) (fun p => ps.length - p.1) (0, KS, VS) ⟨Nat.zero_le _, .inl ⟨rfl, rfl, rfl⟩⟩ (Weak.objs hcx [(12928, 12928), (12864, 12864)] rfl rfl (Nat.le_of_ble_eq_true rfl) (by simp [go_sem, gL, kL, List.map_append, dv_push]) (by simp [go_sem, gL, kL, List.map_append, dv_push]) (by first | exact pk0 | exact pk1 ⟨_, rfl⟩ | exact pk2 ⟨_, rfl⟩ ⟨_, rfl⟩ | exact pk3 ⟨_, rfl⟩ ⟨_, rfl⟩ ⟨_, rfl⟩ | exact pk4 ⟨_, rfl⟩ ⟨_, rfl⟩ ⟨_, rfl⟩ ⟨_, rfl⟩) (by simp [gL, lk])) ?_; simp only [St.at_nil, St.at_cons, lk, Nat.reduceEqDiff, ↓reduceIte, Option.getD_some, Option.getD_none, List.cons_append, List.nil_append, List.append_nil]
    rintro ⟨k, KT, VT⟩ ⟨k1, k2⟩
    dsimp only at k1 k2 ⊢
    by_cases hk : k < ps.length
    · have hsu := stF_succ ps.length W i k
      have hle := stF_le ps.length W i k
      have r1 : ((List.range ps.length).map fun j => D.sl (tbl ps.length (W j)))[i]? = some (.sl (tbl ps.length (W i))) := by rw [List.getElem?_map, List.getElem?_range hi]; rfl
      have r2 : ((List.range ps.length).map fun j => D.sl (tbl ps.length (W j)))[k]? = some (.sl (tbl ps.length (W k))) := by rw [List.getElem?_map, List.getElem?_range hk]; rfl
      have c1 := tbl_get (W i) hk
      have c2 := tbl_get (W k) hi
      by_cases hlt : W k i < W i k
      · rw [if_pos hlt] at hsu
        rcases k2 with ⟨z1, rfl, rfl⟩ | ⟨z1, rfl, rfl⟩
        · have hf := fnd_no hnew
          rw [z1] at hsu
          repeat' (first | ((first | refine AW.sreg rfl fun K hK => ?_ | refine AW.sregD hmix rfl fun K hK => ?_ | refine AW.reg rfl ?_); simp only [go_sem, Nat.reduceAdd, Nat.reduceMul, Int.reduceToNat, Nat.reduceLT, Nat.reduceLeDiff, Nat.le_refl, Nat.reduceEqDiff, ↓reduceIte, beq_self_eq_true, bne_self_eq_false, Int.reduceBEq, Int.reduceBNe, or_self, true_or, or_true, Option.map_some, Option.map_none, List.length_map, List.length_range, tbl_len, r1, r2, c1, c2, hlt, hf]) | (refine AW.seq_k fun K hK => ?_) | (refine AW.block ?_) | (refine AW.skip ?_; simp only [Then, InBlock]) | (refine AW.condT rfl (by first | rfl | (simp; omega) | (simp [*]; done) | fail) ?_) | (refine hK _ ?_; clear hK K) | (with_reducible refine And.intro (?_ : regOk _ _ = true) ?_; kernel_rfl) | (with_reducible refine And.intro ?_ ?_; first | omega | assumption | (focus (decide)) | (focus (simp; done)) | (focus (simp; omega)) | (focus (constructor <;> omega)) | fail))
          exact ⟨(k + 1, KT ++ [pa], VT ++ [1]), ⟨hk, .inr ⟨by show 0 < stF ps.length W i (k + 1); omega, rfl, by rw [hsu]; rfl⟩⟩, by simp only; omega, (Weak.objs hcx [(12928, 12928), (12864, 12864)] rfl rfl (Nat.le_of_ble_eq_true rfl) (by simp [go_sem, gL, kL, List.map_append, dv_push]) (by simp [go_sem, gL, kL, List.map_append, dv_push]) (by first | exact pk0 | exact pk1 ⟨_, rfl⟩ | exact pk2 ⟨_, rfl⟩ ⟨_, rfl⟩ | exact pk3 ⟨_, rfl⟩ ⟨_, rfl⟩ ⟨_, rfl⟩ | exact pk4 ⟨_, rfl⟩ ⟨_, rfl⟩ ⟨_, rfl⟩ ⟨_, rfl⟩) (by simp [gL, lk]))⟩
        · have hf : fndK (.str pa) ((KS ++ [pa]).map D.str) = some (some KS.length) := by
            refine fnd_at ?_ (by simp)
            exact List.nodup_append.2 ⟨hnd, by simp, fun a ha b hb => by
              obtain rfl := List.mem_singleton.1 hb
              rintro rfl
              exact hnew ha⟩
          generalize stF ps.length W i k = c at *
          have hg : (dv ((VS ++ [(c : Int)]).map (D.int .i64)))[KS.length]? = some (.d (.int .i64 (c : Int))) := by
            rw [← hln]
            simp [dv]
          have hst : ∀ v : Int, (dv ((VS ++ [(c : Int)]).map (D.int .i64))).set KS.length (.d (.int .i64 v)) = dv ((VS ++ [v]).map (D.int .i64)) := fun v => by
            rw [← hln]
            simp [dv]
          repeat' (first | ((first | refine AW.sreg rfl fun K hK => ?_ | refine AW.sregD hmix rfl fun K hK => ?_ | refine AW.reg rfl ?_); simp only [go_sem, Nat.reduceAdd, Nat.reduceMul, Int.reduceToNat, Nat.reduceLT, Nat.reduceLeDiff, Nat.le_refl, Nat.reduceEqDiff, ↓reduceIte, beq_self_eq_true, bne_self_eq_false, Int.reduceBEq, Int.reduceBNe, or_self, true_or, or_true, Option.map_some, Option.map_none, List.length_map, List.length_range, tbl_len, r1, r2, c1, c2, hlt, hf, hg, hst]) | (refine AW.seq_k fun K hK => ?_) | (refine AW.block ?_) | (refine AW.skip ?_; simp only [Then, InBlock]) | (refine AW.condT rfl (by first | rfl | (simp; omega) | (simp [*]; done) | fail) ?_) | (refine hK _ ?_; clear hK K) | (with_reducible refine And.intro (?_ : regOk _ _ = true) ?_; kernel_rfl) | (with_reducible refine And.intro ?_ ?_; first | omega | assumption | (focus (decide)) | (focus (simp; done)) | (focus (simp; omega)) | (focus (constructor <;> omega)) | fail))
          exact ⟨(k + 1, KS ++ [pa], VS ++ [(c : Int) + 1]), ⟨hk, .inr ⟨by show 0 < stF ps.length W i (k + 1); omega, rfl, by rw [hsu]; rfl⟩⟩, by simp only; omega, (Weak.objs hcx [(12928, 12928), (12864, 12864)] rfl rfl (Nat.le_of_ble_eq_true rfl) (by simp [go_sem, gL, kL, List.map_append, dv_push]) (by simp [go_sem, gL, kL, List.map_append, dv_push]) (by first | exact pk0 | exact pk1 ⟨_, rfl⟩ | exact pk2 ⟨_, rfl⟩ ⟨_, rfl⟩ | exact pk3 ⟨_, rfl⟩ ⟨_, rfl⟩ ⟨_, rfl⟩ | exact pk4 ⟨_, rfl⟩ ⟨_, rfl⟩ ⟨_, rfl⟩ ⟨_, rfl⟩) (by simp [gL, lk]))⟩
      · rw [if_neg hlt, Nat.add_zero] at hsu
        repeat' (first | ((first | refine AW.sreg rfl fun K hK => ?_ | refine AW.sregD hmix rfl fun K hK => ?_ | refine AW.reg rfl ?_); simp only [go_sem, Nat.reduceAdd, Nat.reduceMul, Int.reduceToNat, Nat.reduceLT, Nat.reduceLeDiff, Nat.le_refl, Nat.reduceEqDiff, ↓reduceIte, beq_self_eq_true, bne_self_eq_false, Int.reduceBEq, Int.reduceBNe, or_self, true_or, or_true, Option.map_some, Option.map_none, List.length_map, List.length_range, tbl_len, r1, r2, c1, c2, hlt]) | (refine AW.seq_k fun K hK => ?_) | (refine AW.block ?_) | (refine AW.skip ?_; simp only [Then, InBlock]) | (refine AW.condT rfl (by first | rfl | (simp; omega) | (simp [*]; done) | fail) ?_) | (refine AW.condF rfl (by first | rfl | (simp; omega) | (simp [*]; done) | fail) ?_) | (refine hK _ ?_; clear hK K) | (with_reducible refine And.intro (?_ : regOk _ _ = true) ?_; kernel_rfl) | (with_reducible refine And.intro ?_ ?_; first | omega | assumption | (focus (decide)) | (focus (simp; done)) | (focus (simp; omega)) | (focus (constructor <;> omega)) | fail))
        exact ⟨(k + 1, KT, VT), ⟨hk, by rw [hsu]; exact k2⟩, by simp only; omega, (Weak.objs hcx [(12928, 12928), (12864, 12864)] rfl rfl (Nat.le_of_ble_eq_true rfl) (by simp [go_sem, gL, kL, List.map_append, dv_push]) (by simp [go_sem, gL, kL, List.map_append, dv_push]) (by first | exact pk0 | exact pk1 ⟨_, rfl⟩ | exact pk2 ⟨_, rfl⟩ ⟨_, rfl⟩ | exact pk3 ⟨_, rfl⟩ ⟨_, rfl⟩ ⟨_, rfl⟩ | exact pk4 ⟨_, rfl⟩ ⟨_, rfl⟩ ⟨_, rfl⟩ ⟨_, rfl⟩) (by simp [gL, lk]))⟩
    · obtain rfl : k = ps.length := by omega
      repeat' (first | ((first | refine AW.sreg rfl fun K hK => ?_ | refine AW.reg rfl ?_); simp only [go_sem, Nat.reduceAdd, Nat.reduceMul, Int.reduceToNat, Nat.reduceLT, Nat.reduceLeDiff, Nat.le_refl, Nat.reduceEqDiff, ↓reduceIte, beq_self_eq_true, bne_self_eq_false, Int.reduceBEq, Int.reduceBNe, or_self, true_or, or_true, Option.map_some, Option.map_none, List.length_map]) | (refine AW.seq_k fun K hK => ?_) | (refine AW.exit ?_; simp only [go_sem, ↓reduceIte]) | (refine AW.condF rfl (by first | rfl | (simp; omega) | (simp [*]; done) | fail) ?_) | (refine hK _ ?_; clear hK K) | (clear hK K; refine hK _ ?_; clear hK K) | (with_reducible refine And.intro ?_ ?_; first | omega | assumption | (focus (decide)) | (focus (simp; done)) | (focus (simp; omega)) | (focus (constructor <;> omega)) | fail))
      exact ⟨(i + 1, KT, VT), ⟨hi, hnx KT VT k2⟩, by simp only; omega, (Weak.objs hcx [(12928, 12928), (12864, 12864)] rfl rfl (Nat.le_of_ble_eq_true rfl) (by simp [go_sem, gL, kL, List.map_append, dv_push]) (by simp [go_sem, gL, kL, List.map_append, dv_push]) (by first | exact pk0 | exact pk1 ⟨_, rfl⟩ | exact pk2 ⟨_, rfl⟩ ⟨_, rfl⟩ | exact pk3 ⟨_, rfl⟩ ⟨_, rfl⟩ ⟨_, rfl⟩ | exact pk4 ⟨_, rfl⟩ ⟨_, rfl⟩ ⟨_, rfl⟩ ⟨_, rfl⟩) (by simp [gL, lk]))⟩
  obtain rfl : i = ps.length := by omega
  have hcl := clone_St ps (by omega)
  have hmem : ∀ x, 0 ≤ lkI KS VS x ∧ lkI KS VS x ≤ 1000 := fun x => by
    by_cases hx : x ∈ KS
    · obtain ⟨j, hj, rfl⟩ := i2.inn x hx
      rw [i2.at_ j hj]
      have := stF_le ps.length W j ps.length
      omega
    · rw [lkI_no hx]
      omega
  have hso := sortStable_St _ (fun x y => cmpI (lkI KS VS y) (lkI KS VS x)) (fun _ _ => rfl) 68 (.ptr [.map (KS.map D.str) (VS.map (D.int .i64))] 0) (fun x y => strong1_any i2.len hmem x y) ps (by omega)
  refine AW.weak (?wk : Weak cx _ (⟨188, [(6, tbV ms ps), (14, .d (.ptr [.map (KS.map D.str) (VS.map (D.int .i64))] 0)), (148, I ps.length), (149, I ps.length)], [], 200⟩ : St)) ?_
  case wk => exact (Weak.auto hcx rfl rfl (Nat.le_of_ble_eq_true rfl) (by simp [go_sem, gL, kL, renOf, V.obj, lk, Nat.blt, Nat.ble, List.map_append, dv_push, toDL_dvF]) (by simp [go_sem, gL, kL, renOf, V.obj, lk, Nat.blt, Nat.ble, List.map_append, dv_push, toDL_dvF]) (by first | exact pk0 | exact pk1 ⟨_, rfl⟩ | exact pk2 ⟨_, rfl⟩ ⟨_, rfl⟩ | exact pk3 ⟨_, rfl⟩ ⟨_, rfl⟩ ⟨_, rfl⟩ | exact pk4 ⟨_, rfl⟩ ⟨_, rfl⟩ ⟨_, rfl⟩ ⟨_, rfl⟩) (by simp [go_sem, gL, kL, lk, renOf, V.obj, Nat.blt, Nat.ble, toDL_dvF]))
  repeat' (first | ((first | refine AW.sreg rfl fun K hK => ?_ | refine run_call _ _ _ ((hcl).objs [] trivial rfl (by decide) (by simp [go_sem, renOs]) (by simp) (by simp) (by simp [go_sem]) (by simp [go_sem]) (by simp [go_sem]) (by simp [go_sem])) rfl rfl (dstOk_of rfl) rfl rfl rfl ?_ | refine run_call _ _ _ ((hso).objs [_] ⟨rfl, trivial⟩ rfl (by decide) (by simp [go_sem, renOs]) (by simp) (by simp) (by simp [go_sem]) (by simp [go_sem]) (by simp [go_sem]) (by simp [go_sem])) rfl rfl (dstOk_of rfl) rfl rfl rfl ?_); simp only [go_sem, Nat.reduceAdd, Nat.reduceMul, Int.reduceToNat, Nat.reduceLT, Nat.reduceLeDiff, Nat.le_refl, Nat.reduceEqDiff, ↓reduceIte, beq_self_eq_true, bne_self_eq_false, Int.reduceBEq, Int.reduceBNe, or_self, true_or, or_true, Option.map_some, Option.map_none, List.length_map, Nat.reduceSub, Nat.add_zero]) | (refine AW.seq_k fun K hK => ?_) | (refine AW.exit ?_; simp only [go_sem, ↓reduceIte]) | (refine AW.condF rfl (by first | rfl | (simp; omega) | (simp [*]; done) | fail) ?_) | (refine hK _ ?_; clear hK K) | (clear hK K; refine hK _ ?_; clear hK K))
  have hfi := fun p hp hb => strong_first hW i2 p hp hb hnp
  have hil : (isort (fun x y => decide (cmpI (lkI KS VS y) (lkI KS VS x) < 0)) ps).length = ps.length := (isort_perm _ _).length_eq
  generalize isort (fun x y => decide (cmpI (lkI KS VS y) (lkI KS VS x) < 0)) ps = o at *
  exact AW.ret ⟨o, hfi, Fin.data rfl (frz_tup2 (frz_slr rfl rfl (by simp [hil])) frz_d) rfl⟩
end Go.AX

namespace Go.AX
open Go Go.Proofs Go.RowKit
theorem blF_sum (ms : List Mk) (a : Str) : ∀ (ps : List Str) (n : Int), ps.foldl (blS ms a) n = n + (ps.map fun b => cmpI (wnF ms a b) (wnF ms b a)).sum
  | [], n => by simp
  | b :: ps, n => by
    simp only [List.foldl_cons, List.map_cons, List.sum_cons, blF_sum ms a ps]
    unfold blS
    omega
theorem sum_le_lt {α : Type} {f g : α → Int} : ∀ {l : List α}, (∀ x ∈ l, f x ≤ g x) → (l.map f).sum ≤ (l.map g).sum ∧ ((∃ x ∈ l, f x < g x) → (l.map f).sum < (l.map g).sum)
  | [], _ => ⟨Int.le_refl _, fun ⟨x, hx, _⟩ => absurd hx (by simp)⟩
  | a :: l, h => by
    obtain ⟨h1, h2⟩ := sum_le_lt (l := l) fun x hx => h x (List.mem_cons_of_mem _ hx)
    have h3 := h a (by simp)
    simp only [List.map_cons, List.sum_cons]
    refine ⟨by omega, fun ⟨x, hx, hl⟩ => ?_⟩
    rcases List.mem_cons.1 hx with rfl | hx
    · omega
    · have := h2 ⟨x, hx, hl⟩
      omega
theorem cmpI_val (a b : Int) : cmpI a b = if a < b then -1 else if b < a then 1 else 0 := by unfold cmpI; split <;> (try split) <;> (try split) <;> (try omega) <;> rfl
/-- The balance of one that beats all others is the greatest. -/
theorem bal_first {ms : List Mk} {ps : List Str} {p : Str} (hp : p ∈ ps) (hb : ∀ q ∈ ps, q ≠ p → wnF ms q p < wnF ms p q) {q : Str} (hq : q ∈ ps) (hne : q ≠ p) : blF ms ps q < blF ms ps p := by
  unfold blF
  rw [blF_sum, blF_sum, Int.zero_add, Int.zero_add]
  refine (sum_le_lt fun x hx => ?_).2 ⟨p, hp, ?_⟩
  · rw [cmpI_val, cmpI_val]
    by_cases e : x = p
    · subst e
      have := hb q hq hne
      split <;> split <;> omega
    · have := hb x hx e
      rw [if_neg (by omega : ¬ wnF ms p x < wnF ms x p), if_pos this]
      split <;> (try split) <;> omega
  · rw [cmpI_val, cmpI_val]
    have := hb q hq hne
    rw [if_pos this, if_neg (by omega), if_neg (by omega)]
    omega
theorem wins_first {ms : List Mk} {ps : List Str} {p : Str} (hp : p ∈ ps) (hb : ∀ q ∈ ps, q ≠ p → wnF ms q p < wnF ms p q) (hps : pps ms = ps) : ∃ r, ordP ps (wnV ms) = p :: r := by
  have e : ordP ps (wnV ms) = isort (fun x y => decide (blF ms ps y < blF ms ps x)) ps := by
    unfold ordP
    refine isort_congr (List.pairwise_iff_forall_sublist.2 fun {a b} hab => ?_)
    have ha : a ∈ ps := hab.subset (by simp)
    have hb2 : b ∈ ps := hab.subset (by simp)
    refine decide_eq_decide.2 ?_
    simp only [cvP, lkV, if_pos ha, if_pos hb2, wnV, hps, Int.mul_one, Int.zero_mul]
    have h0 : cmpI 0 0 = 0 := rfl
    simp only [orI, h0]
    by_cases hz : cmpI (blF ms ps a) (blF ms ps b) = 0
    · have := (cmpI_zero _ _).1 hz
      simp [hz]
      omega
    · rw [if_pos hz]
      exact cmpI_neg _ _
  rw [e]
  exact head_first _ ps p hp fun q hq hne => bal_first hp hb hq hne
theorem Wins_any (ms : List Mk) (H L : List Str) (hmk : MkO ms H L) (pa pb : Str) (ha : pa ∈ pps ms) (hb : pb ∈ pps ms) (hne : pa ≠ pb) : Does Tryz.prog 27 [.d (.sl (ms.map mkD)), S pa, S pb] [] (.tup [I (wnF ms pa pb), I 0]) [] := by
  have h1 := checkedO ms H L hmk
  refine Does.of_AW (n := 43) Tryz.func27 rfl rfl rfl fun cx hcx => ?_
  refine AW.sreg rfl fun K hK => ?_; simp only [go_sem, Nat.reduceAdd, Nat.reduceMul, Int.reduceToNat, Nat.reduceLT, Nat.reduceLeDiff, Nat.le_refl, Nat.reduceEqDiff, ↓reduceIte, beq_self_eq_true, bne_self_eq_false, Int.reduceBEq, Int.reduceBNe, or_self, true_or, or_true, Option.map_some, Option.map_none]
  refine hK _ ?_; (try clear hK K)
  refine AW.sreg rfl fun K hK => ?_; simp only [go_sem, Nat.reduceAdd, Nat.reduceMul, Int.reduceToNat, Nat.reduceLT, Nat.reduceLeDiff, Nat.le_refl, Nat.reduceEqDiff, ↓reduceIte, beq_self_eq_true, bne_self_eq_false, Int.reduceBEq, Int.reduceBNe, or_self, true_or, or_true, Option.map_some, Option.map_none]
  first | (refine run_callI _ _ _ ((h1).pure rfl (fun _ => rfl) _ _) rfl rfl (dstOk_of rfl) rfl rfl rfl ?_; rintro q hq; (try dsimp only at q); (try dsimp only at hq); simp only [go_sem, Nat.reduceAdd, Nat.reduceMul, Int.reduceToNat, Nat.reduceLT, Nat.reduceLeDiff, Nat.le_refl, Nat.reduceEqDiff, ↓reduceIte, beq_self_eq_true, bne_self_eq_false, Int.reduceBEq, Int.reduceBNe, or_self, true_or, or_true, Option.map_some, Option.map_none])
  refine hK _ ?_; (try clear hK K)
  have e1 := hq.eqP
  rw [← e1] at ha hb
  have hw := wins_any ms hmk.len q hq pa pb ha hb
  have hp1 := hq.pos ha
  have hp2 := hq.pos hb
  obtain ⟨j, f1, f2⟩ := hq.at ha
  obtain ⟨k, g1, g2⟩ := hq.at hb
  have z1 : ¬ (((gP ms pa).length : Nat) : Int) = 0 := by omega
  have z2 : ¬ (((gP ms pb).length : Nat) : Int) = 0 := by omega
  have hab : (pa == pb) = false := by simpa using hne
  repeat' (first | ((first | refine AW.sreg rfl fun K hK => ?_ | refine run_call _ _ _ ((hw).pure rfl rfl _ _) rfl rfl (dstOk_of rfl) rfl rfl rfl ?_); simp only [go_sem, Nat.reduceAdd, Nat.reduceMul, Int.reduceToNat, Nat.reduceLT, Nat.reduceLeDiff, Nat.le_refl, Nat.reduceEqDiff, ↓reduceIte, beq_self_eq_true, bne_self_eq_false, Int.reduceBEq, Int.reduceBNe, or_self, true_or, or_true, Option.map_some, Option.map_none, List.length_map, f1, f2, g1, g2, z1, z2, hab]) | (refine AW.seq_k fun K hK => ?_) | (refine AW.skip ?_; simp only [Then, InBlock]) | (refine AW.condT rfl (by first | rfl | (simp; omega) | (simp [*]; done) | fail) ?_) | (refine AW.condF rfl (by first | rfl | (simp; omega) | (simp [*]; done) | fail) ?_) | (refine AW.cond rfl (fun h => ?_) (fun h => ?_) <;> (try simp only [decide_eq_true_eq, decide_eq_false_iff_not, Bool.not_eq_true', Bool.not_eq_false', Bool.not_eq_eq_eq_not, Bool.not_true, Bool.not_false, beq_iff_eq, bne_iff_ne, beq_eq_false_iff_ne, ne_eq, Bool.and_eq_true, Bool.or_eq_true, Bool.or_eq_false_iff] at h)) | (refine hK _ ?_; clear hK K) | (refine stepB_split (fun h => ?_) (fun h => ?_) <;> (have hb0 := h) <;> (try simp only [Bool.not_eq_true', Bool.not_eq_false'] at hb0) <;> (try simp only [decide_eq_true_eq, decide_eq_false_iff_not, Bool.not_eq_true', Bool.not_eq_false', Bool.not_eq_eq_eq_not, Bool.not_true, Bool.not_false, beq_iff_eq, bne_iff_ne, beq_eq_false_iff_ne, ne_eq, Bool.and_eq_true, Bool.or_eq_true, Bool.or_eq_false_iff] at h) <;> simp only [go_sem, Nat.reduceAdd, Nat.reduceMul, Int.reduceToNat, Nat.reduceLT, Nat.reduceLeDiff, Nat.le_refl, Nat.reduceEqDiff, ↓reduceIte, beq_self_eq_true, bne_self_eq_false, Int.reduceBEq, Int.reduceBNe, or_self, true_or, or_true, Option.map_some, Option.map_none, hb0, h, decide_true, decide_false, List.length_map, f1, f2, g1, g2, z1, z2, hab] <;> (try clear hb0)) | (exfalso; omega))
  exact AW.ret (Fin.data rfl (by simp [go_sem]) rfl)
theorem isWay4_any : Does Tryz.prog 45 [I 4] [] (B true) [] := by
  have h := outside 4 1 5
  refine Does.of_AW (n := 6) Tryz.func45 rfl rfl rfl fun cx hcx => ?_
  repeat' (first | ((first | refine AW.sreg rfl fun K hK => ?_ | refine run_call _ _ _ ((h).pure rfl rfl _ _) rfl rfl (dstOk_of rfl) rfl rfl rfl ?_); simp only [go_sem, Nat.reduceAdd, Nat.reduceMul, Int.reduceToNat, Nat.reduceLT, Nat.reduceLeDiff, Nat.le_refl, Nat.reduceEqDiff, ↓reduceIte, beq_self_eq_true, bne_self_eq_false, Int.reduceBEq, Int.reduceBNe, or_self, true_or, or_true, Option.map_some, Option.map_none]) | (refine hK _ ?_; clear hK K) | (refine AW.ret (Fin.data rfl (by first | (simp only [go_sem]; done) | (simp [go_sem, *]; done) | (simp [go_sem]; omega) | rfl) rfl)))
theorem Order4_any (ms : List Mk) (H L : List Str) (h : MkO ms H L) : DoesI Tryz.prog 15 [.d (.sl (ms.map mkD)), I 4] [] (ShOk ms) (fun q => .tup [.slr 0 0 q.1.1.length, I 0]) (fun q => [SWk (ordP q.1.1 (wnV ms))]) := by
  have h1 := checkedO ms H L h
  have h2 : ∀ q, ShOk ms q → Does Tryz.prog 46 [shV ms q, I 4] [] (.slr 0 0 q.1.1.length) [SWk (ordP q.1.1 (wnV ms))] := fun q hq => by
    have hl := h.len
    have hlL := hq.lenL h.pl
    have hL := h.hL
    have hk := fun m hm => (h.sh m hm).1
    exact order_any 4 (wnV ms) ms q (by omega) hk hq (fun k hk => wnV_ok k (by rw [← hq.eqP]; omega)) (values4_any ms hl h.i hk q hq)
  refine DoesI.of_AW (n := 22) Tryz.func15 rfl rfl rfl fun cx hcx => ?_
  repeat' (first | ((first | refine AW.sreg rfl fun K hK => ?_ | refine run_call _ _ _ ((h2 _ hq).objs [] trivial rfl (by decide) (by simp [go_sem, renOs]) (by simp) (by simp) (by simp [go_sem]) (by simp [go_sem]) (by simp [go_sem]) (by simp [go_sem])) rfl rfl (dstOk_of rfl) rfl rfl rfl ?_ | refine run_call _ _ _ ((isWay4_any).pure rfl rfl _ _) rfl rfl (dstOk_of rfl) rfl rfl rfl ?_); simp only [go_sem, Nat.reduceAdd, Nat.reduceMul, Int.reduceToNat, Nat.reduceLT, Nat.reduceLeDiff, Nat.le_refl, Nat.reduceEqDiff, ↓reduceIte, beq_self_eq_true, bne_self_eq_false, Int.reduceBEq, Int.reduceBNe, or_self, true_or, or_true, Option.map_some, Option.map_none, Nat.reduceSub, Nat.add_zero]) | (refine AW.seq_k fun K hK => ?_) | (refine AW.skip ?_; simp only [Then, InBlock]) | (refine AW.condF rfl (by first | rfl | (simp; omega) | (simp [*]; done) | fail) ?_) | (refine hK _ ?_; clear hK K) | (refine run_callI _ _ _ ((h1).pure rfl (fun _ => rfl) _ _) rfl rfl (dstOk_of rfl) rfl rfl rfl ?_; rintro q hq; (try dsimp only at q); (try dsimp only at hq); simp only [go_sem, Nat.reduceAdd, Nat.reduceMul, Int.reduceToNat, Nat.reduceLT, Nat.reduceLeDiff, Nat.le_refl, Nat.reduceEqDiff, ↓reduceIte, beq_self_eq_true, bne_self_eq_false, Int.reduceBEq, Int.reduceBNe, or_self, true_or, or_true, Option.map_some, Option.map_none, Nat.reduceSub, Nat.add_zero]))
  exact AW.ret ⟨q, hq, Fin.objs [1024] rfl (by simp [go_sem, inI, gI]) ⟨⟨_, rfl, by simp [go_sem, inI, gI]⟩, trivial⟩ (by simp) rfl (by simp [go_sem]) (by simp [go_sem]) rfl⟩
abbrev L6 : List Str := (List.range 6).map pN
abbrev L9 : List Str := L6 ++ [[], [112, 97], [80]]
abbrev H5 : List Str := (List.range 5).map hN
abbrev WdA : List Str := L9 ++ (H5 ++ [[], [104, 97], [72]])
theorem keyA : ∀ s ∈ WdA, KeyO s := by
  have h : WdA.all (fun s => evalsTo Tryz.prog (CS Tryz.prog) 32 [S s] (B (keyB s))) = true := by kernel_rfl
  exact fun s hs => evalsTo_ok CS_ok hmix (List.all_eq_true.1 h s hs)
theorem lenA : ∀ s ∈ WdA, s.length ≤ 1000 := by decide
theorem pers5 : ∀ s ∈ (H5 ++ [[], [104, 97], [72]]), keyB s = true → s ∈ H5 := by decide
theorem paps6 : ∀ s ∈ L9, keyB s = true → s ∈ L6 := by decide
theorem range_sub {a b : Nat} (h : a ≤ b) (f : Nat → Str) (t : List Str) : ∀ s ∈ (List.range a).map f ++ t, s ∈ (List.range b).map f ++ t := by
  intro s hs
  rcases List.mem_append.1 hs with hs | hs
  · obtain ⟨i, hi, rfl⟩ := List.mem_map.1 hs
    exact List.mem_append_left _ (List.mem_map_of_mem (List.mem_range.2 (by have := List.mem_range.1 hi; omega)))
  · exact List.mem_append_right _ hs
/-- The marks that are drawn. -/
def wlM (l : List Int) : List Mk × Int := mrF l (rg l 0 1 6).toNat (rg l 1 1 5).toNat 2
theorem wlM_fin (l : List Int) : (wlM l).1.length ≤ 30 ∧ ∀ m ∈ (wlM l).1, m.1 ∈ L9 ∧ m.2.1 ∈ H5 ++ [[], [104, 97], [72]] := by
  have r1 := rg_range l 0 1 6 (by omega)
  have r2 := rg_range l 1 1 5 (by omega)
  have h := mrF_fin l (rg l 0 1 6).toNat (rg l 1 1 5).toNat 2
  refine ⟨?_, fun m hm => ?_⟩
  · have := Nat.mul_le_mul (show (rg l 0 1 6).toNat ≤ 6 by omega) (show (rg l 1 1 5).toNat ≤ 5 by omega)
    have h1 := h.1
    unfold wlM
    omega
  · have hk := h.2 m hm
    exact ⟨range_sub (by omega) pN _ _ hk.pa, range_sub (by omega) hN _ _ hk.pe⟩
theorem wlM_ok {l : List Int} (g : GoodM (wlM l).1) : MkO (wlM l).1 H5 L6 where
  len := by have := (wlM_fin l).1; omega
  good := g
  hH := by decide
  pe := fun m hm => pers5 _ ((wlM_fin l).2 m hm).2 (g.keys m hm).2
  sh := fun m hm => ⟨lenA _ (List.mem_append_left _ ((wlM_fin l).2 m hm).1), lenA _ (List.mem_append_right _ ((wlM_fin l).2 m hm).2)⟩
  hL := by decide
  pl := fun m hm => paps6 _ ((wlM_fin l).2 m hm).1 (g.keys m hm).1
theorem law_ok (l : List Int) (hl : l.length ≤ 9223372036854775807) : Does Tryz.prog 6 [Ls l] [] (B true) [] := by
  have c1 := range_f l hl 0 1 6 (by omega) (by omega) (by omega) (by omega) (by omega)
  have c2 := range_f l hl 1 1 5 (by omega) (by omega) (by omega) (by omega) (by omega)
  have r1 := rg_range l 0 1 6 (by omega)
  have r2 := rg_range l 1 1 5 (by omega)
  have c3 := marks_f l hl (rg l 0 1 6).toNat (rg l 1 1 5).toNat (by omega) (by omega) 2 (by omega) (by omega)
  have ha := mrF_at l (rg l 0 1 6).toNat (rg l 1 1 5).toNat 2 (by omega) (by omega)
  rw [show (((rg l 0 1 6).toNat : Nat) : Int) = rg l 0 1 6 by omega, show (((rg l 1 1 5).toNat : Nat) : Int) = rg l 1 1 5 by omega] at c3
  change Does _ _ _ _ (.d (.sl ((wlM l).1.map mkD))) [Stm l (wlM l).2] at c3
  change 2 ≤ (wlM l).2 ∧ (wlM l).2 ≤ 2 + 200 at ha
  have hfin := wlM_fin l
  have hmk := @wlM_ok l
  generalize wlM l = z at *
  obtain ⟨ms, pz⟩ := z
  simp only at c3 ha hfin hmk
  generalize rg l 0 1 6 = n1 at *
  generalize rg l 1 1 5 = n2 at *
  have hmr := marksFault_any ms (by omega) fun m hm => ⟨keyA _ (List.mem_append_left _ (hfin.2 m hm).1), keyA _ (List.mem_append_right _ (hfin.2 m hm).2)⟩
  refine Does.of_AW (n := 186) Tryz.func6 rfl rfl rfl fun cx hcx => ?_
  by_cases he : goF (mF mnR) [] ms = 0
  case neg =>
    generalize goF (mF mnR) [] ms = e at *
    have heb : (e != 0) = true := by simpa using he
    repeat' (first | ((first | refine AW.sreg rfl fun K hK => ?_ | refine run_call _ _ _ ((c1).objs [_] ⟨rfl, trivial⟩ rfl (by decide) (by simp [go_sem, renOs]) (by simp) (by simp) (by simp [go_sem]) (by simp [go_sem]) (by simp [go_sem]) (by simp [go_sem])) rfl rfl (dstOk_of rfl) rfl rfl rfl ?_ | refine run_call _ _ _ ((c2).objs [_] ⟨rfl, trivial⟩ rfl (by decide) (by simp [go_sem, renOs]) (by simp) (by simp) (by simp [go_sem]) (by simp [go_sem]) (by simp [go_sem]) (by simp [go_sem])) rfl rfl (dstOk_of rfl) rfl rfl rfl ?_ | refine run_call _ _ _ ((c3).objs [_] ⟨rfl, trivial⟩ rfl (by decide) (by simp [go_sem, renOs]) (by simp) (by simp) (by simp [go_sem]) (by simp [go_sem]) (by simp [go_sem]) (by simp [go_sem])) rfl rfl (dstOk_of rfl) rfl rfl rfl ?_ | refine run_call _ _ _ ((hmr).pure rfl rfl _ _) rfl rfl (dstOk_of rfl) rfl rfl rfl ?_ | refine run_call _ _ _ ((scores_ok).pure rfl rfl _ _) rfl rfl (dstOk_of rfl) rfl rfl rfl ?_); simp only [go_sem, Nat.reduceAdd, Nat.reduceMul, Int.reduceToNat, Nat.reduceLT, Nat.reduceLeDiff, Nat.le_refl, Nat.reduceEqDiff, ↓reduceIte, beq_self_eq_true, bne_self_eq_false, Int.reduceBEq, Int.reduceBNe, or_self, true_or, or_true, Option.map_some, Option.map_none, heb]) | (refine AW.seq_k fun K hK => ?_) | (refine AW.condT rfl (by first | rfl | (simp; omega) | (simp [*]; done) | fail) ?_) | (refine hK _ ?_; clear hK K) | (refine AW.ret (Fin.data rfl (by first | (simp only [go_sem]; done) | (simp [go_sem, *]; done) | (simp [go_sem]; omega) | rfl) rfl)))
  have hok := hmk (goodR he)
  rw [he] at hmr
  have hnd : (pps ms).Nodup := rise_nodupS (onc_rise _)
  have hp6 : (pps ms).length ≤ 6 := by
    have h1 := hnd.length_le_of_subset (l₂ := L6) fun p hp => by
      unfold pps at hp
      rw [onc_mem] at hp
      obtain ⟨m, hm, rfl⟩ := List.mem_map.1 hp
      exact hok.pl m hm
    exact h1
  have hpap : Does Tryz.prog 20 [.d (.sl (ms.map mkD))] [] (.tup [.d (.sl ((pps ms).map D.str)), I 0]) [] :=
    (DoesI.weaken (papersOf_any ms H5 L6 hok) (q := fun _ : Unit => True) (y := fun _ => .tup [.d (.sl ((pps ms).map D.str)), I 0]) (os2 := fun _ => []) fun q hq => ⟨(), trivial, by rw [hq.eqP], rfl⟩).toU
  have hord : Does Tryz.prog 15 [.d (.sl (ms.map mkD)), I 4] [] (.tup [.slr 0 0 (pps ms).length, I 0]) [SWk (ordP (pps ms) (wnV ms))] :=
    (DoesI.weaken (Order4_any ms H5 L6 hok) (q := fun _ : Unit => True) (y := fun _ => .tup [.slr 0 0 (pps ms).length, I 0]) (os2 := fun _ => [SWk (ordP (pps ms) (wnV ms))]) fun q hq => ⟨(), trivial, by rw [hq.eqP], by rw [hq.eqP]⟩).toU
  have hol : (ordP (pps ms) (wnV ms)).length = (pps ms).length := (ordP_perm _ _).length_eq
  have hstr := strongest_any ms H5 L6 hok hp6
  have hlea := least_any ms H5 L6 hok hp6
  have hwf := fun p hp hb => wins_first (ms := ms) (p := p) hp hb rfl
  have hAo := fun (n : Int) (hb3 : ∀ o', o'.Perm (pps ms) → n ≤ agC (wnF ms) o') (o : List Str) (ho : o.length ≤ 10) => DoesI.weaken (against_any ms H5 L6 hok hp6 o ho) (q := fun q : Int × Int => q.2 = 0 → ¬ q.1 < n) (y := fun q => .tup [I q.1, I q.2]) (os2 := fun _ => []) fun q hq => ⟨q, fun h0 => by
    have h1 := hq.1 h0
    have h2 := hb3 o h1.1
    omega, rfl, rfl⟩
  have hAb := fun (n : Int) (b : List Str) (hb1 : b.Perm (pps ms)) (hb2 : agC (wnF ms) b = n) => DoesI.toU (DoesI.weaken (against_any ms H5 L6 hok hp6 b (by have := hb1.length_eq; omega)) (q := fun _ : Unit => True) (y := fun _ => .tup [I n, I 0]) (os2 := fun _ => []) fun q hq => ⟨(), trivial, by
    have h1 := hq.2 hb1
    have h2 := hq.1 h1
    obtain ⟨q1, q2⟩ := q
    dsimp only at h1 h2 ⊢
    rw [h1, h2.2, hb2], rfl⟩)
  have hpo := paperOrderI l hl pz (by omega) (by omega) ms (by omega) hp6
  generalize ordP (pps ms) (wnV ms) = O1 at *
  by_cases hp0 : (pps ms).length = 0
  case pos =>
    repeat' (first | ((first | refine AW.sreg rfl fun K hK => ?_ | refine run_call _ _ _ ((c1).objs [_] ⟨rfl, trivial⟩ rfl (by decide) (by simp [go_sem, renOs]) (by simp) (by simp) (by simp [go_sem]) (by simp [go_sem]) (by simp [go_sem]) (by simp [go_sem])) rfl rfl (dstOk_of rfl) rfl rfl rfl ?_ | refine run_call _ _ _ ((c2).objs [_] ⟨rfl, trivial⟩ rfl (by decide) (by simp [go_sem, renOs]) (by simp) (by simp) (by simp [go_sem]) (by simp [go_sem]) (by simp [go_sem]) (by simp [go_sem])) rfl rfl (dstOk_of rfl) rfl rfl rfl ?_ | refine run_call _ _ _ ((c3).objs [_] ⟨rfl, trivial⟩ rfl (by decide) (by simp [go_sem, renOs]) (by simp) (by simp) (by simp [go_sem]) (by simp [go_sem]) (by simp [go_sem]) (by simp [go_sem])) rfl rfl (dstOk_of rfl) rfl rfl rfl ?_ | refine run_call _ _ _ ((hmr).pure rfl rfl _ _) rfl rfl (dstOk_of rfl) rfl rfl rfl ?_ | refine run_call _ _ _ ((hpap).pure rfl rfl _ _) rfl rfl (dstOk_of rfl) rfl rfl rfl ?_ | refine run_call _ _ _ ((hord).objs [] trivial rfl (by decide) (by simp [go_sem, renOs]) (by simp) (by simp) (by simp [go_sem]) (by simp [go_sem]) (by simp [go_sem]) (by simp [go_sem])) rfl rfl (dstOk_of rfl) rfl rfl rfl ?_ | refine run_call _ _ _ ((scores_ok).pure rfl rfl _ _) rfl rfl (dstOk_of rfl) rfl rfl rfl ?_); simp only [go_sem, Nat.reduceAdd, Nat.reduceMul, Int.reduceToNat, Nat.reduceLT, Nat.reduceLeDiff, Nat.le_refl, Nat.reduceEqDiff, ↓reduceIte, beq_self_eq_true, bne_self_eq_false, Int.reduceBEq, Int.reduceBNe, or_self, true_or, or_true, Option.map_some, Option.map_none, Nat.reduceSub, Nat.add_zero, List.length_map, hp0]) | (refine AW.seq_k fun K hK => ?_) | (refine AW.skip ?_; simp only [Then, InBlock]) | (refine AW.condT rfl (by first | rfl | (simp; omega) | (simp [*]; done) | fail) ?_) | (refine AW.condF rfl (by first | rfl | (simp; omega) | (simp [*]; done) | fail) ?_) | (refine hK _ ?_; clear hK K) | (refine stepB_split (fun h => ?_) (fun h => ?_) <;> (have hb0 := h) <;> (try simp only [Bool.not_eq_true', Bool.not_eq_false'] at hb0) <;> (try simp only [decide_eq_true_eq, decide_eq_false_iff_not, Bool.not_eq_true', Bool.not_eq_false', Bool.not_eq_eq_eq_not, Bool.not_true, Bool.not_false, beq_iff_eq, bne_iff_ne, beq_eq_false_iff_ne, ne_eq, Bool.and_eq_true, Bool.or_eq_true, Bool.or_eq_false_iff] at h) <;> simp only [go_sem, Nat.reduceAdd, Nat.reduceMul, Int.reduceToNat, Nat.reduceLT, Nat.reduceLeDiff, Nat.le_refl, Nat.reduceEqDiff, ↓reduceIte, beq_self_eq_true, bne_self_eq_false, Int.reduceBEq, Int.reduceBNe, or_self, true_or, or_true, Option.map_some, Option.map_none, hb0, h, decide_true, decide_false, Nat.reduceSub, Nat.add_zero, List.length_map, hp0] <;> (try clear hb0)) | (refine run_callI _ _ _ ((hstr).pure rfl (fun _ => rfl) _ _) rfl rfl (dstOk_of rfl) rfl rfl rfl ?_; rintro a ha1; (try dsimp only at a); (try dsimp only at ha1); simp only [go_sem, Nat.reduceAdd, Nat.reduceMul, Int.reduceToNat, Nat.reduceLT, Nat.reduceLeDiff, Nat.le_refl, Nat.reduceEqDiff, ↓reduceIte, beq_self_eq_true, bne_self_eq_false, Int.reduceBEq, Int.reduceBNe, or_self, true_or, or_true, Option.map_some, Option.map_none, Nat.reduceSub, Nat.add_zero, List.length_map, hp0]) | (refine run_callI _ _ _ ((hlea).pure rfl (fun _ => rfl) _ _) rfl rfl (dstOk_of rfl) rfl rfl rfl ?_; rintro ⟨b, n⟩ ⟨hb1, hb2, hb3⟩; (try dsimp only at b); (try dsimp only at n); (try dsimp only at hb1); (try dsimp only at hb2); (try dsimp only at hb3); simp only [go_sem, Nat.reduceAdd, Nat.reduceMul, Int.reduceToNat, Nat.reduceLT, Nat.reduceLeDiff, Nat.le_refl, Nat.reduceEqDiff, ↓reduceIte, beq_self_eq_true, bne_self_eq_false, Int.reduceBEq, Int.reduceBNe, or_self, true_or, or_true, Option.map_some, Option.map_none, Nat.reduceSub, Nat.add_zero, List.length_map, hp0]) | (refine AW.ret (Fin.data rfl (by first | (simp only [go_sem]; done) | (simp [go_sem, *]; done) | (simp [go_sem]; omega) | rfl) rfl)))
  have hcb : ∀ (a b : Int), (a != b) = true ↔ a ≠ b := fun a b => by simp
  repeat' (first | ((first | refine AW.sreg rfl fun K hK => ?_ | refine run_call _ _ _ ((c1).objs [_] ⟨rfl, trivial⟩ rfl (by decide) (by simp [go_sem, renOs]) (by simp) (by simp) (by simp [go_sem]) (by simp [go_sem]) (by simp [go_sem]) (by simp [go_sem])) rfl rfl (dstOk_of rfl) rfl rfl rfl ?_ | refine run_call _ _ _ ((c2).objs [_] ⟨rfl, trivial⟩ rfl (by decide) (by simp [go_sem, renOs]) (by simp) (by simp) (by simp [go_sem]) (by simp [go_sem]) (by simp [go_sem]) (by simp [go_sem])) rfl rfl (dstOk_of rfl) rfl rfl rfl ?_ | refine run_call _ _ _ ((c3).objs [_] ⟨rfl, trivial⟩ rfl (by decide) (by simp [go_sem, renOs]) (by simp) (by simp) (by simp [go_sem]) (by simp [go_sem]) (by simp [go_sem]) (by simp [go_sem])) rfl rfl (dstOk_of rfl) rfl rfl rfl ?_ | refine run_call _ _ _ ((hmr).pure rfl rfl _ _) rfl rfl (dstOk_of rfl) rfl rfl rfl ?_ | refine run_call _ _ _ ((hpap).pure rfl rfl _ _) rfl rfl (dstOk_of rfl) rfl rfl rfl ?_ | refine run_call _ _ _ ((hord).objs [] trivial rfl (by decide) (by simp [go_sem, renOs]) (by simp) (by simp) (by simp [go_sem]) (by simp [go_sem]) (by simp [go_sem]) (by simp [go_sem])) rfl rfl (dstOk_of rfl) rfl rfl rfl ?_ | refine run_call _ _ _ ((hAb n b hb1 hb2).pure rfl rfl _ _) rfl rfl (dstOk_of rfl) rfl rfl rfl ?_); simp only [go_sem, Nat.reduceAdd, Nat.reduceMul, Int.reduceToNat, Nat.reduceLT, Nat.reduceLeDiff, Nat.le_refl, Nat.reduceEqDiff, ↓reduceIte, beq_self_eq_true, bne_self_eq_false, Int.reduceBEq, Int.reduceBNe, or_self, true_or, or_true, Option.map_some, Option.map_none, Nat.reduceSub, Nat.add_zero, List.length_map, hp0]) | (refine AW.seq_k fun K hK => ?_) | (refine AW.block ?_) | (refine AW.skip ?_; simp only [Then, InBlock]) | (refine AW.condF rfl (by first | rfl | (simp; omega) | (simp [*]; done) | fail) ?_) | (refine hK _ ?_; clear hK K) | (refine stepB_split (fun h => ?_) (fun h => ?_) <;> (have hb0 := h) <;> (try simp only [Bool.not_eq_true', Bool.not_eq_false'] at hb0) <;> (try simp only [decide_eq_true_eq, decide_eq_false_iff_not, Bool.not_eq_true', Bool.not_eq_false', Bool.not_eq_eq_eq_not, Bool.not_true, Bool.not_false, beq_iff_eq, bne_iff_ne, beq_eq_false_iff_ne, ne_eq, Bool.and_eq_true, Bool.or_eq_true, Bool.or_eq_false_iff] at h) <;> simp only [go_sem, Nat.reduceAdd, Nat.reduceMul, Int.reduceToNat, Nat.reduceLT, Nat.reduceLeDiff, Nat.le_refl, Nat.reduceEqDiff, ↓reduceIte, beq_self_eq_true, bne_self_eq_false, Int.reduceBEq, Int.reduceBNe, or_self, true_or, or_true, Option.map_some, Option.map_none, hb0, h, decide_true, decide_false, Nat.reduceSub, Nat.add_zero, List.length_map, hp0] <;> (try clear hb0)) | (refine run_callI _ _ _ ((hstr).pure rfl (fun _ => rfl) _ _) rfl rfl (dstOk_of rfl) rfl rfl rfl ?_; rintro a ha1; (try dsimp only at a); (try dsimp only at ha1); simp only [go_sem, Nat.reduceAdd, Nat.reduceMul, Int.reduceToNat, Nat.reduceLT, Nat.reduceLeDiff, Nat.le_refl, Nat.reduceEqDiff, ↓reduceIte, beq_self_eq_true, bne_self_eq_false, Int.reduceBEq, Int.reduceBNe, or_self, true_or, or_true, Option.map_some, Option.map_none, Nat.reduceSub, Nat.add_zero, List.length_map, hp0]) | (refine run_callI _ _ _ ((hlea).pure rfl (fun _ => rfl) _ _) rfl rfl (dstOk_of rfl) rfl rfl rfl ?_; rintro ⟨b, n⟩ ⟨hb1, hb2, hb3⟩; (try dsimp only at b); (try dsimp only at n); (try dsimp only at hb1); (try dsimp only at hb2); (try dsimp only at hb3); simp only [go_sem, Nat.reduceAdd, Nat.reduceMul, Int.reduceToNat, Nat.reduceLT, Nat.reduceLeDiff, Nat.le_refl, Nat.reduceEqDiff, ↓reduceIte, beq_self_eq_true, bne_self_eq_false, Int.reduceBEq, Int.reduceBNe, or_self, true_or, or_true, Option.map_some, Option.map_none, Nat.reduceSub, Nat.add_zero, List.length_map, hp0]) | (refine run_callI _ _ _ ((hpo).objs [_] ⟨rfl, trivial⟩ rfl (by decide) (by simp [go_sem, renOs]) (by simp [go_sem]) (by simp [go_sem]) (fun j hj => ⟨by simp, by simp, by simp [go_sem], by simp [go_sem]⟩)) rfl rfl (dstOk_of rfl) rfl rfl rfl ?_; rintro ⟨o, pz2⟩ ⟨o1, o2, o3⟩; (try dsimp only at o); (try dsimp only at pz2); (try dsimp only at o1); (try dsimp only at o2); (try dsimp only at o3); simp only [go_sem, Nat.reduceAdd, Nat.reduceMul, Int.reduceToNat, Nat.reduceLT, Nat.reduceLeDiff, Nat.le_refl, Nat.reduceEqDiff, ↓reduceIte, beq_self_eq_true, bne_self_eq_false, Int.reduceBEq, Int.reduceBNe, or_self, true_or, or_true, Option.map_some, Option.map_none, Nat.reduceSub, Nat.add_zero, List.length_map, hp0]) | (refine run_callI _ _ _ ((hAo n hb3 o o1).pure rfl (fun _ => rfl) _ _) rfl rfl (dstOk_of rfl) rfl rfl rfl ?_; rintro ⟨k1, e1⟩ hk1; (try dsimp only at k1); (try dsimp only at e1); (try dsimp only at hk1); simp only [go_sem, Nat.reduceAdd, Nat.reduceMul, Int.reduceToNat, Nat.reduceLT, Nat.reduceLeDiff, Nat.le_refl, Nat.reduceEqDiff, ↓reduceIte, beq_self_eq_true, bne_self_eq_false, Int.reduceBEq, Int.reduceBNe, or_self, true_or, or_true, Option.map_some, Option.map_none, Nat.reduceSub, Nat.add_zero, List.length_map, hp0]))
  all_goals
    clear hAo hAb hpo hpap hord hstr hlea c1 c2 c3 hmr hk1
    have hbf := fun p hp hb => cond_first (w := wnF ms) (p := p) hnd hb1 (fun o' ho' => by rw [hb2]; exact hb3 o' ho') hp hb
    have htk : List.take (pps ms).length (dv (O1.map D.str)) = dv (O1.map D.str) := List.take_of_length_le (by simp [dv, hol])
    refine AW.weak (?wk : Weak cx _ (⟨186, [(4, .d (.sl (ms.map mkD))), (5, .d (.sl ((pps ms).map D.str))), (7, .d (.sl (a.map D.str))), (9, .d (.sl (b.map D.str))), (12, .d (.sl (O1.map D.str))), (120, .d (.sl ((pps ms).map D.str))), (121, I (pps ms).length), (122, I 0)], [], 60⟩ : St)) ?_
    case wk => exact (Weak.auto hcx rfl rfl (Nat.le_of_ble_eq_true rfl) (by simp [go_sem, gL, kL, renOf, V.obj, lk, Nat.blt, Nat.ble, List.map_append, dv_push, htk, hol, toDL_dvF]) (by simp [go_sem, gL, kL, renOf, V.obj, lk, Nat.blt, Nat.ble, List.map_append, dv_push, htk, hol, toDL_dvF]) (by first | exact pk0 | exact pk1 ⟨_, rfl⟩ | exact pk2 ⟨_, rfl⟩ ⟨_, rfl⟩ | exact pk3 ⟨_, rfl⟩ ⟨_, rfl⟩ ⟨_, rfl⟩ | exact pk4 ⟨_, rfl⟩ ⟨_, rfl⟩ ⟨_, rfl⟩ ⟨_, rfl⟩) (by simp [go_sem, gL, kL, lk, renOf, V.obj, Nat.blt, Nat.ble, htk, hol, toDL_dvF]))
    clear htk hb1 hb2 hb3
    refine AW.loopF (ι := Nat) [4, 5, 7, 9, 12, 120, 121] (fun p => [(122, I p)]) (fun p => []) 60 (fun p => p ≤ (pps ms).length) (fun p => (pps ms).length - p) 0 (Nat.zero_le _) (Weak.auto hcx rfl rfl (Nat.le_of_ble_eq_true rfl) (by simp [go_sem, gL, kL, renOf, V.obj, lk, Nat.blt, Nat.ble, List.map_append, dv_push]) (by simp [go_sem, gL, kL, renOf, V.obj, lk, Nat.blt, Nat.ble, List.map_append, dv_push]) (by first | exact pk0 | exact pk1 ⟨_, rfl⟩ | exact pk2 ⟨_, rfl⟩ ⟨_, rfl⟩ | exact pk3 ⟨_, rfl⟩ ⟨_, rfl⟩ ⟨_, rfl⟩ | exact pk4 ⟨_, rfl⟩ ⟨_, rfl⟩ ⟨_, rfl⟩ ⟨_, rfl⟩) (by simp [go_sem, gL, kL, lk, renOf, V.obj, Nat.blt, Nat.ble])) ?_; simp only [St.at_nil, St.at_cons, lk, Nat.reduceEqDiff, ↓reduceIte, Option.getD_some, Option.getD_none, List.cons_append, List.nil_append, List.append_nil]
    intro i h1
    by_cases hi : i < (pps ms).length
    · obtain ⟨x, hx, hxm, -⟩ := get_some (l := pps ms) (i := i) hi
      have hget : ((pps ms).map D.str)[i]? = some (.str x) := by simp only [List.getElem?_map, hx, Option.map_some]
      repeat' (first | (refine AW.sreg rfl fun K hK => ?_; simp only [go_sem, Nat.reduceAdd, Nat.reduceMul, Int.reduceToNat, Nat.reduceLT, Nat.reduceLeDiff, Nat.le_refl, Nat.reduceEqDiff, ↓reduceIte, beq_self_eq_true, bne_self_eq_false, Int.reduceBEq, Int.reduceBNe, or_self, true_or, or_true, Option.map_some, Option.map_none, List.length_map, hget]) | (refine AW.seq_k fun K hK => ?_) | (refine AW.block ?_) | (refine AW.skip ?_; simp only [Then, InBlock]) | (refine AW.condT rfl (by first | rfl | (simp; omega) | (simp [*]; done) | fail) ?_) | (refine hK _ ?_; clear hK K) | (with_reducible refine And.intro ?_ ?_; first | omega | assumption | (focus (decide)) | (focus (simp; done)) | (focus (simp; omega)) | (focus (constructor <;> omega)) | fail))
      refine AW.loopF (ι := Nat × Bool) [4, 5, 7, 9, 12, 20, 120, 121, 122, 126, 127] (fun p => [(21, B p.2), (128, I p.1)]) (fun p => []) 70 (fun p => p.1 ≤ (pps ms).length ∧ (p.2 = true → ∀ y ∈ (pps ms).take p.1, y ≠ x → wnF ms y x < wnF ms x y)) (fun p => (pps ms).length - p.1) (0, true) ⟨Nat.zero_le _, by simp⟩ (Weak.auto hcx rfl rfl (Nat.le_of_ble_eq_true rfl) (by simp [go_sem, gL, kL, renOf, V.obj, lk, Nat.blt, Nat.ble, List.map_append, dv_push]) (by simp [go_sem, gL, kL, renOf, V.obj, lk, Nat.blt, Nat.ble, List.map_append, dv_push]) (by first | exact pk0 | exact pk1 ⟨_, rfl⟩ | exact pk2 ⟨_, rfl⟩ ⟨_, rfl⟩ | exact pk3 ⟨_, rfl⟩ ⟨_, rfl⟩ ⟨_, rfl⟩ | exact pk4 ⟨_, rfl⟩ ⟨_, rfl⟩ ⟨_, rfl⟩ ⟨_, rfl⟩) (by simp [go_sem, gL, kL, lk, renOf, V.obj, Nat.blt, Nat.ble])) ?_; simp only [St.at_nil, St.at_cons, lk, Nat.reduceEqDiff, ↓reduceIte, Option.getD_some, Option.getD_none, List.cons_append, List.nil_append, List.append_nil]
      rintro ⟨k, bt⟩ ⟨k1, k2⟩
      dsimp only at k1 k2 ⊢
      by_cases hk : k < (pps ms).length
      · obtain ⟨y, hy, hym, -⟩ := get_some (l := pps ms) (i := k) hk
        have hgy : ((pps ms).map D.str)[k]? = some (.str y) := by simp only [List.getElem?_map, hy, Option.map_some]
        have hsn := take_snoc hy
        by_cases hxy : x = y
        · have hxb : (x == y) = true := by simp [hxy]
          repeat' (first | ((first | refine AW.sreg rfl fun K hK => ?_ | refine AW.reg rfl ?_); simp only [go_sem, Nat.reduceAdd, Nat.reduceMul, Int.reduceToNat, Nat.reduceLT, Nat.reduceLeDiff, Nat.le_refl, Nat.reduceEqDiff, ↓reduceIte, beq_self_eq_true, bne_self_eq_false, Int.reduceBEq, Int.reduceBNe, or_self, true_or, or_true, Option.map_some, Option.map_none, List.length_map, hgy, hxb]) | (refine AW.seq_k fun K hK => ?_) | (refine AW.block ?_) | (refine AW.skip ?_; simp only [Then, InBlock]) | (refine AW.exit ?_; simp only [go_sem, ↓reduceIte]) | (refine AW.condT rfl (by first | rfl | (simp; omega) | (simp [*]; done) | fail) ?_) | (refine hK _ ?_; clear hK K) | (clear hK K; refine hK _ ?_; clear hK K) | (with_reducible refine And.intro ?_ ?_; first | omega | assumption | (focus (decide)) | (focus (simp; done)) | (focus (simp; omega)) | (focus (constructor <;> omega)) | fail))
          refine ⟨(k + 1, bt), ⟨hk, fun hb z hz hne => ?_⟩, by simp only; omega, (Weak.auto hcx rfl rfl (Nat.le_of_ble_eq_true rfl) (by simp [go_sem, gL, kL, renOf, V.obj, lk, Nat.blt, Nat.ble, List.map_append, dv_push]) (by simp [go_sem, gL, kL, renOf, V.obj, lk, Nat.blt, Nat.ble, List.map_append, dv_push]) (by first | exact pk0 | exact pk1 ⟨_, rfl⟩ | exact pk2 ⟨_, rfl⟩ ⟨_, rfl⟩ | exact pk3 ⟨_, rfl⟩ ⟨_, rfl⟩ ⟨_, rfl⟩ | exact pk4 ⟨_, rfl⟩ ⟨_, rfl⟩ ⟨_, rfl⟩ ⟨_, rfl⟩) (by simp [go_sem, gL, kL, lk, renOf, V.obj, Nat.blt, Nat.ble]))⟩
          rw [hsn] at hz
          rcases List.mem_append.1 hz with hz | hz
          · exact k2 hb z hz hne
          · obtain rfl := List.mem_singleton.1 hz
            exact absurd hxy.symm hne
        · have hxb : (x == y) = false := by simp [hxy]
          have w1 := Wins_any ms H5 L6 hok x y hxm hym hxy
          have w2 := Wins_any ms H5 L6 hok y x hym hxm (Ne.symm hxy)
          have hnx : ∀ bt' : Bool, (bt' = true → bt = true ∧ wnF ms y x < wnF ms x y) → (bt' = true → ∀ z ∈ (pps ms).take (k + 1), z ≠ x → wnF ms z x < wnF ms x z) := fun bt' h hb z hz hne => by
            rw [hsn] at hz
            rcases List.mem_append.1 hz with hz | hz
            · exact k2 (h hb).1 z hz hne
            · obtain rfl := List.mem_singleton.1 hz
              exact (h hb).2
          cases bt with
          | false =>
            repeat' (first | ((first | refine AW.sreg rfl fun K hK => ?_ | refine AW.reg rfl ?_ | refine run_call _ _ _ ((w1).pure rfl rfl _ _) rfl rfl (dstOk_of rfl) rfl rfl rfl ?_ | refine run_call _ _ _ ((w2).pure rfl rfl _ _) rfl rfl (dstOk_of rfl) rfl rfl rfl ?_); simp only [go_sem, Nat.reduceAdd, Nat.reduceMul, Int.reduceToNat, Nat.reduceLT, Nat.reduceLeDiff, Nat.le_refl, Nat.reduceEqDiff, ↓reduceIte, beq_self_eq_true, bne_self_eq_false, Int.reduceBEq, Int.reduceBNe, or_self, true_or, or_true, Option.map_some, Option.map_none, List.length_map, hgy, hxb]) | (refine AW.seq_k fun K hK => ?_) | (refine AW.block ?_) | (refine AW.skip ?_; simp only [Then, InBlock]) | (refine AW.condT rfl (by first | rfl | (simp; omega) | (simp [*]; done) | fail) ?_) | (refine AW.condF rfl (by first | rfl | (simp; omega) | (simp [*]; done) | fail) ?_) | (refine hK _ ?_; clear hK K) | (with_reducible refine And.intro ?_ ?_; first | omega | assumption | (focus (decide)) | (focus (simp; done)) | (focus (simp; omega)) | (focus (constructor <;> omega)) | fail))
            exact ⟨(k + 1, false), ⟨hk, fun hb => absurd hb (by simp)⟩, by simp only; omega, (Weak.auto hcx rfl rfl (Nat.le_of_ble_eq_true rfl) (by simp [go_sem, gL, kL, renOf, V.obj, lk, Nat.blt, Nat.ble, List.map_append, dv_push]) (by simp [go_sem, gL, kL, renOf, V.obj, lk, Nat.blt, Nat.ble, List.map_append, dv_push]) (by first | exact pk0 | exact pk1 ⟨_, rfl⟩ | exact pk2 ⟨_, rfl⟩ ⟨_, rfl⟩ | exact pk3 ⟨_, rfl⟩ ⟨_, rfl⟩ ⟨_, rfl⟩ | exact pk4 ⟨_, rfl⟩ ⟨_, rfl⟩ ⟨_, rfl⟩ ⟨_, rfl⟩) (by simp [go_sem, gL, kL, lk, renOf, V.obj, Nat.blt, Nat.ble]))⟩
          | true =>
            by_cases hlt : wnF ms y x < wnF ms x y
            · repeat' (first | ((first | refine AW.sreg rfl fun K hK => ?_ | refine AW.reg rfl ?_ | refine run_call _ _ _ ((w1).pure rfl rfl _ _) rfl rfl (dstOk_of rfl) rfl rfl rfl ?_ | refine run_call _ _ _ ((w2).pure rfl rfl _ _) rfl rfl (dstOk_of rfl) rfl rfl rfl ?_); simp only [go_sem, Nat.reduceAdd, Nat.reduceMul, Int.reduceToNat, Nat.reduceLT, Nat.reduceLeDiff, Nat.le_refl, Nat.reduceEqDiff, ↓reduceIte, beq_self_eq_true, bne_self_eq_false, Int.reduceBEq, Int.reduceBNe, or_self, true_or, or_true, Option.map_some, Option.map_none, List.length_map, hgy, hxb, hlt]) | (refine AW.seq_k fun K hK => ?_) | (refine AW.block ?_) | (refine AW.skip ?_; simp only [Then, InBlock]) | (refine AW.condT rfl (by first | rfl | (simp; omega) | (simp [*]; done) | fail) ?_) | (refine AW.condF rfl (by first | rfl | (simp; omega) | (simp [*]; done) | fail) ?_) | (refine hK _ ?_; clear hK K) | (with_reducible refine And.intro ?_ ?_; first | omega | assumption | (focus (decide)) | (focus (simp; done)) | (focus (simp; omega)) | (focus (constructor <;> omega)) | fail))
              exact ⟨(k + 1, true), ⟨hk, hnx true fun _ => ⟨rfl, hlt⟩⟩, by simp only; omega, (Weak.auto hcx rfl rfl (Nat.le_of_ble_eq_true rfl) (by simp [go_sem, gL, kL, renOf, V.obj, lk, Nat.blt, Nat.ble, List.map_append, dv_push]) (by simp [go_sem, gL, kL, renOf, V.obj, lk, Nat.blt, Nat.ble, List.map_append, dv_push]) (by first | exact pk0 | exact pk1 ⟨_, rfl⟩ | exact pk2 ⟨_, rfl⟩ ⟨_, rfl⟩ | exact pk3 ⟨_, rfl⟩ ⟨_, rfl⟩ ⟨_, rfl⟩ | exact pk4 ⟨_, rfl⟩ ⟨_, rfl⟩ ⟨_, rfl⟩ ⟨_, rfl⟩) (by simp [go_sem, gL, kL, lk, renOf, V.obj, Nat.blt, Nat.ble]))⟩
            · repeat' (first | ((first | refine AW.sreg rfl fun K hK => ?_ | refine AW.reg rfl ?_ | refine run_call _ _ _ ((w1).pure rfl rfl _ _) rfl rfl (dstOk_of rfl) rfl rfl rfl ?_ | refine run_call _ _ _ ((w2).pure rfl rfl _ _) rfl rfl (dstOk_of rfl) rfl rfl rfl ?_); simp only [go_sem, Nat.reduceAdd, Nat.reduceMul, Int.reduceToNat, Nat.reduceLT, Nat.reduceLeDiff, Nat.le_refl, Nat.reduceEqDiff, ↓reduceIte, beq_self_eq_true, bne_self_eq_false, Int.reduceBEq, Int.reduceBNe, or_self, true_or, or_true, Option.map_some, Option.map_none, List.length_map, hgy, hxb, hlt]) | (refine AW.seq_k fun K hK => ?_) | (refine AW.block ?_) | (refine AW.skip ?_; simp only [Then, InBlock]) | (refine AW.condT rfl (by first | rfl | (simp; omega) | (simp [*]; done) | fail) ?_) | (refine AW.condF rfl (by first | rfl | (simp; omega) | (simp [*]; done) | fail) ?_) | (refine hK _ ?_; clear hK K) | (with_reducible refine And.intro ?_ ?_; first | omega | assumption | (focus (decide)) | (focus (simp; done)) | (focus (simp; omega)) | (focus (constructor <;> omega)) | fail))
              exact ⟨(k + 1, false), ⟨hk, fun hb => absurd hb (by simp)⟩, by simp only; omega, (Weak.auto hcx rfl rfl (Nat.le_of_ble_eq_true rfl) (by simp [go_sem, gL, kL, renOf, V.obj, lk, Nat.blt, Nat.ble, List.map_append, dv_push]) (by simp [go_sem, gL, kL, renOf, V.obj, lk, Nat.blt, Nat.ble, List.map_append, dv_push]) (by first | exact pk0 | exact pk1 ⟨_, rfl⟩ | exact pk2 ⟨_, rfl⟩ ⟨_, rfl⟩ | exact pk3 ⟨_, rfl⟩ ⟨_, rfl⟩ ⟨_, rfl⟩ | exact pk4 ⟨_, rfl⟩ ⟨_, rfl⟩ ⟨_, rfl⟩ ⟨_, rfl⟩) (by simp [go_sem, gL, kL, lk, renOf, V.obj, Nat.blt, Nat.ble]))⟩
      · obtain rfl : k = (pps ms).length := by omega
        rw [List.take_length] at k2
        cases bt with
        | false =>
          repeat' (first | ((first | refine AW.sreg rfl fun K hK => ?_ | refine AW.reg rfl ?_); simp only [go_sem, Nat.reduceAdd, Nat.reduceMul, Int.reduceToNat, Nat.reduceLT, Nat.reduceLeDiff, Nat.le_refl, Nat.reduceEqDiff, ↓reduceIte, beq_self_eq_true, bne_self_eq_false, Int.reduceBEq, Int.reduceBNe, or_self, true_or, or_true, Option.map_some, Option.map_none, List.length_map]) | (refine AW.seq_k fun K hK => ?_) | (refine AW.skip ?_; simp only [Then, InBlock]) | (refine AW.exit ?_; simp only [go_sem, ↓reduceIte]) | (refine AW.condF rfl (by first | rfl | (simp; omega) | (simp [*]; done) | fail) ?_) | (refine hK _ ?_; clear hK K) | (clear hK K; refine hK _ ?_; clear hK K) | (with_reducible refine And.intro ?_ ?_; first | omega | assumption | (focus (decide)) | (focus (simp; done)) | (focus (simp; omega)) | (focus (constructor <;> omega)) | fail))
          exact ⟨i + 1, hi, by omega, (Weak.auto hcx rfl rfl (Nat.le_of_ble_eq_true rfl) (by simp [go_sem, gL, kL, renOf, V.obj, lk, Nat.blt, Nat.ble, List.map_append, dv_push]) (by simp [go_sem, gL, kL, renOf, V.obj, lk, Nat.blt, Nat.ble, List.map_append, dv_push]) (by first | exact pk0 | exact pk1 ⟨_, rfl⟩ | exact pk2 ⟨_, rfl⟩ ⟨_, rfl⟩ | exact pk3 ⟨_, rfl⟩ ⟨_, rfl⟩ ⟨_, rfl⟩ | exact pk4 ⟨_, rfl⟩ ⟨_, rfl⟩ ⟨_, rfl⟩ ⟨_, rfl⟩) (by simp [go_sem, gL, kL, lk, renOf, V.obj, Nat.blt, Nat.ble]))⟩
        | true =>
          have k2 := k2 rfl
          obtain ⟨ra, rfl⟩ := ha1 x hxm k2
          obtain ⟨rb, rfl⟩ := hbf x hxm k2
          obtain ⟨rc, rfl⟩ := hwf x hxm k2
          have hxx : (x == x) = true := by simp
          repeat' (first | ((first | refine AW.sreg rfl fun K hK => ?_ | refine AW.reg rfl ?_); simp only [go_sem, Nat.reduceAdd, Nat.reduceMul, Int.reduceToNat, Nat.reduceLT, Nat.reduceLeDiff, Nat.le_refl, Nat.reduceEqDiff, ↓reduceIte, beq_self_eq_true, bne_self_eq_false, Int.reduceBEq, Int.reduceBNe, or_self, true_or, or_true, Option.map_some, Option.map_none, List.length_map, List.map_cons, List.length_cons, List.getElem?_cons_zero, hxx]) | (refine AW.seq_k fun K hK => ?_) | (refine AW.skip ?_; simp only [Then, InBlock]) | (refine AW.exit ?_; simp only [go_sem, ↓reduceIte]) | (refine AW.condF rfl (by first | rfl | (simp; omega) | (simp [*]; done) | fail) ?_) | (refine hK _ ?_; clear hK K) | (clear hK K; refine hK _ ?_; clear hK K) | (with_reducible refine And.intro ?_ ?_; first | omega | assumption | (focus (decide)) | (focus (simp; done)) | (focus (simp; omega)) | (focus (constructor <;> omega)) | fail))
          exact ⟨i + 1, hi, by omega, (Weak.auto hcx rfl rfl (Nat.le_of_ble_eq_true rfl) (by simp [go_sem, gL, kL, renOf, V.obj, lk, Nat.blt, Nat.ble, List.map_append, dv_push]) (by simp [go_sem, gL, kL, renOf, V.obj, lk, Nat.blt, Nat.ble, List.map_append, dv_push]) (by first | exact pk0 | exact pk1 ⟨_, rfl⟩ | exact pk2 ⟨_, rfl⟩ ⟨_, rfl⟩ | exact pk3 ⟨_, rfl⟩ ⟨_, rfl⟩ ⟨_, rfl⟩ | exact pk4 ⟨_, rfl⟩ ⟨_, rfl⟩ ⟨_, rfl⟩ ⟨_, rfl⟩) (by simp [go_sem, gL, kL, lk, renOf, V.obj, Nat.blt, Nat.ble]))⟩
    · obtain rfl : i = (pps ms).length := by omega
      repeat' (first | ((first | refine AW.sreg rfl fun K hK => ?_ | refine run_call _ _ _ ((scores_ok).pure rfl rfl _ _) rfl rfl (dstOk_of rfl) rfl rfl rfl ?_); simp only [go_sem, Nat.reduceAdd, Nat.reduceMul, Int.reduceToNat, Nat.reduceLT, Nat.reduceLeDiff, Nat.le_refl, Nat.reduceEqDiff, ↓reduceIte, beq_self_eq_true, bne_self_eq_false, Int.reduceBEq, Int.reduceBNe, or_self, true_or, or_true, Option.map_some, Option.map_none, List.length_map]) | (refine AW.seq_k fun K hK => ?_) | (refine AW.exit ?_; simp only [go_sem, ↓reduceIte]) | (refine AW.condF rfl (by first | rfl | (simp; omega) | (simp [*]; done) | fail) ?_) | (refine hK _ ?_; clear hK K) | (clear hK K; refine hK _ ?_; clear hK K) | (refine AW.ret (Fin.data rfl (by first | (simp only [go_sem]; done) | (simp [go_sem, *]; done) | (simp [go_sem]; omega) | rfl) rfl)))
end Go.AX
