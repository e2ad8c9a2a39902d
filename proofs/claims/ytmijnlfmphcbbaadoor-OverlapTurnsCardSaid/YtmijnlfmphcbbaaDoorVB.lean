/- Runs of words that two texts share: the plain law. -/
import Derived.Test.YtmijnlfmphcbbaaDoorVA
import Derived.Test.YtmijnlfmphcbbaaDoorAx37
set_option linter.unusedSimpArgs false
set_option linter.unusedVariables false
set_option linter.unnecessarySimpa false
set_option maxRecDepth 100000
set_option maxHeartbeats 4000000
set_option maxRecDepth 1000000
namespace Go.AX
open Go Go.Proofs
/-- How many elements two lists have in common at their heads. -/
def lcp : List Str → List Str → Nat
  | a :: r, b :: s => if a = b then lcp r s + 1 else 0
  | _, _ => 0
theorem lcp_comm : ∀ a b : List Str, lcp a b = lcp b a
  | [], [] => rfl
  | [], _ :: _ => rfl
  | _ :: _, [] => rfl
  | a :: r, b :: s => by
    simp only [lcp, lcp_comm r s]
    by_cases h : a = b
    · subst h; simp
    · rw [if_neg h, if_neg (Ne.symm h)]
theorem lcp_self : ∀ a : List Str, lcp a a = a.length
  | [] => rfl
  | a :: r => by simp [lcp, lcp_self r]
theorem lcp_le : ∀ a b : List Str, lcp a b ≤ a.length ∧ lcp a b ≤ b.length
  | [], _ => by simp [lcp]
  | _ :: _, [] => by simp [lcp]
  | a :: r, b :: s => by
    have := lcp_le r s
    simp only [lcp, List.length_cons]
    split <;> omega
/-- How many words are equal from two places on. -/
def Lx (x y : List Str) (i k : Nat) : Nat := lcp (x.drop i) (y.drop k)
theorem Lx_comm (x y : List Str) (i k : Nat) : Lx x y i k = Lx y x k i := lcp_comm _ _
theorem Lx_le (x y : List Str) (i k : Nat) : Lx x y i k ≤ x.length - i ∧ Lx x y i k ≤ y.length - k := by
  have := lcp_le (x.drop i) (y.drop k)
  simpa [Lx, List.length_drop] using this
theorem Lx_out {x y : List Str} {i k : Nat} (h : x.length ≤ i ∨ y.length ≤ k) : Lx x y i k = 0 := by
  have := Lx_le x y i k
  omega
theorem Lx_step {x y : List Str} {i k : Nat} {a b : Str} (ha : x[i]? = some a) (hb : y[k]? = some b) : Lx x y i k = if a = b then 1 + Lx x y (i + 1) (k + 1) else 0 := by
  obtain ⟨hi, rfl⟩ := List.getElem?_eq_some_iff.1 ha
  obtain ⟨hk, rfl⟩ := List.getElem?_eq_some_iff.1 hb
  unfold Lx
  rw [List.drop_eq_getElem_cons hi, List.drop_eq_getElem_cons hk]
  simp only [lcp]
  split <;> omega
abbrev Rn := Nat × Nat × Nat
/-- A run begins here. -/
def stB (x y : List Str) (i k : Nat) : Bool := i == 0 || k == 0 || !(x.getD (i - 1) [] == y.getD (k - 1) [])
def rnB (x y : List Str) (least : Int) (i k : Nat) : Bool := decide (least ≤ (Lx x y i k : Nat)) && stB x y i k
/-- The runs of one line, up to k, and of all lines up to i. -/
def rnL (x y : List Str) (least : Int) (i k : Nat) : List Rn := ((List.range k).filter fun k => rnB x y least i k).map fun k => (i, k, Lx x y i k)
def rnA (x y : List Str) (least : Int) (i : Nat) : List Rn := (List.range i).flatMap fun i => rnL x y least i y.length
def rnF (x y : List Str) (least : Int) : List Rn := rnA x y least x.length
theorem rnL_succ (x y : List Str) (least : Int) (i k : Nat) : rnL x y least i (k + 1) = rnL x y least i k ++ if rnB x y least i k then [(i, k, Lx x y i k)] else [] := by
  unfold rnL
  rw [List.range_succ, List.filter_append, List.map_append]
  congr 1
  cases h : rnB x y least i k <;> simp [h]
theorem rnA_succ (x y : List Str) (least : Int) (i : Nat) : rnA x y least (i + 1) = rnA x y least i ++ rnL x y least i y.length := by
  unfold rnA
  rw [List.range_succ, List.flatMap_append]
  simp
theorem rnF_mem {x y : List Str} {least : Int} {r : Rn} : r ∈ rnF x y least ↔ r.1 < x.length ∧ r.2.1 < y.length ∧ rnB x y least r.1 r.2.1 = true ∧ r.2.2 = Lx x y r.1 r.2.1 := by
  obtain ⟨i, k, l⟩ := r
  unfold rnF rnA rnL
  simp only [List.mem_flatMap, List.mem_range, List.mem_map, List.mem_filter]
  constructor
  · rintro ⟨i2, h1, k2, ⟨h2, h3⟩, h4⟩
    cases h4
    exact ⟨h1, h2, h3, rfl⟩
  · rintro ⟨h1, h2, h3, rfl⟩
    exact ⟨i, h1, k, ⟨h2, h3⟩, rfl⟩
theorem rnL_len (x y : List Str) (least : Int) (i k : Nat) : (rnL x y least i k).length ≤ k := by
  unfold rnL
  rw [List.length_map]
  have := List.length_filter_le (fun k => rnB x y least i k) (List.range k)
  rwa [List.length_range] at this
theorem rnA_len (x y : List Str) (least : Int) : ∀ i, (rnA x y least i).length ≤ i * y.length
  | 0 => by simp [rnA]
  | i + 1 => by
    have h1 := rnA_len x y least i
    have h2 := rnL_len x y least i y.length
    rw [rnA_succ, List.length_append, Nat.add_mul]
    omega
theorem stB_comm (x y : List Str) (i k : Nat) : stB x y i k = stB y x k i := by
  unfold stB
  rw [Bool.or_comm (i == 0) (k == 0)]
  congr 2
  rw [Bool.eq_iff_iff]
  simp only [beq_iff_eq]
  exact ⟨Eq.symm, Eq.symm⟩
theorem rnB_comm (x y : List Str) (least : Int) (i k : Nat) : rnB x y least i k = rnB y x least k i := by
  unfold rnB
  rw [Lx_comm, stB_comm]
/-- Places that are in runs. -/
def inR (l : List Rn) (f : Rn → Nat) (p : Nat) : Bool := l.any fun r => decide (f r ≤ p) && decide (p < f r + r.2.2)
def ctF (many : Nat) (l : List Rn) (f : Rn → Nat) : Nat := ((List.range many).filter (inR l f)).length
theorem ct_le (many : Nat) (l : List Rn) (f : Rn → Nat) : ctF many l f ≤ many := by
  have := List.length_filter_le (inR l f) (List.range many)
  rwa [List.length_range] at this
theorem ct_mono {many : Nat} {l m : List Rn} {f g : Rn → Nat} (h : ∀ p, inR l f p = true → inR m g p = true) : ctF many l f ≤ ctF many m g := by
  unfold ctF
  generalize List.range many = rs
  induction rs with
  | nil => simp
  | cons a rs ih =>
    simp only [List.filter_cons]
    cases h1 : inR l f a with
    | true => rw [h a h1]; simpa using ih
    | false => cases inR m g a <;> simp <;> omega
abbrev fA (r : Rn) : Nat := r.1
abbrev fB (r : Rn) : Nat := r.2.1
theorem inR_turn {x y : List Str} {least : Int} (p : Nat) : inR (rnF x y least) fB p = true → inR (rnF y x least) fA p = true := by
  unfold inR
  simp only [List.any_eq_true, Bool.and_eq_true, decide_eq_true_eq]
  rintro ⟨⟨i, k, n⟩, h1, h2, h3⟩
  obtain ⟨a1, a2, a3, a4⟩ := rnF_mem.1 h1
  refine ⟨(k, i, n), rnF_mem.2 ⟨a2, a1, ?_, ?_⟩, h2, h3⟩
  · rw [rnB_comm]; exact a3
  · rw [Lx_comm]; exact a4
theorem inR_turn2 {x y : List Str} {least : Int} (p : Nat) : inR (rnF x y least) fA p = true → inR (rnF y x least) fB p = true := by
  unfold inR
  simp only [List.any_eq_true, Bool.and_eq_true, decide_eq_true_eq]
  rintro ⟨⟨i, k, n⟩, h1, h2, h3⟩
  obtain ⟨a1, a2, a3, a4⟩ := rnF_mem.1 h1
  refine ⟨(k, i, n), rnF_mem.2 ⟨a2, a1, ?_, ?_⟩, h2, h3⟩
  · rw [rnB_comm]; exact a3
  · rw [Lx_comm]; exact a4
theorem ct_turn (x y : List Str) (least : Int) (n : Nat) : ctF n (rnF x y least) fB = ctF n (rnF y x least) fA := Nat.le_antisymm (ct_mono inR_turn) (ct_mono inR_turn2)
theorem inR_more {x y : List Str} {least : Int} {f : Rn → Nat} (p : Nat) : inR (rnF x y (least + 1)) f p = true → inR (rnF x y least) f p = true := by
  unfold inR
  simp only [List.any_eq_true, Bool.and_eq_true, decide_eq_true_eq]
  rintro ⟨r, h1, h2, h3⟩
  obtain ⟨a1, a2, a3, a4⟩ := rnF_mem.1 h1
  refine ⟨r, rnF_mem.2 ⟨a1, a2, ?_, a4⟩, h2, h3⟩
  unfold rnB at a3 ⊢
  simp only [Bool.and_eq_true, decide_eq_true_eq] at a3 ⊢
  exact ⟨by omega, a3.2⟩
theorem ct_more (x y : List Str) (least : Int) (n : Nat) (f : Rn → Nat) : ctF n (rnF x y (least + 1)) f ≤ ctF n (rnF x y least) f := ct_mono inR_more
theorem ct_self (x : List Str) (least : Int) (h : least ≤ x.length) (h0 : 0 < x.length) (f : Rn → Nat) (hf : f = fA ∨ f = fB) : ctF x.length (rnF x x least) f = x.length := by
  have hl : Lx x x 0 0 = x.length := by simp [Lx, lcp_self]
  have hm : (0, 0, x.length) ∈ rnF x x least := rnF_mem.2 ⟨h0, h0, by simp [rnB, stB, hl, h], hl.symm⟩
  have hall : ∀ p ∈ List.range x.length, inR (rnF x x least) f p = true := fun p hp => by
    unfold inR
    rw [List.any_eq_true]
    refine ⟨_, hm, ?_⟩
    have := List.mem_range.1 hp
    rcases hf with rfl | rfl <;> simp [fA, fB] <;> omega
  unfold ctF
  rw [List.filter_eq_self.2 hall, List.length_range]
/-- The overlap of two lists of words. -/
def ovF (x y : List Str) (least : Int) : Int × Int :=
  if x.length = 0 ∨ y.length = 0 then (0, 1) else
    let a := low (ctF x.length (rnF x y least) fA : Nat) x.length
    let b := low (ctF y.length (rnF x y least) fB : Nat) y.length
    if a.1 * b.2 < b.1 * a.2 then b else a
theorem low_eq {a b c d : Int} (hb : 1 ≤ b) (hd : 1 ≤ d) (h : a * d = c * b) : low a b = low c d := by
  have k1 : a.tdiv (Int.gcd a b) = c.tdiv (Int.gcd c d) ∧ b.tdiv (Int.gcd a b) = d.tdiv (Int.gcd c d) := by
    have g1 := gcd_pos a b hb
    have g2 := gcd_pos c d hd
    have p1 : ((Int.gcd (a * d) (b * d) : Nat) : Int) = Int.gcd a b * d := by
      rw [Int.gcd_mul_right, Int.natCast_mul]
      congr 1
      omega
    have p2 : ((Int.gcd (c * b) (d * b) : Nat) : Int) = Int.gcd c d * b := by
      rw [Int.gcd_mul_right, Int.natCast_mul]
      congr 1
      omega
    have p3 : Int.gcd (a * d) (b * d) = Int.gcd (c * b) (d * b) := by rw [h, Int.mul_comm d b]
    have p4 : (Int.gcd a b : Int) * d = Int.gcd c d * b := by rw [← p1, ← p2, p3]
    have da : (Int.gcd a b : Int) ∣ a := Int.gcd_dvd_left ..
    have db : (Int.gcd a b : Int) ∣ b := Int.gcd_dvd_right ..
    have dc : (Int.gcd c d : Int) ∣ c := Int.gcd_dvd_left ..
    have dd : (Int.gcd c d : Int) ∣ d := Int.gcd_dvd_right ..
    obtain ⟨a', ha⟩ := da
    obtain ⟨b', hb'⟩ := db
    obtain ⟨c', hc⟩ := dc
    obtain ⟨d', hd'⟩ := dd
    generalize (Int.gcd a b : Int) = g at *
    generalize (Int.gcd c d : Int) = e at *
    subst ha hb' hc hd'
    rw [Int.mul_tdiv_cancel_left _ (by omega), Int.mul_tdiv_cancel_left _ (by omega), Int.mul_tdiv_cancel_left _ (by omega), Int.mul_tdiv_cancel_left _ (by omega)]
    have hge : 0 < g * e := Int.mul_pos (by omega) (by omega)
    have e1 : g * (e * d') = e * (g * b') := p4
    have e2 : d' = b' := by
      have : g * e * d' = g * e * b' := by rw [Int.mul_assoc, e1, ← Int.mul_assoc, Int.mul_comm e g]
      exact Int.eq_of_mul_eq_mul_left (by omega) this
    subst e2
    have hd0 : 0 < d' := by
      rcases Int.lt_or_le 0 d' with h | h
      · exact h
      · have := Int.mul_nonneg (show (0 : Int) ≤ e by omega) (show 0 ≤ -d' by omega)
        rw [Int.mul_neg] at this
        omega
    refine ⟨?_, rfl⟩
    have h1 : (g * e * d') * a' = (g * e * d') * c' := by
      have : g * a' * (e * d') = e * c' * (g * d') := h
      calc g * e * d' * a' = g * a' * (e * d') := by ac_rfl
        _ = e * c' * (g * d') := this
        _ = g * e * d' * c' := by ac_rfl
    exact Int.eq_of_mul_eq_mul_left (by have := Int.mul_pos hge hd0; omega) h1
  unfold low
  exact Prod.ext k1.1 k1.2
/-- Fractions in order. -/
def leQ (p q : Int × Int) : Prop := p.1 * q.2 ≤ q.1 * p.2
theorem leQ_trans {p q r : Int × Int} (hp : 1 ≤ p.2) (hq : 1 ≤ q.2) (hr : 1 ≤ r.2) (h1 : leQ p q) (h2 : leQ q r) : leQ p r := by
  unfold leQ at *
  have a1 := Int.mul_le_mul_of_nonneg_right h1 (show 0 ≤ r.2 by omega)
  have a2 := Int.mul_le_mul_of_nonneg_right h2 (show 0 ≤ p.2 by omega)
  have e1 : q.1 * p.2 * r.2 = q.1 * r.2 * p.2 := by ac_rfl
  have e2 : p.1 * q.2 * r.2 = q.2 * (p.1 * r.2) := by ac_rfl
  have e3 : r.1 * q.2 * p.2 = q.2 * (r.1 * p.2) := by ac_rfl
  rw [e1] at a1
  rw [e2] at a1
  rw [e3] at a2
  exact Int.le_of_mul_le_mul_left (Int.le_trans a1 a2) (by omega)
theorem low_leQ {a c n : Int} (hn : 1 ≤ n) (h : a ≤ c) : leQ (low a n) (low c n) := by
  obtain ⟨g, g1, g2, g3⟩ := low_spec a n hn
  obtain ⟨e, e1, e2, e3⟩ := low_spec c n hn
  have d1 := (low_den (a := a) hn).1
  have d2 := (low_den (a := c) hn).1
  unfold leQ
  generalize low a n = p at *
  generalize low c n = q at *
  have h1 : p.1 * g * (q.2 * e) ≤ q.1 * e * (p.2 * g) := by
    rw [← g2, ← e3, ← e2, ← g3]
    exact Int.mul_le_mul_of_nonneg_right h (by omega)
  have k1 : p.1 * g * (q.2 * e) = (g * e) * (p.1 * q.2) := by ac_rfl
  have k2 : q.1 * e * (p.2 * g) = (g * e) * (q.1 * p.2) := by ac_rfl
  rw [k1, k2] at h1
  exact Int.le_of_mul_le_mul_left h1 (Int.mul_pos (by omega) (by omega))
theorem ov_turn (x y : List Str) (least : Int) : ovF x y least = ovF y x least := by
  unfold ovF
  by_cases h : x.length = 0 ∨ y.length = 0
  · rw [if_pos h, if_pos h.symm]
  · rw [if_neg h, if_neg (show ¬(y.length = 0 ∨ x.length = 0) from fun h2 => h (Or.symm h2))]
    rw [ct_turn x y, ct_turn y x]
    have hx : (1 : Int) ≤ (x.length : Nat) := by omega
    have hy : (1 : Int) ≤ (y.length : Nat) := by omega
    generalize ha : (ctF x.length (rnF x y least) fA : Nat) = ca
    generalize hb : (ctF y.length (rnF y x least) fA : Nat) = cb
    have d1 := (low_den (a := (ca : Int)) hx).1
    have d2 := (low_den (a := (cb : Int)) hy).1
    obtain ⟨g, g1, g2, g3⟩ := low_spec (ca : Int) _ hx
    obtain ⟨e, e1, e2, e3⟩ := low_spec (cb : Int) _ hy
    simp only
    by_cases h1 : (low ca x.length).1 * (low cb y.length).2 < (low cb y.length).1 * (low ca x.length).2
    · rw [if_pos h1, if_neg (by omega)]
    · by_cases h2 : (low cb y.length).1 * (low ca x.length).2 < (low ca x.length).1 * (low cb y.length).2
      · rw [if_neg h1, if_pos h2]
      · rw [if_neg h1, if_neg h2]
        have h3 : (low ca x.length).1 * (low cb y.length).2 = (low cb y.length).1 * (low ca x.length).2 := by omega
        refine low_eq hx hy ?_
        generalize low (ca : Int) (x.length : Nat) = p at *
        generalize low (cb : Int) (y.length : Nat) = q at *
        calc (ca : Int) * (y.length : Nat) = p.1 * g * (q.2 * e) := by rw [← g2, ← e3]
          _ = (p.1 * q.2) * (g * e) := by ac_rfl
          _ = (q.1 * p.2) * (g * e) := by rw [h3]
          _ = q.1 * e * (p.2 * g) := by ac_rfl
          _ = (cb : Int) * (x.length : Nat) := by rw [← e2, ← g3]
theorem ov_self (x : List Str) (least : Int) (h : least ≤ x.length) (h0 : 1 ≤ least) : ovF x x least = (1, 1) := by
  unfold ovF
  have hx : (1 : Int) ≤ (x.length : Nat) := by omega
  rw [if_neg (by omega), ct_self x least h (by omega) fA (.inl rfl), ct_self x least h (by omega) fB (.inr rfl), low_self _ hx]
  rfl
theorem ov_less (x y : List Str) (least : Int) : leQ (ovF x y (least + 1)) (ovF x y least) := by
  unfold ovF
  by_cases h : x.length = 0 ∨ y.length = 0
  · rw [if_pos h, if_pos h]
    exact Int.le_refl _
  · rw [if_neg h, if_neg h]
    have hx : (1 : Int) ≤ (x.length : Nat) := by omega
    have hy : (1 : Int) ≤ (y.length : Nat) := by omega
    have h1 := ct_more x y least x.length fA
    have h2 := ct_more x y least y.length fB
    have q1 := low_leQ hx (show ((ctF x.length (rnF x y (least + 1)) fA : Nat) : Int) ≤ (ctF x.length (rnF x y least) fA : Nat) by omega)
    have q2 := low_leQ hy (show ((ctF y.length (rnF x y (least + 1)) fB : Nat) : Int) ≤ (ctF y.length (rnF x y least) fB : Nat) by omega)
    have d1 := (low_den (a := ((ctF x.length (rnF x y (least + 1)) fA : Nat) : Int)) hx).1
    have d2 := (low_den (a := ((ctF y.length (rnF x y (least + 1)) fB : Nat) : Int)) hy).1
    have d3 := (low_den (a := ((ctF x.length (rnF x y least) fA : Nat) : Int)) hx).1
    have d4 := (low_den (a := ((ctF y.length (rnF x y least) fB : Nat) : Int)) hy).1
    simp only
    generalize low ((ctF x.length (rnF x y (least + 1)) fA : Nat) : Int) (x.length : Nat) = a at *
    generalize low ((ctF y.length (rnF x y (least + 1)) fB : Nat) : Int) (y.length : Nat) = b at *
    generalize low ((ctF x.length (rnF x y least) fA : Nat) : Int) (x.length : Nat) = c at *
    generalize low ((ctF y.length (rnF x y least) fB : Nat) : Int) (y.length : Nat) = d at *
    by_cases k1 : a.1 * b.2 < b.1 * a.2
    · rw [if_pos k1]
      by_cases k2 : c.1 * d.2 < d.1 * c.2
      · rw [if_pos k2]; exact q2
      · rw [if_neg k2]
        exact leQ_trans d2 d4 d3 q2 (by unfold leQ; omega)
    · rw [if_neg k1]
      by_cases k2 : c.1 * d.2 < d.1 * c.2
      · rw [if_pos k2]
        exact leQ_trans d1 d3 d4 q1 (by unfold leQ; omega)
      · rw [if_neg k2]; exact q1
end Go.AX

namespace Go.AX
open Go Go.Proofs
/-- A byte of words. -/
def wb (c : UInt8) : Bool := (decide (97 ≤ c.toNat) && decide (c.toNat ≤ 122)) || (decide (65 ≤ c.toNat) && decide (c.toNat ≤ 90)) || (decide (48 ≤ c.toNat) && decide (c.toNat ≤ 57)) || decide (128 ≤ c.toNat)
def lwC (c : UInt8) : UInt8 := if 65 ≤ c.toNat ∧ c.toNat ≤ 90 then c + 32 else c
def lwS (s : Str) : Str := s.map lwC
def wbA (s : Str) (i : Nat) : Bool := match s[i]? with
  | some c => wb c
  | none => false
abbrev Wd := Str × Int × Int
/-- One step of the reader of words: where a word began (or -1), and the words so far. -/
def wStp (s : Str) (a : Int × List Wd) (i : Nat) : Int × List Wd :=
  let f : Int := if wbA s i = true ∧ a.1 < 0 then i else a.1
  if wbA s i = false ∧ 0 ≤ f then (-1, a.2 ++ [(lwS ((s.drop f.toNat).take (i - f.toNat)), f, (i : Int))]) else (f, a.2)
def wdS (s : Str) (k : Nat) : Int × List Wd := (List.range k).foldl (wStp s) (-1, [])
theorem wdS_succ (s : Str) (k : Nat) : wdS s (k + 1) = wStp s (wdS s k) k := by
  unfold wdS
  rw [List.range_succ, List.foldl_append]
  rfl
def wdF (s : Str) : List Wd := (wdS s (s.length + 1)).2
def wsF (s : Str) : List Str := (wdF s).map (·.1)
/-- How many words begin before a place. -/
def stC (s : Str) : Nat → Nat
  | 0 => 0
  | k + 1 => stC s k + if wbA s k = true ∧ (k = 0 ∨ wbA s (k - 1) = false) then 1 else 0
theorem wdS_ok (s : Str) : ∀ k, ((wdS s k).1 = -1 ∨ (0 ≤ (wdS s k).1 ∧ (wdS s k).1 < k)) ∧ (0 ≤ (wdS s k).1 ↔ (0 < k ∧ wbA s (k - 1) = true)) ∧ ((wdS s k).2.length : Int) + (if 0 ≤ (wdS s k).1 then 1 else 0) = stC s k
  | 0 => by simp [wdS, stC]
  | k + 1 => by
    obtain ⟨h1, h2, h3⟩ := wdS_ok s k
    rw [wdS_succ]
    generalize wdS s k = a at *
    obtain ⟨f, out⟩ := a
    simp only at h1 h2 h3
    simp only [wStp, stC]
    cases hb : wbA s k with
    | true =>
      simp only [true_and, Bool.true_eq_false, false_and, if_false, Nat.add_sub_cancel, hb, and_true]
      by_cases hf : f < 0
      · rw [if_pos hf]
        have hn : ¬ 0 ≤ f := by omega
        rw [if_neg hn] at h3
        have hp : k = 0 ∨ wbA s (k - 1) = false := by
          by_cases hk : k = 0
          · exact .inl hk
          · refine .inr ?_
            cases hw : wbA s (k - 1) with
            | false => rfl
            | true => exact absurd (h2.2 ⟨by omega, hw⟩) hn
        rw [if_pos hp, if_pos (by omega)]
        refine ⟨.inr ⟨by omega, by omega⟩, ⟨fun _ => by omega, fun _ => by omega⟩, by omega⟩
      · rw [if_neg hf]
        have hn : 0 ≤ f := by omega
        rw [if_pos hn] at h3
        have hp : ¬ (k = 0 ∨ wbA s (k - 1) = false) := by
          have := h2.1 hn
          rintro (h | h)
          · omega
          · rw [this.2] at h; cases h
        rw [if_neg hp, if_pos hn]
        refine ⟨.inr ⟨hn, by omega⟩, ⟨fun _ => by omega, fun _ => hn⟩, by omega⟩
    | false =>
      simp only [Bool.false_eq_true, false_and, if_false, true_and, Nat.add_sub_cancel, hb, and_false, iff_false]
      by_cases hf : 0 ≤ f
      · rw [if_pos hf] at h3 ⊢
        simp only [List.length_append, List.length_singleton]
        refine ⟨by simp, by omega, ?_⟩
        rw [if_neg (by omega)]
        omega
      · rw [if_neg hf] at h3 ⊢
        rw [if_neg hf]
        refine ⟨.inl (by omega), hf, by omega⟩
theorem wbA_out {s : Str} {i : Nat} (h : s.length ≤ i) : wbA s i = false := by
  unfold wbA
  rw [List.getElem?_eq_none h]
theorem wdF_len (s : Str) : (wdF s).length = stC s s.length := by
  have h := (wdS_ok s (s.length + 1)).2
  have h0 : ¬ 0 ≤ (wdS s (s.length + 1)).1 := fun hh => by
    have := h.1.1 hh
    rw [Nat.add_sub_cancel, wbA_out (Nat.le_refl _)] at this
    cases this.2
  have h2 := h.2
  rw [if_neg h0] at h2
  have h3 : stC s (s.length + 1) = stC s s.length := by
    simp [stC, wbA_out (Nat.le_refl s.length)]
  unfold wdF
  omega
theorem wsF_len (s : Str) : (wsF s).length = stC s s.length := by rw [wsF, List.length_map, wdF_len]
theorem stC_le (s : Str) : ∀ k, stC s k ≤ k
  | 0 => Nat.le_refl _
  | k + 1 => by
    have := stC_le s k
    simp only [stC]
    split <;> omega
end Go.AX

namespace Go.AX
open Go Go.Proofs Go.RowKit
def og (l : List Int) (a : Int) (ss : List Str) : Str := ss.getD (nextV l a ss.length).toNat []
theorem og_mem (l : List Int) (a : Int) (ns : List Str) (h : ns ≠ []) : og l a ns ∈ ns := one_mem l a ns h
theorem h06_f (l : List Int) (hl2 : l.length ≤ 9223372036854775807) (at_ : Int) (ha : 0 ≤ at_) (hb : at_ ≤ 1000000) (ns : List Str) (hs : ns ≠ []) (hs2 : ns.length ≤ 1000000) :
    Does Tryd.prog 11 [.ptr 0 0, .slr 1 0 ns.length] [Stm l at_, SV ns] (S (og l at_ ns)) [Stm l (at_ + 1), SV ns] := one_any l hl2 at_ ha hb ns hs hs2
theorem dvz : dv [] = [] := rfl
theorem get_lt {α : Type} {xs : List α} {i : Nat} {x : α} (h : xs[i]? = some x) : i < xs.length := by
  rcases Nat.lt_or_ge i xs.length with h' | h'
  · exact h'
  · simp [List.getElem?_eq_none h'] at h
theorem ext105 : Builder.Extra Tryd.prog Tryd.l105_ren where
  sizeBuilder := by kernel_rfl
  liesBuilder := by kernel_rfl
  t5 := Tryd.underlying5
  a5 := Tryd.isAgg5
  z5 := Tryd.sizeOf5
  v5 := Tryd.zeroValue5
  infoByte := by kernel_rfl
  cellsByte := by kernel_rfl
  sizeByte := by kernel_rfl
  neB5 := by decide
theorem repeat_a1 (c : Nat) (hc : c ≤ 100000) : Does Tryd.prog 13 [S [97], I c] [] (S (Lib.repeatL [97] c)) [] := by
  refine Does.of_below ⟨Tryd.f13, Tryd.func13, rfl, by kernel_rfl⟩ fun w ok vs hg hok hargs => ?_
  simp only [RVl, RV, RD] at hargs
  obtain ⟨v1, r1, e1, rfl, v2, r2, e2, rfl, rfl⟩ := hargs
  subst e2
  obtain rfl : vs = #[.string ⟨#[97]⟩, .int .i64 c] := by cases vs; simp_all
  refine (Any.strings_Repeat Tryd.l105 ext105 ⟨#[97]⟩ c w (by omega) (by simp [ByteArray.size]; omega)).mono fun e w' ⟨h1, h2⟩ => ⟨_, h1, h2, ?_⟩
  simp only [RV, RD]
theorem repeat_a2 (c : Nat) (hc : c ≤ 100000) : Does Tryd.prog 13 [S [97, 32], I c] [] (S (Lib.repeatL [97, 32] c)) [] := by
  refine Does.of_below ⟨Tryd.f13, Tryd.func13, rfl, by kernel_rfl⟩ fun w ok vs hg hok hargs => ?_
  simp only [RVl, RV, RD] at hargs
  obtain ⟨v1, r1, e1, rfl, v2, r2, e2, rfl, rfl⟩ := hargs
  subst e2
  obtain rfl : vs = #[.string ⟨#[97, 32]⟩, .int .i64 c] := by cases vs; simp_all
  refine (Any.strings_Repeat Tryd.l105 ext105 ⟨#[97, 32]⟩ c w (by omega) (by simp [ByteArray.size]; omega)).mono fun e w' ⟨h1, h2⟩ => ⟨_, h1, h2, ?_⟩
  simp only [RV, RD]
theorem valid_any (s : List UInt8) (h : s.length ≤ 1000000) : Does Tryd.prog 55 [.d (.str s)] [] (.d (.bool (Lib.validD s))) [] := by
  refine Does.of_str1 (y := .bool (Lib.validD s)) ⟨Tryd.f55, Tryd.func55, rfl, by kernel_rfl⟩ (fun w ok => by simp only [RV, RD]) fun w hg => ?_
  refine (Any.utf8_ValidString Tryd.l196 ⟨s.toArray⟩ w (by simp [ByteArray.size]; omega) ⟨fun c hc => hg.cell (g := 1) (l := firstL) (by kernel_rfl) c .u8 (Lib.firstT c) (of_decide_eq_true (List.all_eq_true.1 first_all c (List.mem_range.2 hc))), fun i hi => ?_⟩).mono fun e w' ⟨h1, h2⟩ => ⟨by simpa using h1, h2⟩
  have e1 := List.all_eq_true.1 acc_all i (List.mem_range.2 hi)
  simp only [Bool.and_eq_true, decide_eq_true_eq] at e1
  exact ⟨hg.cell (g := 2) (l := accL) (by kernel_rfl) (2 * i) .u8 (Lib.accLo i) e1.1, hg.cell (g := 2) (l := accL) (by kernel_rfl) (2 * i + 1) .u8 (Lib.accHi i) e1.2⟩
def sufN (s : Str) : Bool := decide (1 ≤ s.length) && s.drop (s.length - 1) == [10]
theorem hasSuffix_any (s : Str) (hl : s.length ≤ 1000000) : Does Tryd.prog 46 [S s, S [10]] [] (B (sufN s)) [] := by
  have h1 : Does Tryd.prog 56 [S s, S [10]] [] (B (sufN s)) [] := by
    refine Does.of_AW (n := 21) Tryd.func56 rfl rfl rfl fun cx hcx => ?_
    unfold sufN
    by_cases h0 : 1 ≤ s.length
    · have e1 : ((s.length : Int) - ((1 : Nat) : Int)).toNat = s.length - 1 := by omega
      have e2 : (s.drop (s.length - 1)).take (s.length - (s.length - 1)) = s.drop (s.length - 1) := List.take_of_length_le (by simp)
      repeat' (first | (refine AW.sreg rfl fun K hK => ?_; simp only [go_sem, Nat.reduceAdd, Nat.reduceMul, Int.reduceToNat, Nat.reduceLT, Nat.reduceLeDiff, Nat.le_refl, Nat.reduceEqDiff, ↓reduceIte, beq_self_eq_true, bne_self_eq_false, Int.reduceBEq, Int.reduceBNe, or_self, true_or, or_true, Option.map_some, Option.map_none, List.length_cons, List.length_nil, e1, e2]) | (refine hK _ ?_; clear hK K) | (refine stepB_split (fun h => ?_) (fun h => ?_) <;> (have hb0 := h) <;> (try simp only [Bool.not_eq_true', Bool.not_eq_false'] at hb0) <;> (try simp only [decide_eq_true_eq, decide_eq_false_iff_not, Bool.not_eq_true', Bool.not_eq_false', Bool.not_eq_eq_eq_not, Bool.not_true, Bool.not_false, beq_iff_eq, bne_iff_ne, beq_eq_false_iff_ne, ne_eq, Bool.and_eq_true, Bool.or_eq_true, Bool.or_eq_false_iff] at h) <;> simp only [go_sem, Nat.reduceAdd, Nat.reduceMul, Int.reduceToNat, Nat.reduceLT, Nat.reduceLeDiff, Nat.le_refl, Nat.reduceEqDiff, ↓reduceIte, beq_self_eq_true, bne_self_eq_false, Int.reduceBEq, Int.reduceBNe, or_self, true_or, or_true, Option.map_some, Option.map_none, hb0, h, decide_true, decide_false, List.length_cons, List.length_nil, e1, e2] <;> (try clear hb0)) | (with_reducible refine And.intro ?_ ?_; first | omega | assumption | (focus (decide)) | (focus (simp; done)) | (focus (simp; omega)) | (focus (constructor <;> omega)) | fail) | (exfalso; omega))
      exact AW.ret (Fin.data rfl (by simp [go_sem, h0]) rfl)
    · have e0 : s = [] := List.eq_nil_of_length_eq_zero (by omega)
      subst e0
      repeat' (first | (refine AW.sreg rfl fun K hK => ?_; simp only [go_sem, Nat.reduceAdd, Nat.reduceMul, Int.reduceToNat, Nat.reduceLT, Nat.reduceLeDiff, Nat.le_refl, Nat.reduceEqDiff, ↓reduceIte, beq_self_eq_true, bne_self_eq_false, Int.reduceBEq, Int.reduceBNe, or_self, true_or, or_true, Option.map_some, Option.map_none]) | (refine hK _ ?_; clear hK K) | (refine stepB_split (fun h => ?_) (fun h => ?_) <;> (have hb0 := h) <;> (try simp only [Bool.not_eq_true', Bool.not_eq_false'] at hb0) <;> (try simp only [decide_eq_true_eq, decide_eq_false_iff_not, Bool.not_eq_true', Bool.not_eq_false', Bool.not_eq_eq_eq_not, Bool.not_true, Bool.not_false, beq_iff_eq, bne_iff_ne, beq_eq_false_iff_ne, ne_eq, Bool.and_eq_true, Bool.or_eq_true, Bool.or_eq_false_iff] at h) <;> simp only [go_sem, Nat.reduceAdd, Nat.reduceMul, Int.reduceToNat, Nat.reduceLT, Nat.reduceLeDiff, Nat.le_refl, Nat.reduceEqDiff, ↓reduceIte, beq_self_eq_true, bne_self_eq_false, Int.reduceBEq, Int.reduceBNe, or_self, true_or, or_true, Option.map_some, Option.map_none, hb0, h, decide_true, decide_false] <;> (try clear hb0)) | (with_reducible refine And.intro ?_ ?_; first | omega | assumption | (focus (decide)) | (focus (simp; done)) | (focus (simp; omega)) | (focus (constructor <;> omega)) | fail) | (refine AW.ret (Fin.data rfl (by first | (simp only [go_sem]; done) | (simp [go_sem, *]; done) | (simp [go_sem]; omega) | rfl) rfl)))
  refine Does.of_AW (n := 8) Tryd.func46 rfl rfl rfl fun cx hcx => ?_
  repeat' (first | ((first | refine AW.sreg rfl fun K hK => ?_ | refine run_call _ _ _ ((h1).pure rfl rfl _ _) rfl rfl (dstOk_of rfl) rfl rfl rfl ?_); simp only [go_sem, Nat.reduceAdd, Nat.reduceMul, Int.reduceToNat, Nat.reduceLT, Nat.reduceLeDiff, Nat.le_refl, Nat.reduceEqDiff, ↓reduceIte, beq_self_eq_true, bne_self_eq_false, Int.reduceBEq, Int.reduceBNe, or_self, true_or, or_true, Option.map_some, Option.map_none]) | (refine hK _ ?_; clear hK K) | (refine AW.ret (Fin.data rfl (by first | (simp only [go_sem]; done) | (simp [go_sem, *]; done) | (simp [go_sem]; omega) | rfl) rfl)))
def okT (c : UInt8) : Bool := !((decide ((c.toNat : Int) < 32) && !((c.toNat : Int) == 10)) || (c.toNat : Int) == 127)
def textB (s : Str) : Bool := s.all okT && (Lib.validD s && (s == [] || sufN s))
theorem isText_any (s : Str) (hl : s.length ≤ 1000000) : Does Tryd.prog 49 [S s] [] (B (textB s)) [] := by
  have hv := valid_any s hl
  have hs := hasSuffix_any s hl
  refine Does.of_AW (n := 36) Tryd.func49 rfl rfl rfl fun cx hcx => ?_
  unfold textB
  generalize hR : (s.all okT && (Lib.validD s && (s == [] || sufN s))) = R
  generalize hU : (Lib.validD s && (s == [] || sufN s)) = U at hR
  repeat' (first | (refine AW.sreg rfl fun K hK => ?_; simp only [go_sem, Nat.reduceAdd, Nat.reduceMul, Int.reduceToNat, Nat.reduceLT, Nat.reduceLeDiff, Nat.le_refl, Nat.reduceEqDiff, ↓reduceIte, beq_self_eq_true, bne_self_eq_false, Int.reduceBEq, Int.reduceBNe, or_self, true_or, or_true, Option.map_some, Option.map_none]) | (refine AW.seq_k fun K hK => ?_) | (refine AW.block ?_) | (refine hK _ ?_; clear hK K))
  refine AW.loopF (ι := Nat) [0] (fun p => [(3, I p)]) (fun p => []) 1 (fun p => p ≤ s.length ∧ ((s.drop p).all okT && U) = R) (fun p => s.length - p) 0 ⟨by simp, by simpa using hR⟩ (Weak.auto hcx rfl rfl (Nat.le_of_ble_eq_true rfl) (by simp [go_sem, gL, kL, renOf, V.obj, lk, Nat.blt, Nat.ble, List.map_append, dv_push]) (by simp [go_sem, gL, kL, renOf, V.obj, lk, Nat.blt, Nat.ble, List.map_append, dv_push]) (by first | exact pk0 | exact pk1 ⟨_, rfl⟩ | exact pk2 ⟨_, rfl⟩ ⟨_, rfl⟩ | exact pk3 ⟨_, rfl⟩ ⟨_, rfl⟩ ⟨_, rfl⟩ | exact pk4 ⟨_, rfl⟩ ⟨_, rfl⟩ ⟨_, rfl⟩ ⟨_, rfl⟩) (by simp [go_sem, gL, kL, lk, renOf, V.obj, Nat.blt, Nat.ble])) ?_; simp only [St.at_nil, St.at_cons, lk, Nat.reduceEqDiff, ↓reduceIte, Option.getD_some, Option.getD_none, List.cons_append, List.nil_append, List.append_nil]
  rintro i ⟨h1, h2⟩
  by_cases hi : i < s.length
  · obtain ⟨c, hc, hcm, hcd⟩ := get_some hi
    rw [hcd, List.all_cons] at h2
    repeat' (first | ((first | refine AW.sreg rfl fun K hK => ?_ | refine AW.reg rfl ?_); simp only [go_sem, Nat.reduceAdd, Nat.reduceMul, Int.reduceToNat, Nat.reduceLT, Nat.reduceLeDiff, Nat.le_refl, Nat.reduceEqDiff, ↓reduceIte, beq_self_eq_true, bne_self_eq_false, Int.reduceBEq, Int.reduceBNe, or_self, true_or, or_true, Option.map_some, Option.map_none, hc]) | (refine AW.seq_k fun K hK => ?_) | (refine AW.block ?_) | (refine AW.skip ?_; simp only [Then, InBlock]) | (refine AW.condT rfl (by first | rfl | (simp; omega) | (simp [*]; done) | fail) ?_) | (refine AW.condF rfl (by first | rfl | (simp; omega) | (simp [*]; done) | fail) ?_) | (refine AW.cond rfl (fun h => ?_) (fun h => ?_) <;> (try simp only [decide_eq_true_eq, decide_eq_false_iff_not, Bool.not_eq_true', Bool.not_eq_false', Bool.not_eq_eq_eq_not, Bool.not_true, Bool.not_false, beq_iff_eq, bne_iff_ne, beq_eq_false_iff_ne, ne_eq, Bool.and_eq_true, Bool.or_eq_true, Bool.or_eq_false_iff] at h)) | (refine hK _ ?_; clear hK K) | (refine stepB_split (fun h => ?_) (fun h => ?_) <;> (have hb0 := h) <;> (try simp only [Bool.not_eq_true', Bool.not_eq_false'] at hb0) <;> (try simp only [decide_eq_true_eq, decide_eq_false_iff_not, Bool.not_eq_true', Bool.not_eq_false', Bool.not_eq_eq_eq_not, Bool.not_true, Bool.not_false, beq_iff_eq, bne_iff_ne, beq_eq_false_iff_ne, ne_eq, Bool.and_eq_true, Bool.or_eq_true, Bool.or_eq_false_iff] at h) <;> simp only [go_sem, Nat.reduceAdd, Nat.reduceMul, Int.reduceToNat, Nat.reduceLT, Nat.reduceLeDiff, Nat.le_refl, Nat.reduceEqDiff, ↓reduceIte, beq_self_eq_true, bne_self_eq_false, Int.reduceBEq, Int.reduceBNe, or_self, true_or, or_true, Option.map_some, Option.map_none, hb0, h, decide_true, decide_false, hc] <;> (try clear hb0)) | (with_reducible refine And.intro ?_ ?_; first | omega | assumption | (focus (decide)) | (focus (simp; done)) | (focus (simp; omega)) | (focus (constructor <;> omega)) | fail))
    all_goals first
      | (have hok : okT c = true := by (try simp only [bne_eq_false_iff_eq] at *); simp [okT]; omega
         rw [hok, Bool.true_and] at h2
         exact ⟨i + 1, ⟨hi, h2⟩, by omega, (Weak.auto hcx rfl rfl (Nat.le_of_ble_eq_true rfl) (by simp [go_sem, gL, kL, renOf, V.obj, lk, Nat.blt, Nat.ble, List.map_append, dv_push]) (by simp [go_sem, gL, kL, renOf, V.obj, lk, Nat.blt, Nat.ble, List.map_append, dv_push]) (by first | exact pk0 | exact pk1 ⟨_, rfl⟩ | exact pk2 ⟨_, rfl⟩ ⟨_, rfl⟩ | exact pk3 ⟨_, rfl⟩ ⟨_, rfl⟩ ⟨_, rfl⟩ | exact pk4 ⟨_, rfl⟩ ⟨_, rfl⟩ ⟨_, rfl⟩ ⟨_, rfl⟩) (by simp [go_sem, gL, kL, lk, renOf, V.obj, Nat.blt, Nat.ble]))⟩)
      | (have hok : okT c = false := by (try simp only [bne_eq_false_iff_eq] at *); simp [okT]; omega
         rw [hok, Bool.false_and, Bool.false_and] at h2
         subst h2
         exact AW.ret (Fin.data rfl (by simp [go_sem]; done) rfl))
      | (have hok : okT c = false := by (try simp only [bne_eq_false_iff_eq] at *); simp [okT]; omega
         rw [hok, Bool.false_and, Bool.false_and] at h2
         subst h2
         exact AW.ret (Fin.data rfl (by simp [go_sem]; omega) rfl))
      | trace_state
  · obtain rfl : i = s.length := by omega
    simp only [List.drop_length, List.all_nil, Bool.true_and] at h2
    subst h2
    subst hU
    repeat' (first | ((first | refine AW.sreg rfl fun K hK => ?_ | refine run_call _ _ _ ((hv).pure rfl rfl _ _) rfl rfl (dstOk_of rfl) rfl rfl rfl ?_ | refine run_call _ _ _ ((hs).pure rfl rfl _ _) rfl rfl (dstOk_of rfl) rfl rfl rfl ?_); simp only [go_sem, Nat.reduceAdd, Nat.reduceMul, Int.reduceToNat, Nat.reduceLT, Nat.reduceLeDiff, Nat.le_refl, Nat.reduceEqDiff, ↓reduceIte, beq_self_eq_true, bne_self_eq_false, Int.reduceBEq, Int.reduceBNe, or_self, true_or, or_true, Option.map_some, Option.map_none]) | (refine AW.seq_k fun K hK => ?_) | (refine AW.exit ?_; simp only [go_sem, ↓reduceIte]) | (refine AW.condF rfl (by first | rfl | (simp; omega) | (simp [*]; done) | fail) ?_) | (refine hK _ ?_; clear hK K) | (clear hK K; refine hK _ ?_; clear hK K) | (refine stepB_split (fun h => ?_) (fun h => ?_) <;> (have hb0 := h) <;> (try simp only [Bool.not_eq_true', Bool.not_eq_false'] at hb0) <;> (try simp only [decide_eq_true_eq, decide_eq_false_iff_not, Bool.not_eq_true', Bool.not_eq_false', Bool.not_eq_eq_eq_not, Bool.not_true, Bool.not_false, beq_iff_eq, bne_iff_ne, beq_eq_false_iff_ne, ne_eq, Bool.and_eq_true, Bool.or_eq_true, Bool.or_eq_false_iff] at h) <;> simp only [go_sem, Nat.reduceAdd, Nat.reduceMul, Int.reduceToNat, Nat.reduceLT, Nat.reduceLeDiff, Nat.le_refl, Nat.reduceEqDiff, ↓reduceIte, beq_self_eq_true, bne_self_eq_false, Int.reduceBEq, Int.reduceBNe, or_self, true_or, or_true, Option.map_some, Option.map_none, hb0, h, decide_true, decide_false] <;> (try clear hb0)))
    all_goals first | exact AW.ret (Fin.data rfl (by simp_all [go_sem]; done) rfl) | trace_state
end Go.AX

namespace Go.AX
open Go Go.Proofs Go.RowKit
abbrev U8 (c : UInt8) : V := .d (.int .u8 (c.toNat : Int))
theorem all256 {p : UInt8 → Bool} (h : ((List.range 256).all fun n => p (UInt8.ofNat n)) = true) (c : UInt8) : p c = true := by
  have h1 := List.all_eq_true.1 h c.toNat (List.mem_range.2 c.toNat_lt)
  rwa [UInt8.ofNat_toNat] at h1
theorem isWordByte_any (c : UInt8) : Does Tryd.prog 38 [U8 c] [] (B (wb c)) [] := by
  have h := all256 (p := fun c => evalsTo Tryd.prog (CS Tryd.prog) 38 [U8 c] (B (wb c))) (by kernel_rfl) c
  exact evalsTo_ok CS_ok hmix h
theorem wordByte_any (c : UInt8) : Does Tryd.prog 47 [U8 c] [] (B (wb c)) [] := by
  have h := all256 (p := fun c => evalsTo Tryd.prog (CS Tryd.prog) 47 [U8 c] (B (wb c))) (by kernel_rfl) c
  exact evalsTo_ok CS_ok hmix h
def capI (c : UInt8) : Int := if 65 ≤ c.toNat ∧ c.toNat ≤ 90 then (c.toNat : Int) - 65 else -1
theorem indexCap_any (c : UInt8) : Does Tryd.prog 48 [S [65, 66, 67, 68, 69, 70, 71, 72, 73, 74, 75, 76, 77, 78, 79, 80, 81, 82, 83, 84, 85, 86, 87, 88, 89, 90], U8 c] [] (I (capI c)) [] := by
  have h := all256 (p := fun c => evalsTo Tryd.prog (CS Tryd.prog) 48 [S [65, 66, 67, 68, 69, 70, 71, 72, 73, 74, 75, 76, 77, 78, 79, 80, 81, 82, 83, 84, 85, 86, 87, 88, 89, 90], U8 c] (I (capI c))) (by kernel_rfl) c
  exact evalsTo_ok CS_ok hmix h
theorem submits_ok : Does Tryd.prog 7 [] [] (B true) [] := evalsTo_ok CS_ok hmix (by kernel_rfl)
end Go.AX

namespace Go.AX
open Go Go.Proofs Go.RowKit
abbrev Wo6 : List Str := [[97, 32], [98, 32], [99, 32], [97, 32, 98, 32, 99, 32], [100, 44, 32], [10]]
theorem wo6 : ∀ s ∈ Wo6, s.length ≤ 6 := by decide
theorem draftI (l : List Int) (hl : l.length ≤ 9223372036854775807) (at_ : Int) (ha : 0 ≤ at_) (hb : at_ ≤ 5000) :
    DoesI Tryd.prog 4 [.ptr 0 0] [Stm l at_] (fun q : Str × Int => q.1.length ≤ 30000 ∧ at_ ≤ q.2 ∧ q.2 ≤ at_ + 20) (fun q => S q.1) (fun q => [Stm l q.2]) := by
  have h1 := nextI l hl at_ 14 (by omega) (by omega) (by omega) (by omega)
  have q1 := repeat_a2 600 (by omega)
  have q2 := repeat_a2 601 (by omega)
  have q3 := repeat_a1 20000 (by omega)
  have e1 : (Lib.repeatL [97, 32] 600).length = 1200 := by rw [Lib.repeatL_length]; rfl
  have e2 : (Lib.repeatL [97, 32] 601).length = 1202 := by rw [Lib.repeatL_length]; rfl
  have e3 : (Lib.repeatL [97] 20000).length = 20000 := by rw [Lib.repeatL_length]; rfl
  generalize Lib.repeatL [97, 32] 600 = R1 at *
  generalize Lib.repeatL [97, 32] 601 = R2 at *
  generalize Lib.repeatL [97] 20000 = R3 at *
  refine DoesI.of_AW (n := 30) Tryd.func4 rfl rfl rfl fun cx hcx => ?_
  repeat' (first | (refine AW.sreg rfl fun K hK => ?_; simp only [go_sem, Nat.reduceAdd, Nat.reduceMul, Int.reduceToNat, Nat.reduceLT, Nat.reduceLeDiff, Nat.le_refl, Nat.reduceEqDiff, ↓reduceIte, beq_self_eq_true, bne_self_eq_false, Int.reduceBEq, Int.reduceBNe, or_self, true_or, or_true, Option.map_some, Option.map_none]) | (refine AW.seq_k fun K hK => ?_) | (refine AW.block ?_) | (refine hK _ ?_; clear hK K) | (refine run_callI _ _ _ ((h1).objs [0] ⟨rfl, trivial⟩ rfl (by decide) (by simp [go_sem, renOs]) (by simp [go_sem]) (by simp [go_sem]) (fun j hj => ⟨by simp, by simp, by simp [go_sem], by simp [go_sem]⟩)) rfl rfl (dstOk_of rfl) rfl rfl rfl ?_; rintro m hm; (try dsimp only at m); (try dsimp only at hm); simp only [go_sem, Nat.reduceAdd, Nat.reduceMul, Int.reduceToNat, Nat.reduceLT, Nat.reduceLeDiff, Nat.le_refl, Nat.reduceEqDiff, ↓reduceIte, beq_self_eq_true, bne_self_eq_false, Int.reduceBEq, Int.reduceBNe, or_self, true_or, or_true, Option.map_some, Option.map_none]))
  refine AW.loopF (ι := Nat × Str) [0, 5] (fun p => [(6, I p.1), (3, S p.2)]) (fun p => [(0, some (Stm l (at_ + 1 + p.1)))]) 20 (fun p => (p.1 : Int) ≤ m ∧ p.2.length ≤ 6 * p.1) (fun p => m.toNat - p.1) (0, []) ⟨hm.1, by simp⟩ (Weak.auto hcx rfl rfl (Nat.le_of_ble_eq_true rfl) (by simp [go_sem, gL, kL, renOf, V.obj, lk, Nat.blt, Nat.ble, List.map_append, dv_push, Int.add_zero]) (by simp [go_sem, gL, kL, renOf, V.obj, lk, Nat.blt, Nat.ble, List.map_append, dv_push, Int.add_zero]) (by first | exact pk0 | exact pk1 ⟨_, rfl⟩ | exact pk2 ⟨_, rfl⟩ ⟨_, rfl⟩ | exact pk3 ⟨_, rfl⟩ ⟨_, rfl⟩ ⟨_, rfl⟩ | exact pk4 ⟨_, rfl⟩ ⟨_, rfl⟩ ⟨_, rfl⟩ ⟨_, rfl⟩) (by simp [go_sem, gL, kL, lk, renOf, V.obj, Nat.blt, Nat.ble, Int.add_zero])) ?_; simp only [St.at_nil, St.at_cons, lk, Nat.reduceEqDiff, ↓reduceIte, Option.getD_some, Option.getD_none, List.cons_append, List.nil_append, List.append_nil]
  rintro ⟨i, t⟩ ⟨i1, i2⟩
  dsimp only at i1 i2 ⊢
  by_cases hi : (i : Int) < m
  · have hon := h06_f l hl (at_ + 1 + i) (by omega) (by omega) Wo6 (by simp) (by simp)
    have hmm := wo6 _ (og_mem l (at_ + 1 + i) Wo6 (by simp))
    generalize og l (at_ + 1 + i) Wo6 = x at hon hmm
    repeat' (first | ((first | refine AW.sreg rfl fun K hK => ?_ | refine AW.reg rfl ?_ | refine run_call _ _ _ ((hon).objs [0, _] ⟨rfl, rfl, trivial⟩ rfl (by decide) (by simp [go_sem, renOs]) (by simp) (by simp) (by simp [go_sem]) (by simp [go_sem]) (by simp [go_sem]) (by simp [go_sem])) rfl rfl (dstOk_of rfl) rfl rfl rfl ?_); simp only [go_sem, Nat.reduceAdd, Nat.reduceMul, Int.reduceToNat, Nat.reduceLT, Nat.reduceLeDiff, Nat.le_refl, Nat.reduceEqDiff, ↓reduceIte, beq_self_eq_true, bne_self_eq_false, Int.reduceBEq, Int.reduceBNe, or_self, true_or, or_true, Option.map_some, Option.map_none]) | (refine AW.seq_k fun K hK => ?_) | (refine AW.block ?_) | (refine AW.skip ?_; simp only [Then, InBlock]) | (refine AW.condT rfl (by first | rfl | (simp; omega) | (simp [*]; done) | fail) ?_) | (refine hK _ ?_; clear hK K) | (with_reducible refine And.intro ?_ ?_; first | omega | assumption | (focus (decide)) | (focus (simp; done)) | (focus (simp; omega)) | (focus (constructor <;> omega)) | fail))
    exact ⟨(i + 1, t ++ x), ⟨by simp only; omega, by simp only [List.length_append]; omega⟩, by simp only; omega, (Weak.auto hcx rfl rfl (Nat.le_of_ble_eq_true rfl) (by simp [go_sem, gL, kL, renOf, V.obj, lk, Nat.blt, Nat.ble, List.map_append, dv_push, Int.add_assoc]) (by simp [go_sem, gL, kL, renOf, V.obj, lk, Nat.blt, Nat.ble, List.map_append, dv_push, Int.add_assoc]) (by first | exact pk0 | exact pk1 ⟨_, rfl⟩ | exact pk2 ⟨_, rfl⟩ ⟨_, rfl⟩ | exact pk3 ⟨_, rfl⟩ ⟨_, rfl⟩ ⟨_, rfl⟩ | exact pk4 ⟨_, rfl⟩ ⟨_, rfl⟩ ⟨_, rfl⟩ ⟨_, rfl⟩) (by simp [go_sem, gL, kL, lk, renOf, V.obj, Nat.blt, Nat.ble, Int.add_assoc]))⟩
  · have hmi : m = i := by omega
    have hon := h06_f l hl (at_ + 1 + i + 1) (by omega) (by omega) [[120], R1 ++ [10], R2 ++ [10], R3 ++ [10]] (by simp) (by simp)
    have hmm := og_mem l (at_ + 1 + i + 1) [[120], R1 ++ [10], R2 ++ [10], R3 ++ [10]] (by simp)
    have hxl : (og l (at_ + 1 + i + 1) [[120], R1 ++ [10], R2 ++ [10], R3 ++ [10]]).length ≤ 30000 := by
      simp only [List.mem_cons, List.not_mem_nil, or_false] at hmm
      rcases hmm with e | e | e | e <;> rw [e] <;> simp only [List.length_append, List.length_cons, List.length_nil] <;> omega
    generalize og l (at_ + 1 + i + 1) [[120], R1 ++ [10], R2 ++ [10], R3 ++ [10]] = x at hon hxl
    repeat' (first | ((first | refine AW.sreg rfl fun K hK => ?_ | refine AW.reg rfl ?_ | refine run_call _ _ _ ((q1).pure rfl rfl _ _) rfl rfl (dstOk_of rfl) rfl rfl rfl ?_ | refine run_call _ _ _ ((q2).pure rfl rfl _ _) rfl rfl (dstOk_of rfl) rfl rfl rfl ?_ | refine run_call _ _ _ ((q3).pure rfl rfl _ _) rfl rfl (dstOk_of rfl) rfl rfl rfl ?_ | refine run_call _ _ _ ((hon).objs [0, _] ⟨rfl, rfl, trivial⟩ rfl (by decide) (by simp [go_sem, renOs]) (by simp) (by simp) (by simp [go_sem]) (by simp [go_sem]) (by simp [go_sem]) (by simp [go_sem])) rfl rfl (dstOk_of rfl) rfl rfl rfl ?_); simp only [go_sem, Nat.reduceAdd, Nat.reduceMul, Int.reduceToNat, Nat.reduceLT, Nat.reduceLeDiff, Nat.le_refl, Nat.reduceEqDiff, ↓reduceIte, beq_self_eq_true, bne_self_eq_false, Int.reduceBEq, Int.reduceBNe, or_self, true_or, or_true, Option.map_some, Option.map_none]) | (refine AW.seq_k fun K hK => ?_) | (refine AW.skip ?_; simp only [Then, InBlock]) | (refine AW.exit ?_; simp only [go_sem, ↓reduceIte]) | (refine AW.condF rfl (by first | rfl | (simp; omega) | (simp [*]; done) | fail) ?_) | (refine AW.cond rfl (fun h => ?_) (fun h => ?_) <;> (try simp only [decide_eq_true_eq, decide_eq_false_iff_not, Bool.not_eq_true', Bool.not_eq_false', Bool.not_eq_eq_eq_not, Bool.not_true, Bool.not_false, beq_iff_eq, bne_iff_ne, beq_eq_false_iff_ne, ne_eq, Bool.and_eq_true, Bool.or_eq_true, Bool.or_eq_false_iff] at h)) | (refine hK _ ?_; clear hK K) | (clear hK K; refine hK _ ?_; clear hK K) | (refine run_callI _ _ _ ((flipI l hl _ 30 (by omega) (by omega) (by omega) (by omega)).objs [0] ⟨rfl, trivial⟩ rfl (by decide) (by simp [go_sem, renOs]) (by simp [go_sem]) (by simp [go_sem]) (fun j hj => ⟨by simp, by simp, by simp [go_sem], by simp [go_sem]⟩)) rfl rfl (dstOk_of rfl) rfl rfl rfl ?_; rintro r hr; (try dsimp only at r); (try dsimp only at hr); simp only [go_sem, Nat.reduceAdd, Nat.reduceMul, Int.reduceToNat, Nat.reduceLT, Nat.reduceLeDiff, Nat.le_refl, Nat.reduceEqDiff, ↓reduceIte, beq_self_eq_true, bne_self_eq_false, Int.reduceBEq, Int.reduceBNe, or_self, true_or, or_true, Option.map_some, Option.map_none]) | (with_reducible refine And.intro ?_ ?_; first | omega | assumption | (focus (decide)) | (focus (simp; done)) | (focus (simp; omega)) | (focus (constructor <;> omega)) | fail))
    · exact AW.ret ⟨(x, at_ + 1 + i + 1 + 1), ⟨hxl, by simp only; omega, by simp only; omega⟩, Fin.one rfl (by simp [go_sem]) ⟨_, rfl, by simp [go_sem]⟩ rfl rfl rfl⟩
    · exact AW.ret ⟨(t ++ [10], at_ + 1 + i + 1), ⟨by simp only [List.length_append, List.length_cons, List.length_nil]; omega, by simp only; omega, by simp only; omega⟩, Fin.one rfl (by simp [go_sem]) ⟨_, rfl, by simp [go_sem]⟩ rfl rfl rfl⟩
    · exact AW.ret ⟨(x, at_ + 1 + i + 1 + 1), ⟨hxl, by simp only; omega, by simp only; omega⟩, Fin.one rfl (by simp [go_sem]) ⟨_, rfl, by simp [go_sem]⟩ rfl rfl rfl⟩
    · exact AW.ret ⟨(t, at_ + 1 + i + 1), ⟨by simp only; omega, by simp only; omega, by simp only; omega⟩, Fin.one rfl (by simp [go_sem]) ⟨_, rfl, by simp [go_sem]⟩ rfl rfl rfl⟩
end Go.AX

namespace Go.AX
open Go Go.Proofs Go.RowKit
abbrev u8D (b : UInt8) : D := .int .u8 (b.toNat : Int)
theorem wellFormed_any (s : Str) (hl : s.length ≤ 30000) : Does Tryd.prog 45 [S s, B true] [] (B (s.all okT && Lib.validD s)) [] := by
  have hv := valid_any s (by omega)
  refine Does.of_AW (n := 31) Tryd.func45 rfl rfl rfl fun cx hcx => ?_
  generalize hU : Lib.validD s = U at *
  generalize hR : (s.all okT && U) = R
  repeat' (first | (refine AW.sreg rfl fun K hK => ?_; simp only [go_sem, Nat.reduceAdd, Nat.reduceMul, Int.reduceToNat, Nat.reduceLT, Nat.reduceLeDiff, Nat.le_refl, Nat.reduceEqDiff, ↓reduceIte, beq_self_eq_true, bne_self_eq_false, Int.reduceBEq, Int.reduceBNe, or_self, true_or, or_true, Option.map_some, Option.map_none]) | (refine AW.seq_k fun K hK => ?_) | (refine AW.block ?_) | (refine hK _ ?_; clear hK K))
  refine AW.loopF (ι := Nat) [0, 1, 8, 9] (fun p => [(10, I p)]) (fun p => [(128, some (O.vec 5 1 (dv (s.map u8D))))]) 20 (fun p => p ≤ s.length ∧ ((s.drop p).all okT && U) = R) (fun p => s.length - p) 0 ⟨by simp, by simpa using hR⟩ (Weak.auto hcx rfl rfl (Nat.le_of_ble_eq_true rfl) (by simp [go_sem, gL, kL, renOf, V.obj, lk, Nat.blt, Nat.ble, List.map_append, dv_push]) (by simp [go_sem, gL, kL, renOf, V.obj, lk, Nat.blt, Nat.ble, List.map_append, dv_push]) (by first | exact pk0 | exact pk1 ⟨_, rfl⟩ | exact pk2 ⟨_, rfl⟩ ⟨_, rfl⟩ | exact pk3 ⟨_, rfl⟩ ⟨_, rfl⟩ ⟨_, rfl⟩ | exact pk4 ⟨_, rfl⟩ ⟨_, rfl⟩ ⟨_, rfl⟩ ⟨_, rfl⟩) (by simp [go_sem, gL, kL, lk, renOf, V.obj, Nat.blt, Nat.ble])) ?_; simp only [St.at_nil, St.at_cons, lk, Nat.reduceEqDiff, ↓reduceIte, Option.getD_some, Option.getD_none, List.cons_append, List.nil_append, List.append_nil]
  rintro i ⟨h1, h2⟩
  by_cases hi : i < s.length
  · obtain ⟨c, hc, hcm, hcd⟩ := get_some hi
    rw [hcd, List.all_cons] at h2
    have hget : (dv (s.map u8D))[i]? = some (.d (.int .u8 (c.toNat : Int))) := by
      unfold dv
      rw [List.getElem?_map, List.getElem?_map, hc]
      rfl
    repeat' (first | ((first | refine AW.sreg rfl fun K hK => ?_ | refine AW.reg rfl ?_); simp only [go_sem, Nat.reduceAdd, Nat.reduceMul, Int.reduceToNat, Nat.reduceLT, Nat.reduceLeDiff, Nat.le_refl, Nat.reduceEqDiff, ↓reduceIte, beq_self_eq_true, bne_self_eq_false, Int.reduceBEq, Int.reduceBNe, or_self, true_or, or_true, Option.map_some, Option.map_none, List.length_map, Nat.zero_add, hget]) | (refine AW.seq_k fun K hK => ?_) | (refine AW.block ?_) | (refine AW.skip ?_; simp only [Then, InBlock]) | (refine AW.condT rfl (by first | rfl | (simp; omega) | (simp [*]; done) | fail) ?_) | (refine AW.condF rfl (by first | rfl | (simp; omega) | (simp [*]; done) | fail) ?_) | (refine AW.cond rfl (fun h => ?_) (fun h => ?_) <;> (try simp only [decide_eq_true_eq, decide_eq_false_iff_not, Bool.not_eq_true', Bool.not_eq_false', Bool.not_eq_eq_eq_not, Bool.not_true, Bool.not_false, beq_iff_eq, bne_iff_ne, beq_eq_false_iff_ne, ne_eq, Bool.and_eq_true, Bool.or_eq_true, Bool.or_eq_false_iff] at h)) | (refine hK _ ?_; clear hK K) | (refine stepB_split (fun h => ?_) (fun h => ?_) <;> (have hb0 := h) <;> (try simp only [Bool.not_eq_true', Bool.not_eq_false'] at hb0) <;> (try simp only [decide_eq_true_eq, decide_eq_false_iff_not, Bool.not_eq_true', Bool.not_eq_false', Bool.not_eq_eq_eq_not, Bool.not_true, Bool.not_false, beq_iff_eq, bne_iff_ne, beq_eq_false_iff_ne, ne_eq, Bool.and_eq_true, Bool.or_eq_true, Bool.or_eq_false_iff] at h) <;> simp only [go_sem, Nat.reduceAdd, Nat.reduceMul, Int.reduceToNat, Nat.reduceLT, Nat.reduceLeDiff, Nat.le_refl, Nat.reduceEqDiff, ↓reduceIte, beq_self_eq_true, bne_self_eq_false, Int.reduceBEq, Int.reduceBNe, or_self, true_or, or_true, Option.map_some, Option.map_none, hb0, h, decide_true, decide_false, List.length_map, Nat.zero_add, hget] <;> (try clear hb0)) | (with_reducible refine And.intro ?_ ?_; first | omega | assumption | (focus (decide)) | (focus (simp; done)) | (focus (simp; omega)) | (focus (constructor <;> omega)) | fail))
    all_goals first
      | (have hok : okT c = true := by (try simp only [bne_eq_false_iff_eq] at *); simp [okT]; omega
         rw [hok, Bool.true_and] at h2
         exact ⟨i + 1, ⟨hi, h2⟩, by omega, (Weak.auto hcx rfl rfl (Nat.le_of_ble_eq_true rfl) (by simp [go_sem, gL, kL, renOf, V.obj, lk, Nat.blt, Nat.ble, List.map_append, dv_push]) (by simp [go_sem, gL, kL, renOf, V.obj, lk, Nat.blt, Nat.ble, List.map_append, dv_push]) (by first | exact pk0 | exact pk1 ⟨_, rfl⟩ | exact pk2 ⟨_, rfl⟩ ⟨_, rfl⟩ | exact pk3 ⟨_, rfl⟩ ⟨_, rfl⟩ ⟨_, rfl⟩ | exact pk4 ⟨_, rfl⟩ ⟨_, rfl⟩ ⟨_, rfl⟩ ⟨_, rfl⟩) (by simp [go_sem, gL, kL, lk, renOf, V.obj, Nat.blt, Nat.ble]))⟩)
      | (have hok : okT c = false := by (try simp only [bne_eq_false_iff_eq] at *); simp [okT]; omega
         rw [hok, Bool.false_and, Bool.false_and] at h2
         subst h2
         exact AW.ret (Fin.data rfl (by simp [go_sem]; done) rfl))
      | trace_state
  · obtain rfl : i = s.length := by omega
    simp only [List.drop_length, List.all_nil, Bool.true_and] at h2
    subst h2
    repeat' (first | ((first | refine AW.sreg rfl fun K hK => ?_ | refine run_call _ _ _ ((hv).pure rfl rfl _ _) rfl rfl (dstOk_of rfl) rfl rfl rfl ?_); simp only [go_sem, Nat.reduceAdd, Nat.reduceMul, Int.reduceToNat, Nat.reduceLT, Nat.reduceLeDiff, Nat.le_refl, Nat.reduceEqDiff, ↓reduceIte, beq_self_eq_true, bne_self_eq_false, Int.reduceBEq, Int.reduceBNe, or_self, true_or, or_true, Option.map_some, Option.map_none, List.length_map]) | (refine AW.seq_k fun K hK => ?_) | (refine AW.exit ?_; simp only [go_sem, ↓reduceIte]) | (refine AW.condF rfl (by first | rfl | (simp; omega) | (simp [*]; done) | fail) ?_) | (refine hK _ ?_; clear hK K) | (clear hK K; refine hK _ ?_; clear hK K) | (refine AW.ret (Fin.data rfl (by first | (simp only [go_sem]; done) | (simp [go_sem, *]; done) | (simp [go_sem]; omega) | rfl) rfl)))
theorem textOf_any (s : Str) (hl : s.length ≤ 30000) : Does Tryd.prog 27 [S s] [] (B (textB s)) [] := by
  have h1 := wellFormed_any s hl
  have h2 := hasSuffix_any s (by omega)
  refine Does.of_AW (n := 13) Tryd.func27 rfl rfl rfl fun cx hcx => ?_
  have hT : textB s = ((s.all okT && Lib.validD s) && (s == [] || sufN s)) := by rw [textB, Bool.and_assoc]
  rw [hT]
  generalize (s.all okT && Lib.validD s) = a at *
  generalize sufN s = b at *
  cases a with
  | false => repeat' (first | ((first | refine AW.sreg rfl fun K hK => ?_ | refine run_call _ _ _ ((h1).pure rfl rfl _ _) rfl rfl (dstOk_of rfl) rfl rfl rfl ?_); simp only [go_sem, Nat.reduceAdd, Nat.reduceMul, Int.reduceToNat, Nat.reduceLT, Nat.reduceLeDiff, Nat.le_refl, Nat.reduceEqDiff, ↓reduceIte, beq_self_eq_true, bne_self_eq_false, Int.reduceBEq, Int.reduceBNe, or_self, true_or, or_true, Option.map_some, Option.map_none]) | (refine hK _ ?_; clear hK K) | (refine AW.ret (Fin.data rfl (by first | (simp only [go_sem]; done) | (simp [go_sem, *]; done) | (simp [go_sem]; omega) | rfl) rfl)))
  | true =>
    cases hs : (s == []) with
    | true => repeat' (first | ((first | refine AW.sreg rfl fun K hK => ?_ | refine run_call _ _ _ ((h1).pure rfl rfl _ _) rfl rfl (dstOk_of rfl) rfl rfl rfl ?_); simp only [go_sem, Nat.reduceAdd, Nat.reduceMul, Int.reduceToNat, Nat.reduceLT, Nat.reduceLeDiff, Nat.le_refl, Nat.reduceEqDiff, ↓reduceIte, beq_self_eq_true, bne_self_eq_false, Int.reduceBEq, Int.reduceBNe, or_self, true_or, or_true, Option.map_some, Option.map_none, hs]) | (refine hK _ ?_; clear hK K) | (refine AW.ret (Fin.data rfl (by first | (simp only [go_sem]; done) | (simp [go_sem, *]; done) | (simp [go_sem]; omega) | rfl) rfl)))
    | false => repeat' (first | ((first | refine AW.sreg rfl fun K hK => ?_ | refine run_call _ _ _ ((h1).pure rfl rfl _ _) rfl rfl (dstOk_of rfl) rfl rfl rfl ?_ | refine run_call _ _ _ ((h2).pure rfl rfl _ _) rfl rfl (dstOk_of rfl) rfl rfl rfl ?_); simp only [go_sem, Nat.reduceAdd, Nat.reduceMul, Int.reduceToNat, Nat.reduceLT, Nat.reduceLeDiff, Nat.le_refl, Nat.reduceEqDiff, ↓reduceIte, beq_self_eq_true, bne_self_eq_false, Int.reduceBEq, Int.reduceBNe, or_self, true_or, or_true, Option.map_some, Option.map_none, hs]) | (refine hK _ ?_; clear hK K) | (refine AW.ret (Fin.data rfl (by first | (simp only [go_sem]; done) | (simp [go_sem, *]; done) | (simp [go_sem]; omega) | rfl) rfl)))
theorem strOf_u8 : ∀ bs : Str, strOf (dv (bs.map u8D)) = some bs
  | [] => rfl
  | c :: bs => by
    have h := strOf_u8 bs
    simp only [dv, List.map_map] at h
    simp only [dv, List.map_cons, List.map_map, strOf, h]
    simp
theorem all_u8 (bs : Str) : (dv (bs.map u8D)).all (elemOk 1) = true := by
  simp only [dv, List.map_map, List.all_eq_true, List.mem_map, Function.comp_apply, forall_exists_index, and_imp, forall_apply_eq_imp_iff₂]
  intro x _
  rfl
theorem take_u8 (bs : Str) {n : Nat} (h : bs.length = n) : List.take n (dv (bs.map u8D)) = dv (bs.map u8D) := List.take_of_length_le (by simp [dv, h])
def bfF (s : Str) : Int := if 20000 < s.length then 2 else if textB s = true then 0 else 3
theorem bodyFault_any (s : Str) (hl : s.length ≤ 30000) : Does Tryd.prog 14 [S s] [] (I (bfF s)) [] := by
  have h1 := textOf_any s hl
  refine Does.of_AW (n := 9) Tryd.func14 rfl rfl rfl fun cx hcx => ?_
  unfold bfF
  generalize textB s = b at *
  by_cases hlt : 20000 < s.length
  · rw [if_pos hlt]
    repeat' (first | (refine AW.sreg rfl fun K hK => ?_; simp only [go_sem, Nat.reduceAdd, Nat.reduceMul, Int.reduceToNat, Nat.reduceLT, Nat.reduceLeDiff, Nat.le_refl, Nat.reduceEqDiff, ↓reduceIte, beq_self_eq_true, bne_self_eq_false, Int.reduceBEq, Int.reduceBNe, or_self, true_or, or_true, Option.map_some, Option.map_none, hlt]) | (refine AW.seq_k fun K hK => ?_) | (refine AW.condT rfl (by first | rfl | (simp; omega) | (simp [*]; done) | fail) ?_) | (refine hK _ ?_; clear hK K) | (refine AW.ret (Fin.data rfl (by first | (simp only [go_sem]; done) | (simp [go_sem, *]; done) | (simp [go_sem]; omega) | rfl) rfl)))
  · rw [if_neg hlt]
    cases b with
    | true => repeat' (first | ((first | refine AW.sreg rfl fun K hK => ?_ | refine run_call _ _ _ ((h1).pure rfl rfl _ _) rfl rfl (dstOk_of rfl) rfl rfl rfl ?_); simp only [go_sem, Nat.reduceAdd, Nat.reduceMul, Int.reduceToNat, Nat.reduceLT, Nat.reduceLeDiff, Nat.le_refl, Nat.reduceEqDiff, ↓reduceIte, beq_self_eq_true, bne_self_eq_false, Int.reduceBEq, Int.reduceBNe, or_self, true_or, or_true, Option.map_some, Option.map_none, hlt]) | (refine AW.seq_k fun K hK => ?_) | (refine AW.skip ?_; simp only [Then, InBlock]) | (refine AW.condF rfl (by first | rfl | (simp; omega) | (simp [*]; done) | fail) ?_) | (refine hK _ ?_; clear hK K) | (refine AW.ret (Fin.data rfl (by first | (simp only [go_sem]; done) | (simp [go_sem, *]; done) | (simp [go_sem]; omega) | rfl) rfl)))
    | false => repeat' (first | ((first | refine AW.sreg rfl fun K hK => ?_ | refine run_call _ _ _ ((h1).pure rfl rfl _ _) rfl rfl (dstOk_of rfl) rfl rfl rfl ?_); simp only [go_sem, Nat.reduceAdd, Nat.reduceMul, Int.reduceToNat, Nat.reduceLT, Nat.reduceLeDiff, Nat.le_refl, Nat.reduceEqDiff, ↓reduceIte, beq_self_eq_true, bne_self_eq_false, Int.reduceBEq, Int.reduceBNe, or_self, true_or, or_true, Option.map_some, Option.map_none, hlt]) | (refine AW.seq_k fun K hK => ?_) | (refine AW.skip ?_; simp only [Then, InBlock]) | (refine AW.condT rfl (by first | rfl | (simp; omega) | (simp [*]; done) | fail) ?_) | (refine AW.condF rfl (by first | rfl | (simp; omega) | (simp [*]; done) | fail) ?_) | (refine hK _ ?_; clear hK K) | (refine AW.ret (Fin.data rfl (by first | (simp only [go_sem]; done) | (simp [go_sem, *]; done) | (simp [go_sem]; omega) | rfl) rfl)))
theorem refLower_any (s : Str) (hl : s.length ≤ 30000) : DoesI Tryd.prog 29 [S s] [] (fun t : Str => True) (fun t => S t) (fun _ => []) := by
  refine DoesI.of_AW (n := 28) Tryd.func29 rfl rfl rfl fun cx hcx => ?_
  repeat' (first | (refine AW.sreg rfl fun K hK => ?_; simp only [go_sem, Nat.reduceAdd, Nat.reduceMul, Int.reduceToNat, Nat.reduceLT, Nat.reduceLeDiff, Nat.le_refl, Nat.reduceEqDiff, ↓reduceIte, beq_self_eq_true, bne_self_eq_false, Int.reduceBEq, Int.reduceBNe, or_self, true_or, or_true, Option.map_some, Option.map_none]) | (refine AW.seq_k fun K hK => ?_) | (refine AW.block ?_) | (refine hK _ ?_; clear hK K))
  refine AW.loopF (ι := Nat × Str) [3, 9, 10] (fun p => [(11, I p.1)]) (fun p => [(128, some (O.vec 5 1 (dv (p.2.map u8D))))]) 20 (fun p => p.1 ≤ s.length ∧ p.2.length = s.length) (fun p => s.length - p.1) (0, s) ⟨Nat.zero_le _, rfl⟩ (Weak.auto hcx rfl rfl (Nat.le_of_ble_eq_true rfl) (by simp [go_sem, gL, kL, renOf, V.obj, lk, Nat.blt, Nat.ble, List.map_append, dv_push]) (by simp [go_sem, gL, kL, renOf, V.obj, lk, Nat.blt, Nat.ble, List.map_append, dv_push]) (by first | exact pk0 | exact pk1 ⟨_, rfl⟩ | exact pk2 ⟨_, rfl⟩ ⟨_, rfl⟩ | exact pk3 ⟨_, rfl⟩ ⟨_, rfl⟩ ⟨_, rfl⟩ | exact pk4 ⟨_, rfl⟩ ⟨_, rfl⟩ ⟨_, rfl⟩ ⟨_, rfl⟩) (by simp [go_sem, gL, kL, lk, renOf, V.obj, Nat.blt, Nat.ble])) ?_; simp only [St.at_nil, St.at_cons, lk, Nat.reduceEqDiff, ↓reduceIte, Option.getD_some, Option.getD_none, List.cons_append, List.nil_append, List.append_nil]
  rintro ⟨i, bs⟩ ⟨h1, h2⟩
  dsimp only at h1 h2 ⊢
  by_cases hi : i < s.length
  · obtain ⟨c, hc, hcm, -⟩ := get_some (l := bs) (i := i) (by omega)
    have hget : (dv (bs.map u8D))[i]? = some (.d (.int .u8 (c.toNat : Int))) := by
      unfold dv
      rw [List.getElem?_map, List.getElem?_map, hc]
      rfl
    have hic := indexCap_any c
    by_cases hcap : 65 ≤ c.toNat ∧ c.toNat ≤ 90
    · have e : capI c = (c.toNat : Int) - 65 := if_pos hcap
      obtain ⟨d, hd, -, -⟩ := get_some (l := ([97, 98, 99, 100, 101, 102, 103, 104, 105, 106, 107, 108, 109, 110, 111, 112, 113, 114, 115, 116, 117, 118, 119, 120, 121, 122] : Str)) (i := ((c.toNat : Int) - 65).toNat) (by simp; omega)
      have hst : (dv (bs.map u8D)).set i (.d (.int .u8 (d.toNat : Int))) = dv ((bs.set i d).map u8D) := by
        unfold dv
        rw [List.map_set, List.map_set]
      rw [e] at hic
      repeat' (first | ((first | refine AW.sreg rfl fun K hK => ?_ | refine AW.reg rfl ?_ | refine run_call _ _ _ ((hic).pure rfl rfl _ _) rfl rfl (dstOk_of rfl) rfl rfl rfl ?_); simp only [go_sem, Nat.reduceAdd, Nat.reduceMul, Int.reduceToNat, Nat.reduceLT, Nat.reduceLeDiff, Nat.le_refl, Nat.reduceEqDiff, ↓reduceIte, beq_self_eq_true, bne_self_eq_false, Int.reduceBEq, Int.reduceBNe, or_self, true_or, or_true, Option.map_some, Option.map_none, List.length_map, Nat.zero_add, hget, hd, hst, h2]) | (refine AW.seq_k fun K hK => ?_) | (refine AW.block ?_) | (refine AW.skip ?_; simp only [Then, InBlock]) | (refine AW.condT rfl (by first | rfl | (simp; omega) | (simp [*]; done) | fail) ?_) | (refine hK _ ?_; clear hK K) | (with_reducible refine And.intro ?_ ?_; first | omega | assumption | (focus (decide)) | (focus (simp; done)) | (focus (simp; omega)) | (focus (constructor <;> omega)) | fail))
      exact ⟨(i + 1, bs.set i d), ⟨hi, by simp [h2]⟩, by simp only; omega, (Weak.auto hcx rfl rfl (Nat.le_of_ble_eq_true rfl) (by simp [go_sem, gL, kL, renOf, V.obj, lk, Nat.blt, Nat.ble, List.map_append, dv_push]) (by simp [go_sem, gL, kL, renOf, V.obj, lk, Nat.blt, Nat.ble, List.map_append, dv_push]) (by first | exact pk0 | exact pk1 ⟨_, rfl⟩ | exact pk2 ⟨_, rfl⟩ ⟨_, rfl⟩ | exact pk3 ⟨_, rfl⟩ ⟨_, rfl⟩ ⟨_, rfl⟩ | exact pk4 ⟨_, rfl⟩ ⟨_, rfl⟩ ⟨_, rfl⟩ ⟨_, rfl⟩) (by simp [go_sem, gL, kL, lk, renOf, V.obj, Nat.blt, Nat.ble]))⟩
    · have e : capI c = -1 := if_neg hcap
      rw [e] at hic
      repeat' (first | ((first | refine AW.sreg rfl fun K hK => ?_ | refine AW.reg rfl ?_ | refine run_call _ _ _ ((hic).pure rfl rfl _ _) rfl rfl (dstOk_of rfl) rfl rfl rfl ?_); simp only [go_sem, Nat.reduceAdd, Nat.reduceMul, Int.reduceToNat, Nat.reduceLT, Nat.reduceLeDiff, Nat.le_refl, Nat.reduceEqDiff, ↓reduceIte, beq_self_eq_true, bne_self_eq_false, Int.reduceBEq, Int.reduceBNe, or_self, true_or, or_true, Option.map_some, Option.map_none, List.length_map, Nat.zero_add, hget, h2]) | (refine AW.seq_k fun K hK => ?_) | (refine AW.block ?_) | (refine AW.skip ?_; simp only [Then, InBlock]) | (refine AW.condT rfl (by first | rfl | (simp; omega) | (simp [*]; done) | fail) ?_) | (refine AW.condF rfl (by first | rfl | (simp; omega) | (simp [*]; done) | fail) ?_) | (refine hK _ ?_; clear hK K) | (with_reducible refine And.intro ?_ ?_; first | omega | assumption | (focus (decide)) | (focus (simp; done)) | (focus (simp; omega)) | (focus (constructor <;> omega)) | fail))
      exact ⟨(i + 1, bs), ⟨hi, h2⟩, by simp only; omega, (Weak.auto hcx rfl rfl (Nat.le_of_ble_eq_true rfl) (by simp [go_sem, gL, kL, renOf, V.obj, lk, Nat.blt, Nat.ble, List.map_append, dv_push]) (by simp [go_sem, gL, kL, renOf, V.obj, lk, Nat.blt, Nat.ble, List.map_append, dv_push]) (by first | exact pk0 | exact pk1 ⟨_, rfl⟩ | exact pk2 ⟨_, rfl⟩ ⟨_, rfl⟩ | exact pk3 ⟨_, rfl⟩ ⟨_, rfl⟩ ⟨_, rfl⟩ | exact pk4 ⟨_, rfl⟩ ⟨_, rfl⟩ ⟨_, rfl⟩ ⟨_, rfl⟩) (by simp [go_sem, gL, kL, lk, renOf, V.obj, Nat.blt, Nat.ble]))⟩
  · obtain rfl : i = s.length := by omega
    have ht := take_u8 bs h2
    repeat' (first | (refine AW.sreg rfl fun K hK => ?_; simp only [go_sem, Nat.reduceAdd, Nat.reduceMul, Int.reduceToNat, Nat.reduceLT, Nat.reduceLeDiff, Nat.le_refl, Nat.reduceEqDiff, ↓reduceIte, beq_self_eq_true, bne_self_eq_false, Int.reduceBEq, Int.reduceBNe, or_self, true_or, or_true, Option.map_some, Option.map_none, List.length_map, Nat.zero_add, ht, strOf_u8, all_u8, h2]) | (refine AW.seq_k fun K hK => ?_) | (refine AW.exit ?_; simp only [go_sem, ↓reduceIte]) | (refine AW.condF rfl (by first | rfl | (simp; omega) | (simp [*]; done) | fail) ?_) | (refine hK _ ?_; clear hK K) | (clear hK K; refine hK _ ?_; clear hK K))
    exact AW.ret ⟨bs, trivial, Fin.data rfl (by simp [go_sem]) rfl⟩
/-- The first k bytes small. -/
def lwK (s : Str) (k : Nat) : Str := (s.take k).map lwC ++ s.drop k
theorem lwK_len (s : Str) (k : Nat) : (lwK s k).length = s.length := by simp [lwK]; omega
theorem lwK_get {s : Str} {k : Nat} {c : UInt8} (h : s[k]? = some c) : (lwK s k)[k]? = some c := by
  have hk := get_lt h
  unfold lwK
  rw [List.getElem?_append_right (by simp; omega)]
  simp only [List.length_map, List.length_take, List.getElem?_drop]
  rw [show k + (k - min k s.length) = k by omega]
  exact h
theorem lwK_set {s : Str} {k : Nat} {c : UInt8} (h : s[k]? = some c) : (lwK s k).set k (lwC c) = lwK s (k + 1) := by
  have hk := get_lt h
  unfold lwK
  rw [List.set_append_right _ _ (by simp; omega)]
  simp only [List.length_map, List.length_take]
  rw [show k - min k s.length = 0 by omega, List.take_add_one, h, List.map_append]
  obtain ⟨h2, rfl⟩ := List.getElem?_eq_some_iff.1 h
  rw [List.drop_eq_getElem_cons h2]
  simp only [List.set_cons_zero, Option.toList_some, List.map_cons, List.map_nil, List.append_assoc, List.cons_append, List.nil_append]
theorem lwK_zero (s : Str) : lwK s 0 = s := by simp [lwK]
theorem lwK_all (s : Str) : lwK s s.length = lwS s := by simp [lwK, lwS]
theorem lw_wrap (c : UInt8) (h : 65 ≤ c.toNat ∧ c.toNat ≤ 90) : IntKind.u8.wrap (IntKind.u8.wrap ((c.toNat : Int) + 97) - 65) = (c.toNat : Int) + 32 := by
  have h1 := all256 (p := fun c => !(decide (65 ≤ c.toNat) && decide (c.toNat ≤ 90)) || decide (IntKind.u8.wrap (IntKind.u8.wrap ((c.toNat : Int) + 97) - 65) = (c.toNat : Int) + 32)) (by kernel_rfl) c
  simp only [h.1, h.2, decide_true, Bool.and_self, Bool.not_true, Bool.false_or, decide_eq_true_eq] at h1
  exact h1
theorem lower_any (s : Str) (hl : s.length ≤ 30000) : Does Tryd.prog 39 [S s] [] (S (lwS s)) [] := by
  refine Does.of_AW (n := 30) Tryd.func39 rfl rfl rfl fun cx hcx => ?_
  repeat' (first | (refine AW.sreg rfl fun K hK => ?_; simp only [go_sem, Nat.reduceAdd, Nat.reduceMul, Int.reduceToNat, Nat.reduceLT, Nat.reduceLeDiff, Nat.le_refl, Nat.reduceEqDiff, ↓reduceIte, beq_self_eq_true, bne_self_eq_false, Int.reduceBEq, Int.reduceBNe, or_self, true_or, or_true, Option.map_some, Option.map_none]) | (refine AW.seq_k fun K hK => ?_) | (refine AW.block ?_) | (refine hK _ ?_; clear hK K))
  refine AW.loopF (ι := Nat) [3, 8, 9] (fun p => [(10, I p)]) (fun p => [(128, some (O.vec 5 1 (dv ((lwK s p).map u8D))))]) 20 (fun p => p ≤ s.length) (fun p => s.length - p) 0 (Nat.zero_le _) (Weak.auto hcx rfl rfl (Nat.le_of_ble_eq_true rfl) (by simp [go_sem, gL, kL, renOf, V.obj, lk, Nat.blt, Nat.ble, List.map_append, dv_push, lwK_zero]) (by simp [go_sem, gL, kL, renOf, V.obj, lk, Nat.blt, Nat.ble, List.map_append, dv_push, lwK_zero]) (by first | exact pk0 | exact pk1 ⟨_, rfl⟩ | exact pk2 ⟨_, rfl⟩ ⟨_, rfl⟩ | exact pk3 ⟨_, rfl⟩ ⟨_, rfl⟩ ⟨_, rfl⟩ | exact pk4 ⟨_, rfl⟩ ⟨_, rfl⟩ ⟨_, rfl⟩ ⟨_, rfl⟩) (by simp [go_sem, gL, kL, lk, renOf, V.obj, Nat.blt, Nat.ble, lwK_zero])) ?_; simp only [St.at_nil, St.at_cons, lk, Nat.reduceEqDiff, ↓reduceIte, Option.getD_some, Option.getD_none, List.cons_append, List.nil_append, List.append_nil]
  intro i h1
  have hkl := lwK_len s i
  by_cases hi : i < s.length
  · obtain ⟨c, hc, hcm, -⟩ := get_some hi
    have hset := lwK_set hc
    have hget : (dv ((lwK s i).map u8D))[i]? = some (.d (.int .u8 (c.toNat : Int))) := by
      unfold dv
      rw [List.getElem?_map, List.getElem?_map, lwK_get hc]
      rfl
    by_cases hcap : 65 ≤ c.toNat ∧ c.toNat ≤ 90
    · have e : lwC c = c + 32 := if_pos hcap
      have e2 : ((c + 32).toNat : Int) = (c.toNat : Int) + 32 := by
        rw [UInt8.toNat_add]
        simp
        omega
      have hst : (dv ((lwK s i).map u8D)).set i (.d (.int .u8 ((c.toNat : Int) + 32))) = dv ((lwK s (i + 1)).map u8D) := by
        rw [← hset, e]
        unfold dv
        rw [List.map_set, List.map_set]
        simp only [u8D, e2]
      repeat' (first | ((first | refine AW.sreg rfl fun K hK => ?_ | refine AW.reg rfl ?_); simp only [go_sem, Nat.reduceAdd, Nat.reduceMul, Int.reduceToNat, Nat.reduceLT, Nat.reduceLeDiff, Nat.le_refl, Nat.reduceEqDiff, ↓reduceIte, beq_self_eq_true, bne_self_eq_false, Int.reduceBEq, Int.reduceBNe, or_self, true_or, or_true, Option.map_some, Option.map_none, List.length_map, Nat.zero_add, hget, hst, hkl, lw_wrap c hcap]) | (refine AW.seq_k fun K hK => ?_) | (refine AW.block ?_) | (refine AW.skip ?_; simp only [Then, InBlock]) | (refine AW.condT rfl (by first | rfl | (simp; omega) | (simp [*]; done) | fail) ?_) | (refine hK _ ?_; clear hK K) | (refine stepB_split (fun h => ?_) (fun h => ?_) <;> (have hb0 := h) <;> (try simp only [Bool.not_eq_true', Bool.not_eq_false'] at hb0) <;> (try simp only [decide_eq_true_eq, decide_eq_false_iff_not, Bool.not_eq_true', Bool.not_eq_false', Bool.not_eq_eq_eq_not, Bool.not_true, Bool.not_false, beq_iff_eq, bne_iff_ne, beq_eq_false_iff_ne, ne_eq, Bool.and_eq_true, Bool.or_eq_true, Bool.or_eq_false_iff] at h) <;> simp only [go_sem, Nat.reduceAdd, Nat.reduceMul, Int.reduceToNat, Nat.reduceLT, Nat.reduceLeDiff, Nat.le_refl, Nat.reduceEqDiff, ↓reduceIte, beq_self_eq_true, bne_self_eq_false, Int.reduceBEq, Int.reduceBNe, or_self, true_or, or_true, Option.map_some, Option.map_none, hb0, h, decide_true, decide_false, List.length_map, Nat.zero_add, hget, hst, hkl, lw_wrap c hcap] <;> (try clear hb0)) | (with_reducible refine And.intro ?_ ?_; first | omega | assumption | (focus (decide)) | (focus (simp; done)) | (focus (simp; omega)) | (focus (constructor <;> omega)) | fail) | (exfalso; omega))
      exact ⟨i + 1, hi, by omega, (Weak.auto hcx rfl rfl (Nat.le_of_ble_eq_true rfl) (by simp [go_sem, gL, kL, renOf, V.obj, lk, Nat.blt, Nat.ble, List.map_append, dv_push]) (by simp [go_sem, gL, kL, renOf, V.obj, lk, Nat.blt, Nat.ble, List.map_append, dv_push]) (by first | exact pk0 | exact pk1 ⟨_, rfl⟩ | exact pk2 ⟨_, rfl⟩ ⟨_, rfl⟩ | exact pk3 ⟨_, rfl⟩ ⟨_, rfl⟩ ⟨_, rfl⟩ | exact pk4 ⟨_, rfl⟩ ⟨_, rfl⟩ ⟨_, rfl⟩ ⟨_, rfl⟩) (by simp [go_sem, gL, kL, lk, renOf, V.obj, Nat.blt, Nat.ble]))⟩
    · have e : lwC c = c := if_neg hcap
      have hse : lwK s (i + 1) = lwK s i := by
        rw [← hset, e]
        apply List.ext_getElem?
        intro j
        rw [List.getElem?_set]
        split
        · rename_i hj; subst hj; rw [lwK_get hc, if_pos (by omega)]
        · rfl
      repeat' (first | ((first | refine AW.sreg rfl fun K hK => ?_ | refine AW.reg rfl ?_); simp only [go_sem, Nat.reduceAdd, Nat.reduceMul, Int.reduceToNat, Nat.reduceLT, Nat.reduceLeDiff, Nat.le_refl, Nat.reduceEqDiff, ↓reduceIte, beq_self_eq_true, bne_self_eq_false, Int.reduceBEq, Int.reduceBNe, or_self, true_or, or_true, Option.map_some, Option.map_none, List.length_map, Nat.zero_add, hget, hkl]) | (refine AW.seq_k fun K hK => ?_) | (refine AW.block ?_) | (refine AW.skip ?_; simp only [Then, InBlock]) | (refine AW.condT rfl (by first | rfl | (simp; omega) | (simp [*]; done) | fail) ?_) | (refine AW.condF rfl (by first | rfl | (simp; omega) | (simp [*]; done) | fail) ?_) | (refine hK _ ?_; clear hK K) | (refine stepB_split (fun h => ?_) (fun h => ?_) <;> (have hb0 := h) <;> (try simp only [Bool.not_eq_true', Bool.not_eq_false'] at hb0) <;> (try simp only [decide_eq_true_eq, decide_eq_false_iff_not, Bool.not_eq_true', Bool.not_eq_false', Bool.not_eq_eq_eq_not, Bool.not_true, Bool.not_false, beq_iff_eq, bne_iff_ne, beq_eq_false_iff_ne, ne_eq, Bool.and_eq_true, Bool.or_eq_true, Bool.or_eq_false_iff] at h) <;> simp only [go_sem, Nat.reduceAdd, Nat.reduceMul, Int.reduceToNat, Nat.reduceLT, Nat.reduceLeDiff, Nat.le_refl, Nat.reduceEqDiff, ↓reduceIte, beq_self_eq_true, bne_self_eq_false, Int.reduceBEq, Int.reduceBNe, or_self, true_or, or_true, Option.map_some, Option.map_none, hb0, h, decide_true, decide_false, List.length_map, Nat.zero_add, hget, hkl] <;> (try clear hb0)) | (with_reducible refine And.intro ?_ ?_; first | omega | assumption | (focus (decide)) | (focus (simp; done)) | (focus (simp; omega)) | (focus (constructor <;> omega)) | fail))
      all_goals exact ⟨i + 1, hi, by omega, (Weak.auto hcx rfl rfl (Nat.le_of_ble_eq_true rfl) (by simp [go_sem, gL, kL, renOf, V.obj, lk, Nat.blt, Nat.ble, List.map_append, dv_push, hse]) (by simp [go_sem, gL, kL, renOf, V.obj, lk, Nat.blt, Nat.ble, List.map_append, dv_push, hse]) (by first | exact pk0 | exact pk1 ⟨_, rfl⟩ | exact pk2 ⟨_, rfl⟩ ⟨_, rfl⟩ | exact pk3 ⟨_, rfl⟩ ⟨_, rfl⟩ ⟨_, rfl⟩ | exact pk4 ⟨_, rfl⟩ ⟨_, rfl⟩ ⟨_, rfl⟩ ⟨_, rfl⟩) (by simp [go_sem, gL, kL, lk, renOf, V.obj, Nat.blt, Nat.ble, hse]))⟩
  · obtain rfl : i = s.length := by omega
    have ht := take_u8 (lwK s s.length) hkl
    repeat' (first | (refine AW.sreg rfl fun K hK => ?_; simp only [go_sem, Nat.reduceAdd, Nat.reduceMul, Int.reduceToNat, Nat.reduceLT, Nat.reduceLeDiff, Nat.le_refl, Nat.reduceEqDiff, ↓reduceIte, beq_self_eq_true, bne_self_eq_false, Int.reduceBEq, Int.reduceBNe, or_self, true_or, or_true, Option.map_some, Option.map_none, List.length_map, Nat.zero_add, ht, strOf_u8, all_u8, hkl]) | (refine AW.seq_k fun K hK => ?_) | (refine AW.exit ?_; simp only [go_sem, ↓reduceIte]) | (refine AW.condF rfl (by first | rfl | (simp; omega) | (simp [*]; done) | fail) ?_) | (refine hK _ ?_; clear hK K) | (clear hK K; refine hK _ ?_; clear hK K))
    exact AW.ret (Fin.data rfl (by simp [go_sem, lwK_all]) rfl)
end Go.AX
