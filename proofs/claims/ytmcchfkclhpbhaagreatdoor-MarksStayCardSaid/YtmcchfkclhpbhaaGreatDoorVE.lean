/- Fractions in lowest terms. -/
import Derived.Test.YtmcchfkclhpbhaaGreatDoorVA
import Derived.Test.YtmcchfkclhpbhaaGreatDoorVD
import Derived.Test.YtmcchfkclhpbhaaGreatDoorVB
import Derived.Test.YtmcchfkclhpbhaaGreatDoorAx36
set_option linter.unusedSimpArgs false
set_option linter.unusedVariables false
set_option maxRecDepth 100000
set_option maxHeartbeats 4000000
set_option maxHeartbeats 1000000
set_option maxRecDepth 1000000
set_option linter.unnecessarySimpa false
namespace Go.AX
open Go Go.Proofs
abbrev Fr (a b : Int) : D := .agg [.int .i64 a, .int .i64 b]
theorem gcd_pos (a b : Int) (hb : 1 ≤ b) : 1 ≤ (Int.gcd a b : Int) := by
  have : 0 < Int.gcd a b := Int.gcd_pos_of_ne_zero_right a (by omega)
  omega
theorem tdiv_fits (a g : Int) (M : Int) (hg : 1 ≤ g) (h : -M ≤ a ∧ a ≤ M) : -M ≤ a.tdiv g ∧ a.tdiv g ≤ M := by
  have h1 := Int.natAbs_tdiv_le_natAbs a g
  omega
/-- A fraction in lowest terms. -/
def low (a b : Int) : Int × Int := (a.tdiv (Int.gcd a b), b.tdiv (Int.gcd a b))
theorem fr_size (h : 32 < Tryz.prog.types.size) : (Tryz.prog.types[32]'h).size = 2 := by kernel_rfl
theorem lowest_any (a b : Int) (ha : -1000000000000000000 ≤ a ∧ a ≤ 1000000000000000000) (hb : 1 ≤ b ∧ b ≤ 1000000000000000000) : Does Tryz.prog 39 [I a, I b] [] (.d (Fr (low a b).1 (low a b).2)) [] := by
  have hg := gcd_pos a b hb.1
  have q1 := tdiv_fits a (Int.gcd a b) _ hg ha
  have q2 := tdiv_fits b (Int.gcd a b) _ hg ⟨by omega, hb.2⟩
  have hd : ¬ b < 0 := by omega
  have hgz : ((Int.gcd a b : Int) == 0) = false := by simp; omega
  refine Does.of_AW (n := 22) Tryz.func39 rfl rfl rfl fun cx hcx => ?_
  repeat' (first | ((first | refine AW.sreg rfl fun K hK => ?_ | refine AW.sregD hmix rfl fun K hK => ?_ | refine run_call _ _ _ ((gcd_go a b (by omega) (by omega)).pure rfl rfl _ _) rfl rfl (dstOk_of rfl) rfl rfl rfl ?_); simp only [go_sem, Nat.reduceAdd, Nat.reduceMul, Int.reduceToNat, Nat.reduceLT, Nat.reduceLeDiff, Nat.le_refl, Nat.reduceEqDiff, ↓reduceIte, beq_self_eq_true, bne_self_eq_false, Int.reduceBEq, Int.reduceBNe, or_self, true_or, or_true, Option.map_some, Option.map_none, hd, hgz]) | (refine AW.seq_k fun K hK => ?_) | (refine AW.skip ?_; simp only [Then, InBlock]) | (refine AW.condF rfl (by first | rfl | (simp; omega) | (simp [*]; done) | fail) ?_) | (refine hK _ ?_; clear hK K) | (with_reducible refine And.intro (?_ : regOk _ _ = true) ?_; kernel_rfl) | (with_reducible refine And.intro ?_ ?_; first | omega | assumption | (focus (decide)) | (focus (simp; done)) | (focus (simp; omega)) | (focus (constructor <;> omega)) | fail))
  exact AW.ret (Fin.data rfl (by simp [go_sem, fr_size, low]) rfl)
end Go.AX

namespace Go.AX
def sm : List Int → Int
  | [] => 0
  | x :: r => x + sm r
def sq : List Int → Int
  | [] => 0
  | x :: r => x * x + sq r
theorem sm_snoc : ∀ (xs : List Int) (x : Int), sm (xs ++ [x]) = sm xs + x
  | [], x => by simp [sm]
  | y :: r, x => by simp only [List.cons_append, sm, sm_snoc r x]; omega
theorem sq_snoc : ∀ (xs : List Int) (x : Int), sq (xs ++ [x]) = sq xs + x * x
  | [], x => by simp [sq]
  | y :: r, x => by simp only [List.cons_append, sq, sq_snoc r x]; omega
/-- How far numbers are apart: n times the sum of the squares, less the square of the sum. -/
def apA (xs : List Int) : Int := (xs.length : Int) * sq xs - sm xs * sm xs
def dq (y : Int) : List Int → Int
  | [] => 0
  | x :: r => (x - y) * (x - y) + dq y r
theorem dq_eq (y : Int) : ∀ xs : List Int, dq y xs = sq xs - 2 * y * sm xs + (xs.length : Int) * (y * y)
  | [] => by simp [dq, sq, sm]
  | x :: r => by
    have := dq_eq y r
    simp only [dq, sq, sm, List.length_cons, Int.natCast_add, Int.cast_ofNat_Int, this]
    grind
theorem apA_cons (y : Int) (xs : List Int) : apA (y :: xs) = apA xs + dq y xs := by
  have := dq_eq y xs
  simp only [apA, sq, sm, List.length_cons, Int.natCast_add, Int.cast_ofNat_Int, this]
  grind
theorem sq_pos (a : Int) : 0 ≤ a * a := by
  rcases Int.le_total 0 a with h | h
  · exact Int.mul_nonneg h h
  · exact Int.mul_nonneg_of_nonpos_of_nonpos h h
theorem dq_pos (y : Int) : ∀ xs : List Int, 0 ≤ dq y xs
  | [] => Int.le_refl _
  | x :: r => by
    have h1 := dq_pos y r
    have h2 := sq_pos (x - y)
    simp only [dq]
    omega
theorem dq_zero (y : Int) : ∀ xs : List Int, dq y xs = 0 ↔ ∀ x ∈ xs, x = y
  | [] => by simp [dq]
  | x :: r => by
    have h1 := dq_pos y r
    have h2 := sq_pos (x - y)
    have ih := dq_zero y r
    simp only [dq, List.mem_cons, forall_eq_or_imp]
    constructor
    · intro h
      have h3 : (x - y) * (x - y) = 0 := by omega
      have h4 : x - y = 0 := by
        rcases Int.mul_eq_zero.1 h3 with h | h <;> exact h
      exact ⟨by omega, ih.1 (by omega)⟩
    · rintro ⟨rfl, h⟩
      have := ih.2 h
      rw [this]
      simp
theorem apA_pos : ∀ xs : List Int, 0 ≤ apA xs
  | [] => by simp [apA, sq, sm]
  | y :: r => by
    have h1 := apA_pos r
    have h2 := dq_pos y r
    rw [apA_cons]
    omega
theorem apA_zero : ∀ xs : List Int, apA xs = 0 ↔ ∀ x ∈ xs, ∀ y ∈ xs, x = y
  | [] => by simp [apA, sq, sm]
  | y :: r => by
    have h1 := apA_pos r
    have h2 := dq_pos y r
    have ih := apA_zero r
    rw [apA_cons]
    constructor
    · intro h
      have h3 := (dq_zero y r).1 (by omega)
      intro a ha b hb
      have e1 : a = y := (List.mem_cons.1 ha).elim id (h3 a)
      have e2 : b = y := (List.mem_cons.1 hb).elim id (h3 b)
      rw [e1, e2]
    · intro h
      have h3 : apA r = 0 := ih.2 fun a ha b hb => h a (List.mem_cons_of_mem _ ha) b (List.mem_cons_of_mem _ hb)
      have h4 : dq y r = 0 := (dq_zero y r).2 fun a ha => h a (List.mem_cons_of_mem _ ha) y (by simp)
      omega
def In10 (xs : List Int) : Prop := ∀ x ∈ xs, 0 ≤ x ∧ x ≤ 10
theorem dq_le {y : Int} (hy : 0 ≤ y ∧ y ≤ 10) : ∀ {xs : List Int}, In10 xs → dq y xs ≤ 100 * xs.length
  | [], _ => by simp [dq]
  | x :: r, h => by
    have ih := dq_le hy (xs := r) fun a ha => h a (List.mem_cons_of_mem _ ha)
    have hx := h x (by simp)
    have h2 : (x - y) * (x - y) ≤ 10 * 10 := by
      rcases Int.le_total 0 (x - y) with h' | h'
      · exact Int.mul_le_mul (by omega) (by omega) h' (by omega)
      · have e : (x - y) * (x - y) = (y - x) * (y - x) := by grind
        rw [e]
        exact Int.mul_le_mul (by omega) (by omega) (by omega) (by omega)
    simp only [dq, List.length_cons, Int.natCast_add, Int.cast_ofNat_Int]
    omega
theorem apA_le : ∀ {xs : List Int}, In10 xs → apA xs ≤ 50 * ((xs.length : Int) * xs.length)
  | [], _ => by simp [apA, sq, sm]
  | y :: r, h => by
    have ih := apA_le (xs := r) fun a ha => h a (List.mem_cons_of_mem _ ha)
    have h2 := dq_le (h y (by simp)) (xs := r) fun a ha => h a (List.mem_cons_of_mem _ ha)
    rw [apA_cons]
    simp only [List.length_cons, Int.natCast_add, Int.cast_ofNat_Int]
    have e : ((r.length : Int) + 1) * ((r.length : Int) + 1) = (r.length : Int) * r.length + 2 * r.length + 1 := by grind
    rw [e]
    omega
theorem sm_range : ∀ {xs : List Int}, In10 xs → 0 ≤ sm xs ∧ sm xs ≤ 10 * xs.length
  | [], _ => by simp [sm]
  | y :: r, h => by
    have ih := sm_range (xs := r) fun a ha => h a (List.mem_cons_of_mem _ ha)
    have hy := h y (by simp)
    simp only [sm, List.length_cons, Int.natCast_add, Int.cast_ofNat_Int]
    omega
theorem sq_range : ∀ {xs : List Int}, In10 xs → 0 ≤ sq xs ∧ sq xs ≤ 100 * xs.length
  | [], _ => by simp [sq]
  | y :: r, h => by
    have ih := sq_range (xs := r) fun a ha => h a (List.mem_cons_of_mem _ ha)
    have hy := h y (by simp)
    have h1 : y * y ≤ 10 * 10 := Int.mul_le_mul hy.2 hy.2 hy.1 (by omega)
    have h2 := sq_pos y
    simp only [sq, List.length_cons, Int.natCast_add, Int.cast_ofNat_Int]
    omega
/-! fractions -/
theorem low_spec (a b : Int) (hb : 1 ≤ b) : ∃ g : Int, 1 ≤ g ∧ a = (low a b).1 * g ∧ b = (low a b).2 * g :=
  ⟨(Int.gcd a b : Int), gcd_pos a b hb, (Int.tdiv_mul_cancel (Int.gcd_dvd_left a b)).symm, (Int.tdiv_mul_cancel (Int.gcd_dvd_right a b)).symm⟩
theorem low_self (b : Int) (hb : 1 ≤ b) : low b b = (1, 1) := by
  have e : (Int.gcd b b : Int) = b := by rw [Int.gcd_self]; omega
  unfold low
  rw [e, Int.tdiv_self (by omega)]
theorem low_one {a b : Int} (hb : 1 ≤ b) : low a b = (1, 1) ↔ a = b := by
  constructor
  · intro h
    obtain ⟨g, h1, h2, h3⟩ := low_spec a b hb
    rw [h] at h2 h3
    simp only at h2 h3
    omega
  · rintro rfl
    exact low_self a hb
theorem low_zero (b : Int) (hb : 1 ≤ b) : low 0 b = (0, 1) := by
  have e : (Int.gcd 0 b : Int) = b := by rw [Int.gcd_zero_left]; omega
  unfold low
  rw [e, Int.tdiv_self (by omega), Int.zero_tdiv]
theorem low_den {a b : Int} (hb : 1 ≤ b) : 1 ≤ (low a b).2 ∧ (low a b).2 ≤ b := by
  obtain ⟨g, h1, h2, h3⟩ := low_spec a b hb
  generalize (low a b).2 = d at *
  have h4 : 1 ≤ d := by
    rcases Int.lt_or_le 0 d with h | h
    · omega
    · have := Int.mul_nonneg (a := -d) (b := g) (by omega) (by omega)
      have e : -d * g = -(d * g) := Int.neg_mul d g
      omega
  have h5 : d * 1 ≤ d * g := Int.mul_le_mul_of_nonneg_left h1 (by omega)
  omega
theorem low_le {a b c : Int} (hb : 1 ≤ b) (h : a ≤ c * b) : (low a b).1 ≤ c * (low a b).2 := by
  obtain ⟨g, h1, h2, h3⟩ := low_spec a b hb
  generalize (low a b).1 = u at *
  generalize (low a b).2 = d at *
  have e : c * b = (c * d) * g := by rw [h3]; grind
  rw [h2, e] at h
  exact Int.le_of_mul_le_mul_right h (by omega)
theorem low_nonneg {a b : Int} (hb : 1 ≤ b) (h : 0 ≤ a) : 0 ≤ (low a b).1 := by
  obtain ⟨g, h1, h2, h3⟩ := low_spec a b hb
  generalize (low a b).1 = u at *
  rcases Int.lt_or_le u 0 with hu | hu
  · have := Int.mul_pos (a := -u) (b := g) (by omega) (by omega)
    have e : -u * g = -(u * g) := Int.neg_mul u g
    omega
  · exact hu
theorem low_num0 {a b : Int} (hb : 1 ≤ b) : (low a b).1 = 0 ↔ a = 0 := by
  obtain ⟨g, h1, h2, h3⟩ := low_spec a b hb
  constructor
  · intro h
    rw [h] at h2
    simpa using h2
  · intro h
    rw [h] at h2
    rw [h]
    rcases Int.mul_eq_zero.1 h2.symm with h4 | h4
    · exact h4
    · omega
/-- Within papers: a paper more. -/
def wStep (w : Int × Int) (s : List Int) : Int × Int :=
  low (w.1 * (low (2 * apA s) ((s.length : Int) - 1)).2 + (low (2 * apA s) ((s.length : Int) - 1)).1 * w.2) (w.2 * (low (2 * apA s) ((s.length : Int) - 1)).2)
structure WOk (w : Int × Int) (t : Nat) : Prop where
  d1 : 1 ≤ w.2
  d2 : w.2 ≤ (2 : Int) ^ t
  n1 : 0 ≤ w.1
  n2 : w.1 ≤ 100 * ((t : Int) * t) * w.2
theorem one_pow2 (n : Nat) : (1 : Int) ≤ (2 : Int) ^ n := by
  induction n with
  | zero => decide
  | succ n ih => rw [Int.pow_succ]; omega
theorem two_pow (n : Nat) : (n : Int) ≤ (2 : Int) ^ n := by
  induction n with
  | zero => decide
  | succ n ih =>
    have := one_pow2 n
    rw [Int.pow_succ, Int.natCast_add]
    simp only [Int.cast_ofNat_Int]
    omega
theorem WOk.zero : WOk (0, 1) 0 := ⟨by simp, by simp, by simp, by simp⟩
theorem WOk.step {w : Int × Int} {t : Nat} (h : WOk w t) {s : List Int} (hl : 2 ≤ s.length) (hs : In10 s) : WOk (wStep w s) (t + s.length) ∧ ((wStep w s).1 = 0 ↔ w.1 = 0 ∧ apA s = 0) := by
  have hA0 := apA_pos s
  have hA1 := apA_le hs
  have hn1 : (1 : Int) ≤ (s.length : Int) - 1 := by omega
  have hq := low_den (a := 2 * apA s) hn1
  have hq2 := low_nonneg hn1 (show 0 ≤ 2 * apA s by omega)
  have hqc : 2 * apA s ≤ (2 * apA s) * ((s.length : Int) - 1) := by
    have := Int.mul_le_mul_of_nonneg_left hn1 (show 0 ≤ 2 * apA s by omega)
    omega
  have hq3 := low_le (c := 2 * apA s) hn1 hqc
  have hq0 := low_num0 (a := 2 * apA s) hn1
  unfold wStep
  generalize low (2 * apA s) ((s.length : Int) - 1) = q at *
  obtain ⟨q1, q2⟩ := q
  obtain ⟨w1, w2⟩ := w
  obtain ⟨d1, d2, n1, n2⟩ := h
  simp only at hq hq2 hq3 hq0 d1 d2 n1 n2 ⊢
  have hr2 : 1 ≤ w2 * q2 := by
    have := Int.mul_le_mul d1 hq.1 (by omega) (by omega)
    omega
  have a1 : 0 ≤ w1 * q2 := Int.mul_nonneg n1 (by omega)
  have a2 : 0 ≤ q1 * w2 := Int.mul_nonneg hq2 (by omega)
  have hld := low_den (a := w1 * q2 + q1 * w2) hr2
  have hln := low_nonneg hr2 (show 0 ≤ w1 * q2 + q1 * w2 by omega)
  have hl0 := low_num0 (a := w1 * q2 + q1 * w2) hr2
  have hp : w1 * q2 + q1 * w2 ≤ (100 * ((t + s.length : Nat) * (t + s.length : Nat) : Int)) * (w2 * q2) := by
    have b1 : w1 * q2 ≤ (100 * ((t : Int) * t) * w2) * q2 := Int.mul_le_mul_of_nonneg_right n2 (by omega)
    have b2 : q1 * w2 ≤ (2 * apA s * q2) * w2 := Int.mul_le_mul_of_nonneg_right hq3 (by omega)
    have b3 : (2 * apA s * q2) * w2 ≤ (100 * ((s.length : Int) * s.length)) * (w2 * q2) := by
      have : (2 * apA s) * (w2 * q2) ≤ (100 * ((s.length : Int) * s.length)) * (w2 * q2) := Int.mul_le_mul_of_nonneg_right (by omega) (by omega)
      have e : (2 * apA s * q2) * w2 = (2 * apA s) * (w2 * q2) := by grind
      omega
    have b4 : (100 * ((t : Int) * t) * w2) * q2 = (100 * ((t : Int) * t)) * (w2 * q2) := by grind
    have b5 : (100 * ((t : Int) * t)) * (w2 * q2) + (100 * ((s.length : Int) * s.length)) * (w2 * q2) ≤ (100 * ((t + s.length : Nat) * (t + s.length : Nat) : Int)) * (w2 * q2) := by
      rw [← Int.add_mul]
      refine Int.mul_le_mul_of_nonneg_right ?_ (by omega)
      rw [Int.natCast_add]
      have e : ((t : Int) + s.length) * ((t : Int) + s.length) = (t : Int) * t + 2 * ((t : Int) * s.length) + (s.length : Int) * s.length := by grind
      have : 0 ≤ (t : Int) * s.length := Int.mul_nonneg (by omega) (by omega)
      rw [e]
      omega
    omega
  have hll := low_le hr2 hp
  refine ⟨⟨hld.1, ?_, hln, hll⟩, ?_⟩
  · have c1 : q2 ≤ (2 : Int) ^ s.length := by have := two_pow s.length; omega
    have c2 : w2 * q2 ≤ (2 : Int) ^ t * 2 ^ s.length := Int.mul_le_mul d2 c1 (by omega) (by omega)
    rw [Int.pow_add]
    exact Int.le_trans hld.2 c2
  · rw [hl0]
    constructor
    · intro h
      have e1 : w1 * q2 = 0 := by omega
      have e2 : q1 * w2 = 0 := by omega
      refine ⟨?_, ?_⟩
      · rcases Int.mul_eq_zero.1 e1 with h | h
        · exact h
        · omega
      · have : q1 = 0 := by
          rcases Int.mul_eq_zero.1 e2 with h | h
          · exact h
          · omega
        have := hq0.1 this
        omega
    · rintro ⟨h1, h2⟩
      have : q1 = 0 := hq0.2 (by omega)
      rw [h1, this]
      simp
end Go.AX

namespace Go.AX
def scs (ms : List Mk) : List Int := ms.map (·.2.2)
theorem scs_app (a b : List Mk) : scs (a ++ b) = scs a ++ scs b := by simp [scs]
theorem scs_len (a : List Mk) : (scs a).length = a.length := by simp [scs]
abbrev AgZ := (Int × Int) × List Mk
def agS (L : Str → List Mk) (z : AgZ) (p : Str) : AgZ := if 2 ≤ (L p).length then (wStep z.1 (scs (L p)), z.2 ++ L p) else z
def agZ (L : Str → List Mk) (ks : List Str) : AgZ := ks.foldl (agS L) ((0, 1), [])
theorem agZ_snoc (L : Str → List Mk) (ks : List Str) (p : Str) : agZ L (ks ++ [p]) = agS L (agZ L ks) p := by unfold agZ; rw [List.foldl_append]; rfl
theorem sum_le : ∀ (ks : List Str) (ms : List Mk), ks.Nodup → (ks.map fun p => (gP ms p).length).sum ≤ ms.length
  | [], _, _ => by simp
  | p :: r, ms, h => by
    rw [List.nodup_cons] at h
    have ih := sum_le r (ms.filter fun m => !(m.1 == p)) h.2
    have e : (r.map fun q => (gP (ms.filter fun m => !(m.1 == p)) q).length) = r.map fun q => (gP ms q).length := by
      refine List.map_congr_left fun q hq => ?_
      have hne : q ≠ p := fun e => h.1 (e ▸ hq)
      unfold gP
      rw [List.filter_filter]
      congr 1
      refine List.filter_congr fun m _ => ?_
      by_cases h1 : m.1 = q
      · have : m.1 ≠ p := by rw [h1]; exact hne
        simp [h1, hne]
      · simp [h1]
    rw [e] at ih
    have hp : (gP ms p).length + (ms.filter fun m => !(m.1 == p)).length = ms.length := by
      unfold gP
      have : ∀ l : List Mk, (l.filter fun m => m.1 == p).length + (l.filter fun m => !(m.1 == p)).length = l.length := by
        intro l
        induction l with
        | nil => rfl
        | cons x l ih =>
          by_cases hx : x.1 = p
          · simp [hx]; omega
          · simp [hx]; omega
      exact this ms
    simp only [List.map_cons, List.sum_cons]
    omega
theorem agZ_len (ms : List Mk) : ∀ (ks : List Str), (agZ (gP ms) ks).2.length ≤ (ks.map fun p => (gP ms p).length).sum := by
  have h : ∀ (ks : List Str) (z : AgZ), (ks.foldl (agS (gP ms)) z).2.length ≤ z.2.length + (ks.map fun p => (gP ms p).length).sum := by
    intro ks
    induction ks with
    | nil => intro z; simp
    | cons p r ih =>
      intro z
      have := ih (agS (gP ms) z p)
      have h2 : (agS (gP ms) z p).2.length ≤ z.2.length + (gP ms p).length := by
        unfold agS
        split
        · simp
        · omega
      simp only [List.foldl_cons, List.map_cons, List.sum_cons]
      omega
  intro ks
  have := h ks ((0, 1), [])
  simpa [agZ] using this
theorem take_nodup {ks : List Str} (h : ks.Nodup) (n : Nat) : (ks.take n).Nodup := List.Sublist.nodup (List.take_sublist n ks) h
theorem agZ_le {ms : List Mk} {ks : List Str} (h : ks.Nodup) (n : Nat) : (agZ (gP ms) (ks.take n)).2.length ≤ ms.length :=
  Nat.le_trans (agZ_len ms _) (sum_le _ ms (take_nodup h n))
theorem gP_in {ms : List Mk} (h : In10 (scs ms)) (p : Str) : In10 (scs (gP ms p)) := by
  intro x hx
  obtain ⟨m, hm, rfl⟩ := List.mem_map.1 hx
  exact h m.2.2 (List.mem_map_of_mem (List.mem_filter.1 hm).1)
theorem in_app {a b : List Int} (h1 : In10 a) (h2 : In10 b) : In10 (a ++ b) := fun x hx => by
  rcases List.mem_append.1 hx with h | h
  · exact h1 x h
  · exact h2 x h
/-- What is known of the sums over papers. -/
structure AgI (ms : List Mk) (ks : List Str) (z : AgZ) : Prop where
  w : WOk z.1 z.2.length
  i : In10 (scs z.2)
  zero : z.1.1 = 0 ↔ ∀ p ∈ ks, 2 ≤ (gP ms p).length → apA (scs (gP ms p)) = 0
  mem : ∀ m, m ∈ z.2 ↔ ∃ p ∈ ks, 2 ≤ (gP ms p).length ∧ m ∈ gP ms p
theorem agI (ms : List Mk) (h : In10 (scs ms)) : ∀ ks : List Str, AgI ms ks (agZ (gP ms) ks) := by
  intro ks
  have hn : ∀ (n : Nat), n ≤ ks.length → AgI ms (ks.take n) (agZ (gP ms) (ks.take n)) := by
    intro n
    induction n with
    | zero => intro _; exact ⟨WOk.zero, by simp [agZ, scs, In10], by simp [agZ], by simp [agZ]⟩
    | succ n ih =>
      intro hl
      have ih := ih (by omega)
      obtain ⟨p, hp, -, -⟩ := get_some (l := ks) (i := n) (by omega)
      have e : ks.take (n + 1) = ks.take n ++ [p] := by rw [List.take_add_one, hp]; rfl
      rw [e, agZ_snoc]
      generalize agZ (gP ms) (ks.take n) = z at *
      unfold agS
      split
      · rename_i h2
        obtain ⟨s1, s2⟩ := ih.w.step (s := scs (gP ms p)) (by rw [scs_len]; exact h2) (gP_in h p)
        refine ⟨?_, ?_, ?_, ?_⟩
        · simp only [List.length_append]
          rwa [scs_len] at s1
        · simp only [scs_app]
          exact in_app ih.i (gP_in h p)
        · simp only
          rw [s2, ih.zero]
          constructor
          · rintro ⟨a, b⟩ q hq hq2
            rcases List.mem_append.1 hq with hq | hq
            · exact a q hq hq2
            · obtain rfl := List.mem_singleton.1 hq; exact b
          · intro a
            exact ⟨fun q hq => a q (List.mem_append_left _ hq), a p (by simp) h2⟩
        · intro m
          simp only [List.mem_append, ih.mem]
          constructor
          · rintro (⟨q, hq, a, b⟩ | hm)
            · exact ⟨q, .inl hq, a, b⟩
            · exact ⟨p, .inr (by simp), h2, hm⟩
          · rintro ⟨q, hq | hq, a, b⟩
            · exact .inl ⟨q, hq, a, b⟩
            · obtain rfl := List.mem_singleton.1 hq; exact .inr b
      · rename_i h2
        refine ⟨ih.w, ih.i, ?_, ?_⟩
        · rw [ih.zero]
          constructor
          · intro a q hq hq2
            rcases List.mem_append.1 hq with hq | hq
            · exact a q hq hq2
            · obtain rfl := List.mem_singleton.1 hq; exact absurd hq2 h2
          · exact fun a q hq => a q (List.mem_append_left _ hq)
        · intro m
          rw [ih.mem]
          constructor
          · rintro ⟨q, hq, a, b⟩; exact ⟨q, List.mem_append_left _ hq, a, b⟩
          · rintro ⟨q, hq, a, b⟩
            rcases List.mem_append.1 hq with hq | hq
            · exact ⟨q, hq, a, b⟩
            · obtain rfl := List.mem_singleton.1 hq; exact absurd a h2
  have := hn ks.length (Nat.le_refl _)
  rwa [List.take_length] at this
/-- The agreement: what is handed back. -/
def agR (z : AgZ) : Int × Int := if 2 * apA (scs z.2) = 0 then (1, 1) else low (z.1.2 * (2 * apA (scs z.2)) - ((z.2.length : Int) - 1) * z.1.1) (z.1.2 * (2 * apA (scs z.2)))
/-- All marks of each paper are equal. -/
def Uni (ms : List Mk) : Prop := ∀ x ∈ ms, ∀ y ∈ ms, x.1 = y.1 → x.2.2 = y.2.2
/-- All marks of papers with two marks are equal. -/
def AllQ (ms : List Mk) : Prop := ∀ x ∈ ms, ∀ y ∈ ms, 2 ≤ (gP ms x.1).length → 2 ≤ (gP ms y.1).length → x.2.2 = y.2.2
structure AgOk (ms : List Mk) (r : Int × Int) : Prop where
  le : r.1 ≤ r.2
  one : r = (1, 1) ↔ Uni ms ∨ AllQ ms
theorem mem_gP {ms : List Mk} {m : Mk} {p : Str} : m ∈ gP ms p ↔ m ∈ ms ∧ m.1 = p := by
  unfold gP
  rw [List.mem_filter]
  simp
theorem apA_scs {xs : List Mk} : apA (scs xs) = 0 ↔ ∀ x ∈ xs, ∀ y ∈ xs, x.2.2 = y.2.2 := by
  rw [apA_zero]
  constructor
  · intro h x hx y hy
    exact h _ (List.mem_map_of_mem hx) _ (List.mem_map_of_mem hy)
  · intro h a ha b hb
    obtain ⟨x, hx, rfl⟩ := List.mem_map.1 ha
    obtain ⟨y, hy, rfl⟩ := List.mem_map.1 hb
    exact h x hx y hy
theorem two_of {xs : List Mk} {x y : Mk} (hx : x ∈ xs) (hy : y ∈ xs) (hne : x ≠ y) : 2 ≤ xs.length := by
  match xs, hx, hy with
  | [], h, _ => simp at h
  | [a], h1, h2 => exact absurd ((List.mem_singleton.1 h1).trans (List.mem_singleton.1 h2).symm) hne
  | _ :: _ :: _, _, _ => simp
theorem agOk {ms : List Mk} {ks : List Str} (h : In10 (scs ms)) (hk : ∀ p, p ∈ ks ↔ gP ms p ≠ []) : AgOk ms (agR (agZ (gP ms) ks)) := by
  have hI := agI ms h ks
  generalize agZ (gP ms) ks = z at *
  have hd0 := apA_pos (scs z.2)
  have hmk : ∀ x ∈ ms, x.1 ∈ ks := fun x hx => (hk x.1).2 (List.ne_nil_of_mem (mem_gP.2 ⟨hx, rfl⟩))
  have hU : z.1.1 = 0 ↔ Uni ms := by
    rw [hI.zero]
    constructor
    · intro a x hx y hy e
      by_cases hne : x = y
      · rw [hne]
      · have m1 : x ∈ gP ms x.1 := mem_gP.2 ⟨hx, rfl⟩
        have m2 : y ∈ gP ms x.1 := mem_gP.2 ⟨hy, e.symm⟩
        exact apA_scs.1 (a x.1 (hmk x hx) (two_of m1 m2 hne)) x m1 y m2
    · intro a p _ _
      refine apA_scs.2 fun x hx y hy => ?_
      obtain ⟨a1, a2⟩ := mem_gP.1 hx
      obtain ⟨b1, b2⟩ := mem_gP.1 hy
      exact a x a1 y b1 (a2.trans b2.symm)
  have hQ : apA (scs z.2) = 0 ↔ AllQ ms := by
    rw [apA_scs]
    constructor
    · intro a x hx y hy h1 h2
      exact a x ((hI.mem x).2 ⟨x.1, hmk x hx, h1, mem_gP.2 ⟨hx, rfl⟩⟩) y ((hI.mem y).2 ⟨y.1, hmk y hy, h2, mem_gP.2 ⟨hy, rfl⟩⟩)
    · intro a x hx y hy
      obtain ⟨p, -, p2, p3⟩ := (hI.mem x).1 hx
      obtain ⟨q, -, q2, q3⟩ := (hI.mem y).1 hy
      obtain ⟨x1, rfl⟩ := mem_gP.1 p3
      obtain ⟨y1, rfl⟩ := mem_gP.1 q3
      exact a x x1 y y1 p2 q2
  unfold agR
  split
  · rename_i h0
    exact ⟨by simp, by simp only [true_iff]; exact .inr (hQ.1 (by omega))⟩
  · rename_i h0
    have hd : 1 ≤ 2 * apA (scs z.2) := by omega
    have hb : 1 ≤ z.1.2 * (2 * apA (scs z.2)) := by
      have := Int.mul_le_mul hI.w.d1 hd (by omega) (by have := hI.w.d1; omega)
      omega
    have hN : 2 ≤ z.2.length := by
      match hz : z.2 with
      | [] => rw [hz] at h0; simp [scs, apA, sq, sm] at h0
      | [a] => rw [hz] at h0; exact absurd (by simp [scs, apA, sq, sm]) h0
      | _ :: _ :: _ => simp
    have hw := hI.w.n1
    have hm : 0 ≤ ((z.2.length : Int) - 1) * z.1.1 := Int.mul_nonneg (by omega) hw
    refine ⟨?_, ?_⟩
    · have := low_le (a := z.1.2 * (2 * apA (scs z.2)) - ((z.2.length : Int) - 1) * z.1.1) (c := 1) hb (by omega)
      omega
    · rw [low_one hb]
      constructor
      · intro e
        have e2 : ((z.2.length : Int) - 1) * z.1.1 = 0 := by omega
        rcases Int.mul_eq_zero.1 e2 with h | h
        · omega
        · exact .inl (hU.1 h)
      · rintro (a | a)
        · rw [hU.2 a]; simp
        · exact absurd (by rw [hQ.2 a]; rfl) h0
end Go.AX

namespace Go.AX
open Go Go.Proofs Go.RowKit Go.Sort Go.Shelf
theorem HR.grow {cx : Cx} {hv : Nat → Option O} {σ : Nat → Option Loc} {w : World} (h : HR cx hv σ w) (os : Array Obj) : HR cx hv σ (Go.Sort.grow w os) := by
  have hb : ∀ b, b < w.heap.size → (Go.Sort.grow w os).heap[b]? = w.heap[b]? := fun b hb => by
    show (w.heap ++ os)[b]? = _
    rw [Array.getElem?_append_left hb]
  have hs : w.heap.size ≤ (Go.Sort.grow w os).heap.size := by
    show _ ≤ (w.heap ++ os).size
    rw [Array.size_append]; omega
  have hok : ∀ c, okB cx w hv σ c → okB cx (Go.Sort.grow w os) hv σ c := fun c hc => ⟨hc.1, Nat.lt_of_lt_of_le hc.2.1 hs, hc.2.2⟩
  constructor
  · exact h.os
  · exact h.tape
  · exact h.output
  · exact Nat.le_trans h.size hs
  · intro b hb1 hp
    rw [hb b (Nat.lt_of_lt_of_le hb1 h.size)]
    exact h.frame b hb1 hp
  · intro id o hid
    exact RO_mono (fun b hb2 => ⟨hok b hb2, hb b hb2.2.1⟩) (fun _ _ h => h) (fun b K s hs' => hb b (h.new id o b K s hid hs').2) (h.own id o hid)
  · intro id o b K s a c
    obtain ⟨h1, h2⟩ := h.new id o b K s a c
    exact ⟨h1, Nat.lt_of_lt_of_le h2 hs⟩
  · exact h.inj
abbrev IW (zs : List Int) : O := .vec 3 1 (dv (zs.map (D.int .i64)))
def srtI (zs : List Int) : List Int := zs.mergeSort fun x y => decide (x ≤ y)
theorem srtI_perm (zs : List Int) : (srtI zs).Perm zs := List.mergeSort_perm _ _
theorem putRow_setB {w : World} {b : Nat} {c : Array Value} {e : TypeId} {fr : Nat × Nat} (hb : w.heap[b]? = some (.cells c e fr)) (d : Array Int) : putRow (Value.int .i64) w b 0 d = setB w b (.cells (putCells (Value.int .i64) 0 d c) e fr) := by
  unfold putRow mapBlock setB
  congr 1
  apply Array.ext_getElem?
  intro i
  rw [Array.getElem?_modify, Array.getElem?_setIfInBounds]
  split
  · rename_i hi
    subst hi
    have hl : b < w.heap.size := by
      rcases Nat.lt_or_ge b w.heap.size with h' | h'
      · exact h'
      · simp [Array.getElem?_eq_none h'] at hb
    rw [hb, if_pos hl]
    rfl
  · rfl
theorem sortInts_does (zs : List Int) (hl : zs.length ≤ 1000) : Does Tryz.prog 42 [.slr 0 0 zs.length] [IW zs] (.tup []) [IW (srtI zs)] := by
  refine ⟨⟨Tryz.f42, Tryz.func42, rfl, by kernel_rfl⟩, fun cx σ w vs hgl hr hfr hp1 hp2 hpb hargs => ?_⟩
  have ho := hr.own 0 _ rfl
  simp only [RVl, RV] at hargs
  obtain ⟨v1, us, e1, h1, rfl⟩ := hargs
  have htup : ∀ (w : World) ok σ, RV w ok σ (.tup []) (.tuple #[]) := fun w ok σ => by simp only [RV]; exact ⟨#[], rfl, by simp only [RVl]⟩
  have hvs : vs = #[v1] := by cases vs; simp_all
  subst hvs
  have hnone : ∀ (p : Option Addr) (cap : Nat), zs = [] → Calls Tryz.prog 42 #[.slice p 0 cap] w fun e w' => ∃ v, e = .returned v ∧ ∃ σ', HR cx (hvL [IW (srtI zs)]) σ' w' ∧ (∀ i l, i < [IW zs].length → σ i = some l → σ' i = some l) ∧ (∀ i, [IW (srtI zs)].length ≤ i → σ' i = none) ∧ RV w' (okB cx w' (hvL [IW (srtI zs)]) σ') σ' (.tup []) v := by
    intro p cap hz
    subst hz
    refine (AnyM.slices_Sort_int_none Tryz.sorti42 p cap w).mono ?_
    rintro e w' ⟨rfl, rfl⟩
    have he : hvL [IW (srtI [])] = fun i => [IW []][i]? := by
      funext i
      rcases i with _ | i <;> simp [hvL, srtI, O.lv]
    exact ⟨_, rfl, σ, by rw [he]; exact hr, fun i l _ h => h, hfr, htup _ _ _⟩
  rcases h1 with ⟨hn, -, h0, a0, rfl⟩ | ⟨b, K, s, a, cap, hs, rfl, hnc, hlc, hca⟩
  · exact hnone _ _ (List.eq_nil_of_length_eq_zero h0)
  · rcases ho with ⟨hn, _⟩ | ⟨b', K', c, fr, hs', hb, hf, hcs, hxl, hel⟩
    · rw [hs] at hn; cases hn
    rw [hs] at hs'
    cases hs'
    rcases Nat.eq_zero_or_pos zs.length with hz | hz
    · rw [hz]
      exact hnone _ _ (List.eq_nil_of_length_eq_zero hz)
    obtain rfl : a = ⟨b, 0, none⟩ := by
      rcases hca with h | h
      · omega
      · rw [h]
    have hbl : b < w.heap.size := by
      rcases Nat.lt_or_ge b w.heap.size with h' | h'
      · exact h'
      · simp [Array.getElem?_eq_none h'] at hb
    have hlen : zs.length ≤ c.size := by
      simp only [dv_length, List.length_map] at hxl
      omega
    have hcell : ∀ j, j < zs.length → c[j]? = some (.int .i64 zs[j]!) := by
      intro j hj
      obtain ⟨v, hv, hrv⟩ := RVels_get hel (i := j) (x := .d (.int .i64 zs[j]!)) (by rw [dv_get, List.getElem?_map, List.getElem?_eq_getElem hj, getElem!_pos zs j hj]; rfl)
      simp only [RV, RD] at hrv
      subst hrv
      simp only [ElemAt, Nat.zero_add, Nat.mul_one] at hv
      exact hv.2
    have hH : Holds (Value.int .i64) w b 0 zs.toArray := by
      intro j hj
      simp only [List.size_toArray] at hj
      refine ⟨?_, ?_⟩
      · simp only [World.cell?, hb, Nat.zero_add]
        rw [hcell j hj]
        simp
      · simp only [World.frozen?, hb, Nat.zero_add]
        have := hf j (by omega)
        simpa using this
    refine (AnyM.slices_Sort_int Tryz.sorti42 b 0 cap zs w hH hbl (by omega)).mono ?_
    rintro e w' ⟨rfl, n, os, rfl⟩
    have hr2 : HR cx (fun i => [IW zs][i]?) σ (Go.Sort.ahead w n) := hr.same rfl rfl rfl rfl
    refine ⟨_, rfl, σ, ?_, fun i l _ h => h, hfr, htup _ _ _⟩
    refine HR.grow ?_ os
    rw [putRow_setB (w := Sort.ahead w n) (c := c) (e := 3) (fr := fr) hb]
    have hw := hr2.write (id := 0) (o0 := IW zs) rfl hs (.cells (putCells (Value.int .i64) 0 (srtI zs).toArray c) 3 fr) (IW (srtI zs)) (fun ok' hok' => by
      have hsl : (srtI zs).length = zs.length := (srtI_perm zs).length_eq
      refine .inr ⟨b, K, putCells (Value.int .i64) 0 (srtI zs).toArray c, fr, hs, setB_same hbl, ?_, ?_, ?_, ?_⟩
      · intro i hi
        exact hf i (by simpa [putCells] using hi)
      · simpa [putCells] using hcs
      · simp only [dv_length, List.length_map] at hxl ⊢
        omega
      · refine RVels_of fun i x hx => ?_
        rw [dv_get, List.getElem?_map] at hx
        have hi : i < (srtI zs).length := by
          rcases Nat.lt_or_ge i (srtI zs).length with h' | h'
          · exact h'
          · rw [List.getElem?_eq_none h'] at hx; cases hx
        rw [List.getElem?_eq_getElem hi] at hx
        cases hx
        refine ⟨.int .i64 (srtI zs)[i], ?_, by simp only [RV, RD]⟩
        simp only [ElemAt, Nat.zero_add, Nat.mul_one]
        refine ⟨trivial, ?_⟩
        unfold putCells
        rw [Array.getElem?_mapIdx, Array.getElem?_eq_getElem (by omega)]
        have : i < (srtI zs).toArray.size := by simpa using hi
        simp [this, hi])
    have he : hvL [IW (srtI zs)] = upd (fun i => [IW zs][i]?) 0 (some (IW (srtI zs))) := by
      funext i
      rcases i with _ | i
      · rfl
      · rw [upd_other _ _ (by omega)]
        simp [hvL]
    rw [he]
    exact hw.1
end Go.AX

namespace Go.AX
open Go Go.Proofs Go.RowKit
theorem scs_snoc {ms : List Mk} {i : Nat} {x : Mk} (hx : ms[i]? = some x) : scs (ms.take (i + 1)) = scs (ms.take i) ++ [x.2.2] := by
  rw [List.take_add_one, hx, Option.toList_some, scs_app]
  rfl
theorem take_in {ms : List Mk} (h : In10 (scs ms)) (i : Nat) : In10 (scs (ms.take i)) := by
  intro x hx
  obtain ⟨m, hm, rfl⟩ := List.mem_map.1 hx
  exact h _ (List.mem_map_of_mem (List.mem_of_mem_take hm))
theorem sums_any (ms : List Mk) (hl : ms.length ≤ 1000) (h : In10 (scs ms)) : Does Tryz.prog 79 [.d (.sl (ms.map mkD))] [] (.tup [I (sm (scs ms)), I (sq (scs ms))]) [] := by
  refine Does.of_AW (n := 26) Tryz.func79 rfl rfl rfl fun cx hcx => ?_
  repeat' (first | (refine AW.sreg rfl fun K hK => ?_; simp only [go_sem, Nat.reduceAdd, Nat.reduceMul, Int.reduceToNat, Nat.reduceLT, Nat.reduceLeDiff, Nat.le_refl, Nat.reduceEqDiff, ↓reduceIte, beq_self_eq_true, bne_self_eq_false, Int.reduceBEq, Int.reduceBNe, or_self, true_or, or_true, Option.map_some, Option.map_none, List.length_map]) | (refine AW.seq_k fun K hK => ?_) | (refine AW.block ?_) | (refine hK _ ?_; clear hK K))
  refine AW.loopF (ι := Nat) [6, 7] (fun p => [(2, I (sm (scs (ms.take p)))), (3, I (sq (scs (ms.take p)))), (8, I p)]) (fun p => []) 5 (fun p => p ≤ ms.length) (fun p => ms.length - p) 0 (Nat.zero_le _) (Weak.auto hcx rfl rfl (Nat.le_of_ble_eq_true rfl) (by simp [go_sem, gL, kL, renOf, V.obj, lk, Nat.blt, Nat.ble, List.map_append, dv_push, scs, sm, sq, List.take_zero, List.map_nil]) (by simp [go_sem, gL, kL, renOf, V.obj, lk, Nat.blt, Nat.ble, List.map_append, dv_push, scs, sm, sq, List.take_zero, List.map_nil]) (by first | (intro i hi; exact absurd hi (Nat.not_lt_zero _)) | (intro i0 hi0; match i0, hi0 with | 0, _ => exact ⟨_, rfl⟩ | n0+1, h0 => exact absurd h0 (Nat.not_lt.2 (Nat.le_add_left 1 n0))) | (intro i0 hi0; match i0, hi0 with | 0, _ => exact ⟨_, rfl⟩ | 1, _ => exact ⟨_, rfl⟩ | n0+2, h0 => exact absurd h0 (Nat.not_lt.2 (Nat.le_add_left 2 n0))) | (intro i0 hi0; match i0, hi0 with | 0, _ => exact ⟨_, rfl⟩ | 1, _ => exact ⟨_, rfl⟩ | 2, _ => exact ⟨_, rfl⟩ | n0+3, h0 => exact absurd h0 (Nat.not_lt.2 (Nat.le_add_left 3 n0))) | (intro i0 hi0; match i0, hi0 with | 0, _ => exact ⟨_, rfl⟩ | 1, _ => exact ⟨_, rfl⟩ | 2, _ => exact ⟨_, rfl⟩ | 3, _ => exact ⟨_, rfl⟩ | n0+4, h0 => exact absurd h0 (Nat.not_lt.2 (Nat.le_add_left 4 n0)))) (by simp [go_sem, gL, kL, lk, renOf, V.obj, Nat.blt, Nat.ble, scs, sm, sq, List.take_zero, List.map_nil])) ?_; simp only [St.at_nil, St.at_cons, lk, Nat.reduceEqDiff, ↓reduceIte, Option.getD_some, Option.getD_none, List.cons_append, List.nil_append, List.append_nil]
  intro i h1
  by_cases hi : i < ms.length
  · obtain ⟨x, hx, hxm, -⟩ := get_some hi
    have hget : (ms.map mkD)[i]? = some (mkD x) := by simp only [List.getElem?_map, hx, Option.map_some]
    have hs := scs_snoc hx
    have h2 := take_in h i
    have r1 := sm_range h2
    have r2 := sq_range h2
    rw [scs_len, List.length_take] at r1 r2
    have hxs := h x.2.2 (List.mem_map_of_mem hxm)
    have e1 := sm_snoc (scs (ms.take i)) x.2.2
    have e2 := sq_snoc (scs (ms.take i)) x.2.2
    rw [← hs] at e1 e2
    have r3 : 0 ≤ x.2.2 * x.2.2 ∧ x.2.2 * x.2.2 ≤ 10 * 10 := ⟨sq_pos _, Int.mul_le_mul hxs.2 hxs.2 hxs.1 (by omega)⟩
    generalize sm (scs (ms.take i)) = a at *
    generalize sq (scs (ms.take i)) = b at *
    repeat' (first | ((first | refine AW.sreg rfl fun K hK => ?_ | refine AW.reg rfl ?_ | refine AW.regD hmix rfl ?_); simp only [go_sem, Nat.reduceAdd, Nat.reduceMul, Int.reduceToNat, Nat.reduceLT, Nat.reduceLeDiff, Nat.le_refl, Nat.reduceEqDiff, ↓reduceIte, beq_self_eq_true, bne_self_eq_false, Int.reduceBEq, Int.reduceBNe, or_self, true_or, or_true, Option.map_some, Option.map_none, List.length_map, hget]) | (refine AW.seq_k fun K hK => ?_) | (refine AW.block ?_) | (refine AW.skip ?_; simp only [Then, InBlock]) | (refine AW.condT rfl (by first | rfl | (simp; omega) | (simp [*]; done) | fail) ?_) | (refine hK _ ?_; clear hK K) | (with_reducible refine And.intro (?_ : regOk _ _ = true) ?_; kernel_rfl) | (with_reducible refine And.intro ?_ ?_; first | omega | assumption | (focus (decide)) | (focus (simp; done)) | (focus (simp; omega)) | (focus (constructor <;> omega)) | fail))
    exact ⟨i + 1, hi, by omega, (Weak.auto hcx rfl rfl (Nat.le_of_ble_eq_true rfl) (by simp [go_sem, gL, kL, renOf, V.obj, lk, Nat.blt, Nat.ble, List.map_append, dv_push, e1, e2]) (by simp [go_sem, gL, kL, renOf, V.obj, lk, Nat.blt, Nat.ble, List.map_append, dv_push, e1, e2]) (by first | (intro i hi; exact absurd hi (Nat.not_lt_zero _)) | (intro i0 hi0; match i0, hi0 with | 0, _ => exact ⟨_, rfl⟩ | n0+1, h0 => exact absurd h0 (Nat.not_lt.2 (Nat.le_add_left 1 n0))) | (intro i0 hi0; match i0, hi0 with | 0, _ => exact ⟨_, rfl⟩ | 1, _ => exact ⟨_, rfl⟩ | n0+2, h0 => exact absurd h0 (Nat.not_lt.2 (Nat.le_add_left 2 n0))) | (intro i0 hi0; match i0, hi0 with | 0, _ => exact ⟨_, rfl⟩ | 1, _ => exact ⟨_, rfl⟩ | 2, _ => exact ⟨_, rfl⟩ | n0+3, h0 => exact absurd h0 (Nat.not_lt.2 (Nat.le_add_left 3 n0))) | (intro i0 hi0; match i0, hi0 with | 0, _ => exact ⟨_, rfl⟩ | 1, _ => exact ⟨_, rfl⟩ | 2, _ => exact ⟨_, rfl⟩ | 3, _ => exact ⟨_, rfl⟩ | n0+4, h0 => exact absurd h0 (Nat.not_lt.2 (Nat.le_add_left 4 n0)))) (by simp [go_sem, gL, kL, lk, renOf, V.obj, Nat.blt, Nat.ble, e1, e2]))⟩
  · obtain rfl : i = ms.length := by omega
    rw [List.take_length]
    repeat' (first | (refine AW.sreg rfl fun K hK => ?_; simp only [go_sem, Nat.reduceAdd, Nat.reduceMul, Int.reduceToNat, Nat.reduceLT, Nat.reduceLeDiff, Nat.le_refl, Nat.reduceEqDiff, ↓reduceIte, beq_self_eq_true, bne_self_eq_false, Int.reduceBEq, Int.reduceBNe, or_self, true_or, or_true, Option.map_some, Option.map_none, List.length_map]) | (refine AW.seq_k fun K hK => ?_) | (refine AW.exit ?_; simp only [go_sem, ↓reduceIte]) | (refine AW.condF rfl (by first | rfl | (simp; omega) | (simp [*]; done) | fail) ?_) | (refine hK _ ?_; clear hK K) | (clear hK K; refine hK _ ?_; clear hK K) | (refine AW.ret (Fin.data rfl (by first | (simp only [go_sem]; done) | (simp [go_sem, *]; done) | (simp [go_sem]; omega) | rfl) rfl)))
theorem apart_any (ms : List Mk) (hl : ms.length ≤ 1000) (h : In10 (scs ms)) : Does Tryz.prog 40 [.d (.sl (ms.map mkD))] [] (I (2 * apA (scs ms))) [] := by
  have hs := sums_any ms hl h
  have r1 := sm_range h
  have r2 := sq_range h
  have r0 := apA_pos (scs ms)
  have r4 := apA_le h
  unfold apA at *
  rw [scs_len] at *
  generalize sm (scs ms) = a at *
  generalize sq (scs ms) = b at *
  have m1 : 0 ≤ (ms.length : Int) * b ∧ (ms.length : Int) * b ≤ 1000 * (100 * 1000) := ⟨Int.mul_nonneg (by omega) r2.1, Int.mul_le_mul (by omega) (by omega) r2.1 (by omega)⟩
  have m2 : 0 ≤ a * a ∧ a * a ≤ (10 * 1000) * (10 * 1000) := ⟨sq_pos _, Int.mul_le_mul (by omega) (by omega) r1.1 (by omega)⟩
  clear r4
  refine Does.of_AW (n := 19) Tryz.func40 rfl rfl rfl fun cx hcx => ?_
  repeat' (first | ((first | refine AW.sreg rfl fun K hK => ?_ | refine run_call _ _ _ ((hs).pure rfl rfl _ _) rfl rfl (dstOk_of rfl) rfl rfl rfl ?_); simp only [go_sem, Nat.reduceAdd, Nat.reduceMul, Int.reduceToNat, Nat.reduceLT, Nat.reduceLeDiff, Nat.le_refl, Nat.reduceEqDiff, ↓reduceIte, beq_self_eq_true, bne_self_eq_false, Int.reduceBEq, Int.reduceBNe, or_self, true_or, or_true, Option.map_some, Option.map_none, List.length_map]) | (refine hK _ ?_; clear hK K) | (with_reducible refine And.intro ?_ ?_; first | omega | assumption | (focus (decide)) | (focus (simp; done)) | (focus (simp; omega)) | (focus (constructor <;> omega)) | fail) | (refine AW.ret (Fin.data rfl (by first | (simp only [go_sem]; done) | (simp [go_sem, *]; done) | (simp [go_sem]; omega) | rfl) rfl)))
theorem plus_any (a b c d : Int) (ha : 0 ≤ a ∧ a ≤ 10000000000) (hb : 1 ≤ b ∧ b ≤ 1000000) (hc : 0 ≤ c ∧ c ≤ 1000000) (hd : 1 ≤ d ∧ d ≤ 1000000) :
    Does Tryz.prog 38 [.d (Fr a b), .d (Fr c d)] [] (.d (Fr (low (a * d + c * b) (b * d)).1 (low (a * d + c * b) (b * d)).2)) [] := by
  have m1 : 0 ≤ a * d ∧ a * d ≤ 10000000000 * 1000000 := ⟨Int.mul_nonneg (by omega) (by omega), Int.mul_le_mul (by omega) (by omega) (by omega) (by omega)⟩
  have m2 : 0 ≤ c * b ∧ c * b ≤ 1000000 * 1000000 := ⟨Int.mul_nonneg (by omega) (by omega), Int.mul_le_mul (by omega) (by omega) (by omega) (by omega)⟩
  have m3 : 1 ≤ b * d ∧ b * d ≤ 1000000 * 1000000 := ⟨by have := Int.mul_le_mul hb.1 hd.1 (by omega) (by omega); omega, Int.mul_le_mul (by omega) (by omega) (by omega) (by omega)⟩
  have hlw := lowest_any (a * d + c * b) (b * d) (by omega) (by omega)
  generalize low (a * d + c * b) (b * d) = r at *
  refine Does.of_AW (n := 22) Tryz.func38 rfl rfl rfl fun cx hcx => ?_
  repeat' (first | ((first | refine AW.sreg rfl fun K hK => ?_ | refine run_call _ _ _ ((hlw).pure rfl rfl _ _) rfl rfl (dstOk_of rfl) rfl rfl rfl ?_); simp only [go_sem, Nat.reduceAdd, Nat.reduceMul, Int.reduceToNat, Nat.reduceLT, Nat.reduceLeDiff, Nat.le_refl, Nat.reduceEqDiff, ↓reduceIte, beq_self_eq_true, bne_self_eq_false, Int.reduceBEq, Int.reduceBNe, or_self, true_or, or_true, Option.map_some, Option.map_none]) | (refine hK _ ?_; clear hK K) | (with_reducible refine And.intro ?_ ?_; first | omega | assumption | (focus (decide)) | (focus (simp; done)) | (focus (simp; omega)) | (focus (constructor <;> omega)) | fail))
  all_goals exact AW.ret (Fin.data rfl (by simp [go_sem, fr_size]) rfl)
theorem zero_ok : Does Tryz.prog 36 [] [] (.d (Fr 0 1)) [] := evalsTo_ok CS_ok hmix (by kernel_rfl)
theorem one_ok : Does Tryz.prog 41 [] [] (.d (Fr 1 1)) [] := evalsTo_ok CS_ok hmix (by kernel_rfl)
theorem scores_ok : Does Tryz.prog 9 [] [] (B true) [] := evalsTo_ok CS_ok hmix (by kernel_rfl)
theorem keys_any (ks : List Str) (vs : List D) (hl : ks.length ≤ 1000) (hkl : ∀ k ∈ ks, k.length ≤ 1000000) (hr : ks.Pairwise (fun a b => ltS a b = true)) : Does Tryz.prog 37 [.d (.map (ks.map D.str) vs)] [] (.d (.sl (ks.map D.str))) [] := by
  have hsk := sortedKeys_does ks vs hl hkl (rise_nodupS hr)
  rw [mergeSort_rise hr] at hsk
  refine Does.of_AW (n := 6) Tryz.func37 rfl rfl rfl fun cx hcx => ?_
  repeat' (first | ((first | refine AW.sreg rfl fun K hK => ?_ | refine run_call _ _ _ ((mapsKeys_any _ _).objs [] trivial rfl (by decide) (by simp [go_sem, renOs]) (by simp) (by simp) (by simp [go_sem]) (by simp [go_sem]) (by simp [go_sem]) (by simp [go_sem])) rfl rfl (dstOk_of rfl) rfl rfl rfl ?_ | refine run_call _ _ _ ((hsk).robjs [_] ⟨(by first | rfl | (simp [go_sem]; done) | (simp [go_sem]; rfl)), trivial⟩ rfl (by decide) (by simp) (by simp) (by simp [go_sem]) (by simp [go_sem]) (by simp [go_sem]) (by simp [go_sem])) rfl rfl (dstOk_of rfl) rfl rfl rfl ?_); simp only [go_sem, Nat.reduceAdd, Nat.reduceMul, Int.reduceToNat, Nat.reduceLT, Nat.reduceLeDiff, Nat.le_refl, Nat.reduceEqDiff, ↓reduceIte, beq_self_eq_true, bne_self_eq_false, Int.reduceBEq, Int.reduceBNe, or_self, true_or, or_true, Option.map_some, Option.map_none, Nat.reduceSub, Nat.add_zero]) | (refine hK _ ?_; clear hK K) | (refine AW.ret (Fin.data rfl (by first | (simp only [go_sem]; done) | (simp [go_sem, *]; done) | (simp [go_sem]; omega) | rfl) rfl)))
/-- What every run of the checks needs of marks. -/
structure MkOk (ms : List Mk) (H : List Str) : Prop where
  len : ms.length ≤ 16
  good : GoodM ms
  hH : H.length ≤ 5
  pe : ∀ m ∈ ms, m.2.1 ∈ H
  sh : ∀ m ∈ ms, m.1.length ≤ 1000 ∧ m.2.1.length ≤ 1000
theorem MkOk.i {ms : List Mk} {H : List Str} (h : MkOk ms H) : In10 (scs ms) := by
  intro x hx
  obtain ⟨m, hm, rfl⟩ := List.mem_map.1 hx
  exact h.good.sc m hm
theorem checkedI (ms : List Mk) (H : List Str) (h : MkOk ms H) : DoesI Tryz.prog 35 [.d (.sl (ms.map mkD))] [] (ShOk ms) (fun q => .tup [.d (.ptr [.sl (ms.map mkD), .map (q.1.1.map D.str) q.1.2, .map (q.2.1.map D.str) q.2.2] 0), I 0]) (fun _ => []) := by
  have hc := checkMarks_any ms (by have := h.len; omega) h.sh
  rw [goodP h.good] at hc
  have hs := sheetOfI ms (by have := h.len; omega) h.good H h.hH h.pe
  refine DoesI.of_AW (n := 12) Tryz.func35 rfl rfl rfl fun cx hcx => ?_
  repeat' (first | ((first | refine AW.sreg rfl fun K hK => ?_ | refine run_call _ _ _ ((hc).pure rfl rfl _ _) rfl rfl (dstOk_of rfl) rfl rfl rfl ?_); simp only [go_sem, Nat.reduceAdd, Nat.reduceMul, Int.reduceToNat, Nat.reduceLT, Nat.reduceLeDiff, Nat.le_refl, Nat.reduceEqDiff, ↓reduceIte, beq_self_eq_true, bne_self_eq_false, Int.reduceBEq, Int.reduceBNe, or_self, true_or, or_true, Option.map_some, Option.map_none]) | (refine AW.seq_k fun K hK => ?_) | (refine AW.skip ?_; simp only [Then, InBlock]) | (refine AW.condF rfl (by first | rfl | (simp; omega) | (simp [*]; done) | fail) ?_) | (refine hK _ ?_; clear hK K) | (refine run_callI _ _ _ ((hs).pure rfl (fun _ => rfl) _ _) rfl rfl (dstOk_of rfl) rfl rfl rfl ?_; rintro q hq; (try dsimp only at q); (try dsimp only at hq); simp only [go_sem, Nat.reduceAdd, Nat.reduceMul, Int.reduceToNat, Nat.reduceLT, Nat.reduceLeDiff, Nat.le_refl, Nat.reduceEqDiff, ↓reduceIte, beq_self_eq_true, bne_self_eq_false, Int.reduceBEq, Int.reduceBNe, or_self, true_or, or_true, Option.map_some, Option.map_none]))
  exact AW.ret ⟨q, hq, Fin.data rfl (by simp [go_sem]) rfl⟩
end Go.AX
