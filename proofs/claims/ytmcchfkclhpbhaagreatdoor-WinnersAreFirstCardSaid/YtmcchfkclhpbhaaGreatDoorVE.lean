/- Fractions in lowest terms. -/
import Derived.Test.YtmcchfkclhpbhaaGreatDoorVA
import Derived.Test.YtmcchfkclhpbhaaGreatDoorVD
import Derived.Test.YtmcchfkclhpbhaaGreatDoorVB
import Derived.Test.YtmcchfkclhpbhaaGreatDoorAx36
import Derived.Test.YtmcchfkclhpbhaaGreatDoorAx37
set_option linter.unusedSimpArgs false
set_option linter.unusedVariables false
set_option maxRecDepth 100000
set_option maxHeartbeats 4000000
set_option maxHeartbeats 1000000
set_option maxRecDepth 1000000
set_option linter.unnecessarySimpa false
namespace Go.AX
open Go Go.Proofs
abbrev Fr (a b : Int) : D := .agg [.int .i64 a, .int .i64 b]
theorem gcd_pos (a b : Int) (hb : 1 ≤ b) : 1 ≤ (Int.gcd a b : Int) := by
  have : 0 < Int.gcd a b := Int.gcd_pos_of_ne_zero_right a (by omega)
  omega
/-- A fraction in lowest terms. -/
def low (a b : Int) : Int × Int := (a.tdiv (Int.gcd a b), b.tdiv (Int.gcd a b))
theorem fr_size (h : 32 < Tryz.prog.types.size) : (Tryz.prog.types[32]'h).size = 2 := by kernel_rfl
end Go.AX

namespace Go.AX
def sm : List Int → Int
  | [] => 0
  | x :: r => x + sm r
def sq : List Int → Int
  | [] => 0
  | x :: r => x * x + sq r
/-- How far numbers are apart: n times the sum of the squares, less the square of the sum. -/
def apA (xs : List Int) : Int := (xs.length : Int) * sq xs - sm xs * sm xs
def dq (y : Int) : List Int → Int
  | [] => 0
  | x :: r => (x - y) * (x - y) + dq y r
theorem dq_eq (y : Int) : ∀ xs : List Int, dq y xs = sq xs - 2 * y * sm xs + (xs.length : Int) * (y * y)
  | [] => by simp [dq, sq, sm]
  | x :: r => by
    have := dq_eq y r
    simp only [dq, sq, sm, List.length_cons, Int.natCast_add, Int.cast_ofNat_Int, this]
    grind
theorem apA_cons (y : Int) (xs : List Int) : apA (y :: xs) = apA xs + dq y xs := by
  have := dq_eq y xs
  simp only [apA, sq, sm, List.length_cons, Int.natCast_add, Int.cast_ofNat_Int, this]
  grind
theorem sq_pos (a : Int) : 0 ≤ a * a := by
  rcases Int.le_total 0 a with h | h
  · exact Int.mul_nonneg h h
  · exact Int.mul_nonneg_of_nonpos_of_nonpos h h
theorem dq_pos (y : Int) : ∀ xs : List Int, 0 ≤ dq y xs
  | [] => Int.le_refl _
  | x :: r => by
    have h1 := dq_pos y r
    have h2 := sq_pos (x - y)
    simp only [dq]
    omega
theorem apA_pos : ∀ xs : List Int, 0 ≤ apA xs
  | [] => by simp [apA, sq, sm]
  | y :: r => by
    have h1 := apA_pos r
    have h2 := dq_pos y r
    rw [apA_cons]
    omega
def In10 (xs : List Int) : Prop := ∀ x ∈ xs, 0 ≤ x ∧ x ≤ 10
theorem dq_le {y : Int} (hy : 0 ≤ y ∧ y ≤ 10) : ∀ {xs : List Int}, In10 xs → dq y xs ≤ 100 * xs.length
  | [], _ => by simp [dq]
  | x :: r, h => by
    have ih := dq_le hy (xs := r) fun a ha => h a (List.mem_cons_of_mem _ ha)
    have hx := h x (by simp)
    have h2 : (x - y) * (x - y) ≤ 10 * 10 := by
      rcases Int.le_total 0 (x - y) with h' | h'
      · exact Int.mul_le_mul (by omega) (by omega) h' (by omega)
      · have e : (x - y) * (x - y) = (y - x) * (y - x) := by grind
        rw [e]
        exact Int.mul_le_mul (by omega) (by omega) (by omega) (by omega)
    simp only [dq, List.length_cons, Int.natCast_add, Int.cast_ofNat_Int]
    omega
theorem apA_le : ∀ {xs : List Int}, In10 xs → apA xs ≤ 50 * ((xs.length : Int) * xs.length)
  | [], _ => by simp [apA, sq, sm]
  | y :: r, h => by
    have ih := apA_le (xs := r) fun a ha => h a (List.mem_cons_of_mem _ ha)
    have h2 := dq_le (h y (by simp)) (xs := r) fun a ha => h a (List.mem_cons_of_mem _ ha)
    rw [apA_cons]
    simp only [List.length_cons, Int.natCast_add, Int.cast_ofNat_Int]
    have e : ((r.length : Int) + 1) * ((r.length : Int) + 1) = (r.length : Int) * r.length + 2 * r.length + 1 := by grind
    rw [e]
    omega
theorem low_spec (a b : Int) (hb : 1 ≤ b) : ∃ g : Int, 1 ≤ g ∧ a = (low a b).1 * g ∧ b = (low a b).2 * g :=
  ⟨(Int.gcd a b : Int), gcd_pos a b hb, (Int.tdiv_mul_cancel (Int.gcd_dvd_left a b)).symm, (Int.tdiv_mul_cancel (Int.gcd_dvd_right a b)).symm⟩
theorem low_den {a b : Int} (hb : 1 ≤ b) : 1 ≤ (low a b).2 ∧ (low a b).2 ≤ b := by
  obtain ⟨g, h1, h2, h3⟩ := low_spec a b hb
  generalize (low a b).2 = d at *
  have h4 : 1 ≤ d := by
    rcases Int.lt_or_le 0 d with h | h
    · omega
    · have := Int.mul_nonneg (a := -d) (b := g) (by omega) (by omega)
      have e : -d * g = -(d * g) := Int.neg_mul d g
      omega
  have h5 : d * 1 ≤ d * g := Int.mul_le_mul_of_nonneg_left h1 (by omega)
  omega
theorem low_le {a b c : Int} (hb : 1 ≤ b) (h : a ≤ c * b) : (low a b).1 ≤ c * (low a b).2 := by
  obtain ⟨g, h1, h2, h3⟩ := low_spec a b hb
  generalize (low a b).1 = u at *
  generalize (low a b).2 = d at *
  have e : c * b = (c * d) * g := by rw [h3]; grind
  rw [h2, e] at h
  exact Int.le_of_mul_le_mul_right h (by omega)
theorem low_nonneg {a b : Int} (hb : 1 ≤ b) (h : 0 ≤ a) : 0 ≤ (low a b).1 := by
  obtain ⟨g, h1, h2, h3⟩ := low_spec a b hb
  generalize (low a b).1 = u at *
  rcases Int.lt_or_le u 0 with hu | hu
  · have := Int.mul_pos (a := -u) (b := g) (by omega) (by omega)
    have e : -u * g = -(u * g) := Int.neg_mul u g
    omega
  · exact hu
theorem low_num0 {a b : Int} (hb : 1 ≤ b) : (low a b).1 = 0 ↔ a = 0 := by
  obtain ⟨g, h1, h2, h3⟩ := low_spec a b hb
  constructor
  · intro h
    rw [h] at h2
    simpa using h2
  · intro h
    rw [h] at h2
    rw [h]
    rcases Int.mul_eq_zero.1 h2.symm with h4 | h4
    · exact h4
    · omega
/-- Within papers: a paper more. -/
def wStep (w : Int × Int) (s : List Int) : Int × Int :=
  low (w.1 * (low (2 * apA s) ((s.length : Int) - 1)).2 + (low (2 * apA s) ((s.length : Int) - 1)).1 * w.2) (w.2 * (low (2 * apA s) ((s.length : Int) - 1)).2)
structure WOk (w : Int × Int) (t : Nat) : Prop where
  d1 : 1 ≤ w.2
  d2 : w.2 ≤ (2 : Int) ^ t
  n1 : 0 ≤ w.1
  n2 : w.1 ≤ 100 * ((t : Int) * t) * w.2
theorem one_pow2 (n : Nat) : (1 : Int) ≤ (2 : Int) ^ n := by
  induction n with
  | zero => decide
  | succ n ih => rw [Int.pow_succ]; omega
theorem two_pow (n : Nat) : (n : Int) ≤ (2 : Int) ^ n := by
  induction n with
  | zero => decide
  | succ n ih =>
    have := one_pow2 n
    rw [Int.pow_succ, Int.natCast_add]
    simp only [Int.cast_ofNat_Int]
    omega
theorem WOk.zero : WOk (0, 1) 0 := ⟨by simp, by simp, by simp, by simp⟩
theorem WOk.step {w : Int × Int} {t : Nat} (h : WOk w t) {s : List Int} (hl : 2 ≤ s.length) (hs : In10 s) : WOk (wStep w s) (t + s.length) ∧ ((wStep w s).1 = 0 ↔ w.1 = 0 ∧ apA s = 0) := by
  have hA0 := apA_pos s
  have hA1 := apA_le hs
  have hn1 : (1 : Int) ≤ (s.length : Int) - 1 := by omega
  have hq := low_den (a := 2 * apA s) hn1
  have hq2 := low_nonneg hn1 (show 0 ≤ 2 * apA s by omega)
  have hqc : 2 * apA s ≤ (2 * apA s) * ((s.length : Int) - 1) := by
    have := Int.mul_le_mul_of_nonneg_left hn1 (show 0 ≤ 2 * apA s by omega)
    omega
  have hq3 := low_le (c := 2 * apA s) hn1 hqc
  have hq0 := low_num0 (a := 2 * apA s) hn1
  unfold wStep
  generalize low (2 * apA s) ((s.length : Int) - 1) = q at *
  obtain ⟨q1, q2⟩ := q
  obtain ⟨w1, w2⟩ := w
  obtain ⟨d1, d2, n1, n2⟩ := h
  simp only at hq hq2 hq3 hq0 d1 d2 n1 n2 ⊢
  have hr2 : 1 ≤ w2 * q2 := by
    have := Int.mul_le_mul d1 hq.1 (by omega) (by omega)
    omega
  have a1 : 0 ≤ w1 * q2 := Int.mul_nonneg n1 (by omega)
  have a2 : 0 ≤ q1 * w2 := Int.mul_nonneg hq2 (by omega)
  have hld := low_den (a := w1 * q2 + q1 * w2) hr2
  have hln := low_nonneg hr2 (show 0 ≤ w1 * q2 + q1 * w2 by omega)
  have hl0 := low_num0 (a := w1 * q2 + q1 * w2) hr2
  have hp : w1 * q2 + q1 * w2 ≤ (100 * ((t + s.length : Nat) * (t + s.length : Nat) : Int)) * (w2 * q2) := by
    have b1 : w1 * q2 ≤ (100 * ((t : Int) * t) * w2) * q2 := Int.mul_le_mul_of_nonneg_right n2 (by omega)
    have b2 : q1 * w2 ≤ (2 * apA s * q2) * w2 := Int.mul_le_mul_of_nonneg_right hq3 (by omega)
    have b3 : (2 * apA s * q2) * w2 ≤ (100 * ((s.length : Int) * s.length)) * (w2 * q2) := by
      have : (2 * apA s) * (w2 * q2) ≤ (100 * ((s.length : Int) * s.length)) * (w2 * q2) := Int.mul_le_mul_of_nonneg_right (by omega) (by omega)
      have e : (2 * apA s * q2) * w2 = (2 * apA s) * (w2 * q2) := by grind
      omega
    have b4 : (100 * ((t : Int) * t) * w2) * q2 = (100 * ((t : Int) * t)) * (w2 * q2) := by grind
    have b5 : (100 * ((t : Int) * t)) * (w2 * q2) + (100 * ((s.length : Int) * s.length)) * (w2 * q2) ≤ (100 * ((t + s.length : Nat) * (t + s.length : Nat) : Int)) * (w2 * q2) := by
      rw [← Int.add_mul]
      refine Int.mul_le_mul_of_nonneg_right ?_ (by omega)
      rw [Int.natCast_add]
      have e : ((t : Int) + s.length) * ((t : Int) + s.length) = (t : Int) * t + 2 * ((t : Int) * s.length) + (s.length : Int) * s.length := by grind
      have : 0 ≤ (t : Int) * s.length := Int.mul_nonneg (by omega) (by omega)
      rw [e]
      omega
    omega
  have hll := low_le hr2 hp
  refine ⟨⟨hld.1, ?_, hln, hll⟩, ?_⟩
  · have c1 : q2 ≤ (2 : Int) ^ s.length := by have := two_pow s.length; omega
    have c2 : w2 * q2 ≤ (2 : Int) ^ t * 2 ^ s.length := Int.mul_le_mul d2 c1 (by omega) (by omega)
    rw [Int.pow_add]
    exact Int.le_trans hld.2 c2
  · rw [hl0]
    constructor
    · intro h
      have e1 : w1 * q2 = 0 := by omega
      have e2 : q1 * w2 = 0 := by omega
      refine ⟨?_, ?_⟩
      · rcases Int.mul_eq_zero.1 e1 with h | h
        · exact h
        · omega
      · have : q1 = 0 := by
          rcases Int.mul_eq_zero.1 e2 with h | h
          · exact h
          · omega
        have := hq0.1 this
        omega
    · rintro ⟨h1, h2⟩
      have : q1 = 0 := hq0.2 (by omega)
      rw [h1, this]
      simp
end Go.AX

namespace Go.AX
def scs (ms : List Mk) : List Int := ms.map (·.2.2)
theorem scs_app (a b : List Mk) : scs (a ++ b) = scs a ++ scs b := by simp [scs]
theorem scs_len (a : List Mk) : (scs a).length = a.length := by simp [scs]
abbrev AgZ := (Int × Int) × List Mk
def agS (L : Str → List Mk) (z : AgZ) (p : Str) : AgZ := if 2 ≤ (L p).length then (wStep z.1 (scs (L p)), z.2 ++ L p) else z
def agZ (L : Str → List Mk) (ks : List Str) : AgZ := ks.foldl (agS L) ((0, 1), [])
theorem agZ_snoc (L : Str → List Mk) (ks : List Str) (p : Str) : agZ L (ks ++ [p]) = agS L (agZ L ks) p := by unfold agZ; rw [List.foldl_append]; rfl
theorem sum_le : ∀ (ks : List Str) (ms : List Mk), ks.Nodup → (ks.map fun p => (gP ms p).length).sum ≤ ms.length
  | [], _, _ => by simp
  | p :: r, ms, h => by
    rw [List.nodup_cons] at h
    have ih := sum_le r (ms.filter fun m => !(m.1 == p)) h.2
    have e : (r.map fun q => (gP (ms.filter fun m => !(m.1 == p)) q).length) = r.map fun q => (gP ms q).length := by
      refine List.map_congr_left fun q hq => ?_
      have hne : q ≠ p := fun e => h.1 (e ▸ hq)
      unfold gP
      rw [List.filter_filter]
      congr 1
      refine List.filter_congr fun m _ => ?_
      by_cases h1 : m.1 = q
      · have : m.1 ≠ p := by rw [h1]; exact hne
        simp [h1, hne]
      · simp [h1]
    rw [e] at ih
    have hp : (gP ms p).length + (ms.filter fun m => !(m.1 == p)).length = ms.length := by
      unfold gP
      have : ∀ l : List Mk, (l.filter fun m => m.1 == p).length + (l.filter fun m => !(m.1 == p)).length = l.length := by
        intro l
        induction l with
        | nil => rfl
        | cons x l ih =>
          by_cases hx : x.1 = p
          · simp [hx]; omega
          · simp [hx]; omega
      exact this ms
    simp only [List.map_cons, List.sum_cons]
    omega
theorem gP_in {ms : List Mk} (h : In10 (scs ms)) (p : Str) : In10 (scs (gP ms p)) := by
  intro x hx
  obtain ⟨m, hm, rfl⟩ := List.mem_map.1 hx
  exact h m.2.2 (List.mem_map_of_mem (List.mem_filter.1 hm).1)
theorem in_app {a b : List Int} (h1 : In10 a) (h2 : In10 b) : In10 (a ++ b) := fun x hx => by
  rcases List.mem_append.1 hx with h | h
  · exact h1 x h
  · exact h2 x h
/-- What is known of the sums over papers. -/
structure AgI (ms : List Mk) (ks : List Str) (z : AgZ) : Prop where
  w : WOk z.1 z.2.length
  i : In10 (scs z.2)
  zero : z.1.1 = 0 ↔ ∀ p ∈ ks, 2 ≤ (gP ms p).length → apA (scs (gP ms p)) = 0
  mem : ∀ m, m ∈ z.2 ↔ ∃ p ∈ ks, 2 ≤ (gP ms p).length ∧ m ∈ gP ms p
theorem agI (ms : List Mk) (h : In10 (scs ms)) : ∀ ks : List Str, AgI ms ks (agZ (gP ms) ks) := by
  intro ks
  have hn : ∀ (n : Nat), n ≤ ks.length → AgI ms (ks.take n) (agZ (gP ms) (ks.take n)) := by
    intro n
    induction n with
    | zero => intro _; exact ⟨WOk.zero, by simp [agZ, scs, In10], by simp [agZ], by simp [agZ]⟩
    | succ n ih =>
      intro hl
      have ih := ih (by omega)
      obtain ⟨p, hp, -, -⟩ := get_some (l := ks) (i := n) (by omega)
      have e : ks.take (n + 1) = ks.take n ++ [p] := by rw [List.take_add_one, hp]; rfl
      rw [e, agZ_snoc]
      generalize agZ (gP ms) (ks.take n) = z at *
      unfold agS
      split
      · rename_i h2
        obtain ⟨s1, s2⟩ := ih.w.step (s := scs (gP ms p)) (by rw [scs_len]; exact h2) (gP_in h p)
        refine ⟨?_, ?_, ?_, ?_⟩
        · simp only [List.length_append]
          rwa [scs_len] at s1
        · simp only [scs_app]
          exact in_app ih.i (gP_in h p)
        · simp only
          rw [s2, ih.zero]
          constructor
          · rintro ⟨a, b⟩ q hq hq2
            rcases List.mem_append.1 hq with hq | hq
            · exact a q hq hq2
            · obtain rfl := List.mem_singleton.1 hq; exact b
          · intro a
            exact ⟨fun q hq => a q (List.mem_append_left _ hq), a p (by simp) h2⟩
        · intro m
          simp only [List.mem_append, ih.mem]
          constructor
          · rintro (⟨q, hq, a, b⟩ | hm)
            · exact ⟨q, .inl hq, a, b⟩
            · exact ⟨p, .inr (by simp), h2, hm⟩
          · rintro ⟨q, hq | hq, a, b⟩
            · exact .inl ⟨q, hq, a, b⟩
            · obtain rfl := List.mem_singleton.1 hq; exact .inr b
      · rename_i h2
        refine ⟨ih.w, ih.i, ?_, ?_⟩
        · rw [ih.zero]
          constructor
          · intro a q hq hq2
            rcases List.mem_append.1 hq with hq | hq
            · exact a q hq hq2
            · obtain rfl := List.mem_singleton.1 hq; exact absurd hq2 h2
          · exact fun a q hq => a q (List.mem_append_left _ hq)
        · intro m
          rw [ih.mem]
          constructor
          · rintro ⟨q, hq, a, b⟩; exact ⟨q, List.mem_append_left _ hq, a, b⟩
          · rintro ⟨q, hq, a, b⟩
            rcases List.mem_append.1 hq with hq | hq
            · exact ⟨q, hq, a, b⟩
            · obtain rfl := List.mem_singleton.1 hq; exact absurd a h2
  have := hn ks.length (Nat.le_refl _)
  rwa [List.take_length] at this
theorem mem_gP {ms : List Mk} {m : Mk} {p : Str} : m ∈ gP ms p ↔ m ∈ ms ∧ m.1 = p := by
  unfold gP
  rw [List.mem_filter]
  simp
end Go.AX

namespace Go.AX
open Go Go.Proofs Go.RowKit Go.Sort Go.Shelf
theorem HR.grow {cx : Cx} {hv : Nat → Option O} {σ : Nat → Option Loc} {w : World} (h : HR cx hv σ w) (os : Array Obj) : HR cx hv σ (Go.Sort.grow w os) := by
  have hb : ∀ b, b < w.heap.size → (Go.Sort.grow w os).heap[b]? = w.heap[b]? := fun b hb => by
    show (w.heap ++ os)[b]? = _
    rw [Array.getElem?_append_left hb]
  have hs : w.heap.size ≤ (Go.Sort.grow w os).heap.size := by
    show _ ≤ (w.heap ++ os).size
    rw [Array.size_append]; omega
  have hok : ∀ c, okB cx w hv σ c → okB cx (Go.Sort.grow w os) hv σ c := fun c hc => ⟨hc.1, Nat.lt_of_lt_of_le hc.2.1 hs, hc.2.2⟩
  constructor
  · exact h.os
  · exact h.tape
  · exact h.output
  · exact Nat.le_trans h.size hs
  · intro b hb1 hp
    rw [hb b (Nat.lt_of_lt_of_le hb1 h.size)]
    exact h.frame b hb1 hp
  · intro id o hid
    exact RO_mono (fun b hb2 => ⟨hok b hb2, hb b hb2.2.1⟩) (fun _ _ h => h) (fun b K s hs' => hb b (h.new id o b K s hid hs').2) (h.own id o hid)
  · intro id o b K s a c
    obtain ⟨h1, h2⟩ := h.new id o b K s a c
    exact ⟨h1, Nat.lt_of_lt_of_le h2 hs⟩
  · exact h.inj
end Go.AX

namespace Go.AX
open Go Go.Proofs Go.RowKit
theorem zero_ok : Does Tryz.prog 36 [] [] (.d (Fr 0 1)) [] := evalsTo_ok CS_ok hmix (by kernel_rfl)
theorem scores_ok : Does Tryz.prog 9 [] [] (B true) [] := evalsTo_ok CS_ok hmix (by kernel_rfl)
theorem keys_any (ks : List Str) (vs : List D) (hl : ks.length ≤ 1000) (hkl : ∀ k ∈ ks, k.length ≤ 1000000) (hr : ks.Pairwise (fun a b => ltS a b = true)) : Does Tryz.prog 37 [.d (.map (ks.map D.str) vs)] [] (.d (.sl (ks.map D.str))) [] := by
  have hsk := sortedKeys_does ks vs hl hkl (rise_nodupS hr)
  rw [mergeSort_rise hr] at hsk
  refine Does.of_AW (n := 6) Tryz.func37 rfl rfl rfl fun cx hcx => ?_
  repeat' (first | ((first | refine AW.sreg rfl fun K hK => ?_ | refine run_call _ _ _ ((mapsKeys_any _ _).objs [] trivial rfl (by decide) (by simp [go_sem, renOs]) (by simp) (by simp) (by simp [go_sem]) (by simp [go_sem]) (by simp [go_sem]) (by simp [go_sem])) rfl rfl (dstOk_of rfl) rfl rfl rfl ?_ | refine run_call _ _ _ ((hsk).robjs [_] ⟨(by first | rfl | (simp [go_sem]; done) | (simp [go_sem]; rfl)), trivial⟩ rfl (by decide) (by simp) (by simp) (by simp [go_sem]) (by simp [go_sem]) (by simp [go_sem]) (by simp [go_sem])) rfl rfl (dstOk_of rfl) rfl rfl rfl ?_); simp only [go_sem, Nat.reduceAdd, Nat.reduceMul, Int.reduceToNat, Nat.reduceLT, Nat.reduceLeDiff, Nat.le_refl, Nat.reduceEqDiff, ↓reduceIte, beq_self_eq_true, bne_self_eq_false, Int.reduceBEq, Int.reduceBNe, or_self, true_or, or_true, Option.map_some, Option.map_none, Nat.reduceSub, Nat.add_zero]) | (refine hK _ ?_; clear hK K) | (refine AW.ret (Fin.data rfl (by first | (simp only [go_sem]; done) | (simp [go_sem, *]; done) | (simp [go_sem]; omega) | rfl) rfl)))
/-- What every run of the checks needs of marks. -/
structure MkOk (ms : List Mk) (H : List Str) : Prop where
  len : ms.length ≤ 16
  good : GoodM ms
  hH : H.length ≤ 5
  pe : ∀ m ∈ ms, m.2.1 ∈ H
  sh : ∀ m ∈ ms, m.1.length ≤ 1000 ∧ m.2.1.length ≤ 1000
theorem MkOk.i {ms : List Mk} {H : List Str} (h : MkOk ms H) : In10 (scs ms) := by
  intro x hx
  obtain ⟨m, hm, rfl⟩ := List.mem_map.1 hx
  exact h.good.sc m hm
end Go.AX

namespace Go.AX
open Go Go.Proofs Go.RowKit
theorem insertionSortC_St (lt : Str → Str → Bool) (cv : Str → Str → Int) (hlt : ∀ x y, lt x y = decide (cv x y < 0)) (c : Nat) (cap : D) (hc : ∀ x y, Does Tryz.prog c [.d (D.str x), .d (D.str y), .d cap] [] (I (cv x y)) []) (xs : List Str) (hl : xs.length ≤ 1000) :
    Does Tryz.prog 118 [.slr 0 0 xs.length, I 0, I xs.length, .fn c [.d cap]] [.vec 9 1 (dv (xs.map D.str))] (.tup []) [.vec 9 1 (dv ((isort lt xs).map D.str))] := by
  refine Does.of_AW (n := 53) Tryz.func118 rfl rfl rfl fun cx hcx => ?_
  generalize hR : isort lt xs = R
  repeat' (first | (refine AW.sreg rfl fun K hK => ?_; simp only [go_sem, Nat.reduceAdd, Nat.reduceMul, Int.reduceToNat, Nat.reduceLT, Nat.reduceLeDiff, Nat.le_refl, Nat.reduceEqDiff, ↓reduceIte, beq_self_eq_true, bne_self_eq_false, Int.reduceBEq, Int.reduceBNe, or_self, true_or, or_true, Option.map_some, Option.map_none, List.length_map]) | (refine AW.block ?_) | (refine hK _ ?_; clear hK K) | (with_reducible refine And.intro ?_ ?_; first | omega | assumption | (focus (decide)) | (focus (simp; done)) | (focus (simp; omega)) | (focus (constructor <;> omega)) | fail))
  refine AW.loopF (ι := Nat × List Str × List Str) [0, 1, 2, 3] (fun p => [(8, I p.1)]) (fun p => [(0, some (O.vec 9 1 (dv ((p.2.1 ++ p.2.2).map D.str))))]) 1 (fun p => 1 ≤ p.1 ∧ p.2.1.length + p.2.2.length = xs.length ∧ (p.2.1.length = p.1 ∨ xs.length = 0) ∧ isGo lt p.2.1 p.2.2 = R) (fun p => xs.length - p.1) (1, xs.take 1, xs.drop 1) ⟨by simp, by simp only [List.length_take, List.length_drop]; omega, by simp only [List.length_take]; omega, hR⟩ (Weak.auto hcx rfl rfl (Nat.le_of_ble_eq_true rfl) (by simp [go_sem, gL, kL, renOf, V.obj, lk, Nat.blt, Nat.ble, List.map_append, dv_push, take1_tail]) (by simp [go_sem, gL, kL, renOf, V.obj, lk, Nat.blt, Nat.ble, List.map_append, dv_push, take1_tail]) (by first | exact pk0 | exact pk1 ⟨_, rfl⟩ | exact pk2 ⟨_, rfl⟩ ⟨_, rfl⟩ | exact pk3 ⟨_, rfl⟩ ⟨_, rfl⟩ ⟨_, rfl⟩ | exact pk4 ⟨_, rfl⟩ ⟨_, rfl⟩ ⟨_, rfl⟩ ⟨_, rfl⟩) (by simp [go_sem, gL, kL, lk, renOf, V.obj, Nat.blt, Nat.ble, take1_tail])) ?_; simp only [St.at_nil, St.at_cons, lk, Nat.reduceEqDiff, ↓reduceIte, Option.getD_some, Option.getD_none, List.cons_append, List.nil_append, List.append_nil]
  rintro ⟨i, d, r⟩ ⟨h1, h2, h3, h4⟩
  simp only at h1 h2 h3 h4 ⊢
  by_cases hi : i < xs.length
  · obtain ⟨x, r, rfl⟩ : ∃ x r', r = x :: r' := by
      cases r with
      | nil => simp at h2; omega
      | cons x r' => exact ⟨x, r', rfl⟩
    obtain rfl : i = d.length := by omega
    simp only [isGo] at h4
    repeat' (first | (refine AW.sreg rfl fun K hK => ?_; simp only [go_sem, Nat.reduceAdd, Nat.reduceMul, Int.reduceToNat, Nat.reduceLT, Nat.reduceLeDiff, Nat.le_refl, Nat.reduceEqDiff, ↓reduceIte, beq_self_eq_true, bne_self_eq_false, Int.reduceBEq, Int.reduceBNe, or_self, true_or, or_true, Option.map_some, Option.map_none, List.length_map]) | (refine AW.seq_k fun K hK => ?_) | (refine AW.block ?_) | (refine AW.skip ?_; simp only [Then, InBlock]) | (refine AW.condT rfl (by first | rfl | (simp; omega) | (simp [*]; done) | fail) ?_) | (refine hK _ ?_; clear hK K))
    generalize hR2 : insP lt d.reverse x [] = R2 at h4
    refine AW.loopF (ι := List Str × List Str) [0, 1, 2, 3, 8] (fun p => [(9, I p.1.length)]) (fun p => [(0, some (O.vec 9 1 (dv ((p.1.reverse ++ x :: (p.2 ++ r)).map D.str))))]) 1 (fun p => p.1.length + p.2.length = d.length ∧ insP lt p.1 x p.2 = R2) (fun p => p.1.length) (d.reverse, []) ⟨by simp, hR2⟩ (Weak.auto hcx rfl rfl (Nat.le_of_ble_eq_true rfl) (by simp [go_sem, gL, kL, renOf, V.obj, lk, Nat.blt, Nat.ble, List.map_append, dv_push]) (by simp [go_sem, gL, kL, renOf, V.obj, lk, Nat.blt, Nat.ble, List.map_append, dv_push]) (by first | exact pk0 | exact pk1 ⟨_, rfl⟩ | exact pk2 ⟨_, rfl⟩ ⟨_, rfl⟩ | exact pk3 ⟨_, rfl⟩ ⟨_, rfl⟩ ⟨_, rfl⟩ | exact pk4 ⟨_, rfl⟩ ⟨_, rfl⟩ ⟨_, rfl⟩ ⟨_, rfl⟩) (by simp [go_sem, gL, kL, lk, renOf, V.obj, Nat.blt, Nat.ble])) ?_; simp only [St.at_nil, St.at_cons, lk, Nat.reduceEqDiff, ↓reduceIte, Option.getD_some, Option.getD_none, List.cons_append, List.nil_append, List.append_nil]
    rintro ⟨pr, q⟩ ⟨g1, g2⟩
    simp only at g1 g2 ⊢
    rcases pr with _ | ⟨y, pr⟩
    · simp only [insP] at g2
      subst g2
      simp only [List.length_cons, List.length_nil] at g1 h2
      repeat' (first | ((first | refine AW.sregD hmix rfl fun K hK => ?_ | refine AW.reg rfl ?_); simp only [go_sem, Nat.reduceAdd, Nat.reduceMul, Int.reduceToNat, Nat.reduceLT, Nat.reduceLeDiff, Nat.le_refl, Nat.reduceEqDiff, ↓reduceIte, beq_self_eq_true, bne_self_eq_false, Int.reduceBEq, Int.reduceBNe, or_self, true_or, or_true, Option.map_some, Option.map_none, List.length_map]) | (refine AW.seq_k fun K hK => ?_) | (refine AW.exit ?_; simp only [go_sem, ↓reduceIte]) | (refine AW.condF rfl (by first | rfl | (simp; omega) | (simp [*]; done) | fail) ?_) | (refine hK _ ?_; clear hK K) | (clear hK K; refine hK _ ?_; clear hK K) | (refine stepBT_split (fun h => ?_) (fun h => ?_) <;> (have hb0 := h) <;> (try simp only [Bool.not_eq_true', Bool.not_eq_false'] at hb0) <;> (try simp only [decide_eq_true_eq, decide_eq_false_iff_not, Bool.not_eq_true', Bool.not_eq_false', Bool.not_eq_eq_eq_not, Bool.not_true, Bool.not_false, beq_iff_eq, bne_iff_ne, beq_eq_false_iff_ne, ne_eq, Bool.and_eq_true, Bool.or_eq_true, Bool.or_eq_false_iff] at h) <;> simp only [go_sem, Nat.reduceAdd, Nat.reduceMul, Int.reduceToNat, Nat.reduceLT, Nat.reduceLeDiff, Nat.le_refl, Nat.reduceEqDiff, ↓reduceIte, beq_self_eq_true, bne_self_eq_false, Int.reduceBEq, Int.reduceBNe, or_self, true_or, or_true, Option.map_some, Option.map_none, hb0, h, decide_true, decide_false, List.length_map] <;> (try clear hb0)) | (with_reducible refine And.intro (?_ : regOk _ _ = true) ?_; kernel_rfl) | (with_reducible refine And.intro ?_ ?_; first | omega | assumption | (focus (decide)) | (focus (simp; done)) | (focus (simp; omega)) | (focus (constructor <;> omega)) | fail) | (exfalso; omega))
      exact ⟨(d.length + 1, x :: q, r), ⟨by simp only; omega, by simp only [List.length_cons]; omega, .inl (by simp only [List.length_cons]; omega), h4⟩, by simp only; omega, (Weak.auto hcx rfl rfl (Nat.le_of_ble_eq_true rfl) (by simp [go_sem, gL, kL, renOf, V.obj, lk, Nat.blt, Nat.ble, List.map_append, dv_push]) (by simp [go_sem, gL, kL, renOf, V.obj, lk, Nat.blt, Nat.ble, List.map_append, dv_push]) (by first | exact pk0 | exact pk1 ⟨_, rfl⟩ | exact pk2 ⟨_, rfl⟩ ⟨_, rfl⟩ | exact pk3 ⟨_, rfl⟩ ⟨_, rfl⟩ ⟨_, rfl⟩ | exact pk4 ⟨_, rfl⟩ ⟨_, rfl⟩ ⟨_, rfl⟩ ⟨_, rfl⟩) (by simp [go_sem, gL, kL, lk, renOf, V.obj, Nat.blt, Nat.ble]))⟩
    · have e1 : (dv ((List.reverse (y :: pr) ++ x :: (q ++ r)).map D.str))[0 + (pr.length + 1)]? = some (.d (D.str x)) := by
        have := get_mid (List.reverse (y :: pr)) x (q ++ r)
        simp only [List.length_reverse, List.length_cons] at this
        simp only [dv, Nat.zero_add, List.getElem?_map, this, Option.map_some]
      have e2 : (dv ((List.reverse (y :: pr) ++ x :: (q ++ r)).map D.str))[0 + pr.length]? = some (.d (D.str y)) := by
        have := get_mid (List.reverse pr) y (x :: (q ++ r))
        simp only [List.length_reverse] at this
        simp only [dv, Nat.zero_add, List.getElem?_map, List.reverse_cons, List.append_assoc, List.cons_append, List.nil_append, this, Option.map_some]
      have e3 : (((pr.length + 1 : Nat) : Int) - 1).toNat = pr.length := by omega
      simp only [List.length_cons] at g1 h2
      simp only [insP, hlt] at g2
      have e4 : (((dv ((List.reverse (y :: pr) ++ x :: (q ++ r)).map D.str)).set (0 + (pr.length + 1)) (.d (D.str y))).set (0 + pr.length) (.d (D.str x))) = dv ((pr.reverse ++ x :: ((y :: q) ++ r)).map D.str) := by
        have := swap_mid (dv (pr.reverse.map D.str)) (V.d (D.str x)) (V.d (D.str y)) (dv ((q ++ r).map D.str))
        simp only [dv, List.length_map, List.length_reverse, List.map_append, List.map_cons, List.reverse_cons, List.append_assoc, List.cons_append, List.nil_append, List.map_nil] at this ⊢
        exact this
      have e5 : ((dv ((List.reverse (y :: pr) ++ x :: (q ++ r)).map D.str)).set (0 + (pr.length + 1)) (.d (D.str y)))[0 + pr.length]? = some (.d (D.str y)) := by
        rw [List.getElem?_set_ne (by omega)]
        exact e2
      repeat' (first | ((first | refine AW.sregD hmix rfl fun K hK => ?_ | refine AW.reg rfl ?_ | refine AW.regD hmix rfl ?_ | refine runT_call _ _ [] (fun hv _ => (hc x y).pure rfl rfl hv _) rfl rfl (dstOk_of rfl) rfl rfl ?_); simp only [go_sem, Nat.reduceAdd, Nat.reduceMul, Int.reduceToNat, Nat.reduceLT, Nat.reduceLeDiff, Nat.le_refl, Nat.reduceEqDiff, ↓reduceIte, beq_self_eq_true, bne_self_eq_false, Int.reduceBEq, Int.reduceBNe, or_self, true_or, or_true, Option.map_some, Option.map_none, List.length_map, e1, e2, e3, e4, e5, List.length_cons, or_self, true_or, or_true]) | (refine AW.seq_k fun K hK => ?_) | (refine AW.block ?_) | (refine AW.skip ?_; simp only [Then, InBlock]) | (refine AW.exit ?_; simp only [go_sem, ↓reduceIte]) | (refine AW.condT rfl (by first | rfl | (simp; omega) | (simp [*]; done) | fail) ?_) | (refine AW.cond rfl (fun h => ?_) (fun h => ?_) <;> (try simp only [decide_eq_true_eq, decide_eq_false_iff_not, Bool.not_eq_true', Bool.not_eq_false', Bool.not_eq_eq_eq_not, Bool.not_true, Bool.not_false, beq_iff_eq, bne_iff_ne, beq_eq_false_iff_ne, ne_eq, Bool.and_eq_true, Bool.or_eq_true, Bool.or_eq_false_iff] at h)) | (refine hK _ ?_; clear hK K) | (clear hK K; refine hK _ ?_; clear hK K) | (refine stepBT_split (fun h => ?_) (fun h => ?_) <;> (have hb0 := h) <;> (try simp only [Bool.not_eq_true', Bool.not_eq_false'] at hb0) <;> (try simp only [decide_eq_true_eq, decide_eq_false_iff_not, Bool.not_eq_true', Bool.not_eq_false', Bool.not_eq_eq_eq_not, Bool.not_true, Bool.not_false, beq_iff_eq, bne_iff_ne, beq_eq_false_iff_ne, ne_eq, Bool.and_eq_true, Bool.or_eq_true, Bool.or_eq_false_iff] at h) <;> simp only [go_sem, Nat.reduceAdd, Nat.reduceMul, Int.reduceToNat, Nat.reduceLT, Nat.reduceLeDiff, Nat.le_refl, Nat.reduceEqDiff, ↓reduceIte, beq_self_eq_true, bne_self_eq_false, Int.reduceBEq, Int.reduceBNe, or_self, true_or, or_true, Option.map_some, Option.map_none, hb0, h, decide_true, decide_false, List.length_map, e1, e2, e3, e4, e5, List.length_cons, or_self, true_or, or_true] <;> (try clear hb0)) | (with_reducible refine And.intro (?_ : regOk _ _ = true) ?_; kernel_rfl) | (with_reducible refine And.intro ?_ ?_; first | omega | assumption | (focus (decide)) | (focus (simp; done)) | (focus (simp; omega)) | (focus (constructor <;> omega)) | fail) | (exfalso; omega))
      · rw [if_pos (by simpa using h)] at g2
        exact ⟨(pr, y :: q), ⟨by simp only [List.length_cons]; omega, g2⟩, by simp only [List.length_cons]; omega, (Weak.auto hcx rfl rfl (Nat.le_of_ble_eq_true rfl) (by simp [go_sem, gL, kL, renOf, V.obj, lk, Nat.blt, Nat.ble, List.map_append, dv_push]) (by simp [go_sem, gL, kL, renOf, V.obj, lk, Nat.blt, Nat.ble, List.map_append, dv_push]) (by first | exact pk0 | exact pk1 ⟨_, rfl⟩ | exact pk2 ⟨_, rfl⟩ ⟨_, rfl⟩ | exact pk3 ⟨_, rfl⟩ ⟨_, rfl⟩ ⟨_, rfl⟩ | exact pk4 ⟨_, rfl⟩ ⟨_, rfl⟩ ⟨_, rfl⟩ ⟨_, rfl⟩) (by simp [go_sem, gL, kL, lk, renOf, V.obj, Nat.blt, Nat.ble]))⟩
      · rw [if_neg (by simpa using h)] at g2
        subst g2
        exact ⟨(d.length + 1, (y :: pr).reverse ++ x :: q, r), ⟨by simp only; omega, by simp only [List.length_append, List.length_reverse, List.length_cons]; omega, .inl (by simp only [List.length_append, List.length_reverse, List.length_cons]; omega), h4⟩, by simp only; omega, (Weak.auto hcx rfl rfl (Nat.le_of_ble_eq_true rfl) (by simp [go_sem, gL, kL, renOf, V.obj, lk, Nat.blt, Nat.ble, List.map_append, dv_push]) (by simp [go_sem, gL, kL, renOf, V.obj, lk, Nat.blt, Nat.ble, List.map_append, dv_push]) (by first | exact pk0 | exact pk1 ⟨_, rfl⟩ | exact pk2 ⟨_, rfl⟩ ⟨_, rfl⟩ | exact pk3 ⟨_, rfl⟩ ⟨_, rfl⟩ ⟨_, rfl⟩ | exact pk4 ⟨_, rfl⟩ ⟨_, rfl⟩ ⟨_, rfl⟩ ⟨_, rfl⟩) (by simp [go_sem, gL, kL, lk, renOf, V.obj, Nat.blt, Nat.ble]))⟩
  · have hr : r = [] := by
      cases r with
      | nil => rfl
      | cons x r => simp only [List.length_cons] at h2; omega
    subst hr
    simp only [isGo] at h4
    subst h4
    repeat' (first | (refine AW.sreg rfl fun K hK => ?_; simp only [go_sem, Nat.reduceAdd, Nat.reduceMul, Int.reduceToNat, Nat.reduceLT, Nat.reduceLeDiff, Nat.le_refl, Nat.reduceEqDiff, ↓reduceIte, beq_self_eq_true, bne_self_eq_false, Int.reduceBEq, Int.reduceBNe, or_self, true_or, or_true, Option.map_some, Option.map_none, List.length_map, List.append_nil]) | (refine AW.seq_k fun K hK => ?_) | (refine AW.exit ?_; simp only [go_sem, ↓reduceIte]) | (refine AW.condF rfl (by first | rfl | (simp; omega) | (simp [*]; done) | fail) ?_) | (refine hK _ ?_; clear hK K))
    exact Fin.one rfl rfl ⟨_, rfl, by simp [go_sem]⟩ rfl (by simp [go_sem]) rfl

theorem stable_St (lt : Str → Str → Bool) (cv : Str → Str → Int) (hlt : ∀ x y, lt x y = decide (cv x y < 0)) (c : Nat) (cap : D) (hc : ∀ x y, Does Tryz.prog c [.d (.str x), .d (.str y), .d cap] [] (I (cv x y)) []) (xs : List Str) (hl : xs.length ≤ 19) :
    Does Tryz.prog 92 [.slr 0 0 xs.length, I xs.length, .fn c [.d cap]] [.vec 9 1 (dv (xs.map D.str))] (.tup []) [.vec 9 1 (dv ((isort lt xs).map D.str))] := by
  have h1 := insertionSortC_St lt cv hlt c cap hc xs (by omega)
  refine Does.of_AW (n := 63) Tryz.func92 rfl rfl rfl fun cx hcx => ?_
  have hn : ¬ (20 : Int) ≤ (xs.length : Int) := by omega
  have hn2 : ¬ (20 : Int) < (xs.length : Int) := by omega
  repeat' (first | ((first | refine AW.sreg rfl fun K hK => ?_ | refine run_call _ _ _ ((h1).objs [0] ⟨rfl, trivial⟩ rfl (by decide) (by simp [go_sem, renOs]) (by simp) (by simp) (by simp [go_sem]) (by simp [go_sem]) (by simp [go_sem]) (by simp [go_sem])) rfl rfl (dstOk_of rfl) rfl rfl rfl ?_); simp only [go_sem, Nat.reduceAdd, Nat.reduceMul, Int.reduceToNat, Nat.reduceLT, Nat.reduceLeDiff, Nat.le_refl, Nat.reduceEqDiff, ↓reduceIte, beq_self_eq_true, bne_self_eq_false, Int.reduceBEq, Int.reduceBNe, or_self, true_or, or_true, Option.map_some, Option.map_none, hn, hn2]) | (refine AW.seq_k fun K hK => ?_) | (refine AW.block ?_) | (refine AW.exit ?_; simp only [go_sem, ↓reduceIte]) | (refine AW.condF rfl (by first | rfl | (simp; omega) | (simp [*]; done) | fail) ?_) | (refine hK _ ?_; clear hK K) | (clear hK K; refine hK _ ?_; clear hK K) | (refine AW.unroll 1 ?_; simp only [AWr]))
  exact Fin.one rfl rfl ⟨_, rfl, by simp [go_sem]⟩ rfl (by simp [go_sem]) rfl
theorem sortStable_St (lt : Str → Str → Bool) (cv : Str → Str → Int) (hlt : ∀ x y, lt x y = decide (cv x y < 0)) (c : Nat) (cap : D) (hc : ∀ x y, Does Tryz.prog c [.d (.str x), .d (.str y), .d cap] [] (I (cv x y)) []) (xs : List Str) (hl : xs.length ≤ 19) :
    Does Tryz.prog 58 [.slr 0 0 xs.length, .fn c [.d cap]] [.vec 9 1 (dv (xs.map D.str))] (.tup []) [.vec 9 1 (dv ((isort lt xs).map D.str))] := by
  have h1 := stable_St lt cv hlt c cap hc xs hl
  refine Does.of_AW (n := 9) Tryz.func58 rfl rfl rfl fun cx hcx => ?_
  repeat' (first | ((first | refine AW.reg rfl ?_ | refine run_call _ _ _ ((h1).objs [0] ⟨rfl, trivial⟩ rfl (by decide) (by simp [go_sem, renOs]) (by simp) (by simp) (by simp [go_sem]) (by simp [go_sem]) (by simp [go_sem]) (by simp [go_sem])) rfl rfl (dstOk_of rfl) rfl rfl rfl ?_); simp only [go_sem, Nat.reduceAdd, Nat.reduceMul, Int.reduceToNat, Nat.reduceLT, Nat.reduceLeDiff, Nat.le_refl, Nat.reduceEqDiff, ↓reduceIte, beq_self_eq_true, bne_self_eq_false, Int.reduceBEq, Int.reduceBNe, or_self, true_or, or_true, Option.map_some, Option.map_none]))
  exact Fin.one rfl rfl ⟨_, rfl, by simp [go_sem]⟩ rfl (by simp [go_sem]) rfl
end Go.AX

namespace Go.AX
open Go Go.Proofs Go.RowKit Go.Maps Go.Sort Go.Shelf
open Go.WideElems (rd rg Fit)
open Go.MapKept (Stamped)
abbrev SWk (xs : List (List UInt8)) : O := .vec 9 1 (dv (xs.map D.str))
/-- The keys of a map, sorted, as an own slice. -/
theorem sortedKeysO (ks : List (List UInt8)) (ds : List D) (hl : ks.length ≤ 1000) (hkl : ∀ k ∈ ks, k.length ≤ 1000000) (hnd : ks.Nodup) :
    Does Tryz.prog 76 [.fn 100 [.ptr 0 0]] [.box 77 [.d (.map (ks.map D.str) ds)]] (.slr 1 0 ks.length) [.dead, SWk (ks.mergeSort fun x y => decide (x ≤ y))] := by
  refine ⟨⟨Tryz.f76, Tryz.func76, rfl, by kernel_rfl⟩, fun cx σ w vs hgl hr hfr hp1 hp2 hpb hargs => ?_⟩
  have ho := hr.own 0 _ rfl
  obtain ⟨bx, K, s, c, fr, hσ, hbx, -, hvl⟩ := ho
  simp only [RVl, RV, hσ] at hvl hargs
  obtain ⟨mv, us, hc, hmv, hus⟩ := hvl
  obtain ⟨fv, us2, hvs, ⟨c2, rfl, pv, us3, hc2, ⟨b', K', s', hb', rfl⟩, hus3⟩, hus2⟩ := hargs
  cases hb'
  subst hus2 hus3 hus
  obtain rfl : vs = #[.func (.func 100) #[] #[.pointer (some ⟨bx, 0, none⟩)]] := by
    obtain rfl : c2 = #[.pointer (some ⟨bx, 0, none⟩)] := by cases c2; simp_all
    cases vs; simp_all
  have hlt : bx < w.heap.size := by
    rcases Nat.lt_or_ge bx w.heap.size with h' | h'
    · exact h'
    · simp [Array.getElem?_eq_none h'] at hbx
  have hcell : w.cell? ⟨bx, 0, none⟩ = some mv := by
    have : c[0]? = some mv := by
      have := congrArg (·[0]?) hc
      simpa using this
    simpa [World.cell?, hbx] using this
  simp only [RD] at hmv
  have hend : ∀ (e : Ending) (w' : World), (∃ (v : Value) (ss : List (List UInt8)), e = .returned v ∧ ss.Perm ks ∧ w'.ownsRow w.heap.size 9 1 v ss.length ((ss.mergeSort (fun x y => decide (x ≤ y))).map encStr) ∧ Below w.heap.size w w') →
      ∃ v, e = .returned v ∧ ∃ σ', HR cx (hvL [O.dead, SWk (ks.mergeSort fun x y => decide (x ≤ y))]) σ' w' ∧ (∀ i l, i < 1 → σ i = some l → σ' i = some l) ∧ (∀ i, 2 ≤ i → σ' i = none) ∧ RV w' (okB cx w' (hvL [O.dead, SWk (ks.mergeSort fun x y => decide (x ≤ y))]) σ') σ' (.slr 1 0 ks.length) v := by
    rintro e w' ⟨v, ss, rfl, hp, hrow, hb⟩
    have hms := mergeSort_of_perm hp
    rw [show (ss.mergeSort fun x y => decide (x ≤ y)) = ks.mergeSort fun x y => decide (x ≤ y) from hms] at hrow
    have hkl2 : (ks.mergeSort fun x y => decide (x ≤ y)).length = ks.length := List.length_mergeSort _
    generalize (ks.mergeSort fun x y => decide (x ≤ y)) = srt at *
    have hslen : ss.length = ks.length := hp.length_eq
    -- what is the same whatever comes back
    have hgen : ∀ (l : Loc), (∀ b K s, l = .blk b K s → w.heap.size ≤ b ∧ b < w'.heap.size) → RO w' (okB cx w' (hvL [O.dead, SWk srt]) (upd σ 1 (some l))) (upd σ 1 (some l)) 1 (SWk srt) → HR cx (hvL [O.dead, SWk srt]) (upd σ 1 (some l)) w' := by
      intro l hl1 hro
      constructor
      · rw [hb.os]; exact hr.os
      · rw [hb.tape]; exact hr.tape
      · rw [hb.output]; exact hr.output
      · exact Nat.le_trans hr.size hb.size
      · intro b h1 h2; rw [hb.block b (Nat.lt_of_lt_of_le h1 hr.size)]; exact hr.frame b h1 h2
      · intro i o ho
        rcases i with _ | _ | i
        · simp [hvL, O.lv] at ho
        · simp [hvL, O.lv] at ho
          subst ho
          exact hro
        · simp [hvL] at ho
      · intro i o b K s ho hs
        rcases i with _ | _ | i
        · simp [hvL, O.lv] at ho
        · rw [upd_same] at hs
          injection hs with hs
          obtain ⟨h1, h2⟩ := hl1 b K s hs
          exact ⟨.inl (Nat.le_trans hr.size h1), h2⟩
        · simp [hvL] at ho
      · intro i j o o' b K s K' s' ho ho'
        rcases i with _ | _ | i
        · simp [hvL, O.lv] at ho
        · rcases j with _ | _ | j
          · simp [hvL, O.lv] at ho'
          · intros; rfl
          · simp [hvL] at ho'
        · simp [hvL] at ho
    have hkeep : ∀ (l : Loc), (∀ i l', i < 1 → σ i = some l' → upd σ 1 (some l) i = some l') ∧ (∀ i, 2 ≤ i → upd σ 1 (some l) i = none) := by
      intro l
      refine ⟨fun i l' hi h => ?_, fun i hi => ?_⟩
      · rw [upd_other _ _ (by omega)]; exact h
      · rw [upd_other _ _ (by omega)]; exact hfr i (by simp; omega)
    rcases hrow.2 with ⟨rfl, hz⟩ | ⟨g, cap, cur, rfl, hbase, hgb, r1, r2, r3, r4⟩
    · have h0 : srt = [] := List.eq_nil_of_length_eq_zero (by omega)
      refine ⟨_, rfl, upd σ 1 (some .nil), hgen _ (fun b K s h => by cases h) (.inl ⟨upd_same _ _ _, by rw [h0]; rfl⟩), (hkeep _).1, (hkeep _).2, ?_⟩
      simp only [RV]
      exact .inl ⟨upd_same _ _ _, trivial, by omega, none, rfl⟩
    · have hgl : g < w'.heap.size := by
        rcases Nat.lt_or_ge g w'.heap.size with h' | h'
        · exact h'
        · simp [Array.getElem?_eq_none h'] at hgb
      refine ⟨_, rfl, upd σ 1 (some (.blk g cap 1)), hgen _ (fun b K s h => by cases h; exact ⟨hbase, hgl⟩) (.inr ⟨g, cap, cur, (0, 0), upd_same _ _ _, hgb, ?_, ?_, ?_, ?_⟩), (hkeep _).1, (hkeep _).2, ?_⟩
      · intro i _ h; omega
      · simpa using r3
      · simp only [dv_length, List.length_map]; omega
      · refine RVels_of fun i x hx => ?_
        rw [dv_get, List.getElem?_map] at hx
        have hi : i < srt.length := by
          rcases Nat.lt_or_ge i srt.length with h' | h'
          · exact h'
          · rw [List.getElem?_eq_none h'] at hx; cases hx
        rw [List.getElem?_eq_getElem hi] at hx
        cases hx
        refine ⟨encStr srt[i], ?_, by simp only [RV, RD, encStr]⟩
        simp only [ElemAt, encStr, Nat.zero_add, Nat.mul_one]
        refine ⟨trivial, ?_⟩
        have h3 := congrArg (·[i]?) r4
        simp only [List.getElem?_take, List.getElem?_map, List.getElem?_eq_getElem hi, Option.map_some, Nat.mul_one, Array.getElem?_toList] at h3
        rw [if_pos (by omega)] at h3
        exact h3
      · simp only [RV]
        exact .inr ⟨g, cap, 1, _, cap, upd_same _ _ _, by rw [hslen], by omega, by omega, .inr rfl⟩
  have hfin : ∀ (S : List (List UInt8) → Prop) (N : Nat), (∀ ss, S ss → ss.Perm ks) → N ≤ maxLen → N * 16 ≤ 140737488355328 → SeqGives Fence.wide 2 Tryz.prog 100 #[.pointer (some ⟨bx, 0, none⟩)] encStr S N w →
      Calls Tryz.prog 76 #[.func (.func 100) #[] #[.pointer (some ⟨bx, 0, none⟩)]] w fun e w' => ∃ v, e = .returned v ∧ ∃ σ', HR cx (hvL [O.dead, SWk (ks.mergeSort fun x y => decide (x ≤ y))]) σ' w' ∧ (∀ i l, i < 1 → σ i = some l → σ' i = some l) ∧ (∀ i, 2 ≤ i → σ' i = none) ∧ RV w' (okB cx w' (hvL [O.dead, SWk (ks.mergeSort fun x y => decide (x ≤ y))]) σ') σ' (.slr 1 0 ks.length) v := by
    intro S N hS hN hN2 hseq
    refine (callsIn_wide (n := 5)).1 ?_
    refine (AnyZ.sorted_in Tryz.sorted76 Fence.wide 5 trivial trivial trivial trivial rfl (by omega) (sortsIn _) (enters_of Tryz.func99 (by kernel_rfl) rfl) 100 #[.pointer (some ⟨bx, 0, none⟩)] trivial (enters_of Tryz.func100 (by kernel_rfl) rfl) S N hN hN2 w hseq).mono ?_
    rintro e w' ⟨v, ss, rfl, hSs, hrow, _, hb⟩
    exact hend _ _ ⟨v, ss, rfl, hS _ hSs, hrow, hb⟩
  obtain ⟨r, rfl, hmap⟩ := hmv
  rcases hmap with ⟨rfl, hks, -⟩ | ⟨b, es, clock, rfl, hokb, hbm, hB, hsz, -, hk, -⟩
  · have h0 : ks = [] := by simpa using hks
    subst h0
    refine hfin (fun ss => ss = []) 0 (fun ss h => by rw [h]) (Nat.zero_le _) (by omega) ?_
    exact AnyZ.keys_gives_nil (ρ := Tryz.keys77_ren) { Tryz.keys77 with } Fence.wide _ trivial rfl bx _ hlt hcell
  · obtain ⟨D0, hown, hperm, hsize⟩ := own_of (P := Tryz.prog) (kt := 9) Tryz.underlying9 hbm hB (by simpa using hsz) hk hl hkl hnd
    refine hfin (fun ss => ss.Perm (strKeys D0)) (Maps.size D0) (fun ss h => h.trans hperm.symm) (by rw [hsize]; simp [maxLen]; omega) (by rw [hsize]; omega) ?_
    exact AnyZ.keys_gives (ρ := Tryz.keys77_ren) { Tryz.keys77 with } Fence.wide _ trivial rfl (by omega) bx b ks.length D0 _ hlt hcell hown
end Go.AX

namespace Go.AX
open Go Go.Proofs Go.RowKit Go.Sort Go.Shelf
def srtS (zs : List Str) : List Str := zs.mergeSort fun x y => decide (x ≤ y)
theorem srtS_perm (zs : List Str) : (srtS zs).Perm zs := List.mergeSort_perm _ _
theorem putRow_setBS {w : World} {b : Nat} {c : Array Value} {e : TypeId} {fr : Nat × Nat} (hb : w.heap[b]? = some (.cells c e fr)) (d : Array Str) : putRow encStr w b 0 d = setB w b (.cells (putCells (encStr) 0 d c) e fr) := by
  unfold putRow mapBlock setB
  congr 1
  apply Array.ext_getElem?
  intro i
  rw [Array.getElem?_modify, Array.getElem?_setIfInBounds]
  split
  · rename_i hi
    subst hi
    have hl : b < w.heap.size := by
      rcases Nat.lt_or_ge b w.heap.size with h' | h'
      · exact h'
      · simp [Array.getElem?_eq_none h'] at hb
    rw [hb, if_pos hl]
    rfl
  · rfl
theorem sortStrs_does (zs : List Str) (hl : zs.length ≤ 1000) : Does Tryz.prog 99 [.slr 0 0 zs.length] [SWk zs] (.tup []) [SWk (srtS zs)] := by
  refine ⟨⟨Tryz.f99, Tryz.func99, rfl, by kernel_rfl⟩, fun cx σ w vs hgl hr hfr hp1 hp2 hpb hargs => ?_⟩
  have ho := hr.own 0 _ rfl
  simp only [RVl, RV] at hargs
  obtain ⟨v1, us, e1, h1, rfl⟩ := hargs
  have htup : ∀ (w : World) ok σ, RV w ok σ (.tup []) (.tuple #[]) := fun w ok σ => by simp only [RV]; exact ⟨#[], rfl, by simp only [RVl]⟩
  have hvs : vs = #[v1] := by cases vs; simp_all
  subst hvs
  have hnone : ∀ (p : Option Addr) (cap : Nat), zs = [] → Calls Tryz.prog 99 #[.slice p 0 cap] w fun e w' => ∃ v, e = .returned v ∧ ∃ σ', HR cx (hvL [SWk (srtS zs)]) σ' w' ∧ (∀ i l, i < [SWk zs].length → σ i = some l → σ' i = some l) ∧ (∀ i, [SWk (srtS zs)].length ≤ i → σ' i = none) ∧ RV w' (okB cx w' (hvL [SWk (srtS zs)]) σ') σ' (.tup []) v := by
    intro p cap hz
    subst hz
    refine (AnyM.slices_Sort_string_none Tryz.sort99 p cap w).mono ?_
    rintro e w' ⟨rfl, rfl⟩
    have he : hvL [SWk (srtS [])] = fun i => [SWk []][i]? := by
      funext i
      rcases i with _ | i <;> simp [hvL, srtS, O.lv]
    exact ⟨_, rfl, σ, by rw [he]; exact hr, fun i l _ h => h, hfr, htup _ _ _⟩
  rcases h1 with ⟨hn, -, h0, a0, rfl⟩ | ⟨b, K, s, a, cap, hs, rfl, hnc, hlc, hca⟩
  · exact hnone _ _ (List.eq_nil_of_length_eq_zero h0)
  · rcases ho with ⟨hn, _⟩ | ⟨b', K', c, fr, hs', hb, hf, hcs, hxl, hel⟩
    · rw [hs] at hn; cases hn
    rw [hs] at hs'
    cases hs'
    rcases Nat.eq_zero_or_pos zs.length with hz | hz
    · rw [hz]
      exact hnone _ _ (List.eq_nil_of_length_eq_zero hz)
    obtain rfl : a = ⟨b, 0, none⟩ := by
      rcases hca with h | h
      · omega
      · rw [h]
    have hbl : b < w.heap.size := by
      rcases Nat.lt_or_ge b w.heap.size with h' | h'
      · exact h'
      · simp [Array.getElem?_eq_none h'] at hb
    have hlen : zs.length ≤ c.size := by
      simp only [dv_length, List.length_map] at hxl
      omega
    have hcell : ∀ j, j < zs.length → c[j]? = some (encStr zs[j]!) := by
      intro j hj
      obtain ⟨v, hv, hrv⟩ := RVels_get hel (i := j) (x := .d (.str zs[j]!)) (by rw [dv_get, List.getElem?_map, List.getElem?_eq_getElem hj, getElem!_pos zs j hj]; rfl)
      simp only [RV, RD] at hrv
      subst hrv
      simp only [ElemAt, Nat.zero_add, Nat.mul_one] at hv
      exact hv.2
    have hH : Holds (encStr) w b 0 zs.toArray := by
      intro j hj
      simp only [List.size_toArray] at hj
      refine ⟨?_, ?_⟩
      · simp only [World.cell?, hb, Nat.zero_add]
        rw [hcell j hj]
        simp
      · simp only [World.frozen?, hb, Nat.zero_add]
        have := hf j (by omega)
        simpa using this
    refine (AnyM.slices_Sort_string Tryz.sort99 b 0 cap zs w hH hbl (by omega)).mono ?_
    rintro e w' ⟨rfl, n, os, rfl⟩
    have hr2 : HR cx (fun i => [SWk zs][i]?) σ (Go.Sort.ahead w n) := hr.same rfl rfl rfl rfl
    refine ⟨_, rfl, σ, ?_, fun i l _ h => h, hfr, htup _ _ _⟩
    refine HR.grow ?_ os
    rw [putRow_setBS (w := Sort.ahead w n) (c := c) (e := 9) (fr := fr) hb]
    have hw := hr2.write (id := 0) (o0 := SWk zs) rfl hs (.cells (putCells (encStr) 0 (srtS zs).toArray c) 9 fr) (SWk (srtS zs)) (fun ok' hok' => by
      have hsl : (srtS zs).length = zs.length := (srtS_perm zs).length_eq
      refine .inr ⟨b, K, putCells (encStr) 0 (srtS zs).toArray c, fr, hs, setB_same hbl, ?_, ?_, ?_, ?_⟩
      · intro i hi
        exact hf i (by simpa [putCells] using hi)
      · simpa [putCells] using hcs
      · simp only [dv_length, List.length_map] at hxl ⊢
        omega
      · refine RVels_of fun i x hx => ?_
        rw [dv_get, List.getElem?_map] at hx
        have hi : i < (srtS zs).length := by
          rcases Nat.lt_or_ge i (srtS zs).length with h' | h'
          · exact h'
          · rw [List.getElem?_eq_none h'] at hx; cases hx
        rw [List.getElem?_eq_getElem hi] at hx
        cases hx
        refine ⟨encStr (srtS zs)[i], ?_, by simp only [RV, RD, encStr]⟩
        simp only [ElemAt, encStr, Nat.zero_add, Nat.mul_one]
        refine ⟨trivial, ?_⟩
        unfold putCells
        rw [Array.getElem?_mapIdx, Array.getElem?_eq_getElem (by omega)]
        have : i < (srtS zs).toArray.size := by simpa using hi
        simp [this, hi])
    have he : hvL [SWk (srtS zs)] = upd (fun i => [SWk zs][i]?) 0 (some (SWk (srtS zs))) := by
      funext i
      rcases i with _ | i
      · rfl
      · rw [upd_other _ _ (by omega)]
        simp [hvL]
    rw [he]
    exact hw.1
end Go.AX

namespace Go.AX
open Go Go.Proofs Go.RowKit
theorem all_ok_St (xs : List Str) : (dv (xs.map D.str)).all (elemOk 1) = true := by
  simp only [dv, List.map_map, List.all_eq_true, List.mem_map, Function.comp_apply, forall_exists_index, and_imp, forall_apply_eq_imp_iff₂]
  intro x _
  rfl
theorem cloneO_St (xs : List (Str)) (hl : xs.length ≤ 1000) : Does Tryz.prog 67 [.slr 0 0 xs.length] [.vec 9 1 (dv (xs.map D.str))] (.slr 1 0 xs.length) [.vec 9 1 (dv (xs.map D.str)), .vec 9 1 (dv (xs.map D.str))] := by
  refine Does.of_AW (n := 8) Tryz.func67 rfl rfl rfl fun cx hcx => ?_
  refine AW.sreg rfl fun K hK => ?_; simp only [go_sem, Nat.reduceAdd, Nat.reduceMul, Int.reduceToNat, Nat.reduceLT, Nat.reduceLeDiff, Nat.le_refl, Nat.reduceEqDiff, ↓reduceIte, beq_self_eq_true, bne_self_eq_false, Int.reduceBEq, Int.reduceBNe, or_self, true_or, or_true, Option.map_some, Option.map_none]
  refine hK _ ?_; (try clear hK K)
  refine AW.seq_k fun K1 hK1 => ?_
  refine AW.seq_k fun K2 hK2 => ?_
  refine AW.nilCmpO rfl rfl rfl rfl rfl rfl (by simp only [go_sem]; rfl) (by simp) (by simp) rfl (fun b hb => ?_)
  refine hK2 _ ?_
  refine AW.cond rfl (fun h => ?_) (fun h => ?_)
  · have h0 : xs = [] := by simpa using hb h
    subst h0
    repeat' (first | (refine AW.sreg rfl fun K hK => ?_; simp only [go_sem, Nat.reduceAdd, Nat.reduceMul, Int.reduceToNat, Nat.reduceLT, Nat.reduceLeDiff, Nat.le_refl, Nat.reduceEqDiff, ↓reduceIte, beq_self_eq_true, bne_self_eq_false, Int.reduceBEq, Int.reduceBNe, or_self, true_or, or_true, Option.map_some, Option.map_none, List.length_map]) | (refine hK _ ?_; clear hK K))
    refine AW.weak (Weak.nil 2 9 1 rfl) ?_
    exact AW.ret (Fin.objs [0, 320] rfl (by simp [go_sem, inI, gI]) ⟨⟨_, rfl, by simp [go_sem, inI, gI]⟩, ⟨_, rfl, by simp [go_sem, inI, gI]⟩, trivial⟩ (by simp) rfl (by simp [go_sem]) (by simp [go_sem]) rfl)
  · refine AW.skip (hK1 _ ?_)
    repeat' (first | (refine AW.sreg rfl fun K hK => ?_; simp only [go_sem, Nat.reduceAdd, Nat.reduceMul, Int.reduceToNat, Nat.reduceLT, Nat.reduceLeDiff, Nat.le_refl, Nat.reduceEqDiff, ↓reduceIte, beq_self_eq_true, bne_self_eq_false, Int.reduceBEq, Int.reduceBNe, or_self, true_or, or_true, Option.map_some, Option.map_none, List.length_map, all_ok_St]) | (refine hK _ ?_; clear hK K) | (with_reducible refine And.intro ?_ ?_; first | omega | assumption | (focus (decide)) | (focus (simp; done)) | (focus (simp; omega)) | (focus (constructor <;> omega)) | fail))
    exact AW.ret (Fin.objs [0, 384] rfl (by simp [go_sem, inI, gI]) ⟨⟨_, rfl, by simp [go_sem, inI, gI]⟩, ⟨_, rfl, by simp [go_sem, inI, gI]⟩, trivial⟩ (by simp) rfl (by simp [go_sem]) (by simp [go_sem]) rfl)

theorem compact_St (xs : List (Str)) (hl : xs.length ≤ 1000) :
    Does Tryz.prog 117 [.slr 0 0 xs.length] [.vec 9 1 (dv (xs.map D.str))] (.slr 0 0 (compactM xs).length) [.vec 9 1 (dv ((compactM xs).map D.str ++ List.replicate (xs.length - (compactM xs).length) (.str [])))] := by
  cases xs with
  | nil =>
    refine Does.of_AW (n := 61) Tryz.func117 rfl rfl rfl fun cx hcx => ?_
    repeat' (first | (refine AW.sreg rfl fun K hK => ?_; simp only [go_sem, Nat.reduceAdd, Nat.reduceMul, Int.reduceToNat, Nat.reduceLT, Nat.reduceLeDiff, Nat.le_refl, Nat.reduceEqDiff, ↓reduceIte, beq_self_eq_true, bne_self_eq_false, Int.reduceBEq, Int.reduceBNe, or_self, true_or, or_true, Option.map_some, Option.map_none]) | (refine AW.seq_k fun K hK => ?_) | (refine AW.condT rfl (by first | rfl | (simp; omega) | (simp [*]; done) | fail) ?_) | (refine hK _ ?_; clear hK K))
    exact AW.ret (Fin.one rfl (by simp [go_sem, compactM]) ⟨_, rfl, by simp [go_sem, compactM]⟩ rfl (by simp [go_sem]) rfl)
  | cons x0 r0 =>
  generalize hxs : x0 :: r0 = xs at *
  refine Does.of_AW (n := 61) Tryz.func117 rfl rfl rfl fun cx hcx => ?_
  repeat' (first | (refine AW.sreg rfl fun K hK => ?_; simp only [go_sem, Nat.reduceAdd, Nat.reduceMul, Int.reduceToNat, Nat.reduceLT, Nat.reduceLeDiff, Nat.le_refl, Nat.reduceEqDiff, ↓reduceIte, beq_self_eq_true, bne_self_eq_false, Int.reduceBEq, Int.reduceBNe, or_self, true_or, or_true, Option.map_some, Option.map_none, List.length_map]) | (refine AW.seq_k fun K hK => ?_) | (refine AW.block ?_) | (refine AW.skip ?_; simp only [Then, InBlock]) | (refine AW.cond rfl (fun h => ?_) (fun h => ?_) <;> (try simp only [decide_eq_true_eq, decide_eq_false_iff_not, Bool.not_eq_true', Bool.not_eq_false', Bool.not_eq_eq_eq_not, Bool.not_true, Bool.not_false, beq_iff_eq, bne_iff_ne, beq_eq_false_iff_ne, ne_eq, Bool.and_eq_true, Bool.or_eq_true, Bool.or_eq_false_iff] at h)) | (refine hK _ ?_; clear hK K))
  · have : r0 = [] := by
      rw [← hxs] at h; cases r0 with
      | nil => rfl
      | cons => simp at h; omega
    subst this
    subst hxs
    exact AW.ret (Fin.one rfl (by simp [go_sem, compactM, ctM]) ⟨_, rfl, by simp [go_sem, compactM, ctM]⟩ rfl (by simp [go_sem]) rfl)
  refine AW.loopF (ι := Nat) [0] (fun p => [(3, I p)]) (fun p => [(0, some (O.vec 9 1 (dv (xs.map D.str))))]) 1 (fun p => 1 ≤ p ∧ p ≤ xs.length ∧ ∀ y, xs[p - 1]? = some y → xs.take p ++ ctM y (xs.drop p) = compactM xs) (fun p => xs.length - p) 1 ⟨by simp, by omega, by rw [← hxs]; intro y hy; simp at hy; subst hy; simp [compactM]⟩ (Weak.auto hcx rfl rfl (Nat.le_of_ble_eq_true rfl) (by simp [go_sem, gL, kL, renOf, V.obj, lk, Nat.blt, Nat.ble, List.map_append, dv_push]) (by simp [go_sem, gL, kL, renOf, V.obj, lk, Nat.blt, Nat.ble, List.map_append, dv_push]) (by first | exact pk0 | exact pk1 ⟨_, rfl⟩ | exact pk2 ⟨_, rfl⟩ ⟨_, rfl⟩ | exact pk3 ⟨_, rfl⟩ ⟨_, rfl⟩ ⟨_, rfl⟩ | exact pk4 ⟨_, rfl⟩ ⟨_, rfl⟩ ⟨_, rfl⟩ ⟨_, rfl⟩) (by simp [go_sem, gL, kL, lk, renOf, V.obj, Nat.blt, Nat.ble])) ?_; simp only [St.at_nil, St.at_cons, lk, Nat.reduceEqDiff, ↓reduceIte, Option.getD_some, Option.getD_none, List.cons_append, List.nil_append, List.append_nil]
  rintro k ⟨h1, h2, h3⟩
  by_cases hi : k < xs.length
  · obtain ⟨x, hx, hxm, hxd⟩ := get_some hi
    obtain ⟨y, hy, hym, hyd⟩ := get_some (show k - 1 < xs.length by omega)
    have hget : (dv (xs.map D.str))[0 + k]? = some (.d (D.str x)) := by simp only [dv, Nat.zero_add, List.getElem?_map, hx, Option.map_some]
    have hget2 : (dv (xs.map D.str))[0 + ((k : Int) - 1).toNat]? = some (.d (D.str y)) := by
      rw [show ((k : Int) - 1).toNat = k - 1 by omega]
      simp only [dv, Nat.zero_add, List.getElem?_map, hy, Option.map_some]
    have h3 := h3 y hy
    rw [hxd, ctM] at h3
    have heq : ((fun (x y : Str) => x == y) x y) = (x == y) := rfl
    dsimp only at heq
    cases hb : (x == y) with
    | false =>
      rw [hb] at heq h3
      simp only [Bool.false_eq_true, if_false] at h3
      repeat' (first | ((first | refine AW.sreg rfl fun K hK => ?_ | refine AW.sregD hmix rfl fun K hK => ?_ | refine AW.reg rfl ?_); simp only [go_sem, Nat.reduceAdd, Nat.reduceMul, Int.reduceToNat, Nat.reduceLT, Nat.reduceLeDiff, Nat.le_refl, Nat.reduceEqDiff, ↓reduceIte, beq_self_eq_true, bne_self_eq_false, Int.reduceBEq, Int.reduceBNe, or_self, true_or, or_true, Option.map_some, Option.map_none, List.length_map, hget, hget2, heq]) | (refine AW.seq_k fun K hK => ?_) | (refine AW.block ?_) | (refine AW.skip ?_; simp only [Then, InBlock]) | (refine AW.condT rfl (by first | rfl | (simp; omega) | (simp [*]; done) | fail) ?_) | (refine AW.condF rfl (by first | rfl | (simp; omega) | (simp [*]; done) | fail) ?_) | (refine hK _ ?_; clear hK K) | (with_reducible refine And.intro (?_ : regOk _ _ = true) ?_; kernel_rfl) | (with_reducible refine And.intro ?_ ?_; first | omega | assumption | (focus (decide)) | (focus (simp; done)) | (focus (simp; omega)) | (focus (constructor <;> omega)) | fail))
      refine ⟨k + 1, ⟨by omega, hi, fun z hz => ?_⟩, by omega, (Weak.auto hcx rfl rfl (Nat.le_of_ble_eq_true rfl) (by simp [go_sem, gL, kL, renOf, V.obj, lk, Nat.blt, Nat.ble, List.map_append, dv_push]) (by simp [go_sem, gL, kL, renOf, V.obj, lk, Nat.blt, Nat.ble, List.map_append, dv_push]) (by first | exact pk0 | exact pk1 ⟨_, rfl⟩ | exact pk2 ⟨_, rfl⟩ ⟨_, rfl⟩ | exact pk3 ⟨_, rfl⟩ ⟨_, rfl⟩ ⟨_, rfl⟩ | exact pk4 ⟨_, rfl⟩ ⟨_, rfl⟩ ⟨_, rfl⟩ ⟨_, rfl⟩) (by simp [go_sem, gL, kL, lk, renOf, V.obj, Nat.blt, Nat.ble]))⟩
      rw [Nat.add_sub_cancel, hx] at hz
      cases hz
      rw [← h3, List.take_add_one, hx]
      simp
    | true =>
      rw [hb] at heq h3
      simp only [if_true] at h3
      obtain rfl : x = y := by simpa using hb
      repeat' (first | ((first | refine AW.sreg rfl fun K hK => ?_ | refine AW.sregD hmix rfl fun K hK => ?_); simp only [go_sem, Nat.reduceAdd, Nat.reduceMul, Int.reduceToNat, Nat.reduceLT, Nat.reduceLeDiff, Nat.le_refl, Nat.reduceEqDiff, ↓reduceIte, beq_self_eq_true, bne_self_eq_false, Int.reduceBEq, Int.reduceBNe, or_self, true_or, or_true, Option.map_some, Option.map_none, List.length_map, hget, hget2, heq]) | (refine AW.seq_k fun K hK => ?_) | (refine AW.block ?_) | (refine AW.skip ?_; simp only [Then, InBlock]) | (refine AW.condT rfl (by first | rfl | (simp; omega) | (simp [*]; done) | fail) ?_) | (refine hK _ ?_; clear hK K) | (with_reducible refine And.intro (?_ : regOk _ _ = true) ?_; kernel_rfl) | (with_reducible refine And.intro ?_ ?_; first | omega | assumption | (focus (decide)) | (focus (simp; done)) | (focus (simp; omega)) | (focus (constructor <;> omega)) | fail))
      refine AW.loopF (ι := Nat × List (Str) × List (Str) × Str) [0, 4] (fun p => [(3, I p.2.1.length), (5, I p.1)]) (fun p => [(0, some (O.vec 9 1 (dv ((p.2.1 ++ (p.2.2.1 ++ p.2.2.2 :: xs.drop (k + p.1))).map D.str))))]) 1 (fun p => 1 ≤ p.1 ∧ k + p.1 ≤ xs.length ∧ p.2.1.length + p.2.2.1.length + 1 = k + p.1 ∧ p.2.1 ++ ctM p.2.2.2 (xs.drop (k + p.1)) = compactM xs) (fun p => xs.length - p.1) (1, xs.take k, [], x) ⟨by simp, by simp only; omega, by simp; omega, h3⟩ (Weak.auto hcx rfl rfl (Nat.le_of_ble_eq_true rfl) (by simp [go_sem, gL, kL, renOf, V.obj, lk, Nat.blt, Nat.ble, List.map_append, dv_push, ← hxd, List.take_append_drop, Nat.min_eq_left (Nat.le_of_lt hi)]) (by simp [go_sem, gL, kL, renOf, V.obj, lk, Nat.blt, Nat.ble, List.map_append, dv_push, ← hxd, List.take_append_drop, Nat.min_eq_left (Nat.le_of_lt hi)]) (by first | exact pk0 | exact pk1 ⟨_, rfl⟩ | exact pk2 ⟨_, rfl⟩ ⟨_, rfl⟩ | exact pk3 ⟨_, rfl⟩ ⟨_, rfl⟩ ⟨_, rfl⟩ | exact pk4 ⟨_, rfl⟩ ⟨_, rfl⟩ ⟨_, rfl⟩ ⟨_, rfl⟩) (by simp [go_sem, gL, kL, lk, renOf, V.obj, Nat.blt, Nat.ble, ← hxd, List.take_append_drop, Nat.min_eq_left (Nat.le_of_lt hi)])) ?_; simp only [St.at_nil, St.at_cons, lk, Nat.reduceEqDiff, ↓reduceIte, Option.getD_some, Option.getD_none, List.cons_append, List.nil_append, List.append_nil]
      rintro ⟨k2, A, G, y⟩ ⟨g1, g2, g3, g4⟩
      simp only at g1 g2 g3 g4 ⊢
      by_cases hj : k + k2 < xs.length
      · obtain ⟨z, hz, hzm, hzd⟩ := get_some hj
        have e1 : (dv ((A ++ (G ++ y :: xs.drop (k + k2))).map D.str))[0 + k + k2]? = some (.d (D.str z)) := by
          have : (A ++ (G ++ y :: xs.drop (k + k2)))[k + k2]? = some z := by
            rw [show A ++ (G ++ y :: xs.drop (k + k2)) = (A ++ (G ++ [y])) ++ xs.drop (k + k2) by simp, List.getElem?_append_right (by simp; omega), show k + k2 - (A ++ (G ++ [y])).length = 0 by simp; omega, hzd]
            rfl
          simp only [dv, Nat.zero_add, List.getElem?_map, this, Option.map_some]
        have e2 : (dv ((A ++ (G ++ y :: xs.drop (k + k2))).map D.str))[0 + k + ((k2 : Int) - 1).toNat]? = some (.d (D.str y)) := by
          have : (A ++ (G ++ y :: xs.drop (k + k2)))[k + ((k2 : Int) - 1).toNat]? = some y := by
            rw [show A ++ (G ++ y :: xs.drop (k + k2)) = (A ++ G) ++ (y :: xs.drop (k + k2)) by simp, List.getElem?_append_right (by simp; omega), show k + ((k2 : Int) - 1).toNat - (A ++ G).length = 0 by simp; omega]
            rfl
          simp only [dv, Nat.zero_add, List.getElem?_map, this, Option.map_some]
        have hlen : (A ++ (G ++ y :: xs.drop (k + k2))).length = xs.length := by simp; omega
        have heq2 : ((fun (x y : Str) => x == y) z y) = (z == y) := rfl
        dsimp only at heq2
        rw [hzd, ctM] at g4
        cases hb2 : (z == y) with
        | true =>
          rw [hb2] at heq2 g4
          simp only [if_true] at g4
          obtain rfl : z = y := by simpa using hb2
          repeat' (first | ((first | refine AW.sreg rfl fun K hK => ?_ | refine AW.sregD hmix rfl fun K hK => ?_ | refine AW.reg rfl ?_); simp only [go_sem, Nat.reduceAdd, Nat.reduceMul, Int.reduceToNat, Nat.reduceLT, Nat.reduceLeDiff, Nat.le_refl, Nat.reduceEqDiff, ↓reduceIte, beq_self_eq_true, bne_self_eq_false, Int.reduceBEq, Int.reduceBNe, or_self, true_or, or_true, Option.map_some, Option.map_none, List.length_map, e1, e2, heq2]) | (refine AW.seq_k fun K hK => ?_) | (refine AW.block ?_) | (refine AW.skip ?_; simp only [Then, InBlock]) | (refine AW.condT rfl (by first | rfl | (simp; omega) | (simp [*]; done) | fail) ?_) | (refine AW.condF rfl (by first | rfl | (simp; omega) | (simp [*]; done) | fail) ?_) | (refine hK _ ?_; clear hK K) | (with_reducible refine And.intro (?_ : regOk _ _ = true) ?_; kernel_rfl) | (with_reducible refine And.intro ?_ ?_; first | omega | assumption | (focus (decide)) | (focus (simp; done)) | (focus (simp; omega)) | (focus (constructor <;> omega)) | fail))
          refine ⟨(k2 + 1, A, G ++ [z], z), ⟨by simp only; omega, by simp only; omega, by simp; omega, by simpa [Nat.add_assoc] using g4⟩, by simp only; omega, (Weak.auto hcx rfl rfl (Nat.le_of_ble_eq_true rfl) (by simp [go_sem, gL, kL, renOf, V.obj, lk, Nat.blt, Nat.ble, List.map_append, dv_push, hzd, Nat.add_assoc]) (by simp [go_sem, gL, kL, renOf, V.obj, lk, Nat.blt, Nat.ble, List.map_append, dv_push, hzd, Nat.add_assoc]) (by first | exact pk0 | exact pk1 ⟨_, rfl⟩ | exact pk2 ⟨_, rfl⟩ ⟨_, rfl⟩ | exact pk3 ⟨_, rfl⟩ ⟨_, rfl⟩ ⟨_, rfl⟩ | exact pk4 ⟨_, rfl⟩ ⟨_, rfl⟩ ⟨_, rfl⟩ ⟨_, rfl⟩) (by simp [go_sem, gL, kL, lk, renOf, V.obj, Nat.blt, Nat.ble, hzd, Nat.add_assoc]))⟩
        | false =>
          rw [hb2] at heq2 g4
          simp only [Bool.false_eq_true, if_false] at g4
          rcases G with _ | ⟨g0, G⟩
          · have hset : (dv ((A ++ ([] ++ y :: xs.drop (k + k2))).map D.str)).set (0 + A.length) (.d (D.str z)) = dv (((A ++ [z]) ++ xs.drop (k + k2)).map D.str) := by
              have := set_mid (dv (A.map D.str)) (V.d (D.str y)) (dv ((xs.drop (k + k2)).map D.str)) (V.d (D.str z))
              simpa [dv] using this
            simp only [List.nil_append, List.cons_append] at e1 e2 hset hlen
            have e3 : (dv ((A ++ y :: xs.drop (k + k2)).map D.str))[0 + A.length]? = some (.d (D.str y)) := by
              have := get_mid A y (xs.drop (k + k2))
              simp only [dv, Nat.zero_add, List.getElem?_map, this, Option.map_some]
            repeat' (first | ((first | refine AW.sreg rfl fun K hK => ?_ | refine AW.sregD hmix rfl fun K hK => ?_ | refine AW.reg rfl ?_); simp only [go_sem, Nat.reduceAdd, Nat.reduceMul, Int.reduceToNat, Nat.reduceLT, Nat.reduceLeDiff, Nat.le_refl, Nat.reduceEqDiff, ↓reduceIte, beq_self_eq_true, bne_self_eq_false, Int.reduceBEq, Int.reduceBNe, or_self, true_or, or_true, Option.map_some, Option.map_none, List.length_map, e1, e2, e3, heq2, hset]) | (refine AW.seq_k fun K hK => ?_) | (refine AW.block ?_) | (refine AW.skip ?_; simp only [Then, InBlock]) | (refine AW.condT rfl (by first | rfl | (simp; omega) | (simp [*]; done) | fail) ?_) | (refine hK _ ?_; clear hK K) | (with_reducible refine And.intro (?_ : regOk _ _ = true) ?_; kernel_rfl) | (with_reducible refine And.intro ?_ ?_; first | omega | assumption | (focus (decide)) | (focus (simp; done)) | (focus (simp; omega)) | (focus (constructor <;> omega)) | fail))
            refine ⟨(k2 + 1, A ++ [z], [], z), ⟨by simp only; omega, by simp only; omega, by simp at g3 ⊢; omega, by simpa [Nat.add_assoc] using g4⟩, by simp only; omega, (Weak.auto hcx rfl rfl (Nat.le_of_ble_eq_true rfl) (by simp [go_sem, gL, kL, renOf, V.obj, lk, Nat.blt, Nat.ble, List.map_append, dv_push, hzd, Nat.add_assoc]) (by simp [go_sem, gL, kL, renOf, V.obj, lk, Nat.blt, Nat.ble, List.map_append, dv_push, hzd, Nat.add_assoc]) (by first | exact pk0 | exact pk1 ⟨_, rfl⟩ | exact pk2 ⟨_, rfl⟩ ⟨_, rfl⟩ | exact pk3 ⟨_, rfl⟩ ⟨_, rfl⟩ ⟨_, rfl⟩ | exact pk4 ⟨_, rfl⟩ ⟨_, rfl⟩ ⟨_, rfl⟩ ⟨_, rfl⟩) (by simp [go_sem, gL, kL, lk, renOf, V.obj, Nat.blt, Nat.ble, hzd, Nat.add_assoc]))⟩
          · have hset : (dv ((A ++ ((g0 :: G) ++ y :: xs.drop (k + k2))).map D.str)).set (0 + A.length) (.d (D.str z)) = dv (((A ++ [z]) ++ (G ++ y :: xs.drop (k + k2))).map D.str) := by
              have := set_mid (dv (A.map D.str)) (V.d (D.str g0)) (dv ((G ++ y :: xs.drop (k + k2)).map D.str)) (V.d (D.str z))
              simpa [dv] using this
            simp only [List.nil_append, List.cons_append] at e1 e2 hset hlen
            have e3 : (dv ((A ++ g0 :: (G ++ y :: xs.drop (k + k2))).map D.str))[0 + A.length]? = some (.d (D.str g0)) := by
              have := get_mid A g0 (G ++ y :: xs.drop (k + k2))
              simp only [dv, Nat.zero_add, List.getElem?_map, this, Option.map_some]
            repeat' (first | ((first | refine AW.sreg rfl fun K hK => ?_ | refine AW.sregD hmix rfl fun K hK => ?_ | refine AW.reg rfl ?_); simp only [go_sem, Nat.reduceAdd, Nat.reduceMul, Int.reduceToNat, Nat.reduceLT, Nat.reduceLeDiff, Nat.le_refl, Nat.reduceEqDiff, ↓reduceIte, beq_self_eq_true, bne_self_eq_false, Int.reduceBEq, Int.reduceBNe, or_self, true_or, or_true, Option.map_some, Option.map_none, List.length_map, e1, e2, e3, heq2, hset]) | (refine AW.seq_k fun K hK => ?_) | (refine AW.block ?_) | (refine AW.skip ?_; simp only [Then, InBlock]) | (refine AW.condT rfl (by first | rfl | (simp; omega) | (simp [*]; done) | fail) ?_) | (refine hK _ ?_; clear hK K) | (with_reducible refine And.intro (?_ : regOk _ _ = true) ?_; kernel_rfl) | (with_reducible refine And.intro ?_ ?_; first | omega | assumption | (focus (decide)) | (focus (simp; done)) | (focus (simp; omega)) | (focus (constructor <;> omega)) | fail))
            refine ⟨(k2 + 1, A ++ [z], G ++ [y], z), ⟨by simp only; omega, by simp only; omega, by simp at g3 ⊢; omega, by simpa [Nat.add_assoc] using g4⟩, by simp only; omega, (Weak.auto hcx rfl rfl (Nat.le_of_ble_eq_true rfl) (by simp [go_sem, gL, kL, renOf, V.obj, lk, Nat.blt, Nat.ble, List.map_append, dv_push, hzd, Nat.add_assoc]) (by simp [go_sem, gL, kL, renOf, V.obj, lk, Nat.blt, Nat.ble, List.map_append, dv_push, hzd, Nat.add_assoc]) (by first | exact pk0 | exact pk1 ⟨_, rfl⟩ | exact pk2 ⟨_, rfl⟩ ⟨_, rfl⟩ | exact pk3 ⟨_, rfl⟩ ⟨_, rfl⟩ ⟨_, rfl⟩ | exact pk4 ⟨_, rfl⟩ ⟨_, rfl⟩ ⟨_, rfl⟩ ⟨_, rfl⟩) (by simp [go_sem, gL, kL, lk, renOf, V.obj, Nat.blt, Nat.ble, hzd, Nat.add_assoc]))⟩
      · have hn : k + k2 = xs.length := by omega
        rw [hn, List.drop_length, ctM, List.append_nil] at g4
        subst g4
        have hcl : (dv ((compactM xs ++ (G ++ [y])).map D.str)).take (0 + (compactM xs).length) ++ List.replicate (xs.length - (compactM xs).length) (V.d (.str [])) ++ (dv ((compactM xs ++ (G ++ [y])).map D.str)).drop (0 + (compactM xs).length + (xs.length - (compactM xs).length)) = dv ((compactM xs).map D.str ++ List.replicate (xs.length - (compactM xs).length) (.str [])) := by
          rw [List.drop_eq_nil_of_le (by simp [dv]; omega), List.append_nil]
          simp [dv]
        repeat' (first | (refine AW.sreg rfl fun K hK => ?_; simp only [go_sem, Nat.reduceAdd, Nat.reduceMul, Int.reduceToNat, Nat.reduceLT, Nat.reduceLeDiff, Nat.le_refl, Nat.reduceEqDiff, ↓reduceIte, beq_self_eq_true, bne_self_eq_false, Int.reduceBEq, Int.reduceBNe, or_self, true_or, or_true, Option.map_some, Option.map_none, List.length_map, hn, List.drop_length, hcl]) | (refine AW.seq_k fun K hK => ?_) | (refine AW.exit ?_; simp only [go_sem, ↓reduceIte]) | (refine AW.condF rfl (by first | rfl | (simp; omega) | (simp [*]; done) | fail) ?_) | (refine hK _ ?_; clear hK K) | (clear hK K; refine hK _ ?_; clear hK K) | (with_reducible refine And.intro ?_ ?_; first | omega | assumption | (focus (decide)) | (focus (simp; done)) | (focus (simp; omega)) | (focus (constructor <;> omega)) | fail))
        exact AW.ret (Fin.one rfl (by simp [go_sem]) ⟨_, rfl, by simp [go_sem]⟩ rfl (by simp [go_sem]) rfl)
  · obtain rfl : k = xs.length := by omega
    obtain ⟨y, hy, -, -⟩ := get_some (show xs.length - 1 < xs.length by omega)
    replace h3 := h3 y hy
    simp only [List.take_length, List.drop_length, ctM, List.append_nil] at h3
    replace h3 := h3.symm
    clear hxs hy h1 h2
    repeat' (first | (refine AW.sreg rfl fun K hK => ?_; simp only [go_sem, Nat.reduceAdd, Nat.reduceMul, Int.reduceToNat, Nat.reduceLT, Nat.reduceLeDiff, Nat.le_refl, Nat.reduceEqDiff, ↓reduceIte, beq_self_eq_true, bne_self_eq_false, Int.reduceBEq, Int.reduceBNe, or_self, true_or, or_true, Option.map_some, Option.map_none, List.length_map]) | (refine AW.seq_k fun K hK => ?_) | (refine AW.exit ?_; simp only [go_sem, ↓reduceIte]) | (refine AW.condF rfl (by first | rfl | (simp; omega) | (simp [*]; done) | fail) ?_) | (refine hK _ ?_; clear hK K) | (clear hK K; refine hK _ ?_; clear hK K))
    exact AW.ret (Fin.one rfl (by simp [go_sem, h3]) ⟨_, rfl, by simp [go_sem, h3]⟩ rfl (by simp [go_sem]) rfl)

theorem srtS_sorted (zs : List Str) : Sorted ltS (srtS zs) := by
  have h := List.pairwise_mergeSort (le := fun x y : Str => decide (x ≤ y)) (fun a b c h1 h2 => by simp only [decide_eq_true_eq] at *; exact List.le_trans h1 h2) (fun a b => by have := List.le_total a b; simpa using this) zs
  refine h.imp fun {a b} hab => ?_
  simp only [decide_eq_true_eq] at hab
  cases hl : ltS b a with
  | false => rfl
  | true => exact absurd (ltS_lt hl) (List.not_lt.2 hab)
/-- Names, sorted and once each. -/
def onc (zs : List Str) : List Str := compactM (srtS zs)
theorem onc_rise (zs : List Str) : (onc zs).Pairwise (fun a b => ltS a b = true) := compactM_rise (fun _ _ => ltS_total) (fun _ _ _ => ltS_trans) _ (srtS_sorted zs)
theorem onc_mem (zs : List Str) (x : Str) : x ∈ onc zs ↔ x ∈ zs := by rw [onc, compactM_mem, (srtS_perm zs).mem_iff]
theorem sorted_any (zs : List Str) (hl : zs.length ≤ 1000) : Does Tryz.prog 85 [.slr 0 0 zs.length] [SWk zs] (.slr 1 0 (onc zs).length) [SWk zs, SWk (onc zs)] := by
  have h1 := cloneO_St zs hl
  have h2 := sortStrs_does zs hl
  have hsl := (srtS_perm zs).length_eq
  have h3 := compact_St (srtS zs) (by omega)
  rw [hsl] at h3
  have h4 : Does Tryz.prog 85 [.slr 0 0 zs.length] [SWk zs] (.slr 1 0 (onc zs).length) [SWk zs, .vec 9 1 (dv ((onc zs).map D.str) ++ dv (List.replicate (zs.length - (onc zs).length) (.str [])))] := by
    unfold onc
    have e := dv_appV ((compactM (srtS zs)).map D.str) (List.replicate (zs.length - (compactM (srtS zs)).length) (.str []))
    rw [← e]
    clear e
    refine Does.of_AW (n := 10) Tryz.func85 rfl rfl rfl fun cx hcx => ?_
    repeat' (first | ((first | refine AW.sreg rfl fun K hK => ?_ | refine run_call _ _ _ ((h1).objs [_] ⟨rfl, trivial⟩ rfl (by decide) (by simp [go_sem, renOs]) (by simp) (by simp) (by simp [go_sem]) (by simp [go_sem]) (by simp [go_sem]) (by simp [go_sem])) rfl rfl (dstOk_of rfl) rfl rfl rfl ?_ | refine run_call _ _ _ ((h2).objs [_] ⟨rfl, trivial⟩ rfl (by decide) (by simp [go_sem, renOs]) (by simp) (by simp) (by simp [go_sem]) (by simp [go_sem]) (by simp [go_sem]) (by simp [go_sem])) rfl rfl (dstOk_of rfl) rfl rfl rfl ?_ | refine run_call _ _ _ ((h3).objs [_] ⟨rfl, trivial⟩ rfl (by decide) (by simp [go_sem, renOs]) (by simp) (by simp) (by simp [go_sem]) (by simp [go_sem]) (by simp [go_sem]) (by simp [go_sem])) rfl rfl (dstOk_of rfl) rfl rfl rfl ?_); simp only [go_sem, Nat.reduceAdd, Nat.reduceMul, Int.reduceToNat, Nat.reduceLT, Nat.reduceLeDiff, Nat.le_refl, Nat.reduceEqDiff, ↓reduceIte, beq_self_eq_true, bne_self_eq_false, Int.reduceBEq, Int.reduceBNe, or_self, true_or, or_true, Option.map_some, Option.map_none, Nat.reduceSub, Nat.add_zero]) | (refine hK _ ?_; clear hK K))
    exact AW.ret (Fin.objs [0, 192] rfl (by simp [go_sem, inI, gI]) ⟨⟨_, rfl, by simp [go_sem, inI, gI]⟩, ⟨_, rfl, by simp [go_sem, inI, gI]⟩, trivial⟩ (by simp) rfl (by simp [go_sem]) (by simp [go_sem]) rfl)
  refine h4.cut rfl fun i o' ho => ?_
  rcases i with _ | _ | i
  · exact ⟨o', ho, .inl rfl⟩
  · simp [hvL, O.lv] at ho ⊢
    subst ho
    exact .inr ⟨_, _, _, _, rfl, rfl⟩
  · simp [hvL] at ho
end Go.AX

namespace Go.AX
open Go Go.Proofs Go.RowKit
/-- The papers of marks, and the persons. -/
def pps (ms : List Mk) : List Str := onc (ms.map (·.1))
theorem take_snoc {α : Type} {ms : List α} {i : Nat} {x : α} (hx : ms[i]? = some x) : ms.take (i + 1) = ms.take i ++ [x] := by rw [List.take_add_one, hx]; rfl
theorem markedPapersD_any (ms : List Mk) (hl : ms.length ≤ 1000) : Does Tryz.prog 47 [.d (.sl (ms.map mkD))] [] (.d (.sl ((pps ms).map D.str))) [] := by
  refine Does.of_AW (n := 21) Tryz.func47 rfl rfl rfl fun cx hcx => ?_
  have h3 := sorted_any (ms.map (·.1)) (by simpa using hl)
  rw [List.length_map] at h3
  repeat' (first | (refine AW.sreg rfl fun K hK => ?_; simp only [go_sem, Nat.reduceAdd, Nat.reduceMul, Int.reduceToNat, Nat.reduceLT, Nat.reduceLeDiff, Nat.le_refl, Nat.reduceEqDiff, ↓reduceIte, beq_self_eq_true, bne_self_eq_false, Int.reduceBEq, Int.reduceBNe, or_self, true_or, or_true, Option.map_some, Option.map_none, List.length_map]) | (refine AW.seq_k fun K hK => ?_) | (refine AW.block ?_) | (refine hK _ ?_; clear hK K))
  refine AW.weak (Weak.nil 3 9 1 rfl) ?_
  refine AW.loopF (ι := Nat) [6, 7] (fun p => [(3, .slr 320 0 p), (8, I p)]) (fun p => [(320, some (SWk ((ms.take p).map (·.1))))]) 6 (fun p => p ≤ ms.length) (fun p => ms.length - p) 0 (Nat.zero_le _) (Weak.auto hcx rfl rfl (Nat.le_of_ble_eq_true rfl) (by simp [go_sem, gL, kL, renOf, V.obj, lk, Nat.blt, Nat.ble, List.map_append, dv_push, List.take_zero, List.map_nil]) (by simp [go_sem, gL, kL, renOf, V.obj, lk, Nat.blt, Nat.ble, List.map_append, dv_push, List.take_zero, List.map_nil]) (by first | exact pk0 | exact pk1 ⟨_, rfl⟩ | exact pk2 ⟨_, rfl⟩ ⟨_, rfl⟩ | exact pk3 ⟨_, rfl⟩ ⟨_, rfl⟩ ⟨_, rfl⟩ | exact pk4 ⟨_, rfl⟩ ⟨_, rfl⟩ ⟨_, rfl⟩ ⟨_, rfl⟩) (by simp [go_sem, gL, kL, lk, renOf, V.obj, Nat.blt, Nat.ble, List.take_zero, List.map_nil])) ?_; simp only [St.at_nil, St.at_cons, lk, Nat.reduceEqDiff, ↓reduceIte, Option.getD_some, Option.getD_none, List.cons_append, List.nil_append, List.append_nil]
  intro i h1
  by_cases hi : i < ms.length
  · obtain ⟨x, hx, hxm, -⟩ := get_some hi
    have hget : (ms.map mkD)[i]? = some (mkD x) := by simp only [List.getElem?_map, hx, Option.map_some]
    have e : (ms.take (i + 1)).map (·.1) = (ms.take i).map (·.1) ++ [x.1] := by rw [take_snoc hx, List.map_append]; rfl
    have hzl : ((ms.take i).map (·.1)).length = i := by simp; omega
    generalize (ms.take i).map (·.1) = zs at *
    have htl : List.take i (dv (zs.map D.str)) = dv (zs.map D.str) := List.take_of_length_le (by simp [dv]; omega)
    repeat' (first | ((first | refine AW.sreg rfl fun K hK => ?_ | refine AW.reg rfl ?_); simp only [go_sem, Nat.reduceAdd, Nat.reduceMul, Int.reduceToNat, Nat.reduceLT, Nat.reduceLeDiff, Nat.le_refl, Nat.reduceEqDiff, ↓reduceIte, beq_self_eq_true, bne_self_eq_false, Int.reduceBEq, Int.reduceBNe, or_self, true_or, or_true, Option.map_some, Option.map_none, List.length_map, hget, htl]) | (refine AW.seq_k fun K hK => ?_) | (refine AW.block ?_) | (refine AW.skip ?_; simp only [Then, InBlock]) | (refine AW.condT rfl (by first | rfl | (simp; omega) | (simp [*]; done) | fail) ?_) | (refine hK _ ?_; clear hK K) | (with_reducible refine And.intro ?_ ?_; first | omega | assumption | (focus (decide)) | (focus (simp; done)) | (focus (simp; omega)) | (focus (constructor <;> omega)) | fail))
    exact ⟨i + 1, hi, by omega, (Weak.auto hcx rfl rfl (Nat.le_of_ble_eq_true rfl) (by simp [go_sem, gL, kL, renOf, V.obj, lk, Nat.blt, Nat.ble, List.map_append, dv_push, e]) (by simp [go_sem, gL, kL, renOf, V.obj, lk, Nat.blt, Nat.ble, List.map_append, dv_push, e]) (by first | exact pk0 | exact pk1 ⟨_, rfl⟩ | exact pk2 ⟨_, rfl⟩ ⟨_, rfl⟩ | exact pk3 ⟨_, rfl⟩ ⟨_, rfl⟩ ⟨_, rfl⟩ | exact pk4 ⟨_, rfl⟩ ⟨_, rfl⟩ ⟨_, rfl⟩ ⟨_, rfl⟩) (by simp [go_sem, gL, kL, lk, renOf, V.obj, Nat.blt, Nat.ble, e]))⟩
  · obtain rfl : i = ms.length := by omega
    rw [List.take_length]
    repeat' (first | ((first | refine AW.sreg rfl fun K hK => ?_ | refine run_call _ _ _ ((h3).objs [_] ⟨rfl, trivial⟩ rfl (by decide) (by simp [go_sem, renOs]) (by simp) (by simp) (by simp [go_sem]) (by simp [go_sem]) (by simp [go_sem]) (by simp [go_sem])) rfl rfl (dstOk_of rfl) rfl rfl rfl ?_); simp only [go_sem, Nat.reduceAdd, Nat.reduceMul, Int.reduceToNat, Nat.reduceLT, Nat.reduceLeDiff, Nat.le_refl, Nat.reduceEqDiff, ↓reduceIte, beq_self_eq_true, bne_self_eq_false, Int.reduceBEq, Int.reduceBNe, or_self, true_or, or_true, Option.map_some, Option.map_none, List.length_map, Nat.reduceSub, Nat.add_zero]) | (refine AW.seq_k fun K hK => ?_) | (refine AW.exit ?_; simp only [go_sem, ↓reduceIte]) | (refine AW.condF rfl (by first | rfl | (simp; omega) | (simp [*]; done) | fail) ?_) | (refine hK _ ?_; clear hK K) | (clear hK K; refine hK _ ?_; clear hK K))
    exact AW.ret (Fin.data rfl ((frz_slr (e := 9) (s := 1) (xs := (pps ms).map D.str) rfl rfl (by rw [List.length_map]; rfl)).trans (by simp [go_sem])) rfl)
theorem gP_len (ms : List Mk) (q : Str) : (gP ms q).length ≤ ms.length := List.length_filter_le _ _
end Go.AX

namespace Go.AX
open Go Go.Proofs Go.RowKit
def BdI (m : IM) (B : Int) : Prop := ∀ k, -B ≤ imG m k ∧ imG m k ≤ B
theorem BdI.put {m : IM} {B : Int} (h : BdI m B) {k : Str} {v : Int} (hv : -B ≤ v ∧ v ≤ B) : BdI (imP m k v) B := fun k' => by
  rw [imG_put]
  split
  · exact hv
  · exact h k'
theorem BdI.mono {m : IM} {B C : Int} (h : BdI m B) (hc : B ≤ C) : BdI m C := fun k => by have := h k; omega
/-- A sum of at most as many terms, each within C. -/
def SumOk (n : Nat) (s C : Int) : Prop := -((n : Int) * C) ≤ s ∧ s ≤ (n : Int) * C
theorem SumOk.zero (C : Int) : SumOk 0 0 C := by simp [SumOk]
theorem SumOk.add {n : Nat} {s C v : Int} (h : SumOk n s C) (hv : -C ≤ v ∧ v ≤ C) : SumOk (n + 1) (s + v) C := by
  unfold SumOk at *
  rw [show ((n + 1 : Nat) : Int) * C = (n : Int) * C + C by rw [Int.natCast_add, Int.add_mul]; simp]
  omega
end Go.AX

namespace Go.AX
open Go Go.Proofs Go.RowKit
theorem insP_congr {α : Type} {lt lt' : α → α → Bool} : ∀ (pr : List α) (x : α) (q : List α), (∀ y ∈ pr, lt x y = lt' x y) → insP lt pr x q = insP lt' pr x q
  | [], _, _, _ => rfl
  | y :: pr, x, q, h => by
    have h0 := h y (by simp)
    simp only [insP, h0, insP_congr pr x (y :: q) fun z hz => h z (List.mem_cons_of_mem _ hz)]
theorem isGo_congr {α : Type} {lt lt' : α → α → Bool} : ∀ (r d : List α), (∀ x ∈ r, ∀ y ∈ d, lt x y = lt' x y) → r.Pairwise (fun a b => lt b a = lt' b a) → isGo lt d r = isGo lt' d r
  | [], _, _, _ => rfl
  | x :: r, d, h, hp => by
    have hp' := List.pairwise_cons.1 hp
    simp only [isGo]
    rw [insP_congr d.reverse x [] fun y hy => h x (by simp) y (by simpa using hy)]
    refine isGo_congr r _ (fun z hz y hy => ?_) hp'.2
    have hm := (insP_perm lt' d.reverse x []).mem_iff.1 hy
    rw [List.reverse_reverse] at hm
    rcases List.mem_append.1 hm with hm | hm
    · exact h z (by simp [hz]) y hm
    · obtain rfl := List.mem_singleton.1 hm
      exact hp'.1 z hz
theorem isort_congr {α : Type} {lt lt' : α → α → Bool} {xs : List α} (h : xs.Pairwise (fun a b => lt b a = lt' b a)) : isort lt xs = isort lt' xs := by
  cases xs with
  | nil => rfl
  | cons x r =>
    have hp := List.pairwise_cons.1 h
    refine isGo_congr _ _ (fun z hz y hy => ?_) ?_
    · simp at hz hy
      subst hy
      exact hp.1 z hz
    · simpa using hp.2
/-- What papers are ordered by: two fractions. -/
abbrev Vl := (Int × Int) × (Int × Int)
abbrev vlD (v : Vl) : D := .agg [.int .i64 v.1.1, .int .i64 v.1.2, .int .i64 v.2.1, .int .i64 v.2.2]
structure VlOk (v : Vl) : Prop where
  a : -1000000000 ≤ v.1.1 ∧ v.1.1 ≤ 1000000000
  b : 0 ≤ v.1.2 ∧ v.1.2 ≤ 1000000
  c : -1000000000 ≤ v.2.1 ∧ v.2.1 ≤ 1000000000
  d : 0 ≤ v.2.2 ∧ v.2.2 ≤ 1000000
abbrev vz : Vl := ((0, 0), (0, 0))
theorem vz_ok : VlOk vz := ⟨by decide, by decide, by decide, by decide⟩
/-- What a map of values answers. -/
def lkV (ks : List Str) (F : Str → Vl) (x : Str) : Vl := if x ∈ ks then F x else vz
theorem lkV_ok {ks : List Str} {F : Str → Vl} (h : ∀ k ∈ ks, VlOk (F k)) (x : Str) : VlOk (lkV ks F x) := by
  unfold lkV
  split
  · rename_i hx; exact h x hx
  · exact vz_ok
theorem mulB {a b : Int} (ha : -1000000000 ≤ a ∧ a ≤ 1000000000) (hb : 0 ≤ b ∧ b ≤ 1000000) : -1000000000000000 ≤ a * b ∧ a * b ≤ 1000000000000000 := by
  rcases Int.le_total 0 a with h | h
  · have h1 := Int.mul_le_mul ha.2 hb.2 hb.1 (by omega)
    have h2 := Int.mul_nonneg h hb.1
    omega
  · have h1 := Int.mul_le_mul (show -a ≤ 1000000000 by omega) hb.2 hb.1 (by omega)
    have h2 := Int.mul_nonneg (show 0 ≤ -a by omega) hb.1
    rw [Int.neg_mul] at h1 h2
    omega
/-- How the program compares, and how the reference does. -/
def cvP (ks : List Str) (F : Str → Vl) (x y : Str) : Int := orI [cmpI ((lkV ks F y).1.1 * (lkV ks F x).1.2) ((lkV ks F x).1.1 * (lkV ks F y).1.2), cmpI ((lkV ks F y).2.1 * (lkV ks F x).2.2) ((lkV ks F x).2.1 * (lkV ks F y).2.2)]
/-- The order of papers. -/
def ordP (ks : List Str) (F : Str → Vl) : List Str := isort (fun x y => decide (cvP ks F x y < 0)) ks
theorem ordP_perm (ks : List Str) (F : Str → Vl) : (ordP ks F).Perm ks := isort_perm _ _
theorem cmpI_neg (a b : Int) : cmpI a b < 0 ↔ a < b := by unfold cmpI; split <;> (try split) <;> omega
theorem cmpI_zero (a b : Int) : cmpI a b = 0 ↔ a = b := by unfold cmpI; split <;> (try split) <;> omega
end Go.AX

namespace Go.AX
open Go Go.Proofs Go.RowKit
theorem lkV_find {ks : List Str} (F : Str → Vl) (nd : ks.Nodup) (x : Str) : (fndK (.str x) (ks.map D.str) = some none ∧ lkV ks F x = vz) ∨ ∃ j, fndK (.str x) (ks.map D.str) = some (some j) ∧ ((ks.map fun k => vlD (F k)).map V.d)[j]? = some (.d (vlD (lkV ks F x))) := by
  by_cases h : x ∈ ks
  · obtain ⟨j, hj⟩ := List.getElem?_of_mem h
    refine .inr ⟨j, fnd_at nd hj, ?_⟩
    simp only [List.getElem?_map, hj, Option.map_some, lkV, if_pos h]
  · exact .inl ⟨fnd_no h, by simp only [lkV, if_neg h]⟩
theorem compareFractions_any (a b c d : Int) (ha : -1000000000 ≤ a ∧ a ≤ 1000000000) (hb : 0 ≤ b ∧ b ≤ 1000000) (hc : -1000000000 ≤ c ∧ c ≤ 1000000000) (hd : 0 ≤ d ∧ d ≤ 1000000) : Does Tryz.prog 84 [.d (Fr a b), .d (Fr c d)] [] (I (cmpI (a * d) (c * b))) [] := by
  have m1 := mulB ha hd
  have m2 := mulB hc hb
  refine Does.of_AW (n := 16) Tryz.func84 rfl rfl rfl fun cx hcx => ?_
  repeat' (first | ((first | refine AW.sreg rfl fun K hK => ?_ | refine run_call _ _ _ ((compare_int (a * d) (c * b)).pure rfl rfl _ _) rfl rfl (dstOk_of rfl) rfl rfl rfl ?_); simp only [go_sem, Nat.reduceAdd, Nat.reduceMul, Int.reduceToNat, Nat.reduceLT, Nat.reduceLeDiff, Nat.le_refl, Nat.reduceEqDiff, ↓reduceIte, beq_self_eq_true, bne_self_eq_false, Int.reduceBEq, Int.reduceBNe, or_self, true_or, or_true, Option.map_some, Option.map_none]) | (refine hK _ ?_; clear hK K) | (with_reducible refine And.intro ?_ ?_; first | omega | assumption | (focus (decide)) | (focus (simp; done)) | (focus (simp; omega)) | (focus (constructor <;> omega)) | fail) | (refine AW.ret (Fin.data rfl (by first | (simp only [go_sem]; done) | (simp [go_sem, *]; done) | (simp [go_sem]; omega) | rfl) rfl)))
theorem order1_any (ks : List Str) (F : Str → Vl) (nd : ks.Nodup) (hv : ∀ k ∈ ks, VlOk (F k)) (x y : Str) : Does Tryz.prog 83 [S x, S y, .d (.ptr [.map (ks.map D.str) (ks.map fun k => vlD (F k))] 0)] [] (I (cvP ks F x y)) [] := by
  have hx := lkV_find F nd x
  have hy := lkV_find F nd y
  have ox := lkV_ok hv x
  have oy := lkV_ok hv y
  unfold cvP
  generalize lkV ks F x = vx at *
  generalize lkV ks F y = vy at *
  obtain ⟨⟨a1, b1⟩, c1, d1⟩ := vx
  obtain ⟨⟨a2, b2⟩, c2, d2⟩ := vy
  obtain ⟨o1, o2, o3, o4⟩ := ox
  obtain ⟨p1, p2, p3, p4⟩ := oy
  simp only at o1 o2 o3 o4 p1 p2 p3 p4 hx hy ⊢
  have h1 := compareFractions_any a2 b2 a1 b1 p1 p2 o1 o2
  have h2 := compareFractions_any c2 d2 c1 d1 p3 p4 o3 o4
  have h3 := cmpOr_any [cmpI (a2 * b1) (a1 * b2), cmpI (c2 * d1) (c1 * d2)] (by simp)
  generalize hu : cmpI (a2 * b1) (a1 * b2) = u at *
  generalize hv2 : cmpI (c2 * d1) (c1 * d2) = v at *
  refine Does.of_AW (n := 26) Tryz.func83 rfl rfl rfl fun cx hcx => ?_
  rcases hx with ⟨hx, ex⟩ | ⟨j, hx, gx⟩
  · cases ex
    rcases hy with ⟨hy, ey⟩ | ⟨k, hy, gy⟩
    · cases ey
      obtain rfl : u = v := hu.symm.trans hv2
      repeat' (first | ((first | refine AW.sreg rfl fun K hK => ?_ | refine AW.sregD hmix rfl fun K hK => ?_ | refine runT_call _ _ [] (fun hv _ => (h1).pure rfl rfl hv _) rfl rfl (dstOk_of rfl) rfl rfl ?_ | refine runT_call _ _ [1216] (fun hv hag => (h3).borrow (frzL_cons (frz_slr rfl ((hag 1216 (by simp)).trans rfl) (by simp)) frzL_nil) rfl rfl) rfl rfl (dstOk_of rfl) rfl rfl ?_); simp only [go_sem, Nat.reduceAdd, Nat.reduceMul, Int.reduceToNat, Nat.reduceLT, Nat.reduceLeDiff, Nat.le_refl, Nat.reduceEqDiff, ↓reduceIte, beq_self_eq_true, bne_self_eq_false, Int.reduceBEq, Int.reduceBNe, or_self, true_or, or_true, Option.map_some, Option.map_none, hx, hy]) | (refine hK _ ?_; clear hK K) | (with_reducible refine And.intro (?_ : regOk _ _ = true) ?_; kernel_rfl) | (refine AW.ret (Fin.data rfl (by first | (simp only [go_sem]; done) | (simp [go_sem, *]; done) | (simp [go_sem]; omega) | rfl) rfl)))
    · repeat' (first | ((first | refine AW.sreg rfl fun K hK => ?_ | refine AW.sregD hmix rfl fun K hK => ?_ | refine runT_call _ _ [] (fun hv _ => (h1).pure rfl rfl hv _) rfl rfl (dstOk_of rfl) rfl rfl ?_ | refine runT_call _ _ [] (fun hv _ => (h2).pure rfl rfl hv _) rfl rfl (dstOk_of rfl) rfl rfl ?_ | refine runT_call _ _ [1216] (fun hv hag => (h3).borrow (frzL_cons (frz_slr rfl ((hag 1216 (by simp)).trans rfl) (by simp)) frzL_nil) rfl rfl) rfl rfl (dstOk_of rfl) rfl rfl ?_); simp only [go_sem, Nat.reduceAdd, Nat.reduceMul, Int.reduceToNat, Nat.reduceLT, Nat.reduceLeDiff, Nat.le_refl, Nat.reduceEqDiff, ↓reduceIte, beq_self_eq_true, bne_self_eq_false, Int.reduceBEq, Int.reduceBNe, or_self, true_or, or_true, Option.map_some, Option.map_none, hx, hy, gy]) | (refine hK _ ?_; clear hK K) | (with_reducible refine And.intro (?_ : regOk _ _ = true) ?_; kernel_rfl) | (refine AW.ret (Fin.data rfl (by first | (simp only [go_sem]; done) | (simp [go_sem, *]; done) | (simp [go_sem]; omega) | rfl) rfl)))
  · rcases hy with ⟨hy, ey⟩ | ⟨k, hy, gy⟩
    · cases ey
      repeat' (first | ((first | refine AW.sreg rfl fun K hK => ?_ | refine AW.sregD hmix rfl fun K hK => ?_ | refine runT_call _ _ [] (fun hv _ => (h1).pure rfl rfl hv _) rfl rfl (dstOk_of rfl) rfl rfl ?_ | refine runT_call _ _ [] (fun hv _ => (h2).pure rfl rfl hv _) rfl rfl (dstOk_of rfl) rfl rfl ?_ | refine runT_call _ _ [1216] (fun hv hag => (h3).borrow (frzL_cons (frz_slr rfl ((hag 1216 (by simp)).trans rfl) (by simp)) frzL_nil) rfl rfl) rfl rfl (dstOk_of rfl) rfl rfl ?_); simp only [go_sem, Nat.reduceAdd, Nat.reduceMul, Int.reduceToNat, Nat.reduceLT, Nat.reduceLeDiff, Nat.le_refl, Nat.reduceEqDiff, ↓reduceIte, beq_self_eq_true, bne_self_eq_false, Int.reduceBEq, Int.reduceBNe, or_self, true_or, or_true, Option.map_some, Option.map_none, hx, hy, gx]) | (refine hK _ ?_; clear hK K) | (with_reducible refine And.intro (?_ : regOk _ _ = true) ?_; kernel_rfl) | (refine AW.ret (Fin.data rfl (by first | (simp only [go_sem]; done) | (simp [go_sem, *]; done) | (simp [go_sem]; omega) | rfl) rfl)))
    · repeat' (first | ((first | refine AW.sreg rfl fun K hK => ?_ | refine AW.sregD hmix rfl fun K hK => ?_ | refine runT_call _ _ [] (fun hv _ => (h1).pure rfl rfl hv _) rfl rfl (dstOk_of rfl) rfl rfl ?_ | refine runT_call _ _ [] (fun hv _ => (h2).pure rfl rfl hv _) rfl rfl (dstOk_of rfl) rfl rfl ?_ | refine runT_call _ _ [1216] (fun hv hag => (h3).borrow (frzL_cons (frz_slr rfl ((hag 1216 (by simp)).trans rfl) (by simp)) frzL_nil) rfl rfl) rfl rfl (dstOk_of rfl) rfl rfl ?_); simp only [go_sem, Nat.reduceAdd, Nat.reduceMul, Int.reduceToNat, Nat.reduceLT, Nat.reduceLeDiff, Nat.le_refl, Nat.reduceEqDiff, ↓reduceIte, beq_self_eq_true, bne_self_eq_false, Int.reduceBEq, Int.reduceBNe, or_self, true_or, or_true, Option.map_some, Option.map_none, hx, hy, gx, gy]) | (refine hK _ ?_; clear hK K) | (with_reducible refine And.intro (?_ : regOk _ _ = true) ?_; kernel_rfl) | (refine AW.ret (Fin.data rfl (by first | (simp only [go_sem]; done) | (simp [go_sem, *]; done) | (simp [go_sem]; omega) | rfl) rfl)))
end Go.AX

namespace Go.AX
open Go Go.Proofs Go.RowKit
abbrev shV (ms : List Mk) (q : (List Str × List D) × (List Str × List D)) : V := .d (.ptr [.sl (ms.map mkD), .map (q.1.1.map D.str) q.1.2, .map (q.2.1.map D.str) q.2.2] 0)
theorem ShOk.len {ms : List Mk} {q : (List Str × List D) × (List Str × List D)} (h : ShOk ms q) (hl : ms.length ≤ 1000) : q.1.1.length ≤ 1000 := by
  have h1 := sum_le q.1.1 ms h.pa.nd
  have h2 : q.1.1.length ≤ (q.1.1.map fun p => (gP ms p).length).sum := by
    have : ∀ l : List Str, (∀ p ∈ l, 1 ≤ (gP ms p).length) → l.length ≤ (l.map fun p => (gP ms p).length).sum := by
      intro l
      induction l with
      | nil => simp
      | cons x l ih =>
        intro hx
        have h3 := ih fun p hp => hx p (List.mem_cons_of_mem _ hp)
        have h4 := hx x (by simp)
        simp only [List.length_cons, List.map_cons, List.sum_cons]
        omega
    refine this q.1.1 fun p hp => ?_
    have := (h.pa.mem p).1 hp
    cases hg : gP ms p with
    | nil => exact absurd hg this
    | cons => simp
  omega
theorem nodup_sub : ∀ (l r : List Str), l.Nodup → (∀ x ∈ l, x ∈ r) → l.length ≤ r.length
  | [], _, _, _ => Nat.zero_le _
  | x :: l, r, hn, h => by
    have hn' := List.nodup_cons.1 hn
    have hx := h x (by simp)
    have ih := nodup_sub l (r.erase x) hn'.2 fun y hy => by
      have hne : y ≠ x := by rintro rfl; exact hn'.1 hy
      exact (List.mem_erase_of_ne hne).2 (h y (List.mem_cons_of_mem _ hy))
    rw [List.length_erase_of_mem hx] at ih
    have := List.length_pos_of_mem hx
    simp only [List.length_cons]
    omega
/-- What the orders need of marks. -/
structure MkO (ms : List Mk) (H L : List Str) : Prop where
  len : ms.length ≤ 42
  good : GoodM ms
  hH : H.length ≤ 5
  pe : ∀ m ∈ ms, m.2.1 ∈ H
  sh : ∀ m ∈ ms, m.1.length ≤ 1000 ∧ m.2.1.length ≤ 1000
  hL : L.length ≤ 19
  pl : ∀ m ∈ ms, m.1 ∈ L
theorem MkO.i {ms : List Mk} {H L : List Str} (h : MkO ms H L) : In10 (scs ms) := by
  intro x hx
  obtain ⟨m, hm, rfl⟩ := List.mem_map.1 hx
  exact h.good.sc m hm
theorem checkedO (ms : List Mk) (H L : List Str) (h : MkO ms H L) : DoesI Tryz.prog 35 [.d (.sl (ms.map mkD))] [] (ShOk ms) (fun q => .tup [.d (.ptr [.sl (ms.map mkD), .map (q.1.1.map D.str) q.1.2, .map (q.2.1.map D.str) q.2.2] 0), I 0]) (fun _ => []) := by
  have hc := checkMarks_any ms (by have := h.len; omega) h.sh
  rw [goodP h.good] at hc
  have hs := sheetOfI ms (by have := h.len; omega) h.good H h.hH h.pe
  refine DoesI.of_AW (n := 12) Tryz.func35 rfl rfl rfl fun cx hcx => ?_
  repeat' (first | ((first | refine AW.sreg rfl fun K hK => ?_ | refine run_call _ _ _ ((hc).pure rfl rfl _ _) rfl rfl (dstOk_of rfl) rfl rfl rfl ?_); simp only [go_sem, Nat.reduceAdd, Nat.reduceMul, Int.reduceToNat, Nat.reduceLT, Nat.reduceLeDiff, Nat.le_refl, Nat.reduceEqDiff, ↓reduceIte, beq_self_eq_true, bne_self_eq_false, Int.reduceBEq, Int.reduceBNe, or_self, true_or, or_true, Option.map_some, Option.map_none]) | (refine AW.seq_k fun K hK => ?_) | (refine AW.skip ?_; simp only [Then, InBlock]) | (refine AW.condF rfl (by first | rfl | (simp; omega) | (simp [*]; done) | fail) ?_) | (refine hK _ ?_; clear hK K) | (refine run_callI _ _ _ ((hs).pure rfl (fun _ => rfl) _ _) rfl rfl (dstOk_of rfl) rfl rfl rfl ?_; rintro q hq; (try dsimp only at q); (try dsimp only at hq); simp only [go_sem, Nat.reduceAdd, Nat.reduceMul, Int.reduceToNat, Nat.reduceLT, Nat.reduceLeDiff, Nat.le_refl, Nat.reduceEqDiff, ↓reduceIte, beq_self_eq_true, bne_self_eq_false, Int.reduceBEq, Int.reduceBNe, or_self, true_or, or_true, Option.map_some, Option.map_none]))
  exact AW.ret ⟨q, hq, Fin.data rfl (by simp [go_sem]) rfl⟩
theorem ShOk.lenL {ms : List Mk} {q : (List Str × List D) × (List Str × List D)} (h : ShOk ms q) {L : List Str} (hL : ∀ m ∈ ms, m.1 ∈ L) : q.1.1.length ≤ L.length :=
  nodup_sub _ _ h.pa.nd fun p hp => by
    have h1 := (h.pa.mem p).1 hp
    obtain ⟨m, hm⟩ := List.exists_mem_of_ne_nil _ h1
    obtain ⟨h2, rfl⟩ := mem_gP.1 hm
    exact hL m h2
theorem ShOk.pos {ms : List Mk} {q : (List Str × List D) × (List Str × List D)} (h : ShOk ms q) {p : Str} (hp : p ∈ q.1.1) : 1 ≤ (gP ms p).length := by
  have := (h.pa.mem p).1 hp
  cases hg : gP ms p with
  | nil => exact absurd hg this
  | cons => simp
theorem ShOk.at {ms : List Mk} {q : (List Str × List D) × (List Str × List D)} (h : ShOk ms q) {p : Str} (hp : p ∈ q.1.1) : ∃ j, fndK (.str p) (q.1.1.map D.str) = some (some j) ∧ (q.1.2.map V.d)[j]? = some (.d (.sl ((gP ms p).map mkD))) := by
  rcases h.pa.find p with ⟨-, h0⟩ | h1
  · exact absurd h0 ((h.pa.mem p).1 hp)
  · exact h1
theorem keysO_any (ks : List Str) (vs : List D) (hl : ks.length ≤ 1000) (hkl : ∀ k ∈ ks, k.length ≤ 1000000) (hr : ks.Pairwise (fun a b => ltS a b = true)) : Does Tryz.prog 37 [.d (.map (ks.map D.str) vs)] [] (.slr 0 0 ks.length) [SWk ks] := by
  have hsk := sortedKeysO ks vs hl hkl (rise_nodupS hr)
  rw [mergeSort_rise hr] at hsk
  refine Does.of_AW (n := 6) Tryz.func37 rfl rfl rfl fun cx hcx => ?_
  repeat' (first | ((first | refine AW.sreg rfl fun K hK => ?_ | refine run_call _ _ _ ((mapsKeys_any _ _).objs [] trivial rfl (by decide) (by simp [go_sem, renOs]) (by simp) (by simp) (by simp [go_sem]) (by simp [go_sem]) (by simp [go_sem]) (by simp [go_sem])) rfl rfl (dstOk_of rfl) rfl rfl rfl ?_ | refine run_call _ _ _ ((hsk).robjs [_] ⟨(by first | rfl | (simp [go_sem]; done) | (simp [go_sem]; rfl)), trivial⟩ rfl (by decide) (by simp) (by simp) (by simp [go_sem]) (by simp [go_sem]) (by simp [go_sem]) (by simp [go_sem])) rfl rfl (dstOk_of rfl) rfl rfl rfl ?_); simp only [go_sem, Nat.reduceAdd, Nat.reduceMul, Int.reduceToNat, Nat.reduceLT, Nat.reduceLeDiff, Nat.le_refl, Nat.reduceEqDiff, ↓reduceIte, beq_self_eq_true, bne_self_eq_false, Int.reduceBEq, Int.reduceBNe, or_self, true_or, or_true, Option.map_some, Option.map_none, Nat.reduceSub, Nat.add_zero]) | (refine hK _ ?_; clear hK K))
  exact AW.ret (Fin.objs [192] rfl (by simp [go_sem, inI, gI]) ⟨⟨_, rfl, by simp [go_sem, inI, gI]⟩, trivial⟩ (by simp) rfl (by simp [go_sem]) (by simp [go_sem]) rfl)
theorem order_any (how : Int) (F : Str → Vl) (ms : List Mk) (q : (List Str × List D) × (List Str × List D)) (hln : q.1.1.length ≤ 19) (hk : ∀ m ∈ ms, m.1.length ≤ 1000) (hq : ShOk ms q) (hok : ∀ k ∈ q.1.1, VlOk (F k)) (hv : Does Tryz.prog 82 [shV ms q, I how] [] (.d (.map (q.1.1.map D.str) (q.1.1.map fun k => vlD (F k)))) []) : Does Tryz.prog 46 [shV ms q, I how] [] (.slr 0 0 q.1.1.length) [SWk (ordP q.1.1 F)] := by
  have hkl : ∀ k ∈ q.1.1, k.length ≤ 1000000 := by
    intro k hkm
    have h1 := hq.pos hkm
    obtain ⟨m, hm⟩ := List.exists_mem_of_length_pos h1
    obtain ⟨h2, rfl⟩ := mem_gP.1 hm
    have := hk m h2
    omega
  have h1 := keysO_any q.1.1 q.1.2 (by omega) hkl hq.rise
  have h2 := sortStable_St _ (cvP q.1.1 F) (fun _ _ => rfl) 83 (.ptr [.map (q.1.1.map D.str) (q.1.1.map fun k => vlD (F k))] 0) (order1_any q.1.1 F hq.pa.nd hok) q.1.1 hln
  refine Does.of_AW (n := 19) Tryz.func46 rfl rfl rfl fun cx hcx => ?_
  refine AW.sreg rfl fun K hK => ?_; simp only [go_sem, Nat.reduceAdd, Nat.reduceMul, Int.reduceToNat, Nat.reduceLT, Nat.reduceLeDiff, Nat.le_refl, Nat.reduceEqDiff, ↓reduceIte, beq_self_eq_true, bne_self_eq_false, Int.reduceBEq, Int.reduceBNe, or_self, true_or, or_true, Option.map_some, Option.map_none]
  refine hK _ ?_; (try clear hK K)
  refine AW.sreg rfl fun K hK => ?_; simp only [go_sem, Nat.reduceAdd, Nat.reduceMul, Int.reduceToNat, Nat.reduceLT, Nat.reduceLeDiff, Nat.le_refl, Nat.reduceEqDiff, ↓reduceIte, beq_self_eq_true, bne_self_eq_false, Int.reduceBEq, Int.reduceBNe, or_self, true_or, or_true, Option.map_some, Option.map_none]
  first | (refine run_call _ _ _ ((hv).pure rfl rfl _ _) rfl rfl (dstOk_of rfl) rfl rfl rfl ?_; simp only [go_sem, Nat.reduceAdd, Nat.reduceMul, Int.reduceToNat, Nat.reduceLT, Nat.reduceLeDiff, Nat.le_refl, Nat.reduceEqDiff, ↓reduceIte, beq_self_eq_true, bne_self_eq_false, Int.reduceBEq, Int.reduceBNe, or_self, true_or, or_true, Option.map_some, Option.map_none])
  refine hK _ ?_; (try clear hK K)
  refine AW.weak (?wk : Weak cx _ (⟨19, [(5, .d (.ptr [.map (q.1.1.map D.str) (q.1.1.map fun k => vlD (F k))] 0)), (4, .nils), (0, shV ms q), (1, I how)], [], 6⟩ : St)) ?_
  case wk => exact (Weak.auto hcx rfl rfl (Nat.le_of_ble_eq_true rfl) (by simp [go_sem, gL, kL, renOf, V.obj, lk, Nat.blt, Nat.ble, List.map_append, dv_push]) (by simp [go_sem, gL, kL, renOf, V.obj, lk, Nat.blt, Nat.ble, List.map_append, dv_push]) (by first | exact pk0 | exact pk1 ⟨_, rfl⟩ | exact pk2 ⟨_, rfl⟩ ⟨_, rfl⟩ | exact pk3 ⟨_, rfl⟩ ⟨_, rfl⟩ ⟨_, rfl⟩ | exact pk4 ⟨_, rfl⟩ ⟨_, rfl⟩ ⟨_, rfl⟩ ⟨_, rfl⟩) (by simp [go_sem, gL, kL, lk, renOf, V.obj, Nat.blt, Nat.ble]))
  repeat' (first | ((first | refine AW.sreg rfl fun K hK => ?_ | refine run_call _ _ _ ((h1).objs [] trivial rfl (by decide) (by simp [go_sem, renOs]) (by simp) (by simp) (by simp [go_sem]) (by simp [go_sem]) (by simp [go_sem]) (by simp [go_sem])) rfl rfl (dstOk_of rfl) rfl rfl rfl ?_ | refine run_call _ _ _ ((h2).objs [_] ⟨rfl, trivial⟩ rfl (by decide) (by simp [go_sem, renOs]) (by simp) (by simp) (by simp [go_sem]) (by simp [go_sem]) (by simp [go_sem]) (by simp [go_sem])) rfl rfl (dstOk_of rfl) rfl rfl rfl ?_); simp only [go_sem, Nat.reduceAdd, Nat.reduceMul, Int.reduceToNat, Nat.reduceLT, Nat.reduceLeDiff, Nat.le_refl, Nat.reduceEqDiff, ↓reduceIte, beq_self_eq_true, bne_self_eq_false, Int.reduceBEq, Int.reduceBNe, or_self, true_or, or_true, Option.map_some, Option.map_none, Nat.reduceSub, Nat.add_zero]) | (refine hK _ ?_; clear hK K))
  exact AW.ret (Fin.objs [640] rfl (by simp [go_sem, inI, gI]) ⟨⟨_, rfl, by simp [go_sem, inI, gI, ordP]⟩, trivial⟩ (by simp) rfl (by simp [go_sem]) (by simp [go_sem]) rfl)
/-- The papers of a sheet are the papers of the marks. -/
theorem ShOk.eqP {ms : List Mk} {q : (List Str × List D) × (List Str × List D)} (h : ShOk ms q) : q.1.1 = pps ms := by
  refine rise_ext ltS_irrefl (fun h1 h2 => ltS_trans h1 h2) h.rise (onc_rise _) fun x => ?_
  unfold pps
  rw [h.pa.mem x, onc_mem]
  constructor
  · intro h1
    obtain ⟨m, hm⟩ := List.exists_mem_of_ne_nil _ h1
    obtain ⟨h2, rfl⟩ := mem_gP.1 hm
    exact List.mem_map_of_mem h2
  · intro h1
    obtain ⟨m, hm, rfl⟩ := List.mem_map.1 h1
    exact List.ne_nil_of_mem (mem_gP.2 ⟨hm, rfl⟩)
end Go.AX
