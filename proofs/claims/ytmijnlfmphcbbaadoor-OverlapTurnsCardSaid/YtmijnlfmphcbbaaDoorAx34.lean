/- AX, part 34: families of objects. -/
import Derived.Test.YtmijnlfmphcbbaaDoorAx32
set_option linter.unusedSimpArgs false
set_option linter.unusedVariables false
namespace Go.AX
open Go
/-- Objects numbered from B on, one for each element of a list. -/
def fam {α : Type} (f : α → O) : Nat → List α → List (Nat × Option O)
  | _, [] => []
  | B, x :: r => (B, some (f x)) :: fam f (B + 1) r
section
variable {α : Type} {f : α → O}
theorem lk_fam_in : ∀ {xs : List α} {B j : Nat} {x : α}, xs[j]? = some x → lk (fam f B xs) (B + j) = some (some (f x))
  | [], _, _, _, h => by simp at h
  | y :: r, B, 0, x, h => by
    simp only [List.getElem?_cons_zero, Option.some.injEq] at h
    subst h
    simp [fam, lk]
  | y :: r, B, j + 1, x, h => by
    have := lk_fam_in (xs := r) (B := B + 1) (j := j) (x := x) (by simpa using h)
    simp only [fam, lk]
    rw [if_neg (by omega), show B + (j + 1) = B + 1 + j by omega, this]
theorem fam_mem {p : Nat × Option O} : ∀ {xs : List α} {B : Nat}, p ∈ fam f B xs → ∃ j x, xs[j]? = some x ∧ p = (B + j, some (f x))
  | [], _, h => by simp [fam] at h
  | y :: r, B, h => by
    simp only [fam, List.mem_cons] at h
    rcases h with rfl | h
    · exact ⟨0, y, rfl, by simp⟩
    · obtain ⟨j, x, h1, h2⟩ := fam_mem h
      exact ⟨j + 1, x, by simpa using h1, by rw [h2]; congr 1; omega⟩
theorem lk_app {β : Type} : ∀ (a b : List (Nat × β)) (i : Nat), lk (a ++ b) i = match lk a i with | some x => some x | none => lk b i
  | [], _, _ => rfl
  | (k, x) :: r, b, i => by
    simp only [List.cons_append, lk]
    split
    · rfl
    · exact lk_app r b i
end
/-- What is kept: what is handed in, what is named, and the family. -/
def kF (k : Nat) (m : List (Nat × Nat)) (B N : Nat) (i : Nat) : Bool := kL k m i || (Nat.ble B i && Nat.blt i (B + N))
theorem gL_lt {k : Nat} {m : List (Nat × Nat)} (hm : m.all (fun p => Nat.ble k p.1) = true) {i : Nat} (hi : i < k) : gL m i = i := by
  unfold gL
  cases hl : lk m i with
  | none => rfl
  | some j =>
    exfalso
    have : ∀ (m : List (Nat × Nat)), m.all (fun p => Nat.ble k p.1) = true → lk m i = some j → False := by
      intro m
      induction m with
      | nil => intro _ h; simp [lk] at h
      | cons p m ih =>
        obtain ⟨a, b⟩ := p
        intro h1 h2
        simp only [List.all_cons, Bool.and_eq_true] at h1
        simp only [lk] at h2
        split at h2
        · rename_i e; have := Nat.le_of_ble_eq_true h1.1; omega
        · exact ih h1.2 h2
    exact this m hm hl
section
variable {cx : Cx}
/-- Weakening to a state with a family. -/
theorem Weak.fam {k : Nat} (hcx : CxOk cx k) {st st' : St} {α : Type} (f : α → O) (B N : Nat) (xs : List α) (base : List (Nat × Option O)) (m : List (Nat × Nat)) (hH : st'.H = base ++ Go.AX.fam f B xs) (hm : m.all (fun p => Nat.ble k p.1) = true) (hn : st'.n = st.n) (hkc : k ≤ st'.c)
    (he : ∀ p ∈ st'.env, ∃ v, lk st.env p.1 = some v ∧ frz st.hv (kF k m B N) v = p.2.ren (gL m) ∧ p.2.bel (64 * st'.c) = true)
    (hb : ∀ p ∈ base, ∃ o, p.2 = some o ∧ p.1 < 64 * st'.c ∧ o.bel (64 * st'.c) = true ∧ kF k m B N (gL m p.1) = true ∧ ∃ o', st.hv (gL m p.1) = some o' ∧ o'.frz st.hv (kF k m B N) = o.ren (gL m))
    (hf : ∀ j x, xs[j]? = some x → B + j < 64 * st'.c ∧ (f x).bel (64 * st'.c) = true ∧ kF k m B N (gL m (B + j)) = true ∧ ∃ o', st.hv (gL m (B + j)) = some o' ∧ o'.frz st.hv (kF k m B N) = (f x).ren (gL m))
    (hpk : ∀ i, i < k → ∃ o, st.hv i = some o)
    (hinj : ∀ p ∈ base ++ Go.AX.fam f B xs, ∀ q ∈ base ++ Go.AX.fam f B xs, gL m p.1 = gL m q.1 → p.1 = q.1) : Weak cx st st' := by
  refine Weak.go hcx (gL m) (kF k m B N) hn (fun i hi => gL_lt hm hi) hkc he ?_ (fun i hi => ⟨?_, hpk i hi⟩) (by rw [hH]; exact hinj)
  · intro p hp
    rw [hH] at hp
    rcases List.mem_append.1 hp with hp | hp
    · exact hb p hp
    · obtain ⟨j, x, h1, rfl⟩ := fam_mem hp
      obtain ⟨a1, a2, a3, a4⟩ := hf j x h1
      exact ⟨f x, rfl, a1, a2, a3, a4⟩
  · have : Nat.blt i k = true := Nat.ble_eq_true_of_le hi
    simp [kF, kL, this]
end
end Go.AX
