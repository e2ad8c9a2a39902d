/- AX, part 21: tables of calls whose results are known. -/
import Derived.Test.YtcjdlbdoffchfaaGreatDoorAx20
set_option linter.unusedSimpArgs false
set_option linter.unusedVariables false
namespace Go.AX
open Go

mutual
theorem ren_bel0 {g : Nat → Nat} : ∀ x : V, x.bel 0 = true → x.ren g = x
  | .top, _ => rfl | .k _, _ => rfl | .d _, _ => rfl | .nils, _ => rfl
  | .ptr _ _, h => by simp [V.bel] at h
  | .pe _ _ _, h => by simp [V.bel] at h
  | .slr _ _ _, h => by simp [V.bel] at h
  | .mpr _, h => by simp [V.bel] at h
  | .agg cs, h => by simp only [V.bel] at h; simp only [V.ren, renL_bel0 cs h]
  | .tup cs, h => by simp only [V.bel] at h; simp only [V.ren, renL_bel0 cs h]
  | .fn _ cs, h => by simp only [V.bel] at h; simp only [V.ren, renL_bel0 cs h]
theorem renL_bel0 {g : Nat → Nat} : ∀ xs : List V, belL 0 xs = true → renL g xs = xs
  | [], _ => rfl
  | x :: xs, h => by
    simp only [belL, Bool.and_eq_true] at h
    simp only [renL, ren_bel0 x h.1, renL_bel0 xs h.2]
end

def eqVR : List V → List V → Bool
  | [], ys => match ys with
    | [] => true
    | _ :: _ => false
  | x :: xs, ys => match ys with
    | [] => false
    | y :: ys => match eqVR xs ys with
      | true => eqVb x y
      | false => false
theorem eqVR_ok : ∀ (xs ys : List V), eqVR xs ys = true → xs = ys
  | [], [], _ => rfl
  | [], _ :: _, h => by simp [eqVR] at h
  | _ :: _, [], h => by simp [eqVR] at h
  | x :: xs, y :: ys, h => by
    simp only [eqVR] at h
    split at h
    · rename_i h1; rw [eqVR_ok xs ys h1, eqVb_ok x y h]
    · cases h
def tblF (f : Nat) (xs : List V) : List (Nat × List V × V) → Option V
  | [] => none
  | e :: r => match Nat.beq e.1 f with
    | true => match eqVR e.2.1 xs with
      | true => some e.2.2
      | false => tblF f xs r
    | false => tblF f xs r
def tblT (tbl : List (Nat × List V × V)) : Orc := fun f xs _ _ => match tblF f xs tbl with
  | some x => some (x, [], [])
  | none => none
/-- The table tells the truth. -/
def TblOk (P : Program) (tbl : List (Nat × List V × V)) : Prop := ∀ e ∈ tbl, Does P e.1 e.2.1 [] e.2.2 [] ∧ belL 0 e.2.1 = true ∧ e.2.2.bel 0 = true
theorem tblF_ok {f : Nat} {xs : List V} {x : V} : ∀ {tbl : List (Nat × List V × V)}, tblF f xs tbl = some x → ∃ e ∈ tbl, e.1 = f ∧ e.2.1 = xs ∧ e.2.2 = x
  | [], h => by simp [tblF] at h
  | e :: r, h => by
    simp only [tblF] at h
    split at h
    · rename_i h1
      split at h
      · rename_i h2
        injection h with h
        exact ⟨e, by simp, Nat.eq_of_beq_eq_true h1, eqVR_ok _ _ h2, h⟩
      · obtain ⟨e', h3, h4⟩ := tblF_ok h; exact ⟨e', by simp [h3], h4⟩
    · obtain ⟨e', h3, h4⟩ := tblF_ok h; exact ⟨e', by simp [h3], h4⟩
theorem all_of_belL {n : Nat} : ∀ {xs : List V}, belL n xs = true → xs.all (V.bel n) = true
  | [], _ => rfl
  | x :: xs, h => by
    simp only [belL, Bool.and_eq_true] at h
    simp only [List.all_cons, Bool.and_eq_true]
    exact ⟨h.1, all_of_belL h.2⟩
theorem tblT_ok {P : Program} {tbl : List (Nat × List V × V)} (h : TblOk P tbl) : OrcOk P (tblT tbl) := by
  intro f xs hv n x u rd hc hv' _
  unfold tblT at hc
  split at hc
  · rename_i y hy
    injection hc with hc
    injection hc with h1 h2
    injection h2 with h2 h3
    subst h1 h2 h3
    obtain ⟨e, he, rfl, rfl, rfl⟩ := tblF_ok hy
    obtain ⟨d1, d2, d3⟩ := h e he
    have := d1.pure (all_of_belL d2) d3 hv' n
    rwa [renL_bel0 _ d2, ren_bel0 _ d3] at this
  · cases hc
theorem TblOk.nil {P : Program} : TblOk P [] := fun _ h => by simp at h
theorem TblOk.cons {P : Program} {e : Nat × List V × V} {tbl : List (Nat × List V × V)} (h : Does P e.1 e.2.1 [] e.2.2 []) (h1 : belL 0 e.2.1 = true) (h2 : e.2.2.bel 0 = true) (ht : TblOk P tbl) : TblOk P (e :: tbl) := by
  intro e' he
  rcases List.mem_cons.1 he with rfl | he
  · exact ⟨h, h1, h2⟩
  · exact ht e' he
theorem TblOk.append {P : Program} {s t : List (Nat × List V × V)} (hs : TblOk P s) (ht : TblOk P t) : TblOk P (s ++ t) := fun e he => (List.mem_append.1 he).elim (hs e) (ht e)

end Go.AX
