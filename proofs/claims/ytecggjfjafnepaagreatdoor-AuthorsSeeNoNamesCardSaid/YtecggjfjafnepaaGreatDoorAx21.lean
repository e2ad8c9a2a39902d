/- AX, part 21: tables of calls whose results are known. -/
import Derived.Test.YtecggjfjafnepaaGreatDoorAx20
set_option linter.unusedSimpArgs false
set_option linter.unusedVariables false
namespace Go.AX
open Go

mutual
theorem ren_bel0 {g : Nat → Nat} : ∀ x : V, x.bel 0 = true → x.ren g = x
 | .top, _ => rfl | .k _, _ => rfl | .d _, _ => rfl | .nils, _ => rfl
 | .ptr _ _, h => by simp [V.bel] at h
 | .pe _ _ _, h => by simp [V.bel] at h
 | .slr _ _ _, h => by simp [V.bel] at h
 | .mpr _, h => by simp [V.bel] at h
 | .agg cs, h => by simp only [V.bel] at h; simp only [V.ren, renL_bel0 cs h]
 | .tup cs, h => by simp only [V.bel] at h; simp only [V.ren, renL_bel0 cs h]
 | .fn _ cs, h => by simp only [V.bel] at h; simp only [V.ren, renL_bel0 cs h]
theorem renL_bel0 {g : Nat → Nat} : ∀ xs : List V, belL 0 xs = true → renL g xs = xs
 | [], _ => rfl
 | x :: xs, h => by
  simp only [belL, Bool.and_eq_true] at h
  simp only [renL, ren_bel0 x h.1, renL_bel0 xs h.2]
end

/-- The table tells the truth. -/
def TblOk (P : Program) (tbl : List (Nat × List V × V)) : Prop := ∀ e ∈ tbl, Does P e.1 e.2.1 [] e.2.2 [] ∧ belL 0 e.2.1 = true ∧ e.2.2.bel 0 = true
theorem TblOk.nil {P : Program} : TblOk P [] := fun _ h => by simp at h
theorem TblOk.cons {P : Program} {e : Nat × List V × V} {tbl : List (Nat × List V × V)} (h : Does P e.1 e.2.1 [] e.2.2 []) (h1 : belL 0 e.2.1 = true) (h2 : e.2.2.bel 0 = true) (ht : TblOk P tbl) : TblOk P (e :: tbl) := by
 intro e' he
 rcases List.mem_cons.1 he with rfl | he
 ·exact ⟨h, h1, h2⟩
 ·exact ht e' he
theorem TblOk.append {P : Program} {s t : List (Nat × List V × V)} (hs : TblOk P s) (ht : TblOk P t) : TblOk P (s ++ t) := fun e he => (List.mem_append.1 he).elim (hs e) (ht e)

end Go.AX
