/- AX, part 21: tables of calls whose results are known. -/
import Derived.Test.YtmcchfkclhpbhaaGreatDoorAx20
set_option linter.unusedSimpArgs false
set_option linter.unusedVariables false
namespace Go.AX
open Go

mutual
theorem ren_bel0 {g : Nat → Nat} : ∀ x : V, x.bel 0 = true → x.ren g = x
  | .top, _ => rfl | .k _, _ => rfl | .d _, _ => rfl | .nils, _ => rfl
  | .ptr _ _, h => by simp [V.bel] at h
  | .pe _ _ _, h => by simp [V.bel] at h
  | .slr _ _ _, h => by simp [V.bel] at h
  | .mpr _, h => by simp [V.bel] at h
  | .agg cs, h => by simp only [V.bel] at h; simp only [V.ren, renL_bel0 cs h]
  | .tup cs, h => by simp only [V.bel] at h; simp only [V.ren, renL_bel0 cs h]
  | .fn _ cs, h => by simp only [V.bel] at h; simp only [V.ren, renL_bel0 cs h]
theorem renL_bel0 {g : Nat → Nat} : ∀ xs : List V, belL 0 xs = true → renL g xs = xs
  | [], _ => rfl
  | x :: xs, h => by
    simp only [belL, Bool.and_eq_true] at h
    simp only [renL, ren_bel0 x h.1, renL_bel0 xs h.2]
end

def eqVR : List V → List V → Bool
  | [], ys => match ys with
    | [] => true
    | _ :: _ => false
  | x :: xs, ys => match ys with
    | [] => false
    | y :: ys => match eqVR xs ys with
      | true => eqVb x y
      | false => false
theorem eqVR_ok : ∀ (xs ys : List V), eqVR xs ys = true → xs = ys
  | [], [], _ => rfl
  | [], _ :: _, h => by simp [eqVR] at h
  | _ :: _, [], h => by simp [eqVR] at h
  | x :: xs, y :: ys, h => by
    simp only [eqVR] at h
    split at h
    · rename_i h1; rw [eqVR_ok xs ys h1, eqVb_ok x y h]
    · cases h
def tblF (f : Nat) (xs : List V) : List (Nat × List V × V) → Option V
  | [] => none
  | e :: r => match Nat.beq e.1 f with
    | true => match eqVR e.2.1 xs with
      | true => some e.2.2
      | false => tblF f xs r
    | false => tblF f xs r
def tblT (tbl : List (Nat × List V × V)) : Orc := fun f xs _ _ => match tblF f xs tbl with
  | some x => some (x, [], [])
  | none => none
/-- The table tells the truth. -/
def TblOk (P : Program) (tbl : List (Nat × List V × V)) : Prop := ∀ e ∈ tbl, Does P e.1 e.2.1 [] e.2.2 [] ∧ belL 0 e.2.1 = true ∧ e.2.2.bel 0 = true
theorem tblF_ok {f : Nat} {xs : List V} {x : V} : ∀ {tbl : List (Nat × List V × V)}, tblF f xs tbl = some x → ∃ e ∈ tbl, e.1 = f ∧ e.2.1 = xs ∧ e.2.2 = x
  | [], h => by simp [tblF] at h
  | e :: r, h => by
    simp only [tblF] at h
    split at h
    · rename_i h1
      split at h
      · rename_i h2
        injection h with h
        exact ⟨e, by simp, Nat.eq_of_beq_eq_true h1, eqVR_ok _ _ h2, h⟩
      · obtain ⟨e', h3, h4⟩ := tblF_ok h; exact ⟨e', by simp [h3], h4⟩
    · obtain ⟨e', h3, h4⟩ := tblF_ok h; exact ⟨e', by simp [h3], h4⟩
theorem all_of_belL {n : Nat} : ∀ {xs : List V}, belL n xs = true → xs.all (V.bel n) = true
  | [], _ => rfl
  | x :: xs, h => by
    simp only [belL, Bool.and_eq_true] at h
    simp only [List.all_cons, Bool.and_eq_true]
    exact ⟨h.1, all_of_belL h.2⟩
theorem tblT_ok {P : Program} {tbl : List (Nat × List V × V)} (h : TblOk P tbl) : OrcOk P (tblT tbl) := by
  intro f xs hv n x u rd hc hv' _
  unfold tblT at hc
  split at hc
  · rename_i y hy
    injection hc with hc
    injection hc with h1 h2
    injection h2 with h2 h3
    subst h1 h2 h3
    obtain ⟨e, he, rfl, rfl, rfl⟩ := tblF_ok hy
    obtain ⟨d1, d2, d3⟩ := h e he
    have := d1.pure (all_of_belL d2) d3 hv' n
    rwa [renL_bel0 _ d2, ren_bel0 _ d3] at this
  · cases hc
def orT (T S : Orc) : Orc := fun f xs hv n => match T f xs hv n with
  | some r => some r
  | none => S f xs hv n
theorem orT_ok {P : Program} {T S : Orc} (hT : OrcOk P T) (hS : OrcOk P S) : OrcOk P (orT T S) := by
  intro f xs hv n x u rd h hv' ha
  unfold orT at h
  split at h
  · rename_i r hr
    injection h with h
    subst h
    exact hT _ _ _ _ _ _ _ hr hv' ha
  · exact hS _ _ _ _ _ _ _ h hv' ha
theorem TblOk.nil {P : Program} : TblOk P [] := fun _ h => by simp at h
theorem TblOk.cons {P : Program} {e : Nat × List V × V} {tbl : List (Nat × List V × V)} (h : Does P e.1 e.2.1 [] e.2.2 []) (h1 : belL 0 e.2.1 = true) (h2 : e.2.2.bel 0 = true) (ht : TblOk P tbl) : TblOk P (e :: tbl) := by
  intro e' he
  rcases List.mem_cons.1 he with rfl | he
  · exact ⟨h, h1, h2⟩
  · exact ht e' he
theorem TblOk.append {P : Program} {s t : List (Nat × List V × V)} (hs : TblOk P s) (ht : TblOk P t) : TblOk P (s ++ t) := fun e he => (List.mem_append.1 he).elim (hs e) (ht e)

/-- The evaluator with a table. Results of the functions in z are data. -/
def EVT (P : Program) (tbl : List (Nat × List V × V)) (z : List Nat) : Orc := evF P (orT (tblT tbl) (extT P)) (hasN z) 10000 30
theorem EVT_ok {P : Program} {tbl : List (Nat × List V × V)} {z : List Nat} (h : TblOk P tbl) (hm : P.follows .mixedOrders = true) : OrcOk P (EVT P tbl z) := evF_ok (orT_ok (tblT_ok h) extT_ok) hm 30
/-- Each entry, run with a table, is so. -/
def runTbl (P : Program) (tbl : List (Nat × List V × V)) (z : List Nat) : List (Nat × List V × V) → Bool
  | [] => true
  | e :: r => match bodyE P (EVT P tbl z) (hasN z) 10000 e.1 e.2.1 [] with
    | some q => match q.2 with
      | [] => match eqVb q.1 e.2.2 && belL 0 e.2.1 && e.2.2.bel 0 with
        | true => runTbl P tbl z r
        | false => false
      | _ :: _ => false
    | none => false
theorem runTbl_ok {P : Program} {tbl : List (Nat × List V × V)} {z : List Nat} (h : TblOk P tbl) (hm : P.follows .mixedOrders = true) : ∀ {new : List (Nat × List V × V)}, runTbl P tbl z new = true → TblOk P new
  | [], _ => TblOk.nil
  | e :: r, hr => by
    simp only [runTbl] at hr
    split at hr
    · rename_i q hq
      split at hr
      · rename_i hos
        split at hr
        · rename_i hc
          simp only [Bool.and_eq_true] at hc
          obtain ⟨x, os⟩ := q
          simp only at hos hc
          subst hos
          have := eqVb_ok _ _ hc.1.1
          subst this
          exact TblOk.cons (bodyE_does (EVT_ok h hm) hm hq) hc.1.2 hc.2 (runTbl_ok h hm hr)
        · cases hr
      · cases hr
    · cases hr
end Go.AX
