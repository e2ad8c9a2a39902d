/- AX, part 30: what a row tells of the variables. -/
import Derived.Test.YtecggjfjafnepaaGreatDoorAx28
import Derived.Lib.LaidU8T
import Derived.Shelf.Vars
import Derived.KernelRfl
set_option linter.unusedSimpArgs false
set_option linter.unusedVariables false
namespace Go.AX
open Go Go.RowKit Go.Proofs Go.Shelf
def firstL : List (IntKind × Int) := Go.Pinned.utf8FirstZ.map fun n => (.u8, Int.ofNat n)
def accL : List (IntKind × Int) := [128, 191, 160, 191, 128, 159, 144, 191, 128, 143, 0, 0, 0, 0, 0, 0, 0, 0, 0, 0, 0, 0, 0, 0, 0, 0, 0, 0, 0, 0, 0, 0].map fun n => (.u8, Int.ofNat n)
theorem first_all : ((List.range 256).all fun i => decide (firstL[i]? = some (.u8, (Lib.firstT i : Int)))) = true := by kernel_rfl
theorem acc_all : ((List.range 16).all fun i => decide (accL[2 * i]? = some (.u8, (Lib.accLo i : Int))) && decide (accL[2 * i + 1]? = some (.u8, (Lib.accHi i : Int)))) = true := by kernel_rfl
def pow10Z : List Int := [1, 10, 100, 1000, 10000, 100000, 1000000, 10000000, 100000000, 1000000000, 10000000000, 100000000000, 1000000000000, 10000000000000, 100000000000000, 1000000000000000, 10000000000000000, 100000000000000000, 1000000000000000000, 10000000000000000000]
def pow10L : List (IntKind × Int) := [1, 10, 100, 1000, 10000, 100000, 1000000, 10000000, 100000000, 1000000000, 10000000000, 100000000000, 1000000000000, 10000000000000, 100000000000000, 1000000000000000, 10000000000000000, 100000000000000000, 1000000000000000000, 10000000000000000000].map fun n => (.u64, Int.ofNat n)
theorem pow10_eq : pow10L = pow10Z.map fun z => (IntKind.u64, z) := by kernel_rfl
/-- What is read of the powers of ten. -/
theorem pow10_cells {P : Program} {w : World} {g t e : Nat} (hn : P.globalNamed "internal/strconv.uint64pow10" = some g) (hty : (P.globals[g]?).map (·.type) = some t) (ht : P.underlying t = some (.array 20 e)) (he : P.underlying e = some (.int .u64)) (hce : P.cellsOf e = 1) (hct : P.cellsOf t = 20)
  (h : Lib.VarReads P w "internal/strconv.uint64pow10" (Lib.tabData .u64 pow10Z)) : (∀ (i : Nat) (q : IntKind × Int), pow10L[i]? = some q → w.cell? ⟨g, i, none⟩ = some (.int q.1 q.2)) ∧ ∀ c e fr, w.heap[g]? = some (.cells c e fr) → c.size = 20 := by
 obtain ⟨g', t', cs, fuel, p, hg', hty', hvar, hd⟩ := h
 obtain rfl := Option.some.inj (hn.symm.trans hg')
 obtain rfl := Option.some.inj (hty.symm.trans hty')
 have hcs := Lib.cells_of_tab ht he hce hct hd
 refine ⟨fun i q hq => ?_, fun c e fr hb => ?_⟩
 case refine_2 =>
  have h1 := hvar
  unfold World.var? at h1
  rw [hg', Option.bind_some, hb] at h1
  cases h1
  have := congrArg List.length hcs
  simpa [pow10Z] using this
 rw [World.var?_cell hg' hvar i, ← Array.getElem?_toList, hcs]
 rw [pow10_eq, List.getElem?_map] at hq
 rw [List.getElem?_map]
 cases hz : pow10Z[i]? with
 | none => rw [hz] at hq; cases hq
 | some z => rw [hz] at hq; cases hq; rfl
/-- The variables of the list that a program has. -/
def gloChk (P : Program) (gm g1 g2 g3 : Nat) : Bool := (List.range P.globals.size).all fun g => match gloT P g with
 | none => true
 | some none => Nat.beq g gm
 | some (some l) => (Nat.beq g g1 && decide (l = firstL)) || (Nat.beq g g2 && decide (l = accL)) || (Nat.beq g g3 && decide (l = pow10L))
theorem glW_of {P : Program} {w : World} {gm g1 g2 g3 : Nat} (h : gloChk P gm g1 g2 g3 = true) (hm : ∃ m, w.cell? ⟨gm, 0, none⟩ = some (.int .i64 m)) (ht : Lib.Utf8Tabs g1 g2 w) (h3 : gloT P g3 = some (some pow10L) → (∀ (i : Nat) (q : IntKind × Int), pow10L[i]? = some q → w.cell? ⟨g3, i, none⟩ = some (.int q.1 q.2)) ∧ ∀ c e fr, w.heap[g3]? = some (.cells c e fr) → c.size = 20) : GlW P w := by
 refine GlW.of_cells fun g k hg => ?_
 have hlt : g < P.globals.size := by
  unfold gloT at hg
  split at hg
  ·rename_i v hv
   rcases Nat.lt_or_ge g P.globals.size with h' | h'
   ·exact h'
   ·simp [Array.getElem?_eq_none h'] at hv
  ·cases hg
 have := List.all_eq_true.1 h g (List.mem_range.2 hlt)
 rw [hg] at this
 cases k with
 | none =>
  have e : g = gm := Nat.eq_of_beq_eq_true this
  subst e
  exact hm
 | some l =>
  simp only [Bool.or_eq_true, Bool.and_eq_true, decide_eq_true_eq] at this
  rcases this with (⟨e, rfl⟩ | ⟨e, rfl⟩) | ⟨e, rfl⟩
  ·have e : g = g1 := Nat.eq_of_beq_eq_true e
   subst e
   refine ⟨by decide, fun i q hq => ?_, fun h => absurd h (of_decide_eq_false (by kernel_rfl))⟩
   have hi : i < 256 := by
    rcases Nat.lt_or_ge i 256 with h' | h'
    ·exact h'
    ·rw [List.getElem?_eq_none (by simpa [firstL, show Go.Pinned.utf8FirstZ.length = 256 from by kernel_rfl] using h')] at hq
     cases hq
   have e1 := of_decide_eq_true (List.all_eq_true.1 first_all i (List.mem_range.2 hi))
   rw [e1] at hq
   cases hq
   exact ht.1 i hi
  ·have e : g = g2 := Nat.eq_of_beq_eq_true e
   subst e
   refine ⟨by decide, fun i q hq => ?_, fun h => absurd h (of_decide_eq_false (by kernel_rfl))⟩
   have hi : i < 32 := by
    rcases Nat.lt_or_ge i 32 with h' | h'
    ·exact h'
    ·rw [List.getElem?_eq_none (by simpa [accL] using h')] at hq
     cases hq
   have e1 := List.all_eq_true.1 acc_all (i / 2) (List.mem_range.2 (by omega))
   simp only [Bool.and_eq_true, decide_eq_true_eq] at e1
   have h2 := ht.2 (i / 2) (by omega)
   rcases Nat.mod_two_eq_zero_or_one i with hp | hp
   ·have ei : 2 * (i / 2) = i := by omega
    rw [ei] at e1 h2
    rw [e1.1] at hq
    cases hq
    exact h2.1
   ·have ei : 2 * (i / 2) + 1 = i := by omega
    rw [ei] at e1 h2
    rw [e1.2] at hq
    cases hq
    exact h2.2
  ·have e : g = g3 := Nat.eq_of_beq_eq_true e
   subst e
   exact ⟨by decide, (h3 hg).1, fun _ => (h3 hg).2⟩
/-- A row's list without handles. -/
theorem laid_plain {P : Program} {l : List (String × DataW Unit)} {w : World} (hf : (l.filter fun x => x.2.handleName?.isSome).isEmpty = true) (h : laidMetH P l w) : laidMet P l w := by
 unfold laidMetH at h
 split at h
 ·exact h
 ·rename_i e; rw [e] at hf; cases hf
end Go.AX
