/- AX, part 29: contracts that are proved otherwise (the kit's shelf). -/
import Derived.Test.YtmcchfkclhpbhaaGreatDoorAx28
import Derived.Below
import Derived.Lib.Index
set_option linter.unusedSimpArgs false
set_option linter.unusedVariables false
namespace Go.AX
open Go Go.RowKit
/-- What a world holds of the variables. -/
def GlW (P : Program) (w : World) : Prop := ∀ g k, gloT P g = some k → ∃ c e fr, w.heap[g]? = some (.cells c e fr) ∧ gloCells c k
/-- The variable of which nothing is known. -/
theorem GlW.max {P : Program} {w : World} (h : GlW P w) {g : Nat} (hg : gloT P g = some none) : ∃ m, w.cell? ⟨g, 0, none⟩ = some (.int .i64 m) := by
  obtain ⟨c, e, fr, h1, m, hm⟩ := h g none hg
  exact ⟨m, by simpa [World.cell?, h1] using hm⟩
theorem GlW.cell {P : Program} {w : World} (h : GlW P w) {g : Nat} {l : List (IntKind × Int)} (hg : gloT P g = some (some l)) (i : Nat) (k : IntKind) (n : Int) (hi : l[i]? = some (k, n)) : w.cell? ⟨g, i, none⟩ = some (.int k n) := by
  obtain ⟨c, e, fr, h1, h2⟩ := h g _ hg
  simp only [World.cell?, h1]
  simpa using h2.1 i _ hi
/-- From what is known of the cells. -/
theorem GlW.of_cells {P : Program} {w : World} (h : ∀ g k, gloT P g = some k → match k with
    | none => ∃ m, w.cell? ⟨g, 0, none⟩ = some (.int .i64 m)
    | some l => l ≠ [] ∧ (∀ (i : Nat) (q : IntKind × Int), l[i]? = some q → w.cell? ⟨g, i, none⟩ = some (.int q.1 q.2)) ∧ (l.length = 20 → ∀ c e fr, w.heap[g]? = some (.cells c e fr) → c.size = 20)) : GlW P w := by
  have cl : ∀ g i v, w.cell? ⟨g, i, none⟩ = some v → ∃ c e fr, w.heap[g]? = some (.cells c e fr) := by
    intro g i v hv
    simp only [World.cell?] at hv
    split at hv
    · rename_i c e fr hb; exact ⟨c, e, fr, hb⟩
    · cases hv
  intro g k hg
  have := h g k hg
  cases k with
  | none =>
    obtain ⟨m, hm⟩ := this
    obtain ⟨c, e, fr, hb⟩ := cl _ _ _ hm
    exact ⟨c, e, fr, hb, m, by simpa [World.cell?, hb] using hm⟩
  | some l =>
    obtain ⟨hne, hl, hsz⟩ := this
    have h0 : 0 < l.length := List.length_pos_iff.2 hne
    obtain ⟨c, e, fr, hb⟩ := cl _ _ _ (hl 0 _ (List.getElem?_eq_getElem h0))
    exact ⟨c, e, fr, hb, fun i q hq => by simpa [World.cell?, hb] using hl i q hq, fun h20 => hsz h20 _ _ _ hb⟩
end Go.AX
