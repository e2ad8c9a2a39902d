/- AX, part 37: less of an own slice is known. -/
import Derived.Test.YtobgkoebiapciaaGreatDoorAx36
set_option linter.unusedSimpArgs false
set_option linter.unusedVariables false
namespace Go.AX
open Go Go.RowKit
def O.Cut (o o' : O) : Prop := o = o' ∨ ∃ e s a b, o = .vec e s (a ++ b) ∧ o' = .vec e s a
theorem HR.cut {cx : Cx} {hv hv' : Nat → Option O} {σ : Nat → Option Loc} {w : World} (h : HR cx hv σ w) (hc : ∀ i o', hv' i = some o' → ∃ o, hv i = some o ∧ o.Cut o') : HR cx hv' σ w ∧ ∀ b, okB cx w hv σ b → okB cx w hv' σ b := by
  have ok : ∀ b, okB cx w hv σ b → okB cx w hv' σ b := fun b hb => ⟨hb.1, hb.2.1, fun id o' K s ho => by
    obtain ⟨o, h1, -⟩ := hc id o' ho
    exact hb.2.2 id o K s h1⟩
  refine ⟨⟨h.os, h.tape, h.output, h.size, h.frame, fun i o' ho => ?_, fun i o' b K s ho => ?_, fun i j o o' b K s K' s' ho ho' => ?_⟩, ok⟩
  · obtain ⟨o, h1, h2⟩ := hc i o' ho
    have hm : RO w (okB cx w hv' σ) σ i o := RO_mono (fun b hb => ⟨ok b hb, rfl⟩) (fun _ _ h => h) (fun _ _ _ _ => rfl) (h.own i o h1)
    rcases h2 with rfl | ⟨e, s, a, b, rfl, rfl⟩
    · exact hm
    · rcases hm with ⟨g1, g2⟩ | ⟨b', K, c, fr, g1, g2, g3, g4, g5, g6⟩
      · refine .inl ⟨g1, ?_⟩
        simp at g2
        exact g2.1
      · refine .inr ⟨b', K, c, fr, g1, g2, g3, g4, ?_, RVels_pre g6⟩
        simp at g5
        omega
  · obtain ⟨o, h1, -⟩ := hc i o' ho
    exact h.new i o b K s h1
  · obtain ⟨o1, h1, -⟩ := hc i o ho
    obtain ⟨o2, h2, -⟩ := hc j o' ho'
    exact h.inj i j o1 o2 b K s K' s' h1 h2
theorem DoesI.cut {P : Program} {f : FuncId} {as_ : List V} {os : List O} {ι : Type} {p : ι → Prop} {x : ι → V} {os1 os2 : ι → List O} (h : DoesI P f as_ os p x os1)
    (hc : ∀ j, p j → (os1 j).length = (os2 j).length ∧ ∀ i o', hvL (os2 j) i = some o' → ∃ o, hvL (os1 j) i = some o ∧ o.Cut o') : DoesI P f as_ os p x os2 :=
  ⟨h.1, fun cx σ w vs a b c d e f g => (h.2 cx σ w vs a b c d e f g).mono fun _ w' ⟨j, hp, v, e, σ', h1, h2, h3, h4⟩ => by
    obtain ⟨hl, hj⟩ := hc j hp
    obtain ⟨k1, k2⟩ := HR.cut h1 hj
    exact ⟨j, hp, v, e, σ', k1, h2, fun i hi => h3 i (by omega), RV_mono (fun b hb => ⟨k2 b hb, rfl⟩) (fun _ _ h => h) _ _ h4⟩⟩
theorem Does.cut {P : Program} {f : FuncId} {as_ : List V} {os : List O} {x : V} {os1 os2 : List O} (h : Does P f as_ os x os1)
    (hl : os1.length = os2.length) (hc : ∀ i o', hvL os2 i = some o' → ∃ o, hvL os1 i = some o ∧ o.Cut o') : Does P f as_ os x os2 :=
  (DoesI.cut h.toI fun _ _ => ⟨hl, hc⟩).toU
end Go.AX
