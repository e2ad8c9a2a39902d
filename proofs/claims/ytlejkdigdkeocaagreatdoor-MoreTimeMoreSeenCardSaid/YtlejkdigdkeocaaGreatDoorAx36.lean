/- AX, part 36: a nil slice in a cell of a box becomes an empty slice of one's own. -/
import Derived.Test.YtlejkdigdkeocaaGreatDoorAx34
set_option linter.unusedSimpArgs false
set_option linter.unusedVariables false
namespace Go.AX
open Go Go.RowKit
theorem Weak.nilB {cx : Cx} {st : St} (id j e t s : Nat) {cells : List V} (hb : st.hv id = some (.box e cells)) (hj : cells[j]? = some .nils) :
    Weak cx st ⟨st.n, st.env, (id, some (.box e (cells.set j (.slr (64 * st.c) 0 0)))) :: (64 * st.c, some (.vec t s [])) :: st.H, st.c + 1⟩ := by
  intro σ a w h
  have hfr : σ (64 * st.c) = none := h.fresh _ (by simp)
  let st' : St := ⟨st.n, st.env, (id, some (.box e (cells.set j (.slr (64 * st.c) 0 0)))) :: (64 * st.c, some (.vec t s [])) :: st.H, st.c + 1⟩
  have hv' : ∀ i, st'.hv i = if id = i then some (.box e (cells.set j (.slr (64 * st.c) 0 0))) else if 64 * st.c = i then some (.vec t s []) else st.hv i := by
    intro i
    simp only [st', St.hv, lk]
    split
    · simp
    · split <;> simp
  have hne : id ≠ 64 * st.c := by
    rintro rfl
    obtain ⟨l, hl⟩ := RO_some (h.hr.own _ _ hb)
    rw [hfr] at hl; cases hl
  let σ' : Nat → Option Loc := fun i => if i = 64 * st.c then some .nil else σ i
  have s1 : σ' (64 * st.c) = some .nil := by simp [σ']
  have s2 : ∀ i, i ≠ 64 * st.c → σ' i = σ i := fun i hi => by simp [σ', hi]
  have ext : ∀ id l, σ id = some l → σ' id = some l := by
    intro id l hl
    rw [s2 id (fun e => by rw [e, hfr] at hl; cases hl)]; exact hl
  -- every object of the new state but the new one is one of the old state at the same number
  have old : ∀ i o, st'.hv i = some o → i ≠ 64 * st.c → ∃ o', st.hv i = some o' := by
    intro i o ho hi
    rw [hv'] at ho
    split at ho
    · rename_i e; subst e; exact ⟨_, hb⟩
    · rw [if_neg (fun e => hi e.symm)] at ho; exact ⟨_, ho⟩
  have ok : ∀ b, okB cx w st.hv σ b → okB cx w st'.hv σ' b ∧ w.heap[b]? = w.heap[b]? := by
    intro b hb'
    refine ⟨⟨hb'.1, hb'.2.1, fun i o K s' ho hs => ?_⟩, rfl⟩
    by_cases hi : i = 64 * st.c
    · subst hi; rw [s1] at hs; cases hs
    · obtain ⟨o', ho'⟩ := old i o ho hi
      rw [s2 i hi] at hs
      exact hb'.2.2 i o' K s' ho' hs
  have H := h.hr
  refine ⟨σ', ⟨⟨H.os, H.tape, H.output, H.size, H.frame, ?_, ?_, ?_⟩, ?_, ?_, h.tmps, h.defers, ?_⟩⟩
  · intro i o ho
    by_cases hi : i = 64 * st.c
    · subst hi
      rw [hv', if_neg hne, if_pos rfl] at ho
      cases ho
      exact .inl ⟨s1, rfl⟩
    · by_cases hi2 : id = i
      · subst hi2
        rw [hv', if_pos rfl] at ho
        cases ho
        have hm : RO w (okB cx w st'.hv σ') σ' id (.box e cells) := RO_mono ok ext (fun _ _ _ _ => rfl) (H.own id _ hb)
        obtain ⟨b, K, s0, c, fr, g1, g2, g3, g4⟩ := hm
        obtain ⟨u, hu, hr⟩ := RVl_get g4 hj
        have hr2 : RV w (okB cx w st'.hv σ') σ' (.slr (64 * st.c) 0 0) u := by
          simp only [RV] at hr ⊢
          exact .inl ⟨s1, trivial, trivial, none, hr⟩
        have hs := RVl_set g4 hr2 j
        obtain ⟨hlt, he⟩ := List.getElem?_eq_some_iff.1 hu
        rw [← he, List.set_getElem_self] at hs
        exact ⟨b, K, s0, c, fr, g1, g2, g3, hs⟩
      · rw [hv', if_neg hi2, if_neg (fun e => hi e.symm)] at ho
        exact RO_mono ok ext (fun _ _ _ _ => rfl) (H.own i o ho)
  · intro i o b K s' ho hs
    by_cases hi : i = 64 * st.c
    · subst hi; rw [s1] at hs; cases hs
    · obtain ⟨o', ho'⟩ := old i o ho hi
      rw [s2 i hi] at hs; exact H.new i o' b K s' ho' hs
  · intro i i' o o' b K s' K' s'' ho ho' hs hs'
    by_cases hi : i = 64 * st.c
    · subst hi; rw [s1] at hs; cases hs
    · by_cases hi' : i' = 64 * st.c
      · subst hi'; rw [s1] at hs'; cases hs'
      · obtain ⟨p, hp⟩ := old i o ho hi
        obtain ⟨p', hp'⟩ := old i' o' ho' hi'
        rw [s2 i hi] at hs; rw [s2 i' hi'] at hs'
        exact H.inj i i' p p' b K s' K' s'' hp hp' hs hs'
  · intro i hid
    have hid : st.c + 1 ≤ i / 64 := hid
    rw [s2 i (by omega)]
    exact h.fresh i (by show st.c ≤ i / 64; omega)
  · intro i l hl; exact ext i l (h.par i l hl)
  · intro t' v hv
    exact RV_mono ok ext v _ (h.env t' v hv)
end Go.AX

namespace Go.AX
open Go Go.RowKit
def O.Cut (o o' : O) : Prop := o = o' ∨ ∃ e s a b, o = .vec e s (a ++ b) ∧ o' = .vec e s a
theorem HR.cut {cx : Cx} {hv hv' : Nat → Option O} {σ : Nat → Option Loc} {w : World} (h : HR cx hv σ w) (hc : ∀ i o', hv' i = some o' → ∃ o, hv i = some o ∧ o.Cut o') : HR cx hv' σ w ∧ ∀ b, okB cx w hv σ b → okB cx w hv' σ b := by
  have ok : ∀ b, okB cx w hv σ b → okB cx w hv' σ b := fun b hb => ⟨hb.1, hb.2.1, fun id o' K s ho => by
    obtain ⟨o, h1, -⟩ := hc id o' ho
    exact hb.2.2 id o K s h1⟩
  refine ⟨⟨h.os, h.tape, h.output, h.size, h.frame, fun i o' ho => ?_, fun i o' b K s ho => ?_, fun i j o o' b K s K' s' ho ho' => ?_⟩, ok⟩
  · obtain ⟨o, h1, h2⟩ := hc i o' ho
    have hm : RO w (okB cx w hv' σ) σ i o := RO_mono (fun b hb => ⟨ok b hb, rfl⟩) (fun _ _ h => h) (fun _ _ _ _ => rfl) (h.own i o h1)
    rcases h2 with rfl | ⟨e, s, a, b, rfl, rfl⟩
    · exact hm
    · rcases hm with ⟨g1, g2⟩ | ⟨b', K, c, fr, g1, g2, g3, g4, g5, g6⟩
      · refine .inl ⟨g1, ?_⟩
        simp at g2
        exact g2.1
      · refine .inr ⟨b', K, c, fr, g1, g2, g3, g4, ?_, RVels_pre g6⟩
        simp at g5
        omega
  · obtain ⟨o, h1, -⟩ := hc i o' ho
    exact h.new i o b K s h1
  · obtain ⟨o1, h1, -⟩ := hc i o ho
    obtain ⟨o2, h2, -⟩ := hc j o' ho'
    exact h.inj i j o1 o2 b K s K' s' h1 h2
theorem DoesI.cut {P : Program} {f : FuncId} {as_ : List V} {os : List O} {ι : Type} {p : ι → Prop} {x : ι → V} {os1 os2 : ι → List O} (h : DoesI P f as_ os p x os1)
    (hc : ∀ j, p j → (os1 j).length = (os2 j).length ∧ ∀ i o', hvL (os2 j) i = some o' → ∃ o, hvL (os1 j) i = some o ∧ o.Cut o') : DoesI P f as_ os p x os2 :=
  ⟨h.1, fun cx σ w vs a b c d e f g => (h.2 cx σ w vs a b c d e f g).mono fun _ w' ⟨j, hp, v, e, σ', h1, h2, h3, h4⟩ => by
    obtain ⟨hl, hj⟩ := hc j hp
    obtain ⟨k1, k2⟩ := HR.cut h1 hj
    exact ⟨j, hp, v, e, σ', k1, h2, fun i hi => h3 i (by omega), RV_mono (fun b hb => ⟨k2 b hb, rfl⟩) (fun _ _ h => h) _ _ h4⟩⟩
theorem Does.cut {P : Program} {f : FuncId} {as_ : List V} {os : List O} {x : V} {os1 os2 : List O} (h : Does P f as_ os x os1)
    (hl : os1.length = os2.length) (hc : ∀ i o', hvL os2 i = some o' → ∃ o, hvL os1 i = some o ∧ o.Cut o') : Does P f as_ os x os2 :=
  (DoesI.cut h.toI fun _ _ => ⟨hl, hc⟩).toU
end Go.AX
