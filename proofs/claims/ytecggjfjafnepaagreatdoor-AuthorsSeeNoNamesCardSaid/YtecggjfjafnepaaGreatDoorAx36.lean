/- AX, part 36: a nil slice in a cell of a box becomes an empty slice of one's own. -/
import Derived.Test.YtecggjfjafnepaaGreatDoorAx34
set_option linter.unusedSimpArgs false
set_option linter.unusedVariables false
namespace Go.AX
open Go Go.RowKit
theorem Weak.nilB {cx : Cx} {st : St} (id j e t s : Nat) {cells : List V} (hb : st.hv id = some (.box e cells)) (hj : cells[j]? = some .nils) :
  Weak cx st ⟨st.n, st.env, (id, some (.box e (cells.set j (.slr (64 * st.c) 0 0)))) :: (64 * st.c, some (.vec t s [])) :: st.H, st.c + 1⟩ := by
 intro σ a w h
 have hfr : σ (64 * st.c) = none := h.fresh _ (by simp)
 let st' : St := ⟨st.n, st.env, (id, some (.box e (cells.set j (.slr (64 * st.c) 0 0)))) :: (64 * st.c, some (.vec t s [])) :: st.H, st.c + 1⟩
 have hv' : ∀ i, st'.hv i = if id = i then some (.box e (cells.set j (.slr (64 * st.c) 0 0))) else if 64 * st.c = i then some (.vec t s []) else st.hv i := by
  intro i
  simp only [st', St.hv, lk]
  split
  ·simp
  ·split <;> simp
 have hne : id ≠ 64 * st.c := by
  rintro rfl
  obtain ⟨l, hl⟩ := RO_some (h.hr.own _ _ hb)
  rw [hfr] at hl; cases hl
 let σ' : Nat → Option Loc := fun i => if i = 64 * st.c then some .nil else σ i
 have s1 : σ' (64 * st.c) = some .nil := by simp [σ']
 have s2 : ∀ i, i ≠ 64 * st.c → σ' i = σ i := fun i hi => by simp [σ', hi]
 have ext : ∀ id l, σ id = some l → σ' id = some l := by
  intro id l hl
  rw [s2 id (fun e => by rw [e, hfr] at hl; cases hl)]; exact hl
 -- every object of the new state but the new one is one of the old state at the same number
 have old : ∀ i o, st'.hv i = some o → i ≠ 64 * st.c → ∃ o', st.hv i = some o' := by
  intro i o ho hi
  rw [hv'] at ho
  split at ho
  ·rename_i e; subst e; exact ⟨_, hb⟩
  ·rw [if_neg (fun e => hi e.symm)] at ho; exact ⟨_, ho⟩
 have ok : ∀ b, okB cx w st.hv σ b → okB cx w st'.hv σ' b ∧ w.heap[b]? = w.heap[b]? := by
  intro b hb'
  refine ⟨⟨hb'.1, hb'.2.1, fun i o K s' ho hs => ?_⟩, rfl⟩
  by_cases hi : i = 64 * st.c
  ·subst hi; rw [s1] at hs; cases hs
  ·obtain ⟨o', ho'⟩ := old i o ho hi
   rw [s2 i hi] at hs
   exact hb'.2.2 i o' K s' ho' hs
 have H := h.hr
 refine ⟨σ', ⟨⟨H.os, H.tape, H.output, H.size, H.frame, ?_, ?_, ?_⟩, ?_, ?_, h.tmps, h.defers, ?_⟩⟩
 ·intro i o ho
  by_cases hi : i = 64 * st.c
  ·subst hi
   rw [hv', if_neg hne, if_pos rfl] at ho
   cases ho
   exact .inl ⟨s1, rfl⟩
  ·by_cases hi2 : id = i
   ·subst hi2
    rw [hv', if_pos rfl] at ho
    cases ho
    have hm : RO w (okB cx w st'.hv σ') σ' id (.box e cells) := RO_mono ok ext (fun _ _ _ _ => rfl) (H.own id _ hb)
    obtain ⟨b, K, s0, c, fr, g1, g2, g3, g4⟩ := hm
    obtain ⟨u, hu, hr⟩ := RVl_get g4 hj
    have hr2 : RV w (okB cx w st'.hv σ') σ' (.slr (64 * st.c) 0 0) u := by
     simp only [RV] at hr ⊢
     exact .inl ⟨s1, trivial, trivial, none, hr⟩
    have hs := RVl_set g4 hr2 j
    obtain ⟨hlt, he⟩ := List.getElem?_eq_some_iff.1 hu
    rw [← he, List.set_getElem_self] at hs
    exact ⟨b, K, s0, c, fr, g1, g2, g3, hs⟩
   ·rw [hv', if_neg hi2, if_neg (fun e => hi e.symm)] at ho
    exact RO_mono ok ext (fun _ _ _ _ => rfl) (H.own i o ho)
 ·intro i o b K s' ho hs
  by_cases hi : i = 64 * st.c
  ·subst hi; rw [s1] at hs; cases hs
  ·obtain ⟨o', ho'⟩ := old i o ho hi
   rw [s2 i hi] at hs; exact H.new i o' b K s' ho' hs
 ·intro i i' o o' b K s' K' s'' ho ho' hs hs'
  by_cases hi : i = 64 * st.c
  ·subst hi; rw [s1] at hs; cases hs
  ·by_cases hi' : i' = 64 * st.c
   ·subst hi'; rw [s1] at hs'; cases hs'
   ·obtain ⟨p, hp⟩ := old i o ho hi
    obtain ⟨p', hp'⟩ := old i' o' ho' hi'
    rw [s2 i hi] at hs; rw [s2 i' hi'] at hs'
    exact H.inj i i' p p' b K s' K' s'' hp hp' hs hs'
 ·intro i hid
  have hid : st.c + 1 ≤ i / 64 := hid
  rw [s2 i (by omega)]
  exact h.fresh i (by show st.c ≤ i / 64; omega)
 ·intro i l hl; exact ext i l (h.par i l hl)
 ·intro t' v hv
  exact RV_mono ok ext v _ (h.env t' v hv)
end Go.AX
