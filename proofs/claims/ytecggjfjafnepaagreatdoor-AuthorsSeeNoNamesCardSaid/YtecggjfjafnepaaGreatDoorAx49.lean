/- AX, part 49: empty slices of one's own that lie nowhere may be added. -/
import Derived.Test.YtecggjfjafnepaaGreatDoorAx24
set_option linter.unusedSimpArgs false
set_option linter.unusedVariables false
namespace Go.AX
open Go
section
variable {cx : Cx}
/-- An empty slice of one's own that lies nowhere may be added. -/
theorem Weak.dummy {st : St} (e s : Nat) : Weak cx st ⟨st.n, st.env, (64 * st.c, some (.vec e s [])) :: st.H, st.c + 1⟩ := by
 intro σ a w h
 have hfr : σ (64 * st.c) = none := h.fresh _ (by simp)
 let st' : St := ⟨st.n, st.env, (64 * st.c, some (.vec e s [])) :: st.H, st.c + 1⟩
 have hv' : ∀ i, st'.hv i = if 64 * st.c = i then some (.vec e s []) else st.hv i := by
  intro i
  simp only [st', St.hv, lk]
  split <;> simp
 have hno : ∀ o, st.hv (64 * st.c) = some o → False := by
  intro o ho
  have := h.hr.own _ _ ho
  obtain ⟨l, hl⟩ := RO_some this
  rw [hfr] at hl; cases hl
 let σ' : Nat → Option Loc := fun i => if i = 64 * st.c then some .nil else σ i
 have s1 : σ' (64 * st.c) = some .nil := by simp [σ']
 have s2 : ∀ i, i ≠ 64 * st.c → σ' i = σ i := fun i hi => by simp [σ', hi]
 have ext : ∀ id l, σ id = some l → σ' id = some l := by
  intro id l hl
  rw [s2 id (fun e => by rw [e, hfr] at hl; cases hl)]; exact hl
 have ok : ∀ b, okB cx w st.hv σ b → okB cx w st'.hv σ' b ∧ w.heap[b]? = w.heap[b]? := by
  intro b hb
  refine ⟨⟨hb.1, hb.2.1, fun id o K s' ho hs => ?_⟩, rfl⟩
  by_cases hi : id = 64 * st.c
  ·subst hi; rw [s1] at hs; cases hs
  ·rw [hv', if_neg (fun e => hi e.symm)] at ho
   rw [s2 id hi] at hs
   exact hb.2.2 id o K s' ho hs
 have old : ∀ id o, st'.hv id = some o → id ≠ 64 * st.c → st.hv id = some o := by
  intro id o ho hi
  rw [hv', if_neg (fun e => hi e.symm)] at ho
  exact ho
 refine ⟨σ', ?_⟩
 have H := h.hr
 refine ⟨⟨H.os, H.tape, H.output, H.size, H.frame, ?_, ?_, ?_⟩, ?_, ?_, h.tmps, h.defers, ?_⟩
 ·intro id o ho
  by_cases hi : id = 64 * st.c
  ·subst hi
   rw [hv', if_pos rfl] at ho
   cases ho
   exact .inl ⟨s1, rfl⟩
  ·exact RO_mono ok ext (fun _ _ _ _ => rfl) (H.own id o (old id o ho hi))
 ·intro id o b K s' ho hs
  by_cases hi : id = 64 * st.c
  ·subst hi; rw [s1] at hs; cases hs
  ·rw [s2 id hi] at hs; exact H.new id o b K s' (old id o ho hi) hs
 ·intro id id' o o' b K s' K' s'' ho ho' hs hs'
  by_cases hi : id = 64 * st.c
  ·subst hi; rw [s1] at hs; cases hs
  ·by_cases hi' : id' = 64 * st.c
   ·subst hi'; rw [s1] at hs'; cases hs'
   ·rw [s2 id hi] at hs; rw [s2 id' hi'] at hs'
    exact H.inj id id' o o' b K s' K' s'' (old id o ho hi) (old id' o' ho' hi') hs hs'
 ·intro id hid
  have hid : st.c + 1 ≤ id / 64 := hid
  rw [s2 id (by omega)]
  exact h.fresh id (by show st.c ≤ id / 64; omega)
 ·intro id l hl; exact ext id l (h.par id l hl)
 ·intro t' v hv
  exact RV_mono ok ext v _ (h.env t' v hv)
end
end Go.AX
