/- AX, part 45: weakening that only forgets: objects that were handed in may be dead. -/
import Derived.Test.YtcjdlbdoffchfaaGreatDoorAx25
import Derived.Test.YtcjdlbdoffchfaaGreatDoorAx36
set_option linter.unusedSimpArgs false
set_option linter.unusedVariables false
namespace Go.AX
open Go
theorem gL_low {k : Nat} {m : List (Nat × Nat)} (hm : m.all (fun p => Nat.ble k p.1) = true) {i : Nat} (hi : i < k) : gL m i = i := by
  unfold gL
  cases hl : lk m i with
  | none => rfl
  | some j =>
    exfalso
    have : ∀ (m : List (Nat × Nat)), m.all (fun p => Nat.ble k p.1) = true → lk m i = some j → False := by
      intro m
      induction m with
      | nil => intro _ h; simp [lk] at h
      | cons p m ih =>
        obtain ⟨a, b⟩ := p
        intro h1 h2
        simp only [List.all_cons, Bool.and_eq_true] at h1
        simp only [lk] at h2
        split at h2
        · rename_i e
          subst e
          have := Nat.le_of_ble_eq_true h1.1
          omega
        · exact ih h1.2 h2
    exact this m hm hl
theorem Weak.fgt {cx : Cx} {k : Nat} (hcx : CxOk cx k) {st st' : St} (m : List (Nat × Nat))
    (h : (∀ p ∈ st'.env, ∃ v, lk st.env p.1 = some v ∧ v = p.2.ren (gL m) ∧ p.2.bel (64 * st'.c) = true) ∧
      (∀ p ∈ st'.H, ∃ o, p.2 = some o ∧ p.1 < 64 * st'.c ∧ o.bel (64 * st'.c) = true ∧ ∃ o', st.hv (gL m p.1) = some o' ∧ o' = o.ren (gL m)) ∧
      (st'.H.map fun p => gL m p.1).Nodup)
    (hm : m.all (fun p => Nat.ble k p.1) = true := by exact rfl) (hn : st'.n = st.n := by exact rfl) (hkc : k ≤ st'.c := by exact Nat.le_of_ble_eq_true rfl) : Weak cx st st' := by
  obtain ⟨he, hh, hinj⟩ := h
  intro σ a w h
  have mem_lk : ∀ {α : Type} (l : List (Nat × α)) (i : Nat) (x : α), lk l i = some x → (i, x) ∈ l := by
    intro α l i x hl
    induction l with
    | nil => simp [lk] at hl
    | cons p l ih =>
      obtain ⟨k, y⟩ := p
      simp only [lk] at hl
      split at hl
      · rename_i e; cases hl; subst e; simp
      · simp [ih hl]
  have own' : ∀ i o, st'.hv i = some o → i < 64 * st'.c ∧ o.bel (64 * st'.c) = true ∧ st.hv (gL m i) = some (o.ren (gL m)) := by
    intro i o ho
    simp only [St.hv] at ho
    cases hl : lk st'.H i with
    | none => rw [hl] at ho; cases ho
    | some q =>
      rw [hl] at ho
      obtain ⟨o2, e1, e2, e3, o', e4, e5⟩ := hh (i, q) (mem_lk _ _ _ hl)
      simp only at e1 e2 e4
      subst e1
      simp at ho
      subst ho
      exact ⟨e2, e3, by rw [e4, e5]⟩
  have mem' : ∀ i o, st'.hv i = some o → ∃ q, (i, q) ∈ st'.H := by
    intro i o ho
    simp only [St.hv] at ho
    cases hl : lk st'.H i with
    | none => rw [hl] at ho; cases ho
    | some q => exact ⟨q, mem_lk _ _ _ hl⟩
  have inj' : ∀ i j, (∃ q, (i, q) ∈ st'.H) → (∃ q, (j, q) ∈ st'.H) → gL m i = gL m j → i = j := by
    rintro i j ⟨q1, h1⟩ ⟨q2, h2⟩ e
    have : ∀ (l : List (Nat × Option O)), (l.map fun p => gL m p.1).Nodup → (i, q1) ∈ l → (j, q2) ∈ l → i = j := by
      intro l
      induction l with
      | nil => intro _ h; simp at h
      | cons p l ih =>
        intro hn h1 h2
        simp only [List.map_cons, List.nodup_cons] at hn
        rcases List.mem_cons.1 h1 with e1 | h1 <;> rcases List.mem_cons.1 h2 with e2 | h2
        · rw [← e2] at e1; cases e1; rfl
        · exfalso; refine hn.1 ?_; rw [← e1]; simp only; rw [e]; exact List.mem_map.2 ⟨(j, q2), h2, rfl⟩
        · exfalso; refine hn.1 ?_; rw [← e2]; simp only; rw [← e]; exact List.mem_map.2 ⟨(i, q1), h1, rfl⟩
        · exact ih hn.2 h1 h2
    exact this _ hinj h1 h2
  let σ2 : Nat → Option Loc := fun i => if i < 64 * st'.c then σ (gL m i) else none
  have s2 : ∀ i, i < 64 * st'.c → σ2 i = σ (gL m i) := fun i hi => by simp [σ2, hi]
  have back : ∀ i l, i < 64 * st'.c → σ (gL m i) = some l → σ2 i = some l := fun i l hi hs => by rw [s2 i hi]; exact hs
  have okc : ∀ b, okB cx w st.hv σ b → okB cx w st'.hv σ2 b := by
    intro b hb
    refine ⟨hb.1, hb.2.1, fun i o K s ho hs => ?_⟩
    obtain ⟨h1, _, h3⟩ := own' i o ho
    rw [s2 i h1] at hs
    exact hb.2.2 (gL m i) _ K s h3 hs
  have H := h.hr
  refine ⟨σ2, ?_⟩
  constructor
  · constructor
    · exact H.os
    · exact H.tape
    · exact H.output
    · exact H.size
    · exact H.frame
    · intro i o ho
      obtain ⟨h1, h2, h3⟩ := own' i o ho
      exact RO_mono (fun b hb => ⟨okc b hb, rfl⟩) (fun _ _ h => h) (fun _ _ _ _ => rfl) (RO_back back h1 h2 (H.own _ _ h3))
    · intro i o b K s ho hs
      obtain ⟨h1, _, h3⟩ := own' i o ho
      rw [s2 i h1] at hs
      exact H.new _ _ b K s h3 hs
    · intro i j o1 o2 b K s K' s' e1 e2 e3 e4
      obtain ⟨h1, _, h3⟩ := own' i _ e1
      obtain ⟨j1, _, j3⟩ := own' j _ e2
      rw [s2 i h1] at e3
      rw [s2 j j1] at e4
      exact inj' i j (mem' i _ e1) (mem' j _ e2) (H.inj _ _ _ _ b K s K' s' h3 j3 e3 e4)
  · intro id hid
    simp only [σ2]
    rw [if_neg (by omega)]
  · intro i l hl
    have hi := hcx.ps i l hl
    rw [s2 i (by omega), gL_low hm hi]
    exact h.par i l hl
  · rw [hn]; exact h.tmps
  · exact h.defers
  · intro t v hv
    obtain ⟨u, e1, e2, e3⟩ := he (t, v) (mem_lk _ _ _ hv)
    simp only at e1 e2 e3
    have := h.env t u e1
    rw [e2] at this
    exact RV_mono (fun b hb => ⟨okc b hb, rfl⟩) (fun _ _ h => h) _ _ (RV_back back v _ e3 this)
end Go.AX

namespace Go.AX
open Go Go.RowKit
theorem Weak.nilG {cx : Cx} {st : St} (id t s : Nat) {o1 o2 : O} (hb : st.hv id = some o1) (hO : ∀ (w : World) (ok : Nat → Prop) (τ : Nat → Option Loc), τ (64 * st.c) = some .nil → RO w ok τ id o1 → RO w ok τ id o2) :
    Weak cx st ⟨st.n, st.env, (id, some o2) :: (64 * st.c, some (.vec t s [])) :: st.H, st.c + 1⟩ := by
  intro σ a w h
  have hfr : σ (64 * st.c) = none := h.fresh _ (by simp)
  let st' : St := ⟨st.n, st.env, (id, some o2) :: (64 * st.c, some (.vec t s [])) :: st.H, st.c + 1⟩
  have hv' : ∀ i, st'.hv i = if id = i then some o2 else if 64 * st.c = i then some (.vec t s []) else st.hv i := by
    intro i
    simp only [st', St.hv, lk]
    split
    · simp
    · split <;> simp
  have hne : id ≠ 64 * st.c := by
    rintro rfl
    obtain ⟨l, hl⟩ := RO_some (h.hr.own _ _ hb)
    rw [hfr] at hl; cases hl
  let σ' : Nat → Option Loc := fun i => if i = 64 * st.c then some .nil else σ i
  have s1 : σ' (64 * st.c) = some .nil := by simp [σ']
  have s2 : ∀ i, i ≠ 64 * st.c → σ' i = σ i := fun i hi => by simp [σ', hi]
  have ext : ∀ id l, σ id = some l → σ' id = some l := by
    intro id l hl
    rw [s2 id (fun e => by rw [e, hfr] at hl; cases hl)]; exact hl
  -- every object of the new state but the new one is one of the old state at the same number
  have old : ∀ i o, st'.hv i = some o → i ≠ 64 * st.c → ∃ o', st.hv i = some o' := by
    intro i o ho hi
    rw [hv'] at ho
    split at ho
    · rename_i e; subst e; exact ⟨_, hb⟩
    · rw [if_neg (fun e => hi e.symm)] at ho; exact ⟨_, ho⟩
  have ok : ∀ b, okB cx w st.hv σ b → okB cx w st'.hv σ' b ∧ w.heap[b]? = w.heap[b]? := by
    intro b hb'
    refine ⟨⟨hb'.1, hb'.2.1, fun i o K s' ho hs => ?_⟩, rfl⟩
    by_cases hi : i = 64 * st.c
    · subst hi; rw [s1] at hs; cases hs
    · obtain ⟨o', ho'⟩ := old i o ho hi
      rw [s2 i hi] at hs
      exact hb'.2.2 i o' K s' ho' hs
  have H := h.hr
  refine ⟨σ', ⟨⟨H.os, H.tape, H.output, H.size, H.frame, ?_, ?_, ?_⟩, ?_, ?_, h.tmps, h.defers, ?_⟩⟩
  · intro i o ho
    by_cases hi : i = 64 * st.c
    · subst hi
      rw [hv', if_neg hne, if_pos rfl] at ho
      cases ho
      exact .inl ⟨s1, rfl⟩
    · by_cases hi2 : id = i
      · subst hi2
        rw [hv', if_pos rfl] at ho
        cases ho
        have hm : RO w (okB cx w st'.hv σ') σ' id o1 := RO_mono ok ext (fun _ _ _ _ => rfl) (H.own id _ hb)
        exact hO w _ _ s1 hm
      · rw [hv', if_neg hi2, if_neg (fun e => hi e.symm)] at ho
        exact RO_mono ok ext (fun _ _ _ _ => rfl) (H.own i o ho)
  · intro i o b K s' ho hs
    by_cases hi : i = 64 * st.c
    · subst hi; rw [s1] at hs; cases hs
    · obtain ⟨o', ho'⟩ := old i o ho hi
      rw [s2 i hi] at hs; exact H.new i o' b K s' ho' hs
  · intro i i' o o' b K s' K' s'' ho ho' hs hs'
    by_cases hi : i = 64 * st.c
    · subst hi; rw [s1] at hs; cases hs
    · by_cases hi' : i' = 64 * st.c
      · subst hi'; rw [s1] at hs'; cases hs'
      · obtain ⟨p, hp⟩ := old i o ho hi
        obtain ⟨p', hp'⟩ := old i' o' ho' hi'
        rw [s2 i hi] at hs; rw [s2 i' hi'] at hs'
        exact H.inj i i' p p' b K s' K' s'' hp hp' hs hs'
  · intro i hid
    have hid : st.c + 1 ≤ i / 64 := hid
    rw [s2 i (by omega)]
    exact h.fresh i (by show st.c ≤ i / 64; omega)
  · intro i l hl; exact ext i l (h.par i l hl)
  · intro t' v hv
    exact RV_mono ok ext v _ (h.env t' v hv)
/-- The same in an element of a slice: a struct with a nil slice in it. -/
theorem Weak.nilV {cx : Cx} {st : St} (id k j e s0 t s : Nat) {xs cells : List V} (hb : st.hv id = some (.vec e s0 xs)) (hk : xs[k]? = some (.agg cells)) (hj : cells[j]? = some .nils) :
    Weak cx st ⟨st.n, st.env, (id, some (.vec e s0 (xs.set k (.agg (cells.set j (.slr (64 * st.c) 0 0)))))) :: (64 * st.c, some (.vec t s [])) :: st.H, st.c + 1⟩ := by
  refine Weak.nilG id t s hb fun w ok τ hτ h => ?_
  rcases h with ⟨_, h2⟩ | ⟨b, K, c, fr, h1, h2, h3, h4, h5, h6⟩
  · subst h2; simp at hk
  · refine .inr ⟨b, K, c, fr, h1, h2, h3, h4, by simpa using h5, RVels_of fun i x hx => ?_⟩
    by_cases hi : i = k
    · subst hi
      have hx2 : x = .agg (cells.set j (.slr (64 * st.c) 0 0)) := by
        obtain ⟨hlt, _⟩ := List.getElem?_eq_some_iff.1 hx
        rw [List.getElem?_set_self (by simpa using hlt)] at hx
        exact (Option.some.inj hx).symm
      subst hx2
      obtain ⟨v, e1, e2⟩ := RVels_get h6 hk
      refine ⟨v, e1, ?_⟩
      simp only [RV] at e2 ⊢
      obtain ⟨a, rfl, g4⟩ := e2
      refine ⟨a, rfl, ?_⟩
      obtain ⟨u, hu, hr⟩ := RVl_get g4 hj
      have hr2 : RV w ok τ (.slr (64 * st.c) 0 0) u := by
        simp only [RV] at hr ⊢
        exact .inl ⟨hτ, trivial, trivial, none, hr⟩
      have hs := RVl_set g4 hr2 j
      obtain ⟨hlt, he⟩ := List.getElem?_eq_some_iff.1 hu
      rwa [← he, List.set_getElem_self] at hs
    · rw [List.getElem?_set_ne (fun e => hi e.symm)] at hx
      exact RVels_get h6 hx
end Go.AX
