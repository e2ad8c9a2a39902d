/- AX, part 31: calls by contracts of which a relation is known alone. -/
import Derived.Test.YtobgkoebiapciaaGreatDoorAx30
set_option linter.unusedSimpArgs false
set_option linter.unusedVariables false
namespace Go.AX
open Go
section
variable {P : Program} {f : FuncId} {ι : Type} {p : ι → Prop} {x : ι → V} {os' : ι → List O}
theorem DoesI.pure {as_ : List V} (hd : DoesI P f as_ [] p x (fun _ => [])) (hb : as_.all (V.bel 0) = true) (hbx : ∀ j, (x j).bel 0 = true) (hv : Nat → Option O) (nid : Nat) :
    CallStepI P hv nid f (renL (gOf [] nid) as_) p (fun j => (x j).ren (gOf [] nid)) (fun _ => []) := by
  have := CallStepI.of_does hd (hv := hv) (nid := nid) [] rfl (by simp) (by simp) hb rfl (fun j _ => ⟨by simp, by simp, hbx j, rfl⟩)
  simpa [updsOf] using this
theorem DoesI.objs {ys : List V} {os : List O} (hd : DoesI P f ys os p x os') (ids : List Nat) {hv : Nat → Option O} {nid : Nat} (hids : chkO hv (gOf ids nid) 0 os) (hl : ids.length = os.length) (hnd : ids.Nodup)
    (hren : renOs (gOf ids nid) os = os) (hbel : ys.all (V.bel os.length) = true) (hbo : os.all (O.bel os.length) = true)
    (hI : ∀ j, p j → os.length ≤ (os' j).length ∧ (os' j).length ≤ os.length + 64 ∧ (x j).bel (os' j).length = true ∧ (os' j).all (O.bel (os' j).length) = true) :
    CallStepI P hv nid f (renL (gOf ids nid) ys) p (fun j => (x j).ren (gOf ids nid)) (fun j => updsOf (gOf ids nid) 0 (os' j)) :=
  CallStepI.of_does hd ids hl hnd (fun i o h => by have := chkO_get hids h; rw [Nat.zero_add] at this; rw [this, renOs_get hren h]) hbel hbo hI
theorem DoesI.borrow {as_ bs : List V} (hd : DoesI P f as_ [] p x (fun _ => [])) {hv : Nat → Option O} {nid : Nat} (hb : frzL hv (fun _ => false) bs = renL id as_) (hbel : as_.all (V.bel 0) = true) (hx : ∀ j, (x j).flat = true) : CallStepI P hv nid f bs p x (fun _ => []) := by
  intro cx σ w vs hgl h hn hargs
  let cx' : Cx := ⟨w, fun _ => False, fun b => b < w.heap.size, fun _ => none⟩
  have h1 : RVl w (fun b => b < w.heap.size) σ (frzL hv (fun _ => false) bs) vs.toList :=
    RVl_frzA h (fun b hb => hb.2.1) (fun id o b K s hid _ hs => (h.new id o b K s hid hs).2) bs vs.toList hargs
  rw [hb] at h1
  have h2 : RVl w (fun b => b < w.heap.size) (fun _ => none) as_ vs.toList := RVl_back (n := 0) (g := id) (fun i l hi _ => by omega) as_ _ (belL_of_all hbel) h1
  have hr0 : HR cx' (fun i => ([] : List O)[i]?) (fun _ => none) w := by
    constructor
    · rfl
    · rfl
    · rfl
    · exact Nat.le_refl _
    · intro b _ _; rfl
    · intro i o ho; simp at ho
    · intro i o b K s ho; simp at ho
    · intro i j o o' b K s K' s' ho; simp at ho
  refine .inl ⟨hd.1, (hd.2 cx' (fun _ => none) w vs (fun g k hg => ⟨fun h => h, (hgl.inner h hg).1.2.1, (hgl.inner h hg).2⟩) hr0 (fun _ _ => rfl) (fun _ _ h => h) (fun _ _ h => h) (fun b hb => hb.elim) ?_).mono fun e w' he => ?_⟩
  · exact RVl_mono (fun b hb => ⟨⟨.inl hb, hb, fun i o K s ho => by simp at ho⟩, rfl⟩) (fun _ _ h => h) _ _ h2
  · obtain ⟨jx, hpj, v, rfl, σ', k1, _, _, k4⟩ := he
    refine ⟨v, rfl, jx, hpj, σ, ?_⟩
    have same : ∀ b, b < w.heap.size → w'.heap[b]? = w.heap[b]? := fun b hb => k1.frame b hb (fun h => h.elim)
    have hok : ∀ b, okB cx w hv σ b → okB cx w' hv σ b ∧ w'.heap[b]? = w.heap[b]? := fun b hb => ⟨⟨hb.1, Nat.lt_of_lt_of_le hb.2.1 k1.size, hb.2.2⟩, same b hb.2.1⟩
    refine ⟨?_, fun _ _ => rfl, fun _ _ h => h, hok, RV_flat (x jx) v (hx jx) k4⟩
    rw [app_nil]
    constructor
    · rw [k1.os]; exact h.os
    · rw [k1.tape]; exact h.tape
    · rw [k1.output]; exact h.output
    · exact Nat.le_trans h.size k1.size
    · intro b hb hp
      rw [same b (Nat.lt_of_lt_of_le hb h.size)]
      exact h.frame b hb hp
    · intro id o hid
      exact RO_mono hok (fun _ _ h => h) (fun b K s hs => same b (h.new id o b K s hid hs).2) (h.own id o hid)
    · intro id o b K s hid hs
      have := h.new id o b K s hid hs
      exact ⟨this.1, Nat.lt_of_lt_of_le this.2 k1.size⟩
    · exact h.inj
theorem DoesI.lend {as_ bs : List V} (hd : DoesI P f as_ [] p x (fun _ => [])) {hv : Nat → Option O} {nid : Nat} (hb : frzL hv (fun _ => false) bs = as_) (hr : renL id as_ = as_) (hbel : as_.all (V.bel 0) = true) (hx : ∀ j, (x j).flat = true) : CallStepI P hv nid f bs p x (fun _ => []) :=
  hd.borrow (hb.trans hr.symm) hbel hx
end
/-- What is known of a function that does just this. -/
theorem Does.rel {P : Program} {f : FuncId} {as_ : List V} {os : List O} {ι : Type} {p : ι → Prop} {x : ι → V} {os' : ι → List O} (j : ι) (hd : Does P f as_ os (x j) (os' j)) (hp : p j) : DoesI P f as_ os p x os' :=
  hd.toI.weaken fun _ _ => ⟨j, hp, rfl, rfl⟩
/-- What a function hands back when it is run. -/
def evalsTo (P : Program) (C : Orc) (f : Nat) (xs : List V) (x : V) : Bool := match bodyE P C (fun _ => false) 10000 f xs [] with
  | some (y, []) => eqVb y x
  | _ => false
theorem evalsTo_ok {P : Program} {C : Orc} (hC : OrcOk P C) (hm : P.follows .mixedOrders = true) {f : Nat} {xs : List V} {x : V} (h : evalsTo P C f xs x = true) : Does P f xs [] x [] := by
  unfold evalsTo at h
  split at h
  · rename_i y hy
    have := eqVb_ok _ _ h
    subst this
    exact bodyE_does hC hm hy
  · cases h
end Go.AX
