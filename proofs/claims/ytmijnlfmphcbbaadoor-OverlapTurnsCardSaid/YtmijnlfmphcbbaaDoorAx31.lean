/- AX, part 31: calls by contracts of which a relation is known alone. -/
import Derived.Test.YtmijnlfmphcbbaaDoorAx30
set_option linter.unusedSimpArgs false
set_option linter.unusedVariables false
namespace Go.AX
open Go
section
variable {P : Program} {f : FuncId} {ι : Type} {p : ι → Prop} {x : ι → V} {os' : ι → List O}
theorem DoesI.pure {as_ : List V} (hd : DoesI P f as_ [] p x (fun _ => [])) (hb : as_.all (V.bel 0) = true) (hbx : ∀ j, (x j).bel 0 = true) (hv : Nat → Option O) (nid : Nat) :
    CallStepI P hv nid f (renL (gOf [] nid) as_) p (fun j => (x j).ren (gOf [] nid)) (fun _ => []) := by
  have := CallStepI.of_does hd (hv := hv) (nid := nid) [] rfl (by simp) (by simp) hb rfl (fun j _ => ⟨by simp, by simp, hbx j, rfl⟩)
  simpa [updsOf] using this
theorem DoesI.objs {ys : List V} {os : List O} (hd : DoesI P f ys os p x os') (ids : List Nat) {hv : Nat → Option O} {nid : Nat} (hids : chkO hv (gOf ids nid) 0 os) (hl : ids.length = os.length) (hnd : ids.Nodup)
    (hren : renOs (gOf ids nid) os = os) (hbel : ys.all (V.bel os.length) = true) (hbo : os.all (O.bel os.length) = true)
    (hI : ∀ j, p j → os.length ≤ (os' j).length ∧ (os' j).length ≤ os.length + 64 ∧ (x j).bel (os' j).length = true ∧ (os' j).all (O.bel (os' j).length) = true) :
    CallStepI P hv nid f (renL (gOf ids nid) ys) p (fun j => (x j).ren (gOf ids nid)) (fun j => updsOf (gOf ids nid) 0 (os' j)) :=
  CallStepI.of_does hd ids hl hnd (fun i o h => by have := chkO_get hids h; rw [Nat.zero_add] at this; rw [this, renOs_get hren h]) hbel hbo hI
end
/-- What is known of a function that does just this. -/
theorem Does.rel {P : Program} {f : FuncId} {as_ : List V} {os : List O} {ι : Type} {p : ι → Prop} {x : ι → V} {os' : ι → List O} (j : ι) (hd : Does P f as_ os (x j) (os' j)) (hp : p j) : DoesI P f as_ os p x os' :=
  hd.toI.weaken fun _ _ => ⟨j, hp, rfl, rfl⟩
/-- What a function hands back when it is run. -/
def evalsTo (P : Program) (C : Orc) (f : Nat) (xs : List V) (x : V) : Bool := match bodyE P C (fun _ => false) 10000 f xs [] with
  | some (y, []) => eqVb y x
  | _ => false
theorem evalsTo_ok {P : Program} {C : Orc} (hC : OrcOk P C) (hm : P.follows .mixedOrders = true) {f : Nat} {xs : List V} {x : V} (h : evalsTo P C f xs x = true) : Does P f xs [] x [] := by
  unfold evalsTo at h
  split at h
  · rename_i y hy
    have := eqVb_ok _ _ h
    subst this
    exact bodyE_does hC hm hy
  · cases h
end Go.AX
