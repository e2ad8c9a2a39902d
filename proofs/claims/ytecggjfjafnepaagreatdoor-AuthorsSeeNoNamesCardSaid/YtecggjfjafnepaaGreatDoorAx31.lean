/- AX, part 31: calls by contracts of which a relation is known alone. -/
import Derived.Test.YtecggjfjafnepaaGreatDoorAx30
import Derived.Lib.Bytealg
import Derived.LoopN
set_option linter.unusedSimpArgs false
set_option linter.unusedVariables false
namespace Go.AX
open Go
section
variable {P : Program} {f : FuncId} {ι : Type} {p : ι → Prop} {x : ι → V} {os' : ι → List O}
theorem DoesI.pure {as_ : List V} (hd : DoesI P f as_ [] p x (fun _ => [])) (hb : as_.all (V.bel 0) = true) (hbx : ∀ j, (x j).bel 0 = true) (hv : Nat → Option O) (nid : Nat) :
  CallStepI P hv nid f (renL (gOf [] nid) as_) p (fun j => (x j).ren (gOf [] nid)) (fun _ => []) := by
 have := CallStepI.of_does hd (hv := hv) (nid := nid) [] rfl (by simp) (by simp) hb rfl (fun j _ => ⟨by simp, by simp, hbx j, rfl⟩)
 simpa [updsOf] using this
theorem DoesI.objs {ys : List V} {os : List O} (hd : DoesI P f ys os p x os') (ids : List Nat) {hv : Nat → Option O} {nid : Nat} (hids : chkO hv (gOf ids nid) 0 os) (hl : ids.length = os.length) (hnd : ids.Nodup)
  (hren : renOs (gOf ids nid) os = os) (hbel : ys.all (V.bel os.length) = true) (hbo : os.all (O.bel os.length) = true)
  (hI : ∀ j, p j → os.length ≤ (os' j).length ∧ (os' j).length ≤ os.length + 64 ∧ (x j).bel (os' j).length = true ∧ (os' j).all (O.bel (os' j).length) = true) :
  CallStepI P hv nid f (renL (gOf ids nid) ys) p (fun j => (x j).ren (gOf ids nid)) (fun j => updsOf (gOf ids nid) 0 (os' j)) :=
 CallStepI.of_does hd ids hl hnd (fun i o h => by have := chkO_get hids h; rw [Nat.zero_add] at this; rw [this, renOs_get hren h]) hbel hbo hI
theorem DoesI.borrow {as_ bs : List V} (hd : DoesI P f as_ [] p x (fun _ => [])) {hv : Nat → Option O} {nid : Nat} (hb : frzL hv (fun _ => false) bs = renL id as_) (hbel : as_.all (V.bel 0) = true) (hx : ∀ j, (x j).flat = true) : CallStepI P hv nid f bs p x (fun _ => []) := by
 intro cx σ w vs hgl h hn hargs
 let cx' : Cx := ⟨w, fun _ => False, fun b => b < w.heap.size, fun _ => none⟩
 have h1 : RVl w (fun b => b < w.heap.size) σ (frzL hv (fun _ => false) bs) vs.toList :=
  RVl_frzA h (fun b hb => hb.2.1) (fun id o b K s hid _ hs => (h.new id o b K s hid hs).2) bs vs.toList hargs
 rw [hb] at h1
 have h2 : RVl w (fun b => b < w.heap.size) (fun _ => none) as_ vs.toList := RVl_back (n := 0) (g := id) (fun i l hi _ => by omega) as_ _ (belL_of_all hbel) h1
 have hr0 : HR cx' (fun i => ([] : List O)[i]?) (fun _ => none) w := by
  constructor
  ·rfl
  ·rfl
  ·rfl
  ·exact Nat.le_refl _
  ·intro b _ _; rfl
  ·intro i o ho; simp at ho
  ·intro i o b K s ho; simp at ho
  ·intro i j o o' b K s K' s' ho; simp at ho
 refine .inl ⟨hd.1, (hd.2 cx' (fun _ => none) w vs (fun g k hg => ⟨fun h => h, (hgl.inner h hg).1.2.1, (hgl.inner h hg).2⟩) hr0 (fun _ _ => rfl) (fun _ _ h => h) (fun _ _ h => h) (fun b hb => hb.elim) ?_).mono fun e w' he => ?_⟩
 ·exact RVl_mono (fun b hb => ⟨⟨.inl hb, hb, fun i o K s ho => by simp at ho⟩, rfl⟩) (fun _ _ h => h) _ _ h2
 ·obtain ⟨jx, hpj, v, rfl, σ', k1, _, _, k4⟩ := he
  refine ⟨v, rfl, jx, hpj, σ, ?_⟩
  have same : ∀ b, b < w.heap.size → w'.heap[b]? = w.heap[b]? := fun b hb => k1.frame b hb (fun h => h.elim)
  have hok : ∀ b, okB cx w hv σ b → okB cx w' hv σ b ∧ w'.heap[b]? = w.heap[b]? := fun b hb => ⟨⟨hb.1, Nat.lt_of_lt_of_le hb.2.1 k1.size, hb.2.2⟩, same b hb.2.1⟩
  refine ⟨?_, fun _ _ => rfl, fun _ _ h => h, hok, RV_flat (x jx) v (hx jx) k4⟩
  rw [app_nil]
  constructor
  ·rw [k1.os]; exact h.os
  ·rw [k1.tape]; exact h.tape
  ·rw [k1.output]; exact h.output
  ·exact Nat.le_trans h.size k1.size
  ·intro b hb hp
   rw [same b (Nat.lt_of_lt_of_le hb h.size)]
   exact h.frame b hb hp
  ·intro id o hid
   exact RO_mono hok (fun _ _ h => h) (fun b K s hs => same b (h.new id o b K s hid hs).2) (h.own id o hid)
  ·intro id o b K s hid hs
   have := h.new id o b K s hid hs
   exact ⟨this.1, Nat.lt_of_lt_of_le this.2 k1.size⟩
  ·exact h.inj
theorem DoesI.lend {as_ bs : List V} (hd : DoesI P f as_ [] p x (fun _ => [])) {hv : Nat → Option O} {nid : Nat} (hb : frzL hv (fun _ => false) bs = as_) (hr : renL id as_ = as_) (hbel : as_.all (V.bel 0) = true) (hx : ∀ j, (x j).flat = true) : CallStepI P hv nid f bs p x (fun _ => []) :=
 hd.borrow (hb.trans hr.symm) hbel hx
end
/-- Objects that hold references to one another. -/
def chkR (hv : Nat → Option O) (g : Nat → Nat) : Nat → List O → Prop
 | _, [] => True
 | i, o :: os => hv (g i) = some (o.ren g) ∧ chkR hv g (i + 1) os
theorem chkR_get {hv : Nat → Option O} {g : Nat → Nat} : ∀ {os : List O} {k i : Nat} {o : O}, chkR hv g k os → os[i]? = some o → hv (g (k + i)) = some (o.ren g)
 | [], _, _, _, _, h => by simp at h
 | q :: os, k, i, o, hc, h => by
  cases i with
  | zero => simp at h; subst h; exact hc.1
  | succ i =>
   have := chkR_get hc.2 (i := i) (by simpa using h)
   have e : k + 1 + i = k + (i + 1) := by omega
   rw [← e]; exact this
theorem DoesI.robjs {P : Program} {f : FuncId} {ι : Type} {p : ι → Prop} {x : ι → V} {os' : ι → List O} {ys : List V} {os : List O} (hd : DoesI P f ys os p x os') (ids : List Nat) {hv : Nat → Option O} {nid : Nat} (hids : chkR hv (gOf ids nid) 0 os) (hl : ids.length = os.length) (hnd : ids.Nodup)
  (hbel : ys.all (V.bel os.length) = true) (hbo : os.all (O.bel os.length) = true)
  (hI : ∀ j, p j → os.length ≤ (os' j).length ∧ (os' j).length ≤ os.length + 64 ∧ (x j).bel (os' j).length = true ∧ (os' j).all (O.bel (os' j).length) = true) :
  CallStepI P hv nid f (renL (gOf ids nid) ys) p (fun j => (x j).ren (gOf ids nid)) (fun j => updsOf (gOf ids nid) 0 (os' j)) :=
 CallStepI.of_does hd ids hl hnd (fun i o h => by have := chkR_get hids h; rwa [Nat.zero_add] at this) hbel hbo hI
theorem Does.robjs {P : Program} {f : FuncId} {ys : List V} {os : List O} {x : V} {os' : List O} (hd : Does P f ys os x os') (ids : List Nat) {hv : Nat → Option O} {nid : Nat} (hids : chkR hv (gOf ids nid) 0 os) (hl : ids.length = os.length) (hnd : ids.Nodup)
  (hl' : os.length ≤ os'.length) (hl2 : os'.length ≤ os.length + 64)
  (hbel : ys.all (V.bel os.length) = true) (hbo : os.all (O.bel os.length) = true) (hbx : x.bel os'.length = true) (hbo' : os'.all (O.bel os'.length) = true) :
  CallStep P hv nid f (renL (gOf ids nid) ys) (x.ren (gOf ids nid)) (updsOf (gOf ids nid) 0 os') :=
 CallStep.of_does hd ids hl hnd (fun i o h => by have := chkR_get hids h; rwa [Nat.zero_add] at this) hl' hl2 hbel hbo hbx hbo'
/-- What is known of a function that does just this. -/
theorem Does.rel {P : Program} {f : FuncId} {as_ : List V} {os : List O} {ι : Type} {p : ι → Prop} {x : ι → V} {os' : ι → List O} (j : ι) (hd : Does P f as_ os (x j) (os' j)) (hp : p j) : DoesI P f as_ os p x os' :=
 hd.toI.weaken fun _ _ => ⟨j, hp, rfl, rfl⟩
/-- What a function hands back when it is run. -/
def evalsTo (P : Program) (C : Orc) (f : Nat) (xs : List V) (x : V) : Bool := match bodyE P C (fun _ => false) 10000 f xs [] with
 | some (y, []) => eqVb y x
 | _ => false
theorem evalsTo_ok {P : Program} {C : Orc} (hC : OrcOk P C) (hm : P.follows .mixedOrders = true) {f : Nat} {xs : List V} {x : V} (h : evalsTo P C f xs x = true) : Does P f xs [] x [] := by
 unfold evalsTo at h
 split at h
 ·rename_i y hy
  have := eqVb_ok _ _ h
  subst this
  exact bodyE_does hC hm hy
 ·cases h
end Go.AX

namespace Go.AX
open Go
abbrev ltS (x y : List UInt8) : Bool := Op.bytesLess x y
theorem ltS_cons (a b : UInt8) (x y : List UInt8) : ltS (a :: x) (b :: y) = true ↔ a.toNat < b.toNat ∨ (a = b ∧ ltS x y = true) := by
 simp [ltS, Op.bytesLess, UInt8.lt_iff_toNat_lt]
theorem ltS_irrefl : ∀ x : List UInt8, ltS x x = false
 | [] => rfl
 | a :: x => by
  have := ltS_irrefl x
  simp only [ltS] at this
  simp [ltS, Op.bytesLess, this, UInt8.lt_irrefl]
theorem ltS_trans : ∀ {x y z : List UInt8}, ltS x y = true → ltS y z = true → ltS x z = true
 | _, [], _, h, _ => by simp [ltS, Op.bytesLess] at h
 | _, _ :: _, [], _, h => by simp [ltS, Op.bytesLess] at h
 | [], _ :: _, _ :: _, _, _ => by simp [ltS, Op.bytesLess]
 | a :: x, b :: y, c :: z, h1, h2 => by
  rw [ltS_cons] at *
  rcases h1 with h1 | ⟨rfl, h1⟩ <;> rcases h2 with h2 | ⟨rfl, h2⟩
  ·exact .inl (Nat.lt_trans h1 h2)
  ·exact .inl h1
  ·exact .inl h2
  ·exact .inr ⟨rfl, ltS_trans h1 h2⟩
theorem ltS_total : ∀ {x y : List UInt8}, ltS x y = false → x ≠ y → ltS y x = true
 | [], [], _, h => absurd rfl h
 | [], _ :: _, h, _ => by simp [ltS, Op.bytesLess] at h
 | _ :: _, [], _, _ => by simp [ltS, Op.bytesLess]
 | a :: x, b :: y, h, hne => by
  have h' : ¬ (ltS (a :: x) (b :: y) = true) := by rw [h]; simp
  rw [ltS_cons] at *
  by_cases e : a = b
  ·subst e
   refine .inr ⟨rfl, ltS_total ?_ fun e => hne (by rw [e])⟩
   cases hl : ltS x y with
   | false => rfl
   | true => exact absurd (.inr ⟨rfl, hl⟩) h'
  ·left
   have : a.toNat ≠ b.toNat := fun h => e (UInt8.toNat_inj.1 h)
   have : ¬ a.toNat < b.toNat := fun h => h' (.inl h)
   omega
/-- Not less and not equal. -/
theorem ltS_of_not {x y : List UInt8} (h : (ltS x y || x == y) = false) : ltS y x = true := by
 simp only [Bool.or_eq_false_iff, beq_eq_false_iff_ne, ne_eq] at h
 exact ltS_total h.1 h.2
theorem cmpB_lt : ∀ (x y : List UInt8), decide (Lib.compareBytes x y < 0) = ltS x y
 | [], [] => by simp [Lib.compareBytes, ltS, Op.bytesLess]
 | [], _ :: _ => by simp [Lib.compareBytes, ltS, Op.bytesLess]
 | _ :: _, [] => by simp [Lib.compareBytes, ltS, Op.bytesLess]
 | a :: x, b :: y => by
  have := cmpB_lt x y
  simp only [Lib.compareBytes, ltS, Op.bytesLess] at *
  split
  ·rename_i h; simp [h]
  ·rename_i h
   split
   ·rename_i h2
    have : a ≠ b := fun e => by subst e; exact absurd h2 h
    simp [h, this]
   ·rename_i h2
    have e : a = b := by
     rw [UInt8.lt_iff_toNat_lt] at h h2
     exact UInt8.toNat_inj.1 (by omega)
    subst e
    simp [h, this]
theorem cmpB_eq : ∀ (x y : List UInt8), Lib.compareBytes x y = 0 ↔ x = y
 | [], [] => by simp [Lib.compareBytes]
 | [], _ :: _ => by simp [Lib.compareBytes]
 | _ :: _, [] => by simp [Lib.compareBytes]
 | a :: x, b :: y => by
  have := cmpB_eq x y
  simp only [Lib.compareBytes]
  split
  ·rename_i h
   have : a ≠ b := fun e => by subst e; exact absurd h (UInt8.lt_irrefl a)
   simp [this]
  ·rename_i h
   split
   ·rename_i h2
    have : a ≠ b := fun e => by subst e; exact absurd h2 h
    simp [this]
   ·rename_i h2
    have e : a = b := by
     rw [UInt8.lt_iff_toNat_lt] at h h2
     exact UInt8.toNat_inj.1 (by omega)
    subst e
    simp [this]
theorem cmpB_range : ∀ (x y : List UInt8), -1 ≤ Lib.compareBytes x y ∧ Lib.compareBytes x y ≤ 1
 | [], [] => by simp [Lib.compareBytes]
 | [], _ :: _ => by simp [Lib.compareBytes]
 | _ :: _, [] => by simp [Lib.compareBytes]
 | a :: x, b :: y => by
  have := cmpB_range x y
  simp only [Lib.compareBytes]
  split
  ·omega
  ·split
   ·omega
   ·exact this
theorem cmpB_cases (x y : List UInt8) : (ltS x y = true ∧ (x == y) = false ∧ Lib.compareBytes x y = -1) ∨ (ltS x y = false ∧ (x == y) = false ∧ Lib.compareBytes x y = 1) ∨ (x = y ∧ Lib.compareBytes x y = 0) := by
 have hr := cmpB_range x y
 have hl := cmpB_lt x y
 have he := cmpB_eq x y
 by_cases e : x = y
 ·exact .inr (.inr ⟨e, he.2 e⟩)
 ·have e' : (x == y) = false := by simpa using e
  have h0 : Lib.compareBytes x y ≠ 0 := fun h => e (he.1 h)
  cases h : ltS x y with
  | true => rw [h] at hl; have := of_decide_eq_true hl; exact .inl ⟨rfl, e', by omega⟩
  | false => rw [h] at hl; have := of_decide_eq_false hl; exact .inr (.inl ⟨rfl, e', by omega⟩)
/-! a strict order -/
section
variable {α : Type} {lt : α → α → Bool}
end
/-! loops of few rounds -/
/-- At most n rounds. -/
def AWr (P : Program) (cx : Cx) (c : Code) (Q : Exit → St → Prop) : Nat → St → Prop
 | 0, _ => False
 | n + 1, st => AW P cx c (Then (AWr P cx c Q n) Q) st
theorem AW.unroll {P : Program} {cx : Cx} {c : Code} {Q : Exit → St → Prop} (n : Nat) {st : St} (h : AWr P cx c Q n st) : AW P cx (.loop c) Q st := by
 intro hgl σ a w hr
 refine wp_loop_rounds n ?_
 have key : ∀ n st σ a w, AWr P cx c Q n st → Rel cx st (fun id => st.c ≤ id / 64) σ a w → Code.rounds P c (Hat cx Q) n a w := by
  intro n
  induction n with
  | zero => intro st σ a w h _; exact h.elim
  | succ n ih =>
   intro st σ a w h hr
   rw [rounds_succ]
   refine wp_mono (h hgl σ a w hr) fun e a' w' he => ?_
   obtain ⟨st', σ', hq, hr'⟩ := he
   cases e with
   | normal => exact ih st' σ' a' w' hq hr'
   | _ => exact ⟨st', σ', hq, hr'⟩
 exact key n st σ a w h hr
/-! sums -/
end Go.AX
