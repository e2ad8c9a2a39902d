/- AX, part 34: families of objects. -/
import Derived.Test.YtecggjfjafnepaaGreatDoorAx31
set_option linter.unusedSimpArgs false
set_option linter.unusedVariables false
namespace Go.AX
open Go
section
variable {α : Type} {f : α → O}
theorem lk_app {β : Type} : ∀ (a b : List (Nat × β)) (i : Nat), lk (a ++ b) i = match lk a i with | some x => some x | none => lk b i
 | [], _, _ => rfl
 | (k, x) :: r, b, i => by
  simp only [List.cons_append, lk]
  split
  ·rfl
  ·exact lk_app r b i
end
/-- What follows is reached by some states alone. -/
theorem AW.joinK {P : Program} {cx : Cx} {x : Code} {K : St → Prop} {Q : Exit → St → Prop} {st : St} {ι : Type} (J : ι → Prop) (S : ι → St) (hx : AW P cx x (Then (fun s => ∃ i, J i ∧ Weak cx s (S i)) Q) st) (hk : ∀ s i, J i → Weak cx s (S i) → K s) : AW P cx x (Then K Q) st :=
 hx.mono fun e s h => by
  cases e with
  | normal =>
   obtain ⟨i, hi, hw⟩ := h
   exact hk s i hi hw
  | _ => exact h
section
variable {cx : Cx}
end
end Go.AX

namespace Go.AX
open Go
@[go_sem] theorem natBeq_self (n : Nat) : Nat.beq n n = true := Nat.beq_refl n
def nilD : V → V
 | .nils => .d (.sl [])
 | x => x
section
variable {w : World} {ok : Nat → Prop} {σ : Nat → Option Loc}
theorem RV_nilD {x : V} {v : Value} (h : RV w ok σ x v) : RV w ok σ (nilD x) v := by
 cases x with
 | nils =>
  simp only [RV] at h
  subst h
  simp only [nilD, RV, RD]
  exact ⟨none, 0, 0, rfl, rfl, Nat.le_refl _, .inl trivial⟩
 | _ => exact h
theorem RVl_nilD : ∀ {xs : List V} {vs : List Value}, RVl w ok σ xs vs → RVl w ok σ (xs.map nilD) vs
 | [], vs, h => h
 | x :: xs, vs, h => by
  simp only [RVl] at h
  obtain ⟨u, us, rfl, h1, h2⟩ := h
  simp only [List.map_cons, RVl]
  exact ⟨u, us, rfl, RV_nilD h1, RVl_nilD h2⟩
end
theorem Does.nil {P : Program} {f : FuncId} {as_ : List V} {os : List O} {x : V} {os' : List O} (h : Does P f (as_.map nilD) os x os') : Does P f as_ os x os' :=
 ⟨h.1, fun cx σ w vs a b c d e f g => h.2 cx σ w vs a b c d e f (RVl_nilD g)⟩
theorem DoesI.nil {P : Program} {f : FuncId} {as_ : List V} {os : List O} {ι : Type} {p : ι → Prop} {x : ι → V} {os' : ι → List O} (h : DoesI P f (as_.map nilD) os p x os') : DoesI P f as_ os p x os' :=
 ⟨h.1, fun cx σ w vs a b c d e f g => h.2 cx σ w vs a b c d e f (RVl_nilD g)⟩
theorem Weak.nilD {cx : Cx} {st : St} (t : Nat) (ht : lk st.env t = some .nils) : Weak cx st { st with env := (t, .d (.sl [])) :: st.env } := by
 intro σ a w h
 refine ⟨σ, ⟨h.hr, h.fresh, h.par, h.tmps, h.defers, ?_⟩⟩
 intro i v hv
 simp only [lk] at hv
 split at hv
 ·rename_i e
  subst e
  cases hv
  exact RV_nilD (h.env _ _ ht)
 ·exact h.env _ _ hv
/-- Of a slice's array less is said. -/
theorem RVels_pre {w : World} {ok : Nat → Prop} {σ : Nat → Option Loc} {c : Array Value} {s : Nat} : ∀ {xs ys : List V} {p : Nat}, RVels w ok σ c s p (xs ++ ys) → RVels w ok σ c s p xs
 | [], ys, p, _ => by simp only [RVels]
 | x :: xs, ys, p, h => by
  simp only [List.cons_append, RVels] at h ⊢
  exact ⟨h.1, RVels_pre h.2⟩
theorem Weak.cut {cx : Cx} {st : St} (id e s : Nat) (xs ys : List V) (hid : st.hv id = some (.vec e s (xs ++ ys))) : Weak cx st { st with H := (id, some (.vec e s xs)) :: st.H } := by
 intro σ a w h
 have hv' : ∀ i, St.hv { st with H := (id, some (.vec e s xs)) :: st.H } i = if id = i then some (.vec e s xs) else st.hv i := by
  intro i
  simp only [St.hv, lk]
  split <;> rfl
 have sup : ∀ i o, St.hv { st with H := (id, some (.vec e s xs)) :: st.H } i = some o → ∃ o', st.hv i = some o' := by
  intro i o ho
  rw [hv'] at ho
  split at ho
  ·rename_i e1; exact ⟨_, by rw [← e1]; exact hid⟩
  ·exact ⟨o, ho⟩
 have sup' : ∀ i o, st.hv i = some o → ∃ o', St.hv { st with H := (id, some (.vec e s xs)) :: st.H } i = some o' := by
  intro i o ho
  rw [hv']
  split
  ·exact ⟨_, rfl⟩
  ·exact ⟨o, ho⟩
 have hok : ∀ b, okB cx w st.hv σ b → okB cx w (St.hv { st with H := (id, some (.vec e s xs)) :: st.H }) σ b := by
  intro b hb
  refine ⟨hb.1, hb.2.1, fun i o K s' ho => ?_⟩
  obtain ⟨o', ho'⟩ := sup i o ho
  exact hb.2.2 i o' K s' ho'
 have hmono : ∀ b, okB cx w st.hv σ b → okB cx w (St.hv { st with H := (id, some (.vec e s xs)) :: st.H }) σ b ∧ w.heap[b]? = w.heap[b]? := fun b hb => ⟨hok b hb, rfl⟩
 refine ⟨σ, ⟨?_, h.fresh, h.par, h.tmps, h.defers, fun t v hv => RV_mono hmono (fun _ _ h => h) _ _ (h.env t v hv)⟩⟩
 constructor
 ·exact h.hr.os
 ·exact h.hr.tape
 ·exact h.hr.output
 ·exact h.hr.size
 ·exact h.hr.frame
 ·intro i o ho
  rw [hv'] at ho
  split at ho
  ·rename_i e1
   subst e1
   cases ho
   have r := RO_mono hmono (fun _ _ h => h) (fun _ _ _ _ => rfl) (h.hr.own _ _ hid)
   simp only [RO] at r ⊢
   rcases r with ⟨r1, r2⟩ | ⟨b, K, c, fr, r1, r2, r3, r4, r5, r6⟩
   ·exact .inl ⟨r1, (List.append_eq_nil_iff.1 r2).1⟩
   ·exact .inr ⟨b, K, c, fr, r1, r2, r3, r4, by rw [List.length_append] at r5; omega, RVels_pre r6⟩
  ·exact RO_mono hmono (fun _ _ h => h) (fun _ _ _ _ => rfl) (h.hr.own _ _ ho)
 ·intro i o b K s' ho
  obtain ⟨o', ho'⟩ := sup i o ho
  exact h.hr.new i o' b K s' ho'
 ·intro i i' o o' b K s1 K' s2 ho ho'
  obtain ⟨p, hp⟩ := sup i o ho
  obtain ⟨p', hp'⟩ := sup i' o' ho'
  exact h.hr.inj i i' p p' b K s1 K' s2 hp hp'
end Go.AX
