/- AX, part 26: loops whose head keeps slots of the state before; renaming found by the slots. -/
import Derived.Test.YtobgkoebiapciaaGreatDoorAx25
set_option linter.unusedSimpArgs false
set_option linter.unusedVariables false
namespace Go.AX
open Go
/-- Slots as they are. -/
def St.at (st : St) (ks : List Nat) : List (Nat × V) := ks.map fun k => (k, (lk st.env k).getD .top)
@[go_sem] theorem St.at_nil (st : St) : st.at [] = [] := rfl
@[go_sem] theorem St.at_cons (st : St) (k : Nat) (ks : List Nat) : st.at (k :: ks) = (k, (lk st.env k).getD .top) :: st.at ks := rfl
def V.obj : V → Option Nat
  | .slr i _ _ => some i
  | .mpr i => some i
  | .ptr i _ => some i
  | .pe i _ _ => some i
  | _ => none
/-- The objects that slots name, new and old. -/
def renOf (k : Nat) (env : List (Nat × V)) : List (Nat × V) → List (Nat × Nat)
  | [] => []
  | (t, v) :: r => match V.obj v, (lk env t).bind V.obj with
    | some i, some j => if Nat.blt i k = true then renOf k env r else (i, j) :: renOf k env r
    | _, _ => renOf k env r
theorem frz_d {hv : Nat → Option O} {keep : Nat → Bool} {x : D} : frz hv keep (.d x) = .d x := by simp only [frz]
section
variable {P : Program} {cx : Cx}
theorem AW.loopF {ι : Type} {c : Code} {Q : Exit → St → Prop} {st : St} (ks : List Nat) (ch : ι → List (Nat × V)) (hs : ι → List (Nat × Option O)) (cnt : Nat) (J : ι → Prop) (μ : ι → Nat) (i0 : ι) (hJ : J i0)
    (h0 : Weak cx st ⟨st.n, ch i0 ++ st.at ks, hs i0, cnt⟩)
    (round : ∀ i, J i → AW P cx c (Then (fun st' => ∃ j, J j ∧ μ j < μ i ∧ Weak cx st' ⟨st.n, ch j ++ st.at ks, hs j, cnt⟩) Q) ⟨st.n, ch i ++ st.at ks, hs i, cnt⟩) : AW P cx (.loop c) Q st :=
  AW.loopS (fun i => ⟨st.n, ch i ++ st.at ks, hs i, cnt⟩) J μ i0 hJ h0 round
theorem Weak.auto {k : Nat} (hcx : CxOk cx k) {st st' : St} (hm : (renOf k st.env st'.env).all (fun p => Nat.ble k p.1) = true) (hn : st'.n = st.n) (hkc : k ≤ st'.c)
    (he : ∀ p ∈ st'.env, ∃ v, lk st.env p.1 = some v ∧ frz st.hv (kL k (renOf k st.env st'.env)) v = p.2.ren (gL (renOf k st.env st'.env)) ∧ p.2.bel (64 * st'.c) = true)
    (hh : ∀ p ∈ st'.H, ∃ o, p.2 = some o ∧ p.1 < 64 * st'.c ∧ o.bel (64 * st'.c) = true ∧ kL k (renOf k st.env st'.env) (gL (renOf k st.env st'.env) p.1) = true ∧ ∃ o', st.hv (gL (renOf k st.env st'.env) p.1) = some o' ∧ o'.frz st.hv (kL k (renOf k st.env st'.env)) = o.ren (gL (renOf k st.env st'.env)))
    (hpk : ∀ i, i < k → ∃ o, st.hv i = some o)
    (hinj : (st'.H.map fun p => gL (renOf k st.env st'.env) p.1).Nodup) : Weak cx st st' := Weak.objs hcx _ hm hn hkc he hh hpk hinj
end
end Go.AX
