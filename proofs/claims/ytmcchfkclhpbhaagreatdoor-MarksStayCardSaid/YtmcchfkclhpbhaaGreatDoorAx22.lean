/- AX, part 22: from a state of the walk to the evaluator. -/
import Derived.Test.YtmcchfkclhpbhaaGreatDoorAx21
set_option linter.unusedSimpArgs false
set_option linter.unusedVariables false
namespace Go.AX
open Go

def envOf : List (Nat × V) → Tri
  | [] => .leaf
  | p :: r => tset 20 (envOf r) p.1 p.2
def keysOk : List (Nat × V) → Bool
  | [] => true
  | p :: r => match Nat.ble p.1 1000000 with
    | true => keysOk r
    | false => false
def ofSt (st : St) : ES := ⟨st.n, st.c, envOf st.env, st.H⟩
theorem envOf_get : ∀ {l : List (Nat × V)}, keysOk l = true → ∀ t, tget (envOf l) t = lk l t
  | [], _, t => rfl
  | p :: r, h, t => by
    simp only [keysOk] at h
    split at h
    · rename_i hb
      have h1 := Nat.le_of_ble_eq_true hb
      have h2 : p.1 + 2 ≤ 2 ^ 20 := by
        have e : (2 : Nat) ^ 20 = 1048576 := rfl
        rw [e]
        omega
      simp only [envOf, tget_tset 20 (envOf r) p.1 p.2 h2 t, envOf_get h t]
      rfl
    · cases h
theorem ofSt_sim {st : St} (h : keysOk st.env = true) : Sim (ofSt st) st := ⟨rfl, rfl, fun i => by simp only [ofSt, hvE_eq]; rfl, fun t => (envOf_get h t).symm⟩

/-- The run ends, and hands back x. -/
def endE (P : Program) (fn : Func) (x : V) (r : Option (Exit × ES)) : Bool := match r with
  | some r => match r.1 with
    | .normal => match resL P (hvE r.2.H) (evF1 r.2.env) fn.results.toList with
      | some [v] => eqVb v x && x.bel 0
      | _ => false
    | .ret => match resL P (hvE r.2.H) (evF1 r.2.env) fn.results.toList with
      | some [v] => eqVb v x && x.bel 0
      | _ => false
    | _ => false
  | none => false
theorem AW.evals {P : Program} {C : Orc} {cx : Cx} (hC : OrcOk P C) (hm : P.follows .mixedOrders = true) (hcx : CxOk cx 0) {st : St} (hk : keysOk st.env = true) {fn : Func} {y : D} {L : Nat} {c : Code} (h : endE P fn (.d y) (codeE P C L 0 c (ofSt st)) = true) : AW P cx c (RetQ P fn 0 (.d y) []) st := by
  unfold endE at h
  split at h
  · rename_i r hr
    have hr' : codeE P C L 0 c (ofSt st) = some (r.1, r.2) := hr
    refine codeE_sound hC hm L hcx c _ _ _ hr' st (ofSt_sim hk) _ fun st' hst' => ?_
    have fin : (match resL P (hvE r.2.H) (evF1 r.2.env) fn.results.toList with
      | some [v] => eqVb v (.d y) && (V.d y).bel 0
      | _ => false) = true → Fin P fn 0 (.d y) [] st' := by
      intro hh
      rw [← hst'.hvf, ← hst'.evf] at hh
      split at hh
      · rename_i v hv
        simp only [Bool.and_eq_true] at hh
        have e := eqVb_ok _ _ hh.1
        subst e
        exact ⟨id, fun _ => false, [.d y], hv, by simp only [resV, frz, V.ren], by simp [hvL], .inl (by simp), by simp, by simp, by simp, rfl, rfl⟩
      · cases hh
    split at h
    · rename_i hn; rw [hn]; exact fin h
    · rename_i hn; rw [hn]; exact fin h
    · cases h
  · cases h
/-- What comes behind the first k parts of a body. -/
def dropSeq : Nat → Code → Code
  | 0, c => c
  | k + 1, c => match c with
    | .seq _ y => dropSeq k y
    | c => c
end Go.AX
