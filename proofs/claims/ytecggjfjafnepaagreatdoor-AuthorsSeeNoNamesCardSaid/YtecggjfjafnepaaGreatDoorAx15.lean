/- AX, part 15: the run over the list of the operations, for the walk. -/
import Derived.Test.YtecggjfjafnepaaGreatDoorAx14
set_option linter.unusedSimpArgs false
set_option linter.unusedVariables false
namespace Go.AX
open Go

def aRunO (P : Program) (ops : Array Oper) : Nat → List Oper → St → (St → Prop) → Prop
 | _, [], st, K => K st
 | i, o :: rest, st, K => match st.want ops o with
  | some true => (∀ d, o.dst = some d → d < st.n) ∧ aStep P st i o (fun st' => aRunO P ops (i + 1) rest st' K)
  | some false => aRunO P ops (i + 1) rest (st.skip o.dst) K
  | none => False
def aRunTO (P : Program) (ops : Array Oper) : Nat → List Oper → St → List Tr → (St → List Tr → Prop) → Prop
 | _, [], st, tr, K => K st tr
 | i, o :: rest, st, tr, K => match st.want ops o with
  | some true => (∀ d, o.dst = some d → d < st.n) ∧ aStepT P st i o (fun st' t => aRunTO P ops (i + 1) rest st' (tr ++ [t]) K)
  | some false => aRunTO P ops (i + 1) rest (st.skip o.dst) (tr ++ [.skip]) K
  | none => False

section
variable {P : Program} {cx : Cx} {ops : Array Oper}
theorem aStep_mono {st : St} {i : Nat} {o : Oper} {K K' : St → Prop} (h : ∀ s, K s → K' s) (hs : aStep P st i o K) : aStep P st i o K' := by
 unfold aStep at *
 split at hs
 ·split at hs
  ·obtain ⟨ι, p, x, u, h1, h2⟩ := hs; exact ⟨ι, p, x, u, h1, fun j hj => h _ (h2 j hj)⟩
  ·exact hs
 ·unfold aNext at *
  split at hs
  ·split at hs
   ·split at hs
    ·obtain ⟨h1, h2, h3, h4⟩ := hs
     exact ⟨h1, h2, fun h0 => h _ (h3 h0), fun j k v h0 h5 h6 => h _ (h4 j k v h0 h5 h6)⟩
    ·exact hs
   ·exact hs
  ·exact hs
 ·split at hs
  ·exact h _ hs
  ·exact hs
 ·split at hs
  ·exact ⟨hs.1, h _ hs.2⟩
  ·exact hs
theorem aStepT_mono {st : St} {i : Nat} {o : Oper} {K K' : St → Tr → Prop} (h : ∀ s t, K s t → K' s t) (hs : aStepT P st i o K) : aStepT P st i o K' := by
 unfold aStepT at *
 split at hs
 ·split at hs
  ·obtain ⟨x, u, rd, h1, h2⟩ := hs; exact ⟨x, u, rd, h1, h _ _ h2⟩
  ·exact hs
 ·exact hs
 ·exact hs
 ·split at hs
  ·exact ⟨hs.1, h _ _ hs.2⟩
  ·exact hs
theorem range'_of : ∀ (l : List Oper) (i : Nat), ops.toList.drop i = l → ∀ (st : St) (K : St → Prop), aRunO P ops i l st K → aRun P ops (List.range' i l.length) st K
 | [], _, _, _, _, h => by simpa [aRun, aRunO, List.range'] using h
 | o :: l, i, hd, st, K, h => by
  have ho : ops[i]? = some o := by
   have : (ops.toList.drop i)[0]? = some o := by rw [hd]; rfl
   simpa using this
  have hl : ops.toList.drop (i + 1) = l := by
   rw [← List.drop_drop, hd]; rfl
  simp only [List.length_cons, List.range'_succ, aRun, ho]
  simp only [aRunO] at h
  split at h
  ·rename_i hw; rw [hw]; exact ⟨h.1, aStep_mono (fun s hs => range'_of l (i + 1) hl s K hs) h.2⟩
  ·rename_i hw; rw [hw]; exact range'_of l (i + 1) hl _ K h
  ·exact h.elim
theorem rangeT_of : ∀ (l : List Oper) (i : Nat), ops.toList.drop i = l → ∀ (st : St) (tr : List Tr) (K : St → List Tr → Prop), aRunTO P ops i l st tr K → aRunT P ops (List.range' i l.length) st tr K
 | [], _, _, _, _, _, h => by simpa [aRunT, aRunTO, List.range'] using h
 | o :: l, i, hd, st, tr, K, h => by
  have ho : ops[i]? = some o := by
   have : (ops.toList.drop i)[0]? = some o := by rw [hd]; rfl
   simpa using this
  have hl : ops.toList.drop (i + 1) = l := by
   rw [← List.drop_drop, hd]; rfl
  simp only [List.length_cons, List.range'_succ, aRunT, ho]
  simp only [aRunTO] at h
  split at h
  ·rename_i hw; rw [hw]; exact ⟨h.1, aStepT_mono (fun s t hs => rangeT_of l (i + 1) hl s _ K hs) h.2⟩
  ·rename_i hw; rw [hw]; exact rangeT_of l (i + 1) hl _ _ K h
  ·exact h.elim
theorem AW.reg {id n : Nat} {l : List Oper} {Q : Exit → St → Prop} {st : St} (hn : l.length = n) (h : aRunO P ⟨l⟩ 0 l st fun st' => Q .normal (st'.bump n)) : AW P cx (.region id ⟨l⟩ false) Q st := by
 subst hn
 refine AW.region ?_
 rw [List.range_eq_range']
 exact range'_of (ops := ⟨l⟩) l 0 rfl st _ h
theorem AW.regD {id n : Nat} {l : List Oper} {Q : Exit → St → Prop} {st : St} (hm : P.follows .mixedOrders = true) (hn : l.length = n) (h : aRunTO P ⟨l⟩ 0 l st [] fun st' tr => regOk ⟨l⟩ tr = true ∧ Q .normal (st'.bump n)) : AW P cx (.region id ⟨l⟩ true) Q st := by
 subst hn
 refine AW.regionD hm ?_
 rw [List.range_eq_range']
 exact rangeT_of (ops := ⟨l⟩) l 0 rfl st [] _ h

theorem AW.seq_k {x y : Code} {Q : Exit → St → Prop} {st : St} (h : ∀ K : St → Prop, (∀ s, AW P cx y Q s → K s) → AW P cx x (Then K Q) st) : AW P cx (.seq x y) Q st := AW.seq (h _ fun _ h => h)
/-- A region and what follows. -/
theorem AW.sreg {id n : Nat} {l : List Oper} {y : Code} {Q : Exit → St → Prop} {st : St} (hn : l.length = n) (h : ∀ K : St → Prop, (∀ s, AW P cx y Q s → K s) → aRunO P ⟨l⟩ 0 l st fun st' => K (st'.bump n)) : AW P cx (.seq (.region id ⟨l⟩ false) y) Q st :=
 AW.seq_k fun K hK => AW.reg hn (h K hK)
theorem AW.sregD {id n : Nat} {l : List Oper} {y : Code} {Q : Exit → St → Prop} {st : St} (hm : P.follows .mixedOrders = true) (hn : l.length = n) (h : ∀ K : St → Prop, (∀ s, AW P cx y Q s → K s) → aRunTO P ⟨l⟩ 0 l st [] fun st' tr => regOk ⟨l⟩ tr = true ∧ K (st'.bump n)) : AW P cx (.seq (.region id ⟨l⟩ true) y) Q st :=
 AW.seq_k fun K hK => AW.regD hm hn (h K hK)
end
end Go.AX
