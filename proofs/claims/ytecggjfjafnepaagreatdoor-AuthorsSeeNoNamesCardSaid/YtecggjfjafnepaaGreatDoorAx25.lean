/- AX, part 25: the end of a function that hands back objects. -/
import Derived.Test.YtecggjfjafnepaaGreatDoorAx24
set_option linter.unusedSimpArgs false
set_option linter.unusedVariables false
namespace Go.AX
open Go
def gI (ids : List Nat) (i : Nat) : Nat := match ids[i]? with
 | some j => j
 | none => 0
def inI (ids : List Nat) (i : Nat) : Bool := ids.any fun j => Nat.beq j i
def finO (hv : Nat → Option O) (keep : Nat → Bool) (g : Nat → Nat) : List Nat → List O → Prop
 | [], [] => True
 | j :: js, o :: os => (∃ o', hv j = some o' ∧ o'.frz hv keep = o.ren g) ∧ finO hv keep g js os
 | _, _ => False
theorem finO_get {hv : Nat → Option O} {keep : Nat → Bool} {g : Nat → Nat} : ∀ {js : List Nat} {os : List O} {i : Nat} {o : O}, finO hv keep g js os → os[i]? = some o → ∃ j, js[i]? = some j ∧ ∃ o', hv j = some o' ∧ o'.frz hv keep = o.ren g
 | [], [], _, _, _, h => by simp at h
 | [], _ :: _, _, _, h, _ => h.elim
 | _ :: _, [], _, _, h, _ => h.elim
 | j :: js, o :: os, i, q, h, hq => by
  cases i with
  | zero => simp at hq; subst hq; exact ⟨j, rfl, h.1⟩
  | succ i =>
   obtain ⟨j', h1, h2⟩ := finO_get h.2 (i := i) (by simpa using hq)
   exact ⟨j', by simpa using h1, h2⟩
theorem finO_len {hv : Nat → Option O} {keep : Nat → Bool} {g : Nat → Nat} : ∀ {js : List Nat} {os : List O}, finO hv keep g js os → js.length = os.length
 | [], [], _ => rfl
 | [], _ :: _, h => h.elim
 | _ :: _, [], h => h.elim
 | _ :: js, _ :: os, h => by simp [finO_len h.2]
/-- The end of a function: ids are the numbers of the objects that it leaves. -/
theorem Fin.objs (ids : List Nat) {P : Program} {fn : Func} {k : Nat} {st : St} {x : V} {os : List O} {l : List V} (hl : resL P st.hv st.ev fn.results.toList = some l) (hx : frz st.hv (inI ids) (resV l) = x.ren (gI ids))
  (ho : finO st.hv (inI ids) (gI ids) ids os) (hnd : ids.Nodup) (hk : ids.take k = List.range k) (hb : x.bel os.length = true) (hbo : os.all (O.bel os.length) = true) (hlv : os.all (fun o => o.lv.isSome) = true) : Fin P fn k x os st := by
 have hlen := finO_len ho
 have hkl : k ≤ ids.length := by
  have := congrArg List.length hk
  simp only [List.length_take, List.length_range] at this
  omega
 have hgi : ∀ i, i < k → gI ids i = i := by
  intro i hi
  have e : (ids.take k)[i]? = some i := by rw [hk]; simp [hi]
  rw [List.getElem?_take] at e
  simp only [hi, if_true] at e
  simp [gI, e]
 refine ⟨gI ids, inI ids, l, hl, hx, ?_, .inl ?_, ?_, hgi, by omega, hb, hbo⟩
 ·intro i q hq
  obtain ⟨hq, _⟩ := hvL_get hq
  obtain ⟨j, hj, h2⟩ := finO_get ho hq
  have e : gI ids i = j := by simp [gI, hj]
  rw [e]
  refine ⟨?_, h2⟩
  simp only [inI, List.any_eq_true]
  exact ⟨j, List.mem_of_getElem? hj, Nat.beq_refl j⟩
 ·intro i hi
  have hi' : i < os.length := by omega
  refine ⟨os[i], hvL_of (List.getElem?_eq_getElem hi') ?_⟩
  have := (List.all_eq_true.1 hlv) os[i] (List.getElem_mem hi')
  intro e
  rw [e] at this
  simp [O.lv] at this
 ·intro i j hi hj e
  have hi' : i < ids.length := by omega
  have hj' : j < ids.length := by omega
  simp only [gI, List.getElem?_eq_getElem hi', List.getElem?_eq_getElem hj'] at e
  exact (List.getElem_inj hnd).1 e
end Go.AX

namespace Go.AX
open Go
/-- Slots as they are. -/
def St.at (st : St) (ks : List Nat) : List (Nat × V) := ks.map fun k => (k, (lk st.env k).getD .top)
@[go_sem] theorem St.at_nil (st : St) : st.at [] = [] := rfl
@[go_sem] theorem St.at_cons (st : St) (k : Nat) (ks : List Nat) : st.at (k :: ks) = (k, (lk st.env k).getD .top) :: st.at ks := rfl
def V.obj : V → Option Nat
 | .slr i _ _ => some i
 | .mpr i => some i
 | .ptr i _ => some i
 | .pe i _ _ => some i
 | _ => none
/-- The objects that slots name, new and old. -/
def renOf (k : Nat) (env : List (Nat × V)) : List (Nat × V) → List (Nat × Nat)
 | [] => []
 | (t, v) :: r => match V.obj v, (lk env t).bind V.obj with
  | some i, some j => if Nat.blt i k = true then renOf k env r else (i, j) :: renOf k env r
  | _, _ => renOf k env r
theorem frz_d {hv : Nat → Option O} {keep : Nat → Bool} {x : D} : frz hv keep (.d x) = .d x := by simp only [frz]
section
variable {P : Program} {cx : Cx}
theorem AW.loopF {ι : Type} {c : Code} {Q : Exit → St → Prop} {st : St} (ks : List Nat) (ch : ι → List (Nat × V)) (hs : ι → List (Nat × Option O)) (cnt : Nat) (J : ι → Prop) (μ : ι → Nat) (i0 : ι) (hJ : J i0)
  (h0 : Weak cx st ⟨st.n, ch i0 ++ st.at ks, hs i0, cnt⟩)
  (round : ∀ i, J i → AW P cx c (Then (fun st' => ∃ j, J j ∧ μ j < μ i ∧ Weak cx st' ⟨st.n, ch j ++ st.at ks, hs j, cnt⟩) Q) ⟨st.n, ch i ++ st.at ks, hs i, cnt⟩) : AW P cx (.loop c) Q st :=
 AW.loopS (fun i => ⟨st.n, ch i ++ st.at ks, hs i, cnt⟩) J μ i0 hJ h0 round
/-- The same, and with a renaming that is given; what is known is found. -/
theorem Weak.oC {k : Nat} (hcx : CxOk cx k) {st st' : St} (m : List (Nat × Nat))
  (h : (∀ p ∈ st'.env, ∃ v, lk st.env p.1 = some v ∧ frz st.hv (kL k m) v = p.2.ren (gL m) ∧ p.2.bel (64 * st'.c) = true) ∧
   (∀ p ∈ st'.H, ∃ o, p.2 = some o ∧ p.1 < 64 * st'.c ∧ o.bel (64 * st'.c) = true ∧ kL k m (gL m p.1) = true ∧ ∃ o', st.hv (gL m p.1) = some o' ∧ o'.frz st.hv (kL k m) = o.ren (gL m)) ∧
   (st'.H.map fun p => gL m p.1).Nodup)
  (hm : m.all (fun p => Nat.ble k p.1) = true := by exact rfl) (hn : st'.n = st.n := by exact rfl) (hkc : k ≤ st'.c := by exact Nat.le_of_ble_eq_true rfl)
  (hpk : ∀ i, i < k → ∃ o, st.hv i = some o := by first | exact pk0 | exact pk1 ⟨_, rfl⟩ | exact pk2 ⟨_, rfl⟩ ⟨_, rfl⟩ | exact pk3 ⟨_, rfl⟩ ⟨_, rfl⟩ ⟨_, rfl⟩ | exact pk4 ⟨_, rfl⟩ ⟨_, rfl⟩ ⟨_, rfl⟩ ⟨_, rfl⟩) : Weak cx st st' := Weak.objs hcx m hm hn hkc h.1 h.2.1 hpk h.2.2
theorem Weak.aC {k : Nat} (hcx : CxOk cx k) {st st' : St}
  (h : (∀ p ∈ st'.env, ∃ v, lk st.env p.1 = some v ∧ frz st.hv (kL k (renOf k st.env st'.env)) v = p.2.ren (gL (renOf k st.env st'.env)) ∧ p.2.bel (64 * st'.c) = true) ∧
   (∀ p ∈ st'.H, ∃ o, p.2 = some o ∧ p.1 < 64 * st'.c ∧ o.bel (64 * st'.c) = true ∧ kL k (renOf k st.env st'.env) (gL (renOf k st.env st'.env) p.1) = true ∧ ∃ o', st.hv (gL (renOf k st.env st'.env) p.1) = some o' ∧ o'.frz st.hv (kL k (renOf k st.env st'.env)) = o.ren (gL (renOf k st.env st'.env))) ∧
   (st'.H.map fun p => gL (renOf k st.env st'.env) p.1).Nodup)
  (hm : (renOf k st.env st'.env).all (fun p => Nat.ble k p.1) = true := by exact rfl) (hn : st'.n = st.n := by exact rfl) (hkc : k ≤ st'.c := by exact Nat.le_of_ble_eq_true rfl)
  (hpk : ∀ i, i < k → ∃ o, st.hv i = some o := by first | exact pk0 | exact pk1 ⟨_, rfl⟩ | exact pk2 ⟨_, rfl⟩ ⟨_, rfl⟩ | exact pk3 ⟨_, rfl⟩ ⟨_, rfl⟩ ⟨_, rfl⟩ | exact pk4 ⟨_, rfl⟩ ⟨_, rfl⟩ ⟨_, rfl⟩ ⟨_, rfl⟩) : Weak cx st st' := Weak.oC hcx _ h hm hn hkc hpk
end
end Go.AX
