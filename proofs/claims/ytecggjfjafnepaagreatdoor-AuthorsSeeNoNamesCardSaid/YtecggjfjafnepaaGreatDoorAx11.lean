/- AX, part 11: the contract of a function out of the judgement on its body. -/
import Derived.Test.YtecggjfjafnepaaGreatDoorAx10
set_option linter.unusedSimpArgs false
set_option linter.unusedVariables false
namespace Go.AX
open Go

def enumL {α : Type} : Nat → List α → List (Nat × α)
 | _, [] => []
 | i, x :: xs => (i, x) :: enumL (i + 1) xs
theorem lk_enumL {α : Type} : ∀ (xs : List α) (i t : Nat), lk (enumL i xs) t = if i ≤ t then xs[t - i]? else none
 | [], i, t => by simp [enumL, lk]
 | x :: xs, i, t => by
  simp only [enumL, lk]
  by_cases h : i = t
  ·subst h; simp
  ·rw [if_neg h, lk_enumL xs]
   by_cases h2 : i ≤ t
   ·rw [if_pos (by omega), if_pos h2]
    have : t - i = (t - (i + 1)) + 1 := by omega
    rw [this, List.getElem?_cons_succ]
   ·rw [if_neg (by omega), if_neg h2]

def entry (n : Nat) (as : List V) (os : List O) : St := { n := n, env := enumL 0 as, H := enumL 0 (os.map some), c := os.length }

theorem entry_hv (n : Nat) (as : List V) (os : List O) : (entry n as os).hv = fun i => os[i]? := by
 funext i
 simp only [St.hv, entry, lk_enumL, Nat.zero_le, if_true, Nat.sub_zero, List.getElem?_map]
 cases os[i]? <;> rfl

def RetQ (P : Program) (fn : Func) (k : Nat) (x : V) (os' : List O) : Exit → St → Prop
 | .normal, st => Fin P fn k x os' st
 | .ret, st => Fin P fn k x os' st
 | _, _ => False

def RetI (P : Program) (fn : Func) (k : Nat) {ι : Type} (p : ι → Prop) (x : ι → V) (os' : ι → List O) : Exit → St → Prop
 | .normal, st => ∃ j, p j ∧ Fin P fn k (x j) (os' j) st
 | .ret, st => ∃ j, p j ∧ Fin P fn k (x j) (os' j) st
 | _, _ => False

section
variable {P : Program} {cx : Cx}

theorem load_of_soundV {hv : Nat → Option O} {σ : Nat → Option Loc} {w : World} {ρ : Operand → Value} {t : TypeId} {p : Operand} {r : Res} (hs : SoundV P cx hv σ w ρ ⟨none, .load t p, 0, "", #[], none⟩ r) {a : Addr} (hp : ρ p = .pointer (some a)) :
  ∃ v, (loadVar t a).run P w = .ok v w ∧ RV w (okB cx w hv σ) σ r.v v := by
 obtain ⟨v, hrun, _, hr⟩ := hs
 simp only [execOp, hp, Instr.loadAt, Instr.sureAddr, Sem.run_bind, Sem.run_pure, Result.andThen_ok] at hrun
 cases hl : (loadVar t a).run P w with
 | ok u w' =>
  rw [hl] at hrun
  simp only [Result.andThen_ok] at hrun
  injection hrun with h1 h2
  injection h1 with h1
  subst h1
  subst h2
  exact ⟨u, rfl, hr⟩
 | halt x w' =>
  rw [hl] at hrun
  simp only [Result.andThen_halt] at hrun
  cases hrun

theorem resL_run {st : St} {F : Nat → Prop} {σ : Nat → Option Loc} {a : Act} {w : World} (h : Rel cx st F σ a w) : ∀ (rs : List ResultVar) (acc : Array Value) (l : List V), resL P st.hv st.ev rs = some l →
  ∃ vs : List Value, (rs.foldlM (fun (bs : Array Value) (r : ResultVar) => do
   let s ← (match r with
    | .tmp t => pure (a.tmps.getD t undef)
    | .cell q t => do loadVar t (← asAddr (a.tmps.getD q undef)) : Sem Value)
   pure (bs.push s)) acc).run P w = .ok (acc ++ vs.toArray) w ∧ RVl w (okB cx w st.hv σ) σ l vs
 | [], acc, l, hl => by
  simp only [resL] at hl
  cases hl
  exact ⟨[], by simp, by simp only [RVl]⟩
 | .tmp t :: rs, acc, l, hl => by
  simp only [resL] at hl
  split at hl
  ·rename_i l' hl'
   cases hl
   obtain ⟨vs, h1, h2⟩ := resL_run h rs (acc.push (a.tmps.getD t undef)) l' hl'
   refine ⟨a.tmps.getD t undef :: vs, ?_, ?_⟩
   ·simp only [List.foldlM_cons, Sem.run_bind, Sem.run_pure, Result.andThen_ok]
    rw [h1]
    simp
   ·simp only [RVl]
    exact ⟨_, vs, rfl, h.ev (.tmp t), h2⟩
  ·cases hl
 | .cell q t :: rs, acc, l, hl => by
  simp only [resL] at hl
  split at hl
  ·rename_i x l' id j hx hl' hq
   cases hl
   have hqv := h.ev (.tmp q)
   rw [hq] at hqv
   simp only [RV] at hqv
   obtain ⟨b, K, s, _, hb⟩ := hqv
   obtain ⟨v, hrun, hr⟩ := load_of_soundV (aLoad_soundV h.hr (fun x => h.ev x) (o := ⟨none, .load t (.tmp q), 0, "", #[], none⟩) rfl hx) hb
   obtain ⟨vs, h1, h2⟩ := resL_run h rs (acc.push v) l' hl'
   refine ⟨v :: vs, ?_, ?_⟩
   ·have hb' : a.tmps.getD q undef = .pointer (some ⟨b, j, none⟩) := hb
    have ha : asAddr (.pointer (some ⟨b, j, none⟩)) = (Pure.pure ⟨b, j, none⟩ : Sem Addr) := rfl
    simp only [List.foldlM_cons, Sem.run_bind, hb', ha, Sem.run_pure, Result.andThen_ok, hrun]
    rw [h1]
    simp
   ·simp only [RVl]
    exact ⟨v, vs, rfl, hr, h2⟩
  ·cases hl

theorem results_run {st : St} {F : Nat → Prop} {σ : Nat → Option Loc} {a : Act} {w : World} (h : Rel cx st F σ a w) {fn : Func} {l : List V} (hl : resL P st.hv st.ev fn.results.toList = some l) :
  ∃ v, (results fn a.tmps).run P w = .ok v w ∧ RV w (okB cx w st.hv σ) σ (resV l) v := by
 obtain ⟨vs, h1, h2⟩ := resL_run h fn.results.toList #[] l hl
 refine ⟨if vs.toArray.size = 1 then vs.toArray.getD 0 undef else .tuple vs.toArray, ?_, ?_⟩
 ·unfold results
  rw [Sem.run_bind, Array.mapM_eq_foldlM, ← Array.foldlM_toList]
  have e : (fn.results.toList.foldlM (fun (bs : Array Value) (r : ResultVar) => do
   let s ← (match r with
    | .tmp t => pure (a.tmps.getD t undef)
    | .cell q t => do loadVar t (← asAddr (a.tmps.getD q undef)) : Sem Value)
   pure (bs.push s)) #[]).run P w = .ok (vs.toArray) w := by simpa using h1
  refine Eq.trans (congrArg (fun r => Result.andThen r _) e) ?_
  simp only [Result.andThen_ok, Sem.run_pure]
  congr 1
  split
  ·rename_i hs
   rw [Array.getD_eq_getD_getElem?, Array.getElem?_eq_getElem (by omega)]
   rfl
  ·rfl
 ·have hlen := RVl_length h2
  match l, vs, hlen, h2 with
  | [x], [v], _, h2 =>
   simp only [RVl] at h2
   obtain ⟨u, us, e, hu, _⟩ := h2
   cases e
   simpa [resV] using hu
  | [], [], _, h2 => simp only [resV, RV]; exact ⟨#[], by simp, h2⟩
  | x :: y :: r, u :: v :: s, _, h2 =>
   simp only [resV, RV]
   refine ⟨(u :: v :: s).toArray, by simp, by simpa using h2⟩

/-- What is known of the context of a body. -/
structure CxOk (cx : Cx) (k : Nat) : Prop where
 ps : ∀ i l, cx.ps i = some l → i < k
 pb : ∀ b, cx.pb b → ∃ i K s, i < k ∧ cx.ps i = some (.blk b K s)

theorem DoesI.of_AW {f : FuncId} {fn : Func} {c : Code} {as : List V} {os : List O} {ι : Type} {p : ι → Prop} {xI : ι → V} {osI : ι → List O} {n : Nat} (hf : P.funcs[f]? = some fn) (hb : fn.body = some c) (hname : (fn.name == "runtime.NumGoroutine") = false)
  (hn : as.length + (fn.ntmps - as.length) = n) (h : ∀ cx, CxOk cx os.length → AW P cx c (RetI P fn os.length p xI osI) (entry n as os)) : DoesI P f as os p xI osI := by
 refine ⟨⟨fn, hf, by rw [hb]; rfl, hname⟩, ?_⟩
 intro cx σ w vs hgl hr hfr hp1 hp2 hpb hargs
 have hvl : vs.size = as.length := by simpa using RVl_length hargs
 refine calls_of_wp hf hb ?_
 have hrel : Rel cx (entry n as os) (fun id => (entry n as os).c ≤ id / 64) σ { tmps := vs ++ Array.replicate (fn.ntmps - vs.size) undef, defers := [] } w := by
  constructor
  ·rw [entry_hv]; exact hr
  ·intro id hid; exact hfr id (by simp only [entry] at hid; omega)
  ·exact hp1
  ·simp only [entry, Array.size_append, Array.size_replicate]; omega
  ·rfl
  ·rw [entry_hv]
   intro t y hy
   simp only [entry, lk_enumL, Nat.zero_le, if_true, Nat.sub_zero] at hy
   obtain ⟨v, hv, hrv⟩ := RVl_get hargs hy
   have hlt : t < vs.size := by
    rcases Nat.lt_or_ge t vs.toList.length with h' | h'
    ·simpa using h'
    ·simp [List.getElem?_eq_none h'] at hv
   have e : (vs ++ Array.replicate (fn.ntmps - vs.size) undef).getD t undef = v := by
    have : vs[t]? = some v := by simpa using hv
    simp [Array.getElem?_append_left hlt, this]
   simp only
   rw [e]
   exact hrv
 have hcx : CxOk cx os.length := by
  constructor
  ·intro i l hl
   rcases Nat.lt_or_ge i os.length with h' | h'
   ·exact h'
   ·have := hp1 i l hl
    rw [hfr i h'] at this
    cases this
  ·intro b hb'
   obtain ⟨i, K, s, hi, hs⟩ := hpb b hb'
   exact ⟨i, K, s, hi, hp2 i _ hs⟩
 refine wp_mono (h cx hcx hgl σ _ w hrel) fun e a w' he => ?_
 obtain ⟨st, σ1, hq, hrel1⟩ := he
 have fin : (∃ j, p j ∧ Fin P fn os.length (xI j) (osI j) st) → a.defers = [] ∧ ∃ v, (results fn a.tmps).run P w' = .ok v w' ∧ ∃ j, p j ∧ ∃ v', (Ending.returned v) = .returned v' ∧ ∃ σ', HR cx (hvL (osI j)) σ' w' ∧ (∀ i l, i < os.length → σ i = some l → σ' i = some l) ∧ (∀ i, (osI j).length ≤ i → σ' i = none) ∧ RV w' (okB cx w' (hvL (osI j)) σ') σ' (xI j) v' := by
  rintro ⟨jx, hpj, g, keep, l, h1, h2, h3, halt, h4, h5, h6, h7, h8⟩
  refine ⟨hrel1.defers, ?_⟩
  obtain ⟨v, hrun, hv⟩ := results_run hrel1 h1
  refine ⟨v, hrun, jx, hpj, v, rfl, ?_⟩
  generalize xI jx = x at *
  generalize osI jx = os' at *
  have os'lt : ∀ i o, hvL os' i = some o → i < os'.length := fun i o ho => by
   have ho := (hvL_get ho).1
   rcases Nat.lt_or_ge i os'.length with h' | h'
   ·exact h'
   ·simp [List.getElem?_eq_none h'] at ho
  have hfree : ∀ id o b K s, st.hv id = some o → ¬ keep id = true → σ1 id = some (.blk b K s) → okB cx w' (only st.hv keep) σ1 b := by
   intro id o b K s hid hk hs
   rcases halt with halt | halt
   ·refine okB_freed hrel1.hr ?_ hid hk hs
    intro b hb'
    obtain ⟨i, K, s, hi, hs⟩ := hpb b hb'
    obtain ⟨o1, ho1⟩ := halt i hi
    obtain ⟨hk, o', ho', _⟩ := h3 i o1 ho1
    rw [h5 i hi] at hk ho'
    exact ⟨i, K, s, hk, ⟨o', ho'⟩, hrel1.par i _ (hp2 i _ hs)⟩
   ·exact absurd (halt id) hk
  have fz : ∀ x v, RV w' (okB cx w' st.hv σ1) σ1 x v → RV w' (okB cx w' (only st.hv keep) σ1) σ1 (frz st.hv keep x) v := fun x v r => RV_frzA hrel1.hr (fun _ hb => okB_only hb) hfree x v r
  have fzl : ∀ xs vs, RVl w' (okB cx w' st.hv σ1) σ1 xs vs → RVl w' (okB cx w' (only st.hv keep) σ1) σ1 (frzL st.hv keep xs) vs := fun xs vs r => RVl_frzA hrel1.hr (fun _ hb => okB_only hb) hfree xs vs r
  let σ2 : Nat → Option Loc := fun i => if i < os'.length then σ1 (g i) else none
  have s2 : ∀ i, i < os'.length → σ2 i = σ1 (g i) := fun i hi => by simp [σ2, hi]
  have okc : ∀ b, okB cx w' (only st.hv keep) σ1 b → okB cx w' (hvL os') σ2 b := by
   intro b hb'
   refine ⟨hb'.1, hb'.2.1, fun i o K s ho hs => ?_⟩
   have hi := os'lt i o ho
   rw [s2 i hi] at hs
   obtain ⟨hk, o', ho', _⟩ := h3 i o ho
   exact hb'.2.2 (g i) o' K s (by unfold only; rw [if_pos hk]; exact ho') hs
  have back : ∀ i l, i < os'.length → σ1 (g i) = some l → σ2 i = some l := fun i l hi hs => by rw [s2 i hi]; exact hs
  refine ⟨σ2, ?_, ?_, ?_, ?_⟩
  ·have H := hrel1.hr
   constructor
   ·exact H.os
   ·exact H.tape
   ·exact H.output
   ·exact H.size
   ·exact H.frame
   ·intro i o ho
    have hi := os'lt i o ho
    obtain ⟨hk, o', ho', hoe⟩ := h3 i o ho
    have hro := H.own _ _ ho'
    have hro2 : RO w' (okB cx w' (only st.hv keep) σ1) σ1 (g i) (o'.frz st.hv keep) := by
     cases o' with
     | box e vs =>
      obtain ⟨b, K, s, c, fr, e1, e2, e3, e4⟩ := hro
      exact ⟨b, K, s, c, fr, e1, e2, e3, fzl _ _ e4⟩
     | vec e s xs =>
      rcases hro with ⟨e1, e2⟩ | ⟨b, K, c, fr, e1, e2, e3, e4, e5, e6⟩
      ·exact .inl ⟨e1, by subst e2; simp only [frzL]⟩
      ·exact .inr ⟨b, K, c, fr, e1, e2, e3, e4, by rw [frzL_length]; exact e5, RVels_frzA fz _ _ e6⟩
     | map ks vs =>
      obtain ⟨b, K, s, es, clock, e1, e2, e0, e3, e4, e5⟩ := hro
      exact ⟨b, K, s, es, clock, e1, e2, e0, e3, RDcs_mono (fun b hb => ⟨okB_only hb, rfl⟩) _ _ _ e4, fzl _ _ e5⟩
     | miter x m cur left =>
      obtain ⟨b, K, s, mb, seen, e1, e2, e3, e4⟩ := hro
      exact ⟨b, K, s, mb, seen, e1, e2, fz _ _ e3, e4⟩
     | dead => exact hro.elim
    rw [hoe] at hro2
    exact RO_mono (fun b hb => ⟨okc b hb, rfl⟩) (fun _ _ h => h) (fun _ _ _ _ => rfl) (RO_back back hi (List.all_eq_true.1 h8 o (List.mem_of_getElem? (hvL_get ho).1)) hro2)
   ·intro i o b K s ho hs
    rw [s2 i (os'lt i o ho)] at hs
    obtain ⟨hk, o', ho', _⟩ := h3 i o ho
    exact H.new _ _ b K s ho' hs
   ·intro i j o1 o2 b K s K' s' e1 e2 e3 e4
    have hi := os'lt i _ e1
    have hj := os'lt j _ e2
    rw [s2 i hi] at e3
    rw [s2 j hj] at e4
    obtain ⟨_, o1', f1, _⟩ := h3 i _ e1
    obtain ⟨_, o2', f2, _⟩ := h3 j _ e2
    exact h4 i j hi hj (H.inj _ _ _ _ b K s K' s' f1 f2 e3 e4)
  ·intro i l' hi hs
   rw [s2 i (by omega), h5 i hi]
   exact hrel1.par i _ (hp2 i _ hs)
  ·intro i hi
   simp only [σ2]
   rw [if_neg (by omega)]
  ·have hv2 := fz _ _ hv
   rw [h2] at hv2
   exact RV_mono (fun b hb => ⟨okc b hb, rfl⟩) (fun _ _ h => h) _ _ (RV_back back x v h7 hv2)
 cases e with
 | normal => exact fin hq
 | ret => exact fin hq
 | _ => exact hq.elim
theorem Does.of_AW {f : FuncId} {fn : Func} {c : Code} {as : List V} {os : List O} {x : V} {os' : List O} {n : Nat} (hf : P.funcs[f]? = some fn) (hb : fn.body = some c) (hname : (fn.name == "runtime.NumGoroutine") = false)
  (hn : as.length + (fn.ntmps - as.length) = n) (h : ∀ cx, CxOk cx os.length → AW P cx c (RetQ P fn os.length x os') (entry n as os)) : Does P f as os x os' :=
 (DoesI.of_AW hf hb hname hn fun cx hcx => (h cx hcx).mono fun e st hq => by
  cases e with
  | normal => exact ⟨(), trivial, hq⟩
  | ret => exact ⟨(), trivial, hq⟩
  | _ => exact hq.elim).toU
end
end Go.AX
