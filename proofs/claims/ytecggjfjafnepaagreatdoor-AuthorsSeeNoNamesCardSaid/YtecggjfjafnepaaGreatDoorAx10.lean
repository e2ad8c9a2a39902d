/- AX, part 10: from the judgement on a body to the function's contract; weakening of states. -/
import Derived.Test.YtecggjfjafnepaaGreatDoorAx9
set_option linter.unusedSimpArgs false
set_option linter.unusedVariables false
namespace Go.AX
open Go

def toDL (f : V → Option D) : List V → Option (List D)
 | [] => some []
 | x :: xs => match f x, toDL f xs with
  | some d, some ds => some (d :: ds)
  | _, _ => none
/-- The datum that a value is, once what it refers to is data. -/
def toD (hv : Nat → Option O) (keep : Nat → Bool) : Nat → V → Option D
 | 0, _ => none
 | n + 1, x => match x with
  | .d x => some x
  | .nils => some (.sl [])
  | .slr id lo m => if keep id = true then none else match hv id with
   | some (.vec _ _ xs) => if lo + m ≤ xs.length then (match toDL (toD hv keep n) ((xs.drop lo).take m) with
    | some ds => some (.sl ds)
    | none => none) else none
   | _ => none
  | .mpr id => if keep id = true then none else match hv id with
   | some (.map ks vs) => match toDL (toD hv keep n) vs with
    | some ds => some (.map ks ds)
    | none => none
   | _ => none
  | .ptr id j => if keep id = true then none else match hv id with
   | some (.box _ vs) => match toDL (toD hv keep n) vs with
    | some ds => some (.ptr ds j)
    | none => none
   | _ => none
  | .agg cs => match toDL (toD hv keep n) cs with
   | some ds => some (.agg ds)
   | none => none
  | _ => none

mutual
/-- What is not kept is data from now on. -/
def frz (hv : Nat → Option O) (keep : Nat → Bool) : V → V
 | .slr id lo n => if keep id = true then .slr id lo n else match toD hv keep 8 (.slr id lo n) with
  | some d => .d d
  | none => .top
 | .mpr id => if keep id = true then .mpr id else match toD hv keep 8 (.mpr id) with
  | some d => .d d
  | none => .top
 | .ptr id j => if keep id = true then .ptr id j else match toD hv keep 8 (.ptr id j) with
  | some d => .d d
  | none => .top
 | .pe id i j => if keep id = true then .pe id i j else .top
 | .agg cs => mkAgg (frzL hv keep cs)
 | .tup cs => .tup (frzL hv keep cs)
 | .fn f cs => .fn f (frzL hv keep cs)
 | .top => .top
 | .k v => .k v
 | .d x => .d x
 | .nils => .nils
def frzL (hv : Nat → Option O) (keep : Nat → Bool) : List V → List V
 | [] => []
 | x :: xs => frz hv keep x :: frzL hv keep xs
end

def O.frz (hv : Nat → Option O) (keep : Nat → Bool) : O → O
 | .box e vs => .box e (frzL hv keep vs)
 | .map ks vs => .map ks (frzL hv keep vs)
 | .vec e s xs => .vec e s (frzL hv keep xs)
 | .miter x n cur left => .miter (Go.AX.frz hv keep x) n cur left
 | .dead => .dead

section
variable {cx : Cx} {hv : Nat → Option O} {σ : Nat → Option Loc} {w : World} {keep : Nat → Bool}

theorem RVels_part {ok : Nat → Prop} {c : Array Value} {s : Nat} {xs : List V} {p : Nat} (h : RVels w ok σ c s p xs) (lo n : Nat) : RVels w ok σ c s (p + lo * s) ((xs.drop lo).take n) := RVels_take (RVels_drop h lo) n

/-- The view of what is kept. -/
def only (hv : Nat → Option O) (keep : Nat → Bool) : Nat → Option O := fun id => if keep id = true then hv id else none

theorem okB_only {b : Nat} (hb : okB cx w hv σ b) : okB cx w (only hv keep) σ b := by
 refine ⟨hb.1, hb.2.1, fun id o K s ho => ?_⟩
 unfold only at ho
 split at ho
 ·exact hb.2.2 id o K s ho
 ·cases ho

theorem okB_freed (h : HR cx hv σ w) (hpb : ∀ b, cx.pb b → ∃ i K s, keep i = true ∧ (∃ o, hv i = some o) ∧ σ i = some (.blk b K s)) {id : Nat} {o : O} (hid : hv id = some o) (hk : ¬ keep id = true) {b K s : Nat} (hs : σ id = some (.blk b K s)) :
  okB cx w (only hv keep) σ b := by
 have hn := h.new id o b K s hid hs
 refine ⟨?_, hn.2, fun id' o' K' s' ho' hs' => ?_⟩
 ·rcases hn.1 with h' | h'
  ·exact .inr h'
  ·obtain ⟨i, K', s', h1, ⟨o', h2⟩, h3⟩ := hpb b h'
   have := h.inj id i o o' b K s K' s' hid h2 hs h3
   subst this
   exact absurd h1 hk
 ·unfold only at ho'
  split at ho'
  ·rename_i hk'
   have := h.inj id' id o' o b K' s' K s ho' hid hs' hs
   subst this
   exact hk hk'
  ·cases ho'

theorem toDL_spec {f : V → Option D} {ok okN : Nat → Prop} (hf : ∀ x d v, f x = some d → RV w ok σ x v → RD w okN d v) : ∀ (xs : List V) (ds : List D) (vs : List Value), toDL f xs = some ds → RVl w ok σ xs vs →
  ds.length = vs.length ∧ ∀ (i : Nat) (x : D), ds[i]? = some x → ∃ v, vs[i]? = some v ∧ RD w okN x v
 | [], ds, vs, h, r => by
  simp only [toDL] at h
  cases h
  simp only [RVl] at r
  subst r
  simp
 | x :: xs, ds, vs, h, r => by
  simp only [toDL] at h
  split at h
  ·rename_i d es hd hes
   cases h
   simp only [RVl] at r
   obtain ⟨u, us, rfl, hu, hus⟩ := r
   obtain ⟨h1, h2⟩ := toDL_spec hf xs es us hes hus
   refine ⟨by simp [h1], fun i y hy => ?_⟩
   cases i with
   | zero => simp at hy; subst hy; exact ⟨u, rfl, hf _ _ _ hd hu⟩
   | succ i => simpa using h2 i y (by simpa using hy)
  ·cases h

theorem toDL_els {f : V → Option D} {ok okN : Nat → Prop} {c : Array Value} {s : Nat} (hf : ∀ x d v, f x = some d → RV w ok σ x v → RD w okN d v) : ∀ (xs : List V) (ds : List D) (p : Nat), toDL f xs = some ds → RVels w ok σ c s p xs →
  ds.length = xs.length ∧ RDels w okN c s p ds
 | [], ds, p, h, r => by
  simp only [toDL] at h
  cases h
  exact ⟨rfl, by simp only [RDels]⟩
 | x :: xs, ds, p, h, r => by
  simp only [toDL] at h
  split at h
  ·rename_i d es hd hes
   cases h
   simp only [RVels] at r
   obtain ⟨⟨v, hv, hr⟩, hrest⟩ := r
   obtain ⟨h1, h2⟩ := toDL_els hf xs es (p + s) hes hrest
   refine ⟨by simp [h1], ?_⟩
   simp only [RDels]
   exact ⟨⟨v, hv, hf _ _ _ hd hr⟩, h2⟩
  ·cases h
theorem toDL_len {f : V → Option D} : ∀ (xs : List V) (ds : List D), toDL f xs = some ds → ds.length = xs.length
 | [], ds, h => by simp only [toDL] at h; cases h; rfl
 | x :: xs, ds, h => by
  simp only [toDL] at h
  split at h
  ·rename_i d es hd hes
   cases h
   simp [toDL_len xs es hes]
  ·cases h
theorem RVels_frzA {okN : Nat → Prop} {c : Array Value} {s : Nat} (hf : ∀ x v, RV w (okB cx w hv σ) σ x v → RV w okN σ (frz hv keep x) v) : ∀ (xs : List V) (p : Nat), RVels w (okB cx w hv σ) σ c s p xs → RVels w okN σ c s p (frzL hv keep xs)
 | [], p, _ => by simp only [frzL, RVels]
 | x :: xs, p, r => by
  simp only [frzL, RVels] at r ⊢
  obtain ⟨⟨v, hv', hr⟩, hrest⟩ := r
  exact ⟨⟨v, hv', hf x v hr⟩, RVels_frzA hf xs (p + s) hrest⟩
theorem frzL_length : ∀ xs : List V, (frzL hv keep xs).length = xs.length
 | [] => by simp only [frzL]
 | x :: xs => by simp only [frzL, List.length_cons, frzL_length xs]

theorem toD_spec (h : HR cx hv σ w) {okN : Nat → Prop} (hok : ∀ b, okB cx w hv σ b → okN b) (hfree : ∀ id o b K s, hv id = some o → ¬ keep id = true → σ id = some (.blk b K s) → okN b) :
  ∀ (n : Nat) (x : V) (d : D) (v : Value), toD hv keep n x = some d → RV w (okB cx w hv σ) σ x v → RD w okN d v
 | 0, _, _, _, hd, _ => by simp [toD] at hd
 | n + 1, x, d, v, hd, r => by
  have ih := toD_spec h hok hfree n
  have dat : ∀ y u, RD w (okB cx w hv σ) y u → RD w okN y u := fun y u hy => RD_mono (fun b hb => ⟨hok b hb, rfl⟩) y u hy
  cases x with
  | d y =>
   simp only [toD] at hd
   cases hd
   simp only [RV] at r
   exact dat _ _ r
  | nils =>
   simp only [toD] at hd
   cases hd
   simp only [RV] at r
   subst r
   simp only [RD]
   exact ⟨none, 0, 0, rfl, rfl, Nat.le_refl _, .inl (by trivial)⟩
  | agg cs =>
   simp only [toD] at hd
   split at hd
   ·rename_i ds hds
    cases hd
    simp only [RV] at r
    obtain ⟨c, rfl, hc⟩ := r
    obtain ⟨h1, h2⟩ := toDL_spec ih cs ds _ hds hc
    simp only [RD]
    refine ⟨c, rfl, by simpa using h1.symm, RDcs_of fun i y hy => ?_⟩
    simpa using h2 i y hy
   ·cases hd
  | slr id lo m =>
   simp only [toD] at hd
   split at hd
   ·cases hd
   rename_i hk
   split at hd
   ·rename_i e s0 xs hid
    split at hd
    case isFalse => cases hd
    rename_i hle
    split at hd
    case h_2 => cases hd
    rename_i ds hds
    cases hd
    have hdl := toDL_len _ _ hds
    simp only [RV] at r
    simp only [RD]
    rcases r with ⟨hs, rfl, rfl, a, rfl⟩ | ⟨b, K, s, a, cap, hs, rfl, hn, hK, ha⟩
    ·simp at hdl
     subst hdl
     refine ⟨a, 0, 0, rfl, by simp, Nat.le_refl _, .inl (by simp)⟩
    ·have ho := h.own id _ hid
     simp only [RO] at ho
     rcases ho with ⟨h', _⟩ | ⟨b', K', c, fr, hs', hb, hf, hcs, hxl, hel⟩
     ·rw [hs] at h'; cases h'
     rw [hs] at hs'
     cases hs'
     refine ⟨some a, m, cap, rfl, by rw [hdl]; simp; omega, hn, ?_⟩
     by_cases h0 : m = 0
     ·left; subst h0; simpa using hdl
     right
     rcases ha with ha | ha
     ·omega
     subst ha
     refine ⟨b, lo * s0, c, e, fr, s0, rfl, hfree _ _ _ _ _ hid hk hs, hb, ?_⟩
     have := (toDL_els ih _ _ _ hds (RVels_part hel lo m)).2
     rwa [Nat.zero_add] at this
   ·cases hd
  | mpr id =>
   simp only [toD] at hd
   split at hd
   ·cases hd
   rename_i hk
   split at hd
   ·rename_i ks vs hid
    split at hd
    ·rename_i ds hds
     cases hd
     simp only [RV] at r
     obtain ⟨b, K, s, hs, rfl⟩ := r
     obtain ⟨b', K', s', es, clock, hs', hb, h0, h1, h3, h4⟩ := h.own id _ hid
     rw [hs] at hs'
     cases hs'
     obtain ⟨e1, e2⟩ := toDL_spec ih vs ds _ hds h4
     simp only [RD]
     refine ⟨some b, rfl, .inr ⟨b, es, clock, rfl, hfree _ _ _ _ _ hid hk hs, hb, h0, h1, by simpa using e1.symm, RDcs_mono (fun b hb => ⟨hok b hb, rfl⟩) _ _ _ h3, RDcs_of fun i y hy => ?_⟩⟩
     simpa using e2 i y hy
    ·cases hd
   ·cases hd
  | ptr id j =>
   simp only [toD] at hd
   split at hd
   ·cases hd
   rename_i hk
   split at hd
   ·rename_i e vs hid
    split at hd
    ·rename_i ds hds
     cases hd
     simp only [RV] at r
     obtain ⟨b, K, s, hs, rfl⟩ := r
     obtain ⟨b', K', s', c, fr, hs', hb, hf, hc⟩ := h.own id _ hid
     rw [hs] at hs'
     cases hs'
     obtain ⟨e1, e2⟩ := toDL_spec ih vs ds _ hds hc
     simp only [RD]
     refine ⟨b, 0, c, e, fr, by simp, hfree _ _ _ _ _ hid hk hs, hb, RDcs_of fun i y hy => ?_⟩
     simpa using e2 i y hy
    ·cases hd
   ·cases hd
  | _ => simp [toD] at hd

mutual
theorem RV_frzA (h : HR cx hv σ w) {okN : Nat → Prop} (hok : ∀ b, okB cx w hv σ b → okN b) (hfree : ∀ id o b K s, hv id = some o → ¬ keep id = true → σ id = some (.blk b K s) → okN b) :
  ∀ (x : V) (v : Value), RV w (okB cx w hv σ) σ x v → RV w okN σ (frz hv keep x) v
 | .top, _, _ => by simp only [frz, RV]
 | .k _, _, r => by simpa only [frz, RV] using r
 | .d x, v, r => by
  simp only [frz, RV] at r ⊢
  exact RD_mono (fun b hb => ⟨hok b hb, rfl⟩) x v r
 | .nils, v, r => by simpa only [frz, RV] using r
 | .agg cs, v, r => by
  simp only [RV] at r
  obtain ⟨c, rfl, hr⟩ := r
  simp only [frz]
  exact RV_mkAgg (RVl_frzA h hok hfree cs _ hr)
 | .tup cs, v, r => by
  simp only [RV] at r
  obtain ⟨c, rfl, hr⟩ := r
  simp only [frz, RV]
  exact ⟨c, rfl, RVl_frzA h hok hfree cs _ hr⟩
 | .fn f cs, v, r => by
  simp only [RV] at r
  obtain ⟨c, rfl, hr⟩ := r
  simp only [frz, RV]
  exact ⟨c, rfl, RVl_frzA h hok hfree cs _ hr⟩
 | .ptr id j, v, r => by
  simp only [frz]
  split
  ·simpa only [RV] using r
  ·split
   ·rename_i d hd
    simp only [RV]
    exact toD_spec h hok hfree _ _ _ _ hd r
   ·simp only [RV]
 | .pe id i j, v, r => by
  simp only [frz]
  split
  ·simpa only [RV] using r
  ·simp only [RV]
 | .slr id lo n, v, r => by
  simp only [frz]
  split
  ·simpa only [RV] using r
  ·split
   ·rename_i d hd
    simp only [RV]
    exact toD_spec h hok hfree _ _ _ _ hd r
   ·simp only [RV]
 | .mpr id, v, r => by
  simp only [frz]
  split
  ·simpa only [RV] using r
  ·split
   ·rename_i d hd
    simp only [RV]
    exact toD_spec h hok hfree _ _ _ _ hd r
   ·simp only [RV]
theorem RVl_frzA (h : HR cx hv σ w) {okN : Nat → Prop} (hok : ∀ b, okB cx w hv σ b → okN b) (hfree : ∀ id o b K s, hv id = some o → ¬ keep id = true → σ id = some (.blk b K s) → okN b) :
  ∀ (xs : List V) (vs : List Value), RVl w (okB cx w hv σ) σ xs vs → RVl w okN σ (frzL hv keep xs) vs
 | [], vs, r => by simpa only [frzL, RVl] using r
 | x :: xs, vs, r => by
  simp only [frzL, RVl] at r ⊢
  obtain ⟨u, us, rfl, hu, hus⟩ := r
  exact ⟨u, us, rfl, RV_frzA h hok hfree x u hu, RVl_frzA h hok hfree xs us hus⟩
end
theorem RV_frz (h : HR cx hv σ w) (hpb : ∀ b, cx.pb b → ∃ i K s, keep i = true ∧ (∃ o, hv i = some o) ∧ σ i = some (.blk b K s)) (x : V) (v : Value) (r : RV w (okB cx w hv σ) σ x v) : RV w (okB cx w (only hv keep) σ) σ (frz hv keep x) v :=
 RV_frzA h (fun _ hb => okB_only hb) (fun _ _ _ _ _ hid hk hs => okB_freed h hpb hid hk hs) x v r
theorem RVl_frz (h : HR cx hv σ w) (hpb : ∀ b, cx.pb b → ∃ i K s, keep i = true ∧ (∃ o, hv i = some o) ∧ σ i = some (.blk b K s)) (xs : List V) (vs : List Value) (r : RVl w (okB cx w hv σ) σ xs vs) : RVl w (okB cx w (only hv keep) σ) σ (frzL hv keep xs) vs :=
 RVl_frzA h (fun _ hb => okB_only hb) (fun _ _ _ _ _ hid hk hs => okB_freed h hpb hid hk hs) xs vs r
end

/-- The values of the results. -/
def resL (P : Program) (hv : Nat → Option O) (ev : Operand → V) : List ResultVar → Option (List V)
 | [] => some []
 | .tmp t :: r => match resL P hv ev r with
  | some l => some (ev (.tmp t) :: l)
  | none => none
 | .cell a t :: r => match aLoad P hv t (ev (.tmp a)), resL P hv ev r, ev (.tmp a) with
  | some x, some l, .ptr _ _ => some (x.v :: l)
  | _, _, _ => none
def resV : List V → V
 | [v] => v
 | vs => .tup vs

/-- The end of a body. -/
def Fin (P : Program) (fn : Func) (k : Nat) (x : V) (os' : List O) (st : St) : Prop :=
 ∃ (g : Nat → Nat) (keep : Nat → Bool) (l : List V), resL P st.hv st.ev fn.results.toList = some l ∧ frz st.hv keep (resV l) = x.ren g ∧
  (∀ i o, hvL os' i = some o → keep (g i) = true ∧ ∃ o', st.hv (g i) = some o' ∧ o'.frz st.hv keep = o.ren g) ∧ ((∀ i, i < k → ∃ o, hvL os' i = some o) ∨ ∀ i, keep i = true) ∧
  (∀ i j, i < os'.length → j < os'.length → g i = g j → i = j) ∧ (∀ i, i < k → g i = i) ∧ k ≤ os'.length ∧ x.bel os'.length = true ∧ os'.all (O.bel os'.length) = true
end Go.AX
