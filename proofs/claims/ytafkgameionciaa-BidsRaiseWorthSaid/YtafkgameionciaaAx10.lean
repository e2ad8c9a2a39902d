/- AX, part 10: from the judgement on a body to the function's contract; weakening of states. -/
import Derived.Test.YtafkgameionciaaAx9
namespace Go.AX
open Go

mutual
/-- What is not kept is data from now on. -/
def frz (hv : Nat → Option O) (keep : Nat → Bool) : V → V
  | .slr id lo n => if keep id = true then .slr id lo n else match hv id with
    | some (.vec _ _ xs) => if lo + n ≤ xs.length then .d (.sl ((xs.drop lo).take n)) else .top
    | _ => .top
  | .mpr id => if keep id = true then .mpr id else match hv id with
    | some (.map ks vs) => .d (.map ks vs)
    | _ => .top
  | .ptr id j => if keep id = true then .ptr id j else match hv id with
    | some (.box vs) => match pureL vs with
      | some ds => .d (.ptr ds j)
      | none => .top
    | _ => .top
  | .pe id i j => if keep id = true then .pe id i j else .top
  | .agg cs => mkAgg (frzL hv keep cs)
  | .tup cs => .tup (frzL hv keep cs)
  | .fn f cs => .fn f (frzL hv keep cs)
  | .top => .top
  | .d x => .d x
  | .nils => .nils
def frzL (hv : Nat → Option O) (keep : Nat → Bool) : List V → List V
  | [] => []
  | x :: xs => frz hv keep x :: frzL hv keep xs
end

def O.frz (hv : Nat → Option O) (keep : Nat → Bool) : O → O
  | .box vs => .box (frzL hv keep vs)
  | o => o

section
variable {cx : Cx} {hv : Nat → Option O} {σ : Nat → Option Loc} {w : World} {keep : Nat → Bool}

theorem RDels_part {ok : Nat → Prop} {c : Array Value} {s : Nat} {xs : List D} {p : Nat} (h : RDels w ok c s p xs) (lo n : Nat) : RDels w ok c s (p + lo * s) ((xs.drop lo).take n) := by
  refine RDels_of fun i x hx => ?_
  rw [List.getElem?_take] at hx
  split at hx
  · rw [List.getElem?_drop] at hx
    have := RDels_get h hx
    rw [Nat.add_mul, ← Nat.add_assoc] at this
    exact this
  · cases hx

/-- The view of what is kept. -/
def only (hv : Nat → Option O) (keep : Nat → Bool) : Nat → Option O := fun id => if keep id = true then hv id else none

theorem okB_only {b : Nat} (hb : okB cx w hv σ b) : okB cx w (only hv keep) σ b := by
  refine ⟨hb.1, hb.2.1, fun id o K s ho => ?_⟩
  unfold only at ho
  split at ho
  · exact hb.2.2 id o K s ho
  · cases ho

theorem okB_freed (h : HR cx hv σ w) (hpb : ∀ b, cx.pb b → ∃ i K s, keep i = true ∧ (∃ o, hv i = some o) ∧ σ i = some (.blk b K s)) {id : Nat} {o : O} (hid : hv id = some o) (hk : ¬ keep id = true) {b K s : Nat} (hs : σ id = some (.blk b K s)) :
    okB cx w (only hv keep) σ b := by
  have hn := h.new id o b K s hid hs
  refine ⟨?_, hn.2, fun id' o' K' s' ho' hs' => ?_⟩
  · rcases hn.1 with h' | h'
    · exact .inr h'
    · obtain ⟨i, K', s', h1, ⟨o', h2⟩, h3⟩ := hpb b h'
      have := h.inj id i o o' b K s K' s' hid h2 hs h3
      subst this
      exact absurd h1 hk
  · unfold only at ho'
    split at ho'
    · rename_i hk'
      have := h.inj id' id o' o b K' s' K s ho' hid hs' hs
      subst this
      exact hk hk'
    · cases ho'

mutual
theorem RV_frzA (h : HR cx hv σ w) {okN : Nat → Prop} (hok : ∀ b, okB cx w hv σ b → okN b) (hfree : ∀ id o b K s, hv id = some o → ¬ keep id = true → σ id = some (.blk b K s) → okN b) :
    ∀ (x : V) (v : Value), RV w (okB cx w hv σ) σ x v → RV w okN σ (frz hv keep x) v
  | .top, _, _ => by simp only [frz, RV]
  | .d x, v, r => by
    simp only [frz, RV] at r ⊢
    exact RD_mono (fun b hb => ⟨hok b hb, rfl⟩) x v r
  | .nils, v, r => by simpa only [frz, RV] using r
  | .agg cs, v, r => by
    simp only [RV] at r
    obtain ⟨c, rfl, hr⟩ := r
    simp only [frz]
    exact RV_mkAgg (RVl_frzA h hok hfree cs _ hr)
  | .tup cs, v, r => by
    simp only [RV] at r
    obtain ⟨c, rfl, hr⟩ := r
    simp only [frz, RV]
    exact ⟨c, rfl, RVl_frzA h hok hfree cs _ hr⟩
  | .fn f cs, v, r => by
    simp only [RV] at r
    obtain ⟨c, rfl, hr⟩ := r
    simp only [frz, RV]
    exact ⟨c, rfl, RVl_frzA h hok hfree cs _ hr⟩
  | .ptr id j, v, r => by
    simp only [frz]
    split
    · simpa only [RV] using r
    · rename_i hk
      split
      · rename_i vs hid
        split
        · rename_i ds hds
          simp only [RV] at r
          obtain ⟨b, K, s, hs, rfl⟩ := r
          obtain ⟨b', K', s', c, e, fr, hs', hb, hf, hc⟩ := h.own id _ hid
          rw [hs] at hs'
          cases hs'
          simp only [RV, RD]
          refine ⟨b, 0, c, e, fr, by simp, hfree _ _ _ _ _ hid hk hs, hb, ?_⟩
          obtain ⟨_, hg⟩ := pureL_spec hds (RVl_mono (fun b hb => ⟨hok b hb, rfl⟩) (fun _ _ h => h) _ _ hc)
          exact RDcs_of fun i x hx => by simpa using hg i x hx
        · simp only [RV]
      · simp only [RV]
  | .pe id i j, v, r => by
    simp only [frz]
    split
    · simpa only [RV] using r
    · simp only [RV]
  | .slr id lo n, v, r => by
    simp only [frz]
    split
    · simpa only [RV] using r
    · rename_i hk
      split
      · rename_i e s0 xs hid
        split
        case isFalse => simp only [RV]
        rename_i hle
        simp only [RV] at r
        simp only [RV, RD]
        rcases r with ⟨hs, rfl, rfl, rfl⟩ | ⟨b, K, s, a, cap, hs, rfl, hn, hK, ha⟩
        · refine ⟨none, 0, 0, rfl, by simp, Nat.le_refl _, .inl (by simp)⟩
        · have ho := h.own id _ hid
          simp only [RO] at ho
          rcases ho with ⟨h', _⟩ | ⟨b', K', c, fr, hs', hb, hf, hcs, hxl, hel⟩
          · rw [hs] at h'; cases h'
          rw [hs] at hs'
          cases hs'
          refine ⟨some a, n, cap, rfl, by simp; omega, hn, ?_⟩
          by_cases h0 : n = 0
          · left; subst h0; simp
          right
          rcases ha with ha | ha
          · omega
          subst ha
          refine ⟨b, lo * s0, c, e, fr, s0, rfl, hfree _ _ _ _ _ hid hk hs, hb, ?_⟩
          have := RDels_part (RDels_mono (fun b hb => ⟨hok b hb, rfl⟩) _ _ _ _ hel) lo n
          rwa [Nat.zero_add] at this
      · simp only [RV]
  | .mpr id, v, r => by
    simp only [frz]
    split
    · simpa only [RV] using r
    · rename_i hk
      split
      · rename_i ks vs hid
        simp only [RV] at r
        obtain ⟨b, K, s, hs, rfl⟩ := r
        obtain ⟨b', K', s', es, clock, hs', hb, h1, h2, h3, h4⟩ := h.own id _ hid
        rw [hs] at hs'
        cases hs'
        simp only [RV, RD]
        exact ⟨some b, rfl, .inr ⟨b, es, clock, rfl, hfree _ _ _ _ _ hid hk hs, hb, h1, h2, RDcs_mono (fun b hb => ⟨hok b hb, rfl⟩) _ _ _ h3, RDcs_mono (fun b hb => ⟨hok b hb, rfl⟩) _ _ _ h4⟩⟩
      · simp only [RV]
theorem RVl_frzA (h : HR cx hv σ w) {okN : Nat → Prop} (hok : ∀ b, okB cx w hv σ b → okN b) (hfree : ∀ id o b K s, hv id = some o → ¬ keep id = true → σ id = some (.blk b K s) → okN b) :
    ∀ (xs : List V) (vs : List Value), RVl w (okB cx w hv σ) σ xs vs → RVl w okN σ (frzL hv keep xs) vs
  | [], vs, r => by simpa only [frzL, RVl] using r
  | x :: xs, vs, r => by
    simp only [frzL, RVl] at r ⊢
    obtain ⟨u, us, rfl, hu, hus⟩ := r
    exact ⟨u, us, rfl, RV_frzA h hok hfree x u hu, RVl_frzA h hok hfree xs us hus⟩
end
theorem RV_frz (h : HR cx hv σ w) (hpb : ∀ b, cx.pb b → ∃ i K s, keep i = true ∧ (∃ o, hv i = some o) ∧ σ i = some (.blk b K s)) (x : V) (v : Value) (r : RV w (okB cx w hv σ) σ x v) : RV w (okB cx w (only hv keep) σ) σ (frz hv keep x) v :=
  RV_frzA h (fun _ hb => okB_only hb) (fun _ _ _ _ _ hid hk hs => okB_freed h hpb hid hk hs) x v r
theorem RVl_frz (h : HR cx hv σ w) (hpb : ∀ b, cx.pb b → ∃ i K s, keep i = true ∧ (∃ o, hv i = some o) ∧ σ i = some (.blk b K s)) (xs : List V) (vs : List Value) (r : RVl w (okB cx w hv σ) σ xs vs) : RVl w (okB cx w (only hv keep) σ) σ (frzL hv keep xs) vs :=
  RVl_frzA h (fun _ hb => okB_only hb) (fun _ _ _ _ _ hid hk hs => okB_freed h hpb hid hk hs) xs vs r
end

/-- The values of the results. -/
def resL (P : Program) (hv : Nat → Option O) (ev : Operand → V) : List ResultVar → Option (List V)
  | [] => some []
  | .tmp t :: r => match resL P hv ev r with
    | some l => some (ev (.tmp t) :: l)
    | none => none
  | .cell a t :: r => match aLoad P hv t (ev (.tmp a)), resL P hv ev r, ev (.tmp a) with
    | some x, some l, .ptr _ _ => some (x.v :: l)
    | _, _, _ => none
def resV : List V → V
  | [v] => v
  | vs => .tup vs

/-- The end of a body. -/
def Fin (P : Program) (fn : Func) (k : Nat) (x : V) (os' : List O) (st : St) : Prop :=
  ∃ (g : Nat → Nat) (keep : Nat → Bool) (l : List V), resL P st.hv st.ev fn.results.toList = some l ∧ frz st.hv keep (resV l) = x.ren g ∧
    (∀ i o, os'[i]? = some o → keep (g i) = true ∧ ∃ o', st.hv (g i) = some o' ∧ o'.frz st.hv keep = o.ren g) ∧
    (∀ i j, i < os'.length → j < os'.length → g i = g j → i = j) ∧ (∀ i, i < k → g i = i) ∧ k ≤ os'.length ∧ x.bel os'.length = true ∧ os'.all (O.bel os'.length) = true
end Go.AX
