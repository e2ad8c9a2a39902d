/- AX, part 9: contracts of functions: renaming, entry and exit. -/
import Derived.Test.YtecggjfjafnepaaGreatDoorAx8
set_option linter.unusedSimpArgs false
set_option linter.unusedVariables false
namespace Go.AX
open Go

mutual
def V.ren (g : Nat → Nat) : V → V
 | .top => .top
 | .k v => .k v
 | .d x => .d x
 | .nils => .nils
 | .agg cs => .agg (renL g cs)
 | .tup cs => .tup (renL g cs)
 | .ptr id j => .ptr (g id) j
 | .pe id i j => .pe (g id) i j
 | .slr id lo n => .slr (g id) lo n
 | .mpr id => .mpr (g id)
 | .fn f cs => .fn f (renL g cs)
def renL (g : Nat → Nat) : List V → List V
 | [] => []
 | x :: xs => x.ren g :: renL g xs
end
def O.ren (g : Nat → Nat) : O → O
 | .box e vs => .box e (renL g vs)
 | .map ks vs => .map ks (renL g vs)
 | .vec e s xs => .vec e s (renL g xs)
 | .miter x n cur left => .miter (x.ren g) n cur left
 | .dead => .dead
mutual
/-- All references are below n. -/
def V.bel (n : Nat) : V → Bool
 | .agg cs => belL n cs
 | .tup cs => belL n cs
 | .ptr id _ => decide (id < n)
 | .pe id _ _ => decide (id < n)
 | .slr id _ _ => decide (id < n)
 | .mpr id => decide (id < n)
 | .fn _ cs => belL n cs
 | _ => true
def belL (n : Nat) : List V → Bool
 | [] => true
 | x :: xs => x.bel n && belL n xs
end
def O.bel (n : Nat) : O → Bool
 | .box _ vs => belL n vs
 | .map _ vs => belL n vs
 | .vec _ _ xs => belL n xs
 | .miter x _ _ _ => x.bel n
 | .dead => true

theorem belL_of_all {n : Nat} : ∀ {as : List V}, as.all (V.bel n) = true → belL n as = true
 | [], _ => rfl
 | a :: as, h => by
  simp only [List.all_cons, Bool.and_eq_true] at h
  simp only [belL, Bool.and_eq_true]
  exact ⟨h.1, belL_of_all h.2⟩
theorem renL_length (g : Nat → Nat) : ∀ xs, (renL g xs).length = xs.length
 | [] => rfl
 | x :: xs => by simp [renL, renL_length g xs]

section
variable {w : World} {ok : Nat → Prop} {σ τ : Nat → Option Loc} {g : Nat → Nat} {n : Nat}
mutual
theorem RV_back (h : ∀ i l, i < n → σ (g i) = some l → τ i = some l) : ∀ (x : V) (v : Value), x.bel n = true → RV w ok σ (x.ren g) v → RV w ok τ x v
 | .top, _, _, _ => by simp only [RV]
 | .k _, _, _, r => by simpa only [RV, V.ren] using r
 | .d x, v, _, r => by simpa only [RV, V.ren] using r
 | .nils, v, _, r => by simpa only [RV, V.ren] using r
 | .agg cs, v, b, r => by
  simp only [RV, V.ren] at r ⊢
  obtain ⟨c, hc, hr⟩ := r
  exact ⟨c, hc, RVl_back h cs _ (by simpa only [V.bel] using b) hr⟩
 | .tup cs, v, b, r => by
  simp only [RV, V.ren] at r ⊢
  obtain ⟨c, hc, hr⟩ := r
  exact ⟨c, hc, RVl_back h cs _ (by simpa only [V.bel] using b) hr⟩
 | .ptr id j, v, b, r => by
  simp only [RV, V.ren, V.bel, decide_eq_true_eq] at r b ⊢
  obtain ⟨q, K, s, h1, h2⟩ := r
  exact ⟨q, K, s, h _ _ b h1, h2⟩
 | .pe id i j, v, b, r => by
  simp only [RV, V.ren, V.bel, decide_eq_true_eq] at r b ⊢
  obtain ⟨q, K, s, h1, h2⟩ := r
  exact ⟨q, K, s, h _ _ b h1, h2⟩
 | .slr id lo m, v, b, r => by
  simp only [RV, V.ren, V.bel, decide_eq_true_eq] at r b ⊢
  rcases r with ⟨h1, h2⟩ | ⟨q, K, s, a, cap, h1, h2⟩
  ·exact .inl ⟨h _ _ b h1, h2⟩
  ·exact .inr ⟨q, K, s, a, cap, h _ _ b h1, h2⟩
 | .mpr id, v, b, r => by
  simp only [RV, V.ren, V.bel, decide_eq_true_eq] at r b ⊢
  obtain ⟨q, K, s, h1, h2⟩ := r
  exact ⟨q, K, s, h _ _ b h1, h2⟩
 | .fn f cs, v, b, r => by
  simp only [RV, V.ren] at r ⊢
  obtain ⟨c, hc, hr⟩ := r
  exact ⟨c, hc, RVl_back h cs _ (by simpa only [V.bel] using b) hr⟩
theorem RVl_back (h : ∀ i l, i < n → σ (g i) = some l → τ i = some l) : ∀ (xs : List V) (vs : List Value), belL n xs = true → RVl w ok σ (renL g xs) vs → RVl w ok τ xs vs
 | [], vs, _, r => by simpa only [RVl, renL] using r
 | x :: xs, vs, b, r => by
  simp only [RVl, renL] at r ⊢
  simp only [belL, Bool.and_eq_true] at b
  obtain ⟨u, us, rfl, hu, hus⟩ := r
  exact ⟨u, us, rfl, RV_back h x u b.1 hu, RVl_back h xs us b.2 hus⟩
end
mutual
theorem RV_forth (h : ∀ i l, i < n → τ i = some l → σ (g i) = some l) : ∀ (x : V) (v : Value), x.bel n = true → RV w ok τ x v → RV w ok σ (x.ren g) v
 | .top, _, _, _ => by simp only [RV, V.ren]
 | .k _, _, _, r => by simpa only [RV, V.ren] using r
 | .d x, v, _, r => by simpa only [RV, V.ren] using r
 | .nils, v, _, r => by simpa only [RV, V.ren] using r
 | .agg cs, v, b, r => by
  simp only [RV, V.ren] at r ⊢
  obtain ⟨c, hc, hr⟩ := r
  exact ⟨c, hc, RVl_forth h cs _ (by simpa only [V.bel] using b) hr⟩
 | .tup cs, v, b, r => by
  simp only [RV, V.ren] at r ⊢
  obtain ⟨c, hc, hr⟩ := r
  exact ⟨c, hc, RVl_forth h cs _ (by simpa only [V.bel] using b) hr⟩
 | .ptr id j, v, b, r => by
  simp only [RV, V.ren, V.bel, decide_eq_true_eq] at r b ⊢
  obtain ⟨q, K, s, h1, h2⟩ := r
  exact ⟨q, K, s, h _ _ b h1, h2⟩
 | .pe id i j, v, b, r => by
  simp only [RV, V.ren, V.bel, decide_eq_true_eq] at r b ⊢
  obtain ⟨q, K, s, h1, h2⟩ := r
  exact ⟨q, K, s, h _ _ b h1, h2⟩
 | .slr id lo m, v, b, r => by
  simp only [RV, V.ren, V.bel, decide_eq_true_eq] at r b ⊢
  rcases r with ⟨h1, h2⟩ | ⟨q, K, s, a, cap, h1, h2⟩
  ·exact .inl ⟨h _ _ b h1, h2⟩
  ·exact .inr ⟨q, K, s, a, cap, h _ _ b h1, h2⟩
 | .mpr id, v, b, r => by
  simp only [RV, V.ren, V.bel, decide_eq_true_eq] at r b ⊢
  obtain ⟨q, K, s, h1, h2⟩ := r
  exact ⟨q, K, s, h _ _ b h1, h2⟩
 | .fn f cs, v, b, r => by
  simp only [RV, V.ren] at r ⊢
  obtain ⟨c, hc, hr⟩ := r
  exact ⟨c, hc, RVl_forth h cs _ (by simpa only [V.bel] using b) hr⟩
theorem RVl_forth (h : ∀ i l, i < n → τ i = some l → σ (g i) = some l) : ∀ (xs : List V) (vs : List Value), belL n xs = true → RVl w ok τ xs vs → RVl w ok σ (renL g xs) vs
 | [], vs, _, r => by simpa only [RVl, renL] using r
 | x :: xs, vs, b, r => by
  simp only [RVl, renL] at r ⊢
  simp only [belL, Bool.and_eq_true] at b
  obtain ⟨u, us, rfl, hu, hus⟩ := r
  exact ⟨u, us, rfl, RV_forth h x u b.1 hu, RVl_forth h xs us b.2 hus⟩
end
theorem RVels_back (h : ∀ i l, i < n → σ (g i) = some l → τ i = some l) (c : Array Value) (s : Nat) : ∀ (p : Nat) (xs : List V), belL n xs = true → RVels w ok σ c s p (renL g xs) → RVels w ok τ c s p xs
 | _, [], _, _ => by simp only [RVels]
 | p, x :: xs, b, r => by
  simp only [RVels, renL] at r ⊢
  simp only [belL, Bool.and_eq_true] at b
  obtain ⟨⟨v, hv, hr⟩, hrest⟩ := r
  exact ⟨⟨v, hv, RV_back h x v b.1 hr⟩, RVels_back h c s (p + s) xs b.2 hrest⟩
theorem RVels_forth (h : ∀ i l, i < n → τ i = some l → σ (g i) = some l) (c : Array Value) (s : Nat) : ∀ (p : Nat) (xs : List V), belL n xs = true → RVels w ok τ c s p xs → RVels w ok σ c s p (renL g xs)
 | _, [], _, _ => by simp only [RVels, renL]
 | p, x :: xs, b, r => by
  simp only [RVels, renL] at r ⊢
  simp only [belL, Bool.and_eq_true] at b
  obtain ⟨⟨v, hv, hr⟩, hrest⟩ := r
  exact ⟨⟨v, hv, RV_forth h x v b.1 hr⟩, RVels_forth h c s (p + s) xs b.2 hrest⟩
theorem RO_back (h : ∀ i l, i < n → σ (g i) = some l → τ i = some l) {i : Nat} (hi : i < n) {o : O} (b : o.bel n = true) (r : RO w ok σ (g i) (o.ren g)) : RO w ok τ i o := by
 cases o with
 | box e vs =>
  obtain ⟨q, K, s, c, fr, h1, h2, h3, h4⟩ := r
  exact ⟨q, K, s, c, fr, h _ _ hi h1, h2, h3, RVl_back h _ _ (by simpa only [O.bel] using b) h4⟩
 | vec e s xs =>
  rcases r with ⟨h1, h2⟩ | ⟨q, K, c, fr, h1, h2, h3, h4, h5, h6⟩
  ·exact .inl ⟨h _ _ hi h1, by cases xs with | nil => rfl | cons => simp [renL] at h2⟩
  ·exact .inr ⟨q, K, c, fr, h _ _ hi h1, h2, h3, h4, by simpa [renL_length] using h5, RVels_back h _ _ _ _ (by simpa only [O.bel] using b) h6⟩
 | map ks vs =>
  obtain ⟨q, K, s, es, clock, h1, h2, h0, h3, h4, h5⟩ := r
  exact ⟨q, K, s, es, clock, h _ _ hi h1, h2, h0, h3, h4, RVl_back h _ _ (by simpa only [O.bel] using b) h5⟩
 | miter x m cur left =>
  obtain ⟨q, K, s, mb, seen, h1, h2, h3, h4⟩ := r
  exact ⟨q, K, s, mb, seen, h _ _ hi h1, h2, RV_back h _ _ (by simpa only [O.bel] using b) h3, h4⟩
 | dead => exact r.elim
theorem RO_forth (h : ∀ i l, i < n → τ i = some l → σ (g i) = some l) {i : Nat} (hi : i < n) {o : O} (b : o.bel n = true) (r : RO w ok τ i o) : RO w ok σ (g i) (o.ren g) := by
 cases o with
 | box e vs =>
  obtain ⟨q, K, s, c, fr, h1, h2, h3, h4⟩ := r
  exact ⟨q, K, s, c, fr, h _ _ hi h1, h2, h3, RVl_forth h _ _ (by simpa only [O.bel] using b) h4⟩
 | vec e s xs =>
  rcases r with ⟨h1, h2⟩ | ⟨q, K, c, fr, h1, h2, h3, h4, h5, h6⟩
  ·exact .inl ⟨h _ _ hi h1, by subst h2; rfl⟩
  ·exact .inr ⟨q, K, c, fr, h _ _ hi h1, h2, h3, h4, by simpa [renL_length] using h5, RVels_forth h _ _ _ _ (by simpa only [O.bel] using b) h6⟩
 | map ks vs =>
  obtain ⟨q, K, s, es, clock, h1, h2, h0, h3, h4, h5⟩ := r
  exact ⟨q, K, s, es, clock, h _ _ hi h1, h2, h0, h3, h4, RVl_forth h _ _ (by simpa only [O.bel] using b) h5⟩
 | miter x m cur left =>
  obtain ⟨q, K, s, mb, seen, h1, h2, h3, h4⟩ := r
  exact ⟨q, K, s, mb, seen, h _ _ hi h1, h2, RV_forth h _ _ (by simpa only [O.bel] using b) h3, h4⟩
 | dead => exact r.elim
theorem RO_some {i : Nat} {o : O} (r : RO w ok σ i o) : ∃ l, σ i = some l := by
 cases o with
 | box e vs => obtain ⟨q, K, s, c, fr, h1, _⟩ := r; exact ⟨_, h1⟩
 | vec e s xs => rcases r with ⟨h1, _⟩ | ⟨q, K, c, fr, h1, _⟩ <;> exact ⟨_, h1⟩
 | map ks vs => obtain ⟨q, K, s, es, clock, h1, _⟩ := r; exact ⟨_, h1⟩
 | miter x m cur left => obtain ⟨q, K, s, mb, seen, h1, _⟩ := r; exact ⟨_, h1⟩
 | dead => exact r.elim
end

/-- A living object. -/
def O.lv : O → Option O
 | .dead => none
 | o => some o
/-- The objects of a list; one that is dead is none. -/
def hvL (os : List O) (i : Nat) : Option O := (os[i]?).bind O.lv
theorem lv_some {o q : O} (h : o.lv = some q) : q = o ∧ o ≠ .dead := by
 cases o <;> simp [O.lv] at h <;> subst h <;> simp
theorem lv_of {o : O} (h : o ≠ .dead) : o.lv = some o := by
 cases o <;> simp [O.lv] at h ⊢
theorem hvL_get {os : List O} {i : Nat} {o : O} (h : hvL os i = some o) : os[i]? = some o ∧ o ≠ .dead := by
 unfold hvL at h
 cases hq : os[i]? with
 | none => rw [hq] at h; cases h
 | some q =>
  rw [hq] at h
  obtain ⟨rfl, hne⟩ := lv_some (show q.lv = some o from h)
  exact ⟨rfl, hne⟩
theorem hvL_of {os : List O} {i : Nat} {o : O} (h : os[i]? = some o) (hne : o ≠ .dead) : hvL os i = some o := by
 unfold hvL
 rw [h]
 exact lv_of hne
theorem ren_dead {g : Nat → Nat} {o : O} : o.ren g = .dead ↔ o = .dead := by
 cases o <;> simp [O.ren]

/-- THE CONTRACT OF A FUNCTION: handed these abstract values and the objects 'os' (by their numbers), it returns x and leaves the objects as os' (behind them, at most, new ones). -/
def Does (P : Program) (f : FuncId) (as : List V) (os : List O) (x : V) (os' : List O) : Prop :=
 Enters P f ∧ ∀ (cx : Cx) (σ : Nat → Option Loc) (w : World) (vs : Array Value), Gl P cx → HR cx (fun i => os[i]?) σ w → (∀ i, os.length ≤ i → σ i = none) → (∀ i l, cx.ps i = some l → σ i = some l) → (∀ i l, σ i = some l → cx.ps i = some l) →
  (∀ b, cx.pb b → ∃ i K s, i < os.length ∧ σ i = some (.blk b K s)) →
  RVl w (okB cx w (fun i => os[i]?) σ) σ as vs.toList →
  Calls P f vs w fun e w' => ∃ v, e = .returned v ∧ ∃ σ', HR cx (hvL os') σ' w' ∧ (∀ i l, i < os.length → σ i = some l → σ' i = some l) ∧ (∀ i, os'.length ≤ i → σ' i = none) ∧ RV w' (okB cx w' (hvL os') σ') σ' x v

/-- THE SAME, of which only this is known: for some i of which p holds, it returns x i and leaves the objects as os' i. -/
def DoesI (P : Program) (f : FuncId) (as : List V) (os : List O) {ι : Type} (p : ι → Prop) (x : ι → V) (os' : ι → List O) : Prop :=
 Enters P f ∧ ∀ (cx : Cx) (σ : Nat → Option Loc) (w : World) (vs : Array Value), Gl P cx → HR cx (fun i => os[i]?) σ w → (∀ i, os.length ≤ i → σ i = none) → (∀ i l, cx.ps i = some l → σ i = some l) → (∀ i l, σ i = some l → cx.ps i = some l) →
  (∀ b, cx.pb b → ∃ i K s, i < os.length ∧ σ i = some (.blk b K s)) →
  RVl w (okB cx w (fun i => os[i]?) σ) σ as vs.toList →
  Calls P f vs w fun e w' => ∃ j, p j ∧ ∃ v, e = .returned v ∧ ∃ σ', HR cx (hvL (os' j)) σ' w' ∧ (∀ i l, i < os.length → σ i = some l → σ' i = some l) ∧ (∀ i, (os' j).length ≤ i → σ' i = none) ∧ RV w' (okB cx w' (hvL (os' j)) σ') σ' (x j) v
theorem Does.toI {P : Program} {f : FuncId} {as : List V} {os : List O} {x : V} {os' : List O} (h : Does P f as os x os') : DoesI P f as os (fun _ : Unit => True) (fun _ => x) (fun _ => os') :=
 ⟨h.1, fun cx σ w vs a b c d e f g => (h.2 cx σ w vs a b c d e f g).mono fun _ _ h => ⟨(), trivial, h⟩⟩
theorem DoesI.toU {P : Program} {f : FuncId} {as : List V} {os : List O} {x : V} {os' : List O} (h : DoesI P f as os (fun _ : Unit => True) (fun _ => x) (fun _ => os')) : Does P f as os x os' :=
 ⟨h.1, fun cx σ w vs a b c d e f g => (h.2 cx σ w vs a b c d e f g).mono fun _ _ ⟨_, _, h⟩ => h⟩
/-- Less is known. -/
theorem DoesI.weaken {P : Program} {f : FuncId} {as : List V} {os : List O} {ι κ : Type} {p : ι → Prop} {x : ι → V} {os' : ι → List O} {q : κ → Prop} {y : κ → V} {os2 : κ → List O} (h : DoesI P f as os p x os')
  (hw : ∀ i, p i → ∃ j, q j ∧ y j = x i ∧ os2 j = os' i) : DoesI P f as os q y os2 :=
 ⟨h.1, fun cx σ w vs a b c d e f g => (h.2 cx σ w vs a b c d e f g).mono fun _ _ ⟨i, hp, h⟩ => by obtain ⟨j, hq, e1, e2⟩ := hw i hp; exact ⟨j, hq, by rw [e1, e2]; exact h⟩⟩

/-- The updates that a call makes in its caller. -/
def updsOf (g : Nat → Nat) : Nat → List O → List (Nat × Option O)
 | _, [] => []
 | i, o :: os => (g i, (o.ren g).lv) :: updsOf g (i + 1) os

theorem lk_updsOf (g : Nat → Nat) : ∀ (os : List O) (i id : Nat) (o : Option O), lk (updsOf g i os) id = some o → ∃ j q, os[j]? = some q ∧ id = g (i + j) ∧ o = (q.ren g).lv
 | [], _, _, _, h => by simp [updsOf, lk] at h
 | q :: os, i, id, o, h => by
  simp only [updsOf, lk] at h
  split at h
  ·rename_i e
   cases h
   exact ⟨0, q, rfl, e.symm, rfl⟩
  ·obtain ⟨j, q', h1, h2, h3⟩ := lk_updsOf g os (i + 1) id o h
   refine ⟨j + 1, q', by simpa using h1, ?_, h3⟩
   have : i + 1 + j = i + (j + 1) := by omega
   rw [← this]; exact h2
theorem lk_updsOf_none (g : Nat → Nat) : ∀ (os : List O) (i id : Nat), lk (updsOf g i os) id = none → ∀ j, j < os.length → id ≠ g (i + j)
 | [], _, _, _, j, hj => by simp at hj
 | q :: os, i, id, h, j, hj => by
  simp only [updsOf, lk] at h
  split at h
  ·cases h
  ·rename_i e
   cases j with
   | zero => exact fun h' => e h'.symm
   | succ j =>
    have := lk_updsOf_none g os (i + 1) id h j (by simpa using hj)
    have e2 : i + 1 + j = i + (j + 1) := by omega
    rw [← e2]; exact this

/-- The numbers in the caller: of what was handed in, and, in the window n, of what is new. -/
def gOf (ids : List Nat) (n : Nat) (i : Nat) : Nat := match ids[i]? with
 | some id => id
 | none => 64 * n + (i - ids.length)

theorem CallStepI.of_does {P : Program} {f : FuncId} {as : List V} {os : List O} {ι : Type} {p : ι → Prop} {xI : ι → V} {osI : ι → List O} (hd : DoesI P f as os p xI osI) {hv : Nat → Option O} {nid : Nat} (ids : List Nat) (hl : ids.length = os.length) (hnd : ids.Nodup)
  (hids : ∀ i o, os[i]? = some o → hv (gOf ids nid i) = some (o.ren (gOf ids nid))) (hbel : as.all (V.bel os.length) = true) (hbo : os.all (O.bel os.length) = true)
  (hI : ∀ j, p j → os.length ≤ (osI j).length ∧ (osI j).length ≤ os.length + 64 ∧ (xI j).bel (osI j).length = true ∧ (osI j).all (O.bel (osI j).length) = true) :
  CallStepI P hv nid f (renL (gOf ids nid) as) p (fun j => (xI j).ren (gOf ids nid)) (fun j => updsOf (gOf ids nid) 0 (osI j)) := by
 intro cx σ w vs hgl h hn hargs
 generalize hg : gOf ids nid = g at *
 have gi : ∀ i, i < os.length → g i = ids[i]?.getD nid := fun i hi => by
  rw [← hg]; unfold gOf; rw [List.getElem?_eq_getElem (show i < ids.length by omega)]; rfl
 have gk : ∀ i, os.length ≤ i → g i = 64 * nid + (i - os.length) := fun i hi => by rw [← hg]; simp [gOf, List.getElem?_eq_none (show ids.length ≤ i by omega), hl]
 have hvne : ∀ id o, hv id = some o → id / 64 ≠ nid := fun id o ho e => by
  rw [hv_none_of_fresh h (hn id e)] at ho
  cases ho
 have gid : ∀ i, i < os.length → ∃ o, os[i]? = some o ∧ hv (g i) = some (o.ren g) := fun i hi => ⟨os[i], List.getElem?_eq_getElem hi, by
  exact hids i _ (List.getElem?_eq_getElem hi)⟩
 have ginj : ∀ i j, i < os.length → j < os.length → g i = g j → i = j := by
  intro i j hi hj e
  rw [gi i hi, gi j hj, List.getElem?_eq_getElem (by omega), List.getElem?_eq_getElem (by omega)] at e
  simp at e
  exact (List.getElem_inj hnd).1 e
 have gne : ∀ i, i < os.length → g i / 64 ≠ nid := by
  intro i hi
  obtain ⟨o, _, h2⟩ := gid i hi
  exact hvne _ _ h2
 let σ0 : Nat → Option Loc := fun i => if i < os.length then σ (g i) else none
 have s0 : ∀ i, i < os.length → σ0 i = σ (g i) := fun i hi => by simp [σ0, hi]
 have s0' : ∀ i, os.length ≤ i → σ0 i = none := fun i hi => by simp [σ0]; omega
 have oslt : ∀ i o, os[i]? = some o → i < os.length := fun i o ho => by
  rcases Nat.lt_or_ge i os.length with h' | h'
  ·exact h'
  ·simp [List.getElem?_eq_none h'] at ho
 let cx' : Cx := ⟨w, fun b => ∃ i o K s, os[i]? = some o ∧ σ0 i = some (.blk b K s), okB cx w hv σ, σ0⟩
 have ok0 : ∀ b, okB cx w hv σ b → okB cx' w (fun i => os[i]?) σ0 b := by
  intro b hb
  refine ⟨.inl hb, hb.2.1, fun i o K s ho => ?_⟩
  have hi := oslt i o ho
  rw [s0 i hi]
  obtain ⟨o', _, h2⟩ := gid i hi
  exact hb.2.2 _ _ K s h2
 have hback : ∀ i l, i < os.length → σ (g i) = some l → σ0 i = some l := fun i l hi hs => by rw [s0 i hi]; exact hs
 have hr0 : HR cx' (fun i => os[i]?) σ0 w := by
  constructor
  ·rfl
  ·rfl
  ·rfl
  ·exact Nat.le_refl _
  ·intro b _ _; rfl
  ·intro i o ho
   have hi := oslt i o ho
   obtain ⟨o', h1, h2⟩ := gid i hi
   rw [ho] at h1
   cases h1
   have hbo1 : o.bel os.length = true := List.all_eq_true.1 hbo o (List.mem_of_getElem? ho)
   exact RO_mono (fun b hb => ⟨ok0 b hb, rfl⟩) (fun _ _ h => h) (fun _ _ _ _ => rfl) (RO_back hback hi hbo1 (h.own _ _ h2))
  ·intro i o b K s ho hs
   have hi := oslt i o ho
   obtain ⟨o', _, h2⟩ := gid i hi
   refine ⟨.inr ⟨i, o, K, s, ho, hs⟩, ?_⟩
   rw [s0 i hi] at hs
   exact (h.new _ _ b K s h2 hs).2
  ·intro i j o o' b K s K' s' h1 h2 h3 h4
   have hi := oslt i o h1
   have hj := oslt j o' h2
   rw [s0 i hi] at h3
   rw [s0 j hj] at h4
   obtain ⟨_, _, e1⟩ := gid i hi
   obtain ⟨_, _, e2⟩ := gid j hj
   exact ginj i j hi hj (h.inj _ _ _ _ b K s K' s' e1 e2 h3 h4)
 have hargs0 : RVl w (okB cx' w (fun i => os[i]?) σ0) σ0 as vs.toList := by
  exact RVl_mono (fun b hb => ⟨ok0 b hb, rfl⟩) (fun _ _ h => h) _ _ (RVl_back hback as _ (belL_of_all hbel) hargs)
 have hgl' : Gl P cx' := by
  intro q k hq
  obtain ⟨h1, h2⟩ := hgl.inner h hq
  refine ⟨?_, h1, h2⟩
  rintro ⟨i, o, K, s, ho, hs⟩
  have hi := oslt i o ho
  rw [s0 i hi] at hs
  obtain ⟨_, _, e⟩ := gid i hi
  exact h1.2.2 _ _ K s e hs
 refine .inl ⟨hd.1, (hd.2 cx' σ0 w vs hgl' hr0 s0' (fun _ _ h => h) (fun _ _ h => h) (fun b ⟨i, o, K, s, ho, hs⟩ => ⟨i, K, s, oslt i o ho, hs⟩) hargs0).mono fun e w' he => ?_⟩
 obtain ⟨ix, hpx, v, rfl, σ', h1, h2, h3, h4⟩ := he
 obtain ⟨hl', hl2, hbx, hbo'⟩ := hI ix hpx
 refine ⟨v, rfl, ix, hpx, ?_⟩
 simp only
 generalize xI ix = x at *
 generalize osI ix = os' at *
 clear hargs hargs0
 have os'lt : ∀ i o, hvL os' i = some o → i < os'.length := fun i o ho => by
  have ho := (hvL_get ho).1
  rcases Nat.lt_or_ge i os'.length with h' | h'
  ·exact h'
  ·simp [List.getElem?_eq_none h'] at ho
 -- the old numbers keep their places
 have keep : ∀ i, i < os.length → σ' i = σ (g i) := by
  intro i hi
  obtain ⟨o, _, e⟩ := gid i hi
  obtain ⟨l, hl⟩ := RO_some (h.own _ _ e)
  rw [hl]
  exact h2 i l hi (by rw [s0 i hi]; exact hl)
 let σn : Nat → Option Loc := fun id => if id / 64 = nid then (if os.length + (id - 64 * nid) < os'.length then σ' (os.length + (id - 64 * nid)) else none) else σ id
 have n_old : ∀ id, id / 64 ≠ nid → σn id = σ id := fun id hid => by simp [σn, hid]
 have ext : ∀ id l, σ id = some l → σn id = some l := by
  intro id l hs
  rw [n_old id (fun e => by rw [hn id e] at hs; cases hs)]
  exact hs
 have n_g : ∀ i, i < os'.length → σn (g i) = σ' i := by
  intro i hi
  rcases Nat.lt_or_ge i os.length with h' | h'
  ·rw [n_old _ (gne i h'), keep i h']
  ·have e1 : g i / 64 = nid := by rw [gk i h']; omega
   have e2 : os.length + (g i - 64 * nid) = i := by rw [gk i h']; omega
   simp only [σn, e1, if_true, e2, hi]
 have ginj' : ∀ i j, i < os'.length → j < os'.length → g i = g j → i = j := by
  intro i j hi hj e
  rcases Nat.lt_or_ge i os.length with h' | h' <;> rcases Nat.lt_or_ge j os.length with h'' | h''
  ·exact ginj i j h' h'' e
  ·have := gne i h'; rw [e, gk j h''] at this; omega
  ·have := gne j h''; rw [← e, gk i h'] at this; omega
  ·rw [gk i h', gk j h''] at e; omega
 -- a block of an object behind the call is one that was handed in, or new
 have newblk : ∀ i o b K s, hvL os' i = some o → σ' i = some (.blk b K s) → (∃ j, j < os.length ∧ ∃ K' s', σ (g j) = some (.blk b K' s')) ∨ w.heap.size ≤ b := by
  intro i o b K s ho hs
  rcases (h1.new i o b K s ho hs).1 with hb | ⟨j, o', K', s', hj, hsj⟩
  ·exact .inr hb
  ·left
   have hjl := oslt j o' hj
   exact ⟨j, hjl, K', s', by rw [← s0 j hjl]; exact hsj⟩
 -- who is own behind the call
 have who : ∀ id o, app hv (updsOf g 0 os') id = some o → (∃ j q, hvL os' j = some q ∧ id = g j ∧ o = q.ren g) ∨ (hv id = some o ∧ ∀ j, j < os'.length → id ≠ g j) := by
  intro id o ho
  unfold app at ho
  split at ho
  ·rename_i q hq
   obtain ⟨j, q', e1, e2, e3⟩ := lk_updsOf g os' 0 id q hq
   rw [Nat.zero_add] at e2
   rw [e3] at ho
   obtain ⟨rfl, hne⟩ := lv_some ho
   exact .inl ⟨j, q', hvL_of e1 (fun e => hne (ren_dead.2 e)), e2, rfl⟩
  ·rename_i hq
   refine .inr ⟨ho, fun j hj => ?_⟩
   have := lk_updsOf_none g os' 0 id hq j hj
   rwa [Nat.zero_add] at this
 have notpb : ∀ b, b < w.heap.size → (∀ i o K s, os[i]? = some o → σ (g i) ≠ some (.blk b K s)) → w'.heap[b]? = w.heap[b]? := by
  intro b hb hne
  refine h1.frame b hb ?_
  rintro ⟨i, o, K, s, ho, hs⟩
  have hi := oslt i o ho
  rw [s0 i hi] at hs
  exact hne i o K s ho hs
 have okold : ∀ b, okB cx w hv σ b → okB cx w' (app hv (updsOf g 0 os')) σn b ∧ w'.heap[b]? = w.heap[b]? := by
  intro b hb
  have hsame := notpb b hb.2.1 (fun i o K s ho => by
   obtain ⟨_, _, e⟩ := gid i (oslt i o ho)
   exact hb.2.2 _ _ K s e)
  refine ⟨⟨hb.1, ?_, ?_⟩, hsame⟩
  ·have := h1.size; exact Nat.lt_of_lt_of_le hb.2.1 this
  ·intro id o K s ho hs
   rcases who id o ho with ⟨j, q, e1, rfl, e3⟩ | ⟨e1, e2⟩
   ·have hj := os'lt j q e1
    rw [n_g j hj] at hs
    rcases newblk j q b K s e1 hs with ⟨j', hj', K', s', hs'⟩ | hb'
    ·obtain ⟨_, _, e⟩ := gid j' hj'
     exact hb.2.2 _ _ K' s' e hs'
    ·have := hb.2.1; omega
   ·rw [n_old id (hvne _ _ e1)] at hs
    exact hb.2.2 id o K s e1 hs
 have oknew : ∀ b, okB cx' w' (hvL os') σ' b → okB cx w' (app hv (updsOf g 0 os')) σn b := by
  intro b hb
  rcases hb.1 with hb1 | hb1
  ·exact (okold b hb1).1
  ·refine ⟨.inr (Nat.le_trans h.size hb1), hb.2.1, ?_⟩
   intro id o K s ho hs
   rcases who id o ho with ⟨j, q, e1, rfl, e3⟩ | ⟨e1, e2⟩
   ·rw [n_g j (os'lt j q e1)] at hs
    exact hb.2.2 j q K s e1 hs
   ·rw [n_old id (hvne _ _ e1)] at hs
    have := (h.new id o b K s e1 hs).2
    simp only [cx'] at hb1
    omega
 have forth : ∀ i l, i < os'.length → σ' i = some l → σn (g i) = some l := fun i l hi hs => by rw [n_g i hi]; exact hs
 refine ⟨σn, ?_, fun id hid => n_old id hid, ext, okold, ?_⟩
 ·constructor
  ·rw [h1.os]; exact h.os
  ·rw [h1.tape]; exact h.tape
  ·rw [h1.output]; exact h.output
  ·exact Nat.le_trans h.size h1.size
  ·intro b hb hp
   rw [notpb b (Nat.lt_of_lt_of_le hb h.size)]
   ·exact h.frame b hb hp
   ·intro i o K s ho hs
    obtain ⟨_, _, e⟩ := gid i (oslt i o ho)
    rcases (h.new _ _ b K s e hs).1 with h' | h'
    ·omega
    ·exact hp h'
  ·intro id o ho
   rcases who id o ho with ⟨j, q, e1, rfl, rfl⟩ | ⟨e1, e2⟩
   ·have hbq : q.bel os'.length = true := List.all_eq_true.1 hbo' q (List.mem_of_getElem? (hvL_get e1).1)
    exact RO_mono (fun b hb => ⟨oknew b hb, rfl⟩) (fun _ _ h => h) (fun _ _ _ _ => rfl) (RO_forth forth (os'lt j q e1) hbq (h1.own j q e1))
   ·refine RO_mono okold ext ?_ (h.own id o e1)
    intro b K s hs
    refine notpb b (h.new id o b K s e1 hs).2 ?_
    intro i o' K' s' ho' hs'
    obtain ⟨_, _, e⟩ := gid i (oslt i o' ho')
    exact e2 i (by have := oslt i o' ho'; omega) (h.inj id (g i) _ _ b K s K' s' e1 e hs hs')
  ·intro id o b K s ho hs
   rcases who id o ho with ⟨j, q, e1, rfl, rfl⟩ | ⟨e1, e2⟩
   ·rw [n_g j (os'lt j q e1)] at hs
    refine ⟨?_, (h1.new j q b K s e1 hs).2⟩
    rcases newblk j q b K s e1 hs with ⟨j', hj, K', s', hs'⟩ | hb
    ·obtain ⟨_, _, e⟩ := gid j' hj
     exact (h.new _ _ b K' s' e hs').1
    ·exact .inl (Nat.le_trans h.size hb)
   ·rw [n_old id (hvne _ _ e1)] at hs
    have := h.new id o b K s e1 hs
    exact ⟨this.1, Nat.lt_of_lt_of_le this.2 h1.size⟩
  ·intro id id' o o' b K s K' s' ho ho' hs hs'
   rcases who id o ho with ⟨j, q, e1, rfl, rfl⟩ | ⟨e1, e2⟩ <;> rcases who id' o' ho' with ⟨j', q', e1', rfl, rfl⟩ | ⟨e1', e2'⟩
   ·rw [n_g j (os'lt j q e1)] at hs
    rw [n_g j' (os'lt j' q' e1')] at hs'
    rw [h1.inj j j' q q' b K s K' s' e1 e1' hs hs']
   ·rw [n_g j (os'lt j q e1)] at hs
    rw [n_old id' (hvne _ _ e1')] at hs'
    exfalso
    rcases newblk j q b K s e1 hs with ⟨j2, hj, K2, s2, hs2⟩ | hb
    ·obtain ⟨_, _, e⟩ := gid j2 hj
     exact e2' j2 (by omega) (h.inj id' (g j2) _ _ b K' s' K2 s2 e1' e hs' hs2)
    ·have := (h.new id' o' b K' s' e1' hs').2; omega
   ·rw [n_g j' (os'lt j' q' e1')] at hs'
    rw [n_old id (hvne _ _ e1)] at hs
    exfalso
    rcases newblk j' q' b K' s' e1' hs' with ⟨j2, hj, K2, s2, hs2⟩ | hb
    ·obtain ⟨_, _, e⟩ := gid j2 hj
     exact e2 j2 (by omega) (h.inj id (g j2) _ _ b K s K2 s2 e1 e hs hs2)
    ·have := (h.new id o b K s e1 hs).2; omega
   ·rw [n_old id (hvne _ _ e1)] at hs
    rw [n_old id' (hvne _ _ e1')] at hs'
    exact h.inj id id' o o' b K s K' s' e1 e1' hs hs'
 ·exact RV_mono (fun b hb => ⟨oknew b hb, rfl⟩) (fun _ _ h => h) _ _ (RV_forth forth x v hbx h4)
theorem CallStep.of_does {P : Program} {f : FuncId} {as : List V} {os : List O} {x : V} {os' : List O} (hd : Does P f as os x os') {hv : Nat → Option O} {nid : Nat} (ids : List Nat) (hl : ids.length = os.length) (hnd : ids.Nodup)
  (hids : ∀ i o, os[i]? = some o → hv (gOf ids nid i) = some (o.ren (gOf ids nid))) (hl' : os.length ≤ os'.length) (hl2 : os'.length ≤ os.length + 64)
  (hbel : as.all (V.bel os.length) = true) (hbo : os.all (O.bel os.length) = true) (hbx : x.bel os'.length = true) (hbo' : os'.all (O.bel os'.length) = true) :
  CallStep P hv nid f (renL (gOf ids nid) as) (x.ren (gOf ids nid)) (updsOf (gOf ids nid) 0 os') :=
 (CallStepI.of_does hd.toI ids hl hnd hids hbel hbo fun _ _ => ⟨hl', hl2, hbx, hbo'⟩).toU
end Go.AX
