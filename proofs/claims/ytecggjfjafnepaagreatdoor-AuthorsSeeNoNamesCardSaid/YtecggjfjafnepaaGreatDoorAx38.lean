/- AX, part 38: rows of one's own as a family, of any kind and length. -/
import Derived.Test.YtecggjfjafnepaaGreatDoorAx34
set_option linter.unusedSimpArgs false
set_option linter.unusedVariables false
namespace Go.AX
open Go
/-- The check of a drawn region, the order ahead of the conflicts. -/
def regOk2 (ops : Array Oper) (tr : List Tr) : Bool :=
 let b := befOf ops.toList []
 (ops.toList.zipIdx.all fun (o, i) => o.after.toList.all fun e => !Region.binds .any e || decide (e.on < i)) &&
 (ops.toList.zip tr).zipIdx.all fun (oj, j) => ((ops.toList.zip tr).take j).zipIdx.all fun (oi, i) => (b.getD j 0).testBit i || !confl ops oi.1 oj.1 oi.2 oj.2
theorem regOk_swap {ops : Array Oper} {tr : List Tr} (h : regOk2 ops tr = true) : regOk ops tr = true := by
 unfold regOk2 at h
 unfold regOk
 simp only [Bool.or_comm] at h ⊢
 exact h
/-- How the rows of some elements lie: the row, its type and size, the element's value. -/
structure RowS (γ : Type) where
 row : γ → List D
 e : TypeId
 s : Nat
 val : γ → V → V
/-- The reference of a row; an empty one has no object. -/
def rref (B : Nat) : List D → V
 | [] => .nils
 | x :: xs => .slr B 0 (x :: xs).length
def IsRf (v : V) : Prop := v = .nils ∨ ∃ i a n, v = .slr i a n
theorem rref_rf (B : Nat) (xs : List D) : IsRf (rref B xs) := by
 cases xs with
 | nil => exact .inl rfl
 | cons x xs => exact .inr ⟨_, _, _, rfl⟩
theorem rref_pos {B : Nat} {xs : List D} (h : xs ≠ []) : rref B xs = .slr B 0 xs.length := by
 cases xs with
 | nil => exact absurd rfl h
 | cons x xs => rfl
structure RowS.Ok {γ : Type} (R : RowS γ) : Prop where
 frz : ∀ hv g v, IsRf v → Go.AX.frz hv (fun _ => true) (R.val g v) = R.val g v
 ren : ∀ f g v, (R.val g v).ren f = R.val g (v.ren f)
 bel : ∀ n g v, (R.val g v).bel n = v.bel n
section
variable {γ : Type} (R : RowS γ)
def rowsV : Nat → List γ → List V
 | _, [] => []
 | B, g :: r => R.val g (rref B (R.row g)) :: rowsV (B + 1) r
def rowH (B : Nat) : List D → List (Nat × Option O)
 | [] => []
 | x :: xs => [(B, some (.vec R.e R.s (dv (x :: xs))))]
def rowsH : Nat → List γ → List (Nat × Option O)
 | _, [] => []
 | B, g :: r => rowH R B (R.row g) ++ rowsH (B + 1) r
theorem rowsV_nil (B : Nat) : rowsV R B [] = [] := rfl
theorem rowsH_nil (B : Nat) : rowsH R B [] = [] := rfl
theorem rowsV_len : ∀ (gs : List γ) (B : Nat), (rowsV R B gs).length = gs.length
 | [], _ => rfl
 | g :: r, B => by simp [rowsV, rowsV_len r]
theorem rowsV_get : ∀ (gs : List γ) (B j : Nat), (rowsV R B gs)[j]? = (gs[j]?).map fun g => R.val g (rref (B + j) (R.row g))
 | [], _, _ => by simp [rowsV]
 | g :: r, B, 0 => by simp [rowsV]
 | g :: r, B, j + 1 => by
  simp only [rowsV, List.getElem?_cons_succ]
  rw [rowsV_get r (B + 1) j, show B + 1 + j = B + (j + 1) by omega]
theorem rowsV_app1 : ∀ (gs : List γ) (B : Nat) (g : γ), rowsV R B (gs ++ [g]) = rowsV R B gs ++ [R.val g (rref (B + gs.length) (R.row g))]
 | [], B, g => by simp [rowsV]
 | h :: r, B, g => by
  simp only [List.cons_append, rowsV]
  rw [rowsV_app1 r (B + 1) g, show B + 1 + r.length = B + (h :: r).length by simp only [List.length_cons]; omega]
theorem rowH_lk {B : Nat} {xs : List D} (h : xs ≠ []) : lk (rowH R B xs) B = some (some (.vec R.e R.s (dv xs))) := by
 cases xs with
 | nil => exact absurd rfl h
 | cons x xs => simp [rowH, lk]
theorem rowH_lk_no {B id : Nat} {xs : List D} (h : id ≠ B) : lk (rowH R B xs) id = none := by
 cases xs with
 | nil => rfl
 | cons x xs => simp [rowH, lk, Ne.symm h]
theorem rowsH_lk : ∀ {gs : List γ} {B j : Nat} {g : γ}, gs[j]? = some g → R.row g ≠ [] → lk (rowsH R B gs) (B + j) = some (some (.vec R.e R.s (dv (R.row g))))
 | [], _, _, _, h, _ => by simp at h
 | y :: r, B, 0, g, h, hn => by
  simp only [List.getElem?_cons_zero, Option.some.injEq] at h
  subst h
  simp only [rowsH, lk_app, Nat.add_zero, rowH_lk R hn]
 | y :: r, B, j + 1, g, h, hn => by
  have := rowsH_lk (gs := r) (B := B + 1) (j := j) (g := g) (by simpa using h) hn
  simp only [rowsH, lk_app]
  rw [rowH_lk_no R (by omega)]
  simp only
  rw [show B + (j + 1) = B + 1 + j by omega, this]
theorem rowsH_mem {p : Nat × Option O} : ∀ {gs : List γ} {B : Nat}, p ∈ rowsH R B gs → ∃ j g, gs[j]? = some g ∧ R.row g ≠ [] ∧ p = (B + j, some (.vec R.e R.s (dv (R.row g))))
 | [], _, h => by simp [rowsH] at h
 | y :: r, B, h => by
  simp only [rowsH, List.mem_append] at h
  rcases h with h | h
  ·refine ⟨0, y, rfl, ?_⟩
   cases hr : R.row y with
   | nil => rw [hr] at h; simp [rowH] at h
   | cons x xs =>
    rw [hr] at h
    simp only [rowH, List.mem_singleton] at h
    exact ⟨by simp, by simpa using h⟩
  ·obtain ⟨j, g, h1, h2, h3⟩ := rowsH_mem h
   exact ⟨j + 1, g, by simpa using h1, h2, by rw [h3]; congr 1; omega⟩
theorem renL_eq (f : Nat → Nat) : ∀ xs : List V, renL f xs = xs.map (V.ren f)
 | [] => rfl
 | x :: r => by simp [renL, renL_eq f r]
theorem frzL_eq (hv : Nat → Option O) (keep : Nat → Bool) : ∀ xs : List V, frzL hv keep xs = xs.map (frz hv keep)
 | [] => rfl
 | x :: r => by simp [frzL, frzL_eq hv keep r]
variable {R}
theorem frzL_rowsV (hR : R.Ok) (hv : Nat → Option O) : ∀ (gs : List γ) (B : Nat), frzL hv (fun _ => true) (rowsV R B gs) = rowsV R B gs
 | [], _ => rfl
 | g :: r, B => by simp only [rowsV, frzL, hR.frz hv g _ (rref_rf _ _), frzL_rowsV hR hv r (B + 1)]
theorem rref_ren {f : Nat → Nat} {B C : Nat} (h : f B = C) (xs : List D) : (rref B xs).ren f = rref C xs := by
 cases xs with
 | nil => rfl
 | cons x xs => simp [rref, V.ren, h]
theorem renL_rowsV (hR : R.Ok) {f : Nat → Nat} : ∀ (gs : List γ) (B : Nat), (∀ j, j < gs.length → f (B + j) = B + j) → renL f (rowsV R B gs) = rowsV R B gs
 | [], _, _ => rfl
 | g :: r, B, h => by
  have h0 := h 0 (by simp)
  simp only [Nat.add_zero] at h0
  simp only [rowsV, renL, hR.ren, rref_ren h0, renL_rowsV hR r (B + 1) fun j hj => by
   have := h (j + 1) (by simp; omega)
   rw [show B + (j + 1) = B + 1 + j by omega] at this
   exact this]
theorem belL_rowsV (hR : R.Ok) {n : Nat} : ∀ (gs : List γ) (B : Nat), B + gs.length ≤ n → belL n (rowsV R B gs) = true
 | [], _, _ => rfl
 | g :: r, B, h => by
  simp only [List.length_cons] at h
  have h1 : (rref B (R.row g)).bel n = true := by
   cases R.row g with
   | nil => rfl
   | cons x xs => simp [rref, V.bel]; omega
  have ih : belL n (rowsV R (B + 1) r) = true := belL_rowsV hR r (B + 1) (by omega)
  simp only [rowsV, belL, hR.bel, h1, ih, Bool.and_self]
/-- Two numbers change places. -/
def swpN (a b x : Nat) : Nat := if x = a then b else if x = b then a else x
theorem swpN_inj (a b : Nat) (p q : Nat) (h : swpN a b p = swpN a b q) : p = q := by
 unfold swpN at h
 split at h <;> split at h <;> (try split at h) <;> (try split at h) <;> omega
theorem swpN_o {a b x : Nat} (h1 : x ≠ a) (h2 : x ≠ b) : swpN a b x = x := by
 unfold swpN
 rw [if_neg h1, if_neg h2]
theorem swpN_a (a b : Nat) : swpN a b a = b := by simp [swpN]
/-- An element's row is a new object: seen from the state behind. -/
theorem renL_rowsV_set (hR : R.Ok) {f : Nat → Nat} {B M j n : Nat} {gs : List γ} {g : γ} (hj : j < gs.length) (hf : f (B + j) = M) (ho : ∀ i, i < gs.length → i ≠ j → f (B + i) = B + i) (hg : R.row g ≠ []) (hn : n = (R.row g).length) : renL f (rowsV R B (gs.set j g)) = (rowsV R B gs).set j (R.val g (.slr M 0 n)) := by
 subst hn
 rw [renL_eq]
 apply List.ext_getElem?
 intro i
 rw [List.getElem?_map, rowsV_get, List.getElem?_set, List.getElem?_set, rowsV_get, rowsV_len]
 by_cases e : j = i
 ·subst e
  rw [if_pos rfl, if_pos hj, if_pos rfl, if_pos hj]
  simp only [Option.map_some, hR.ren, rref_pos hg, V.ren, hf]
 ·rw [if_neg e, if_neg e, Option.map_map]
  rcases Nat.lt_or_ge i gs.length with hi | hi
  ·rw [List.getElem?_eq_getElem hi]
   simp only [Option.map_some, Function.comp, hR.ren]
   rw [rref_ren (ho i hi (Ne.symm e))]
  ·rw [List.getElem?_eq_none hi]
   rfl
theorem renL_rowsV_app (hR : R.Ok) {f : Nat → Nat} {B M n : Nat} {gs : List γ} {g : γ} (hf : f (B + gs.length) = M) (ho : ∀ i, i < gs.length → f (B + i) = B + i) (hg : R.row g ≠ []) (hn : n = (R.row g).length) : renL f (rowsV R B (gs ++ [g])) = rowsV R B gs ++ [R.val g (.slr M 0 n)] := by
 subst hn
 rw [rowsV_app1, renL_eq, List.map_append, ← renL_eq, renL_rowsV hR gs B ho]
 simp only [List.map_cons, List.map_nil, hR.ren, rref_pos hg, V.ren, hf]
/-- Two pairs of numbers change places. -/
def sw2 (a b c d x : Nat) : Nat := swpN a b (swpN c d x)
theorem sw2_inj (a b c d : Nat) (p q : Nat) (h : sw2 a b c d p = sw2 a b c d q) : p = q := swpN_inj _ _ _ _ (swpN_inj _ _ _ _ h)
theorem sw2_o {a b c d x : Nat} (h1 : x ≠ a) (h2 : x ≠ b) (h3 : x ≠ c) (h4 : x ≠ d) : sw2 a b c d x = x := by
 unfold sw2
 rw [swpN_o h3 h4, swpN_o h1 h2]
theorem sw2_c {a b c d : Nat} (h1 : d ≠ a) (h2 : d ≠ b) : sw2 a b c d c = d := by
 unfold sw2
 rw [swpN_a, swpN_o h1 h2]
theorem sw2_a {a b c d : Nat} (h1 : a ≠ c) (h2 : a ≠ d) : sw2 a b c d a = b := by
 unfold sw2
 rw [swpN_o h1 h2, swpN_a]
section
variable {cx : Cx}
/-- Weakening to a state with such a family. -/
theorem Weak.rowsH {k : Nat} (hcx : CxOk cx k) {st st' : St} (f : Nat → Nat) (B : Nat) (gs : List γ) (base : List (Nat × Option O)) (hH : st'.H = base ++ Go.AX.rowsH R B gs) (hn : st'.n = st.n) (hg : ∀ i, i < k → f i = i) (hkc : k ≤ st'.c)
  (he : ∀ p ∈ st'.env, ∃ v, lk st.env p.1 = some v ∧ frz st.hv (fun _ => true) v = p.2.ren f ∧ p.2.bel (64 * st'.c) = true)
  (hb : ∀ p ∈ base, ∃ o, p.2 = some o ∧ p.1 < 64 * st'.c ∧ o.bel (64 * st'.c) = true ∧ ∃ o', st.hv (f p.1) = some o' ∧ o'.frz st.hv (fun _ => true) = o.ren f)
  (hf : ∀ j x, gs[j]? = some x → R.row x ≠ [] → B + j < 64 * st'.c ∧ st.hv (f (B + j)) = some (.vec R.e R.s (dv (R.row x))))
  (hpk : ∀ i, i < k → ∃ o, (i, o) ∈ base)
  (hinj : ∀ p q, f p = f q → p = q) : Weak cx st st' := by
 refine Weak.go hcx f (fun _ => true) hn hg hkc he ?_ (fun i hi => ⟨rfl, ?_⟩) (fun p _ q _ h => hinj _ _ h)
 rotate_left
 ·obtain ⟨o, ho⟩ := hpk i hi
  obtain ⟨_, _, _, _, o', h4, _⟩ := hb _ ho
  rw [hg i hi] at h4
  exact ⟨o', h4⟩
 intro p hp
 rw [hH] at hp
 rcases List.mem_append.1 hp with hp | hp
 ·obtain ⟨o, h1, h2, h3, o', h4, h5⟩ := hb p hp
  exact ⟨o, h1, h2, h3, rfl, o', h4, h5⟩
 ·obtain ⟨j, x, h1, h2, rfl⟩ := rowsH_mem R hp
  obtain ⟨h3, h4⟩ := hf j x h1 h2
  refine ⟨_, rfl, h3, ?_, rfl, _, h4, ?_⟩
  ·simp [go_sem]
  ·simp [go_sem]
end
theorem frzL_app2 (hv : Nat → Option O) (keep : Nat → Bool) (xs ys : List V) : frzL hv keep (xs ++ ys) = frzL hv keep xs ++ frzL hv keep ys := by
 simp only [frzL_eq, List.map_append]
theorem frzL_set (hv : Nat → Option O) (keep : Nat → Bool) (xs : List V) (j : Nat) (y : V) : frzL hv keep (xs.set j y) = (frzL hv keep xs).set j (frz hv keep y) := by
 simp only [frzL_eq, List.map_set]
/-! the spine, seen from the state behind -/
theorem sp_set (hR : R.Ok) {f : Nat → Nat} {B M j n : Nat} {gs : List γ} {g : γ} (hj : j < gs.length) (hf : f (B + j) = M) (ho : ∀ i, i < gs.length → i ≠ j → f (B + i) = B + i) (hg : R.row g ≠ []) (hn : n = (R.row g).length) (hv : Nat → Option O) : frzL hv (fun _ => true) ((rowsV R B gs).set j (R.val g (.slr M 0 n))) = renL f (rowsV R B (gs.set j g)) := by
 rw [frzL_set, frzL_rowsV hR, hR.frz hv g _ (.inr ⟨_, _, _, rfl⟩), renL_rowsV_set hR hj hf ho hg hn]
theorem sp_app (hR : R.Ok) {f : Nat → Nat} {B M n : Nat} {gs : List γ} {g : γ} (hf : f (B + gs.length) = M) (ho : ∀ i, i < gs.length → f (B + i) = B + i) (hg : R.row g ≠ []) (hn : n = (R.row g).length) (hv : Nat → Option O) : frzL hv (fun _ => true) (rowsV R B gs ++ [R.val g (.slr M 0 n)]) = renL f (rowsV R B (gs ++ [g])) := by
 rw [frzL_app2, frzL_rowsV hR, renL_rowsV_app hR hf ho hg hn]
 simp only [frzL, hR.frz hv g _ (.inr ⟨_, _, _, rfl⟩)]
theorem hv_skip {k c id m : Nat} {x : Option O} {env : List (Nat × V)} {H : List (Nat × Option O)} (h : m ≠ id) : St.hv ⟨k, env, (m, x) :: H, c⟩ id = St.hv ⟨k, env, H, c⟩ id := by
 simp only [St.hv, lk, if_neg h]
theorem hv_rowsE {k c B j : Nat} {env : List (Nat × V)} {gs : List γ} {g : γ} (h : gs[j]? = some g) (hg : R.row g ≠ []) : St.hv ⟨k, env, rowsH R B gs, c⟩ (B + j) = some (.vec R.e R.s (dv (R.row g))) := by
 simp [St.hv, rowsH_lk R h hg]
end
end Go.AX
