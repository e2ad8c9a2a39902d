/- AX, part 1: pure data, abstract values, abstract objects, and how a world represents them. -/
import Derived.Calls
import Derived.Below
namespace Go.AX
open Go

/-- Pure data: what is only read. -/
inductive D where
 | bool (b : Bool)
 | int (k : IntKind) (n : Int)
 | str (s : List UInt8)
 | agg (cs : List D)
 | sl (xs : List D)
 | map (ks vs : List D)
 | nilp
 | ptr (cs : List D) (j : Nat)
 | nili
 deriving Inhabited

/-- Abstract values: data, or a reference to an object of the call's own. -/
inductive V where
 | top
 | k (v : Value)
 | d (x : D)
 | nils
 | agg (cs : List V)
 | tup (vs : List V)
 | ptr (id j : Nat)
 | pe (id i j : Nat)
 | slr (id lo n : Nat)
 | mpr (id : Nat)
 | fn (f : FuncId) (caps : List V)
 deriving Inhabited

/-- What is left of a walk over a map: so many entries; or those that are not among the ones seen. -/
inductive Lf where
 | cnt (l : Nat)
 | lst (s : List Nat)
def Lf.ok (n : Nat) (seen : List Nat) : Lf → Prop
 | .cnt l => seen.length + l = n
 | .lst s => seen = s ∧ s.length ≤ n
def Lf.done (n : Nat) : Lf → Prop
 | .cnt l => l = 0
 | .lst s => ∀ i, i < n → i ∈ s
def Lf.may (j : Nat) : Lf → Prop
 | .cnt l => l ≠ 0
 | .lst s => j ∉ s
def Lf.next (j : Nat) : Lf → Lf
 | .cnt l => .cnt (l - 1)
 | .lst s => .lst (s ++ [j])
def Lf.num (n : Nat) : Lf → Nat
 | .cnt l => l
 | .lst s => n - s.length

/-- Objects of the call's own. -/
inductive O where
 | box (e : TypeId) (vs : List V)
 | vec (e : TypeId) (s : Nat) (xs : List V)
 | map (ks : List D) (vs : List V)
 | miter (x : V) (n : Nat) (cur : Option Nat) (left : Lf)
 | dead
 deriving Inhabited

/-- Where an object lies: nowhere (a nil slice), or in a block of room for K elements of s cells each. -/
inductive Loc where
 | nil
 | blk (b K s : Nat)

/-- The value v lies in s cells from p on. -/
def ElemAt (c : Array Value) (s p : Nat) : Value → Prop
 | .agg vs => vs.size = s ∧ ∀ j, j < s → c[p + j]? = vs[j]?
 | v => s = 1 ∧ c[p]? = some v

/-- The entries of a map, in the order of their births; none was removed. -/
def Births (es : Array MapEntry) (clock : Nat) : Prop := clock = es.size ∧ ∀ (i : Nat) e, es[i]? = some e → e.born = i

mutual
/-- The value reads as the datum; all blocks that are met are 'ok'. -/
def RD (w : World) (ok : Nat → Prop) : D → Value → Prop
 | .bool b, v => v = .bool b
 | .int k n, v => v = .int k n
 | .str s, v => v = .string ⟨s.toArray⟩
 | .agg cs, v => ∃ c : Array Value, v = .agg c ∧ c.size = cs.length ∧ RDcs w ok c 0 cs
 | .sl xs, v => ∃ a n cap, v = .slice a n cap ∧ n = xs.length ∧ n ≤ cap ∧
   (xs = [] ∨ ∃ b off c e fr s, a = some ⟨b, off, none⟩ ∧ ok b ∧ w.heap[b]? = some (.cells c e fr) ∧ RDels w ok c s off xs)
 | .map ks vs, v => ∃ r, v = .map r ∧ ((r = none ∧ ks = [] ∧ vs = []) ∨
   ∃ b es clock, r = some b ∧ ok b ∧ w.heap[b]? = some (.map es clock) ∧ Births es clock ∧ es.size = ks.length ∧ es.size = vs.length ∧
    RDcs w ok (es.map (·.key)) 0 ks ∧ RDcs w ok (es.map (·.val)) 0 vs)
 | .nilp, v => v = .pointer none
 | .ptr cs j, v => ∃ b off c e fr, v = .pointer (some ⟨b, off + j, none⟩) ∧ ok b ∧ w.heap[b]? = some (.cells c e fr) ∧ RDcs w ok c off cs
 | .nili, v => v = .nilIface
/-- Consecutive cells from p on read as the data. -/
def RDcs (w : World) (ok : Nat → Prop) (c : Array Value) : Nat → List D → Prop
 | _, [] => True
 | p, x :: xs => (∃ v, c[p]? = some v ∧ RD w ok x v) ∧ RDcs w ok c (p + 1) xs
/-- Consecutive elements of s cells each, from p on, read as the data. -/
def RDels (w : World) (ok : Nat → Prop) (c : Array Value) (s : Nat) : Nat → List D → Prop
 | _, [] => True
 | p, x :: xs => (∃ v, ElemAt c s p v ∧ RD w ok x v) ∧ RDels w ok c s (p + s) xs
end

mutual
theorem RD_mono {w w' : World} {ok ok' : Nat → Prop} (h : ∀ b, ok b → ok' b ∧ w'.heap[b]? = w.heap[b]?) : ∀ (x : D) (v : Value), RD w ok x v → RD w' ok' x v
 | .bool _, _, r => by simpa only [RD] using r
 | .int _ _, _, r => by simpa only [RD] using r
 | .str _, _, r => by simpa only [RD] using r
 | .nilp, _, r => by simpa only [RD] using r
 | .nili, _, r => by simpa only [RD] using r
 | .agg cs, v, r => by
  simp only [RD] at r ⊢
  obtain ⟨c, rfl, hs, hc⟩ := r
  exact ⟨c, rfl, hs, RDcs_mono h c 0 cs hc⟩
 | .sl xs, v, r => by
  simp only [RD] at r ⊢
  obtain ⟨a, n, cap, rfl, hn, hcap, hx⟩ := r
  refine ⟨a, n, cap, rfl, hn, hcap, ?_⟩
  rcases hx with hx | ⟨b, off, c, e, fr, s, ha, hb, hh, hr⟩
  ·exact .inl hx
  ·exact .inr ⟨b, off, c, e, fr, s, ha, (h b hb).1, (h b hb).2.trans hh, RDels_mono h c s off xs hr⟩
 | .map ks vs, v, r => by
  simp only [RD] at r ⊢
  obtain ⟨m, rfl, hm⟩ := r
  refine ⟨m, rfl, ?_⟩
  rcases hm with hm | ⟨b, es, clock, hr, hb, hh, h0, h1, h2, hk, hv⟩
  ·exact .inl hm
  ·exact .inr ⟨b, es, clock, hr, (h b hb).1, (h b hb).2.trans hh, h0, h1, h2, RDcs_mono h _ 0 ks hk, RDcs_mono h _ 0 vs hv⟩
 | .ptr cs j, v, r => by
  simp only [RD] at r ⊢
  obtain ⟨b, off, c, e, fr, hv, hb, hh, hr⟩ := r
  exact ⟨b, off, c, e, fr, hv, (h b hb).1, (h b hb).2.trans hh, RDcs_mono h c off cs hr⟩
theorem RDcs_mono {w w' : World} {ok ok' : Nat → Prop} (h : ∀ b, ok b → ok' b ∧ w'.heap[b]? = w.heap[b]?) (c : Array Value) : ∀ (p : Nat) (xs : List D), RDcs w ok c p xs → RDcs w' ok' c p xs
 | _, [], _ => by simp only [RDcs]
 | p, x :: xs, r => by
  simp only [RDcs] at r ⊢
  obtain ⟨⟨v, hv, hr⟩, hrest⟩ := r
  exact ⟨⟨v, hv, RD_mono h x v hr⟩, RDcs_mono h c (p + 1) xs hrest⟩
theorem RDels_mono {w w' : World} {ok ok' : Nat → Prop} (h : ∀ b, ok b → ok' b ∧ w'.heap[b]? = w.heap[b]?) (c : Array Value) (s : Nat) : ∀ (p : Nat) (xs : List D), RDels w ok c s p xs → RDels w' ok' c s p xs
 | _, [], _ => by simp only [RDels]
 | p, x :: xs, r => by
  simp only [RDels] at r ⊢
  obtain ⟨⟨v, hv, hr⟩, hrest⟩ := r
  exact ⟨⟨v, hv, RD_mono h x v hr⟩, RDels_mono h c s (p + s) xs hrest⟩
end

theorem RDcs_get {w : World} {ok : Nat → Prop} {c : Array Value} : ∀ {xs : List D} {p i : Nat} {x : D}, RDcs w ok c p xs → xs[i]? = some x → ∃ v, c[p + i]? = some v ∧ RD w ok x v
 | [], _, _, _, _, h => by simp at h
 | y :: ys, p, 0, x, r, h => by
  simp only [RDcs] at r
  simp at h
  subst h
  simpa using r.1
 | y :: ys, p, i + 1, x, r, h => by
  simp only [RDcs] at r
  have := RDcs_get (i := i) (x := x) r.2 (by simpa using h)
  have e : p + 1 + i = p + (i + 1) := by omega
  rwa [e] at this
theorem RDcs_of {w : World} {ok : Nat → Prop} {c : Array Value} : ∀ {xs : List D} {p : Nat}, (∀ i x, xs[i]? = some x → ∃ v, c[p + i]? = some v ∧ RD w ok x v) → RDcs w ok c p xs
 | [], _, _ => by simp only [RDcs]
 | y :: ys, p, h => by
  simp only [RDcs]
  refine ⟨by simpa using h 0 y rfl, RDcs_of fun i x hx => ?_⟩
  have := h (i + 1) x (by simpa using hx)
  have e : p + 1 + i = p + (i + 1) := by omega
  rwa [e]
theorem RDels_get {w : World} {ok : Nat → Prop} {c : Array Value} {s : Nat} : ∀ {xs : List D} {p i : Nat} {x : D}, RDels w ok c s p xs → xs[i]? = some x → ∃ v, ElemAt c s (p + i * s) v ∧ RD w ok x v
 | [], _, _, _, _, h => by simp at h
 | y :: ys, p, 0, x, r, h => by
  simp only [RDels] at r
  simp at h
  subst h
  simpa using r.1
 | y :: ys, p, i + 1, x, r, h => by
  simp only [RDels] at r
  have := RDels_get (i := i) (x := x) r.2 (by simpa using h)
  have e : p + s + i * s = p + (i + 1) * s := by rw [Nat.add_mul]; omega
  rwa [e] at this
theorem RDels_of {w : World} {ok : Nat → Prop} {c : Array Value} {s : Nat} : ∀ {xs : List D} {p : Nat}, (∀ i x, xs[i]? = some x → ∃ v, ElemAt c s (p + i * s) v ∧ RD w ok x v) → RDels w ok c s p xs
 | [], _, _ => by simp only [RDels]
 | y :: ys, p, h => by
  simp only [RDels]
  refine ⟨by simpa using h 0 y rfl, RDels_of fun i x hx => ?_⟩
  have := h (i + 1) x (by simpa using hx)
  have e : p + s + i * s = p + (i + 1) * s := by rw [Nat.add_mul]; omega
  rwa [e]

theorem RDels_take {w : World} {ok : Nat → Prop} {c : Array Value} {s p : Nat} {xs : List D} (h : RDels w ok c s p xs) (n : Nat) : RDels w ok c s p (xs.take n) := by
 refine RDels_of fun i x hx => ?_
 rw [List.getElem?_take] at hx
 split at hx
 ·exact RDels_get h hx
 ·cases hx
theorem RDels_drop {w : World} {ok : Nat → Prop} {c : Array Value} {s p : Nat} {xs : List D} (h : RDels w ok c s p xs) (n : Nat) : RDels w ok c s (p + n * s) (xs.drop n) := by
 refine RDels_of fun i x hx => ?_
 rw [List.getElem?_drop] at hx
 have := RDels_get h hx
 rwa [Nat.add_mul, ← Nat.add_assoc] at this

mutual
/-- The value is the abstract one. -/
def RV (w : World) (ok : Nat → Prop) (σ : Nat → Option Loc) : V → Value → Prop
 | .top, _ => True
 | .k u, v => v = u
 | .d x, v => RD w ok x v
 | .nils, v => v = .slice none 0 0
 | .agg cs, v => ∃ c : Array Value, v = .agg c ∧ RVl w ok σ cs c.toList
 | .tup cs, v => ∃ c : Array Value, v = .tuple c ∧ RVl w ok σ cs c.toList
 | .ptr id j, v => ∃ b K s, σ id = some (.blk b K s) ∧ v = .pointer (some ⟨b, j, none⟩)
 | .pe id i j, v => ∃ b K s, σ id = some (.blk b K s) ∧ v = .pointer (some ⟨b, i * s + j, none⟩)
 | .slr id lo n, v => (σ id = some .nil ∧ lo = 0 ∧ n = 0 ∧ ∃ a, v = .slice a 0 0) ∨
   ∃ b K s a cap, σ id = some (.blk b K s) ∧ v = .slice (some a) n cap ∧ n ≤ cap ∧ lo + cap = K ∧ (cap = 0 ∨ a = ⟨b, lo * s, none⟩)
 | .mpr id, v => ∃ b K s, σ id = some (.blk b K s) ∧ v = .map (some b)
 | .fn f caps, v => ∃ c : Array Value, v = .func (.func f) #[] c ∧ RVl w ok σ caps c.toList
def RVl (w : World) (ok : Nat → Prop) (σ : Nat → Option Loc) : List V → List Value → Prop
 | [], vs => vs = []
 | x :: xs, vs => ∃ u us, vs = u :: us ∧ RV w ok σ x u ∧ RVl w ok σ xs us
end

mutual
theorem RV_mono {w w' : World} {ok ok' : Nat → Prop} {σ σ' : Nat → Option Loc} (h : ∀ b, ok b → ok' b ∧ w'.heap[b]? = w.heap[b]?) (hσ : ∀ id l, σ id = some l → σ' id = some l) :
  ∀ (x : V) (v : Value), RV w ok σ x v → RV w' ok' σ' x v
 | .top, _, _ => by simp only [RV]
 | .k _, _, r => by simpa only [RV] using r
 | .d x, v, r => by simp only [RV] at r ⊢; exact RD_mono h x v r
 | .nils, v, r => by simpa only [RV] using r
 | .agg cs, v, r => by
  simp only [RV] at r ⊢
  obtain ⟨c, rfl, hr⟩ := r
  exact ⟨c, rfl, RVl_mono h hσ cs _ hr⟩
 | .tup cs, v, r => by
  simp only [RV] at r ⊢
  obtain ⟨c, rfl, hr⟩ := r
  exact ⟨c, rfl, RVl_mono h hσ cs _ hr⟩
 | .ptr id j, v, r => by
  simp only [RV] at r ⊢
  obtain ⟨b, K, s, h1, h2⟩ := r
  exact ⟨b, K, s, hσ _ _ h1, h2⟩
 | .pe id i j, v, r => by
  simp only [RV] at r ⊢
  obtain ⟨b, K, s, h1, h2⟩ := r
  exact ⟨b, K, s, hσ _ _ h1, h2⟩
 | .slr id lo n, v, r => by
  simp only [RV] at r ⊢
  rcases r with ⟨h1, h2⟩ | ⟨b, K, s, a, cap, h1, h2⟩
  ·exact .inl ⟨hσ _ _ h1, h2⟩
  ·exact .inr ⟨b, K, s, a, cap, hσ _ _ h1, h2⟩
 | .mpr id, v, r => by
  simp only [RV] at r ⊢
  obtain ⟨b, K, s, h1, h2⟩ := r
  exact ⟨b, K, s, hσ _ _ h1, h2⟩
 | .fn f caps, v, r => by
  simp only [RV] at r ⊢
  obtain ⟨c, rfl, hr⟩ := r
  exact ⟨c, rfl, RVl_mono h hσ caps _ hr⟩
theorem RVl_mono {w w' : World} {ok ok' : Nat → Prop} {σ σ' : Nat → Option Loc} (h : ∀ b, ok b → ok' b ∧ w'.heap[b]? = w.heap[b]?) (hσ : ∀ id l, σ id = some l → σ' id = some l) :
  ∀ (xs : List V) (vs : List Value), RVl w ok σ xs vs → RVl w' ok' σ' xs vs
 | [], vs, r => by simpa only [RVl] using r
 | x :: xs, vs, r => by
  simp only [RVl] at r ⊢
  obtain ⟨u, us, rfl, hu, hus⟩ := r
  exact ⟨u, us, rfl, RV_mono h hσ x u hu, RVl_mono h hσ xs us hus⟩
end

theorem RVl_length {w : World} {ok : Nat → Prop} {σ : Nat → Option Loc} : ∀ {xs : List V} {vs : List Value}, RVl w ok σ xs vs → vs.length = xs.length
 | [], vs, r => by simp only [RVl] at r; simp [r]
 | x :: xs, vs, r => by
  simp only [RVl] at r
  obtain ⟨u, us, rfl, _, hus⟩ := r
  simp [RVl_length hus]
theorem RVl_get {w : World} {ok : Nat → Prop} {σ : Nat → Option Loc} : ∀ {xs : List V} {vs : List Value} {i : Nat} {x : V}, RVl w ok σ xs vs → xs[i]? = some x → ∃ v, vs[i]? = some v ∧ RV w ok σ x v
 | [], _, _, _, _, h => by simp at h
 | y :: ys, vs, 0, x, r, h => by
  simp only [RVl] at r
  obtain ⟨u, us, rfl, hu, hus⟩ := r
  simp at h
  subst h
  exact ⟨u, rfl, hu⟩
 | y :: ys, vs, i + 1, x, r, h => by
  simp only [RVl] at r
  obtain ⟨u, us, rfl, hu, hus⟩ := r
  simpa using RVl_get (i := i) (x := x) hus (by simpa using h)
theorem RVl_of {w : World} {ok : Nat → Prop} {σ : Nat → Option Loc} : ∀ {xs : List V} {vs : List Value}, vs.length = xs.length → (∀ (i : Nat) x v, xs[i]? = some x → vs[i]? = some v → RV w ok σ x v) → RVl w ok σ xs vs
 | [], vs, hl, _ => by simp only [RVl]; simpa using hl
 | x :: xs, [], hl, _ => by simp at hl
 | x :: xs, v :: vs, hl, h => by
  simp only [RVl]
  refine ⟨v, vs, rfl, h 0 x v rfl rfl, RVl_of (by simpa using hl) fun i y u hy hu => h (i + 1) y u (by simpa using hy) (by simpa using hu)⟩

/-- Consecutive elements of s cells each, from p on, are the abstract ones. -/
def RVels (w : World) (ok : Nat → Prop) (σ : Nat → Option Loc) (c : Array Value) (s : Nat) : Nat → List V → Prop
 | _, [] => True
 | p, x :: xs => (∃ v, ElemAt c s p v ∧ RV w ok σ x v) ∧ RVels w ok σ c s (p + s) xs
theorem RVels_mono {w w' : World} {ok ok' : Nat → Prop} {σ σ' : Nat → Option Loc} (h : ∀ b, ok b → ok' b ∧ w'.heap[b]? = w.heap[b]?) (hσ : ∀ id l, σ id = some l → σ' id = some l) (c : Array Value) (s : Nat) :
  ∀ (p : Nat) (xs : List V), RVels w ok σ c s p xs → RVels w' ok' σ' c s p xs
 | _, [], _ => by simp only [RVels]
 | p, x :: xs, r => by
  simp only [RVels] at r ⊢
  obtain ⟨⟨v, hv, hr⟩, hrest⟩ := r
  exact ⟨⟨v, hv, RV_mono h hσ x v hr⟩, RVels_mono h hσ c s (p + s) xs hrest⟩
theorem RVels_get {w : World} {ok : Nat → Prop} {σ : Nat → Option Loc} {c : Array Value} {s : Nat} : ∀ {xs : List V} {p i : Nat} {x : V}, RVels w ok σ c s p xs → xs[i]? = some x → ∃ v, ElemAt c s (p + i * s) v ∧ RV w ok σ x v
 | [], _, _, _, _, h => by simp at h
 | y :: ys, p, 0, x, r, h => by
  simp only [RVels] at r
  simp at h
  subst h
  simpa using r.1
 | y :: ys, p, i + 1, x, r, h => by
  simp only [RVels] at r
  have := RVels_get (i := i) (x := x) r.2 (by simpa using h)
  have e : p + s + i * s = p + (i + 1) * s := by rw [Nat.add_mul]; omega
  rwa [e] at this
theorem RVels_of {w : World} {ok : Nat → Prop} {σ : Nat → Option Loc} {c : Array Value} {s : Nat} : ∀ {xs : List V} {p : Nat}, (∀ i x, xs[i]? = some x → ∃ v, ElemAt c s (p + i * s) v ∧ RV w ok σ x v) → RVels w ok σ c s p xs
 | [], _, _ => by simp only [RVels]
 | y :: ys, p, h => by
  simp only [RVels]
  refine ⟨by simpa using h 0 y rfl, RVels_of fun i x hx => ?_⟩
  have := h (i + 1) x (by simpa using hx)
  have e : p + s + i * s = p + (i + 1) * s := by rw [Nat.add_mul]; omega
  rwa [e]
theorem RVels_d {w : World} {ok : Nat → Prop} {σ : Nat → Option Loc} {c : Array Value} {s : Nat} {xs : List D} {p : Nat} (h : RDels w ok c s p xs) : RVels w ok σ c s p (xs.map .d) := by
 refine RVels_of fun i x hx => ?_
 simp only [List.getElem?_map, Option.map_eq_some_iff] at hx
 obtain ⟨y, hy, rfl⟩ := hx
 obtain ⟨v, h1, h2⟩ := RDels_get h hy
 exact ⟨v, h1, by simpa only [RV] using h2⟩

/-- Nothing of the block's cells is frozen. -/
def FrOk (n : Nat) (fr : Nat × Nat) : Prop := ∀ i, i < n → ¬ (fr.1 ≤ i ∧ i < fr.2)

/-- The object lies where σ says. -/
def RO (w : World) (ok : Nat → Prop) (σ : Nat → Option Loc) (id : Nat) : O → Prop
  | .box e vs => ∃ b K s c fr, σ id = some (.blk b K s) ∧ w.heap[b]? = some (.cells c e fr) ∧ FrOk c.size fr ∧ RVl w ok σ vs c.toList
  | .vec e s xs => (σ id = some .nil ∧ xs = []) ∨
      ∃ b K c fr, σ id = some (.blk b K s) ∧ w.heap[b]? = some (.cells c e fr) ∧ FrOk c.size fr ∧ c.size = K * s ∧ xs.length ≤ K ∧ RVels w ok σ c s 0 xs
  | .map ks vs => ∃ b K s es clock, σ id = some (.blk b K s) ∧ w.heap[b]? = some (.map es clock) ∧ Births es clock ∧ es.size = ks.length ∧
        RDcs w ok (es.map (·.key)) 0 ks ∧ RVl w ok σ vs (es.map (·.val)).toList
  | .miter x n cur left => ∃ b K s mo seen, σ id = some (.blk b K s) ∧ w.heap[b]? = some (.mapIter mo n seen n) ∧ RV w ok σ x (.map mo) ∧ (mo = none → n = 0) ∧ seen.toList.Nodup ∧ (∀ j ∈ seen.toList, j < n) ∧ left.ok n seen.toList ∧ (∀ j, cur = some j → ∃ r : Array Nat, seen = r.push j)
  | .dead => False

theorem RO_mono {w w' : World} {ok ok' : Nat → Prop} {σ σ' : Nat → Option Loc} (h : ∀ b, ok b → ok' b ∧ w'.heap[b]? = w.heap[b]?) (hσ : ∀ id l, σ id = some l → σ' id = some l)
  {id : Nat} (hb : ∀ b K s, σ id = some (.blk b K s) → w'.heap[b]? = w.heap[b]?) {o : O} (r : RO w ok σ id o) : RO w' ok' σ' id o := by
 cases o with
 | box e vs =>
  obtain ⟨b, K, s, c, fr, h1, h2, h3, h4⟩ := r
  exact ⟨b, K, s, c, fr, hσ _ _ h1, (hb _ _ _ h1).trans h2, h3, RVl_mono h hσ _ _ h4⟩
 | vec e s xs =>
  rcases r with ⟨h1, h2⟩ | ⟨b, K, c, fr, h1, h2, h3, h4, h5, h6⟩
  ·exact .inl ⟨hσ _ _ h1, h2⟩
  ·exact .inr ⟨b, K, c, fr, hσ _ _ h1, (hb _ _ _ h1).trans h2, h3, h4, h5, RVels_mono h hσ _ _ _ _ h6⟩
 | map ks vs =>
  obtain ⟨b, K, s, es, clock, h1, h2, h0, h3, h5, h6⟩ := r
  exact ⟨b, K, s, es, clock, hσ _ _ h1, (hb _ _ _ h1).trans h2, h0, h3, RDcs_mono h _ _ _ h5, RVl_mono h hσ _ _ h6⟩
 | miter x n cur left =>
  obtain ⟨b, K, s, m, seen, h1, h2, h3, h4⟩ := r
  exact ⟨b, K, s, m, seen, hσ _ _ h1, (hb _ _ _ h1).trans h2, RV_mono h hσ _ _ h3, h4⟩
 | dead => exact r.elim

end Go.AX
