/- AX, part 2: states, the relation between abstract and concrete states, and its updates. -/
import Derived.Test.YtecggjfjafnepaaGreatDoorAx1
namespace Go.AX
open Go

/-- Look up in an association list. -/
def lk {α : Type} : List (Nat × α) → Nat → Option α
 | [], _ => none
 | (k, x) :: r, i => if k = i then some x else lk r i

structure St where
 n : Nat
 env : List (Nat × V)
 H : List (Nat × Option O)
 c : Nat

def St.hv (st : St) (id : Nat) : Option O := (lk st.H id).getD none

/-- What is fixed during a call: the world at entry, the old blocks that may be written, the old blocks that data may lie in. -/
structure Cx where
 w0 : World
 pb : Nat → Prop
 okA : Nat → Prop
 ps : Nat → Option Loc

def okB (cx : Cx) (w : World) (hv : Nat → Option O) (σ : Nat → Option Loc) (b : Nat) : Prop :=
 (cx.okA b ∨ cx.w0.heap.size ≤ b) ∧ b < w.heap.size ∧ ∀ id o K s, hv id = some o → σ id ≠ some (.blk b K s)

structure HR (cx : Cx) (hv : Nat → Option O) (σ : Nat → Option Loc) (w : World) : Prop where
 os : w.os = cx.w0.os
 tape : w.tape = cx.w0.tape
 output : w.output = cx.w0.output
 size : cx.w0.heap.size ≤ w.heap.size
 frame : ∀ b, b < cx.w0.heap.size → ¬ cx.pb b → w.heap[b]? = cx.w0.heap[b]?
 own : ∀ id o, hv id = some o → RO w (okB cx w hv σ) σ id o
 new : ∀ id o b K s, hv id = some o → σ id = some (.blk b K s) → (cx.w0.heap.size ≤ b ∨ cx.pb b) ∧ b < w.heap.size
 inj : ∀ id id' o o' b K s K' s', hv id = some o → hv id' = some o' → σ id = some (.blk b K s) → σ id' = some (.blk b K' s') → id = id'

structure Rel (cx : Cx) (st : St) (F : Nat → Prop) (σ : Nat → Option Loc) (a : Act) (w : World) : Prop where
 hr : HR cx st.hv σ w
 fresh : ∀ id, F id → σ id = none
 par : ∀ id l, cx.ps id = some l → σ id = some l
 tmps : a.tmps.size = st.n
 defers : a.defers = []
 env : ∀ t v, lk st.env t = some v → RV w (okB cx w st.hv σ) σ v (a.tmps.getD t undef)

def upd {α : Type} (f : Nat → Option α) (i : Nat) (x : Option α) : Nat → Option α := fun j => if j = i then x else f j

theorem upd_same {α : Type} (f : Nat → Option α) (i : Nat) (x : Option α) : upd f i x i = x := by simp [upd]
theorem upd_other {α : Type} (f : Nat → Option α) {i j : Nat} (x : Option α) (h : j ≠ i) : upd f i x j = f j := by simp [upd, h]

/-- Replace a block. -/
def setB (w : World) (b : Nat) (o : Obj) : World := { w with heap := w.heap.setIfInBounds b o }

theorem setB_size (w : World) (b : Nat) (o : Obj) : (setB w b o).heap.size = w.heap.size := by simp [setB]
theorem setB_same {w : World} {b : Nat} {o : Obj} (h : b < w.heap.size) : (setB w b o).heap[b]? = some o := by
 simp [setB, h]
theorem setB_other {w : World} {b c : Nat} {o : Obj} (h : c ≠ b) : (setB w b o).heap[c]? = w.heap[c]? := by
 simp only [setB]
 rw [Array.getElem?_setIfInBounds]
 split
 ·omega
 ·rfl
theorem setB_twice (w : World) (b : Nat) (o o' : Obj) : setB (setB w b o) b o' = setB w b o' := by
 simp [setB]
theorem alloc_size (w : World) (o : Obj) : (w.alloc o).heap.size = w.heap.size + 1 := by simp
theorem alloc_new (w : World) (o : Obj) : (w.alloc o).heap[w.heap.size]? = some o := by
 show (w.heap.push o)[w.heap.size]? = _
 simp
theorem alloc_old {w : World} {o : Obj} {b : Nat} (h : b < w.heap.size) : (w.alloc o).heap[b]? = w.heap[b]? := Go.RowKit.Below.heap_alloc _ _ _ h

theorem heap_lt {w : World} {b : Nat} {o : Obj} (h : w.heap[b]? = some o) : b < w.heap.size := by
 rcases Nat.lt_or_ge b w.heap.size with h' | h'
 ·exact h'
 ·simp [Array.getElem?_eq_none h'] at h

/-- A new object in a new block. -/
theorem HR.alloc {cx : Cx} {hv : Nat → Option O} {σ : Nat → Option Loc} {w : World} (h : HR cx hv σ w) {nid : Nat} (hn : σ nid = none) (hvn : hv nid = none) (ob : Obj) (o : O) (K s : Nat)
  (ho : ∀ σ' ok', (∀ id l, σ id = some l → σ' id = some l) → (∀ b, okB cx w hv σ b → ok' b ∧ (w.alloc ob).heap[b]? = w.heap[b]?) → σ' nid = some (.blk w.heap.size K s) → RO (w.alloc ob) ok' σ' nid o) :
  HR cx (upd hv nid (some o)) (upd σ nid (some (.blk w.heap.size K s))) (w.alloc ob) ∧
  (∀ id l, σ id = some l → upd σ nid (some (.blk w.heap.size K s)) id = some l) ∧
  (∀ b, okB cx w hv σ b → okB cx (w.alloc ob) (upd hv nid (some o)) (upd σ nid (some (.blk w.heap.size K s))) b ∧ (w.alloc ob).heap[b]? = w.heap[b]?) := by
 have hσ : ∀ id l, σ id = some l → upd σ nid (some (.blk w.heap.size K s)) id = some l := by
  intro id l hl
  rw [upd_other _ _ (by rintro rfl; rw [hn] at hl; cases hl)]
  exact hl
 have hok : ∀ b, okB cx w hv σ b → okB cx (w.alloc ob) (upd hv nid (some o)) (upd σ nid (some (.blk w.heap.size K s))) b ∧ (w.alloc ob).heap[b]? = w.heap[b]? := by
  intro b ⟨h1, h2, h3⟩
  refine ⟨⟨h1, by rw [alloc_size]; omega, ?_⟩, alloc_old h2⟩
  intro id o' K' s' hid
  by_cases e : id = nid
  ·subst e
   rw [upd_same]
   intro hc
   injection hc with hc
   injection hc with hc
   omega
  ·rw [upd_other _ _ e] at hid ⊢
   exact h3 id o' K' s' hid
 refine ⟨?_, hσ, hok⟩
 constructor
 ·exact h.os
 ·exact h.tape
 ·exact h.output
 ·have := h.size; rw [alloc_size]; omega
 ·intro b hb hp
  rw [alloc_old (by have := h.size; omega)]
  exact h.frame b hb hp
 ·intro id o' hid
  by_cases e : id = nid
  ·subst e
   rw [upd_same] at hid
   injection hid with hid
   subst hid
   exact ho _ _ hσ hok (upd_same _ _ _)
  ·rw [upd_other _ _ e] at hid
   refine RO_mono hok hσ ?_ (h.own id o' hid)
   intro b K' s' hs
   exact alloc_old (h.new id o' b K' s' hid hs).2
 ·intro id o' b K' s' hid hs
  by_cases e : id = nid
  ·subst e
   rw [upd_same] at hs
   injection hs with hs
   injection hs with hs1 hs2 hs3
   subst hs1
   exact ⟨.inl h.size, by rw [alloc_size]; omega⟩
  ·rw [upd_other _ _ e] at hid hs
   have := h.new id o' b K' s' hid hs
   exact ⟨this.1, by rw [alloc_size]; omega⟩
 ·intro id id' o1 o2 b K1 s1 K2 s2 h1 h2 h3 h4
  by_cases e : id = nid
  ·by_cases e' : id' = nid
   ·rw [e, e']
   ·subst e
    rw [upd_same] at h3
    injection h3 with h3
    injection h3 with h3
    rw [upd_other _ _ e'] at h2 h4
    have := (h.new id' o2 b K2 s2 h2 h4).2
    omega
  ·rw [upd_other _ _ e] at h1 h3
   by_cases e' : id' = nid
   ·subst e'
    rw [upd_same] at h4
    injection h4 with h4
    injection h4 with h4
    have := (h.new id o1 b K1 s1 h1 h3).2
    omega
   ·rw [upd_other _ _ e'] at h2 h4
    exact h.inj id id' o1 o2 b K1 s1 K2 s2 h1 h2 h3 h4

/-- An object is written in its block. -/
theorem HR.write {cx : Cx} {hv : Nat → Option O} {σ : Nat → Option Loc} {w : World} (h : HR cx hv σ w) {id : Nat} {o0 : O} {b K s : Nat} (hid : hv id = some o0) (hs : σ id = some (.blk b K s)) (ob : Obj) (o : O)
  (ho : ∀ ok', (∀ c, okB cx w hv σ c → ok' c ∧ (setB w b ob).heap[c]? = w.heap[c]?) → RO (setB w b ob) ok' σ id o) :
  HR cx (upd hv id (some o)) σ (setB w b ob) ∧
  (∀ c, okB cx w hv σ c → okB cx (setB w b ob) (upd hv id (some o)) σ c ∧ (setB w b ob).heap[c]? = w.heap[c]?) := by
 have hne : ∀ c, okB cx w hv σ c → c ≠ b := fun c hc e => hc.2.2 id o0 K s hid (by rw [e]; exact hs)
 have hok : ∀ c, okB cx w hv σ c → okB cx (setB w b ob) (upd hv id (some o)) σ c ∧ (setB w b ob).heap[c]? = w.heap[c]? := by
  intro c hc
  refine ⟨⟨hc.1, by rw [setB_size]; exact hc.2.1, ?_⟩, setB_other (hne c hc)⟩
  intro id' o' K' s' hid'
  by_cases e : id' = id
  ·subst e
   exact hc.2.2 id' o0 K' s' hid
  ·rw [upd_other _ _ e] at hid'
   exact hc.2.2 id' o' K' s' hid'
 have own_of : ∀ id' o', upd hv id (some o) id' = some o' → ∃ o'', hv id' = some o'' := by
  intro id' o' h'
  by_cases e : id' = id
  ·exact ⟨o0, by rw [e]; exact hid⟩
  ·rw [upd_other _ _ e] at h'; exact ⟨o', h'⟩
 refine ⟨?_, hok⟩
 constructor
 ·exact h.os
 ·exact h.tape
 ·exact h.output
 ·rw [setB_size]; exact h.size
 ·intro c hc hp
  rw [setB_other]
  ·exact h.frame c hc hp
  ·rintro rfl
   rcases (h.new id o0 c K s hid hs).1 with h1 | h1
   ·omega
   ·exact hp h1
 ·intro id' o' hid'
  by_cases e : id' = id
  ·subst e
   rw [upd_same] at hid'
   injection hid' with hid'
   subst hid'
   exact ho _ hok
  ·rw [upd_other _ _ e] at hid'
   refine RO_mono hok (fun _ _ h => h) ?_ (h.own id' o' hid')
   intro c K' s' hs'
   refine setB_other ?_
   rintro rfl
   exact e (h.inj id' id o' o0 c K' s' K s hid' hid hs' hs)
 ·intro id' o' c K' s' hid' hs'
  obtain ⟨o'', h''⟩ := own_of id' o' hid'
  rw [setB_size]
  exact h.new id' o'' c K' s' h'' hs'
 ·intro id1 id2 o1 o2 c K1 s1 K2 s2 h1 h2 h3 h4
  obtain ⟨o1', h1'⟩ := own_of id1 o1 h1
  obtain ⟨o2', h2'⟩ := own_of id2 o2 h2
  exact h.inj id1 id2 o1' o2' c K1 s1 K2 s2 h1' h2' h3 h4

/-- An object is let go, and its block is no matter any more. -/
theorem HR.scrap {cx : Cx} {hv : Nat → Option O} {σ : Nat → Option Loc} {w : World} (h : HR cx hv σ w) {id : Nat} {o0 : O} {b K s : Nat} (hid : hv id = some o0) (hs : σ id = some (.blk b K s)) (ob : Obj) :
  HR cx (upd hv id none) σ (setB w b ob) ∧
  (∀ c, okB cx w hv σ c → okB cx (setB w b ob) (upd hv id none) σ c ∧ (setB w b ob).heap[c]? = w.heap[c]?) := by
 have hne : ∀ c, okB cx w hv σ c → c ≠ b := fun c hc e => hc.2.2 id o0 K s hid (by rw [e]; exact hs)
 have sub : ∀ id' o', upd hv id none id' = some o' → id' ≠ id ∧ hv id' = some o' := by
  intro id' o' h'
  by_cases e : id' = id
  ·subst e; rw [upd_same] at h'; cases h'
  ·rw [upd_other _ _ e] at h'; exact ⟨e, h'⟩
 have hok : ∀ c, okB cx w hv σ c → okB cx (setB w b ob) (upd hv id none) σ c ∧ (setB w b ob).heap[c]? = w.heap[c]? := by
  intro c hc
  refine ⟨⟨hc.1, by rw [setB_size]; exact hc.2.1, ?_⟩, setB_other (hne c hc)⟩
  intro id' o' K' s' hid'
  exact hc.2.2 id' o' K' s' (sub id' o' hid').2
 refine ⟨?_, hok⟩
 constructor
 ·exact h.os
 ·exact h.tape
 ·exact h.output
 ·rw [setB_size]; exact h.size
 ·intro c hc hp
  rw [setB_other]
  ·exact h.frame c hc hp
  ·rintro rfl
   rcases (h.new id o0 c K s hid hs).1 with h1 | h1
   ·omega
   ·exact hp h1
 ·intro id' o' hid'
  obtain ⟨e, hid'⟩ := sub id' o' hid'
  refine RO_mono hok (fun _ _ h => h) ?_ (h.own id' o' hid')
  intro c K' s' hs'
  refine setB_other ?_
  rintro rfl
  exact e (h.inj id' id o' o0 c K' s' K s hid' hid hs' hs)
 ·intro id' o' c K' s' hid' hs'
  rw [setB_size]
  exact h.new id' o' c K' s' (sub id' o' hid').2 hs'
 ·intro id1 id2 o1 o2 c K1 s1 K2 s2 h1 h2 h3 h4
  exact h.inj id1 id2 o1 o2 c K1 s1 K2 s2 (sub _ _ h1).2 (sub _ _ h2).2 h3 h4

/-- An object is let go: its block may hold data from now on. -/
theorem HR.drop {cx : Cx} {hv : Nat → Option O} {σ : Nat → Option Loc} {w : World} (h : HR cx hv σ w) (id : Nat) :
  HR cx (upd hv id none) σ w ∧ (∀ c, okB cx w hv σ c → okB cx w (upd hv id none) σ c) := by
 have sub : ∀ id' o', upd hv id none id' = some o' → hv id' = some o' := by
  intro id' o' h'
  by_cases e : id' = id
  ·subst e; rw [upd_same] at h'; cases h'
  ·rwa [upd_other _ _ e] at h'
 have hok : ∀ c, okB cx w hv σ c → okB cx w (upd hv id none) σ c := fun c hc => ⟨hc.1, hc.2.1, fun id' o' K s h' => hc.2.2 id' o' K s (sub _ _ h')⟩
 refine ⟨?_, hok⟩
 constructor
 ·exact h.os
 ·exact h.tape
 ·exact h.output
 ·exact h.size
 ·exact h.frame
 ·intro id' o' h'
  exact RO_mono (fun b hb => ⟨hok b hb, rfl⟩) (fun _ _ h => h) (fun _ _ _ _ => rfl) (h.own id' o' (sub _ _ h'))
 ·intro id' o' b K s h'
  exact h.new id' o' b K s (sub _ _ h')
 ·intro id1 id2 o1 o2 b K1 s1 K2 s2 h1 h2
  exact h.inj id1 id2 o1 o2 b K1 s1 K2 s2 (sub _ _ h1) (sub _ _ h2)

/-- An object gets another number. -/
theorem HR.rename {cx : Cx} {hv : Nat → Option O} {σ : Nat → Option Loc} {w : World} (h : HR cx hv σ w) {id nid : Nat} {o : O} {l : Loc} (hid : hv id = some o) (hs : σ id = some l) (hn : σ nid = none) (hvn : hv nid = none) :
  HR cx (upd (upd hv id none) nid (some o)) (upd σ nid (some l)) w ∧ (∀ i l', σ i = some l' → upd σ nid (some l) i = some l') ∧
  (∀ c, okB cx w hv σ c → okB cx w (upd (upd hv id none) nid (some o)) (upd σ nid (some l)) c) := by
 have hσ : ∀ i l', σ i = some l' → upd σ nid (some l) i = some l' := by
  intro i l' hl
  rw [upd_other _ _ (by rintro rfl; rw [hn] at hl; cases hl)]
  exact hl
 have cases' : ∀ i o', upd (upd hv id none) nid (some o) i = some o' → (i = nid ∧ o' = o) ∨ (i ≠ nid ∧ i ≠ id ∧ hv i = some o') := by
  intro i o' h'
  by_cases e : i = nid
  ·subst e; rw [upd_same] at h'; injection h' with h'; exact .inl ⟨rfl, h'.symm⟩
  ·rw [upd_other _ _ e] at h'
   by_cases e' : i = id
   ·subst e'; rw [upd_same] at h'; cases h'
   ·rw [upd_other _ _ e'] at h'; exact .inr ⟨e, e', h'⟩
 have hok : ∀ c, okB cx w hv σ c → okB cx w (upd (upd hv id none) nid (some o)) (upd σ nid (some l)) c := by
  intro c hc
  refine ⟨hc.1, hc.2.1, ?_⟩
  intro i o' K s h'
  rcases cases' i o' h' with ⟨rfl, rfl⟩ | ⟨h1, h2, h3⟩
  ·rw [upd_same, ← hs]; exact hc.2.2 id o' K s hid
  ·rw [upd_other _ _ h1]; exact hc.2.2 i o' K s h3
 refine ⟨?_, hσ, hok⟩
 constructor
 ·exact h.os
 ·exact h.tape
 ·exact h.output
 ·exact h.size
 ·exact h.frame
 ·intro i o' h'
  rcases cases' i o' h' with ⟨rfl, rfl⟩ | ⟨h1, h2, h3⟩
  ·have r := RO_mono (fun b hb => ⟨hok b hb, rfl⟩) hσ (fun _ _ _ _ => rfl) (h.own id o' hid)
   have e1 : upd σ i (some l) id = some l := hσ _ _ hs
   have e2 : upd σ i (some l) i = some l := upd_same _ _ _
   cases o' <;> simp only [RO, e1, e2] at r ⊢ <;> exact r
  ·exact RO_mono (fun b hb => ⟨hok b hb, rfl⟩) hσ (fun _ _ _ _ => rfl) (h.own i o' h3)
 ·intro i o' b K s h' hs'
  rcases cases' i o' h' with ⟨rfl, rfl⟩ | ⟨h1, h2, h3⟩
  ·rw [upd_same, ← hs] at hs'; exact h.new id o' b K s hid hs'
  ·rw [upd_other _ _ h1] at hs'; exact h.new i o' b K s h3 hs'
 ·intro i1 i2 o1 o2 b K1 s1 K2 s2 h1 h2 h3 h4
  rcases cases' i1 o1 h1 with ⟨rfl, rfl⟩ | ⟨a1, a2, a3⟩
  ·rcases cases' i2 o2 h2 with ⟨rfl, rfl⟩ | ⟨b1, b2, b3⟩
   ·rfl
   ·rw [upd_same, ← hs] at h3
    rw [upd_other _ _ b1] at h4
    exact absurd (h.inj id i2 o1 o2 b K1 s1 K2 s2 hid b3 h3 h4).symm b2
  ·rw [upd_other _ _ a1] at h3
   rcases cases' i2 o2 h2 with ⟨rfl, rfl⟩ | ⟨b1, b2, b3⟩
   ·rw [upd_same, ← hs] at h4
    exact absurd (h.inj i1 id o1 o2 b K1 s1 K2 s2 a3 hid h3 h4) a2
   ·rw [upd_other _ _ b1] at h4
    exact h.inj i1 i2 o1 o2 b K1 s1 K2 s2 a3 b3 h3 h4

/-- A draw: the heap is as it was. -/
theorem HR.same {cx : Cx} {hv : Nat → Option O} {σ : Nat → Option Loc} {w w' : World} (h : HR cx hv σ w) (h1 : w'.heap = w.heap) (h2 : w'.os = w.os) (h3 : w'.tape = w.tape) (h4 : w'.output = w.output) : HR cx hv σ w' := by
 have hok : ∀ c, okB cx w hv σ c → okB cx w' hv σ c := fun c hc => ⟨hc.1, by rw [h1]; exact hc.2.1, hc.2.2⟩
 constructor
 ·rw [h2]; exact h.os
 ·rw [h3]; exact h.tape
 ·rw [h4]; exact h.output
 ·rw [h1]; exact h.size
 ·rw [h1]; exact h.frame
 ·intro id o hid
  exact RO_mono (fun b hb => ⟨hok b hb, by rw [h1]⟩) (fun _ _ h => h) (fun _ _ _ _ => by rw [h1]) (h.own id o hid)
 ·intro id o b K s a c
  rw [h1]; exact h.new id o b K s a c
 ·exact h.inj

end Go.AX
