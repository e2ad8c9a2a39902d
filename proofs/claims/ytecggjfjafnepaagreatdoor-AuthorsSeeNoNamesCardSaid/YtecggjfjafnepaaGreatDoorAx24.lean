/- AX, part 24: weakening, by a list of what becomes what; an empty slice of one's own; lists of data. -/
import Derived.Test.YtecggjfjafnepaaGreatDoorAx22
set_option linter.unusedSimpArgs false
set_option linter.unusedVariables false
namespace Go.AX
open Go
section
variable {cx : Cx}
theorem Weak.trans {a b c : St} (h : Weak cx a b) (h' : Weak cx b c) : Weak cx a c := fun σ x w hr => by
 obtain ⟨σ', hr'⟩ := h σ x w hr
 exact h' σ' x w hr'
/-- A nil slice becomes an empty slice of one's own. -/
theorem Weak.nil {st : St} (t e s : Nat) (ht : lk st.env t = some .nils) : Weak cx st ⟨st.n, (t, .slr (64 * st.c) 0 0) :: st.env, (64 * st.c, some (.vec e s [])) :: st.H, st.c + 1⟩ := by
 intro σ a w h
 have hfr : σ (64 * st.c) = none := h.fresh _ (by simp)
 let st' : St := ⟨st.n, (t, .slr (64 * st.c) 0 0) :: st.env, (64 * st.c, some (.vec e s [])) :: st.H, st.c + 1⟩
 have hv' : ∀ i, st'.hv i = if 64 * st.c = i then some (.vec e s []) else st.hv i := by
  intro i
  simp only [st', St.hv, lk]
  split <;> simp
 have hno : ∀ o, st.hv (64 * st.c) = some o → False := by
  intro o ho
  have := h.hr.own _ _ ho
  obtain ⟨l, hl⟩ := RO_some this
  rw [hfr] at hl; cases hl
 let σ' : Nat → Option Loc := fun i => if i = 64 * st.c then some .nil else σ i
 have s1 : σ' (64 * st.c) = some .nil := by simp [σ']
 have s2 : ∀ i, i ≠ 64 * st.c → σ' i = σ i := fun i hi => by simp [σ', hi]
 have ext : ∀ id l, σ id = some l → σ' id = some l := by
  intro id l hl
  rw [s2 id (fun e => by rw [e, hfr] at hl; cases hl)]; exact hl
 have ok : ∀ b, okB cx w st.hv σ b → okB cx w st'.hv σ' b ∧ w.heap[b]? = w.heap[b]? := by
  intro b hb
  refine ⟨⟨hb.1, hb.2.1, fun id o K s' ho hs => ?_⟩, rfl⟩
  by_cases hi : id = 64 * st.c
  ·subst hi; rw [s1] at hs; cases hs
  ·rw [hv', if_neg (fun e => hi e.symm)] at ho
   rw [s2 id hi] at hs
   exact hb.2.2 id o K s' ho hs
 have old : ∀ id o, st'.hv id = some o → id ≠ 64 * st.c → st.hv id = some o := by
  intro id o ho hi
  rw [hv', if_neg (fun e => hi e.symm)] at ho
  exact ho
 refine ⟨σ', ?_⟩
 have H := h.hr
 refine ⟨⟨H.os, H.tape, H.output, H.size, H.frame, ?_, ?_, ?_⟩, ?_, ?_, h.tmps, h.defers, ?_⟩
 ·intro id o ho
  by_cases hi : id = 64 * st.c
  ·subst hi
   rw [hv', if_pos rfl] at ho
   cases ho
   exact .inl ⟨s1, rfl⟩
  ·exact RO_mono ok ext (fun _ _ _ _ => rfl) (H.own id o (old id o ho hi))
 ·intro id o b K s' ho hs
  by_cases hi : id = 64 * st.c
  ·subst hi; rw [s1] at hs; cases hs
  ·rw [s2 id hi] at hs; exact H.new id o b K s' (old id o ho hi) hs
 ·intro id id' o o' b K s' K' s'' ho ho' hs hs'
  by_cases hi : id = 64 * st.c
  ·subst hi; rw [s1] at hs; cases hs
  ·by_cases hi' : id' = 64 * st.c
   ·subst hi'; rw [s1] at hs'; cases hs'
   ·rw [s2 id hi] at hs; rw [s2 id' hi'] at hs'
    exact H.inj id id' o o' b K s' K' s'' (old id o ho hi) (old id' o' ho' hi') hs hs'
 ·intro id hid
  have hid : st.c + 1 ≤ id / 64 := hid
  rw [s2 id (by omega)]
  exact h.fresh id (by show st.c ≤ id / 64; omega)
 ·intro id l hl; exact ext id l (h.par id l hl)
 ·intro t' v hv
  simp only [lk] at hv
  split at hv
  ·rename_i e
   cases hv
   subst e
   have := h.env t .nils ht
   simp only [RV] at this ⊢
   exact .inl ⟨s1, trivial, trivial, none, this⟩
  ·exact RV_mono ok ext v _ (h.env t' v hv)

def gL (m : List (Nat × Nat)) (i : Nat) : Nat := match lk m i with
 | some j => j
 | none => i
def kL (k : Nat) (m : List (Nat × Nat)) (i : Nat) : Bool := Nat.blt i k || m.any fun p => Nat.beq p.2 i
/-- Weakening: m says which object of the old state is one of the new state. -/
theorem Weak.objs {k : Nat} (hcx : CxOk cx k) {st st' : St} (m : List (Nat × Nat)) (hm : m.all (fun p => Nat.ble k p.1) = true) (hn : st'.n = st.n) (hkc : k ≤ st'.c)
  (he : ∀ p ∈ st'.env, ∃ v, lk st.env p.1 = some v ∧ frz st.hv (kL k m) v = p.2.ren (gL m) ∧ p.2.bel (64 * st'.c) = true)
  (hh : ∀ p ∈ st'.H, ∃ o, p.2 = some o ∧ p.1 < 64 * st'.c ∧ o.bel (64 * st'.c) = true ∧ kL k m (gL m p.1) = true ∧ ∃ o', st.hv (gL m p.1) = some o' ∧ o'.frz st.hv (kL k m) = o.ren (gL m))
  (hpk : ∀ i, i < k → ∃ o, st.hv i = some o)
  (hinj : (st'.H.map fun p => gL m p.1).Nodup) : Weak cx st st' := by
 refine Weak.go hcx (gL m) (kL k m) hn ?_ hkc he hh (fun i hi => ⟨?_, hpk i hi⟩) ?_
 ·intro i hi
  unfold gL
  cases hl : lk m i with
  | none => rfl
  | some j =>
   exfalso
   have : ∀ (m : List (Nat × Nat)), m.all (fun p => Nat.ble k p.1) = true → lk m i = some j → False := by
    intro m
    induction m with
    | nil => intro _ h; simp [lk] at h
    | cons p m ih =>
     obtain ⟨a, b⟩ := p
     intro h1 h2
     simp only [List.all_cons, Bool.and_eq_true] at h1
     simp only [lk] at h2
     split at h2
     ·rename_i e; have := Nat.le_of_ble_eq_true h1.1; omega
     ·exact ih h1.2 h2
   exact this m hm hl
 ·have : Nat.blt i k = true := Nat.ble_eq_true_of_le hi
  simp [kL, this]
 ·intro p hp q hq e
  have key : ∀ l : List (Nat × Option O), (l.map fun p => gL m p.1).Nodup → p ∈ l → q ∈ l → p.1 = q.1 := by
   intro l
   induction l with
   | nil => intro _ h; cases h
   | cons x l ih =>
    intro hd h1 h2
    simp only [List.map_cons, List.nodup_cons, List.mem_map, not_exists, not_and] at hd
    rcases List.mem_cons.1 h1 with e1 | h1 <;> rcases List.mem_cons.1 h2 with e2 | h2
    ·rw [e1, e2]
    ·exact absurd (by rw [← e1]; exact e.symm) (hd.1 q h2)
    ·exact absurd (by rw [← e2]; exact e) (hd.1 p h1)
    ·exact ih hd.2 h1 h2
  exact key _ hinj hp hq
end

theorem pk0 {hv : Nat → Option O} : ∀ i, i < 0 → ∃ o, hv i = some o := fun i hi => absurd hi (Nat.not_lt_zero _)
theorem pk1 {hv : Nat → Option O} (a : ∃ o, hv 0 = some o) : ∀ i, i < 1 → ∃ o, hv i = some o
 | 0, _ => a
 | n + 1, h => absurd h (Nat.not_lt.2 (Nat.le_add_left 1 n))
theorem pk2 {hv : Nat → Option O} (a : ∃ o, hv 0 = some o) (b : ∃ o, hv 1 = some o) : ∀ i, i < 2 → ∃ o, hv i = some o
 | 0, _ => a
 | 1, _ => b
 | n + 2, h => absurd h (Nat.not_lt.2 (Nat.le_add_left 2 n))
theorem pk3 {hv : Nat → Option O} (a : ∃ o, hv 0 = some o) (b : ∃ o, hv 1 = some o) (c : ∃ o, hv 2 = some o) : ∀ i, i < 3 → ∃ o, hv i = some o
 | 0, _ => a
 | 1, _ => b
 | 2, _ => c
 | n + 3, h => absurd h (Nat.not_lt.2 (Nat.le_add_left 3 n))
theorem pk4 {hv : Nat → Option O} (a : ∃ o, hv 0 = some o) (b : ∃ o, hv 1 = some o) (c : ∃ o, hv 2 = some o) (d : ∃ o, hv 3 = some o) : ∀ i, i < 4 → ∃ o, hv i = some o
 | 0, _ => a
 | 1, _ => b
 | 2, _ => c
 | 3, _ => d
 | n + 4, h => absurd h (Nat.not_lt.2 (Nat.le_add_left 4 n))
/-- The objects that a call is handed. -/
def chkO (hv : Nat → Option O) (g : Nat → Nat) : Nat → List O → Prop
 | _, [] => True
 | i, o :: os => hv (g i) = some o ∧ chkO hv g (i + 1) os
theorem chkO_get {hv : Nat → Option O} {g : Nat → Nat} : ∀ {os : List O} {k i : Nat} {o : O}, chkO hv g k os → os[i]? = some o → hv (g (k + i)) = some o
 | [], _, _, _, _, h => by simp at h
 | q :: os, k, i, o, hc, h => by
  cases i with
  | zero => simp at h; subst h; exact hc.1
  | succ i =>
   have := chkO_get hc.2 (i := i) (by simpa using h)
   have e : k + 1 + i = k + (i + 1) := by omega
   rw [← e]; exact this
def renOs (g : Nat → Nat) : List O → List O
 | [] => []
 | o :: os => o.ren g :: renOs g os
theorem renOs_get {g : Nat → Nat} : ∀ {os : List O} {i : Nat} {o : O}, renOs g os = os → os[i]? = some o → o.ren g = o
 | [], _, _, _, h => by simp at h
 | q :: os, i, o, hc, h => by
  simp only [renOs, List.cons.injEq] at hc
  cases i with
  | zero => simp at h; subst h; exact hc.1
  | succ i => exact renOs_get hc.2 (i := i) (by simpa using h)
/-- A call that is handed objects of data. -/
theorem Does.objs {P : Program} {f : FuncId} {ys : List V} {os : List O} {x : V} {os' : List O} (hd : Does P f ys os x os') (ids : List Nat) {hv : Nat → Option O} {nid : Nat} (hids : chkO hv (gOf ids nid) 0 os) (hl : ids.length = os.length) (hnd : ids.Nodup)
  (hren : renOs (gOf ids nid) os = os) (hl' : os.length ≤ os'.length) (hl2 : os'.length ≤ os.length + 64)
  (hbel : ys.all (V.bel os.length) = true) (hbo : os.all (O.bel os.length) = true) (hbx : x.bel os'.length = true) (hbo' : os'.all (O.bel os'.length) = true) :
  CallStep P hv nid f (renL (gOf ids nid) ys) (x.ren (gOf ids nid)) (updsOf (gOf ids nid) 0 os') :=
 CallStep.of_does hd ids hl hnd (fun i o h => by have := chkO_get hids h; rw [Nat.zero_add] at this; rw [this, renOs_get hren h]) hl' hl2 hbel hbo hbx hbo'
/-- The same; what is known is found. -/
theorem Does.objA {P : Program} {f : FuncId} {ys : List V} {os : List O} {x : V} {os' : List O} (hd : Does P f ys os x os') (ids : List Nat) {hv : Nat → Option O} {nid : Nat} (hids : chkO hv (gOf ids nid) 0 os := by (repeat' (first | exact trivial | refine ⟨rfl, ?_⟩)) <;> fail) (hl : ids.length = os.length := by exact rfl) (hnd : ids.Nodup := by decide)
  (hren : renOs (gOf ids nid) os = os := by simp [go_sem, renOs]) (hl' : os.length ≤ os'.length := by simp) (hl2 : os'.length ≤ os.length + 64 := by simp)
  (hbel : ys.all (V.bel os.length) = true := by simp [go_sem]) (hbo : os.all (O.bel os.length) = true := by simp [go_sem]) (hbx : x.bel os'.length = true := by simp [go_sem]) (hbo' : os'.all (O.bel os'.length) = true := by simp [go_sem]) :
  CallStep P hv nid f (renL (gOf ids nid) ys) (x.ren (gOf ids nid)) (updsOf (gOf ids nid) 0 os') := hd.objs ids hids hl hnd hren hl' hl2 hbel hbo hbx hbo'

/-! ### lists of data -/
@[go_sem] theorem renL_dv (g : Nat → Nat) : ∀ xs : List D, renL g (dv xs) = dv xs
 | [] => rfl
 | x :: xs => by
  have := renL_dv g xs
  simp only [dv, List.map_cons, renL, V.ren] at this ⊢
  rw [this]
@[go_sem] theorem frzL_dv (hv : Nat → Option O) (keep : Nat → Bool) : ∀ xs : List D, frzL hv keep (dv xs) = dv xs
 | [] => by simp only [dv, List.map_nil, frzL]
 | x :: xs => by
  have := frzL_dv hv keep xs
  simp only [dv, List.map_cons, frzL, frz] at this ⊢
  rw [this]
@[go_sem] theorem belL_dv (n : Nat) : ∀ xs : List D, belL n (dv xs) = true
 | [] => rfl
 | x :: xs => by
  have := belL_dv n xs
  simp only [dv, List.map_cons, belL, V.bel, Bool.true_and] at this ⊢
  exact this
@[go_sem] theorem dv_length (xs : List D) : (dv xs).length = xs.length := by simp [dv]
theorem dv_take {xs : List D} {n : Nat} (h : xs.length ≤ n) : (dv xs).take n = dv xs := List.take_of_length_le (by simpa [dv] using h)
@[go_sem] theorem dv_take1 (xs : List D) : (dv xs).take xs.length = dv xs := dv_take (Nat.le_refl _)
@[go_sem] theorem dv_take2 {α : Type} (f : α → D) (xs : List α) : (dv (xs.map f)).take xs.length = dv (xs.map f) := dv_take (by simp)
theorem dv_push (xs : List D) (x : D) : dv xs ++ [V.d x] = dv (xs ++ [x]) := by simp [dv]
@[go_sem] theorem dv_nil : dv [] = [] := rfl
theorem toDL_dv (hv : Nat → Option O) (keep : Nat → Bool) (n : Nat) : ∀ xs : List D, toDL (toD hv keep (n + 1)) (dv xs) = some xs
 | [] => rfl
 | x :: xs => by
  have := toDL_dv hv keep n xs
  simp only [dv] at this
  simp only [dv, List.map_cons, toDL, this]
  simp only [toD]
/-- A slice of one's own that is let go is data. -/
theorem frz_slr {hv : Nat → Option O} {keep : Nat → Bool} {id e s n : Nat} {xs : List D} (hk : keep id = false) (h : hv id = some (.vec e s (dv xs))) (hn : n = xs.length) : frz hv keep (.slr id 0 n) = .d (.sl xs) := by
 subst hn
 have e : toD hv keep 8 (.slr id 0 xs.length) = some (.sl xs) := by
  rw [toD]
  simp only [hk, Bool.false_eq_true, if_false, h, dv_length, Nat.zero_add, Nat.le_refl, if_true, List.drop_zero]
  rw [dv_take (Nat.le_refl _), show toDL (toD hv keep 7) (dv xs) = some xs from toDL_dv hv keep 6 xs]
 simp only [frz, hk, Bool.false_eq_true, if_false, e]
end Go.AX
