/- AX, part 3: types, constants, loads and stores of the model over blocks. -/
import Derived.Test.YtecggjfjafnepaaGreatDoorAx2
import Derived.Laws.Cells
import Derived.Laws.NewFold
namespace Go.AX
open Go

/-- Fits one cell. -/
def V.single : V → Bool
 | .top => false
 | .k v => v.oneCell'
 | .agg _ => false
 | .tup _ => false
 | .d (.agg _) => false
 | _ => true
def D.single : D → Bool
 | .agg _ => false
 | _ => true

def V.cells : V → List V
 | .agg cs => cs
 | .d (.agg cs) => cs.map .d
 | v => [v]
def D.cells : D → List D
 | .agg cs => cs
 | x => [x]

/-- Abstract values as data, if they are. -/
def V.asD : V → Option D
 | .d x => some x
 | _ => none
def pureL : List V → Option (List D)
 | [] => some []
 | v :: r => match v.asD, pureL r with
  | some x, some xs => some (x :: xs)
  | _, _ => none
def mkAgg (cs : List V) : V := match pureL cs with
 | some ds => .d (.agg ds)
 | none => .agg cs

section
variable {w : World} {ok : Nat → Prop} {σ : Nat → Option Loc}

theorem RD_asD {v : V} {x : D} {u : Value} (h : v.asD = some x) (r : RV w ok σ v u) : RD w ok x u := by
 cases v <;> simp [V.asD] at h
 subst h; simpa only [RV] using r

theorem pureL_spec : ∀ {cs : List V} {ds : List D} {vs : List Value}, pureL cs = some ds → RVl w ok σ cs vs → ds.length = vs.length ∧ ∀ (i : Nat) (x : D), ds[i]? = some x → ∃ v, vs[i]? = some v ∧ RD w ok x v
 | [], ds, vs, h, r => by
  simp [pureL] at h
  subst h
  simp only [RVl] at r
  subst r
  simp
 | v :: cs, ds, vs, h, r => by
  simp only [pureL] at h
  split at h
  ·rename_i x xs h1 h2
   simp at h
   subst h
   simp only [RVl] at r
   obtain ⟨u, us, rfl, hu, hus⟩ := r
   obtain ⟨hl, hg⟩ := pureL_spec h2 hus
   refine ⟨by simp [hl], fun i y hy => ?_⟩
   cases i with
   | zero => simp at hy; subst hy; exact ⟨u, rfl, RD_asD h1 hu⟩
   | succ i => simpa using hg i y (by simpa using hy)
  ·cases h

theorem RV_mkAgg {cs : List V} {c : Array Value} (r : RVl w ok σ cs c.toList) : RV w ok σ (mkAgg cs) (.agg c) := by
 unfold mkAgg
 split
 ·rename_i ds h
  obtain ⟨hl, hg⟩ := pureL_spec h r
  simp only [RV, RD]
  refine ⟨c, rfl, by simpa using hl.symm, RDcs_of fun i x hx => ?_⟩
  simpa using hg i x hx
 ·simp only [RV]
  exact ⟨c, rfl, r⟩

theorem oneCell_of_RD {x : D} {v : Value} (h : x.single = true) (r : RD w ok x v) : v.oneCell' = true := by
 cases x <;> simp [D.single] at h <;> simp only [RD] at r
 case bool | int | str | nilp | nili => subst r; rfl
 case sl => obtain ⟨a, n, cap, rfl, _⟩ := r; rfl
 case map => obtain ⟨m, rfl, _⟩ := r; rfl
 case ptr => obtain ⟨b, off, c, e, fr, rfl, _⟩ := r; rfl

theorem oneCell_of_RV {x : V} {v : Value} (h : x.single = true) (r : RV w ok σ x v) : v.oneCell' = true := by
 cases x with
 | top => simp [V.single] at h
 | k u => simp only [RV] at r; subst r; simpa only [V.single] using h
 | d x => simp only [RV] at r; refine oneCell_of_RD ?_ r; cases x <;> simp_all [V.single, D.single]
 | nils => simp only [RV] at r; subst r; rfl
 | agg cs => simp [V.single] at h
 | tup cs => simp [V.single] at h
 | ptr id j => simp only [RV] at r; obtain ⟨b, K, s, _, rfl⟩ := r; rfl
 | pe id i j => simp only [RV] at r; obtain ⟨b, K, s, _, rfl⟩ := r; rfl
 | slr id lo n => simp only [RV] at r; rcases r with ⟨_, _, _, _, rfl⟩ | ⟨b, K, s, a, cap, _, rfl, _⟩ <;> rfl
 | mpr id => simp only [RV] at r; obtain ⟨b, K, s, _, rfl⟩ := r; rfl
 | fn f caps => simp only [RV] at r; obtain ⟨c, rfl, _⟩ := r; rfl

theorem cells_of_one {v : Value} (h : v.oneCell' = true) : v.cells = #[v] := by
 cases v <;> simp_all [Value.cells, Value.oneCell']

theorem RVl_map_d : ∀ {ds : List D} {vs : List Value}, ds.length = vs.length → (∀ (i : Nat) x, ds[i]? = some x → ∃ v, vs[i]? = some v ∧ RD w ok x v) → RVl w ok σ (ds.map .d) vs
 | [], vs, hl, _ => by simp only [List.map_nil, RVl]; simpa using hl.symm
 | x :: xs, [], hl, _ => by simp at hl
 | x :: xs, v :: vs, hl, h => by
  simp only [List.map_cons, RVl]
  obtain ⟨v', hv', r⟩ := h 0 x rfl
  simp at hv'
  subst hv'
  refine ⟨v, vs, rfl, by simpa only [RV] using r, RVl_map_d (by simpa using hl) fun i y hy => ?_⟩
  simpa using h (i + 1) y (by simpa using hy)

theorem RDcs_list {ds : List D} {c : Array Value} (r : RDcs w ok c 0 ds) : ∀ (i : Nat) x, ds[i]? = some x → ∃ v, c.toList[i]? = some v ∧ RD w ok x v := by
 intro i x hx
 obtain ⟨v, hv, hr⟩ := RDcs_get r hx
 exact ⟨v, by simpa using hv, hr⟩

/-- The cells of a value are the abstract cells. -/
theorem RVl_cells {x : V} {v : Value} (r : RV w ok σ x v) (h : x.single = true ∨ (∃ cs, x = .agg cs) ∨ ∃ cs, x = .d (.agg cs)) : RVl w ok σ x.cells v.cells.toList := by
 rcases h with h | ⟨cs, rfl⟩ | ⟨cs, rfl⟩
 ·have h1 := oneCell_of_RV h r
  rw [cells_of_one h1]
  have : x.cells = [x] := by
   cases x with
   | d y => cases y <;> simp_all [V.cells, V.single]
   | _ => simp_all [V.cells, V.single]
  rw [this]
  simp only [RVl]
  exact ⟨v, [], rfl, r, rfl⟩
 ·simp only [RV] at r
  obtain ⟨c, rfl, hr⟩ := r
  exact hr
 ·simp only [RV, RD] at r
  obtain ⟨c, rfl, hl, hr⟩ := r
  exact RVl_map_d (by simpa [Value.cells] using hl.symm) (RDcs_list hr)
end

/-- A constant as an abstract value. -/
def constS : Value → V
 | .bool b => .d (.bool b)
 | .int k n => .d (.int k n)
 | .string s => .d (.str s.data.toList)
 | .slice none 0 0 => .nils
 | .pointer none => .d .nilp
 | .map none => .d (.map [] [])
 | .nilIface => .d .nili
 | .nilFunc => .k .nilFunc
 | _ => .top
def constV : Value → V
 | .agg cs => mkAgg (cs.toList.map constS)
 | v => constS v

section
variable {w : World} {ok : Nat → Prop} {σ : Nat → Option Loc}
theorem RV_constS (v : Value) : RV w ok σ (constS v) v := by
 unfold constS
 split <;> simp only [RV, RD]
 ·refine ⟨none, rfl, .inl ⟨by trivial, by trivial, by trivial⟩⟩
theorem RVl_constS : ∀ vs : List Value, RVl w ok σ (vs.map constS) vs
 | [] => by simp only [List.map_nil, RVl]
 | v :: vs => by simp only [List.map_cons, RVl]; exact ⟨v, vs, rfl, RV_constS v, RVl_constS vs⟩
theorem RV_constV (v : Value) : RV w ok σ (constV v) v := by
 unfold constV
 split
 ·exact RV_mkAgg (RVl_constS _)
 ·exact RV_constS _
end

inductive TU where
 | bool | int (k : IntKind) | str | ptr (e : Nat) | slice (e : Nat) | arr (n e : Nat) | struct (fs : List (Nat × Nat)) | map (k e : Nat) | func | iface | uptr | other
def TU.agg : TU → Bool
 | .arr _ _ => true
 | .struct _ => true
 | _ => false
structure TI where
 u : TU
 size : Nat
 bytes : Nat
 zero : V
def tuOf : TypeDesc → TU
 | .bool => .bool
 | .int k => .int k
 | .string => .str
 | .pointer e => .ptr e
 | .slice e => .slice e
 | .array n e => .arr n e
 | .struct fs => .struct (fs.toList.map fun f => (f.offset, f.type))
 | .map k e => .map k e
 | .func _ _ _ => .func
 | .interface _ => .iface
 | .unsafePointer => .uptr
 | _ => .other
def tiOf (P : Program) (t : TypeId) : Option TI :=
 match P.info? t, P.underlying t with
 | some i, some d => match i.zero with
  | some z => some { u := tuOf d, size := i.size, bytes := i.bytes, zero := constV z }
  | none => none
 | _, _ => none
theorem tiOf_spec {P : Program} {t : TypeId} {ti : TI} (h : tiOf P t = some ti) :
  ∃ i d z, P.info? t = some i ∧ P.underlying t = some d ∧ i.zero = some z ∧ ti.u = tuOf d ∧ ti.size = i.size ∧ ti.bytes = i.bytes ∧ ti.zero = constV z := by
 unfold tiOf at h
 split at h
 ·rename_i i d h1 h2
  split at h
  ·rename_i z hz
   simp at h
   subst h
   exact ⟨i, d, z, h1, h2, hz, rfl, rfl, rfl, rfl⟩
  ·cases h
 ·cases h

section
variable {P : Program} {w : World}
theorem run_underlying' {t : TypeId} {d : TypeDesc} (h : P.underlying t = some d) : (underlying t).run P w = .ok d w := by
 simp [underlying, h]
theorem run_typeInfo' {t : TypeId} {i : TypeInfo} (h : P.info? t = some i) : (typeInfo t).run P w = .ok i w := by
 simp [typeInfo, h]
theorem run_sizeOf' {t : TypeId} {i : TypeInfo} (h : P.info? t = some i) : (sizeOf t).run P w = .ok i.size w := by
 simp [sizeOf, run_typeInfo' h]
theorem run_zeroValue' {t : TypeId} {i : TypeInfo} {z : Value} (h : P.info? t = some i) (hz : i.zero = some z) : (zeroValue t).run P w = .ok z w := by
 simp [zeroValue, run_typeInfo' h, hz]
theorem run_isAgg' {t : TypeId} {d : TypeDesc} (h : P.underlying t = some d) : (isAgg t).run P w = .ok (tuOf d).agg w := by
 simp only [isAgg, Sem.run_bind, run_underlying' h, Result.andThen_ok]
 cases d <;> simp [tuOf, TU.agg]

theorem cell_of {b off : Nat} {c : Array Value} {e : TypeId} {fr : Nat × Nat} (h : w.heap[b]? = some (.cells c e fr)) : w.cell? ⟨b, off, none⟩ = c[off]? := by
 simp [World.cell?, h]
theorem run_load' {b off : Nat} {c : Array Value} {e : TypeId} {fr : Nat × Nat} {v : Value} (h : w.heap[b]? = some (.cells c e fr)) (hv : c[off]? = some v) :
  (load ⟨b, off, none⟩).run P w = .ok v w := by
 simp [cell_of h, hv]
theorem run_loadCells' {b off n : Nat} {c : Array Value} {e : TypeId} {fr : Nat × Nat} (h : w.heap[b]? = some (.cells c e fr)) (hn : off + n ≤ c.size) :
  (loadCells ⟨b, off, none⟩ n).run P w = .ok (c.extract off (off + n)) w := by
 have := run_loadCells_list (P := P) (w := w) ⟨b, off, none⟩ (c.extract off (off + n)).toList (by
  intro j v hj
  have e1 : Addr.add ⟨b, off, none⟩ j = ⟨b, off + j, none⟩ := by
   unfold Addr.add; split
   ·rename_i h0; subst h0; rfl
   ·rfl
  rw [e1, cell_of h]
  simp only [Array.getElem?_toList, Array.getElem?_extract] at hj
  split at hj
  ·exact hj
  ·cases hj)
 have hl : (c.extract off (off + n)).toList.length = n := by simp; omega
 rw [hl] at this
 rw [this]
theorem run_loadVar' {t : TypeId} {i : TypeInfo} {d : TypeDesc} (hi : P.info? t = some i) (hd : P.underlying t = some d) {b off : Nat} {c : Array Value} {e : TypeId} {fr : Nat × Nat}
  (h : w.heap[b]? = some (.cells c e fr)) :
  ((tuOf d).agg = true → off + i.size ≤ c.size → (loadVar t ⟨b, off, none⟩).run P w = .ok (.agg (c.extract off (off + i.size))) w) ∧
  ((tuOf d).agg = false → ∀ v, c[off]? = some v → (loadVar t ⟨b, off, none⟩).run P w = .ok v w) := by
 refine ⟨fun ha hn => ?_, fun ha v hv => ?_⟩
 ·simp only [loadVar, Sem.run_bind, run_isAgg' hd, Result.andThen_ok, ha, if_true, run_sizeOf' hi, run_loadCells' h hn, Sem.run_pure]
 ·simp only [loadVar, Sem.run_bind, run_isAgg' hd, Result.andThen_ok, ha, Bool.false_eq_true, if_false, run_load' h hv]

/-- Cells written one behind the other. -/
def setL (c : Array Value) (off : Nat) : List Value → Array Value
 | [] => c
 | v :: vs => setL (c.setIfInBounds off v) (off + 1) vs
theorem setL_size : ∀ (vs : List Value) (c : Array Value) (off : Nat), (setL c off vs).size = c.size
 | [], _, _ => rfl
 | v :: vs, c, off => by simp [setL, setL_size vs]
theorem setL_get : ∀ (vs : List Value) (c : Array Value) (off i : Nat), off + vs.length ≤ c.size →
  (setL c off vs)[i]? = if off ≤ i ∧ i < off + vs.length then vs[i - off]? else c[i]?
 | [], c, off, i, _ => by simp [setL]; intro; omega
 | v :: vs, c, off, i, h => by
  simp only [setL]
  simp only [List.length_cons] at h ⊢
  rw [setL_get vs _ _ _ (by simp; omega)]
  by_cases h1 : off + 1 ≤ i ∧ i < off + 1 + vs.length
  ·rw [if_pos h1, if_pos (by omega)]
   have : i - off = (i - (off + 1)) + 1 := by omega
   rw [this, List.getElem?_cons_succ]
  ·rw [if_neg h1]
   rw [Array.getElem?_setIfInBounds]
   by_cases h2 : off = i
   ·subst h2
    rw [if_pos rfl, if_pos (by omega), if_pos (by omega)]
    simp
   ·rw [if_neg h2, if_neg (by omega)]

theorem run_store' {b off : Nat} {c : Array Value} {e : TypeId} {fr : Nat × Nat} {v : Value} (h : w.heap[b]? = some (.cells c e fr)) (ho : off < c.size) (hf : FrOk c.size fr) (hv : v.oneCell' = true) :
  (store ⟨b, off, none⟩ v).run P w = .ok () (setB w b (.cells (c.setIfInBounds off v) e fr)) := by
 rw [run_store P w _ v _ hv, cell_of h]
 have hc : c[off]? = some c[off] := Array.getElem?_eq_getElem ho
 rw [hc]
 have hfz : w.frozen? ⟨b, off, none⟩ = false := by
  simp only [World.frozen?, h]
  have := hf off ho
  simp
  omega
 simp only [hfz, Bool.false_eq_true, if_false]
 congr 1
 have hb := heap_lt h
 have hg : w.heap[b] = .cells c e fr := by simpa [Array.getElem?_eq_getElem hb] using h
 unfold World.setCell setB
 congr 1
 apply Array.ext_getElem?
 intro i
 rw [Array.getElem?_modify, Array.getElem?_setIfInBounds]
 by_cases hi : b = i
 ·subst hi
  simp [hb, hg]
 ·simp [hi]
theorem addr_add (b off i : Nat) : Addr.add ⟨b, off, none⟩ i = ⟨b, off + i, none⟩ := by
 unfold Addr.add; split
 ·rename_i h0; subst h0; rfl
 ·rfl
theorem run_storeCells' : ∀ (vs : List Value) (i : Nat) (w : World) (c : Array Value) {b off : Nat} {e : TypeId} {fr : Nat × Nat}, w.heap[b]? = some (.cells c e fr) → off + i + vs.length ≤ c.size → FrOk c.size fr → (∀ v ∈ vs, v.oneCell' = true) →
  (storeCells ⟨b, off, none⟩ vs i).run P w = .ok () (if vs = [] then w else setB w b (.cells (setL c (off + i) vs) e fr))
 | [], i, w, c, b, off, e, fr, _, _, _, _ => by simp [storeCells]
 | v :: vs, i, w, c, b, off, e, fr, h, hn, hf, hv => by
  simp only [List.length_cons] at hn
  simp only [storeCells, Sem.run_bind, addr_add, run_store' h (show off + i < c.size by omega) hf (hv v (by simp)), Result.andThen_ok]
  have hb := heap_lt h
  rw [run_storeCells' vs (i + 1) _ (c.setIfInBounds (off + i) v) (setB_same hb) (by simp; omega) (by simpa using hf) (fun u hu => hv u (by simp [hu]))]
  simp only [setL, reduceCtorEq, if_false]
  by_cases hvs : vs = []
  ·subst hvs; simp [setL]
  ·simp only [hvs, if_false, setB_twice]; rfl
end
end Go.AX
