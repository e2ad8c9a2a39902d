/- AX, part 5: loads, stores, addresses, aggregates. -/
import Derived.Test.YtecggjfjafnepaaGreatDoorAx4
namespace Go.AX
open Go

def V.storable : V → Bool
 | .top => false
 | .k v => v.oneCell'
 | .tup _ => false
 | _ => true
theorem storable_cases {x : V} (h : x.storable = true) : x.single = true ∨ (∃ cs, x = .agg cs) ∨ ∃ cs, x = .d (.agg cs) := by
 cases x with
 | d y => cases y <;> simp [V.single]
 | agg cs => simp
 | _ => simp_all [V.storable, V.single]

def V.isAgg : V → Bool
 | .agg _ => true
 | .d (.agg _) => true
 | _ => false
/-- Cells written into a list. -/
def putL {α : Type} (vs : List α) (j : Nat) (cs : List α) : List α := vs.take j ++ cs ++ vs.drop (j + cs.length)

theorem putL_length {α : Type} {vs cs : List α} {j : Nat} (h : j + cs.length ≤ vs.length) : (putL vs j cs).length = vs.length := by
 simp [putL]; omega
theorem putL_get {α : Type} {vs cs : List α} {j : Nat} (h : j + cs.length ≤ vs.length) (i : Nat) : (putL vs j cs)[i]? = if j ≤ i ∧ i < j + cs.length then cs[i - j]? else vs[i]? := by
 unfold putL
 have hl : (vs.take j).length = j := by simp; omega
 by_cases h1 : i < j
 ·rw [if_neg (by omega), List.append_assoc, List.getElem?_append_left (by omega), List.getElem?_take_of_lt h1]
 ·by_cases h2 : i < j + cs.length
  ·rw [if_pos (by omega), List.getElem?_append_left (by simp; omega), List.getElem?_append_right (by omega), hl]
  ·rw [if_neg (by omega), List.getElem?_append_right (by simp; omega), List.getElem?_drop]
   congr 1
   simp
   omega

theorem setL_toList (c : Array Value) (off : Nat) (vs : List Value) (h : off + vs.length ≤ c.size) : (setL c off vs).toList = putL c.toList off vs := by
 apply List.ext_getElem?
 intro i
 rw [putL_get (by simpa using h)]
 have := setL_get vs c off i h
 simpa using this

section
variable {w : World} {ok : Nat → Prop} {σ : Nat → Option Loc}
theorem RVl_append : ∀ {xs ys : List V} {us vs : List Value}, RVl w ok σ xs us → RVl w ok σ ys vs → RVl w ok σ (xs ++ ys) (us ++ vs)
 | [], ys, us, vs, h1, h2 => by simp only [RVl] at h1; subst h1; simpa using h2
 | x :: xs, ys, us, vs, h1, h2 => by
  simp only [RVl] at h1
  obtain ⟨u, us', rfl, hu, hus⟩ := h1
  simp only [List.cons_append, RVl]
  exact ⟨u, us' ++ vs, rfl, hu, RVl_append hus h2⟩
theorem RVl_take {xs : List V} {us : List Value} (h : RVl w ok σ xs us) (n : Nat) : RVl w ok σ (xs.take n) (us.take n) := by
 have hl := RVl_length h
 refine RVl_of (by simp; omega) fun i x v hx hv => ?_
 rw [List.getElem?_take] at hx hv
 split at hx
 ·rename_i hi
  rw [if_pos hi] at hv
  obtain ⟨v', h1, h2⟩ := RVl_get h hx
  rw [h1] at hv
  cases hv
  exact h2
 ·cases hx
theorem RVl_drop {xs : List V} {us : List Value} (h : RVl w ok σ xs us) (n : Nat) : RVl w ok σ (xs.drop n) (us.drop n) := by
 have hl := RVl_length h
 refine RVl_of (by simp; omega) fun i x v hx hv => ?_
 rw [List.getElem?_drop] at hx hv
 obtain ⟨v', h1, h2⟩ := RVl_get h hx
 rw [h1] at hv
 cases hv
 exact h2
theorem RVl_putL {xs ys : List V} {us vs : List Value} (h : RVl w ok σ xs us) (h' : RVl w ok σ ys vs) (j : Nat) : RVl w ok σ (putL xs j ys) (putL us j vs) := by
 unfold putL
 rw [RVl_length h']
 exact RVl_append (RVl_append (RVl_take h j) h') (RVl_drop h _)
theorem oneCells {xs : List V} {us : List Value} (h : RVl w ok σ xs us) (hs : xs.all V.single = true) : ∀ v ∈ us, v.oneCell' = true := by
 intro v hv
 obtain ⟨i, hi⟩ := List.getElem?_of_mem hv
 have hl := RVl_length h
 have hlt : i < xs.length := by
  rcases Nat.lt_or_ge i us.length with h' | h'
  ·omega
  ·simp [List.getElem?_eq_none h'] at hi
 have hx : xs[i]? = some xs[i] := List.getElem?_eq_getElem hlt
 obtain ⟨v', h1, h2⟩ := RVl_get h hx
 rw [h1] at hi
 cases hi
 exact oneCell_of_RV (by simpa using List.all_eq_true.1 hs _ (List.getElem_mem hlt)) h2
theorem RDcs_drop {c : Array Value} {xs : List D} {p : Nat} (h : RDcs w ok c p xs) (n : Nat) : RDcs w ok c (p + n) (xs.drop n) := by
 refine RDcs_of fun i x hx => ?_
 rw [List.getElem?_drop] at hx
 have := RDcs_get h hx
 rwa [← Nat.add_assoc] at this
theorem RDcs_take {c : Array Value} {xs : List D} {p : Nat} (h : RDcs w ok c p xs) (n : Nat) : RDcs w ok c p (xs.take n) := by
 refine RDcs_of fun i x hx => ?_
 rw [List.getElem?_take] at hx
 split at hx
 ·exact RDcs_get h hx
 ·cases hx
theorem RDcs_size {c : Array Value} : ∀ {xs : List D} {p : Nat}, RDcs w ok c p xs → xs ≠ [] → p + xs.length ≤ c.size
 | [], _, _, h => absurd rfl h
 | x :: xs, p, h, _ => by
  have hx : (x :: xs)[xs.length]? = some ((x :: xs)[xs.length]) := List.getElem?_eq_getElem (by simp)
  obtain ⟨v, hv, _⟩ := RDcs_get h hx
  have : p + xs.length < c.size := by
   rcases Nat.lt_or_ge (p + xs.length) c.size with h' | h'
   ·exact h'
   ·simp [Array.getElem?_eq_none h'] at hv
  simp; omega
/-- A part of consecutive cells, taken out. -/
theorem RD_extract {c : Array Value} {xs : List D} {p n : Nat} (h : RDcs w ok c p xs) (hl : xs.length = n) (hs : p + n ≤ c.size) : RD w ok (.agg xs) (.agg (c.extract p (p + n))) := by
 simp only [RD]
 refine ⟨_, rfl, by simp; omega, RDcs_of fun i x hx => ?_⟩
 obtain ⟨v, hv, hr⟩ := RDcs_get h hx
 refine ⟨v, ?_, hr⟩
 have hi : i < n := by
  rcases Nat.lt_or_ge i xs.length with h' | h'
  ·omega
  ·simp [List.getElem?_eq_none h'] at hx
 rw [Nat.zero_add, Array.getElem?_extract, if_pos (by omega)]
 exact hv
end

/-! ### load -/
def aLoad (P : Program) (hv : Nat → Option O) (t : TypeId) (p : V) : Option Res :=
 match tiOf P t with
 | none => none
 | some i => match p with
  | .ptr id j => match hv id with
   | some (.box _ vs) =>
    if i.u.agg = true then (if j + i.size ≤ vs.length then some ⟨mkAgg ((vs.drop j).take i.size), [], True⟩ else none)
    else match vs[j]? with
     | some v => some ⟨v, [], True⟩
     | none => none
   | _ => none
  | .pe id ix j => match hv id with
   | some (.vec _ _ xs) => match xs[ix]? with
    | some (.d (.agg cs)) =>
     if i.u.agg = true then (if j + i.size ≤ cs.length ∧ 0 < i.size then some ⟨.d (.agg ((cs.drop j).take i.size)), [], True⟩ else none)
     else match cs[j]? with
      | some x => some ⟨.d x, [], True⟩
      | none => none
    | some (.agg cs) =>
     if i.u.agg = true then (if j + i.size ≤ cs.length ∧ 0 < i.size then some ⟨mkAgg ((cs.drop j).take i.size), [], True⟩ else none)
     else match cs[j]? with
      | some x => some ⟨x, [], True⟩
      | none => none
    | some x => if i.u.agg = true then none else if j = 0 ∧ x.single = true then some ⟨x, [], True⟩ else none
    | none => none
   | _ => none
  | .d (.ptr cs j) =>
   if i.u.agg = true then (if j + i.size ≤ cs.length ∧ 0 < i.size then some ⟨.d (.agg ((cs.drop j).take i.size)), [], True⟩ else none)
   else match cs[j]? with
    | some x => some ⟨.d x, [], True⟩
    | none => none
  | _ => none

section
variable {P : Program} {cx : Cx} {hv : Nat → Option O} {σ : Nat → Option Loc} {w : World} {nid : Nat} {ρ : Operand → Value} {ev : Operand → V}

theorem loadAt_run {t : TypeId} {p : Operand} {o : Oper} (ho : o.op = .load t p) {b off : Nat} {v : Value} (hp : ρ p = .pointer (some ⟨b, off, none⟩)) (h : (loadVar t ⟨b, off, none⟩).run P w = .ok v w) :
  (execOp ρ o).run P w = .ok (.value v) w := by
 simp only [execOp, ho, hp, Instr.loadAt, Instr.sureAddr, Sem.run_bind, Sem.run_pure, Result.andThen_ok, h]

/-- Load out of consecutive readable cells. -/
theorem load_cells_sound (h : HR cx hv σ w) {t : TypeId} {ti : TI} (hti : tiOf P t = some ti) {p : Operand} {o : Oper} (ho : o.op = .load t p) {b off : Nat} {c : Array Value} {e : TypeId} {fr : Nat × Nat} {cs : List D} {j : Nat}
  (hb : w.heap[b]? = some (.cells c e fr)) (hc : RDcs w (okB cx w hv σ) c off cs) (hp : ρ p = .pointer (some ⟨b, off + j, none⟩)) {r : Res}
  (hr : (if ti.u.agg = true then (if j + ti.size ≤ cs.length ∧ 0 < ti.size then some ⟨.d (.agg ((cs.drop j).take ti.size)), [], True⟩ else none)
   else match cs[j]? with
    | some x => some ⟨.d x, [], True⟩
    | none => none) = some r) : SoundV P cx hv σ w ρ o r := by
 obtain ⟨i, d, z, h1, h2, h3, h4, h5, _⟩ := tiOf_spec hti
 rw [h4, h5] at hr
 have hl := run_loadVar' (P := P) (off := off + j) h1 h2 hb
 split at hr
 ·rename_i ha
  split at hr
  ·rename_i hn
   cases hr
   have hne : cs ≠ [] := by rintro rfl; simp at hn; omega
   have hsz := RDcs_size hc hne
   have hrun := hl.1 ha (by omega)
   refine soundV_value h rfl (loadAt_run ho hp hrun) ?_
   simp only [RV]
   exact RD_extract (RDcs_take (RDcs_drop hc j) i.size) (by simp; omega) (by omega)
  ·cases hr
 ·rename_i ha
  split at hr
  ·rename_i x hx
   cases hr
   obtain ⟨v, hv', hrd⟩ := RDcs_get hc hx
   exact soundV_value h rfl (loadAt_run ho hp (hl.2 (by simpa using ha) v hv')) (by simpa only [RV] using hrd)
  ·cases hr

theorem elem_cells {c : Array Value} {s p : Nat} {v : Value} {cs : List D} {ok : Nat → Prop} (he : ElemAt c s p v) (hr : RD w ok (.agg cs) v) : RDcs w ok c p cs ∧ cs.length = s := by
 simp only [RD] at hr
 obtain ⟨vs, rfl, hl, hc⟩ := hr
 simp only [ElemAt] at he
 refine ⟨RDcs_of fun i x hx => ?_, by omega⟩
 obtain ⟨v, hv, hrd⟩ := RDcs_get hc hx
 have hi : i < s := by
  rcases Nat.lt_or_ge i cs.length with h' | h'
  ·omega
  ·simp [List.getElem?_eq_none h'] at hx
 exact ⟨v, by rw [he.2 i hi]; simpa using hv, hrd⟩
theorem elem_one {c : Array Value} {s p : Nat} {v : Value} (he : ElemAt c s p v) (h : v.oneCell' = true) : s = 1 ∧ c[p]? = some v := by
 cases v <;> simp [Value.oneCell'] at h <;> exact he

theorem elem_room {xs : List V} {K s ix : Nat} {x : V} {c : Array Value} (hcs : c.size = K * s) (hxl : xs.length ≤ K) (hx : xs[ix]? = some x) : ix * s + s ≤ c.size := by
 have hlt : ix < xs.length := by
  rcases Nat.lt_or_ge ix xs.length with h' | h'
  ·exact h'
  ·simp [List.getElem?_eq_none h'] at hx
 rw [hcs]
 have : (ix + 1) * s ≤ K * s := Nat.mul_le_mul_right s (by omega)
 rw [Nat.add_mul] at this
 omega
theorem elem_agg {xs : List V} {K s ix : Nat} {cs : List V} {c : Array Value} {ok : Nat → Prop} {v : Value} (hcs : c.size = K * s) (hxl : xs.length ≤ K) (hx : xs[ix]? = some (.agg cs)) (he : ElemAt c s (0 + ix * s) v) (hr : RV w ok σ (.agg cs) v) :
  cs.length = s ∧ ∃ vs : Array Value, v = .agg vs ∧ ix * s + s ≤ c.size ∧ (∀ j, j < s → c[ix * s + j]? = vs[j]?) ∧ RVl w ok σ cs vs.toList := by
 simp only [RV] at hr
 obtain ⟨vs, rfl, hr⟩ := hr
 simp only [ElemAt, Nat.zero_add] at he
 have hl := RVl_length hr
 exact ⟨by rw [← he.1, ← hl]; simp, vs, rfl, elem_room hcs hxl hx, he.2, hr⟩
theorem aLoad_soundV (h : HR cx hv σ w) (hev : ∀ x, RV w (okB cx w hv σ) σ (ev x) (ρ x)) {t : TypeId} {p : Operand} {o : Oper} {r : Res} (ho : o.op = .load t p) (hr : aLoad P hv t (ev p) = some r) :
  SoundV P cx hv σ w ρ o r := by
 have hp := hev p
 unfold aLoad at hr
 split at hr
 ·cases hr
 rename_i i hti
 split at hr
 ·rename_i id j ep
  rw [ep] at hp
  simp only [RV] at hp
  obtain ⟨b, K, s, hs, hpv⟩ := hp
  split at hr
  ·rename_i e vs hid
   obtain ⟨b', K', s', c, fr, hs', hb, hf, hc⟩ := h.own id _ hid
   rw [hs] at hs'
   cases hs'
   have hl := RVl_length hc
   obtain ⟨ii, d, z, h1, h2, h3, h4, h5, _⟩ := tiOf_spec hti
   have hlv := run_loadVar' (P := P) (off := j) h1 h2 hb
   rw [h4, h5] at hr
   split at hr
   ·rename_i ha
    split at hr
    ·rename_i hn
     cases hr
     have hn' : j + ii.size ≤ c.size := by simpa [← hl] using hn
     refine soundV_value h rfl (loadAt_run ho hpv (hlv.1 ha hn')) ?_
     refine RV_mkAgg ?_
     have := RVl_take (RVl_drop hc j) ii.size
     have e2 : (c.extract j (j + ii.size)).toList = List.take ii.size (List.drop j c.toList) := by
      simp
     rw [e2]
     exact this
    ·cases hr
   ·rename_i ha
    split at hr
    ·rename_i v hv'
     cases hr
     obtain ⟨u, hu, hru⟩ := RVl_get hc hv'
     exact soundV_value h rfl (loadAt_run ho hpv (hlv.2 (by simpa using ha) u (by simpa using hu))) hru
    ·cases hr
  ·cases hr
 ·rename_i id ix j ep
  rw [ep] at hp
  simp only [RV] at hp
  obtain ⟨b, K, s, hs, hpv⟩ := hp
  split at hr
  ·rename_i e s' xs hid
   have ho' := h.own id _ hid
   simp only [RO] at ho'
   rcases ho' with ⟨hn, _⟩ | ⟨b', K', c, fr, hs', hb, hf, hcs, hxl, hel⟩
   ·rw [hs] at hn; cases hn
   rw [hs] at hs'
   cases hs'
   split at hr
   ·rename_i cs hx
    obtain ⟨v, he, hrd⟩ := RVels_get hel hx
    simp only [RV] at hrd
    obtain ⟨hc, _⟩ := elem_cells he hrd
    refine load_cells_sound h hti ho (off := ix * s) (j := j) hb ?_ hpv hr
    simpa using hc
   ·rename_i cs hx
    obtain ⟨v, he, hrd⟩ := RVels_get hel hx
    obtain ⟨hsz, vs, hvs, hroom, hcell, hrv⟩ := elem_agg hcs hxl hx he hrd
    obtain ⟨ii, d, z, h1, h2, h3, h4, h5, _⟩ := tiOf_spec hti
    have hlv := run_loadVar' (P := P) (off := ix * s + j) h1 h2 hb
    rw [h4, h5] at hr
    have hl := RVl_length hrv
    split at hr
    ·rename_i ha
     split at hr
     ·rename_i hn
      cases hr
      refine soundV_value h rfl (loadAt_run ho hpv (hlv.1 ha (by omega))) ?_
      refine RV_mkAgg ?_
      have e2 : (c.extract (ix * s + j) (ix * s + j + ii.size)).toList = (vs.toList.drop j).take ii.size := by
       apply List.ext_getElem?
       intro m
       rw [List.getElem?_take, List.getElem?_drop]
       simp only [Array.getElem?_toList, Array.getElem?_extract]
       by_cases hm : m < ii.size
       ·rw [if_pos (by omega), if_pos hm, Nat.add_assoc, hcell (j + m) (by omega)]
       ·rw [if_neg (by omega), if_neg hm]
      rw [e2]
      exact RVl_take (RVl_drop hrv j) _
     ·cases hr
    ·rename_i ha
     split at hr
     ·rename_i x hx'
      cases hr
      obtain ⟨u, hu, hru⟩ := RVl_get hrv hx'
      have hjl : j < cs.length := by
       rcases Nat.lt_or_ge j cs.length with h' | h'
       ·exact h'
       ·simp [List.getElem?_eq_none h'] at hx'
      refine soundV_value h rfl (loadAt_run ho hpv (hlv.2 (by simpa using ha) u ?_)) hru
      rw [hcell j (by omega)]
      simpa using hu
     ·cases hr
   ·rename_i x hna1 hna2 hx
    obtain ⟨v, he, hrd⟩ := RVels_get hel hx
    obtain ⟨ii, d, z, h1, h2, h3, h4, h5, _⟩ := tiOf_spec hti
    have hlv := run_loadVar' (P := P) (off := ix * s + j) h1 h2 hb
    split at hr
    ·cases hr
    rename_i ha
    split at hr
    ·rename_i hj
     cases hr
     obtain ⟨rfl, hsx⟩ := hj
     have h1c := oneCell_of_RV hsx hrd
     obtain ⟨hs1, hcv⟩ := elem_one he h1c
     exact soundV_value h rfl (loadAt_run ho hpv (hlv.2 (by rw [← h4]; simpa using ha) v (by simpa using hcv))) hrd
    ·cases hr
   ·cases hr
  ·cases hr
 ·rename_i cs j ep
  rw [ep] at hp
  simp only [RV, RD] at hp
  obtain ⟨b, off, c, e, fr, hpv, hok, hb, hc⟩ := hp
  exact load_cells_sound h hti ho hb hc hpv hr
 ·cases hr

theorem aLoad_sound (h : HR cx hv σ w) (hev : ∀ x, RV w (okB cx w hv σ) σ (ev x) (ρ x)) {t : TypeId} {p : Operand} {o : Oper} {r : Res} (ho : o.op = .load t p) (hr : aLoad P hv t (ev p) = some r) :
  Sound P cx hv σ w nid ρ o r := (aLoad_soundV h hev ho hr).sound h

/-! ### store -/
def aStore (P : Program) (hv : Nat → Option O) (t : TypeId) (p x : V) : Option Res :=
 match tiOf P t with
 | none => none
 | some i => match p with
  | .ptr id j => match hv id with
   | some (.box e vs) =>
    if x.cells.length = i.size ∧ j + x.cells.length ≤ vs.length ∧ x.cells.all V.single = true ∧ x.storable = true then some ⟨.top, [(id, some (.box e (putL vs j x.cells)))], True⟩ else none
   | _ => none
  | .pe id ix j => match hv id with
   | some (.vec e s xs) => match xs[ix]? with
    | some y =>
     if x.cells.length = i.size ∧ j + x.cells.length ≤ y.cells.length ∧ x.cells.all V.single = true ∧ x.storable = true ∧ y.cells.length = s ∧ y.storable = true ∧ (y.isAgg = true ∨ (x.single = true ∧ j = 0)) then
      some ⟨.top, [(id, some (.vec e s (xs.set ix (if y.isAgg = true then mkAgg (putL y.cells j x.cells) else x))))], True⟩ else none
    | none => none
   | _ => none
  | _ => none

theorem storeAt_run {t : TypeId} {p x : Operand} {o : Oper} (ho : o.op = .store t p x) {i : TypeInfo} (hi : P.info? t = some i) {b off : Nat} (hp : ρ p = .pointer (some ⟨b, off, none⟩)) (hsz : (ρ x).cells.size = i.size) {w' : World}
  (h : (storeCells ⟨b, off, none⟩ (ρ x).cells.toList).run P w = .ok () w') : (execOp ρ o).run P w = .ok .skip w' := by
 simp only [execOp, ho, hp, Instr.storeAt, Instr.sureAddr, storeVar, Sem.run_bind, Sem.run_pure, Result.andThen_ok, run_sizeOf' hi, hsz, ne_eq, not_true_eq_false, if_false, h]

theorem setB_self {b : Nat} {o : Obj} (h : w.heap[b]? = some o) : setB w b o = w := by
 have hb := heap_lt h
 unfold setB
 have : w.heap.setIfInBounds b o = w.heap := by
  apply Array.ext_getElem?
  intro i
  rw [Array.getElem?_setIfInBounds]
  split
  ·rename_i hi; subst hi; exact h.symm
  ·rfl
 rw [this]

theorem RVl_one {x : V} {v : Value} {ok : Nat → Prop} (r : RV w ok σ x v) : RVl w ok σ [x] [v] := by
 simp only [RVl]; exact ⟨v, [], rfl, r, rfl⟩

/-- The cells of an element. -/
theorem elem_cellsV {y : V} {c : Array Value} {s p : Nat} {v : Value} {ok : Nat → Prop} (hy : y.storable = true) (he : ElemAt c s p v) (hr : RV w ok σ y v) (hroom : p + s ≤ c.size) : RVl w ok σ y.cells (c.extract p (p + s)).toList := by
 have h1 := RVl_cells hr (storable_cases hy)
 have e : v.cells.toList = (c.extract p (p + s)).toList := by
  apply List.ext_getElem?
  intro m
  simp only [Array.getElem?_toList, Array.getElem?_extract]
  cases v with
  | agg vs =>
   simp only [ElemAt] at he
   simp only [Value.cells]
   by_cases hm : m < s
   ·rw [if_pos (by omega), he.2 m hm]
   ·rw [if_neg (by omega), Array.getElem?_eq_none (by omega)]
  | _ =>
   simp only [ElemAt] at he
   obtain ⟨rfl, he⟩ := he
   simp only [Value.cells]
   cases m with
   | zero => rw [if_pos (by omega)]; simpa using he.symm
   | succ m => rw [if_neg (by omega)]; simp
 rwa [e] at h1
theorem aStore_sound (h : HR cx hv σ w) (hev : ∀ x, RV w (okB cx w hv σ) σ (ev x) (ρ x)) {t : TypeId} {p x : Operand} {o : Oper} {r : Res} (ho : o.op = .store t p x) (hr : aStore P hv t (ev p) (ev x) = some r) :
  Sound P cx hv σ w nid ρ o r := by
 have hp := hev p
 have hx := hev x
 unfold aStore at hr
 split at hr
 ·cases hr
 rename_i i hti
 obtain ⟨ii, d, z, h1, h2, h3, h4, h5, _⟩ := tiOf_spec hti
 split at hr
 ·rename_i id j ep
  rw [ep] at hp
  simp only [RV] at hp
  obtain ⟨b, K, s, hs, hpv⟩ := hp
  split at hr
  ·rename_i e vs hid
   split at hr
   ·rename_i hcond
    obtain ⟨g1, g2, g3, g4⟩ := hcond
    cases hr
    obtain ⟨b', K', s', c, fr, hs', hb, hf, hc⟩ := h.own id _ hid
    rw [hs] at hs'
    cases hs'
    have hcl := RVl_cells hx (storable_cases g4)
    have hl := RVl_length hc
    have hl2 := RVl_length hcl
    have hlen : j + (ρ x).cells.toList.length ≤ c.size := by rw [hl2]; simp at hl; omega
    have hrun := run_storeCells' (P := P) (ρ x).cells.toList 0 w c (off := j) hb (by simpa using hlen) hf (oneCells hcl g3)
    have hw : (if (ρ x).cells.toList = [] then w else setB w b (.cells (setL c (j + 0) (ρ x).cells.toList) e fr)) = setB w b (.cells (setL c j (ρ x).cells.toList) e fr) := by
     split
     ·rename_i h0
      rw [h0]
      simp only [setL]
      rw [setB_self hb]
     ·rfl
    rw [hw] at hrun
    obtain ⟨g5, g6⟩ := h.write hid hs (.cells (setL c j (ρ x).cells.toList) e fr) (.box e (putL vs j (ev x).cells)) (by
     intro ok' hok
     refine ⟨b, K, s, setL c j (ρ x).cells.toList, fr, hs, setB_same (heap_lt hb), by rw [setL_size]; exact hf, ?_⟩
     rw [setL_toList c j _ hlen]
     exact RVl_putL (RVl_mono hok (fun _ _ h => h) _ _ hc) (RVl_mono hok (fun _ _ h => h) _ _ hcl) j)
    refine ⟨undef, _, σ, .inr ⟨storeAt_run ho h1 hpv (by rw [← h5, ← g1, ← hl2]; simp) hrun, rfl⟩, ?_⟩
    refine ⟨?_, fun _ _ => rfl, fun _ _ h => h, ?_, ?_⟩
    ·rw [app_one]; exact g5
    ·rw [app_one]; exact g6
    ·simp only [RV]
   ·cases hr
  ·cases hr
 ·rename_i id ix j ep
  rw [ep] at hp
  simp only [RV] at hp
  obtain ⟨b, K, s, hs, hpv⟩ := hp
  split at hr
  ·rename_i e s' xs hid
   have ho' := h.own id _ hid
   simp only [RO] at ho'
   rcases ho' with ⟨hn, _⟩ | ⟨b', K', c, fr, hs', hb, hf, hcs, hxl, hel⟩
   ·rw [hs] at hn; cases hn
   rw [hs] at hs'
   cases hs'
   split at hr
   ·rename_i y hxi
    split at hr
    ·rename_i hcond
     obtain ⟨k1, k2, k3, k4, k5, k6, k7⟩ := hcond
     cases hr
     have hroom := elem_room hcs hxl hxi
     have hxc := RVl_cells hx (storable_cases k4)
     have hlx := RVl_length hxc
     obtain ⟨v0, he0, hrv0⟩ := RVels_get hel hxi
     rw [Nat.zero_add] at he0
     have hyc := elem_cellsV k6 he0 hrv0 hroom
     have hlen : ix * s + j + (ρ x).cells.toList.length ≤ c.size := by rw [hlx]; omega
     have hrun := run_storeCells' (P := P) (ρ x).cells.toList 0 w c (off := ix * s + j) hb (by simpa using hlen) hf (oneCells hxc k3)
     have hw : (if (ρ x).cells.toList = [] then w else setB w b (.cells (setL c (ix * s + j + 0) (ρ x).cells.toList) e fr)) = setB w b (.cells (setL c (ix * s + j) (ρ x).cells.toList) e fr) := by
      split
      ·rename_i h0
       rw [h0]
       simp only [setL]
       rw [setB_self hb]
      ·rfl
     rw [hw] at hrun
     obtain ⟨g5, g6⟩ := h.write hid hs (.cells (setL c (ix * s + j) (ρ x).cells.toList) e fr) (.vec e s (xs.set ix (if y.isAgg = true then mkAgg (putL y.cells j (ev x).cells) else ev x))) (by
      intro ok' hok
      refine .inr ⟨b, K, setL c (ix * s + j) (ρ x).cells.toList, fr, hs, setB_same (heap_lt hb), by rw [setL_size]; exact hf, by rw [setL_size]; exact hcs, by simpa using hxl, ?_⟩
      refine RVels_of fun m y' hy' => ?_
      rw [List.getElem?_set] at hy'
      split at hy'
      ·rename_i hm
       subst hm
       split at hy'
       ·injection hy' with hy'
        subst hy'
        rw [Nat.zero_add]
        have hcells : ((setL c (ix * s + j) (ρ x).cells.toList).extract (ix * s) (ix * s + s)).toList = putL (c.extract (ix * s) (ix * s + s)).toList j (ρ x).cells.toList := by
         have hl1 : (c.extract (ix * s) (ix * s + s)).toList.length = s := by simp; omega
         apply List.ext_getElem?
         intro m
         rw [putL_get (by rw [hl1, hlx]; omega)]
         simp only [Array.getElem?_toList, Array.getElem?_extract]
         rw [setL_size, setL_get _ _ _ _ hlen]
         by_cases hm : m < s
         ·rw [if_pos (by omega)]
          by_cases hm2 : j ≤ m ∧ m < j + (ρ x).cells.toList.length
          ·rw [if_pos (by omega), if_pos hm2]
           have e9 : ix * s + m - (ix * s + j) = m - j := by omega
           rw [e9, Array.getElem?_toList]
          ·rw [if_neg (by omega), if_neg hm2, if_pos (by omega)]
         ·rw [if_neg (by omega), if_neg (by rw [hlx]; omega), if_neg (by omega)]
        split
        ·refine ⟨.agg ((setL c (ix * s + j) (ρ x).cells.toList).extract (ix * s) (ix * s + s)), ?_, RV_mkAgg ?_⟩
         ·simp only [ElemAt]
          refine ⟨by simp [setL_size]; omega, fun k hk => ?_⟩
          rw [Array.getElem?_extract, if_pos (by rw [setL_size]; omega)]
         ·rw [hcells]
          exact RVl_putL (RVl_mono hok (fun _ _ h => h) _ _ hyc) (RVl_mono hok (fun _ _ h => h) _ _ hxc) j
        ·rename_i hna
         obtain ⟨k8, k9⟩ := k7.resolve_left hna
         subst k9
         have h1y := oneCell_of_RV k8 hx
         have hcy : (ρ x).cells = #[ρ x] := cells_of_one h1y
         have hy1 : y.cells = [y] := by
          cases y with
          | d z => cases z <;> simp_all [V.cells, V.isAgg]
          | _ => simp_all [V.cells, V.isAgg]
         have hs1 : s = 1 := by rw [← k5, hy1]; rfl
         refine ⟨ρ x, ?_, RV_mono hok (fun _ _ h => h) _ _ hx⟩
         have hgoal : s = 1 ∧ (setL c (ix * s + 0) (ρ x).cells.toList)[ix * s]? = some (ρ x) := by
          refine ⟨hs1, ?_⟩
          rw [hcy, setL_get _ _ _ _ (by simp; omega), if_pos (by simp)]
          simp
         cases hrx : ρ x <;> rw [hrx] at h1y hgoal <;> simp [Value.oneCell'] at h1y <;> simp only [ElemAt] <;> exact hgoal
       ·cases hy'
      ·rename_i hm
       obtain ⟨v, he, hrd⟩ := RVels_get hel hy'
       refine ⟨v, ?_, RV_mono hok (fun _ _ h => h) y' v hrd⟩
       have hsame : ∀ k, k < s → (setL c (ix * s + j) (ρ x).cells.toList)[0 + m * s + k]? = c[0 + m * s + k]? := by
        intro k hk
        rw [setL_get _ _ _ _ hlen, if_neg]
        intro hcon
        rw [hlx] at hcon
        rcases Nat.lt_or_ge m ix with hlt | hge
        ·have : (m + 1) * s ≤ ix * s := Nat.mul_le_mul_right s hlt
         rw [Nat.add_mul] at this
         omega
        ·have : (ix + 1) * s ≤ m * s := Nat.mul_le_mul_right s (by omega)
         rw [Nat.add_mul] at this
         omega
       cases v with
       | agg vs =>
        simp only [ElemAt] at he ⊢
        exact ⟨he.1, fun k hk => by rw [hsame k hk]; exact he.2 k hk⟩
       | _ =>
        simp only [ElemAt] at he ⊢
        exact ⟨he.1, by have := hsame 0 (by omega); simp only [Nat.add_zero] at this; rw [this]; exact he.2⟩)
     refine ⟨undef, _, σ, .inr ⟨storeAt_run ho h1 hpv (by rw [← h5, ← k1, ← hlx]; simp) hrun, rfl⟩, ?_⟩
     refine ⟨?_, fun _ _ => rfl, fun _ _ h => h, ?_, ?_⟩
     ·rw [app_one]; exact g5
     ·rw [app_one]; exact g6
     ·simp only [RV]
    ·cases hr
   ·cases hr
  ·cases hr
 ·cases hr
end
end Go.AX
