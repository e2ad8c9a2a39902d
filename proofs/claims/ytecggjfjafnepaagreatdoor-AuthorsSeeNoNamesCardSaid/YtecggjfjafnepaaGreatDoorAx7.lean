/- AX, part 7: new boxes and rows, aggregates, small operations. -/
import Derived.Test.YtecggjfjafnepaaGreatDoorAx6
namespace Go.AX
open Go

def aBox (t : TypeId) (x : V) (nid : Nat) : Option Res := if x.storable = true then some ⟨.ptr nid 0, [(nid, some (.box t x.cells))], True⟩ else none
def aAlloc (P : Program) (t : TypeId) (nid : Nat) : Option Res := match tiOf P t with
 | some i => if i.zero.storable = true then some ⟨.ptr nid 0, [(nid, some (.box t i.zero.cells))], True⟩ else none
 | none => none

/-- Fill parts into cells. -/
def fillV (place : Nat → Option (Nat × Nat)) (cells : List V) : List (Nat × V) → Option (List V)
 | [] => some cells
 | (i, x) :: rest => match place i with
  | none => none
  | some (off, size) => if x.storable = true ∧ x.cells.length = size ∧ off + x.cells.length ≤ cells.length then fillV place (putL cells off x.cells) rest else none

def places (P : Program) : List (Nat × Nat) → Option (List (Nat × Nat))
 | [] => some []
 | (off, ft) :: r => match tiOf P ft, places P r with
  | some i, some l => some ((off, i.size) :: l)
  | _, _ => none

def aBuild (P : Program) (t : TypeId) (parts : List (Nat × V)) : Option Res := match tiOf P t with
 | some ⟨.struct fs, _, _, z⟩ => if z.storable = true then match places P fs with
  | some ps => match fillV (fun i => ps[i]?) z.cells parts with
   | some cs => some ⟨mkAgg cs, [], True⟩
   | none => none
  | none => none
  else none
 | some ⟨.arr _ e, _, _, z⟩ => if z.storable = true then match tiOf P e with
  | some ei => match fillV (fun i => some (i * ei.size, ei.size)) z.cells parts with
   | some cs => some ⟨mkAgg cs, [], True⟩
   | none => none
  | none => none
  else none
 | _ => none

section
variable {P : Program} {cx : Cx} {hv : Nat → Option O} {σ : Nat → Option Loc} {w : World} {nid : Nat} {ρ : Operand → Value} {ev : Operand → V}

theorem frOk_zero (n : Nat) : FrOk n (0, 0) := fun i _ h => by omega

theorem hv_none_of_fresh (h : HR cx hv σ w) (hn : σ nid = none) : hv nid = none := by
 cases hh : hv nid with
 | none => rfl
 | some o =>
  have := h.own nid o hh
  cases o <;> simp [RO, hn] at this

theorem box_good (h : HR cx hv σ w) (hn : σ nid = none) {x : V} {v : Value} (hs : x.storable = true) (hx : RV w (okB cx w hv σ) σ x v) (t : TypeId) :
  Good cx hv σ w nid (.ptr nid 0) [(nid, some (.box t x.cells))] (.pointer (some ⟨w.heap.size, 0, none⟩)) (w.alloc (.cells v.cells t)) (upd σ nid (some (.blk w.heap.size 0 0))) := by
 have hcl := RVl_cells hx (storable_cases hs)
 obtain ⟨g1, g2, g3⟩ := h.alloc hn (hv_none_of_fresh h hn) (.cells v.cells t) (.box t x.cells) 0 0 (by
  intro σ' ok' hσ hok hnew
  refine ⟨w.heap.size, 0, 0, v.cells, (0, 0), hnew, alloc_new _ _, frOk_zero _, ?_⟩
  exact RVl_mono hok hσ _ _ hcl)
 refine ⟨?_, fun id hid => upd_other _ _ hid, g2, ?_, ?_⟩
 ·rw [app_one]; exact g1
 ·rw [app_one]; exact g3
 ·simp only [RV]; exact ⟨w.heap.size, 0, 0, upd_same _ _ _, rfl⟩

theorem aBox_sound (h : HR cx hv σ w) (hn : σ nid = none) (hev : ∀ x, RV w (okB cx w hv σ) σ (ev x) (ρ x)) {t : TypeId} {x : Operand} {o : Oper} {r : Res} (ho : o.op = .box t x) (hr : aBox t (ev x) nid = some r) :
  Sound P cx hv σ w nid ρ o r := by
 unfold aBox at hr
 split at hr
 ·rename_i hs
  cases hr
  refine ⟨_, _, _, .inl ?_, box_good h hn hs (hev x) t⟩
  simp only [execOp, ho, Instr.box, newVar, newRow, Sem.run_bind, run_newObj_alloc, Result.andThen_ok, Sem.run_pure]
 ·cases hr

theorem aAlloc_sound (h : HR cx hv σ w) (hn : σ nid = none) {t : TypeId} {o : Oper} {r : Res} (ho : o.op = .alloc t) (hr : aAlloc P t nid = some r) :
  Sound P cx hv σ w nid ρ o r := by
 unfold aAlloc at hr
 split at hr
 ·rename_i i hti
  obtain ⟨ii, d, z, h1, h2, h3, h4, h5, h6, h7⟩ := tiOf_spec hti
  split at hr
  ·rename_i hs
   cases hr
   refine ⟨_, _, _, .inl ?_, box_good h hn hs (by rw [h7]; exact RV_constV z) t⟩
   simp only [execOp, ho, Instr.alloc, newVar, newRow, Sem.run_bind, run_zeroValue' h1 h3, run_newObj_alloc, Result.andThen_ok, Sem.run_pure]
  ·cases hr
 ·cases hr

theorem foldl_setL (vs : List Value) (off : Nat) : ∀ (n : Nat) (c : Array Value), (vs.zipIdx n).foldl (fun cs (x : Value × Nat) => cs.setIfInBounds (off + x.2) x.1) c = setL c (off + n) vs := by
 induction vs with
 | nil => intro n c; rfl
 | cons v vs ih =>
  intro n c
  simp only [List.zipIdx_cons, List.foldl_cons, setL]
  rw [ih]
  rfl

theorem fill_sound {place : Nat → Option (Nat × Nat)} {ok : Nat → Prop} : ∀ (parts : List (Nat × V)) (vals : List (Nat × Value)) (cells : List V) (c : Array Value) (out : List V),
  vals.length = parts.length → (∀ (i : Nat) p q, parts[i]? = some p → vals[i]? = some q → p.1 = q.1 ∧ RV w ok σ p.2 q.2) → RVl w ok σ cells c.toList → fillV place cells parts = some out →
  ∃ c', Instr.fill place c vals = some c' ∧ RVl w ok σ out c'.toList := by
 intro parts
 induction parts with
 | nil =>
  intro vals cells c out hl _ hc hf
  have : vals = [] := by simpa using hl
  subst this
  simp only [fillV] at hf
  cases hf
  exact ⟨c, rfl, hc⟩
 | cons p parts ih =>
  intro vals cells c out hl hpv hc hf
  cases vals with
  | nil => simp at hl
  | cons q vals =>
   obtain ⟨i, x⟩ := p
   obtain ⟨i', v⟩ := q
   have h0 := hpv 0 _ _ rfl rfl
   simp only at h0
   obtain ⟨rfl, hx⟩ := h0
   simp only [fillV] at hf
   split at hf
   ·cases hf
   ·rename_i off size hpl
    split at hf
    ·rename_i hcond
     obtain ⟨g1, g2, g3⟩ := hcond
     have hcl := RVl_cells hx (storable_cases g1)
     have hl1 := RVl_length hc
     have hl2 := RVl_length hcl
     have hlen : off + v.cells.toList.length ≤ c.size := by rw [hl2]; simp at hl1; omega
     have hset : v.cells.zipIdx.foldl (fun cs (x : Value × Nat) => cs.setIfInBounds (off + x.2) x.1) c = setL c off v.cells.toList := by
      rw [← Array.foldl_toList, Array.toList_zipIdx]
      exact foldl_setL _ _ 0 c
     have hc' : RVl w ok σ (putL cells off x.cells) (setL c off v.cells.toList).toList := by
      rw [setL_toList _ _ _ hlen]
      exact RVl_putL hc hcl off
     obtain ⟨c', h1, h2⟩ := ih vals _ _ out (by simpa using hl) (fun j p q hp hq => hpv (j + 1) p q (by simpa using hp) (by simpa using hq)) hc' hf
     refine ⟨c', ?_, h2⟩
     simp only [Instr.fill, hpl]
     have e1 : v.cells.size = size := by rw [← g2, ← hl2]; simp
     have e2 : ¬ (off + v.cells.size > c.size) := by simp at hlen; omega
     simp only [e1, ne_eq, not_true_eq_false, decide_false, Bool.false_or]
     rw [e1] at e2
     simp only [e2, decide_false, Bool.false_eq_true, if_false]
     rw [hset]
     exact h1
    ·cases hf

theorem places_run : ∀ (fs : List Field) (acc : Array (Nat × Nat)) (ps : List (Nat × Nat)), places P (fs.map fun f => (f.offset, f.type)) = some ps →
  (fs.foldlM (fun (bs : Array (Nat × Nat)) (f : Field) => do
   let s ← (do pure (f.offset, ← sizeOf f.type) : Sem (Nat × Nat))
   pure (bs.push s)) acc).run P w = .ok (acc ++ ps.toArray) w
 | [], acc, ps, h => by
  simp only [List.map_nil, places] at h
  cases h
  simp
 | f :: fs, acc, ps, h => by
  simp only [List.map_cons, places] at h
  split at h
  ·rename_i i l hi hl
   cases h
   obtain ⟨ii, d, z, h1, h2, h3, h4, h5, _⟩ := tiOf_spec hi
   simp only [List.foldlM_cons, Sem.run_bind, run_sizeOf' h1, Result.andThen_ok, Sem.run_pure]
   rw [places_run fs _ l hl]
   simp [h5]
  ·cases h

theorem mapM_places {fa : Array Field} {ps : List (Nat × Nat)} (h : places P (fa.toList.map fun f => (f.offset, f.type)) = some ps) :
  (fa.mapM fun f => do pure (f.offset, ← sizeOf f.type) : Sem (Array (Nat × Nat))).run P w = .ok ps.toArray w := by
 rw [Array.mapM_eq_foldlM, ← Array.foldlM_toList]
 have := places_run (w := w) fa.toList #[] ps h
 simpa using this

theorem getElem?_toArray' (ps : List (Nat × Nat)) : (fun i : Nat => ps.toArray[i]?) = fun i : Nat => ps[i]? := by funext i; simp

theorem parts_ok (hev : ∀ x, RV w (okB cx w hv σ) σ (ev x) (ρ x)) (parts : Array (Nat × Operand)) : (parts.map fun (i, x) => (i, ρ x)).toList.length = (parts.toList.map fun (i, x) => (i, ev x)).length ∧
  ∀ (i : Nat) p q, (parts.toList.map fun (i, x) => (i, ev x))[i]? = some p → (parts.map fun (i, x) => (i, ρ x)).toList[i]? = some q → p.1 = q.1 ∧ RV w (okB cx w hv σ) σ p.2 q.2 := by
 refine ⟨by simp, fun i p q hp hq => ?_⟩
 simp only [Array.toList_map, List.getElem?_map] at hp hq
 cases hh : parts.toList[i]? with
 | none => rw [hh] at hp; cases hp
 | some z =>
  rw [hh] at hp hq
  simp at hp hq
  subst hp
  subst hq
  exact ⟨rfl, hev _⟩

theorem aBuild_sound (h : HR cx hv σ w) (hev : ∀ x, RV w (okB cx w hv σ) σ (ev x) (ρ x)) {t : TypeId} {parts : Array (Nat × Operand)} {o : Oper} {r : Res} (ho : o.op = .build t parts) (hr : aBuild P t (parts.toList.map fun (i, x) => (i, ev x)) = some r) :
  Sound P cx hv σ w nid ρ o r := by
 obtain ⟨pl, pv⟩ := parts_ok hev parts
 unfold aBuild at hr
 split at hr
 ·rename_i fs _ _ z hti
  obtain ⟨ii, d, zv, h1, h2, h3, h4, h5, h6, h7⟩ := tiOf_spec hti
  obtain ⟨fa, rfl, rfl⟩ := tuOf_struct h4
  simp only at h7
  split at hr
  ·rename_i hz
   split at hr
   ·rename_i ps hps
    split at hr
    ·rename_i cs hcs
     cases hr
     have hzc : RVl w (okB cx w hv σ) σ z.cells zv.cells.toList := RVl_cells (by rw [h7]; exact RV_constV zv) (storable_cases hz)
     obtain ⟨c', hc1, hc2⟩ := fill_sound _ _ _ _ _ pl pv hzc hcs
     refine sound_value h rfl (v := .agg c') ?_ (RV_mkAgg hc2)
     simp only [execOp, ho, Instr.build, Sem.run_bind, run_zeroValue' h1 h3, Result.andThen_ok, run_underlying' h2, mapM_places hps, getElem?_toArray', hc1, Sem.run_pure]
    ·cases hr
   ·cases hr
  ·cases hr
 ·rename_i n e _ _ z hti
  obtain ⟨ii, d, zv, h1, h2, h3, h4, h5, h6, h7⟩ := tiOf_spec hti
  have := tuOf_arr h4
  subst this
  simp only at h7
  split at hr
  ·rename_i hz
   split at hr
   ·rename_i ei hei
    obtain ⟨ie, d', z', g1, g2, g3, g4, g5, _⟩ := tiOf_spec hei
    split at hr
    ·rename_i cs hcs
     cases hr
     have hzc : RVl w (okB cx w hv σ) σ z.cells zv.cells.toList := RVl_cells (by rw [h7]; exact RV_constV zv) (storable_cases hz)
     obtain ⟨c', hc1, hc2⟩ := fill_sound _ _ _ _ _ pl pv hzc hcs
     refine sound_value h rfl (v := .agg c') ?_ (RV_mkAgg hc2)
     rw [g5] at hc1
     simp only [execOp, ho, Instr.build, Sem.run_bind, run_zeroValue' h1 h3, Result.andThen_ok, run_underlying' h2, run_sizeOf' g1, hc1, Sem.run_pure]
    ·cases hr
   ·cases hr
  ·cases hr
 ·cases hr

/-! ### small ones -/
def aPick (c a b : V) : Option Res := match c with
 | .d (.bool t) => some ⟨if t = true then a else b, [], True⟩
 | _ => none
def aNilCheck (x : V) : Option Res := match x with
 | .ptr id j => some ⟨.ptr id j, [], True⟩
 | .pe id i j => some ⟨.pe id i j, [], True⟩
 | .d (.ptr cs j) => some ⟨.d (.ptr cs j), [], True⟩
 | .fn f cs => some ⟨.fn f cs, [], True⟩
 | _ => none
def aExtract (x : V) (i : Nat) : Option Res := match x with
 | .tup vs => match vs[i]? with
  | some v => some ⟨v, [], True⟩
  | none => none
 | _ => none
def aUn (op : UnOp) (x : V) : Option Res := match op, x with
 | .neg, .d (.int k n) => some ⟨.d (.int k (-n)), [], fits k (-n)⟩
 | .not, .d (.bool b) => some ⟨.d (.bool (!b)), [], True⟩
 | _, _ => none
def aConvert (P : Program) (src dst : TypeId) (x : V) : Option Res := match x with
 | .d (.int _ n) => match tiOf P src, tiOf P dst with
  | some _, some ⟨.int k, _, _, _⟩ => numR k n
  | some _, some ⟨.str, _, _, _⟩ => some ⟨.d (.str (Utf8.encode n).data.toList), [], True⟩
  | _, _ => none
 | .d (.str s) => match tiOf P src, tiOf P dst with
  | some ⟨.str, _, _, _⟩, some ⟨.str, _, _, _⟩ => some ⟨.d (.str s), [], True⟩
  | _, _ => none
 | _ => none
def aLen (P : Program) (hv : Nat → Option O) (t : TypeId) (x : V) : Option Res := match tiOf P t with
 | some ⟨.slice _, _, _, _⟩ => match x with
  | .d (.sl xs) => some ⟨.d (.int .i64 xs.length), [], True⟩
  | .slr _ _ n => some ⟨.d (.int .i64 n), [], True⟩
  | .nils => some ⟨.d (.int .i64 0), [], True⟩
  | _ => none
 | some ⟨.str, _, _, _⟩ => match x with
  | .d (.str s) => some ⟨.d (.int .i64 s.length), [], True⟩
  | _ => none
 | some ⟨.map _ _, _, _, _⟩ => match x with
  | .d (.map ks _) => some ⟨.d (.int .i64 ks.length), [], True⟩
  | .mpr id => match hv id with
   | some (.map ks _) => some ⟨.d (.int .i64 ks.length), [], True⟩
   | _ => none
  | _ => none
 | _ => none
def aMax (x y : V) : Option Res := match x, y with
 | .d (.int k a), .d (.int _ b) => some ⟨.d (.int k (if b > a then b else a)), [], True⟩
 | _, _ => none
def aMin (x y : V) : Option Res := match x, y with
 | .d (.int k a), .d (.int _ b) => some ⟨.d (.int k (if b < a then b else a)), [], True⟩
 | _, _ => none

theorem aPick_sound (h : HR cx hv σ w) (hev : ∀ x, RV w (okB cx w hv σ) σ (ev x) (ρ x)) {c a b : Operand} {o : Oper} {r : Res} (ho : o.op = .pick c a b) (hr : aPick (ev c) (ev a) (ev b) = some r) : Sound P cx hv σ w nid ρ o r := by
 unfold aPick at hr
 split at hr
 ·rename_i t ec
  cases hr
  have hc := hev c
  rw [ec] at hc
  simp only [RV, RD] at hc
  refine sound_value h rfl (v := if t = true then ρ a else ρ b) ?_ ?_
  ·simp only [execOp, ho, hc, asBool, Sem.run_bind, Sem.run_pure, Result.andThen_ok]
  ·simp only
   split
   ·exact hev a
   ·exact hev b
 ·cases hr

theorem aNilCheck_sound (h : HR cx hv σ w) (hev : ∀ x, RV w (okB cx w hv σ) σ (ev x) (ρ x)) {x : Operand} {o : Oper} {r : Res} (ho : o.op = .nilCheck x) (hr : aNilCheck (ev x) = some r) : Sound P cx hv σ w nid ρ o r := by
 have hx := hev x
 unfold aNilCheck at hr
 split at hr
 ·rename_i id j ex
  cases hr
  rw [ex] at hx
  refine sound_value h rfl (v := ρ x) ?_ hx
  simp only [RV] at hx
  obtain ⟨b, K, s, _, hv'⟩ := hx
  simp only [execOp, ho, hv', Sem.run_pure]
 ·rename_i id i j ex
  cases hr
  rw [ex] at hx
  refine sound_value h rfl (v := ρ x) ?_ hx
  simp only [RV] at hx
  obtain ⟨b, K, s, _, hv'⟩ := hx
  simp only [execOp, ho, hv', Sem.run_pure]
 ·rename_i cs j ex
  cases hr
  rw [ex] at hx
  refine sound_value h rfl (v := ρ x) ?_ hx
  simp only [RV, RD] at hx
  obtain ⟨b, off, c, e, fr, hv', _⟩ := hx
  simp only [execOp, ho, hv', Sem.run_pure]
 ·rename_i f cs ex
  cases hr
  rw [ex] at hx
  refine sound_value h rfl (v := ρ x) ?_ hx
  simp only [RV] at hx
  obtain ⟨c, hv', _⟩ := hx
  simp only [execOp, ho, hv', Sem.run_pure]
 ·cases hr

theorem aExtract_sound (h : HR cx hv σ w) (hev : ∀ x, RV w (okB cx w hv σ) σ (ev x) (ρ x)) {x : Operand} {i : Nat} {o : Oper} {r : Res} (ho : o.op = .extract x i) (hr : aExtract (ev x) i = some r) : Sound P cx hv σ w nid ρ o r := by
 have hx := hev x
 unfold aExtract at hr
 split at hr
 ·rename_i vs ex
  split at hr
  ·rename_i v hv'
   cases hr
   rw [ex] at hx
   simp only [RV] at hx
   obtain ⟨c, hc, hl⟩ := hx
   obtain ⟨u, hu, hr⟩ := RVl_get hl hv'
   refine sound_value h rfl (v := u) ?_ hr
   have hu' : c[i]? = some u := by simpa using hu
   simp only [execOp, ho, hc, Instr.extract, hu', Sem.run_bind, Sem.run_pure, Result.andThen_ok]
  ·cases hr
 ·cases hr

theorem aUn_sound (h : HR cx hv σ w) (hev : ∀ x, RV w (okB cx w hv σ) σ (ev x) (ρ x)) {op : UnOp} {t : TypeId} {x : Operand} {o : Oper} {r : Res} (ho : o.op = .unOp op t x) (hr : aUn op (ev x) = some r) (hob : r.ob) : Sound P cx hv σ w nid ρ o r := by
 have hx := hev x
 unfold aUn at hr
 split at hr
 ·rename_i k n ex
  cases hr
  rw [ex] at hx
  simp only [RV, RD] at hx
  refine sound_value h rfl (v := .int k (-n)) ?_ (by simp only [RV, RD])
  have : k.wrap (0 - n) = -n := by rw [Int.zero_sub]; exact wrap_fits hob
  simp only [execOp, ho, hx, Op.unary, Op.intArith, this, Sem.run_bind, Sem.run_pure, Result.andThen_ok]
 ·rename_i b ex
  cases hr
  rw [ex] at hx
  simp only [RV, RD] at hx
  refine sound_value h rfl (v := .bool (!b)) ?_ (by simp only [RV, RD])
  simp only [execOp, ho, hx, Op.unary, Sem.run_bind, Sem.run_pure, Result.andThen_ok]
 ·cases hr

theorem aConvert_sound (h : HR cx hv σ w) (hev : ∀ x, RV w (okB cx w hv σ) σ (ev x) (ρ x)) {src dst : TypeId} {x : Operand} {o : Oper} {r : Res} (ho : o.op = .convert src dst x) (hr : aConvert P src dst (ev x) = some r) (hob : r.ob) : Sound P cx hv σ w nid ρ o r := by
 have hx := hev x
 unfold aConvert at hr
 split at hr
 ·rename_i k0 n ex
  rw [ex] at hx
  simp only [RV, RD] at hx
  split at hr
  ·rename_i a k _ _ _ hs hd
   obtain ⟨ii, d, z, h1, h2, h3, h4, _⟩ := tiOf_spec hs
   obtain ⟨jj, d', z', g1, g2, g3, g4, _⟩ := tiOf_spec hd
   have := tuOf_int g4
   subst this
   unfold numR at hr
   split at hr <;> cases hr
   ·refine sound_value h rfl (v := .int k (k.wrap n)) ?_ (by simp only [RV, RD])
    simp only [execOp, ho, hx, convert, Sem.run_bind, run_underlying' h2, run_underlying' g2, Result.andThen_ok, Conv.intToInt, Sem.run_pure]
   ·refine sound_value h rfl (v := .int k n) ?_ (by simp only [RV, RD])
    simp only [execOp, ho, hx, convert, Sem.run_bind, run_underlying' h2, run_underlying' g2, Result.andThen_ok, Conv.intToInt, wrap_fits hob, Sem.run_pure]
  ·rename_i hs hd
   cases hr
   obtain ⟨ii, d, z, h1, h2, h3, h4, _⟩ := tiOf_spec hs
   obtain ⟨jj, d', z', g1, g2, g3, g4, _⟩ := tiOf_spec hd
   have := tuOf_str g4
   subst this
   refine sound_value h rfl (v := .string (Utf8.encode n)) ?_ (by simp only [RV, RD])
   cases d <;> simp only [execOp, ho, hx, convert, Sem.run_bind, run_underlying' h2, run_underlying' g2, Result.andThen_ok, Conv.intToString, Sem.run_pure]
  ·cases hr
 ·rename_i s ex
  rw [ex] at hx
  simp only [RV, RD] at hx
  split at hr
  ·rename_i hs hd
   cases hr
   obtain ⟨ii, d, z, h1, h2, h3, h4, _⟩ := tiOf_spec hs
   obtain ⟨jj, d', z', g1, g2, g3, g4, _⟩ := tiOf_spec hd
   have := tuOf_str h4
   subst this
   have := tuOf_str g4
   subst this
   refine sound_value h rfl (v := .string ⟨s.toArray⟩) ?_ (by simp only [RV, RD])
   simp only [execOp, ho, hx, convert, Sem.run_bind, run_underlying' h2, run_underlying' g2, Result.andThen_ok, Sem.run_pure]
  ·cases hr
 ·cases hr

theorem builtin_run {b : Builtin} {args : Array Operand} {ats : Array TypeId} {o : Oper} (ho : o.op = .call ⟨.builtin b, args, ats⟩) :
  (execOp ρ o).run P w = (builtin b ats o.type (args.map fun | .const _ => true | _ => false) (args.map ρ)).run P w := by
 simp only [execOp, ho, resolve, invoke, Sem.run_bind, Sem.run_pure, Result.andThen_ok]
 rfl

theorem size_mk (l : List UInt8) : (ByteArray.mk l.toArray).size = l.length := by
 show l.toArray.size = _
 simp

theorem aLen_sound (h : HR cx hv σ w) (hev : ∀ x, RV w (okB cx w hv σ) σ (ev x) (ρ x)) {t : TypeId} {x : Operand} {o : Oper} {r : Res} (ho : o.op = .call ⟨.builtin .len, #[x], #[t]⟩) (hr : aLen P hv t (ev x) = some r) : Sound P cx hv σ w nid ρ o r := by
 have hx := hev x
 have run : ∀ v, (Builtin.len_ #[t] o.type #[ρ x]).run P w = .ok v w → (execOp ρ o).run P w = .ok (.value v) w := by
  intro v hv'
  rw [builtin_run ho]
  have : (#[x].map ρ) = #[ρ x] := by simp
  simp only [builtin, Sem.run_bind, this, hv', Result.andThen_ok, Sem.run_pure]
 unfold aLen at hr
 split at hr
 ·rename_i e _ _ _ hti
  obtain ⟨ii, d, z, h1, h2, h3, h4, _⟩ := tiOf_spec hti
  have := tuOf_slice h4
  subst this
  split at hr
  ·rename_i xs ex
   cases hr
   rw [ex] at hx
   simp only [RV, RD] at hx
   obtain ⟨a, n, cap, hv', hn, _⟩ := hx
   refine sound_value h rfl (run (.int .i64 n) ?_) (by simp only [RV, RD, hn])
   simp [Builtin.len_, hv', run_underlying' h2, goInt]
  ·rename_i id lo n ex
   cases hr
   rw [ex] at hx
   simp only [RV] at hx
   refine sound_value h rfl (run (.int .i64 n) ?_) (by simp only [RV, RD])
   rcases hx with ⟨_, _, hn, a, hv'⟩ | ⟨b, K, s, a, cap, _, hv', _⟩
   ·subst hn; simp [Builtin.len_, hv', run_underlying' h2, goInt]
   ·simp [Builtin.len_, hv', run_underlying' h2, goInt]
  ·rename_i ex
   cases hr
   rw [ex] at hx
   simp only [RV] at hx
   refine sound_value h rfl (run (.int .i64 0) ?_) (by simp only [RV, RD])
   simp [Builtin.len_, hx, run_underlying' h2, goInt]
  ·cases hr
 ·rename_i _ _ _ hti
  obtain ⟨ii, d, z, h1, h2, h3, h4, _⟩ := tiOf_spec hti
  have := tuOf_str h4
  subst this
  split at hr
  ·rename_i s ex
   cases hr
   rw [ex] at hx
   simp only [RV, RD] at hx
   refine sound_value h rfl (run (.int .i64 s.length) ?_) (by simp only [RV, RD])
   simp [Builtin.len_, hx, run_underlying' h2, goInt, size_mk]
  ·cases hr
 ·rename_i kt et _ _ _ hti
  obtain ⟨ii, d, z, h1, h2, h3, h4, _⟩ := tiOf_spec hti
  have := tuOf_map h4
  subst this
  split at hr
  ·rename_i ks vs ex
   cases hr
   rw [ex] at hx
   simp only [RV, RD] at hx
   obtain ⟨m, hv', hm⟩ := hx
   refine sound_value h rfl (run (.int .i64 ks.length) ?_) (by simp only [RV, RD])
   rcases hm with ⟨rfl, rfl, _⟩ | ⟨b, es, clock, rfl, _, hb, _, hl, _⟩
   ·simp [Builtin.len_, hv', run_underlying' h2, goInt]
   ·simp [Builtin.len_, hv', run_underlying' h2, goInt, getObj, Sem.run, hb, hl]
  ·rename_i id ex
   split at hr
   ·rename_i ks vs hid
    cases hr
    rw [ex] at hx
    simp only [RV] at hx
    obtain ⟨b, K, s, hs, hv'⟩ := hx
    obtain ⟨b', K', s', es, clock, hs', hb, _, hl, _⟩ := h.own id _ hid
    rw [hs] at hs'
    cases hs'
    refine sound_value h rfl (run (.int .i64 ks.length) ?_) (by simp only [RV, RD])
    simp [Builtin.len_, hv', run_underlying' h2, goInt, getObj, Sem.run, hb, hl]
   ·cases hr
  ·cases hr
 ·cases hr

theorem aMax_sound (h : HR cx hv σ w) (hev : ∀ x, RV w (okB cx w hv σ) σ (ev x) (ρ x)) {ats : Array TypeId} {x y : Operand} {o : Oper} {r : Res} (ho : o.op = .call ⟨.builtin .max, #[x, y], ats⟩) (hr : aMax (ev x) (ev y) = some r) : Sound P cx hv σ w nid ρ o r := by
 have hx := hev x
 have hy := hev y
 unfold aMax at hr
 split at hr
 ·rename_i k a k' b ex ey
  cases hr
  rw [ex] at hx
  rw [ey] at hy
  simp only [RV, RD] at hx hy
  refine sound_value h rfl (v := .int k (if b > a then b else a)) ?_ (by simp only [RV, RD])
  rw [builtin_run ho]
  have : (#[x, y].map ρ) = #[ρ x, ρ y] := by simp
  simp [builtin, Builtin.max_, Builtin.max2, hx, hy]
 ·cases hr
theorem aMin_sound (h : HR cx hv σ w) (hev : ∀ x, RV w (okB cx w hv σ) σ (ev x) (ρ x)) {ats : Array TypeId} {x y : Operand} {o : Oper} {r : Res} (ho : o.op = .call ⟨.builtin .min, #[x, y], ats⟩) (hr : aMin (ev x) (ev y) = some r) : Sound P cx hv σ w nid ρ o r := by
 have hx := hev x
 have hy := hev y
 unfold aMin at hr
 split at hr
 ·rename_i k a k' b ex ey
  cases hr
  rw [ex] at hx
  rw [ey] at hy
  simp only [RV, RD] at hx hy
  refine sound_value h rfl (v := .int k (if b < a then b else a)) ?_ (by simp only [RV, RD])
  rw [builtin_run ho]
  simp [builtin, Builtin.min_, Builtin.min2, hx, hy]
 ·cases hr
end
end Go.AX
