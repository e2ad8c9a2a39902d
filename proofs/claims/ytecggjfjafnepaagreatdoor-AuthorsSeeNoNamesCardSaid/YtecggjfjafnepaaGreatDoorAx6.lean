/- AX, part 6: addresses, parts, new boxes, aggregates, small operations. -/
import Derived.Test.YtecggjfjafnepaaGreatDoorAx5
namespace Go.AX
open Go

def aFieldAddr (P : Program) (t : TypeId) (x : V) (f : Nat) : Option Res :=
 match tiOf P t with
 | some ⟨.struct fs, _, _, _⟩ => match fs[f]? with
  | some (off, ft) => match tiOf P ft with
   | some fi => if fi.size = 0 then none else match x with
    | .ptr id j => some ⟨.ptr id (j + off), [], True⟩
    | .pe id i j => some ⟨.pe id i (j + off), [], True⟩
    | .d (.ptr cs j) => some ⟨.d (.ptr cs (j + off)), [], True⟩
    | _ => none
   | none => none
  | none => none
 | _ => none

def partV (i : TI) (cs : List V) (off : Nat) : Option V :=
 if i.u.agg = true then (if off + i.size ≤ cs.length then some (mkAgg ((cs.drop off).take i.size)) else none) else cs[off]?
def partD (i : TI) (cs : List D) (off : Nat) : Option D :=
 if i.u.agg = true then (if off + i.size ≤ cs.length then some (.agg ((cs.drop off).take i.size)) else none) else cs[off]?

def aField (P : Program) (t : TypeId) (x : V) (f : Nat) : Option Res :=
 match tiOf P t with
 | some ⟨.struct fs, _, _, _⟩ => match fs[f]? with
  | some (off, ft) => match tiOf P ft with
   | some fi => match x with
    | .d (.agg cs) => match partD fi cs off with
     | some y => some ⟨.d y, [], True⟩
     | none => none
    | .agg cs => match partV fi cs off with
     | some y => some ⟨y, [], True⟩
     | none => none
    | _ => none
   | none => none
  | none => none
 | _ => none

def aIndexAddr (P : Program) (hv : Nat → Option O) (t : TypeId) (x i : V) : Option Res :=
 match i with
 | .d (.int _ n) => match tiOf P t with
  | some ⟨.slice e, _, _, _⟩ => match tiOf P e with
   | some ei => match x with
    | .d (.sl xs) => match xs[n.toNat]? with
     | some y => if y.cells.length = ei.size then some ⟨.d (.ptr y.cells 0), [], 0 ≤ n⟩ else none
     | none => none
    | .slr id lo m => match hv id with
     | some (.vec _ s _) => if s = ei.size then some ⟨.pe id (lo + n.toNat) 0, [], 0 ≤ n ∧ n < m⟩ else none
     | _ => none
    | _ => none
   | none => none
  | some ⟨.arr m e, _, _, _⟩ => match tiOf P e with
   | some ei => match x with
    | .ptr id j => some ⟨.ptr id (j + n.toNat * ei.size), [], 0 ≤ n ∧ n < m⟩
    | .d (.ptr cs j) => some ⟨.d (.ptr cs (j + n.toNat * ei.size)), [], 0 ≤ n ∧ n < m⟩
    | _ => none
   | none => none
  | _ => none
 | _ => none

def aIndex (P : Program) (t : TypeId) (x i : V) : Option Res :=
 match i with
 | .d (.int _ n) => match tiOf P t with
  | some ⟨.str, _, _, _⟩ => match x with
   | .d (.str s) => match s[n.toNat]? with
    | some c => some ⟨.d (.int .u8 c.toNat), [], 0 ≤ n⟩
    | none => none
   | _ => none
  | some ⟨.arr m e, _, _, _⟩ => match tiOf P e with
   | some ei => match x with
    | .d (.agg cs) => match partD ei cs (n.toNat * ei.size) with
     | some y => some ⟨.d y, [], 0 ≤ n ∧ n < m⟩
     | none => none
    | _ => none
   | none => none
  | _ => none
 | _ => none

section
variable {P : Program} {cx : Cx} {hv : Nat → Option O} {σ : Nat → Option Loc} {w : World} {nid : Nat} {ρ : Operand → Value} {ev : Operand → V}

theorem tuOf_struct {d : TypeDesc} {fs : List (Nat × Nat)} (h : TU.struct fs = tuOf d) : ∃ fa, d = .struct fa ∧ fs = fa.toList.map fun f => (f.offset, f.type) := by
 cases d <;> simp [tuOf] at h
 exact ⟨_, rfl, h⟩
theorem tuOf_slice {d : TypeDesc} {e : Nat} (h : TU.slice e = tuOf d) : d = .slice e := by
 cases d <;> simp [tuOf] at h
 rw [h]
theorem tuOf_arr {d : TypeDesc} {n e : Nat} (h : TU.arr n e = tuOf d) : d = .array n e := by
 cases d <;> simp [tuOf] at h
 rw [h.1, h.2]
theorem tuOf_str {d : TypeDesc} (h : TU.str = tuOf d) : d = .string := by
 cases d <;> simp [tuOf] at h
 rfl
theorem tuOf_int {d : TypeDesc} {k : IntKind} (h : TU.int k = tuOf d) : d = .int k := by
 cases d <;> simp [tuOf] at h
 rw [h]
theorem tuOf_map {d : TypeDesc} {k e : Nat} (h : TU.map k e = tuOf d) : d = .map k e := by
 cases d <;> simp [tuOf] at h
 rw [h.1, h.2]

theorem field_get {fa : Array Field} {f off ft : Nat} (h : (fa.toList.map fun f => (f.offset, f.type))[f]? = some (off, ft)) : ∃ fd, fa[f]? = some fd ∧ fd.offset = off ∧ fd.type = ft := by
 rw [List.getElem?_map] at h
 cases hf : fa.toList[f]? with
 | none => rw [hf] at h; cases h
 | some fd =>
  rw [hf] at h
  simp at h
  exact ⟨fd, by simpa using hf, h.1, h.2⟩

theorem aFieldAddr_sound (h : HR cx hv σ w) (hev : ∀ x, RV w (okB cx w hv σ) σ (ev x) (ρ x)) {t : TypeId} {x : Operand} {f : Nat} {o : Oper} {r : Res} (ho : o.op = .fieldAddr t x f) (hr : aFieldAddr P t (ev x) f = some r) :
  Sound P cx hv σ w nid ρ o r := by
 have hx := hev x
 unfold aFieldAddr at hr
 split at hr
 ·rename_i fs _ _ _ hti
  split at hr
  ·rename_i off ft hf
   split at hr
   ·rename_i fi hfi
    split at hr
    ·cases hr
    rename_i hsz
    obtain ⟨i, d, z, h1, h2, h3, h4, h5, _⟩ := tiOf_spec hti
    obtain ⟨fa, rfl, rfl⟩ := tuOf_struct h4
    obtain ⟨fd, hfd, hoff, hft⟩ := field_get hf
    obtain ⟨i', d', z', g1, g2, g3, g4, g5, _⟩ := tiOf_spec hfi
    have run : ∀ b q, ρ x = .pointer (some ⟨b, q, none⟩) → (execOp ρ o).run P w = .ok (.value (.pointer (some ⟨b, q + off, none⟩))) w := by
     intro b q hq
     have hs0 : ¬ i'.size = 0 := by rw [← g5]; exact hsz
     rw [← hft] at g1
     simp only [execOp, ho, hq, Instr.fieldAt, Instr.sureAddr, Sem.run_bind, run_underlying' h2, Result.andThen_ok, hfd, Sem.run_pure, fieldPlace, run_sizeOf' g1, hs0, if_false, hoff, addr_add]
    split at hr
    ·rename_i id j ex
     cases hr
     rw [ex] at hx
     simp only [RV] at hx
     obtain ⟨b, K, s, hs, hv'⟩ := hx
     exact sound_value h rfl (run b j hv') (by simp only [RV]; exact ⟨b, K, s, hs, rfl⟩)
    ·rename_i id ix j ex
     cases hr
     rw [ex] at hx
     simp only [RV] at hx
     obtain ⟨b, K, s, hs, hv'⟩ := hx
     exact sound_value h rfl (run b _ hv') (by simp only [RV]; exact ⟨b, K, s, hs, by rw [Nat.add_assoc]⟩)
    ·rename_i cs j ex
     cases hr
     rw [ex] at hx
     simp only [RV, RD] at hx
     obtain ⟨b, q, c, e, fr, hv', hok, hb, hc⟩ := hx
     exact sound_value h rfl (run b _ hv') (by simp only [RV, RD]; exact ⟨b, q, c, e, fr, by rw [Nat.add_assoc], hok, hb, hc⟩)
    ·cases hr
   ·cases hr
  ·cases hr
 ·cases hr

theorem part_run {t : TypeId} {ti : TI} (hti : tiOf P t = some ti) {c : Array Value} {off : Nat} :
  (ti.u.agg = true → (part t c off).run P w = .ok (.agg (c.extract off (off + ti.size))) w) ∧ (ti.u.agg = false → ∀ v, c[off]? = some v → (part t c off).run P w = .ok v w) := by
 obtain ⟨i, d, z, h1, h2, h3, h4, h5, _⟩ := tiOf_spec hti
 refine ⟨fun ha => ?_, fun ha v hv => ?_⟩
 ·simp only [part, Sem.run_bind, run_isAgg' h2, Result.andThen_ok, ← h4, ha, if_true, run_sizeOf' h1, Sem.run_pure, h5]
 ·simp only [part, Sem.run_bind, run_isAgg' h2, Result.andThen_ok, ← h4, ha, Bool.false_eq_true, if_false, hv, Sem.run_pure]

theorem partD_sound {t : TypeId} {ti : TI} (hti : tiOf P t = some ti) {c : Array Value} {cs : List D} {off : Nat} {y : D} {ok : Nat → Prop} (hl : c.size = cs.length) (hc : RDcs w ok c 0 cs) (hp : partD ti cs off = some y) :
  ∃ v, (part t c off).run P w = .ok v w ∧ RD w ok y v := by
 unfold partD at hp
 split at hp
 ·rename_i ha
  split at hp
  ·cases hp
   refine ⟨_, (part_run hti).1 ha, ?_⟩
   have := RDcs_take (RDcs_drop hc off) ti.size
   rw [Nat.zero_add] at this
   exact RD_extract this (by simp; omega) (by omega)
  ·cases hp
 ·rename_i ha
  obtain ⟨v, hv', hr⟩ := RDcs_get hc hp
  exact ⟨v, (part_run hti).2 (by simpa using ha) v (by simpa using hv'), hr⟩
theorem partV_sound {t : TypeId} {ti : TI} (hti : tiOf P t = some ti) {c : Array Value} {cs : List V} {off : Nat} {y : V} {ok : Nat → Prop} (hc : RVl w ok σ cs c.toList) (hp : partV ti cs off = some y) :
  ∃ v, (part t c off).run P w = .ok v w ∧ RV w ok σ y v := by
 unfold partV at hp
 split at hp
 ·rename_i ha
  split at hp
  ·cases hp
   refine ⟨_, (part_run hti).1 ha, ?_⟩
   refine RV_mkAgg ?_
   have := RVl_take (RVl_drop hc off) ti.size
   have e2 : (c.extract off (off + ti.size)).toList = List.take ti.size (List.drop off c.toList) := by simp
   rw [e2]
   exact this
  ·cases hp
 ·rename_i ha
  obtain ⟨v, hv', hr⟩ := RVl_get hc hp
  exact ⟨v, (part_run hti).2 (by simpa using ha) v (by simpa using hv'), hr⟩

theorem aField_sound (h : HR cx hv σ w) (hev : ∀ x, RV w (okB cx w hv σ) σ (ev x) (ρ x)) {t : TypeId} {x : Operand} {f : Nat} {o : Oper} {r : Res} (ho : o.op = .field t x f) (hr : aField P t (ev x) f = some r) :
  Sound P cx hv σ w nid ρ o r := by
 have hx := hev x
 unfold aField at hr
 split at hr
 ·rename_i fs _ _ _ hti
  split at hr
  ·rename_i off ft hf
   split at hr
   ·rename_i fi hfi
    obtain ⟨i, d, z, h1, h2, h3, h4, h5, _⟩ := tiOf_spec hti
    obtain ⟨fa, rfl, rfl⟩ := tuOf_struct h4
    obtain ⟨fd, hfd, hoff, hft⟩ := field_get hf
    have run : ∀ c v, ρ x = .agg c → (part ft c off).run P w = .ok v w → (execOp ρ o).run P w = .ok (.value v) w := by
     intro c v hq hpart
     simp only [execOp, ho, hq, Instr.field, asAgg, Sem.run_bind, run_underlying' h2, Result.andThen_ok, hfd, Sem.run_pure, hoff, hft, hpart]
    split at hr
    ·rename_i cs ex
     split at hr
     ·rename_i y hy
      cases hr
      rw [ex] at hx
      simp only [RV, RD] at hx
      obtain ⟨c, hc1, hc2, hc3⟩ := hx
      obtain ⟨v, hv1, hv2⟩ := partD_sound hfi hc2 hc3 hy
      exact sound_value h rfl (run c v hc1 hv1) (by simpa only [RV] using hv2)
     ·cases hr
    ·rename_i cs ex
     split at hr
     ·rename_i y hy
      cases hr
      rw [ex] at hx
      simp only [RV] at hx
      obtain ⟨c, hc1, hc2⟩ := hx
      obtain ⟨v, hv1, hv2⟩ := partV_sound hfi hc2 hy
      exact sound_value h rfl (run c v hc1 hv1) hv2
     ·cases hr
    ·cases hr
   ·cases hr
  ·cases hr
 ·cases hr

theorem indexAt_run {t e : TypeId} {o : Oper} {x i : Operand} (ho : o.op = .indexAddr t x i) (hu : P.underlying t = some (.slice e)) {ie : TypeInfo} (he : P.info? e = some ie) {k : IntKind} {n : Int} (hn : ρ i = .int k n) {a : Addr} {m cap : Nat}
  (hx : ρ x = .slice (some a) m cap) (h0 : 0 ≤ n) (h1 : n < m) : (execOp ρ o).run P w = .ok (.value (.pointer (some (a.add (n.toNat * ie.size))))) w := by
 simp only [execOp, ho, hn, hx, Instr.indexAt, asIntOf, Sem.run_bind, Sem.run_pure, Result.andThen_ok, run_underlying' hu, run_sizeOf' he, h0, h1, and_self, if_true]
theorem indexAtArr_run {t e : TypeId} {m : Nat} {o : Oper} {x i : Operand} (ho : o.op = .indexAddr t x i) (hu : P.underlying t = some (.array m e)) {ie : TypeInfo} (he : P.info? e = some ie) {k : IntKind} {n : Int} (hn : ρ i = .int k n) {a : Addr}
  (hx : ρ x = .pointer (some a)) (h0 : 0 ≤ n) (h1 : n < m) : (execOp ρ o).run P w = .ok (.value (.pointer (some (a.add (n.toNat * ie.size))))) w := by
 simp only [execOp, ho, hn, hx, Instr.indexAt, Instr.sureAddr, asIntOf, Sem.run_bind, Sem.run_pure, Result.andThen_ok, run_underlying' hu, run_sizeOf' he, h0, h1, and_self, if_true]

theorem aIndexAddr_sound (h : HR cx hv σ w) (hev : ∀ x, RV w (okB cx w hv σ) σ (ev x) (ρ x)) {t : TypeId} {x i : Operand} {o : Oper} {r : Res} (ho : o.op = .indexAddr t x i) (hr : aIndexAddr P hv t (ev x) (ev i) = some r) (hob : r.ob) :
  Sound P cx hv σ w nid ρ o r := by
 have hx := hev x
 have hi := hev i
 unfold aIndexAddr at hr
 split at hr
 ·rename_i k n ei
  rw [ei] at hi
  simp only [RV, RD] at hi
  split at hr
  ·rename_i e _ _ _ hti
   obtain ⟨ii, d, z, h1, h2, h3, h4, h5, _⟩ := tiOf_spec hti
   have := tuOf_slice h4
   subst this
   split at hr
   ·rename_i eti hei
    obtain ⟨ie, d', z', g1, g2, g3, g4, g5, _⟩ := tiOf_spec hei
    split at hr
    ·rename_i xs ex
     rw [ex] at hx
     simp only [RV, RD] at hx
     obtain ⟨a, m, cap, hv', hm, hcap, hx⟩ := hx
     split at hr
     ·rename_i y hy
      split at hr
      ·rename_i hyl
       cases hr
       simp only at hob
       have hlt : n.toNat < xs.length := by
        rcases Nat.lt_or_ge n.toNat xs.length with h' | h'
        ·exact h'
        ·simp [List.getElem?_eq_none h'] at hy
       rcases hx with hx | ⟨b, off, c, e', fr, s, ha, hok, hb, hel⟩
       ·subst hx; simp at hlt
       subst ha
       have hrun := indexAt_run (P := P) (w := w) ho h2 g1 hi hv' hob (by omega)
       rw [addr_add] at hrun
       obtain ⟨v, he, hrd⟩ := RDels_get hel hy
       have hs : s = ie.size ∧ RDcs w (okB cx w hv σ) c (off + n.toNat * s) y.cells := by
        by_cases hsy : y.single = true
        ·obtain ⟨hs1, hcv⟩ := elem_one he (oneCell_of_RD hsy hrd)
         have hc1 : y.cells = [y] := by cases y <;> simp_all [D.cells, D.single]
         rw [hc1] at hyl ⊢
         simp at hyl
         refine ⟨by omega, ?_⟩
         simp only [RDcs]
         exact ⟨⟨v, hcv, hrd⟩, trivial⟩
        ·cases y <;> simp [D.single] at hsy
         obtain ⟨hc1, hc2⟩ := elem_cells he hrd
         simp only [D.cells] at hyl ⊢
         exact ⟨by omega, hc1⟩
       rw [← hs.1] at hrun
       refine sound_value h rfl hrun ?_
       simp only [RV, RD]
       exact ⟨b, off + n.toNat * s, c, e', fr, rfl, hok, hb, hs.2⟩
      ·cases hr
     ·cases hr
    ·rename_i id lo m ex
     split at hr
     ·rename_i e0 s0 xs0 hid
      split at hr
      ·rename_i hs0
       cases hr
       simp only at hob
       rw [ex] at hx
       simp only [RV] at hx
       rcases hx with ⟨_, _, hm0, _⟩ | ⟨b, K, s, a, cap, hs, hv', hmc, hK, ha⟩
       ·omega
       have ho' := h.own id _ hid
       simp only [RO] at ho'
       rcases ho' with ⟨hn, _⟩ | ⟨b', K', c, fr, hs', _⟩
       ·rw [hs] at hn; cases hn
       rw [hs] at hs'
       cases hs'
       rcases ha with ha | ha
       ·omega
       subst ha
       have hrun := indexAt_run (P := P) (w := w) ho h2 g1 hi hv' hob.1 hob.2
       rw [addr_add] at hrun
       have e1 : lo * s0 + n.toNat * ie.size = (lo + n.toNat) * s0 + 0 := by
        rw [← g5, ← hs0, Nat.add_mul]; rfl
       rw [e1] at hrun
       exact sound_value h rfl hrun (by simp only [RV]; exact ⟨b, K, s0, hs, rfl⟩)
      ·cases hr
     ·cases hr
    ·cases hr
   ·cases hr
  ·rename_i m e _ _ _ hti
   obtain ⟨ii, d, z, h1, h2, h3, h4, h5, _⟩ := tiOf_spec hti
   have := tuOf_arr h4
   subst this
   split at hr
   ·rename_i eti hei
    obtain ⟨ie, d', z', g1, g2, g3, g4, g5, _⟩ := tiOf_spec hei
    split at hr
    ·rename_i id j ex
     cases hr
     simp only at hob
     rw [ex] at hx
     simp only [RV] at hx
     obtain ⟨b, K, s, hs, hv'⟩ := hx
     have hrun := indexAtArr_run (P := P) (w := w) ho h2 g1 hi hv' hob.1 hob.2
     rw [addr_add, ← g5] at hrun
     exact sound_value h rfl hrun (by simp only [RV]; exact ⟨b, K, s, hs, rfl⟩)
    ·rename_i cs j ex
     cases hr
     simp only at hob
     rw [ex] at hx
     simp only [RV, RD] at hx
     obtain ⟨b, off, c, e', fr, hv', hok, hb, hc⟩ := hx
     have hrun := indexAtArr_run (P := P) (w := w) ho h2 g1 hi hv' hob.1 hob.2
     rw [addr_add, ← g5, Nat.add_assoc] at hrun
     exact sound_value h rfl hrun (by simp only [RV, RD]; exact ⟨b, off, c, e', fr, rfl, hok, hb, hc⟩)
    ·cases hr
   ·cases hr
  ·cases hr
 ·cases hr

theorem aIndex_sound (h : HR cx hv σ w) (hev : ∀ x, RV w (okB cx w hv σ) σ (ev x) (ρ x)) {t : TypeId} {x i : Operand} {o : Oper} {r : Res} (ho : o.op = .index t x i) (hr : aIndex P t (ev x) (ev i) = some r) (hob : r.ob) :
  Sound P cx hv σ w nid ρ o r := by
 have hx := hev x
 have hi := hev i
 unfold aIndex at hr
 split at hr
 ·rename_i k n ei
  rw [ei] at hi
  simp only [RV, RD] at hi
  split at hr
  ·rename_i _ _ _ hti
   obtain ⟨ii, d, z, h1, h2, h3, h4, h5, _⟩ := tiOf_spec hti
   have := tuOf_str h4
   subst this
   split at hr
   ·rename_i s ex
    split at hr
    ·rename_i c hc
     cases hr
     simp only at hob
     rw [ex] at hx
     simp only [RV, RD] at hx
     refine sound_value h rfl (v := .int .u8 c.toNat) ?_ (by simp only [RV, RD])
     have hg : (ByteArray.mk s.toArray)[n.toNat]? = some c := by
      have hlt : n.toNat < s.length := by
       rcases Nat.lt_or_ge n.toNat s.length with h' | h'
       ·exact h'
       ·simp [List.getElem?_eq_none h'] at hc
      have hlt' : n.toNat < (ByteArray.mk s.toArray).size := by simpa [ByteArray.size] using hlt
      rw [getElem?_pos (ByteArray.mk s.toArray) n.toNat hlt']
      congr 1
      show s.toArray[n.toNat] = c
      rw [List.getElem?_eq_getElem hlt] at hc
      simpa using hc
     simp only [execOp, ho, hx, hi, Instr.index, asIntOf, Sem.run_bind, Sem.run_pure, Result.andThen_ok, run_underlying' h2, hob, if_true, hg]
    ·cases hr
   ·cases hr
  ·rename_i m e _ _ _ hti
   obtain ⟨ii, d, z, h1, h2, h3, h4, h5, _⟩ := tiOf_spec hti
   have := tuOf_arr h4
   subst this
   split at hr
   ·rename_i eti hei
    obtain ⟨ie, d', z', g1, g2, g3, g4, g5, _⟩ := tiOf_spec hei
    split at hr
    ·rename_i cs ex
     split at hr
     ·rename_i y hy
      cases hr
      simp only at hob
      rw [ex] at hx
      simp only [RV, RD] at hx
      obtain ⟨c, hc1, hc2, hc3⟩ := hx
      obtain ⟨v, hv1, hv2⟩ := partD_sound hei hc2 hc3 hy
      refine sound_value h rfl (v := v) ?_ (by simpa only [RV] using hv2)
      rw [g5] at hv1
      simp only [execOp, ho, hc1, hi, Instr.index, asIntOf, Sem.run_bind, Sem.run_pure, Result.andThen_ok, run_underlying' h2, hob.1, hob.2, and_self, if_true, run_sizeOf' g1, hv1]
     ·cases hr
    ·cases hr
   ·cases hr
  ·cases hr
 ·cases hr
end
end Go.AX
