/- AX, part 7f: new slices, bytes and strings, closures. -/
import Derived.Test.YtecggjfjafnepaaGreatDoorAx7e
import Derived.Laws.IdiomStrings
import Derived.Laws.BytesArg
namespace Go.AX
open Go

def aMakeSlice (P : Program) (t : TypeId) (l c : V) (nid : Nat) : Option Res := match l, c with
 | .d (.int _ l), .d (.int _ c) => match tiOf P t with
  | some ⟨.slice e, _, _, _⟩ => match tiOf P e with
   | some ei => if elemOk ei.size ei.zero = true ∧ 0 < ei.size then some ⟨.slr nid 0 l.toNat, [(nid, some (.vec e ei.size (List.replicate l.toNat ei.zero)))], 0 ≤ l ∧ l ≤ c ∧ c ≤ 281474976710656 ∧ ei.bytes * c ≤ 281474976710656⟩ else none
   | none => none
  | _ => none
 | _, _ => none
def aMakeFunc (fn : Fn) (first caps : List V) : Option Res := match fn, first with
 | .func f, [] => some ⟨.fn f caps, [], True⟩
 | _, _ => none
/-- The bytes of a row of bytes. -/
def strOf : List V → Option (List UInt8)
 | [] => some []
 | .d (.int .u8 n) :: r => match strOf r with
  | some bs => some (UInt8.ofNat n.toNat :: bs)
  | none => none
 | _ :: _ => none
def TU.isByte : TU → Bool
 | .int .u8 => true
 | _ => false
def V.isStr : V → Bool
 | .d (.str _) => true
 | _ => false
def aConvert2 (P : Program) (hv : Nat → Option O) (src dst : TypeId) (x : V) (nid : Nat) : Option Res := match tiOf P src, tiOf P dst with
 | some ⟨.str, _, _, _⟩, some ⟨.slice e, _, _, _⟩ => match tiOf P e, x with
  | some ei, .d (.str s) => if ei.u.isByte = true then some ⟨.slr nid 0 s.length, [(nid, some (.vec e 1 (dv (bytesD s))))], True⟩ else none
  | _, _ => none
 | some ⟨.slice e, _, _, _⟩, some ⟨.str, _, _, _⟩ => match tiOf P e, elemsOf hv 1 x with
  | some ei, some (ys, ob) => if ei.u.isByte = true ∧ x.isStr = false then match strOf ys with
   | some bs => some ⟨.d (.str bs), [], ob = true⟩
   | none => none
   else none
  | _, _ => none
 | _, _ => aConvert P src dst x

section
variable {P : Program} {cx : Cx} {hv : Nat → Option O} {σ : Nat → Option Loc} {w : World} {nid : Nat} {ρ : Operand → Value} {ev : Operand → V}

theorem tu_byte {d : TypeDesc} (h : (tuOf d).isByte = true) : d = .int .u8 := by
 cases d <;> simp [tuOf, TU.isByte] at h
 rename_i k
 cases k <;> simp at h
 rfl

theorem aMakeFunc_sound (h : HR cx hv σ w) (hev : ∀ x, RV w (okB cx w hv σ) σ (ev x) (ρ x)) {fn : Fn} {first caps : Array Operand} {o : Oper} {r : Res} (ho : o.op = .makeFunc fn first caps) (hr : aMakeFunc fn (first.toList.map ev) (caps.toList.map ev) = some r) : Sound P cx hv σ w nid ρ o r := by
 unfold aMakeFunc at hr
 split at hr
 ·rename_i f hf
  cases hr
  have hfe : first = #[] := by
   have : first.toList = [] := by simpa using hf
   simpa using this
  subst hfe
  refine sound_value h rfl (v := .func (.func f) #[] (caps.map ρ)) ?_ ?_
  ·simp [execOp, ho, Instr.makeFunc]
  ·simp only [RV]
   refine ⟨caps.map ρ, rfl, ?_⟩
   rw [Array.toList_map]
   refine RVl_of (by simp) fun j y v hy hv' => ?_
   rw [List.getElem?_map] at hy hv'
   cases hx : caps.toList[j]? with
   | none => rw [hx] at hy; cases hy
   | some z =>
    rw [hx] at hy hv'
    simp at hy hv'
    subst hy
    subst hv'
    exact hev z
 ·cases hr

theorem strOf_get : ∀ {ys : List V} {bs : List UInt8}, strOf ys = some bs → bs.length = ys.length ∧ ∀ (j : Nat) y, ys[j]? = some y → ∃ n : Int, y = .d (.int .u8 n) ∧ bs[j]? = some (UInt8.ofNat n.toNat)
 | [], bs, h => by simp [strOf] at h; subst h; simp
 | y :: ys, bs, h => by
  unfold strOf at h
  split at h
  ·rename_i h1; cases h1
  ·rename_i n r h1
   cases h1
   split at h
   ·rename_i bs' hb
    cases h
    obtain ⟨e1, e2⟩ := strOf_get hb
    refine ⟨by simp [e1], fun j y hy => ?_⟩
    cases j with
    | zero => simp at hy; subst hy; exact ⟨n, rfl, rfl⟩
    | succ j => simpa using e2 j y (by simpa using hy)
   ·cases h
  ·cases h

theorem aConvert2_sound (h : HR cx hv σ w) (hn : σ nid = none) (hev : ∀ x, RV w (okB cx w hv σ) σ (ev x) (ρ x)) {src dst : TypeId} {x : Operand} {o : Oper} {r : Res} (ho : o.op = .convert src dst x) (hr : aConvert2 P hv src dst (ev x) nid = some r) (hob : r.ob) : Sound P cx hv σ w nid ρ o r := by
 have hx := hev x
 unfold aConvert2 at hr
 split at hr
 ·rename_i e _ _ _ hs hd
  obtain ⟨ii, d, z, h1, h2, h3, h4, _⟩ := tiOf_spec hs
  obtain ⟨jj, d', z', g1, g2, g3, g4, _⟩ := tiOf_spec hd
  have := tuOf_str h4
  subst this
  have := tuOf_slice g4
  subst this
  split at hr
  case h_2 => cases hr
  rename_i ei s hei ex
  obtain ⟨ie, d2, z2, k1, k2, k3, k4, _⟩ := tiOf_spec hei
  split at hr
  case isFalse => cases hr
  rename_i hby
  rw [k4] at hby
  have := tu_byte hby
  subst this
  cases hr
  rw [ex] at hx
  simp only [RV, RD] at hx
  have hrun := run_bytes_of_string (P := P) w src dst e ⟨s.toArray⟩ h2 g2 k2
  generalize hcap : grownCap w (ByteArray.mk s.toArray).size 0 e = cap at hrun
  have hc : s.length ≤ cap := by
   rw [← hcap, size_mk]
   simp [grownCap, Question.cut]
  have hdr : HR cx hv σ w.drew := h.same rfl rfl rfl rfl
  have hbs : (bytesRow ⟨s.toArray⟩ cap).size = cap := by simp [bytesRow, size_mk]; omega
  obtain ⟨f1, f2, f3⟩ := hdr.alloc hn (hv_none_of_fresh h hn) (.cells (bytesRow ⟨s.toArray⟩ cap) e ((bytesRow ⟨s.toArray⟩ cap).size, (bytesRow ⟨s.toArray⟩ cap).size + 1)) (.vec e 1 (dv (bytesD s))) cap 1 (by
   intro σ' ok' hσ hok hnew
   refine .inr ⟨_, cap, _, _, hnew, alloc_new _ _, ?_, by rw [hbs]; omega, by simpa [bytesD, dv] using hc, ?_⟩
   ·intro i hi; simp; omega
   ·refine RVels_of fun i y hy => ?_
    simp only [dv, bytesD, List.map_map, List.getElem?_map, Option.map_eq_some_iff] at hy
    obtain ⟨b, hb, rfl⟩ := hy
    refine ⟨.int .u8 b.toNat, ?_, by simp only [Function.comp, RV, RD]⟩
    have hi : i < s.length := by
     rcases Nat.lt_or_ge i s.length with h' | h'
     ·exact h'
     ·simp [List.getElem?_eq_none h'] at hb
    simp only [ElemAt, true_and, Nat.zero_add, Nat.mul_one, bytesRow]
    rw [Array.getElem?_append_left (by simpa using hi)]
    simp [hb])
  refine ⟨.slice (some ⟨w.heap.size, 0, none⟩) (ByteArray.mk s.toArray).size cap, _, _, .inl (by
   simp only [execOp, ho, hx, Sem.run_bind, hrun, Result.andThen_ok, Sem.run_pure]
   rfl), ?_, fun id hid => upd_other _ _ hid, f2, ?_, ?_⟩
  ·rw [app_one]; exact f1
  ·rw [app_one]; exact f3
  ·simp only [RV]
   exact .inr ⟨w.heap.size, cap, 1, ⟨w.heap.size, 0, none⟩, cap, upd_same _ _ _, by rw [size_mk], hc, by omega, .inr rfl⟩
 ·rename_i e _ _ _ _ _ _ hs hd
  obtain ⟨ii, d, z, h1, h2, h3, h4, _⟩ := tiOf_spec hs
  obtain ⟨jj, d', z', g1, g2, g3, g4, _⟩ := tiOf_spec hd
  have := tuOf_slice h4
  subst this
  have := tuOf_str g4
  subst this
  split at hr
  case h_2 => cases hr
  rename_i ei ys ob hei hys
  obtain ⟨ie, d2, z2, k1, k2, k3, k4, _⟩ := tiOf_spec hei
  split at hr
  case isFalse => cases hr
  rename_i hby
  obtain ⟨hby, hns⟩ := hby
  rw [k4] at hby
  have := tu_byte hby
  subst this
  split at hr
  case h_2 => cases hr
  rename_i bs hbs
  cases hr
  obtain ⟨hlen, c, hc, hcs, hcr, hc1⟩ := elems_sound (P := P) h hx hys hob
  obtain ⟨e1, e2⟩ := strOf_get hbs
  have hsl : ∃ a n cap, ρ x = .slice a n cap := by
   revert hx hys hns
   cases ev x with
   | nils => intro hx _ _; simp only [RV] at hx; exact ⟨_, _, _, hx⟩
   | d y =>
    cases y with
    | sl zs => intro hx _ _; simp only [RV, RD] at hx; obtain ⟨a, n, cap, hv', _⟩ := hx; exact ⟨a, n, cap, hv'⟩
    | str b => intro _ _ hns; simp [V.isStr] at hns
    | _ => intro _ hys _; simp [elemsOf] at hys
   | slr id lo n =>
    intro hx _ _
    simp only [RV] at hx
    rcases hx with ⟨_, _, _, a, hv'⟩ | ⟨b, K, s, a, cap, _, hv', _⟩
    ·exact ⟨_, _, _, hv'⟩
    ·exact ⟨_, _, _, hv'⟩
   | _ => intro _ hys _; simp [elemsOf] at hys
  obtain ⟨a, n, cap, hv'⟩ := hsl
  have hnl : n = ys.length := by
   rw [hv'] at hlen
   simp [Builtin.lenOf] at hlen
   exact hlen
  subst hnl
  have hcells : ∀ (j : Nat) (y : V), ys[j]? = some y → ∃ m : Int, y = .d (.int .u8 m) ∧ c[j]? = some (.int .u8 m) := by
   intro j y hy
   obtain ⟨m, rfl, _⟩ := e2 j y hy
   obtain ⟨v, hv1, hv2⟩ := RVels_get hcr hy
   simp only [RV, RD] at hv2
   subst hv2
   simp only [ElemAt, true_and, Nat.zero_add, Nat.mul_one] at hv1
   exact ⟨m, rfl, hv1⟩
  let ns : List Int := ys.map fun | .d (.int _ m) => m | _ => 0
  have hns2 : c = (ns.map (Value.int .u8)).toArray := by
   apply Array.ext_getElem?
   intro j
   rcases Nat.lt_or_ge j ys.length with hj | hj
   ·obtain ⟨m, h5, h6⟩ := hcells j ys[j] (List.getElem?_eq_getElem hj)
    rw [h6]
    simp [ns, hj, h5]
   ·rw [Array.getElem?_eq_none (by omega), Array.getElem?_eq_none (by simp [ns]; omega)]
  have hbs2 : bs = ns.map fun n => UInt8.ofNat n.toNat := by
   apply List.ext_getElem?
   intro j
   rcases Nat.lt_or_ge j ys.length with hj | hj
   ·obtain ⟨m, h5, h6⟩ := e2 j ys[j] (List.getElem?_eq_getElem hj)
    rw [h6]
    simp [ns, hj, h5]
   ·rw [List.getElem?_eq_none (by omega), List.getElem?_eq_none (by simp [ns]; omega)]
  refine sound_value h rfl (v := .string ⟨bs.toArray⟩) ?_ (by simp only [RV, RD])
  have hconv : (convert src dst (ρ x)).run P w = .ok (.string ⟨bs.toArray⟩) w := by
   rw [hv', run_convert_bytes_string w src dst e a _ cap h2 k2 g2]
   cases a with
   | none =>
    rw [hv'] at hc
    simp only [Builtin.firstCells, Sem.run_pure] at hc
    have : ys = [] := by
     have : c = #[] := by injection hc with hc; exact hc.symm
     rw [this] at hcs
     simpa using hcs.symm
    subst this
    simp [strOf] at hbs
    subst hbs
    simp [Conv.bytesToString]
    rfl
   | some a =>
    rw [hv'] at hc
    simp only [Builtin.firstCells, Nat.mul_one] at hc
    rw [hns2] at hc
    rw [run_bytesToString w a _ cap ns hc, foldl_push_bytes, hbs2]
    have he0 : ByteArray.empty.data = #[] := rfl
    rw [he0]
    simp
  simp only [execOp, ho, Sem.run_bind, hconv, Result.andThen_ok, Sem.run_pure]
 ·exact aConvert_sound h hev ho hr hob

theorem elemAt_of {c : Array Value} {s p : Nat} {v : Value} (hs : v.cells.size = s) (hc : ∀ j, j < s → c[p + j]? = v.cells[j]?) : ElemAt c s p v := by
 unfold ElemAt
 split
 ·rename_i vs
  exact ⟨hs, hc⟩
 ·rename_i hna
  have h1 : v.cells = #[v] := by
   cases v <;> first | rfl | (exact absurd rfl (hna _))
  rw [h1] at hs hc
  simp at hs
  subst hs
  have := hc 0 (by omega)
  exact ⟨rfl, by simpa using this⟩

theorem aMakeSlice_sound (h : HR cx hv σ w) (hn : σ nid = none) (hev : ∀ x, RV w (okB cx w hv σ) σ (ev x) (ρ x)) {t : TypeId} {l c : Operand} {o : Oper} {r : Res} (ho : o.op = .makeSlice t l c) (hr : aMakeSlice P t (ev l) (ev c) nid = some r) (hob : r.ob) : Sound P cx hv σ w nid ρ o r := by
 have hl := hev l
 have hc := hev c
 unfold aMakeSlice at hr
 split at hr
 case h_2 => cases hr
 rename_i k1 ln k2 cp el ec
 rw [el] at hl
 rw [ec] at hc
 simp only [RV, RD] at hl hc
 split at hr
 case h_2 => cases hr
 rename_i e _ _ _ hti
 obtain ⟨ii, d, zv, h1, h2, h3, h4, h5, h6, h7⟩ := tiOf_spec hti
 have := tuOf_slice h4
 subst this
 split at hr
 case h_2 => cases hr
 rename_i ei hei
 obtain ⟨ie, d', z, g1, g2, g3, g4, g5, g6, g7⟩ := tiOf_spec hei
 split at hr
 case isFalse => cases hr
 rename_i hcond
 obtain ⟨hok, hsp⟩ := hcond
 cases hr
 obtain ⟨o1, o2, o3, o4⟩ := hob
 rw [g5] at hok hsp
 rw [g6] at o4
 have hrz : RV w (okB cx w hv σ) σ ei.zero z := by rw [g7]; exact RV_constV z
 simp only [elemOk, Bool.and_eq_true, beq_iff_eq] at hok
 have hzs : z.cells.size = ie.size := by
  have := RVl_length (RVl_cells hrz (storable_cases hok.2))
  rw [hok.1.1] at this
  simpa using this
 let C : Array Value := (Array.range (cp.toNat * ie.size)).map (z.cells[· % z.cells.size]!)
 have hCs : C.size = cp.toNat * ie.size := by simp [C]
 have hel : ∀ i, i < cp.toNat → ElemAt C ie.size (i * ie.size) z := by
  intro i hi
  refine elemAt_of hzs fun j hj => ?_
  have hlt : i * ie.size + j < cp.toNat * ie.size := by
   have := Nat.mul_le_mul_right ie.size hi
   rw [Nat.succ_mul] at this
   omega
  have hm : (i * ie.size + j) % ie.size = j := by
   rw [Nat.add_comm, Nat.add_mul_mod_self_right, Nat.mod_eq_of_lt hj]
  simp only [C, Array.getElem?_map]
  rw [Array.getElem?_eq_getElem (by simpa using hlt)]
  simp only [Array.getElem_range, Option.map_some, hzs, hm]
  rw [Array.getElem?_eq_getElem (by omega), getElem!_pos z.cells j (by omega)]
 obtain ⟨f1, f2, f3⟩ := h.alloc hn (hv_none_of_fresh h hn) (.cells C e) (.vec e ie.size (List.replicate ln.toNat ei.zero)) cp.toNat ie.size (by
  intro σ' ok' hσ hok hnew
  refine .inr ⟨w.heap.size, cp.toNat, C, (0, 0), hnew, alloc_new _ _, frOk_zero _, hCs, by simp; omega, ?_⟩
  refine RVels_of fun i x hx => ?_
  rw [List.getElem?_replicate] at hx
  split at hx
  ·rename_i hi
   cases hx
   exact ⟨z, by rw [Nat.zero_add]; exact hel i (by omega), RV_mono hok hσ _ _ hrz⟩
  ·cases hx)
 refine ⟨.slice (some ⟨w.heap.size, 0, none⟩) ln.toNat cp.toNat, w.alloc (.cells C e), _, .inl ?_, ?_, fun id hid => upd_other _ _ hid, f2, ?_, ?_⟩
 ·have w1 : IntKind.i64.wrap ln = ln := wrap_fits (k := .i64) ⟨by omega, by omega⟩
  have w2 : IntKind.i64.wrap cp = cp := wrap_fits (k := .i64) ⟨by omega, by omega⟩
  have hask : (askRoom (cp.toNat * ie.bytes)).run P w = .ok () w := by unfold askRoom; split <;> rfl
  have t1 : ((decide (cp < 0) || decide ((ie.bytes : Int) * cp > 2 ^ 48)) || decide (ln < 0) || decide (ln > cp)) = false := by
   simp
   refine ⟨⟨⟨by omega, ?_⟩, by omega⟩, by omega⟩
   exact o4
  have hz2 : (if cp.toNat * ie.size = 0 then #[] else z.cells) = (if cp.toNat * ie.size = 0 then #[] else z.cells) := rfl
  by_cases h0 : cp.toNat * ie.size = 0
  ·have hC0 : C = (Array.range (cp.toNat * ie.size)).map ((#[] : Array Value)[· % (#[] : Array Value).size]!) := by
    simp [C, h0]
   simp only [execOp, ho, hl, hc, Instr.makeSlice, asInt, asIntOf, Sem.run_bind, run_underlying' h2, Result.andThen_ok, Sem.run_pure, run_typeInfo' g1, w1, w2, t1, Bool.false_eq_true, if_false, hask, run_sizeOf' g1]
   rw [if_pos h0]
   simp only [Sem.run_bind, Sem.run_pure, Result.andThen_ok, newRow, run_newObj_alloc]
   rw [hC0]
  ·simp only [execOp, ho, hl, hc, Instr.makeSlice, asInt, asIntOf, Sem.run_bind, run_underlying' h2, Result.andThen_ok, Sem.run_pure, run_typeInfo' g1, w1, w2, t1, Bool.false_eq_true, if_false, hask, run_sizeOf' g1]
   rw [if_neg h0]
   simp only [Sem.run_bind, run_zeroValue' g1 g3, Sem.run_pure, Result.andThen_ok, newRow, run_newObj_alloc]
   rfl
 ·rw [app_one, g5]; exact f1
 ·rw [app_one, g5]; exact f3
 ·simp only [RV]
  exact .inr ⟨w.heap.size, cp.toNat, ie.size, ⟨w.heap.size, 0, none⟩, cp.toNat, upd_same _ _ _, rfl, by omega, by omega, .inr (by simp)⟩
end
end Go.AX
