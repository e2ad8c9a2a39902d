/- AX, part 7g: pointers compared and seen as unsafe ones, bytes seen as a string. -/
import Derived.Test.YtecggjfjafnepaaGreatDoorAx7f
import Derived.Test.YtecggjfjafnepaaGreatDoorAx4b
import Derived.Lib.Builder
import Derived.Lib.UnsafeStr
set_option linter.unusedSimpArgs false
set_option linter.unusedVariables false
namespace Go.AX
open Go

def aPtrEq (P : Program) (op : BinOp) (t : TypeId) (x y : V) : Option Res :=
 let b? : Option Bool := match x, y with
  | .ptr _ _, .d .nilp => some false
  | .pe _ _ _, .d .nilp => some false
  | .d (.ptr _ _), .d .nilp => some false
  | .d .nilp, .d .nilp => some true
  | .ptr i j, .ptr i' j' => if i = i' ∧ j = j' then some true else none
  | _, _ => none
 match tiOf P t with
 | some ⟨.ptr e, _, _, _⟩ => match tiOf P e with
  | some _ => match op, b? with
   | .eql, some b => some ⟨.d (.bool b), [], True⟩
   | .neq, some b => some ⟨.d (.bool (!b)), [], True⟩
   | _, _ => none
  | _ => none
 | _ => none

theorem tuOf_ptr {d : TypeDesc} {e : Nat} (h : TU.ptr e = tuOf d) : d = .pointer e := by
 cases d <;> simp [tuOf] at h
 simp [h]

section
variable {P : Program} {cx : Cx} {hv : Nat → Option O} {σ : Nat → Option Loc} {w : World} {nid : Nat} {ρ : Operand → Value} {ev : Operand → V}

theorem aPtrEq_sound (h : HR cx hv σ w) (hev : ∀ x, RV w (okB cx w hv σ) σ (ev x) (ρ x)) {op : BinOp} {t yt : TypeId} {x y : Operand} {o : Oper} {r : Res} (ho : o.op = .binOp op t x y yt) (hr : aPtrEq P op t (ev x) (ev y) = some r) :
  Sound P cx hv σ w nid ρ o r := by
 have hx := hev x
 have hy := hev y
 unfold aPtrEq at hr
 simp only at hr
 split at hr
 case h_2 => cases hr
 rename_i e _ _ _ hti
 obtain ⟨ii, d, zv, h1, h2, h3, h4, _⟩ := tiOf_spec hti
 have := tuOf_ptr h4
 subst this
 split at hr
 case h_2 => cases hr
 rename_i ei hei
 obtain ⟨ie, d', z', g1, g2, g3, g4, _⟩ := tiOf_spec hei
 have main : ∀ b, (match ev x, ev y with
   | .ptr _ _, .d .nilp => some false
   | .pe _ _ _, .d .nilp => some false
   | .d (.ptr _ _), .d .nilp => some false
   | .d .nilp, .d .nilp => some true
   | .ptr i j, .ptr i' j' => if i = i' ∧ j = j' then some true else none
   | _, _ => none : Option Bool) = some b → ∃ p q, ρ x = .pointer p ∧ ρ y = .pointer q ∧ (Op.equal t (.pointer p) (.pointer q)).run P w = .ok b w := by
  intro b hb
  have key : ∀ p q b, ρ x = .pointer p → ρ y = .pointer q → (∀ n, (Op.equalIn (n + 1) t (.pointer p) (.pointer q)).run P w = .ok b w) → ∃ p q, ρ x = .pointer p ∧ ρ y = .pointer q ∧ (Op.equal t (.pointer p) (.pointer q)).run P w = .ok b w := by
   intro p q b e1 e2 h3
   exact ⟨p, q, e1, e2, h3 9999⟩
  split at hb
  ·rename_i e1 e2
   cases hb
   rw [e1] at hx; rw [e2] at hy
   simp only [RV, RD] at hx hy
   obtain ⟨b', K, s, _, hx⟩ := hx
   exact key _ _ _ hx hy fun n => by simp [Op.equalIn, run_underlying' h2]
  ·rename_i e1 e2
   cases hb
   rw [e1] at hx; rw [e2] at hy
   simp only [RV, RD] at hx hy
   obtain ⟨b', K, s, _, hx⟩ := hx
   exact key _ _ _ hx hy fun n => by simp [Op.equalIn, run_underlying' h2]
  ·rename_i e1 e2
   cases hb
   rw [e1] at hx; rw [e2] at hy
   simp only [RV, RD] at hx hy
   obtain ⟨b', off, c, e', fr, hx, _⟩ := hx
   exact key _ _ _ hx hy fun n => by simp [Op.equalIn, run_underlying' h2]
  ·rename_i e1 e2
   cases hb
   rw [e1] at hx; rw [e2] at hy
   simp only [RV, RD] at hx hy
   exact key _ _ _ hx hy fun n => by simp [Op.equalIn, run_underlying' h2]
  ·rename_i i j i' j' e1 e2
   split at hb
   case isFalse => cases hb
   rename_i hij
   obtain ⟨rfl, rfl⟩ := hij
   cases hb
   rw [e1] at hx; rw [e2] at hy
   simp only [RV] at hx hy
   obtain ⟨b1, K, s, s1, hx⟩ := hx
   obtain ⟨b2, K2, s2, s3, hy⟩ := hy
   rw [s1] at s3
   cases s3
   exact key _ _ _ hx hy fun n => by simp [Op.equalIn, run_underlying' h2, sizeOf, typeInfo, g1, run_sameAddr_same]
  ·cases hb
 split at hr
 ·rename_i b hb
  cases hr
  obtain ⟨p, q, e1, e2, e3⟩ := main b hb
  refine sound_value h rfl (v := .bool b) ?_ (by simp only [RV, RD])
  simp only [execOp, ho, e1, e2, eqGuard, Sem.run_bind, Result.andThen_ok, binOp, e3, Sem.run_pure, Bool.not_true, Bool.false_eq_true, if_false]
 ·rename_i b hb
  cases hr
  obtain ⟨p, q, e1, e2, e3⟩ := main b hb
  refine sound_value h rfl (v := .bool (!b)) ?_ (by simp only [RV, RD])
  simp only [execOp, ho, e1, e2, eqGuard, Sem.run_bind, Result.andThen_ok, binOp, e3, Sem.run_pure, Bool.not_true, Bool.false_eq_true, if_false]
 ·cases hr

def Operand.lit : Operand → Bool
 | .const _ => true
 | _ => false
def aNilI (P : Program) (op : BinOp) (t : TypeId) (x y : V) (lit : Bool) : Option Res := match x, y with
 | .d .nili, .d .nili => match tiOf P t with
  | some ⟨.iface, _, _, _⟩ => if lit = true then (match op with
   | .eql => some ⟨.d (.bool true), [], True⟩
   | .neq => some ⟨.d (.bool false), [], True⟩
   | _ => none) else none
  | _ => none
 | _, _ => none
theorem aNilI_sound (h : HR cx hv σ w) (hev : ∀ x, RV w (okB cx w hv σ) σ (ev x) (ρ x)) {op : BinOp} {t yt : TypeId} {x y : Operand} {o : Oper} {r : Res} (ho : o.op = .binOp op t x y yt) (hr : aNilI P op t (ev x) (ev y) (Operand.lit x || Operand.lit y) = some r) :
  Sound P cx hv σ w nid ρ o r := by
 have hx := hev x
 have hy := hev y
 unfold aNilI at hr
 split at hr
 case h_2 => cases hr
 rename_i e1 e2
 rw [e1] at hx
 rw [e2] at hy
 simp only [RV, RD] at hx hy
 split at hr
 case h_2 => cases hr
 rename_i hti
 obtain ⟨ii, d, zv, h1, h2, h3, h4, _⟩ := tiOf_spec hti
 obtain ⟨ms, rfl⟩ : ∃ ms, d = .interface ms := by
  cases d <;> simp [tuOf] at h4
  exact ⟨_, rfl⟩
 split at hr
 case isFalse => cases hr
 rename_i hl
 have hguard : ∀ op', (eqGuard op' t x y .nilIface .nilIface).run P w = .ok () w := by
  intro op'
  unfold eqGuard
  cases x <;> cases y <;> simp_all [Operand.lit]
 have heq : (Op.equal t .nilIface .nilIface).run P w = .ok true w := by
  have : ∀ n, (Op.equalIn (n + 1) t .nilIface .nilIface).run P w = .ok true w := fun n => by simp [Op.equalIn, run_underlying' h2]
  exact this 9999
 split at hr
 ·cases hr
  refine sound_value h rfl (v := .bool true) ?_ (by simp only [RV, RD])
  simp only [execOp, ho, hx, hy, Sem.run_bind, hguard, Result.andThen_ok, binOp, heq, Sem.run_pure]
 ·cases hr
  refine sound_value h rfl (v := .bool false) ?_ (by simp only [RV, RD])
  simp only [execOp, ho, hx, hy, Sem.run_bind, hguard, Result.andThen_ok, binOp, heq, Sem.run_pure, Bool.not_true]
 ·cases hr

/-- A slice held against nil. -/
def aSlNil (P : Program) (op : BinOp) (t : TypeId) (x y : V) : Option Res :=
 let b? : Option Bool := match x, y with
  | .nils, .nils => some true
  | .slr _ _ n, .nils => if 0 < n then some false else none
  | .d (.sl (_ :: _)), .nils => some false
  | _, _ => none
 match tiOf P t with
 | some ⟨.slice _, _, _, _⟩ => match op, b? with
  | .eql, some b => some ⟨.d (.bool b), [], True⟩
  | .neq, some b => some ⟨.d (.bool (!b)), [], True⟩
  | _, _ => none
 | _ => none
theorem aSlNil_sound (h : HR cx hv σ w) (hev : ∀ x, RV w (okB cx w hv σ) σ (ev x) (ρ x)) {op : BinOp} {t yt : TypeId} {x y : Operand} {o : Oper} {r : Res} (ho : o.op = .binOp op t x y yt) (hr : aSlNil P op t (ev x) (ev y) = some r) :
  Sound P cx hv σ w nid ρ o r := by
 have hx := hev x
 have hy := hev y
 unfold aSlNil at hr
 simp only at hr
 split at hr
 case h_2 => cases hr
 rename_i e _ _ _ hti
 obtain ⟨ii, d, zv, h1, h2, h3, h4, _⟩ := tiOf_spec hti
 have := tuOf_slice h4
 subst this
 have main : ∀ b, (match ev x, ev y with
   | .nils, .nils => some true
   | .slr _ _ n, .nils => if 0 < n then some false else none
   | .d (.sl (_ :: _)), .nils => some false
   | _, _ => none : Option Bool) = some b → ∃ a n c, ρ x = .slice a n c ∧ ρ y = .slice none 0 0 ∧ (Op.equal t (.slice a n c) (.slice none 0 0)).run P w = .ok b w := by
  intro b hb
  have key : ∀ a n c, ρ x = .slice a n c → ρ y = .slice none 0 0 → b = a.isNone → ∃ a n c, ρ x = .slice a n c ∧ ρ y = .slice none 0 0 ∧ (Op.equal t (.slice a n c) (.slice none 0 0)).run P w = .ok b w := by
   intro a n c e1 e2 e3
   refine ⟨a, n, c, e1, e2, ?_⟩
   have : ∀ m, (Op.equalIn (m + 1) t (.slice a n c) (.slice none 0 0)).run P w = .ok b w := fun m => by
    subst e3
    cases a <;> simp [Op.equalIn, run_underlying' h2]
   exact this 9999
  split at hb
  ·rename_i e1 e2
   cases hb
   rw [e1] at hx; rw [e2] at hy
   simp only [RV] at hx hy
   exact key none 0 0 hx hy rfl
  ·rename_i id lo n e1 e2
   split at hb
   case isFalse => cases hb
   rename_i hn
   cases hb
   rw [e1] at hx; rw [e2] at hy
   simp only [RV] at hx hy
   rcases hx with ⟨_, _, h0, _⟩ | ⟨b', K, s, a, cap, _, hv', _⟩
   ·omega
   ·exact key _ _ _ hv' hy rfl
  ·rename_i z zs e1 e2
   cases hb
   rw [e1] at hx; rw [e2] at hy
   simp only [RV, RD] at hx hy
   obtain ⟨a, n, cap, hv', _, _, hz⟩ := hx
   rcases hz with hz | ⟨b', off, c, e', fr, s, ha, _⟩
   ·cases hz
   ·subst ha
    exact key _ _ _ hv' hy rfl
  ·cases hb
 split at hr
 ·rename_i b hb
  cases hr
  obtain ⟨p, n, c, e1, e2, e3⟩ := main b hb
  refine sound_value h rfl (v := .bool b) ?_ (by simp only [RV, RD])
  simp only [execOp, ho, e1, e2, eqGuard, Sem.run_bind, Result.andThen_ok, binOp, e3, Sem.run_pure, Bool.not_true, Bool.false_eq_true, if_false]
 ·rename_i b hb
  cases hr
  obtain ⟨p, n, c, e1, e2, e3⟩ := main b hb
  refine sound_value h rfl (v := .bool (!b)) ?_ (by simp only [RV, RD])
  simp only [execOp, ho, e1, e2, eqGuard, Sem.run_bind, Result.andThen_ok, binOp, e3, Sem.run_pure, Bool.not_true, Bool.false_eq_true, if_false]
 ·cases hr

def V.isPtr : V → Bool
 | .ptr _ _ => true
 | .pe _ _ _ => true
 | .d .nilp => true
 | .d (.ptr _ _) => true
 | _ => false
def V.isNili : V → Bool
 | .d .nili => true
 | _ => false
def V.isSl : V → Bool
 | .nils => true
 | .slr _ _ _ => true
 | .d (.sl _) => true
 | _ => false
def aBin3 (P : Program) (op : BinOp) (t : TypeId) (x y : V) (lit : Bool) : Option Res :=
 if x.isPtr = true then aPtrEq P op t x y else if x.isSl = true then aSlNil P op t x y else if x.isNili = true then aNilI P op t x y lit else aBin2 P op t x y
theorem aBin3_sound (h : HR cx hv σ w) (hev : ∀ x, RV w (okB cx w hv σ) σ (ev x) (ρ x)) {op : BinOp} {t yt : TypeId} {x y : Operand} {o : Oper} {r : Res} (ho : o.op = .binOp op t x y yt) (hr : aBin3 P op t (ev x) (ev y) (Operand.lit x || Operand.lit y) = some r) (hob : r.ob) :
  Sound P cx hv σ w nid ρ o r := by
 unfold aBin3 at hr
 split at hr
 ·exact aPtrEq_sound h hev ho hr
 ·split at hr
  ·exact aSlNil_sound h hev ho hr
  ·split at hr
   ·exact aNilI_sound h hev ho hr
   ·exact aBin2_sound h hev ho hr hob

/-! ### unsafe pointers -/
def aConvP (P : Program) (hv : Nat → Option O) (src dst : TypeId) (id j : Nat) : Option Res := match tiOf P src, tiOf P dst with
 | some ⟨.ptr t, _, _, _⟩, some ⟨.uptr, _, _, _⟩ => match tiOf P t, hv id with
  | some ti, some (.box _ vs) => if ti.size ≠ 0 ∧ j < vs.length then some ⟨.ptr id j, [], True⟩ else none
  | _, _ => none
 | some ⟨.uptr, _, _, _⟩, some ⟨.ptr u, _, _, _⟩ => match tiOf P u, hv id with
  | some _, some (.box e vs) => if liesAt P P.depth e (vs.length / P.cellsOf e) j u 1 = true then some ⟨.ptr id j, [], True⟩ else none
  | _, _ => none
 | _, _ => none
theorem tuOf_uptr {d : TypeDesc} (h : TU.uptr = tuOf d) : d = .unsafePointer := by
 cases d <;> simp [tuOf] at h
 rfl
theorem aConvP_sound (h : HR cx hv σ w) (hev : ∀ x, RV w (okB cx w hv σ) σ (ev x) (ρ x)) {src dst : TypeId} {x : Operand} {o : Oper} {r : Res} {id j : Nat} (ho : o.op = .convert src dst x) (hx : ev x = .ptr id j) (hr : aConvP P hv src dst id j = some r) :
  Sound P cx hv σ w nid ρ o r := by
 have hxv := hev x
 rw [hx] at hxv
 simp only [RV] at hxv
 obtain ⟨b, K, s, hs, hpv⟩ := hxv
 have fin : r = ⟨.ptr id j, [], True⟩ → (convert src dst (ρ x)).run P w = .ok (ρ x) w → Sound P cx hv σ w nid ρ o r := by
  intro hreq hc
  subst hreq
  refine sound_value h rfl (v := ρ x) ?_ (by simp only [RV]; exact ⟨b, K, s, hs, hpv⟩)
  simp only [execOp, ho, Sem.run_bind, hc, Result.andThen_ok, Sem.run_pure]
 have shp : ∀ e vs, hv id = some (.box e vs) → w.shape? b = some (e, vs.length) := by
  intro e vs hid
  obtain ⟨b', K', s', c, fr, hs', hb, hf, hc⟩ := h.own id _ hid
  rw [hs] at hs'
  cases hs'
  have hl := RVl_length hc
  simp only [World.shape?, hb]
  rw [← hl]
  simp
 unfold aConvP at hr
 split at hr
 ·rename_i t _ _ _ _ _ _ hsr hds
  obtain ⟨ii, d, zv, h1, h2, h3, h4, _⟩ := tiOf_spec hsr
  obtain ⟨jj, d', zv', k1, k2, k3, k4, _⟩ := tiOf_spec hds
  have := tuOf_ptr h4
  subst this
  have := tuOf_uptr k4
  subst this
  split at hr
  case h_2 => cases hr
  rename_i ti e vs hti hid
  obtain ⟨it, dt, zt, g1, g2, g3, g4, g5, _⟩ := tiOf_spec hti
  split at hr
  case isFalse => cases hr
  rename_i hc
  cases hr
  refine fin rfl ?_
  rw [hpv]
  exact Lib.run_to_unsafe w ⟨b, j, none⟩ h2 k2 g1 (by rw [← g5]; exact hc.1) (shp e vs hid) hc.2
 ·rename_i u _ _ _ hsr hds
  obtain ⟨ii, d, zv, h1, h2, h3, h4, _⟩ := tiOf_spec hsr
  obtain ⟨jj, d', zv', k1, k2, k3, k4, _⟩ := tiOf_spec hds
  have := tuOf_uptr h4
  subst this
  have := tuOf_ptr k4
  subst this
  split at hr
  case h_2 => cases hr
  rename_i ti e vs hti hid
  obtain ⟨it, dt, zt, g1, g2, g3, g4, g5, _⟩ := tiOf_spec hti
  split at hr
  case isFalse => cases hr
  rename_i hc
  cases hr
  refine fin rfl ?_
  rw [hpv]
  exact Lib.run_from_unsafe w ⟨b, j, none⟩ h2 k2 g1 (shp e vs hid) hc
 ·cases hr
def V.ownPtr : V → Option (Nat × Nat)
 | .ptr id j => some (id, j)
 | _ => none
def aConvert3 (P : Program) (hv : Nat → Option O) (src dst : TypeId) (x : V) (nid : Nat) : Option Res := match x.ownPtr with
 | some (id, j) => aConvP P hv src dst id j
 | none => aConvert2 P hv src dst x nid
theorem aConvert3_sound (h : HR cx hv σ w) (hn : σ nid = none) (hev : ∀ x, RV w (okB cx w hv σ) σ (ev x) (ρ x)) {src dst : TypeId} {x : Operand} {o : Oper} {r : Res} (ho : o.op = .convert src dst x) (hr : aConvert3 P hv src dst (ev x) nid = some r) (hob : r.ob) : Sound P cx hv σ w nid ρ o r := by
 unfold aConvert3 at hr
 split at hr
 ·rename_i id j hx
  have : ev x = .ptr id j := by
   cases hy : ev x <;> rw [hy] at hx <;> simp [V.ownPtr] at hx
   simp [hx]
  exact aConvP_sound h hev ho this hr
 ·exact aConvert2_sound h hn hev ho hr hob

/-! ### bytes as a string -/
def aSliceData (x : V) : Option Res := match x with
 | .nils => some ⟨.d .nilp, [], True⟩
 | .slr id lo n => if 0 < n then some ⟨.pe id lo 0, [], True⟩ else none
 | _ => none
/-- The bytes of a row of bytes, each in its range. -/
def strOfR : List V → Option (List UInt8)
 | [] => some []
 | .d (.int .u8 n) :: r => if 0 ≤ n ∧ n < 256 then (match strOfR r with
  | some bs => some (UInt8.ofNat n.toNat :: bs)
  | none => none) else none
 | _ :: _ => none
def aUString (P : Program) (hv : Nat → Option O) (pt : TypeId) (p n : V) : Option Res := match p, n with
 | .d .nilp, .d (.int .i64 n) => if n = 0 then some ⟨.d (.str []), [], True⟩ else none
 | .pe id 0 0, .d (.int .i64 n) => match tiOf P pt, hv id with
  | some ⟨.ptr e, _, _, _⟩, some (.vec e' s xs) => if e = e' ∧ s = 1 ∧ P.cellsOf e = 1 ∧ 0 < n ∧ n ≤ 281474976710656 then (match strOfR (xs.take n.toNat) with
   | some bs => some ⟨.d (.str bs), [(id, none)], n ≤ xs.length⟩
   | none => none) else none
  | _, _ => none
 | _, _ => none
theorem strOfR_get : ∀ {ys : List V} {bs : List UInt8}, strOfR ys = some bs → bs.length = ys.length ∧ ∀ (j : Nat) y, ys[j]? = some y → ∃ b : UInt8, y = .d (.int .u8 b.toNat) ∧ bs[j]? = some b
 | [], bs, h => by simp [strOfR] at h; subst h; simp
 | y :: ys, bs, h => by
  unfold strOfR at h
  split at h
  ·rename_i h1; cases h1
  ·rename_i n r h1
   cases h1
   split at h
   case isFalse => cases h
   rename_i hr
   split at h
   ·rename_i bs' hb
    cases h
    obtain ⟨e1, e2⟩ := strOfR_get hb
    refine ⟨by simp [e1], fun j y hy => ?_⟩
    cases j with
    | zero =>
     simp at hy
     subst hy
     refine ⟨UInt8.ofNat n.toNat, ?_, rfl⟩
     have : ((UInt8.ofNat n.toNat).toNat : Int) = n := by
      simp
      omega
     rw [this]
    | succ j => simpa using e2 j y (by simpa using hy)
   ·cases h
  ·cases h

theorem aSliceData_sound (h : HR cx hv σ w) (hev : ∀ x, RV w (okB cx w hv σ) σ (ev x) (ρ x)) {t : TypeId} {x : Operand} {o : Oper} {r : Res} (ho : o.op = .call ⟨.builtin .unsafeSliceData, #[x], #[t]⟩) (hr : aSliceData (ev x) = some r) : Sound P cx hv σ w nid ρ o r := by
 have hx := hev x
 have run : ∀ v, (Builtin.unsafeSliceData_ #[t] o.type #[ρ x]).run P w = .ok v w → (execOp ρ o).run P w = .ok (.value v) w := by
  intro v hv'
  rw [builtin_run ho]
  have : (#[x].map ρ) = #[ρ x] := by simp
  simp only [builtin, Sem.run_bind, this, hv', Result.andThen_ok, Sem.run_pure]
 unfold aSliceData at hr
 split at hr
 ·rename_i ex
  cases hr
  rw [ex] at hx
  simp only [RV] at hx
  refine sound_value h rfl (run (.pointer none) ?_) (by simp only [RV, RD])
  rw [hx]
  rfl
 ·rename_i id lo n ex
  split at hr
  case isFalse => cases hr
  rename_i hn
  cases hr
  rw [ex] at hx
  simp only [RV] at hx
  rcases hx with ⟨_, _, h0, _⟩ | ⟨b, K, s, a, cap, hs, hv', hnc, hlc, hca⟩
  ·omega
  rcases hca with hc0 | rfl
  ·omega
  refine sound_value h rfl (run (.pointer (some ⟨b, lo * s, none⟩)) ?_) (by simp only [RV]; exact ⟨b, K, s, hs, rfl⟩)
  rw [hv']
  exact Lib.run_unsafeSliceData_row _ _ _ _ _ _ (by omega)
 ·cases hr

theorem freeze_eq {b : Nat} {c : Array Value} {e : TypeId} {fr : Nat × Nat} (hb : w.heap[b]? = some (.cells c e fr)) (n : Nat) (hn : n ≠ 0) : ∃ fr', w.freeze ⟨b, 0, none⟩ n = setB w b (.cells c e fr') := by
 obtain ⟨lo, hi⟩ := fr
 refine ⟨if lo == hi then (0, 0 + n) else (min lo 0, max hi (0 + n)), ?_⟩
 have hlt := heap_lt hb
 have hg : w.heap[b] = .cells c e (lo, hi) := by simpa [Array.getElem?_eq_getElem hlt] using hb
 unfold World.freeze setB
 rw [if_neg hn]
 congr 1
 apply Array.ext_getElem?
 intro i
 rw [Array.getElem?_modify, Array.getElem?_setIfInBounds]
 by_cases hi : b = i
 ·subst hi
  simp [hlt, hg]
 ·simp [hi]

theorem aUString_sound (h : HR cx hv σ w) (hev : ∀ x, RV w (okB cx w hv σ) σ (ev x) (ρ x)) {pt it : TypeId} {p n : Operand} {o : Oper} {r : Res} (ho : o.op = .call ⟨.builtin .unsafeString, #[p, n], #[pt, it]⟩) (hr : aUString P hv pt (ev p) (ev n) = some r) (hob : r.ob) : Sound P cx hv σ w nid ρ o r := by
 have hp := hev p
 have hn := hev n
 have run : ∀ v w', (Builtin.unsafeString_ #[pt, it] o.type #[ρ p, ρ n]).run P w = .ok v w' → (execOp ρ o).run P w = .ok (.value v) w' := by
  intro v w' hv'
  rw [builtin_run ho]
  have : (#[p, n].map ρ) = #[ρ p, ρ n] := by simp
  simp only [builtin, Sem.run_bind, this, hv', Result.andThen_ok, Sem.run_pure]
 unfold aUString at hr
 split at hr
 ·rename_i m e1 e2
  split at hr
  case isFalse => cases hr
  rename_i h0
  subst h0
  cases hr
  rw [e1] at hp
  rw [e2] at hn
  simp only [RV, RD] at hp hn
  refine sound_value h rfl (run (.string .empty) w ?_) (by simp only [RV, RD]; rfl)
  rw [hp, hn]
  exact Lib.run_unsafeString_none w pt it o.type none
 ·rename_i id m e1 e2
  rw [e1] at hp
  rw [e2] at hn
  simp only [RV, RD] at hp hn
  split at hr
  case h_2 => cases hr
  rename_i e _ _ _ e' s xs hti hid
  obtain ⟨ii, d, zv, h1, h2, h3, h4, _⟩ := tiOf_spec hti
  have := tuOf_ptr h4
  subst this
  split at hr
  case isFalse => cases hr
  rename_i hc
  obtain ⟨rfl, rfl, hce, hm, hm2⟩ := hc
  split at hr
  case h_2 => cases hr
  rename_i bs hbs
  cases hr
  simp only at hob
  obtain ⟨b, K, s, hs, hpv⟩ := hp
  have ho' := h.own id _ hid
  simp only [RO] at ho'
  rcases ho' with ⟨hn', _⟩ | ⟨b', K', c, fr, hs', hb, hf, hcs, hxl, hel⟩
  ·rw [hs] at hn'; cases hn'
  rw [hs] at hs'
  cases hs'
  obtain ⟨q1, q2⟩ := strOfR_get hbs
  have hlen : bs.length = m.toNat := by rw [q1]; simp; omega
  have hmi : (bs.length : Int) = m := by omega
  have hne : bs ≠ [] := by rintro rfl; simp at hlen; omega
  obtain ⟨fr', hfr⟩ := freeze_eq (w := w) hb bs.length (by omega)
  have hrun := Lib.run_unsafeString_row (P := P) w pt it o.type e h2 hce b c.size (by simp [World.shape?, hb]) bs hne (by rw [hcs]; omega) (by omega) (by
   intro j x hj
   rw [addr_add, cell_of hb]
   have hjl : j < bs.length := by
    rcases Nat.lt_or_ge j bs.length with h' | h'
    ·exact h'
    ·simp [List.getElem?_eq_none h'] at hj
   have hx : (xs.take m.toNat)[j]? = xs[j]? := List.getElem?_take_of_lt (by omega)
   have hxj : xs[j]? = some xs[j] := List.getElem?_eq_getElem (by omega)
   obtain ⟨bb, k1, k2⟩ := q2 j xs[j] (by rw [hx]; exact hxj)
   rw [hj] at k2
   cases k2
   obtain ⟨v, hv1, hv2⟩ := RVels_get hel hxj
   rw [k1] at hv2
   simp only [RV, RD] at hv2
   subst hv2
   simp only [ElemAt, true_and, Nat.zero_add, Nat.mul_one] at hv1
   simpa using hv1)
  rw [hmi] at hrun
  obtain ⟨f1, f2⟩ := h.scrap hid hs (.cells c e fr')
  refine ⟨.string ⟨bs.toArray⟩, setB w b (.cells c e fr'), σ, .inl (run _ _ ?_), ?_, fun _ _ => rfl, fun _ _ h => h, ?_, ?_⟩
  ·rw [hpv, hn, ← hfr]
   have : (0 * 1 + 0 : Nat) = 0 := rfl
   simpa using hrun
  ·rw [app_one]; exact f1
  ·rw [app_one]; exact f2
  ·simp only [RV, RD]
 ·cases hr

/-! ### copy -/
def aCopy (P : Program) (hv : Nat → Option O) (t : TypeId) (d x : V) : Option Res := match tiOf P t with
 | some ⟨.slice e, _, _, _⟩ => match tiOf P e with
  | some ei => match elemsOf hv ei.size x with
   | some (ys, ob) => match d with
    | .slr id lo n => match hv id with
     | some (.vec e' s xs) => if s = ei.size ∧ ys.length ≤ n then
       some ⟨.d (.int .i64 ys.length), [(id, some (.vec e' s (xs.take lo ++ ys ++ xs.drop (lo + ys.length))))], ob = true ∧ lo + ys.length ≤ xs.length⟩ else none
     | _ => none
    | _ => none
   | none => none
  | none => none
 | _ => none
theorem aCopy_sound (h : HR cx hv σ w) (hev : ∀ x, RV w (okB cx w hv σ) σ (ev x) (ρ x)) {t xt : TypeId} {d x : Operand} {o : Oper} {r : Res} (ho : o.op = .call ⟨.builtin .copy, #[d, x], #[t, xt]⟩) (hr : aCopy P hv t (ev d) (ev x) = some r) (hob : r.ob) : Sound P cx hv σ w nid ρ o r := by
  have hd := hev d
  have hx := hev x
  unfold aCopy at hr
  split at hr
  case h_2 => cases hr
  rename_i e _ _ _ hti
  obtain ⟨ii, dd, zv, h1, h2, h3, h4, _⟩ := tiOf_spec hti
  have := tuOf_slice h4
  subst this
  split at hr
  case h_2 => cases hr
  rename_i ei hei
  obtain ⟨ie, d', z', g1, g2, g3, g4, g5, _⟩ := tiOf_spec hei
  split at hr
  case h_2 => cases hr
  rename_i ys ob hys
  split at hr
  case h_2 => cases hr
  rename_i id lo n ed
  split at hr
  case h_2 => cases hr
  rename_i e' s xs hid
  split at hr
  case isFalse => cases hr
  rename_i hc
  obtain ⟨rfl, hyn⟩ := hc
  cases hr
  obtain ⟨ho1, ho2⟩ := hob
  rw [g5] at hys ⊢
  obtain ⟨hlen, new, hnew, hns, hnr, hn1⟩ := elems_sound (P := P) h hx hys ho1
  rw [ed] at hd
  simp only [RV] at hd
  have run : ∀ w', (Builtin.copy_ #[t, xt] o.type #[ρ d, ρ x]).run P w = .ok (goInt ys.length) w' → (execOp ρ o).run P w = .ok (.value (goInt ys.length)) w' := by
    intro w' hv'
    rw [builtin_run ho]
    have : (#[d, x].map ρ) = #[ρ d, ρ x] := by simp
    simp only [builtin, Sem.run_bind, this, hv', Result.andThen_ok, Sem.run_pure]
  have hmin : ∀ m, ys.length ≤ m → Nat.min ys.length m = ys.length := fun m hm => Nat.min_eq_left hm
  have ho' := h.own id _ hid
  simp only [RO] at ho'
  rw [g5] at hid ho'
  rcases hd with ⟨hsn, rfl, rfl, a0, hav⟩ | ⟨b, K, s2, aa, cap, hs, hav, hnc, hlc, hca⟩
  · -- nothing to copy
    have hy0 : ys = [] := by have : ys.length = 0 := by omega
                             simpa using this
    subst hy0
    rcases ho' with ⟨_, rfl⟩ | ⟨b', K', c, fr, hs', _⟩
    · have hnil : new = #[] := by simpa using hns
      subst hnil
      have e9 : app hv [(id, some (O.vec e' ie.size (([] : List V).take 0 ++ [] ++ ([] : List V).drop (0 + ([] : List V).length))))] = hv := by
        rw [app_one]
        funext k
        by_cases hk : k = id
        · subst hk; rw [upd_same]; simpa using hid.symm
        · rw [upd_other _ _ hk]
      refine ⟨goInt 0, w, σ, .inl (run w ?_), ?_, fun _ _ => rfl, fun _ _ h => h, ?_, ?_⟩
      · rw [hav]
        simp only [Builtin.copy_, Sem.run_bind]
        simp [run_underlying' h2, hlen, run_sizeOf' g1]
        have hnew' : (Builtin.firstCells ie.size 0 (ρ x)).run P w = .ok #[] w := by simpa using hnew
        rw [hnew']
        cases a0 <;> simp [storeCells]
      · rw [e9]; exact h
      · rw [e9]; exact fun b hb => ⟨hb, rfl⟩
      · simp only [RV, RD]; rfl
    · rw [hsn] at hs'; cases hs'
  · rcases ho' with ⟨hn', _⟩ | ⟨b', K', c, fr, hs', hb, hf, hcs, hxl, hel⟩
    · rw [hs] at hn'; cases hn'
    rw [hs] at hs'
    cases hs'
    have hroom : lo * ie.size + new.toList.length ≤ c.size := by
      rw [hcs]
      have := Nat.mul_le_mul_right ie.size (show lo + ys.length ≤ K by omega)
      rw [Nat.add_mul] at this
      simp only [Array.length_toList, hns]
      exact this
    have hlt : (xs.take lo).length = lo := by simp; omega
    have hst := run_storeCells' (P := P) new.toList 0 w c (off := lo * ie.size) hb (by simpa using hroom) hf hn1
    have hw' : (if new.toList = [] then w else setB w b (.cells (setL c (lo * ie.size + 0) new.toList) e' fr)) = setB w b (.cells (setL c (lo * ie.size) new.toList) e' fr) := by
      split
      · rename_i h0
        rw [h0]
        simp only [setL]
        rw [setB_self hb]
      · rfl
    rw [hw'] at hst
    have hw := h.write (o0 := .vec e' ie.size xs) hid hs (.cells (setL c (lo * ie.size) new.toList) e' fr) (.vec e' ie.size (xs.take lo ++ ys ++ xs.drop (lo + ys.length))) (by
      intro ok' hok
      refine .inr ⟨b, K, _, fr, hs, setB_same (heap_lt hb), by rw [setL_size]; exact hf, by rw [setL_size]; exact hcs, by simp; omega, ?_⟩
      refine RVels_append (RVels_append (RVels_transfer (RVels_mono hok (fun _ _ h => h) _ _ _ _ (RVels_take hel lo)) fun j hj => ?_) (RVels_transfer (RVels_mono hok (fun _ _ h => h) _ _ _ _ hnr) fun j hj => ?_)) (RVels_transfer (RVels_mono hok (fun _ _ h => h) _ _ _ _ (RVels_drop hel (lo + ys.length))) fun j hj => ?_)
      · rw [hlt] at hj
        rw [setL_get _ _ _ _ hroom, if_neg (by omega)]
      · rw [hlt, setL_get _ _ _ _ hroom, if_pos (by simp only [Array.length_toList, hns]; omega)]
        rw [Array.getElem?_toList]
        congr 1
        omega
      · rw [List.length_append, hlt, Nat.add_mul, setL_get _ _ _ _ hroom, if_neg (by simp only [Array.length_toList, hns]; omega)])
    refine ⟨goInt ys.length, setB w b (.cells (setL c (lo * ie.size) new.toList) e' fr), σ, .inl (run _ ?_), ?_, fun _ _ => rfl, fun _ _ h => h, ?_, ?_⟩
    · rw [hav]
      simp only [Builtin.copy_, Sem.run_bind]
      simp [run_underlying' h2, hlen, run_sizeOf' g1, Nat.min_eq_left hyn]
      rw [hnew]
      rcases hca with hc0 | rfl
      · have hy0 : ys.length = 0 := by omega
        have hnil : new = #[] := by
          have : new.size = 0 := by rw [hns, hy0]; simp
          simpa using this
        subst hnil
        simp [storeCells, setL, setB_self hb, hmin n hyn, goInt]
      · simp only [Result.andThen_ok, hst]
    · rw [app_one]; exact hw.1
    · rw [app_one]; exact hw.2
    · simp only [RV, RD]; rfl

def aCap (x : V) : Option Res := match x with
 | .nils => some ⟨.d (.int .i64 0), [], True⟩
 | _ => none
theorem aCap_sound (h : HR cx hv σ w) (hev : ∀ x, RV w (okB cx w hv σ) σ (ev x) (ρ x)) {t : TypeId} {x : Operand} {o : Oper} {r : Res} {e : TypeId} (ht : P.underlying t = some (.slice e)) (ho : o.op = .call ⟨.builtin .cap, #[x], #[t]⟩) (hr : aCap (ev x) = some r) : Sound P cx hv σ w nid ρ o r := by
 have hx := hev x
 unfold aCap at hr
 split at hr
 ·rename_i ex
  cases hr
  rw [ex] at hx
  simp only [RV] at hx
  refine sound_value h rfl (v := .int .i64 0) ?_ (by simp only [RV, RD])
  rw [builtin_run ho]
  have : (#[x].map ρ) = #[ρ x] := by simp
  simp only [builtin, Sem.run_bind, this, hx]
  simp [Builtin.cap_, run_underlying' ht, goInt]
 ·cases hr
def aCap2 (P : Program) (t : TypeId) (x : V) : Option Res := match tiOf P t with
 | some ⟨.slice _, _, _, _⟩ => aCap x
 | _ => none
theorem aCap2_sound (h : HR cx hv σ w) (hev : ∀ x, RV w (okB cx w hv σ) σ (ev x) (ρ x)) {t : TypeId} {x : Operand} {o : Oper} {r : Res} (ho : o.op = .call ⟨.builtin .cap, #[x], #[t]⟩) (hr : aCap2 P t (ev x) = some r) : Sound P cx hv σ w nid ρ o r := by
 unfold aCap2 at hr
 split at hr
 ·rename_i e _ _ _ hti
  obtain ⟨ii, d, zv, h1, h2, h3, h4, _⟩ := tiOf_spec hti
  have := tuOf_slice h4
  subst this
  exact aCap_sound h hev h2 ho hr
 ·cases hr
end
end Go.AX
