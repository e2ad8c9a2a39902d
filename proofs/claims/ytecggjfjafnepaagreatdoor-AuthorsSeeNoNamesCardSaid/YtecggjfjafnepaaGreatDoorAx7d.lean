/- AX, part 7d: slice expressions, new slices, copies, bytes and strings. -/
import Derived.Test.YtecggjfjafnepaaGreatDoorAx7c
set_option linter.unusedSimpArgs false
set_option linter.unusedVariables false
namespace Go.AX
open Go

def intV : Option V → Option (Option Int)
 | none => some none
 | some (.d (.int _ n)) => some (some n)
 | _ => none

/-- Is it 's[:0:0]'? -/
def isCut0 : Option Int → Option Int → Option Int → Bool
 | none, some 0, some 0 => true
 | _, _, _ => false
def aSlice (P : Program) (hv : Nat → Option O) (t : TypeId) (x : V) (lo hi mx : Option V) (nid : Nat) : Option Res :=
 match intV lo, intV hi, intV mx with
 | some l?, some h?, some m? => match tiOf P t with
  | some ⟨.str, _, _, _⟩ => match x with
   | .d (.str s) => match m? with
    | none => some ⟨.d (.str ((s.drop (l?.getD 0).toNat).take ((h?.getD s.length).toNat - (l?.getD 0).toNat))), [], 0 ≤ l?.getD 0 ∧ l?.getD 0 ≤ h?.getD s.length ∧ h?.getD s.length ≤ s.length⟩
    | some _ => none
   | _ => none
  | some ⟨.slice e, _, _, _⟩ => match tiOf P e with
   | some ei => match x with
    | .nils => match h? with
     | some _ => some ⟨.nils, [], l?.getD 0 = 0 ∧ h?.getD 0 = 0 ∧ m?.getD 0 = 0⟩
     | none => if m? = none then some ⟨.nils, [], l?.getD 0 = 0⟩ else none
    | .d (.sl xs) => if isCut0 l? h? m? = true then some ⟨.slr nid 0 0, [(nid, some (.vec e ei.size []))], True⟩ else if h?.isSome = true ∨ m? = none then
      some ⟨.d (.sl ((xs.drop (l?.getD 0).toNat).take ((h?.getD xs.length).toNat - (l?.getD 0).toNat))), [], 0 ≤ l?.getD 0 ∧ l?.getD 0 ≤ h?.getD xs.length ∧ h?.getD xs.length ≤ m?.getD xs.length ∧ m?.getD xs.length ≤ xs.length ∧ xs.all (elemOkD ei.size) = true⟩ else none
    | .slr id b n => match hv id with
     | some (.vec _ s xs) => if isCut0 l? h? m? = true then some ⟨.slr nid 0 0, [(nid, some (.vec e ei.size []))], True⟩ else if s = ei.size then (match m? with
      | none => some ⟨.slr id (b + (l?.getD 0).toNat) ((h?.getD n).toNat - (l?.getD 0).toNat), [], 0 ≤ l?.getD 0 ∧ l?.getD 0 ≤ h?.getD n ∧ (h?.getD n ≤ n ∨ (b : Int) + h?.getD n ≤ xs.length)⟩
      | some mi => if h?.isSome = true then some ⟨.top, [], 0 ≤ l?.getD 0 ∧ l?.getD 0 ≤ h?.getD n ∧ h?.getD n ≤ mi ∧ mi ≤ n⟩ else none) else none
     | _ => none
    | _ => none
   | none => none
  | some ⟨.arr m e, _, _, _⟩ => match tiOf P e with
   | some ei => match x with
    | .d (.ptr cs j) => if ei.size = 1 ∧ h? = none ∧ m? = none then some ⟨.d (.sl (((cs.drop j).take m).drop (l?.getD 0).toNat)), [], 0 ≤ l?.getD 0 ∧ l?.getD 0 ≤ m ∧ j + m ≤ cs.length ∧ cs.all D.single = true⟩ else none
    | _ => none
   | none => none
  | _ => none
 | _, _, _ => none

section
variable {P : Program} {cx : Cx} {hv : Nat → Option O} {σ : Nat → Option Loc} {w : World} {nid : Nat} {ρ : Operand → Value} {ev : Operand → V}

theorem intV_sound {ok : Nat → Prop} {x : Option Operand} (hev : ∀ x, RV w ok σ (ev x) (ρ x)) {n : Option Int} (h : intV (x.map ev) = some n) : (x = none ∧ n = none) ∨ ∃ y i k, x = some y ∧ n = some i ∧ ρ y = .int k i := by
 cases x with
 | none => simp [intV] at h; exact .inl ⟨rfl, h.symm⟩
 | some y =>
  have hy := hev y
  simp only [Option.map_some] at h
  cases hyv : ev y with
  | d z =>
   rw [hyv] at h hy
   cases z with
   | int k i => simp [intV] at h; simp only [RV, RD] at hy; exact .inr ⟨y, i, k, rfl, h.symm, hy⟩
   | _ => simp [intV] at h
  | _ => rw [hyv] at h; simp [intV] at h

theorem run_bound {k : IntKind} {i : Int} {y : Nat} {code : BoundsCode} (h : 0 ≤ i ∧ i ≤ y) : (Instr.sliceBound (.int k i) y code).run P w = .ok i.toNat w := by
 simp only [Instr.sliceBound, asIntOf, Sem.run_bind, Sem.run_pure, Result.andThen_ok, h, and_self, if_true]

/-- The bounds of a slice expression. -/
theorem run_bounds {ok : Nat → Prop} {lo hi mx : Option Operand} (hev : ∀ x, RV w ok σ (ev x) (ρ x)) {l h m : Option Int} (hl : intV (lo.map ev) = some l) (hh : intV (hi.map ev) = some h) (hm : intV (mx.map ev) = some m) {isSl : Bool} {len cap n : Nat} (hn : n ≤ cap) (hln : len = n)
  (hs : h.isSome = true ∨ m = none) (hb : 0 ≤ l.getD 0 ∧ l.getD 0 ≤ h.getD n ∧ h.getD n ≤ m.getD n ∧ m.getD n ≤ n) :
  ∃ c, (h.getD n).toNat ≤ c ∧ c ≤ cap ∧ (Instr.sliceBounds isSl len cap (lo.map ρ) (hi.map ρ) (mx.map ρ)).run P w = .ok ((l.getD 0).toNat, (h.getD n).toNat, c) w := by
 subst hln
 rcases intV_sound hev hm with ⟨rfl, rfl⟩ | ⟨my, mi, mk, rfl, rfl, hmv⟩
 ·refine ⟨cap, ?_, Nat.le_refl _, ?_⟩
  ·simp only [Option.getD_none] at hb; omega
  rcases intV_sound hev hh with ⟨rfl, rfl⟩ | ⟨hy, hi', hk, rfl, rfl, hhv⟩
  ·rcases intV_sound hev hl with ⟨rfl, rfl⟩ | ⟨ly, li, lk', rfl, rfl, hlv⟩
   ·simp [Instr.sliceBounds]
   ·simp only [Option.getD_none, Option.getD_some] at hb ⊢
    simp only [Instr.sliceBounds, Option.map_none, Option.map_some, Sem.run_bind, Sem.run_pure, Result.andThen_ok, hlv, run_bound (show 0 ≤ li ∧ li ≤ (len : Int) by omega)]
    simp
  ·simp only [Option.getD_none, Option.getD_some] at hb ⊢
   rcases intV_sound hev hl with ⟨rfl, rfl⟩ | ⟨ly, li, lk', rfl, rfl, hlv⟩
   ·simp only [Option.getD_none] at hb ⊢
    simp only [Instr.sliceBounds, Option.map_none, Option.map_some, Sem.run_bind, Sem.run_pure, Result.andThen_ok, hhv, run_bound (show 0 ≤ hi' ∧ hi' ≤ (cap : Int) by omega)]
    simp
   ·simp only [Option.getD_some] at hb ⊢
    simp only [Instr.sliceBounds, Option.map_none, Option.map_some, Sem.run_bind, Sem.run_pure, Result.andThen_ok, hhv, hlv, run_bound (show 0 ≤ hi' ∧ hi' ≤ (cap : Int) by omega), run_bound (show 0 ≤ li ∧ li ≤ ((hi'.toNat : Nat) : Int) by omega)]
 ·rcases intV_sound hev hh with ⟨rfl, rfl⟩ | ⟨hy, hi', hk, rfl, rfl, hhv⟩
  ·simp at hs
  ·simp only [Option.getD_some] at hb ⊢
   refine ⟨mi.toNat, by omega, by omega, ?_⟩
   rcases intV_sound hev hl with ⟨rfl, rfl⟩ | ⟨ly, li, lk', rfl, rfl, hlv⟩
   ·simp only [Option.getD_none] at hb ⊢
    simp only [Instr.sliceBounds, Option.map_none, Option.map_some, Sem.run_bind, Sem.run_pure, Result.andThen_ok, hmv, hhv, run_bound (show 0 ≤ mi ∧ mi ≤ (cap : Int) by omega), run_bound (show 0 ≤ hi' ∧ hi' ≤ ((mi.toNat : Nat) : Int) by omega)]
    simp
   ·simp only [Option.getD_some] at hb ⊢
    simp only [Instr.sliceBounds, Option.map_some, Sem.run_bind, Sem.run_pure, Result.andThen_ok, hmv, hhv, hlv, run_bound (show 0 ≤ mi ∧ mi ≤ (cap : Int) by omega), run_bound (show 0 ≤ hi' ∧ hi' ≤ ((mi.toNat : Nat) : Int) by omega), run_bound (show 0 ≤ li ∧ li ≤ ((hi'.toNat : Nat) : Int) by omega)]

theorem run_bounds2 {ok : Nat → Prop} {lo hi mx : Option Operand} (hev : ∀ x, RV w ok σ (ev x) (ρ x)) {l h : Option Int} (hl : intV (lo.map ev) = some l) (hh : intV (hi.map ev) = some h) (hm : intV (mx.map ev) = some none) {isSl : Bool} {len cap : Nat}
  (hb : 0 ≤ l.getD 0 ∧ l.getD 0 ≤ h.getD len ∧ h.getD len ≤ cap) :
  (Instr.sliceBounds isSl len cap (lo.map ρ) (hi.map ρ) (mx.map ρ)).run P w = .ok ((l.getD 0).toNat, (h.getD len).toNat, cap) w := by
 rcases intV_sound hev hm with ⟨rfl, -⟩ | ⟨my, mi, mk, -, h0, -⟩
 ·rcases intV_sound hev hh with ⟨rfl, rfl⟩ | ⟨hy, hi', hk, rfl, rfl, hhv⟩
  ·rcases intV_sound hev hl with ⟨rfl, rfl⟩ | ⟨ly, li, lk', rfl, rfl, hlv⟩
   ·simp [Instr.sliceBounds]
   ·simp only [Option.getD_none, Option.getD_some] at hb ⊢
    simp only [Instr.sliceBounds, Option.map_none, Option.map_some, Sem.run_bind, Sem.run_pure, Result.andThen_ok, hlv, run_bound (show 0 ≤ li ∧ li ≤ (len : Int) by omega)]
    simp
  ·simp only [Option.getD_none, Option.getD_some] at hb ⊢
   rcases intV_sound hev hl with ⟨rfl, rfl⟩ | ⟨ly, li, lk', rfl, rfl, hlv⟩
   ·simp only [Option.getD_none] at hb ⊢
    simp only [Instr.sliceBounds, Option.map_none, Option.map_some, Sem.run_bind, Sem.run_pure, Result.andThen_ok, hhv, run_bound (show 0 ≤ hi' ∧ hi' ≤ (cap : Int) by omega)]
    simp
   ·simp only [Option.getD_some] at hb ⊢
    simp only [Instr.sliceBounds, Option.map_none, Option.map_some, Sem.run_bind, Sem.run_pure, Result.andThen_ok, hhv, hlv, run_bound (show 0 ≤ hi' ∧ hi' ≤ (cap : Int) by omega), run_bound (show 0 ≤ li ∧ li ≤ ((hi'.toNat : Nat) : Int) by omega)]
 ·cases h0

theorem exec_slice {o : Oper} {t : TypeId} {x : Operand} {lo hi mx : Option Operand} (ho : o.op = .slice t x lo hi mx) {d : TypeDesc} (hd : P.underlying t = some d) (hna : (tuOf d).agg = false) {v : Value} (h : (Instr.slice t (ρ x) (lo.map ρ) (hi.map ρ) (mx.map ρ)).run P w = .ok v w) : (execOp ρ o).run P w = .ok (.value v) w := by
 cases d with
 | array _ _ => simp [tuOf, TU.agg] at hna
 | _ => simp only [execOp, ho, Instr.sliceAt, Sem.run_bind, run_underlying' hd, h, Result.andThen_ok, Sem.run_pure]

theorem cut0_sound (h : HR cx hv σ w) (hn : σ nid = none) (hev : ∀ x, RV w (okB cx w hv σ) σ (ev x) (ρ x)) {t : TypeId} {x : Operand} {lo hi mx : Option Operand} {o : Oper} (ho : o.op = .slice t x lo hi mx) {e : TypeId} (h2 : P.underlying t = some (.slice e)) {ie : TypeInfo} (g1 : P.info? e = some ie)
  {l? h? m? : Option Int} (hl : intV (lo.map ev) = some l?) (hh : intV (hi.map ev) = some h?) (hm : intV (mx.map ev) = some m?) (hcut : isCut0 l? h? m? = true) {a : Option Addr} {n cap : Nat} (hv' : ρ x = .slice a n cap) (e' : TypeId) {s' : Nat} :
  Sound P cx hv σ w nid ρ o ⟨.slr nid 0 0, [(nid, some (.vec e' s' []))], True⟩ := by
 unfold isCut0 at hcut
 split at hcut
 case h_2 => cases hcut
 obtain ⟨f1, f2, f3⟩ := h.nil hn e' s'
 have hlo : lo = none := by
  rcases intV_sound hev hl with ⟨h', _⟩ | ⟨_, _, _, _, h', _⟩
  ·exact h'
  ·cases h'
 subst hlo
 rcases intV_sound hev hh with ⟨_, h'⟩ | ⟨hy, hi', hk, rfl, h', hhv⟩
 ·cases h'
 cases h'
 rcases intV_sound hev hm with ⟨_, h'⟩ | ⟨my, mi', mk, rfl, h', hmv⟩
 ·cases h'
 cases h'
 refine ⟨.slice a 0 0, w, _, .inl (exec_slice ho h2 rfl ?_), ?_, fun id hid => upd_other _ _ hid, f2, ?_, ?_⟩
 ·rw [hv']
  simp only [Instr.slice, Instr.sliceBounds, Option.map_none, Option.map_some, Sem.run_bind, run_underlying' h2, Result.andThen_ok, hmv, hhv, run_bound (show 0 ≤ (0 : Int) ∧ (0 : Int) ≤ (cap : Int) by omega), run_bound (show 0 ≤ (0 : Int) ∧ (0 : Int) ≤ ((Int.toNat 0 : Nat) : Int) by simp), run_sizeOf' g1, Sem.run_pure]
  simp
 ·rw [app_one]; exact f1
 ·rw [app_one]; exact fun b hb => ⟨f3 b hb, rfl⟩
 ·simp only [RV]; exact .inl ⟨upd_same _ _ _, trivial, trivial, _, rfl⟩

theorem aSlice_sound (h : HR cx hv σ w) (hn : σ nid = none) (hev : ∀ x, RV w (okB cx w hv σ) σ (ev x) (ρ x)) {t : TypeId} {x : Operand} {lo hi mx : Option Operand} {o : Oper} {r : Res} (ho : o.op = .slice t x lo hi mx)
  (hr : aSlice P hv t (ev x) (lo.map ev) (hi.map ev) (mx.map ev) nid = some r) (hob : r.ob) : Sound P cx hv σ w nid ρ o r := by
 have hx := hev x
 unfold aSlice at hr
 split at hr
 case h_2 => cases hr
 rename_i l? h? m? hl hh hm
 split at hr
 ·rename_i hti
  obtain ⟨ii, d, zv, h1, h2, h3, h4, h5, h6, h7⟩ := tiOf_spec hti
  have := tuOf_str h4
  subst this
  split at hr
  case h_2 => cases hr
  rename_i s ex
  rw [ex] at hx
  simp only [RV, RD] at hx
  split at hr
  case h_2 => cases hr
  cases hr
  rcases intV_sound hev hm with ⟨rfl, _⟩ | ⟨my, mi, mk, rfl, hc, hmv⟩
  case inr => cases hc
  obtain ⟨hob1, hob2, hob3⟩ := hob
  obtain ⟨c, hc1, hc2, hrun⟩ := run_bounds (P := P) (mx := none) hev hl hh (m := none) rfl (isSl := false) (len := s.length) (cap := s.length) (Nat.le_refl _) rfl (.inr rfl) ⟨hob1, hob2, by simpa using hob3, by simp⟩
  refine sound_value h rfl (exec_slice ho h2 rfl (v := .string ⟨((s.drop (l?.getD 0).toNat).take ((h?.getD s.length).toNat - (l?.getD 0).toNat)).toArray⟩) ?_) (by simp only [RV, RD])
  rw [hx]
  simp only [Option.map_none] at hrun ⊢
  simp only [Instr.slice, Sem.run_bind, run_underlying' h2, Result.andThen_ok, Option.isSome_none, Bool.false_eq_true, if_false, size_mk, hrun, Sem.run_pure]
  congr 2
  apply ByteArray.ext
  rw [ByteArray.data_extract]
  apply Array.ext'
  simp
 ·rename_i e _ _ _ hti
  obtain ⟨ii, d, zv, h1, h2, h3, h4, h5, h6, h7⟩ := tiOf_spec hti
  have := tuOf_slice h4
  subst this
  split at hr
  case h_2 => cases hr
  rename_i ei hei
  obtain ⟨ie, d', z, g1, g2, g3, g4, g5, g6, g7⟩ := tiOf_spec hei
  split at hr
  ·rename_i ex
   rw [ex] at hx
   simp only [RV] at hx
   have fin : (h?.isSome = true ∨ m? = none) → (l?.getD 0 = 0 ∧ h?.getD 0 = 0 ∧ m?.getD 0 = 0) → Sound P cx hv σ w nid ρ o ⟨.nils, [], True⟩ := by
    rintro hs ⟨e1, e2, e3⟩
    obtain ⟨c, hc1, hc2, hrun⟩ := run_bounds (P := P) hev hl hh hm (isSl := true) (len := 0) (cap := 0) (Nat.le_refl _) rfl hs ⟨by omega, by simp; omega, by simp; omega, by simp; omega⟩
    have hc0 : c = 0 := by omega
    subst hc0
    refine sound_value h rfl (exec_slice ho h2 rfl (v := .slice none 0 0) ?_) (by simp only [RV])
    rw [hx]
    simp only [Instr.slice, Sem.run_bind, run_underlying' h2, Result.andThen_ok, hrun, run_sizeOf' g1, Sem.run_pure, e1]
    simp [e2]
   split at hr
   ·cases hr
    exact fin (.inl rfl) hob
   ·split at hr
    ·rename_i hmn
     cases hr
     exact fin (.inr hmn) ⟨hob, rfl, by rw [hmn]; rfl⟩
    ·cases hr
  ·rename_i xs ex
   split at hr
   ·rename_i hcut
    cases hr
    rw [ex] at hx
    simp only [RV, RD] at hx
    obtain ⟨a, n, cap, hv', hn', hcap, hxs⟩ := hx
    exact cut0_sound h hn hev ho h2 g1 hl hh hm hcut hv' e
   split at hr
   case isFalse => cases hr
   rename_i hs
   cases hr
   obtain ⟨o1, o2, o3, o4, o5⟩ := hob
   rw [ex] at hx
   simp only [RV, RD] at hx
   obtain ⟨a, n, cap, hv', hn, hcap, hxs⟩ := hx
   subst hn
   obtain ⟨c, hc1, hc2, hrun⟩ := run_bounds (P := P) hev hl hh hm (isSl := true) (len := xs.length) (cap := cap) hcap rfl hs ⟨o1, o2, o3, o4⟩
   have hle : (l?.getD 0).toNat ≤ (h?.getD xs.length).toNat := by omega
   have hhx : (h?.getD xs.length).toNat ≤ xs.length := by omega
   refine sound_value h rfl (exec_slice ho h2 rfl (v := .slice (if c = (l?.getD 0).toNat then a else a.map (·.add ((l?.getD 0).toNat * ie.size))) ((h?.getD xs.length).toNat - (l?.getD 0).toNat) (c - (l?.getD 0).toNat)) ?_) ?_
   ·rw [hv']
    simp only [Instr.slice, Sem.run_bind, run_underlying' h2, Result.andThen_ok, hrun, run_sizeOf' g1, Sem.run_pure]
   ·simp only [RV, RD]
    refine ⟨_, _, _, rfl, by simp; omega, by omega, ?_⟩
    by_cases h0 : (h?.getD xs.length).toNat - (l?.getD 0).toNat = 0
    ·left; rw [h0]; simp
    right
    rcases hxs with h0' | ⟨b, off, cc, e', fr, s', ha, hokb, hb, hr⟩
    ·have : xs.length = 0 := by simp [h0']
     omega
    have hss : s' = ie.size := by
     have hpos : 0 < xs.length := by omega
     clear hrun h0 hle hhx o1 o2 o3 o4
     cases xs with
     | nil => simp at hpos
     | cons z ys =>
      have hk := List.all_eq_true.1 o5 z (by simp)
      simp only [elemOkD, Bool.and_eq_true, beq_iff_eq] at hk
      obtain ⟨v, w1, w2⟩ := RDels_get hr (i := 0) (x := z) rfl
      by_cases hsg : z.single = true
      ·have := (elem_one w1 (oneCell_of_RD hsg w2)).1
       have e2 : z.cells = [z] := by cases z <;> simp_all [D.cells, D.single]
       rw [e2] at hk
       simp at hk
       omega
      ·cases z <;> simp [D.single] at hsg
       have := (elem_cells w1 w2).2
       simp only [D.cells] at hk
       omega
    rw [hss] at hr
    refine ⟨b, off + (l?.getD 0).toNat * ie.size, cc, e', fr, ie.size, ?_, hokb, hb, RDels_take (RDels_drop hr _) _⟩
    rw [if_neg (by omega), ha]
    simp [addr_add]
  ·rename_i id lo' n ex
   split at hr
   case h_2 => cases hr
   rename_i e' s' xs hid
   split at hr
   ·rename_i hcut
    cases hr
    rw [ex] at hx
    simp only [RV] at hx
    rcases hx with ⟨hsn, rfl, rfl, a0, hav⟩ | ⟨b, K, s2, aa, cap, hsb, hav, hnc, hlc, hca⟩
    ·exact cut0_sound h hn hev ho h2 g1 hl hh hm hcut hav e
    ·exact cut0_sound h hn hev ho h2 g1 hl hh hm hcut hav e
   split at hr
   case isFalse => cases hr
   rename_i hs
   subst hs
   have ho' := h.own id _ hid
   simp only [RO] at ho'
   rw [ex] at hx
   simp only [RV] at hx
   split at hr
   ·-- no bound of the capacity
    cases hr
    obtain ⟨o1, o2, o3⟩ := hob
    rcases hx with ⟨hsn, rfl, rfl, a0, hav⟩ | ⟨b, K, s2, aa, cap, hsb, hav, hnc, hlc, hca⟩
    ·have hx0 : xs = [] := by
      rcases ho' with ⟨_, h0⟩ | ⟨b', K', cc, fr, hs', _⟩
      ·exact h0
      ·rw [hsn] at hs'; cases hs'
     subst hx0
     have e2 : h?.getD 0 = 0 := by simp at o2 o3; omega
     have e1 : l?.getD 0 = 0 := by simp at o2 o3; omega
     have hrun := run_bounds2 (P := P) (w := w) hev hl hh hm (isSl := true) (len := 0) (cap := 0) ⟨o1, o2, by simp [e2]⟩
     refine sound_value h rfl (exec_slice ho h2 rfl (v := .slice a0 0 0) ?_) ?_
     ·rw [hav]
      simp only [Instr.slice, Sem.run_bind, run_underlying' h2, Result.andThen_ok, hrun, run_sizeOf' g1, Sem.run_pure, e1]
      simp [e2]
     ·simp only [RV]
      left
      refine ⟨hsn, by simp [e1], by simp [e1, e2], _, rfl⟩
    ·rcases ho' with ⟨hn', _⟩ | ⟨b', K', cc, fr, hs', hb, hf, hcs, hxl, hel⟩
     ·rw [hsb] at hn'; cases hn'
     rw [hsb] at hs'
     cases hs'
     have hcp : h?.getD n ≤ cap := by rcases o3 with o3 | o3 <;> omega
     have hrun := run_bounds2 (P := P) (w := w) hev hl hh hm (isSl := true) (len := n) (cap := cap) ⟨o1, o2, hcp⟩
     refine sound_value h rfl (exec_slice ho h2 rfl (v := .slice (some (if cap = (l?.getD 0).toNat then aa else aa.add ((l?.getD 0).toNat * ie.size))) ((h?.getD n).toNat - (l?.getD 0).toNat) (cap - (l?.getD 0).toNat)) ?_) ?_
     ·rw [hav]
      simp only [Instr.slice, Sem.run_bind, run_underlying' h2, Result.andThen_ok, hrun, run_sizeOf' g1, Sem.run_pure]
      congr 1
      congr 1
      split <;> simp
     ·simp only [RV]
      right
      refine ⟨b, K, ei.size, _, _, hsb, rfl, by omega, by omega, ?_⟩
      by_cases hcl : cap = (l?.getD 0).toNat
      ·left; omega
      ·right
       rw [if_neg hcl]
       rcases hca with hc0 | hca
       ·omega
       ·rw [hca, addr_add, g5, Nat.add_mul]
   ·-- the capacity is cut: the slice is not followed
    split at hr
    case isFalse => cases hr
    rename_i hs
    cases hr
    obtain ⟨o1, o2, o3, o4⟩ := hob
    have hv : ∃ a cap, ρ x = .slice a n cap ∧ n ≤ cap := by
     rcases hx with ⟨hsn, rfl, rfl, a0, hav⟩ | ⟨b, K, s2, aa, cap, hsb, hav, hnc, hlc, hca⟩
     ·exact ⟨_, _, hav, Nat.le_refl _⟩
     ·exact ⟨_, _, hav, hnc⟩
    obtain ⟨a, cap, hav, hnc⟩ := hv
    obtain ⟨c, hc1, hc2, hrun⟩ := run_bounds (P := P) (w := w) hev hl hh hm (isSl := true) (len := n) (cap := cap) hnc rfl (.inl hs) ⟨o1, o2, o3, o4⟩
    refine sound_value h rfl (exec_slice ho h2 rfl (v := .slice (if c = (l?.getD 0).toNat then a else a.map fun p => p.add ((l?.getD 0).toNat * ie.size)) ((h?.getD n).toNat - (l?.getD 0).toNat) (c - (l?.getD 0).toNat)) ?_) (by simp only [RV])
    rw [hav]
    simp only [Instr.slice, Sem.run_bind, run_underlying' h2, Result.andThen_ok, hrun, run_sizeOf' g1, Sem.run_pure]
  ·cases hr
 ·rename_i m e _ _ _ hti
  obtain ⟨ii, d, zv, h1, h2, h3, h4, h5, h6, h7⟩ := tiOf_spec hti
  have := tuOf_arr h4
  subst this
  split at hr
  case h_2 => cases hr
  rename_i ei hei
  obtain ⟨ie, d', z, g1, g2, g3, g4, g5, g6, g7⟩ := tiOf_spec hei
  split at hr
  case h_2 => cases hr
  rename_i cs j ex
  split at hr
  case isFalse => cases hr
  rename_i hc
  obtain ⟨hs1, rfl, rfl⟩ := hc
  cases hr
  obtain ⟨o1, o2, o3, o4⟩ := hob
  rw [ex] at hx
  simp only [RV, RD] at hx
  obtain ⟨b, off, cc, e', fr, hv', hokb, hb, hr⟩ := hx
  have hhi : hi = none := by
   rcases intV_sound hev hh with ⟨h', _⟩ | ⟨_, _, _, _, h', _⟩
   ·exact h'
   ·cases h'
  have hmx : mx = none := by
   rcases intV_sound hev hm with ⟨h', _⟩ | ⟨_, _, _, _, h', _⟩
   ·exact h'
   ·cases h'
  subst hhi
  subst hmx
  obtain ⟨c, hc1, hc2, hrun⟩ := run_bounds (P := P) (hi := none) (mx := none) hev hl rfl rfl (h := none) (m := none) (isSl := false) (len := m) (cap := m) (Nat.le_refl _) rfl (.inr rfl) ⟨o1, by simpa using o2, by simp, by simp⟩
  simp only [Option.getD_none] at hc1 hrun
  have hcm : c = m := by omega
  subst hcm
  have hse : ie.size = 1 := by rw [← g5]; exact hs1
  refine sound_value h rfl (show (execOp ρ o).run P w = .ok (.value (.slice (some (if c = (l?.getD 0).toNat then (⟨b, off + j, none⟩ : Addr) else (⟨b, off + j, none⟩ : Addr).add ((l?.getD 0).toNat * ie.size))) (c - (l?.getD 0).toNat) (c - (l?.getD 0).toNat))) w from ?_) ?_
  ·simp only [Option.map_none] at hrun
   simp only [execOp, ho, hv', Instr.sliceAt, Instr.sureAddr, Option.map_none, Sem.run_bind, run_underlying' h2, Result.andThen_ok, hrun, run_sizeOf' g1, Sem.run_pure]
   simp
  ·simp only [RV, RD]
   have hlen : (((cs.drop j).take c).drop (l?.getD 0).toNat).length = c - (l?.getD 0).toNat := by simp; omega
   refine ⟨_, _, _, rfl, hlen.symm, Nat.le_refl _, ?_⟩
   by_cases h0 : c = (l?.getD 0).toNat
   ·left
    exact List.eq_nil_of_length_eq_zero (by rw [hlen]; omega)
   ·right
    refine ⟨b, off + j + (l?.getD 0).toNat, cc, e', fr, 1, ?_, hokb, hb, RDels_of fun i x hx => ?_⟩
    ·rw [if_neg h0, hse, Nat.mul_one]
     simp [Addr.add]
    ·rw [List.getElem?_drop] at hx
     have hlt : (l?.getD 0).toNat + i < c := by
      rcases Nat.lt_or_ge ((l?.getD 0).toNat + i) c with h' | h'
      ·exact h'
      ·rw [List.getElem?_eq_none (by simp; omega)] at hx; cases hx
     rw [List.getElem?_take_of_lt hlt, List.getElem?_drop] at hx
     obtain ⟨v, p1, p2⟩ := RDcs_get hr hx
     refine ⟨v, ?_, p2⟩
     have hsx := List.all_eq_true.1 o4 x (List.mem_of_getElem? hx)
     have hoc := oneCell_of_RD hsx p2
     have e1 : cc[off + j + (l?.getD 0).toNat + i * 1]? = some v := by
      rw [← p1]; congr 1; omega
     cases v <;> simp [Value.oneCell'] at hoc <;> exact ⟨rfl, e1⟩
 ·cases hr
end
end Go.AX
