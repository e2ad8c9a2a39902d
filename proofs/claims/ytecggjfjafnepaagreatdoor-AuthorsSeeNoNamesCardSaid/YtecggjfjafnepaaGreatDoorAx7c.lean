/- AX, part 7c: append. -/
import Derived.Test.YtecggjfjafnepaaGreatDoorAx7b
namespace Go.AX
open Go

def TU.isInt : TU → Bool
 | .int _ => true
 | _ => false
/-- An element of s cells, each of one cell's value. -/
def elemOkD (s : Nat) (x : D) : Bool := (x.cells.length == s) && x.cells.all D.single
def elemOk (s : Nat) (x : V) : Bool := (x.cells.length == s) && x.cells.all V.single && x.storable
def bytesD (s : List UInt8) : List D := s.map fun b => .int .u8 b.toNat
def dv (xs : List D) : List V := xs.map V.d
/-- The elements of a slice (or a string) and what must hold for them to be so. -/
def elemsOf (hv : Nat → Option O) (s : Nat) : V → Option (List V × Bool)
 | .nils => some ([], true)
 | .d (.sl ys) => some (dv ys, (dv ys).all (elemOk s))
 | .d (.str b) => if s = 1 then some (dv (bytesD b), true) else none
 | .slr id lo n => match hv id with
  | some (.vec _ s' xs) => if s' = s then some ((xs.drop lo).take n, decide (lo + n ≤ xs.length) && ((xs.drop lo).take n).all (elemOk s)) else none
  | _ => none
 | _ => none

def aAppend (P : Program) (hv : Nat → Option O) (t xt : TypeId) (a x : V) (nid : Nat) : Option Res := match tiOf P t with
 | some ⟨.slice e, _, _, _⟩ => match tiOf P e, tiOf P xt with
  | some ei, some xi => if xi.u.isInt = false ∧ ei.zero.storable = true ∧ ei.zero.cells.length = ei.size ∧ 0 < ei.bytes then match elemsOf hv ei.size x with
   | some (ys, ob) => match a with
    | .nils => some ⟨.slr nid 0 ys.length, [(nid, some (.vec e ei.size ys))], ob = true ∧ (2 * ys.length + 192) * ei.bytes ≤ 281474976710656⟩
    | .slr id 0 n => match hv id with
     | some (.vec e' s' xs) => if s' = ei.size ∧ e' = e then (match x with
      | .slr j _ _ => if j = id then some ⟨.slr id 0 (n + ys.length), [(id, some (.vec e ei.size (xs.take n ++ (ys ++ xs.drop (n + ys.length)))))], ob = true ∧ n + ys.length ≤ xs.length⟩ else
       some ⟨.slr nid 0 (n + ys.length), [(nid, some (.vec e ei.size (xs.take n ++ ys))), (id, none)], ob = true ∧ n ≤ xs.length ∧ (2 * (n + ys.length) + 192) * ei.bytes ≤ 281474976710656⟩
      | _ => some ⟨.slr nid 0 (n + ys.length), [(nid, some (.vec e ei.size (xs.take n ++ ys))), (id, none)], ob = true ∧ n ≤ xs.length ∧ (2 * (n + ys.length) + 192) * ei.bytes ≤ 281474976710656⟩) else none
     | _ => none
    | _ => none
   | none => none
   else none
  | _, _ => none
 | _ => none

section
variable {P : Program} {cx : Cx} {hv : Nat → Option O} {σ : Nat → Option Loc} {w : World} {nid : Nat} {ρ : Operand → Value} {ev : Operand → V}

theorem ElemAt_transfer {c c' : Array Value} {s p q : Nat} {v : Value} (h : ElemAt c s p v) (he : ∀ j, j < s → c'[q + j]? = c[p + j]?) : ElemAt c' s q v := by
 unfold ElemAt at h ⊢
 split
 ·obtain ⟨h1, h2⟩ := h
  exact ⟨h1, fun j hj => (he j hj).trans (h2 j hj)⟩
 ·rename_i hna
  have : s = 1 ∧ c[p]? = some v := by
   split at h
   ·exact absurd rfl (hna _)
   ·exact h
  obtain ⟨h1, h2⟩ := this
  subst h1
  exact ⟨rfl, by have := he 0 (by omega); simp only [Nat.add_zero] at this; rw [this]; exact h2⟩
theorem RVels_transfer {ok : Nat → Prop} {c c' : Array Value} {s p q : Nat} {xs : List V} (h : RVels w ok σ c s p xs) (he : ∀ j, j < xs.length * s → c'[q + j]? = c[p + j]?) : RVels w ok σ c' s q xs := by
 refine RVels_of fun i x hx => ?_
 obtain ⟨v, h1, h2⟩ := RVels_get h hx
 refine ⟨v, ElemAt_transfer h1 fun j hj => ?_, h2⟩
 have hi : i < xs.length := by
  rcases Nat.lt_or_ge i xs.length with h' | h'
  ·exact h'
  ·simp [List.getElem?_eq_none h'] at hx
 have hm : (i + 1) * s ≤ xs.length * s := Nat.mul_le_mul_right s hi
 rw [Nat.add_mul] at hm
 have := he (i * s + j) (by omega)
 rw [← Nat.add_assoc, ← Nat.add_assoc] at this
 exact this
theorem RVels_append {ok : Nat → Prop} {c : Array Value} {s p : Nat} {xs ys : List V} (h : RVels w ok σ c s p xs) (h' : RVels w ok σ c s (p + xs.length * s) ys) : RVels w ok σ c s p (xs ++ ys) := by
 refine RVels_of fun i x hx => ?_
 rcases Nat.lt_or_ge i xs.length with hi | hi
 ·rw [List.getElem?_append_left hi] at hx
  exact RVels_get h hx
 ·rw [List.getElem?_append_right hi] at hx
  obtain ⟨v, h1, h2⟩ := RVels_get h' hx
  refine ⟨v, ?_, h2⟩
  have e : p + xs.length * s + (i - xs.length) * s = p + i * s := by
   have : xs.length * s + (i - xs.length) * s = i * s := by rw [← Nat.add_mul]; congr 1; omega
   omega
  rwa [e] at h1
theorem RVels_take {ok : Nat → Prop} {c : Array Value} {s p : Nat} {xs : List V} (h : RVels w ok σ c s p xs) (n : Nat) : RVels w ok σ c s p (xs.take n) := by
 refine RVels_of fun i x hx => ?_
 rw [List.getElem?_take] at hx
 split at hx
 ·exact RVels_get h hx
 ·cases hx
theorem RVels_drop {ok : Nat → Prop} {c : Array Value} {s p : Nat} {xs : List V} (h : RVels w ok σ c s p xs) (n : Nat) : RVels w ok σ c s (p + n * s) (xs.drop n) := by
 refine RVels_of fun i x hx => ?_
 rw [List.getElem?_drop] at hx
 have := RVels_get h hx
 rwa [Nat.add_mul, ← Nat.add_assoc] at this

theorem elemAt_cells {c : Array Value} {s p : Nat} {v : Value} (he : ElemAt c s p v) : v.cells.size = s ∧ ∀ j, j < s → c[p + j]? = v.cells[j]? := by
 cases v with
 | agg vs => simp only [ElemAt] at he; exact he
 | _ =>
  simp only [ElemAt] at he
  obtain ⟨rfl, he⟩ := he
  refine ⟨rfl, fun j hj => ?_⟩
  have : j = 0 := by omega
  subst this
  simpa [Value.cells] using he
/-- All cells of the elements are there, and are of one cell each. -/
theorem els_cells {ok : Nat → Prop} {c : Array Value} {s p : Nat} {ys : List V} (h : RVels w ok σ c s p ys) (hok : ys.all (elemOk s) = true) : ∀ j, j < ys.length * s → ∃ v, c[p + j]? = some v ∧ v.oneCell' = true := by
 intro j hj
 have hs : 0 < s := by
  rcases Nat.eq_zero_or_pos s with h0 | h0
  ·subst h0; simp at hj
  ·exact h0
 have hd := Nat.div_add_mod j s
 have hm := Nat.mod_lt j hs
 have hi : j / s < ys.length := Nat.div_lt_of_lt_mul (by rw [Nat.mul_comm]; exact hj)
 have hx : ys[j / s]? = some ys[j / s] := List.getElem?_eq_getElem hi
 obtain ⟨v, h1, h2⟩ := RVels_get h hx
 have hk := List.all_eq_true.1 hok _ (List.getElem_mem hi)
 simp only [elemOk, Bool.and_eq_true, beq_iff_eq] at hk
 obtain ⟨⟨k1, k2⟩, k3⟩ := hk
 have e : p + (j / s) * s + j % s = p + j := by rw [Nat.mul_comm]; omega
 obtain ⟨q1, q2⟩ := elemAt_cells h1
 have hrl := RVl_cells h2 (storable_cases k3)
 have h1c := oneCells hrl k2
 have hlt : j % s < v.cells.size := by omega
 refine ⟨v.cells[j % s], ?_, h1c _ (by simp)⟩
 rw [← e, q2 _ hm, Array.getElem?_eq_getElem hlt]

/-- What is read of the elements of a slice or a string. -/
theorem elems_sound (h : HR cx hv σ w) {x : V} {v : Value} (hx : RV w (okB cx w hv σ) σ x v) {s : Nat} {ys : List V} {ob : Bool} (he : elemsOf hv s x = some (ys, ob)) (hob : ob = true) :
  (Builtin.lenOf v).run P w = .ok ys.length w ∧ ∃ c : Array Value, (Builtin.firstCells s ys.length v).run P w = .ok c w ∧ c.size = ys.length * s ∧ RVels w (okB cx w hv σ) σ c s 0 ys ∧ ∀ u ∈ c.toList, u.oneCell' = true := by
 have fin : ∀ (b off : Nat) (c : Array Value) (e : TypeId) (fr : Nat × Nat) (zs : List V), w.heap[b]? = some (.cells c e fr) → RVels w (okB cx w hv σ) σ c s off zs → zs.all (elemOk s) = true → (zs.length * s = 0 ∨ off + zs.length * s ≤ c.size) →
   ∃ c' : Array Value, (loadCells ⟨b, off, none⟩ (zs.length * s)).run P w = .ok c' w ∧ c'.size = zs.length * s ∧ RVels w (okB cx w hv σ) σ c' s 0 zs ∧ ∀ u ∈ c'.toList, u.oneCell' = true := by
  intro b off c e fr zs hb hr hok hsz
  by_cases h0 : zs.length * s = 0
  ·refine ⟨#[], ?_, by simp [h0], ?_, by simp⟩
   ·rw [h0]; exact run_loadCells_list (P := P) (w := w) ⟨b, off, none⟩ [] (by simp)
   ·exact RVels_transfer hr (by omega)
  have hsz' : off + zs.length * s ≤ c.size := hsz.resolve_left h0
  refine ⟨c.extract off (off + zs.length * s), run_loadCells' hb hsz', by simp; omega, ?_, ?_⟩
  ·refine RVels_transfer hr fun j hj => ?_
   rw [Nat.zero_add, Array.getElem?_extract, if_pos (by omega)]
  ·intro u hu
   obtain ⟨i, hi⟩ := List.getElem?_of_mem hu
   simp only [Array.getElem?_toList, Array.getElem?_extract] at hi
   split at hi
   ·rename_i hlt
    obtain ⟨v, h1, h2⟩ := els_cells hr hok i (by omega)
    rw [h1] at hi
    cases hi
    exact h2
   ·cases hi
 cases x with
 | nils =>
  simp only [elemsOf] at he
  cases he
  simp only [RV] at hx
  subst hx
  refine ⟨by simp [Builtin.lenOf], #[], by simp [Builtin.firstCells], by simp, by simp only [RVels], by simp⟩
 | d y =>
  cases y with
  | sl zs =>
   simp only [elemsOf] at he
   cases he
   simp only [RV, RD] at hx
   obtain ⟨a, n, cap, rfl, hn, hcap, hx⟩ := hx
   subst hn
   have hdl : (dv zs).length = zs.length := by simp [dv]
   refine ⟨by rw [hdl]; simp [Builtin.lenOf], ?_⟩
   rw [hdl]
   rcases hx with h0 | ⟨b, off, c, e, fr, s', ha, hokb, hb, hr⟩
   ·subst h0
    cases a with
    | none => exact ⟨#[], by simp [Builtin.firstCells], by simp, by simp only [dv, List.map_nil, RVels], by simp⟩
    | some a =>
     refine ⟨#[], ?_, by simp, by simp only [dv, List.map_nil, RVels], by simp⟩
     simp only [Builtin.firstCells, List.length_nil, Nat.zero_mul]
     exact run_loadCells_list (P := P) (w := w) a [] (by simp)
   ·subst ha
    simp only [Builtin.firstCells]
    by_cases hz : zs = []
    ·subst hz
     refine ⟨#[], ?_, by simp, by simp only [dv, List.map_nil, RVels], by simp⟩
     simp only [List.length_nil, Nat.zero_mul]
     exact run_loadCells_list (P := P) (w := w) _ [] (by simp)
    have hr : RVels w (okB cx w hv σ) σ c s' off (dv zs) := RVels_d hr
    have hss : s' = s := by
     cases zs with
     | nil => exact absurd rfl hz
     | cons z zs =>
      have hk := List.all_eq_true.1 hob (.d z) (by simp [dv])
      simp only [elemOk, Bool.and_eq_true, beq_iff_eq] at hk
      obtain ⟨v, h1, h2⟩ := RVels_get hr (i := 0) (x := .d z) rfl
      have e1 := (elemAt_cells h1).1
      have e2 := RVl_length (RVl_cells h2 (storable_cases hk.2))
      simp at e2
      omega
    subst hss
    rw [← hdl]
    refine fin b off c e fr (dv zs) hb hr hob ?_
    by_cases h0 : (dv zs).length * s' = 0
    ·exact .inl h0
    ·right
     obtain ⟨v, hv1, _⟩ := els_cells hr hob ((dv zs).length * s' - 1) (by omega)
     have : off + ((dv zs).length * s' - 1) < c.size := by
      rcases Nat.lt_or_ge (off + ((dv zs).length * s' - 1)) c.size with h' | h'
      ·exact h'
      ·simp [Array.getElem?_eq_none h'] at hv1
     omega
  | str bs =>
   simp only [elemsOf] at he
   split at he
   ·rename_i hs1
    subst hs1
    cases he
    simp only [RV, RD] at hx
    subst hx
    have hsz : (ByteArray.mk bs.toArray).size = bs.length := rfl
    refine ⟨by simp [Builtin.lenOf, hsz, bytesD, dv], ?_⟩
    refine ⟨(bs.map fun b => Value.int .u8 b.toNat).toArray, ?_, by simp [bytesD, dv], ?_, ?_⟩
    ·have hex : (ByteArray.mk bs.toArray).extract 0 (dv (bytesD bs)).length = ByteArray.mk bs.toArray := by
      have hl : (dv (bytesD bs)).length = bs.toArray.size := by simp [bytesD, dv]
      rw [hl]
      apply ByteArray.ext
      simp
     simp only [Builtin.firstCells, hex, Sem.run_pure]
     congr 1
     apply Array.ext'
     simp
    ·refine RVels_of fun i x hx => ?_
     simp only [dv, bytesD, List.map_map, List.getElem?_map, Option.map_eq_some_iff] at hx
     obtain ⟨b, h1, rfl⟩ := hx
     refine ⟨.int .u8 b.toNat, ?_, by simp only [Function.comp, RV, RD]⟩
     simp [ElemAt, h1]
    ·intro u hu
     simp at hu
     obtain ⟨b, _, rfl⟩ := hu
     rfl
   ·cases he
  | _ => simp [elemsOf] at he
 | slr id lo n =>
  simp only [elemsOf] at he
  split at he
  ·rename_i e s' xs hid
   split at he
   ·rename_i hs'
    subst hs'
    cases he
    simp only [Bool.and_eq_true, decide_eq_true_eq] at hob
    obtain ⟨hob1, hob2⟩ := hob
    have hl : ((xs.drop lo).take n).length = n := by simp; omega
    have ho' := h.own id _ hid
    simp only [RO] at ho'
    simp only [RV] at hx
    rcases hx with ⟨hn, rfl, rfl, a, rfl⟩ | ⟨b, K, s2, a, cap, hs, rfl, hnc, hlc, hca⟩
    ·refine ⟨by simp [Builtin.lenOf], #[], ?_, by simp, by simp only [List.take_zero, RVels], by simp⟩
     cases a with
     | none => simp [Builtin.firstCells]
     | some a =>
      simp only [Builtin.firstCells, List.take_zero, List.length_nil, Nat.zero_mul]
      exact run_loadCells_list (P := P) (w := w) a [] (by simp)
    ·rcases ho' with ⟨hn', _⟩ | ⟨b', K', c, fr, hs', hb, hf, hcs, hxl, hel⟩
     ·rw [hs] at hn'; cases hn'
     rw [hs] at hs'
     cases hs'
     refine ⟨by simp [Builtin.lenOf, hl], ?_⟩
     rw [hl]
     simp only [Builtin.firstCells]
     rcases hca with hc0 | rfl
     ·have hn0 : n = 0 := by omega
      subst hn0
      refine ⟨#[], ?_, by simp, by simp only [List.take_zero, RVels], by simp⟩
      rw [Nat.zero_mul]
      exact run_loadCells_list (P := P) (w := w) a [] (by simp)
     ·have hr := RVels_take (RVels_drop hel lo) n
      rw [Nat.zero_add] at hr
      have := fin b (lo * s') c e fr _ hb hr hob2 (by
       rw [hl]; right
       rw [hcs, ← Nat.add_mul]
       exact Nat.mul_le_mul_right _ (by omega))
      rwa [hl] at this
   ·cases he
  ·cases he
 | _ => simp [elemsOf] at he

theorem nextcap_le {need cap : Nat} (h : cap < need) : Builtin.nextslicecap need cap ≤ 2 * need + 192 := by
 unfold Builtin.nextslicecap
 split
 ·omega
 ·split
  ·omega
  ·have : ∀ (r c : Nat), c ≤ 2 * need + 192 → Builtin.growBy need r c ≤ 2 * need + 192 := by
    intro r
    induction r with
    | zero => intro c hc; simpa [Builtin.growBy] using hc
    | succ r ih =>
     intro c hc
     simp only [Builtin.growBy]
     split
     ·exact hc
     ·exact ih _ (by omega)
   exact this _ _ (by omega)

/-- A draw of a new capacity. -/
theorem run_chooseCap {α : Type} {need cap : Nat} {e : TypeId} {k : Nat → Sem α} : ∃ m, need ≤ m ∧ (choose (.appendCap need cap e) >>= k).run P w = (k m).run P { w with drawn := w.drawn + 1 } := by
 refine ⟨Question.cut (.appendCap need cap e) (w.tape w.drawn (.appendCap need cap e)), by simp [Question.cut], ?_⟩
 rfl

/-- A nil slice, as an object of its own. -/
theorem HR.nil (h : HR cx hv σ w) (hn : σ nid = none) (e : TypeId) (s : Nat) :
  HR cx (upd hv nid (some (.vec e s []))) (upd σ nid (some .nil)) w ∧ (∀ i l', σ i = some l' → upd σ nid (some .nil) i = some l') ∧
  (∀ c, okB cx w hv σ c → okB cx w (upd hv nid (some (.vec e s []))) (upd σ nid (some .nil)) c) := by
 have hσ : ∀ i l', σ i = some l' → upd σ nid (some .nil) i = some l' := by
  intro i l' hl
  rw [upd_other _ _ (by rintro rfl; rw [hn] at hl; cases hl)]
  exact hl
 have cases' : ∀ i o', upd hv nid (some (.vec e s [])) i = some o' → (i = nid ∧ o' = .vec e s []) ∨ (i ≠ nid ∧ hv i = some o') := by
  intro i o' h'
  by_cases e : i = nid
  ·subst e; rw [upd_same] at h'; injection h' with h'; exact .inl ⟨rfl, h'.symm⟩
  ·rw [upd_other _ _ e] at h'; exact .inr ⟨e, h'⟩
 have hok : ∀ c, okB cx w hv σ c → okB cx w (upd hv nid (some (.vec e s []))) (upd σ nid (some .nil)) c := by
  intro c hc
  refine ⟨hc.1, hc.2.1, ?_⟩
  intro i o' K s' h'
  rcases cases' i o' h' with ⟨rfl, rfl⟩ | ⟨h1, h3⟩
  ·rw [upd_same]; simp
  ·rw [upd_other _ _ h1]; exact hc.2.2 i o' K s' h3
 refine ⟨?_, hσ, hok⟩
 constructor
 ·exact h.os
 ·exact h.tape
 ·exact h.output
 ·exact h.size
 ·exact h.frame
 ·intro i o' h'
  rcases cases' i o' h' with ⟨rfl, rfl⟩ | ⟨h1, h3⟩
  ·exact .inl ⟨upd_same _ _ _, rfl⟩
  ·exact RO_mono (fun b hb => ⟨hok b hb, rfl⟩) hσ (fun _ _ _ _ => rfl) (h.own i o' h3)
 ·intro i o' b K s' h' hs'
  rcases cases' i o' h' with ⟨rfl, rfl⟩ | ⟨h1, h3⟩
  ·rw [upd_same] at hs'; simp at hs'
  ·rw [upd_other _ _ h1] at hs'; exact h.new i o' b K s' h3 hs'
 ·intro i1 i2 o1 o2 b K1 s1 K2 s2 h1 h2 h3 h4
  rcases cases' i1 o1 h1 with ⟨rfl, rfl⟩ | ⟨a1, a3⟩
  ·rw [upd_same] at h3; simp at h3
  ·rw [upd_other _ _ a1] at h3
   rcases cases' i2 o2 h2 with ⟨rfl, rfl⟩ | ⟨b1, b3⟩
   ·rw [upd_same] at h4; simp at h4
   ·rw [upd_other _ _ b1] at h4
    exact h.inj i1 i2 o1 o2 b K1 s1 K2 s2 a3 b3 h3 h4

/-- The next draw is behind us. -/
def World.next (w : World) : World := { w with drawn := w.drawn + 1 }
theorem HR.next (h : HR cx hv σ w) : HR cx hv σ (World.next w) := h.same rfl rfl rfl rfl

theorem append_fits {t xt e : TypeId} {ie : TypeInfo} {dx : TypeDesc} (h1 : P.underlying t = some (.slice e)) (h2 : P.info? e = some ie) (h4 : P.underlying xt = some dx) (h5 : (tuOf dx).isInt = false)
  {base : Option Addr} {sLen sCap n ty : Nat} {x : Value} {new : Array Value} (hx : (Builtin.lenOf x).run P w = .ok n w) (hnew : (Builtin.firstCells ie.size n x).run P w = .ok new w) (hcap : sLen + n ≤ sCap) {w' : World}
  (hst : (match base with | some a => storeCells (a.add (sLen * ie.size)) new.toList | none => pure ()).run P w = .ok () w') :
  (Builtin.append_ #[t, xt] ty #[.slice base sLen sCap, x]).run P w = .ok (.slice base (sLen + n) sCap) w' := by
 cases dx with
 | int k => simp [tuOf, TU.isInt] at h5
 | _ =>
  unfold Builtin.append_
  simp only [List.getElem?_toArray, List.getElem?_cons_zero, List.getElem?_cons_succ, Sem.run_bind, run_underlying' h1, Result.andThen_ok, run_sizeOf' h2, run_underlying' h4, Sem.run_pure, Bool.false_eq_true, if_false, hx, Bool.not_false, if_true, hcap, hnew]
  cases base with
  | none =>
   simp at hst
   subst hst
   rfl
  | some a =>
   simp only at hst
   simp only [Sem.run_bind, hst, Result.andThen_ok, Sem.run_pure]

theorem append_grows {t xt e : TypeId} {ie : TypeInfo} {dx : TypeDesc} {z : Value} (h1 : P.underlying t = some (.slice e)) (h2 : P.info? e = some ie) (h3 : ie.zero = some z) (h4 : P.underlying xt = some dx) (h5 : (tuOf dx).isInt = false)
  {base : Option Addr} {sLen sCap n ty : Nat} {x : Value} {old new : Array Value} (hx : (Builtin.lenOf x).run P w = .ok n w) (hnew : (Builtin.firstCells ie.size n x).run P (World.next w) = .ok new (World.next w)) (hold : (Builtin.firstCells ie.size sLen (.slice base sLen sCap)).run P (World.next w) = .ok old (World.next w)) (hcap : sCap < sLen + n)
  (hb : (2 * (sLen + n) + 192) * ie.bytes ≤ 281474976710656) (hb0 : ie.bytes = 0 → sLen + n < 9223372036854775808) :
  ∃ m, sLen + n ≤ m ∧ (Builtin.append_ #[t, xt] ty #[.slice base sLen sCap, x]).run P w = .ok (.slice (some ⟨w.heap.size, 0, none⟩) (sLen + n) m) ((World.next w).alloc (.cells (old ++ new ++ Builtin.zeroCells z.cells (m - (sLen + n))) e)) := by
 have hnc : ¬ (Builtin.nextslicecap (sLen + n) sCap * ie.bytes > 2 ^ 48) := by
  have := Nat.mul_le_mul_right ie.bytes (nextcap_le hcap)
  omega
 have hmax : ¬ (((sLen + n : Nat) : Int) > IntKind.i64.max ∧ ie.bytes = 0) := by
  rintro ⟨a1, a2⟩
  have := hb0 a2
  have e : IntKind.i64.max = 9223372036854775807 := by decide
  rw [e] at a1
  omega
 have hcap' : ¬ (sLen + n ≤ sCap) := by omega
 obtain ⟨m, hm1, hm2⟩ := run_chooseCap (P := P) (w := w) (need := sLen + n) (cap := sCap) (e := e) (k := fun m => (pure m : Sem Nat))
 refine ⟨m, hm1, ?_⟩
 have hch : (choose (.appendCap (sLen + n) sCap e)).run P w = .ok m (World.next w) := by
  have : (choose (.appendCap (sLen + n) sCap e) >>= fun m => (pure m : Sem Nat)).run P w = (choose (.appendCap (sLen + n) sCap e)).run P w := by
   rw [Sem.run_bind]
   cases (choose (.appendCap (sLen + n) sCap e)).run P w <;> rfl
  rw [← this, hm2]
  rfl
 have hask : ∀ w' : World, (askRoom (m * ie.bytes)).run P w' = .ok () w' := by
  intro w'
  unfold askRoom
  split <;> rfl
 cases dx with
 | int k => simp [tuOf, TU.isInt] at h5
 | _ =>
  unfold Builtin.append_
  simp only [List.getElem?_toArray, List.getElem?_cons_zero, List.getElem?_cons_succ, Sem.run_bind, run_underlying' h1, Result.andThen_ok, run_sizeOf' h2, run_underlying' h4, Sem.run_pure, Bool.false_eq_true, if_false, hx, Bool.not_false, if_true, hcap', run_typeInfo' h2, false_or, hmax, hnc, hch, hask, hold, hnew, run_zeroValue' h2 h3, newRow, run_newObj_alloc]
  rfl

theorem exec_append {o : Oper} {a x : Operand} {t xt : TypeId} (ho : o.op = .call ⟨.builtin .append, #[a, x], #[t, xt]⟩) {v : Value} {w' : World} (h : (Builtin.append_ #[t, xt] o.type #[ρ a, ρ x]).run P w = .ok v w') : (execOp ρ o).run P w = .ok (.value v) w' := by
 rw [builtin_run ho]
 have : (#[a, x].map ρ) = #[ρ a, ρ x] := by simp
 simp only [builtin, Sem.run_bind, this, h, Result.andThen_ok, Sem.run_pure]
theorem zeroCells_size (z : Array Value) (n : Nat) : (Builtin.zeroCells z n).size = n * z.size := by simp [Builtin.zeroCells]

theorem app_two (i j : Nat) (o : Option O) (o' : Option O) : app hv [(i, o), (j, o')] = upd (upd hv j o') i o := by
 funext k
 simp only [app, lk, upd]
 by_cases h1 : i = k
 ·subst h1; simp
 ·rw [if_neg h1, if_neg (Ne.symm h1)]
  by_cases h2 : j = k
  ·subst h2; simp
  ·rw [if_neg h2, if_neg (Ne.symm h2)]

/-- The elements of two rows, one behind the other, in a new row with room. -/
theorem els_joined {ok : Nat → Prop} {old new rest : Array Value} {s : Nat} {xs ys : List V} (h1 : RVels w ok σ old s 0 xs) (h2 : old.size = xs.length * s) (h3 : RVels w ok σ new s 0 ys) (h4 : new.size = ys.length * s) : RVels w ok σ (old ++ new ++ rest) s 0 (xs ++ ys) := by
 refine RVels_append (RVels_transfer h1 fun j hj => ?_) (RVels_transfer h3 fun j hj => ?_)
 ·rw [Nat.zero_add, Array.getElem?_append_left (by simp; omega), Array.getElem?_append_left (by omega)]
 ·rw [Array.getElem?_append_left (by simp; omega), Array.getElem?_append_right (by omega)]
  congr 1
  omega

theorem aAppend_sound (h : HR cx hv σ w) (hn : σ nid = none) (hev : ∀ x, RV w (okB cx w hv σ) σ (ev x) (ρ x)) {t xt : TypeId} {a x : Operand} {o : Oper} {r : Res} (ho : o.op = .call ⟨.builtin .append, #[a, x], #[t, xt]⟩)
    (hr : aAppend P hv t xt (ev a) (ev x) nid = some r) (hob : r.ob) : Sound P cx hv σ w nid ρ o r := by
  have ha := hev a
  have hx := hev x
  unfold aAppend at hr
  split at hr
  case h_2 => cases hr
  rename_i e _ _ _ hti
  obtain ⟨ii, d, zv, h1, h2, h3, h4, h5, h6, h7⟩ := tiOf_spec hti
  have := tuOf_slice h4
  subst this
  split at hr
  case h_2 => cases hr
  rename_i ei xi hei hxi
  obtain ⟨ie, d', z, g1, g2, g3, g4, g5, g6, g7⟩ := tiOf_spec hei
  obtain ⟨ix, dx, zx, k1, k2, k3, k4, _⟩ := tiOf_spec hxi
  split at hr
  case isFalse => cases hr
  rename_i hcond
  obtain ⟨hint, hzs, hzl, hbp⟩ := hcond
  rw [k4] at hint
  rw [g5] at hr hzl
  rw [g6] at hr hbp
  have hz : z.cells.size = ie.size := by
    have := RVl_length (RVl_cells (w := w) (ok := okB cx w hv σ) (σ := σ) (x := ei.zero) (v := z) (by rw [g7]; exact RV_constV z) (storable_cases hzs))
    rw [hzl] at this
    simpa using this
  split at hr
  case h_2 => cases hr
  rename_i ys ob hys
  -- the draw of a capacity changes nothing
  have hnx := h.next
  split at hr
  · rename_i ea
    cases hr
    obtain ⟨hob1, hob2⟩ := hob
    rw [ea] at ha
    simp only [RV] at ha
    obtain ⟨hlen, new, hnew, hns, hnr, hn1⟩ := elems_sound (P := P) h hx hys hob1
    by_cases hk : ys.length = 0
    · have hy0 : ys = [] := by simpa using hk
      subst hy0
      obtain ⟨f1, f2, f3⟩ := h.nil hn e ie.size
      refine ⟨.slice none 0 0, w, _, .inl (exec_append ho ?_), ?_, fun id hid => upd_other _ _ hid, f2, ?_, ?_⟩
      · rw [ha]
        have := append_fits (P := P) (w := w) (w' := w) h2 g1 k2 hint (base := none) (sLen := 0) (sCap := 0) (ty := o.type) hlen hnew (by simp) (by simp)
        simpa using this
      · rw [app_one]; exact f1
      · rw [app_one]; exact fun b hb => ⟨f3 b hb, rfl⟩
      · simp only [RV]; exact .inl ⟨upd_same _ _ _, trivial, rfl, _, rfl⟩
    · obtain ⟨hlen', new', hnew', hns', hnr', hn1'⟩ := elems_sound (P := P) hnx (RV_mono (w := w) (w' := World.next w) (ok := okB cx w hv σ) (ok' := okB cx (World.next w) hv σ) (fun b hb => ⟨hb, rfl⟩) (fun _ _ h => h) _ _ hx) hys hob1
      obtain ⟨m, hm, hrun⟩ := append_grows (P := P) (w := w) h2 g1 g3 k2 hint (base := none) (sLen := 0) (sCap := 0) (ty := o.type) (old := #[]) hlen hnew' (by simp [Builtin.firstCells]) (by omega) (by simpa using hob2) (by omega)
      obtain ⟨f1, f2, f3⟩ := hnx.alloc hn (hv_none_of_fresh h hn) (.cells (#[] ++ new' ++ Builtin.zeroCells z.cells (m - (0 + ys.length))) e) (.vec e ie.size ys) m ie.size (by
        intro σ' ok' hσ hok hnw
        refine .inr ⟨_, m, _, (0, 0), hnw, alloc_new _ _, frOk_zero _, ?_, by omega, ?_⟩
        · simp only [Array.size_append, zeroCells_size, hz, hns', Array.size_empty, Nat.zero_add]
          rw [← Nat.add_mul]
          congr 1
          omega
        · have := els_joined (w := World.next w) (rest := Builtin.zeroCells z.cells (m - (0 + ys.length))) (old := #[]) (xs := []) (by simp only [RVels]) (by simp) hnr' hns'
          exact RVels_mono hok hσ _ _ _ _ this)
      refine ⟨_, _, _, .inl (exec_append ho (by rw [ha]; exact hrun)), ?_, fun id hid => upd_other _ _ hid, f2, ?_, ?_⟩
      · rw [app_one]; exact f1
      · rw [app_one]; exact f3
      · simp only [RV]
        exact .inr ⟨_, m, ie.size, ⟨_, 0, none⟩, m, upd_same _ _ _, by rw [Nat.zero_add], by omega, by omega, .inr (by rw [Nat.zero_mul]; rfl)⟩
  · rename_i id n ea
    split at hr
    case h_2 => cases hr
    rename_i e' s' xs hid
    split at hr
    case isFalse => cases hr
    rename_i hse
    obtain ⟨rfl, rfl⟩ := hse
    -- elsewhere: a new object
    have old : r = ⟨.slr nid 0 (n + ys.length), [(nid, some (.vec e' ie.size (xs.take n ++ ys))), (id, none)], ob = true ∧ n ≤ xs.length ∧ (2 * (n + ys.length) + 192) * ie.bytes ≤ 281474976710656⟩ → Sound P cx hv σ w nid ρ o r := by
      rintro rfl
      obtain ⟨hob1, hob3, hob2⟩ := hob
      obtain ⟨hlen, new, hnew, hns, hnr, hn1⟩ := elems_sound (P := P) h hx hys hob1
      rw [ea] at ha
      simp only [RV] at ha
      have ho' := h.own id _ hid
      simp only [RO] at ho'
      have hne : nid ≠ id := by
        rintro rfl
        rw [hv_none_of_fresh h hn] at hid
        cases hid
      have grow : ∀ (base : Option Addr) (cap : Nat) (old : Array Value), ρ a = .slice base n cap → cap < n + ys.length → (Builtin.firstCells ie.size n (.slice base n cap)).run P (World.next w) = .ok old (World.next w) → RVels w (okB cx w hv σ) σ old ie.size 0 (xs.take n) → old.size = n * ie.size →
          Sound P cx hv σ w nid ρ o ⟨.slr nid 0 (n + ys.length), [(nid, some (.vec e' ie.size (xs.take n ++ ys))), (id, none)], ob = true ∧ n ≤ xs.length ∧ (2 * (n + ys.length) + 192) * ie.bytes ≤ 281474976710656⟩ := by
        intro base cap old hav hcap hold hor hos
        obtain ⟨hlen', new', hnew', hns', hnr', hn1'⟩ := elems_sound (P := P) hnx (RV_mono (w := w) (w' := World.next w) (ok := okB cx w hv σ) (ok' := okB cx (World.next w) hv σ) (fun b hb => ⟨hb, rfl⟩) (fun _ _ h => h) _ _ hx) hys hob1
        obtain ⟨m, hm, hrun⟩ := append_grows (P := P) (w := w) h2 g1 g3 k2 hint (base := base) (sLen := n) (sCap := cap) (ty := o.type) hlen hnew' hold hcap hob2 (by omega)
        have hlt : (xs.take n).length = n := by simp; omega
        have hor' : RVels (World.next w) (okB cx (World.next w) hv σ) σ old ie.size 0 (xs.take n) := RVels_mono (w := w) (w' := World.next w) (ok := okB cx w hv σ) (ok' := okB cx (World.next w) hv σ) (fun b hb => ⟨hb, rfl⟩) (fun _ _ h => h) _ _ _ _ hor
        obtain ⟨f1, f2, f3⟩ := hnx.alloc hn (hv_none_of_fresh h hn) (.cells (old ++ new' ++ Builtin.zeroCells z.cells (m - (n + ys.length))) e') (.vec e' ie.size (xs.take n ++ ys)) m ie.size (by
          intro σ' ok' hσ hok hnw
          refine .inr ⟨_, m, _, (0, 0), hnw, alloc_new _ _, frOk_zero _, ?_, by simp; omega, ?_⟩
          · simp only [Array.size_append, zeroCells_size, hz, hns', hos]
            rw [← Nat.add_mul, ← Nat.add_mul]
            congr 1
            omega
          · have := els_joined (w := World.next w) (rest := Builtin.zeroCells z.cells (m - (n + ys.length))) hor' (by rw [hlt]; exact hos) hnr' hns'
            exact RVels_mono hok hσ _ _ _ _ this)
        obtain ⟨d1, d2⟩ := f1.drop id
        have hcomm : upd (upd hv nid (some (.vec e' ie.size (xs.take n ++ ys)))) id none = upd (upd hv id none) nid (some (.vec e' ie.size (xs.take n ++ ys))) := by
          funext k
          simp only [upd]
          by_cases h1 : k = id
          · subst h1; simp [Ne.symm hne]
          · simp [h1]
        rw [hcomm] at d1 d2
        refine ⟨_, _, _, .inl (exec_append ho (by rw [hav]; exact hrun)), ?_, fun id hid => upd_other _ _ hid, f2, ?_, ?_⟩
        · rw [app_two]; exact d1
        · rw [app_two]; exact fun b hb => ⟨d2 b (f3 b hb).1, (f3 b hb).2⟩
        · simp only [RV]
          exact .inr ⟨_, m, ie.size, ⟨_, 0, none⟩, m, upd_same _ _ _, rfl, by omega, by omega, .inr (by rw [Nat.zero_mul]; rfl)⟩
      rcases ha with ⟨hsn, _, rfl, a0, hav⟩ | ⟨b, K, s2, aa, cap, hs, hav, hnc, hlc, hca⟩
      · by_cases hk : ys.length = 0
        · have hy0 : ys = [] := by simpa using hk
          subst hy0
          rcases ho' with ⟨_, rfl⟩ | ⟨b', K', c, fr, hs', _⟩
          · obtain ⟨f1, f2, f3⟩ := h.rename hid hsn hn (hv_none_of_fresh h hn)
            have hnil : new = #[] := by simpa using hns
            subst hnil
            refine ⟨.slice a0 0 0, w, _, .inl (exec_append ho ?_), ?_, fun id hid => upd_other _ _ hid, f2, ?_, ?_⟩
            · rw [hav]
              have := append_fits (P := P) (w := w) (w' := w) h2 g1 k2 hint (base := a0) (sLen := 0) (sCap := 0) (ty := o.type) hlen hnew (by simp) (by cases a0 <;> simp [storeCells])
              simpa using this
            · rw [app_two]; simpa using f1
            · rw [app_two]; exact fun b hb => ⟨by simpa using f3 b hb, rfl⟩
            · simp only [RV]; exact .inl ⟨upd_same _ _ _, trivial, rfl, _, rfl⟩
          · rw [hsn] at hs'; cases hs'
        · refine grow a0 0 #[] hav (by omega) ?_ (by simp only [List.take_zero, RVels]) (by simp)
          cases a0 with
          | none => simp [Builtin.firstCells]
          | some a => simp only [Builtin.firstCells, Nat.zero_mul]; exact run_loadCells_list (P := P) (w := World.next w) a [] (by simp)
      · rcases ho' with ⟨hn', _⟩ | ⟨b', K', c, fr, hs', hb, hf, hcs, hxl, hel⟩
        · rw [hs] at hn'; cases hn'
        rw [hs] at hs'
        cases hs'
        have hnK : n ≤ K := by omega
        have hsz : n * ie.size ≤ c.size := by rw [hcs]; exact Nat.mul_le_mul_right _ hnK
        by_cases hfit : n + ys.length ≤ cap
        · rcases hca with hc0 | rfl
          · -- no room at all, and nothing to add
            have hn0 : n = 0 := by omega
            have hy0 : ys = [] := by have : ys.length = 0 := by omega
                                     simpa using this
            subst hn0
            subst hy0
            subst hc0
            have hw := h.write hid hs (.cells c e' fr) (.vec e' ie.size []) (by
              intro ok' hok
              exact .inr ⟨b, K, c, fr, hs, setB_same (heap_lt hb), hf, hcs, by simp, by simp only [RVels]⟩)
            rw [setB_self hb] at hw
            obtain ⟨f1, f2, f3⟩ := hw.1.rename (upd_same _ _ _) hs hn (by rw [upd_other _ _ hne]; exact hv_none_of_fresh h hn)
            have hcomm : upd (upd (upd hv id (some (O.vec e' ie.size []))) id none) nid (some (O.vec e' ie.size [])) = upd (upd hv id none) nid (some (.vec e' ie.size [])) := by
              funext k
              simp only [upd]
              by_cases h1 : k = id
              · subst h1; simp
              · simp [h1]
            rw [hcomm] at f1 f3
            refine ⟨.slice (some aa) 0 0, w, _, .inl (exec_append ho ?_), ?_, fun id hid => upd_other _ _ hid, f2, ?_, ?_⟩
            · rw [hav]
              have hnil : new = #[] := by simpa using hns
              subst hnil
              exact append_fits (P := P) (w := w) (w' := w) h2 g1 k2 hint (base := some aa) (sLen := 0) (sCap := 0) (ty := o.type) hlen hnew (by simp) (by simp [storeCells])
            · rw [app_two]; simpa using f1
            · rw [app_two]; exact fun b hb => ⟨by simpa using f3 b (hw.2 b hb).1, rfl⟩
            · simp only [RV]; exact .inr ⟨b, K, ie.size, aa, 0, upd_same _ _ _, rfl, by simp, by omega, .inl rfl⟩
          · have hroom : n * ie.size + new.toList.length ≤ c.size := by
              rw [hcs]
              have := Nat.mul_le_mul_right ie.size (show n + ys.length ≤ K by omega)
              rw [Nat.add_mul] at this
              simp only [Array.length_toList, hns]
              exact this
            have hst := run_storeCells' (P := P) new.toList 0 w c (off := n * ie.size) hb (by simpa using hroom) hf hn1
            have hw' : (if new.toList = [] then w else setB w b (.cells (setL c (n * ie.size + 0) new.toList) e' fr)) = setB w b (.cells (setL c (n * ie.size) new.toList) e' fr) := by
              split
              · rename_i h0
                rw [h0]
                simp only [setL]
                rw [setB_self hb]
              · rfl
            rw [hw'] at hst
            have hlt : (xs.take n).length = n := by simp; omega
            have hw := h.write hid hs (.cells (setL c (n * ie.size) new.toList) e' fr) (.vec e' ie.size (xs.take n ++ ys)) (by
              intro ok' hok
              refine .inr ⟨b, K, _, fr, hs, setB_same (heap_lt hb), by rw [setL_size]; exact hf, by rw [setL_size]; exact hcs, by simp; omega, ?_⟩
              refine RVels_append (RVels_transfer (RVels_mono hok (fun _ _ h => h) _ _ _ _ (RVels_take hel n)) fun j hj => ?_) (RVels_transfer (RVels_mono hok (fun _ _ h => h) _ _ _ _ hnr) fun j hj => ?_)
              · rw [hlt] at hj
                rw [setL_get _ _ _ _ hroom, if_neg (by omega)]
              · rw [hlt, setL_get _ _ _ _ hroom, if_pos (by simp only [Array.length_toList, hns]; omega)]
                rw [Array.getElem?_toList]
                congr 1
                omega)
            obtain ⟨f1, f2, f3⟩ := hw.1.rename (upd_same _ _ _) hs hn (by rw [upd_other _ _ hne]; exact hv_none_of_fresh h hn)
            have hcomm : upd (upd (upd hv id (some (O.vec e' ie.size (xs.take n ++ ys)))) id none) nid (some (O.vec e' ie.size (xs.take n ++ ys))) = upd (upd hv id none) nid (some (.vec e' ie.size (xs.take n ++ ys))) := by
              funext k
              simp only [upd]
              by_cases h1 : k = id
              · subst h1; simp
              · simp [h1]
            rw [hcomm] at f1 f3
            refine ⟨.slice (some ⟨b, 0 * ie.size, none⟩) (n + ys.length) cap, setB w b (.cells (setL c (n * ie.size) new.toList) e' fr), _, .inl (exec_append ho ?_), ?_, fun id hid => upd_other _ _ hid, f2, ?_, ?_⟩
            · rw [hav]
              exact append_fits (P := P) (w := w) h2 g1 k2 hint (base := some ⟨b, 0 * ie.size, none⟩) (sLen := n) (sCap := cap) (ty := o.type) hlen hnew hfit (by simp only [addr_add]; rw [Nat.zero_mul, Nat.zero_add]; exact hst)
            · rw [app_two]; exact f1
            · rw [app_two]; exact fun b hb => ⟨f3 b (hw.2 b hb).1, (hw.2 b hb).2⟩
            · simp only [RV]; exact .inr ⟨b, K, ie.size, ⟨b, 0 * ie.size, none⟩, cap, upd_same _ _ _, rfl, hfit, hlc, .inr rfl⟩
        · rcases hca with hc0 | rfl
          · have hn0 : n = 0 := by omega
            subst hn0
            exact grow (some aa) cap #[] hav (by omega) (by simp only [Builtin.firstCells, Nat.zero_mul]; exact run_loadCells_list (P := P) (w := World.next w) aa [] (by simp)) (by simp only [List.take_zero, RVels]) (by simp)
          · refine grow _ cap (c.extract 0 (n * ie.size)) hav (by omega) ?_ ?_ (by simp; omega)
            · simp only [Builtin.firstCells, Nat.zero_mul]
              have := run_loadCells' (P := P) (w := World.next w) (off := 0) (n := n * ie.size) hb (by omega)
              simpa using this
            · refine RVels_transfer (RVels_take hel n) fun j hj => ?_
              have hlt : (xs.take n).length = n := by simp; omega
              rw [hlt] at hj
              rw [Array.getElem?_extract, if_pos (by omega)]
              simp
    split at hr
    · split at hr
      case isFalse => cases hr; exact old rfl
      -- a part of the same object: there is room
      cases hr
      obtain ⟨hob1, hob3⟩ := hob
      obtain ⟨hlen, new, hnew, hns, hnr, hn1⟩ := elems_sound (P := P) h hx hys hob1
      rw [ea] at ha
      simp only [RV] at ha
      have ho' := h.own id _ hid
      simp only [RO] at ho'
      have same : n = 0 → ys = [] → (xs.take n ++ (ys ++ xs.drop (n + ys.length))) = xs := by
        rintro rfl rfl
        simp
      have none' : ∀ (a0 : Option Addr) (cap : Nat), ρ a = .slice a0 0 cap → n = 0 → ys = [] → RV w (okB cx w hv σ) σ (.slr id 0 0) (.slice a0 0 cap) → Sound P cx hv σ w nid ρ o ⟨.slr id 0 (n + ys.length), [(id, some (.vec e' ie.size (xs.take n ++ (ys ++ xs.drop (n + ys.length)))))], ob = true ∧ n + ys.length ≤ xs.length⟩ := by
        intro a0 cap hav h0 hy0 hrv
        rw [same h0 hy0]
        subst h0
        subst hy0
        have hnil : new = #[] := by simpa using hns
        subst hnil
        have hup : app hv [(id, some (.vec e' ie.size xs))] = hv := by
          rw [app_one]
          funext k
          simp only [upd]
          split
          · rename_i hk; rw [hk, hid]
          · rfl
        refine ⟨.slice a0 0 cap, w, σ, .inl (exec_append ho ?_), ?_, fun _ _ => rfl, fun _ _ h => h, ?_, hrv⟩
        · rw [hav]
          have := append_fits (P := P) (w := w) (w' := w) h2 g1 k2 hint (base := a0) (sLen := 0) (sCap := cap) (ty := o.type) hlen hnew (by simp) (by cases a0 <;> simp [storeCells])
          simpa using this
        · rw [hup]; exact h
        · rw [hup]; exact fun b hb => ⟨hb, rfl⟩
      rcases ha with ⟨hsn, h0, rfl, a0, hav⟩ | ⟨b, K, s2, aa, cap, hs, hav, hnc, hlc, hca⟩
      · have hx0 : xs = [] := by
          rcases ho' with ⟨_, h0⟩ | ⟨b', K', cc, fr, hs', _⟩
          · exact h0
          · rw [hsn] at hs'; cases hs'
        subst hx0
        have hy0 : ys = [] := by simpa using hob3
        exact none' a0 0 hav rfl hy0 (by simp only [RV]; exact .inl ⟨hsn, trivial, trivial, _, rfl⟩)
      · rcases ho' with ⟨hn', _⟩ | ⟨b', K', c, fr, hs', hb, hf, hcs, hxl, hel⟩
        · rw [hs] at hn'; cases hn'
        rw [hs] at hs'
        cases hs'
        have hfit : n + ys.length ≤ cap := by omega
        rcases hca with hc0 | rfl
        · have h0 : n = 0 := by omega
          have hy0 : ys = [] := by
            have : ys.length = 0 := by omega
            simpa using this
          refine none' (some aa) cap (by rw [hav, h0]) h0 hy0 ?_
          simp only [RV]
          exact .inr ⟨b, K, ie.size, aa, cap, hs, rfl, by omega, hlc, .inl hc0⟩
        · have hroom : n * ie.size + new.toList.length ≤ c.size := by
            rw [hcs]
            have := Nat.mul_le_mul_right ie.size (show n + ys.length ≤ K by omega)
            rw [Nat.add_mul] at this
            simp only [Array.length_toList, hns]
            exact this
          have hst := run_storeCells' (P := P) new.toList 0 w c (off := n * ie.size) hb (by simpa using hroom) hf hn1
          have hw' : (if new.toList = [] then w else setB w b (.cells (setL c (n * ie.size + 0) new.toList) e' fr)) = setB w b (.cells (setL c (n * ie.size) new.toList) e' fr) := by
            split
            · rename_i h0
              rw [h0]
              simp only [setL]
              rw [setB_self hb]
            · rfl
          rw [hw'] at hst
          have hlt : (xs.take n).length = n := by simp; omega
          have hw := h.write hid hs (.cells (setL c (n * ie.size) new.toList) e' fr) (.vec e' ie.size (xs.take n ++ (ys ++ xs.drop (n + ys.length)))) (by
            intro ok' hok
            refine .inr ⟨b, K, _, fr, hs, setB_same (heap_lt hb), by rw [setL_size]; exact hf, by rw [setL_size]; exact hcs, by simp; omega, ?_⟩
            refine RVels_append (RVels_transfer (RVels_mono hok (fun _ _ h => h) _ _ _ _ (RVels_take hel n)) fun j hj => ?_) (RVels_append (RVels_transfer (RVels_mono hok (fun _ _ h => h) _ _ _ _ hnr) fun j hj => ?_) (RVels_transfer (RVels_mono hok (fun _ _ h => h) _ _ _ _ (RVels_drop hel (n + ys.length))) fun j hj => ?_))
            · rw [hlt] at hj
              rw [setL_get _ _ _ _ hroom, if_neg (by omega)]
            · rw [hlt, setL_get _ _ _ _ hroom, if_pos (by simp only [Array.length_toList, hns]; omega)]
              rw [Array.getElem?_toList]
              congr 1
              omega
            · rw [hlt, setL_get _ _ _ _ hroom, if_neg (by
                simp only [Array.length_toList, hns, Nat.zero_add]
                omega)]
              congr 1
              simp only [Nat.zero_add, Nat.add_mul])
          refine ⟨.slice (some ⟨b, 0 * ie.size, none⟩) (n + ys.length) cap, setB w b (.cells (setL c (n * ie.size) new.toList) e' fr), σ, .inl (exec_append ho ?_), ?_, fun _ _ => rfl, fun _ _ h => h, ?_, ?_⟩
          · rw [hav]
            exact append_fits (P := P) (w := w) h2 g1 k2 hint (base := some ⟨b, 0 * ie.size, none⟩) (sLen := n) (sCap := cap) (ty := o.type) hlen hnew hfit (by simp only [addr_add]; rw [Nat.zero_mul, Nat.zero_add]; exact hst)
          · rw [app_one]; exact hw.1
          · rw [app_one]; exact hw.2
          · simp only [RV]; exact .inr ⟨b, K, ie.size, ⟨b, 0 * ie.size, none⟩, cap, hs, rfl, hfit, hlc, .inr rfl⟩
    · cases hr; exact old rfl
  · cases hr
end
end Go.AX
