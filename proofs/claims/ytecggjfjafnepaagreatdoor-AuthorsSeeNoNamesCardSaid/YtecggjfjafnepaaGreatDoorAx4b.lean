/- AX, part 4b: '==' on structs of plain data. -/
import Derived.Test.YtecggjfjafnepaaGreatDoorAx6
import Derived.Laws.StructEq
namespace Go.AX
open Go

/-- Nothing stands in the way of comparing values of the type field by field. -/
def eqOk (P : Program) (t : TypeId) : Bool := !P.stoodInHeld t && (P.fieldsOf t).toList.all (fun f => f.name != "_") && !P.eqGuardType P.depth t

def eqFs (P : Program) (eq : TypeId → D → D → Option Bool) (xs ys : List D) : List (Nat × Nat) → Option Bool
 | [] => some true
 | (off, ft) :: fs => match tiOf P ft with
  | some fi => match partD fi xs off, partD fi ys off with
   | some a, some b => match eq ft a b, eqFs P eq xs ys fs with
    | some r, some s => some (r && s)
    | _, _ => none
   | _, _ => none
  | none => none
def eqD (P : Program) : Nat → TypeId → D → D → Option Bool
 | 0, _, _, _ => none
 | n + 1, t, x, y => match tiOf P t with
  | some ⟨.int _, _, _, _⟩ => match x, y with
   | .int k a, .int k' b => if k = k' then some (a == b) else none
   | _, _ => none
  | some ⟨.str, _, _, _⟩ => match x, y with
   | .str a, .str b => some (a == b)
   | _, _ => none
  | some ⟨.bool, _, _, _⟩ => match x, y with
   | .bool a, .bool b => some (a == b)
   | _, _ => none
  | some ⟨.struct fs, _, _, _⟩ => if eqOk P t = true then (match x, y with
   | .agg xs, .agg ys => eqFs P (eqD P n) xs ys fs
   | _, _ => none) else none
  | _ => none

section
variable {P : Program} {w : World} {ok : Nat → Prop}
theorem eqFs_run {d : Nat} {eq : TypeId → D → D → Option Bool} (heq : ∀ t x y b u v, eq t x y = some b → RD w ok x u → RD w ok y v → (Op.equalIn d t u v).run P w = .ok b w) {xs ys : List D} {cx cy : Array Value}
  (hx : cx.size = xs.length) (hcx : RDcs w ok cx 0 xs) (hy : cy.size = ys.length) (hcy : RDcs w ok cy 0 ys) : ∀ (fs : List Field) (b : Bool), (fs.all fun f => f.name != "_") = true → eqFs P eq xs ys (fs.map fun f => (f.offset, f.type)) = some b →
  (Op.eqFields d cx cy fs).run P w = .ok b w
 | [], b, _, h => by
  simp only [List.map_nil, eqFs] at h
  cases h
  rfl
 | f :: fs, b, hn, h => by
  simp only [List.all_cons, Bool.and_eq_true] at hn
  simp only [List.map_cons, eqFs] at h
  split at h
  ·rename_i fi hfi
   split at h
   ·rename_i a c ha hc
    split at h
    ·rename_i r s hr hs
     cases h
     obtain ⟨u, hu1, hu2⟩ := partD_sound hfi hx hcx ha
     obtain ⟨v, hv1, hv2⟩ := partD_sound hfi hy hcy hc
     have hrun := heq _ _ _ _ _ _ hr hu2 hv2
     have ih := eqFs_run heq hx hcx hy hcy fs s hn.2 hs
     have hne : f.name ≠ "_" := by simpa using hn.1
     simp only [Op.eqFields, hne, ne_eq, not_false_eq_true, if_true, Sem.run_bind, hu1, hv1, hrun, Result.andThen_ok]
     cases r
     ·simp only [Bool.not_false, if_true, Sem.run_pure, Bool.false_and]
     ·simp only [Bool.not_true, Bool.false_eq_true, if_false, ih, Bool.true_and]
    ·cases h
   ·cases h
  ·cases h

theorem eqD_run : ∀ (n : Nat) (m : Nat) (t : TypeId) (x y : D) (b : Bool) (u v : Value), eqD P n t x y = some b → RD w ok x u → RD w ok y v → (Op.equalIn (m + n) t u v).run P w = .ok b w
 | 0, _, _, _, _, _, _, _, h, _, _ => by simp [eqD] at h
 | n + 1, m, t, x, y, b, u, v, h, hu, hv => by
  simp only [eqD] at h
  rw [← Nat.add_assoc]
  split at h
  ·rename_i k _ _ _ hti
   obtain ⟨i, d, z, h1, h2, h3, h4, _⟩ := tiOf_spec hti
   have := tuOf_int h4
   subst this
   split at h
   ·split at h
    ·rename_i hk
     subst hk
     cases h
     simp only [RD] at hu hv
     subst hu
     subst hv
     exact run_equalIn_int w _ t _ _ _ _ h2
    ·cases h
   ·cases h
  ·rename_i _ _ _ hti
   obtain ⟨i, d, z, h1, h2, h3, h4, _⟩ := tiOf_spec hti
   have := tuOf_str h4
   subst this
   split at h
   ·cases h
    simp only [RD] at hu hv
    subst hu
    subst hv
    rw [run_equalIn_string w _ t _ _ h2, toList_mk, toList_mk]
   ·cases h
  ·rename_i _ _ _ hti
   obtain ⟨i, d, z, h1, h2, h3, h4, _⟩ := tiOf_spec hti
   have hd : d = .bool := by cases d <;> simp [tuOf] at h4; rfl
   subst hd
   split at h
   ·cases h
    simp only [RD] at hu hv
    subst hu
    subst hv
    exact run_equalIn_bool' w _ t _ _ h2
   ·cases h
  ·rename_i fs _ _ _ hti
   obtain ⟨i, d, z, h1, h2, h3, h4, _⟩ := tiOf_spec hti
   obtain ⟨fa, rfl, rfl⟩ := tuOf_struct h4
   split at h
   ·rename_i hok
    simp only [eqOk, Bool.and_eq_true, Bool.not_eq_true'] at hok
    split at h
    ·rename_i xs ys
     simp only [RD] at hu hv
     obtain ⟨cu, rfl, u1, u2⟩ := hu
     obtain ⟨cv, rfl, v1, v2⟩ := hv
     have hf : P.fieldsOf t = fa := by simp [Program.fieldsOf, h2]
     rw [run_equalIn_struct w _ t _ _ (by rw [hf]; exact h2) hok.1.1, hf]
     rw [hf] at hok
     exact eqFs_run (fun t x y b u v e hu hv => eqD_run n m t x y b u v e hu hv) u1 u2 v1 v2 fa.toList b hok.1.2 h
    ·cases h
   ·cases h
  ·cases h

theorem eqD_equal {t : TypeId} {x y : D} {b : Bool} {u v : Value} (h : eqD P 8 t x y = some b) (hu : RD w ok x u) (hv : RD w ok y v) : (Op.equal t u v).run P w = .ok b w := eqD_run 8 9992 t x y b u v h hu hv
end

def aEq (P : Program) (op : BinOp) (t : TypeId) (x y : V) : Option Res := match x, y with
 | .d (.agg xs), .d (.agg ys) => if eqOk P t = true then match op, eqD P 8 t (.agg xs) (.agg ys) with
  | .eql, some b => some ⟨.d (.bool b), [], True⟩
  | .neq, some b => some ⟨.d (.bool (!b)), [], True⟩
  | _, _ => none
  else none
 | _, _ => none

section
variable {P : Program} {cx : Cx} {hv : Nat → Option O} {σ : Nat → Option Loc} {w : World} {nid : Nat} {ρ : Operand → Value} {ev : Operand → V}
theorem aEq_sound (h : HR cx hv σ w) (hev : ∀ x, RV w (okB cx w hv σ) σ (ev x) (ρ x)) {op : BinOp} {t yt : TypeId} {x y : Operand} {o : Oper} {r : Res} (ho : o.op = .binOp op t x y yt) (hr : aEq P op t (ev x) (ev y) = some r) :
  Sound P cx hv σ w nid ρ o r := by
 have hx := hev x
 have hy := hev y
 unfold aEq at hr
 split at hr
 ·rename_i xs ys e1 e2
  rw [e1] at hx
  rw [e2] at hy
  simp only [RV] at hx hy
  split at hr
  ·rename_i hok
   have hok' := hok
   simp only [eqOk, Bool.and_eq_true, Bool.not_eq_true'] at hok
   have hx' := hx
   have hy' := hy
   simp only [RD] at hx' hy'
   obtain ⟨cu, hu, _⟩ := hx'
   obtain ⟨cv, hv', _⟩ := hy'
   have hg : op = .eql ∨ op = .neq → (eqGuard op t x y (.agg cu) (.agg cv)).run P w = .ok () w := by
    rintro (rfl | rfl) <;> simp [eqGuard, hok.2]
   split at hr
   ·rename_i b hb
    cases hr
    have he := eqD_equal (w := w) hb hx hy
    rw [hu, hv'] at he
    refine sound_value h rfl (v := .bool b) ?_ (by simp only [RV, RD])
    simp only [execOp, ho, hu, hv', Sem.run_bind, hg (.inl rfl), Result.andThen_ok, binOp, he, Sem.run_pure]
   ·rename_i b hb
    cases hr
    have he := eqD_equal (w := w) hb hx hy
    rw [hu, hv'] at he
    refine sound_value h rfl (v := .bool (!b)) ?_ (by simp only [RV, RD])
    simp only [execOp, ho, hu, hv', Sem.run_bind, hg (.inr rfl), Result.andThen_ok, binOp, he, Sem.run_pure]
   ·cases hr
  ·cases hr
 ·cases hr
end
def aBin2 (P : Program) (op : BinOp) (t : TypeId) (x y : V) : Option Res := match x with
 | .d (.agg _) => aEq P op t x y
 | _ => aBin P op t x y
section
variable {P : Program} {cx : Cx} {hv : Nat → Option O} {σ : Nat → Option Loc} {w : World} {nid : Nat} {ρ : Operand → Value} {ev : Operand → V}
theorem aBin2_sound (h : HR cx hv σ w) (hev : ∀ x, RV w (okB cx w hv σ) σ (ev x) (ρ x)) {op : BinOp} {t yt : TypeId} {x y : Operand} {o : Oper} {r : Res} (ho : o.op = .binOp op t x y yt) (hr : aBin2 P op t (ev x) (ev y) = some r) (hob : r.ob) :
  Sound P cx hv σ w nid ρ o r := by
 unfold aBin2 at hr
 split at hr
 ·exact aEq_sound h hev ho hr
 ·exact aBin_sound h hev ho hr hob
end
end Go.AX
