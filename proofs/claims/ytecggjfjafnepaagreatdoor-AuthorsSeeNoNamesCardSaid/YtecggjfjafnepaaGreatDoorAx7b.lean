/- AX, part 7b: slices that are written out. -/
import Derived.Test.YtecggjfjafnepaaGreatDoorAx7
namespace Go.AX
open Go

def elemV (agg : Bool) (l : List V) : Option V := if agg = true then (if l.all V.single = true then some (mkAgg l) else none) else match l with
 | [v] => if v.single = true then some v else none
 | _ => none
def chunkV (agg : Bool) (s : Nat) : Nat → List V → Option (List V)
 | 0, _ => some []
 | n + 1, l => if s ≤ l.length then (match elemV agg (l.take s), chunkV agg s n (l.drop s) with
  | some x, some xs => some (x :: xs)
  | _, _ => none) else none
def topL : Nat → List V
 | 0 => []
 | n + 1 => .top :: topL n

def aBuildSlice (P : Program) (t : TypeId) (len : Nat) (parts : List (Nat × V)) (nid : Nat) : Option Res := match tiOf P t with
 | some ⟨.slice e, _, _, _⟩ => match tiOf P e with
  | some ei => if len * ei.size ≤ 16777216 then match fillV (fun i => some (i * ei.size, ei.size)) (topL (len * ei.size)) parts with
   | some out => match chunkV ei.u.agg ei.size len out with
    | some xs => some ⟨.slr nid 0 len, [(nid, some (.vec e ei.size xs))], True⟩
    | none => none
   | none => none
   else none
  | none => none
 | _ => none

section
variable {P : Program} {cx : Cx} {hv : Nat → Option O} {σ : Nat → Option Loc} {w : World} {nid : Nat} {ρ : Operand → Value} {ev : Operand → V}

theorem topL_rv {ok : Nat → Prop} : ∀ (n : Nat) (vs : List Value), vs.length = n → RVl w ok σ (topL n) vs
 | 0, vs, h => by simp only [topL, RVl]; simpa using h
 | n + 1, [], h => by simp at h
 | n + 1, v :: vs, h => by
  simp only [topL, RVl]
  exact ⟨v, vs, rfl, by simp only [RV], topL_rv n vs (by simpa using h)⟩

theorem chunk_sound {ok : Nat → Prop} {agg : Bool} {s : Nat} {c : Array Value} : ∀ (n : Nat) (l : List V) (p : Nat) (xs : List V), RVl w ok σ l (c.toList.drop p) → chunkV agg s n l = some xs → xs.length = n ∧ RVels w ok σ c s p xs
 | 0, l, p, xs, _, h => by
  simp only [chunkV] at h
  cases h
  simp only [RVels]
  exact ⟨rfl, trivial⟩
 | n + 1, l, p, xs, hl, h => by
  simp only [chunkV] at h
  split at h
  case isFalse => cases h
  rename_i hsl
  split at h
  ·rename_i x ys hx hys
   cases h
   have hrest : RVl w ok σ (l.drop s) (c.toList.drop (p + s)) := by
    have := RVl_drop hl s
    rwa [List.drop_drop] at this
   obtain ⟨h1, h2⟩ := chunk_sound n (l.drop s) (p + s) ys hrest hys
   simp only [RVels]
   refine ⟨by simp [h1], ?_, h2⟩
   have htake := RVl_take hl s
   have hlen := RVl_length hl
   simp at hlen
   unfold elemV at hx
   split at hx
   ·split at hx
    ·cases hx
     by_cases h0 : s = 0
     ·subst h0
      refine ⟨.agg #[], ?_, RV_mkAgg (by simpa using htake)⟩
      simp only [ElemAt]; exact ⟨rfl, fun j hj => by omega⟩
     refine ⟨.agg (c.extract p (p + s)), ?_, RV_mkAgg ?_⟩
     ·simp only [ElemAt]
      refine ⟨by simp; omega, fun j hj => ?_⟩
      rw [Array.getElem?_extract, if_pos (by omega)]
     ·have e : (c.extract p (p + s)).toList = (c.toList.drop p).take s := by simp
      rw [e]
      exact htake
    ·cases hx
   ·split at hx
    ·rename_i v hv
     split at hx
     ·rename_i hys'
      cases hx
      rw [hv] at htake
      simp only [RVl] at htake
      obtain ⟨u, us, e1, e2, e3⟩ := htake
      have h1c := oneCell_of_RV hys' e2
      refine ⟨u, ?_, e2⟩
      have hs1 : s = 1 := by
       have := congrArg List.length hv
       simp at this
       omega
      subst hs1
      have hc : c[p]? = some u := by
       have := congrArg (fun l => l[0]?) e1
       simpa using this
      cases u <;> simp [Value.oneCell'] at h1c <;> exact ⟨rfl, hc⟩
     ·cases hx
    ·cases hx
  ·cases h

theorem aBuildSlice_sound (h : HR cx hv σ w) (hn : σ nid = none) (hev : ∀ x, RV w (okB cx w hv σ) σ (ev x) (ρ x)) {t : TypeId} {len : Nat} {parts : Array (Nat × Operand)} {o : Oper} {r : Res} (ho : o.op = .buildSlice t len parts)
  (hr : aBuildSlice P t len (parts.toList.map fun (i, x) => (i, ev x)) nid = some r) : Sound P cx hv σ w nid ρ o r := by
 obtain ⟨pl, pv⟩ := parts_ok hev parts
 unfold aBuildSlice at hr
 split at hr
 ·rename_i e _ _ _ hti
  obtain ⟨ii, d, zv, h1, h2, h3, h4, h5, h6, h7⟩ := tiOf_spec hti
  have := tuOf_slice h4
  subst this
  split at hr
  ·rename_i ei hei
   obtain ⟨ie, d', z', g1, g2, g3, g4, g5, _⟩ := tiOf_spec hei
   split at hr
   ·rename_i hsz
    split at hr
    ·rename_i out hout
     split at hr
     ·rename_i xs hxs
      cases hr
      rw [g5] at hout hxs hsz
      let z : Array Value := if len * ie.size = 0 then #[] else z'.cells
      let c0 : Array Value := (Array.range (len * ie.size)).map (z[· % z.size]!)
      have hc0 : c0.toList.length = len * ie.size := by simp [c0]
      obtain ⟨c', hc1, hc2⟩ := fill_sound (w := w) (ok := okB cx w hv σ) (σ := σ) _ _ (topL (len * ie.size)) c0 out pl pv (topL_rv _ _ hc0) hout
      obtain ⟨k1, k2⟩ := chunk_sound len out 0 xs (by simpa using hc2) hxs
      have hsize : c'.size = len * ie.size := by
       have l1 := RVl_length hc2
       have l2 : out.length = (topL (len * ie.size)).length := by
        clear hc2 hc1 hxs k1 k2
        have : ∀ (ps : List (Nat × V)) (cs out : List V), fillV (fun i => some (i * ie.size, ie.size)) cs ps = some out → out.length = cs.length := by
         intro ps
         induction ps with
         | nil => intro cs out h; simp only [fillV] at h; cases h; rfl
         | cons p ps ih =>
          intro cs out h
          obtain ⟨i, x⟩ := p
          simp only [fillV] at h
          split at h
          ·rename_i hcond
           rw [ih _ _ h, putL_length hcond.2.2]
          ·cases h
        exact this _ _ _ hout
       have l3 : ∀ n, (topL n).length = n := by intro n; induction n with | zero => rfl | succ n ih => simp [topL, ih]
       rw [l3] at l2
       simp at l1
       omega
      obtain ⟨f1, f2, f3⟩ := h.alloc hn (hv_none_of_fresh h hn) (.cells c' e) (.vec e ie.size xs) len ie.size (by
       intro σ' ok' hσ hok hnew
       refine .inr ⟨w.heap.size, len, c', (0, 0), hnew, alloc_new _ _, frOk_zero _, hsize, by omega, ?_⟩
       exact RVels_mono hok hσ _ _ _ _ k2)
      refine ⟨.slice (some ⟨w.heap.size, 0, none⟩) len len, w.alloc (.cells c' e), _, .inl ?_, ?_, fun id hid => upd_other _ _ hid, f2, ?_, ?_⟩
      ·have hlim : ¬ (len * ie.size > 2 ^ 24) := by omega
       have hc1' : Instr.fill (fun i => some (i * ie.size, ie.size)) (Array.map (fun x => z[x % z.size]!) (Array.range (len * ie.size))) (parts.map fun x => (x.1, ρ x.2)).toList = some c' := hc1
       by_cases h0 : len * ie.size = 0
       ·have hz : z = #[] := by simp [z, h0]
        rw [hz] at hc1'
        simp only [execOp, ho, Instr.buildSlice, Sem.run_bind, run_underlying' h2, Result.andThen_ok, run_sizeOf' g1, hlim, if_false, Sem.run_pure]
        rw [if_pos h0]
        simp only [Sem.run_bind, Sem.run_pure, Result.andThen_ok]
        rw [hc1']
        simp only [newRow, Sem.run_bind, run_newObj_alloc, Result.andThen_ok, Sem.run_pure]
       ·have hz : z = z'.cells := by simp [z, h0]
        rw [hz] at hc1'
        simp only [execOp, ho, Instr.buildSlice, Sem.run_bind, run_underlying' h2, Result.andThen_ok, run_sizeOf' g1, hlim, if_false, Sem.run_pure]
        rw [if_neg h0]
        simp only [Sem.run_bind, run_zeroValue' g1 g3, Sem.run_pure, Result.andThen_ok]
        rw [hc1']
        simp only [newRow, Sem.run_bind, run_newObj_alloc, Result.andThen_ok, Sem.run_pure]
      ·rw [app_one]; rw [g5]; exact f1
      ·rw [app_one]; rw [g5]; exact f3
      ·simp only [RV]
       exact .inr ⟨w.heap.size, len, ie.size, ⟨w.heap.size, 0, none⟩, len, upd_same _ _ _, rfl, Nat.le_refl _, by omega, .inr (by simp)⟩
     ·cases hr
    ·cases hr
   ·cases hr
  ·cases hr
 ·cases hr
end
end Go.AX
