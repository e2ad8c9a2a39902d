/- The last review of a pair: walked. -/
import Derived.Test.YtecggjfjafnepaaGreatDoorCD
import Derived.Test.YtecggjfjafnepaaGreatDoorAx31
import Derived.Stop.RegionWithIn
import Derived.Test.YtecggjfjafnepaaGreatDoorCC
set_option linter.unusedSimpArgs false
set_option linter.unusedVariables false
set_option maxRecDepth 100000
set_option maxHeartbeats 2000000
namespace Go.AX
open Go Go.Proofs Go.RowKit Go.Shelf
attribute [local go_sem] Oper.semAt_some
theorem lookup_run {P : Program} {w : World} {ok : Nat → Prop} {t kt et s b : Nat} {z0 : V} (hti : tiOf P t = some ⟨.map kt et, s, b, z0⟩) {ki ei : TI} (hki : tiOf P kt = some ki) (hei : tiOf P et = some ei)
  {ks vs : List D} {k : D} {mv kv : Value} (hm : RD w ok (.map ks vs) mv) (hk : RD w ok k kv) (hp : keyOk P kt ki.u k = true) {r : Option Nat} (hf : fndK k ks = some r) :
  ∃ v, (∀ W : World, (∀ b, ok b → W.heap[b]? = w.heap[b]?) → (Instr.lookup t mv kv false).run P W = .ok v W) ∧ ((∃ j x, r = some j ∧ vs[j]? = some x ∧ RD w ok x v) ∨ (r = none ∧ constV v = ei.zero)) := by
 obtain ⟨ii, d, zv, h1, h2, h3, h4, h5, h6, h7⟩ := tiOf_spec hti
 have := tuOf_map h4
 subst this
 obtain ⟨ie, d', z, g1, g2, g3, g4, g5, g6, g7⟩ := tiOf_spec hei
 simp only [RD] at hm
 obtain ⟨rr, rfl, hm⟩ := hm
 have hes : ∃ es : Array MapEntry, (rr = none ∧ es = #[] ∨ ∃ b' clock, rr = some b' ∧ ok b' ∧ w.heap[b']? = some (.map es clock)) ∧ es.size = ks.length ∧ es.size = vs.length ∧ RDcs w ok (es.map (·.key)) 0 ks ∧ RDcs w ok (es.map (·.val)) 0 vs := by
  rcases hm with ⟨rfl, rfl, rfl⟩ | ⟨b', es, clock, rfl, hok, hh, -, e1, e2, e3, e4⟩
  ·exact ⟨#[], .inl ⟨rfl, rfl⟩, rfl, rfl, by simp only [RDcs], by simp only [RDcs]⟩
  ·exact ⟨es, .inr ⟨b', clock, rfl, hok, hh⟩, e1, e2, e3, e4⟩
 obtain ⟨es, hes, hl, hl2, hks, hvs⟩ := hes
 have hrun : ∀ v b, (match r.bind fun j => (es[j]?).map fun e => (j, e.val) with | some (_, v) => (v, true) | none => (z, false)) = (v, b) → ∀ W : World, (∀ b, ok b → W.heap[b]? = w.heap[b]?) → (Instr.lookup t (.map rr) kv false).run P W = .ok v W := by
  intro v b hvb W hW
  have hk' := RD_mono (w' := W) (ok' := ok) (fun b hb => ⟨hb, hW b hb⟩) _ _ hk
  obtain ⟨k1, -⟩ := findKey_run hki hp hk' hl (RDcs_mono (fun b hb => ⟨hb, hW b hb⟩) _ _ _ hks) hf
  rcases hes with ⟨rfl, rfl⟩ | ⟨b', clock, rfl, hok, hb⟩
  ·simp only [Instr.lookup, Sem.run_bind, run_underlying' h2, Result.andThen_ok, Sem.run_pure, checkKey_ok (n := 9998) hki hp hk', k1]
   revert hvb
   cases (r.bind fun j => ((#[] : Array MapEntry)[j]?).map fun e => (j, e.val)) with
   | none => intro hvb; cases hvb; simp only [Sem.run_bind, run_zeroValue' g1 g3, Result.andThen_ok, Sem.run_pure]; rfl
   | some q => obtain ⟨q1, q2⟩ := q; intro hvb; cases hvb; simp only [Sem.run_bind, Sem.run_pure, Result.andThen_ok]; rfl
  ·simp only [Instr.lookup, Sem.run_bind, run_underlying' h2, run_getMap ((hW b' hok).trans hb), Result.andThen_ok, Sem.run_pure, checkKey_ok (n := 9998) hki hp hk', k1]
   revert hvb
   cases (r.bind fun j => (es[j]?).map fun e => (j, e.val)) with
   | none => intro hvb; cases hvb; simp only [Sem.run_bind, run_zeroValue' g1 g3, Result.andThen_ok, Sem.run_pure]; rfl
   | some q => obtain ⟨q1, q2⟩ := q; intro hvb; cases hvb; simp only [Sem.run_bind, Sem.run_pure, Result.andThen_ok]; rfl
 obtain ⟨-, k2⟩ := findKey_run hki hp hk hl hks hf
 cases r with
 | none => exact ⟨z, hrun z false (by simp), .inr ⟨rfl, g7.symm⟩⟩
 | some j =>
  have hj := k2 j rfl
  obtain ⟨x, hx⟩ : ∃ x, vs[j]? = some x := ⟨vs[j]'(by omega), List.getElem?_eq_getElem (by omega)⟩
  obtain ⟨u, hu, hru⟩ := RDcs_get hvs hx
  have hu' : (es[j]).val = u := by simpa [hj] using hu
  exact ⟨u, hrun u true (by simp [hj, hu']), .inl ⟨j, x, rfl, hx, hru⟩⟩
/-- Which review is meant. -/
def hitR (at_ : Int) (dn : Bool) (t : Rw) : Bool := decide (t.at_ ≤ at_) && (t.dn || !dn)
/-- While no review was met: what holds. -/
abbrev LJ (at_ : Int) (dn : Bool) (w : World) (pre : List (Nat × Rw)) (W : World) : Prop := ((∀ x ∈ pre, hitR at_ dn x.2 = false) ∧ W.cell? ⟨w.heap.size + 1, 0, none⟩ = some (.int .i64 at_) ∧ W.cell? ⟨w.heap.size + 1 + 1, 0, none⟩ = some (.bool dn) ∧ W.cell? ⟨w.heap.size + 1 + 1 + 1 + 1, 0, none⟩ = some (.bool false) ∧ W.frozen? ⟨w.heap.size + 1 + 1 + 1 + 1, 0, none⟩ = false ∧
      (∀ i v, (#[Value.int .i64 0, .int .i64 0, .string ⟨#[]⟩, .string ⟨#[]⟩, .string ⟨#[]⟩, .bool false, .slice none 0 0] : Array Value)[i]? = some v → W.cell? ⟨w.heap.size + 1 + 1 + 1, i, none⟩ = some v) ∧ (∀ i, i < 7 → W.frozen? ⟨w.heap.size + 1 + 1 + 1, i, none⟩ = false) ∧ w.heap.size + 6 ≤ W.heap.size) ∧ Below w.heap.size w W
/-- When one was met. -/
abbrev LX (at_ : Int) (dn : Bool) (w : World) (c : Code) (pre : List (Nat × Rw)) (W : World) : Prop := (c = .ret ∧ ∃ ini last, pre = ini ++ [last] ∧ (∀ x ∈ ini, hitR at_ dn x.2 = false) ∧ hitR at_ dn last.2 = true ∧ W.cell? ⟨w.heap.size + 1 + 1 + 1 + 1, 0, none⟩ = some (.bool true) ∧
      (∀ i v, (#[Value.int .i64 last.2.no, .int .i64 last.2.at_, .string ⟨last.2.pa.toArray⟩, .string ⟨last.2.pe.toArray⟩, .string ⟨last.2.by_.toArray⟩, .bool last.2.dn, .slice last.2.ad last.2.al last.2.ac] : Array Value)[i]? = some v → W.cell? ⟨w.heap.size + 1 + 1 + 1, i, none⟩ = some v)) ∧ Below w.heap.size w W
/-- Eight cells are stored. -/
def st8 (W : World) (r : Nat) (v0 v1 v2 v3 v4 v5 v6 u : Value) : World := (((((((W.setCell ⟨r, 0, none⟩ v0).setCell ⟨r, 1, none⟩ v1).setCell ⟨r, 2, none⟩ v2).setCell ⟨r, 3, none⟩ v3).setCell ⟨r, 4, none⟩ v4).setCell ⟨r, 5, none⟩ v5).setCell ⟨r, 6, none⟩ v6).setCell ⟨r + 1, 0, none⟩ u
theorem st8_keeps (W : World) (r : Nat) (v0 v1 v2 v3 v4 v5 v6 u : Value) : KeepsOthers W (st8 W r v0 v1 v2 v3 v4 v5 v6 u) := by
 unfold st8
 iterate 7 refine KeepsOthers.trans ?_ (KeepsOthers.setCell _ _ _)
 exact KeepsOthers.setCell _ _ _
theorem st8_below {B : Nat} {w W : World} (h : Below B w W) {r : Nat} (hr : B ≤ r) (v0 v1 v2 v3 v4 v5 v6 u : Value) : Below B w (st8 W r v0 v1 v2 v3 v4 v5 v6 u) := by
 unfold st8
 iterate 8 refine Below.setCell ?_ (by simp only; omega) _
 exact h
theorem st8_cells {W : World} {r : Nat} {z : Array Value} (h : ∀ i v, z[i]? = some v → W.cell? ⟨r, i, none⟩ = some v) (hz : z.size = 7) {y : Value} (hy : W.cell? ⟨r + 1, 0, none⟩ = some y) (v0 v1 v2 v3 v4 v5 v6 u : Value) :
  (∀ i v, (#[v0, v1, v2, v3, v4, v5, v6] : Array Value)[i]? = some v → (st8 W r v0 v1 v2 v3 v4 v5 v6 u).cell? ⟨r, i, none⟩ = some v) ∧ (st8 W r v0 v1 v2 v3 v4 v5 v6 u).cell? ⟨r + 1, 0, none⟩ = some u := by
 have z0 := h 0 _ (Array.getElem?_eq_getElem (by omega))
 have z1 := h 1 _ (Array.getElem?_eq_getElem (by omega))
 have z2 := h 2 _ (Array.getElem?_eq_getElem (by omega))
 have z3 := h 3 _ (Array.getElem?_eq_getElem (by omega))
 have z4 := h 4 _ (Array.getElem?_eq_getElem (by omega))
 have z5 := h 5 _ (Array.getElem?_eq_getElem (by omega))
 have z6 := h 6 _ (Array.getElem?_eq_getElem (by omega))
 refine ⟨fun i v hv => ?_, World.cell?_setCell_same' _ _ _ (by simp [World.cell?_setCell_other, hy])⟩
 unfold st8
 rcases i with _ | _ | _ | _ | _ | _ | _ | i
 all_goals simp at hv
 all_goals subst hv
 all_goals simp [World.cell?_setCell_other, World.cell?_setCell_same', z0, z1, z2, z3, z4, z5, z6]
theorem last_in (F : Fence) (n : Nat) (h3 : F.fn 67) (h5 : F.fn 123) (h8 : F.fn 173) (hro : F.round = none) (hn : 3 ≤ n)
    (bb bo : Nat) (mv : Value) (a : Option Addr) (len cap : Nat) (ts : List Rw) (hl : ts.length ≤ 1000000) (p1 p2 : List UInt8) (at_ : Int) (dn : Bool) (w : World) (hbb : bb < w.heap.size) (hb : w.cell? ⟨bb, bo + 7, none⟩ = some mv)
    (hrun : ∀ W, Below w.heap.size w W → (Instr.lookup 188 mv (.agg #[.string ⟨p1.toArray⟩, .string ⟨p2.toArray⟩]) false).run Tryz.prog W = .ok (.slice a len cap) W)
    (hI : RwSl w.heap.size w (.slice a len cap) ts) :
    CallsIn F n Tryz.prog 67 #[.pointer (some ⟨bb, bo, none⟩), .agg #[.string ⟨p1.toArray⟩, .string ⟨p2.toArray⟩], .int .i64 at_, .bool dn] w fun e W' => Below w.heap.size w W' ∧ ((e = .returned (.tuple #[rwV Rw.z, .bool false]) ∧ ∀ x ∈ upR ts ts.length, hitR at_ dn x.2 = false) ∨
      ∃ k ini last, k ≤ ts.length ∧ upR ts k = ini ++ [last] ∧ (∀ x ∈ ini, hitR at_ dn x.2 = false) ∧ hitR at_ dn last.2 = true ∧ e = .returned (.tuple #[rwV last.2, .bool true])) := by
  have h1 : 1 ≤ n := by omega
  refine callsIn_of_wp_marks Tryz.func67 rfl h3 ?_ hro
  simp only [Tryz.ntmps67, List.size_toArray, List.length_cons, List.length_nil, Nat.reduceAdd, Nat.reduceSub, Array.replicate_succ, Array.replicate_zero, List.push_toArray, List.append_toArray, List.nil_append, List.cons_append]
  gi_wp2
  have hB5 : Below w.heap.size w (((((w.alloc (.cells #[.string ⟨p1.toArray⟩, .string ⟨p2.toArray⟩] 60)).alloc (.cells #[.int .i64 at_] 3)).alloc (.cells #[.bool dn] 4)).alloc (.cells #[.int .i64 0, .int .i64 0, .string ⟨#[]⟩, .string ⟨#[]⟩, .string ⟨#[]⟩, .bool false, .slice none 0 0] 50)).alloc (.cells #[.bool false] 4)) :=
    (((((Below.refl _ w).alloc (Nat.le_refl _) _).alloc (by simp) _).alloc (by simp; omega) _).alloc (by simp; omega) _).alloc (by simp; omega) _
  have hr5 := hrun _ hB5.drew
  have c7 := (hB5.drew.cell (p := ⟨bb, bo + 7, none⟩) hbb).trans hb
  gi_region_with (gi_at_call 123; refine (rb_in F (n - 1) h5 hro _ _ _ _).mono ?_; rintro e w' ⟨rfl, rfl⟩)
  all_goals gi_wp2
  all_goals
    have bA := Boxed.new (w.alloc (.cells #[.string ⟨p1.toArray⟩, .string ⟨p2.toArray⟩] 60)) 3 (.int .i64 at_)
    have bD := Boxed.new ((w.alloc (.cells #[.string ⟨p1.toArray⟩, .string ⟨p2.toArray⟩] 60)).alloc (.cells #[.int .i64 at_] 3)) 4 (.bool dn)
    have hR := World.alloc_heap_new (((w.alloc (.cells #[.string ⟨p1.toArray⟩, .string ⟨p2.toArray⟩] 60)).alloc (.cells #[.int .i64 at_] 3)).alloc (.cells #[.bool dn] 4)) (.cells #[.int .i64 0, .int .i64 0, .string ⟨#[]⟩, .string ⟨#[]⟩, .string ⟨#[]⟩, .bool false, .slice none 0 0] 50)
    have bO := Boxed.new ((((w.alloc (.cells #[.string ⟨p1.toArray⟩, .string ⟨p2.toArray⟩] 60)).alloc (.cells #[.int .i64 at_] 3)).alloc (.cells #[.bool dn] 4)).alloc (.cells #[.int .i64 0, .int .i64 0, .string ⟨#[]⟩, .string ⟨#[]⟩, .string ⟨#[]⟩, .bool false, .slice none 0 0] 50)) 4 (.bool false)
    have bN := Boxed.new (((((w.alloc (.cells #[.string ⟨p1.toArray⟩, .string ⟨p2.toArray⟩] 60)).alloc (.cells #[.int .i64 at_] 3)).alloc (.cells #[.bool dn] 4)).alloc (.cells #[.int .i64 0, .int .i64 0, .string ⟨#[]⟩, .string ⟨#[]⟩, .string ⟨#[]⟩, .bool false, .slice none 0 0] 50)).alloc (.cells #[.bool false] 4)) 39 (.slice a len cap)
    simp only [World.size_alloc] at bA bD hR bO bN
    have hB6 := (hB5.alloc (by simp; omega) (.cells #[.slice a len cap] 39)).drew
    have cA := ((((bA.alloc (.cells #[.bool dn] 4)).alloc (.cells #[.int .i64 0, .int .i64 0, .string ⟨#[]⟩, .string ⟨#[]⟩, .string ⟨#[]⟩, .bool false, .slice none 0 0] 50)).alloc (.cells #[.bool false] 4)).alloc (.cells #[.slice a len cap] 39)).cell
    have cD := (((bD.alloc (.cells #[.int .i64 0, .int .i64 0, .string ⟨#[]⟩, .string ⟨#[]⟩, .string ⟨#[]⟩, .bool false, .slice none 0 0] 50)).alloc (.cells #[.bool false] 4)).alloc (.cells #[.slice a len cap] 39)).cell
    have cO := (bO.alloc (.cells #[.slice a len cap] 39)).cell
    have fO := (bO.alloc (.cells #[.slice a len cap] 39)).frozen
    have hex : ∃ V, ((((((w.alloc (.cells #[.string ⟨p1.toArray⟩, .string ⟨p2.toArray⟩] 60)).alloc (.cells #[.int .i64 at_] 3)).alloc (.cells #[.bool dn] 4)).alloc (.cells #[.int .i64 0, .int .i64 0, .string ⟨#[]⟩, .string ⟨#[]⟩, .string ⟨#[]⟩, .bool false, .slice none 0 0] 50)).alloc (.cells #[.bool false] 4)).alloc (.cells #[.slice a len cap] 39)).drew = V := ⟨_, rfl⟩
    obtain ⟨V, hV⟩ := hex
    have cR : ∀ i v, (#[Value.int .i64 0, .int .i64 0, .string ⟨#[]⟩, .string ⟨#[]⟩, .string ⟨#[]⟩, .bool false, .slice none 0 0] : Array Value)[i]? = some v → V.cell? ⟨w.heap.size + 1 + 1 + 1, i, none⟩ = some v := by
      intro i v hv
      have hh : V.heap[w.heap.size + 1 + 1 + 1]? = some (.cells #[.int .i64 0, .int .i64 0, .string ⟨#[]⟩, .string ⟨#[]⟩, .string ⟨#[]⟩, .bool false, .slice none 0 0] 50) := by
        rw [← hV]
        refine Eq.trans ?_ hR
        show (World.alloc _ _).heap[_]? = _
        rw [Below.heap_alloc _ _ _ (by simp), Below.heap_alloc _ _ _ (by simp)]
      unfold World.cell?
      dsimp only
      rw [hh]
      exact hv
    have fR : ∀ i, V.frozen? ⟨w.heap.size + 1 + 1 + 1, i, none⟩ = false := by
      intro i
      have hh : V.heap[w.heap.size + 1 + 1 + 1]? = some (.cells #[.int .i64 0, .int .i64 0, .string ⟨#[]⟩, .string ⟨#[]⟩, .string ⟨#[]⟩, .bool false, .slice none 0 0] 50) := by
        rw [← hV]
        refine Eq.trans ?_ hR
        show (World.alloc _ _).heap[_]? = _
        rw [Below.heap_alloc _ _ _ (by simp), Below.heap_alloc _ _ _ (by simp)]
      unfold World.frozen?
      dsimp only
      rw [hh]
      simp
    have cA : V.cell? ⟨w.heap.size + 1, 0, none⟩ = some (.int .i64 at_) := by rw [← hV]; exact cA
    have cD : V.cell? ⟨w.heap.size + 1 + 1, 0, none⟩ = some (.bool dn) := by rw [← hV]; exact cD
    have cO : V.cell? ⟨w.heap.size + 1 + 1 + 1 + 1, 0, none⟩ = some (.bool false) := by rw [← hV]; exact cO
    have fO : V.frozen? ⟨w.heap.size + 1 + 1 + 1 + 1, 0, none⟩ = false := by rw [← hV]; exact fO
    have cN : V.cell? ⟨w.heap.size + 1 + 1 + 1 + 1 + 1, 0, none⟩ = some (.slice a len cap) := by rw [← hV]; exact bN.cell
    have hsz : V.heap.size = w.heap.size + 6 := by rw [← hV]; simp
    rw [hV] at hB6 ⊢
    clear hR bA bD bO bN hr5 c7
    refine wpIn_rangeFunc_ownH hro h1 (gf := 173) (lb := #[.pointer (some ⟨w.heap.size + 1 + 1 + 1 + 1 + 1, 0, none⟩)]) rfl h8 (enters_of Tryz.func173 (by kernel_rfl) rfl)
      (rb_stops F (n - 1) h8 hro (by omega) (w.heap.size + 1 + 1 + 1 + 1 + 1) (w.heap.size + 6) (.slice a len cap) ts hl _ (by rw [hsz]; omega) (by rw [hsz]; omega) (by omega) cN ((hI.below hB6).mono (by omega))) belowK_t (belowK_b (by rw [hsz]; omega)) (Below.refl _ _) (fun _ => rfl)
      (LJ at_ dn w) (LX at_ dn w)
      (OwnFrom.and (Own.from (fun s A B row hs hg hr => by
        obtain ⟨g1, g2, g3, g4, g5, g6, g7, g8⟩ := hs
        refine ⟨g1, cell_kept g2 hg hr, cell_kept g3 hg hr, cell_kept g4 hg hr, (frozen_kept g4 hg hr).trans g5, fun i v hv => cell_kept (g6 i v hv) hg hr, fun i hi => ?_, Nat.le_trans g8 hg.size⟩
        obtain ⟨v, hv⟩ : ∃ v, (#[Value.int .i64 0, .int .i64 0, .string ⟨#[]⟩, .string ⟨#[]⟩, .string ⟨#[]⟩, .bool false, .slice none 0 0] : Array Value)[i]? = some v := ⟨_, Array.getElem?_eq_getElem (by simpa using hi)⟩
        exact (frozen_kept (g6 i v hv) hg hr).trans (g7 i hi)) _) (ownFrom_below (Nat.le_refl _) (by rw [hsz]; omega)))
      (fun c => OwnFrom.and (Own.from (fun s A B row hs hg hr => by obtain ⟨hc, ini, last, e1, e2, e3, e4, e5⟩ := hs; exact ⟨hc, ini, last, e1, e2, e3, cell_kept e4 hg hr, fun i v hv => cell_kept (e5 i v hv) hg hr⟩) _) (ownFrom_below (Nat.le_refl _) (by rw [hsz]; omega)))
      ⟨⟨by simp, cA, cD, cO, fO, cR, fun i _ => fR i, by rw [hsz]; exact Nat.le_refl _⟩, hB6⟩
      (fun x a' W => ∃ Bt, w.heap.size + 6 ≤ Bt ∧ a' = { tmps := #[.pointer (some ⟨bb, bo, none⟩), .agg #[.string ⟨p1.toArray⟩, .string ⟨p2.toArray⟩], .int .i64 at_, .bool dn, undef, .pointer (some ⟨w.heap.size, 0, none⟩), .pointer (some ⟨w.heap.size + 1, 0, none⟩), .pointer (some ⟨w.heap.size + 1 + 1, 0, none⟩), .pointer (some ⟨w.heap.size + 1 + 1 + 1, 0, none⟩), .pointer (some ⟨w.heap.size + 1 + 1 + 1 + 1, 0, none⟩), undef, .pointer (some ⟨Bt, 0, none⟩), .pointer (some ⟨bb, bo, none⟩), .pointer (some ⟨bb, bo, none⟩), .pointer (some ⟨bb, bo + 7, none⟩), mv, .agg #[.string ⟨p1.toArray⟩, .string ⟨p2.toArray⟩], .slice a len cap, .func (.func 173) #[] #[.pointer (some ⟨w.heap.size + 1 + 1 + 1 + 1 + 1, 0, none⟩)], .int .i64 (x.1 : Int), rwV x.2, undef, undef, undef, undef, undef, undef, undef, undef, undef, undef, undef, undef, undef, undef], defers := [] } ∧
        ∀ i v, (#[Value.int .i64 x.2.no, .int .i64 x.2.at_, .string ⟨x.2.pa.toArray⟩, .string ⟨x.2.pe.toArray⟩, .string ⟨x.2.by_.toArray⟩, .bool x.2.dn, .slice x.2.ad x.2.al x.2.ac] : Array Value)[i]? = some v → W.cell? ⟨Bt, i, none⟩ = some v)
      (fun x a' => Own.from (fun s A B row hs hg hr => by obtain ⟨Bt, e1, e2, e3⟩ := hs; exact ⟨Bt, e1, e2, fun i v hv => cell_kept (e3 i v hv) hg hr⟩) _)
      ?assign ?body ?done ?stop
    case assign =>
      intro l pre x W K hi hK
      obtain ⟨⟨hp, hcA, hcD, hcO, hfO, hcR, hfR, hWs⟩, hB⟩ := hi
      gi_wp2
      have hg := World.grownBy_alloc W (.cells #[.int .i64 x.2.no, .int .i64 x.2.at_, .string ⟨x.2.pa.toArray⟩, .string ⟨x.2.pe.toArray⟩, .string ⟨x.2.by_.toArray⟩, .bool x.2.dn, .slice x.2.ad x.2.al x.2.ac] 50) none
      have hnew := World.alloc_heap_new W (.cells #[.int .i64 x.2.no, .int .i64 x.2.at_, .string ⟨x.2.pa.toArray⟩, .string ⟨x.2.pe.toArray⟩, .string ⟨x.2.by_.toArray⟩, .bool x.2.dn, .slice x.2.ad x.2.al x.2.ac] 50)
      refine hK _ _ ((KeepsOthers.alloc W _).from _) ((Below.refl _ W).alloc (by omega) _) ⟨⟨hp, cell_kept hcA hg (fun r e => by cases e), cell_kept hcD hg (fun r e => by cases e), cell_kept hcO hg (fun r e => by cases e), (frozen_kept hcO hg (fun r e => by cases e)).trans hfO, fun i v hv => cell_kept (hcR i v hv) hg (fun r e => by cases e), fun i hi => ?_, Nat.le_trans hWs hg.size⟩, hB.alloc (by omega) _⟩ ⟨W.heap.size, hWs, rfl, fun i v hv => ?_⟩
      · obtain ⟨v, hv⟩ : ∃ v, (#[Value.int .i64 0, .int .i64 0, .string ⟨#[]⟩, .string ⟨#[]⟩, .string ⟨#[]⟩, .bool false, .slice none 0 0] : Array Value)[i]? = some v := ⟨_, Array.getElem?_eq_getElem (by simpa using hi)⟩
        exact (frozen_kept (hcR i v hv) hg (fun r e => by cases e)).trans (hfR i hi)
      · unfold World.cell?
        dsimp only
        rw [hnew]
        exact hv
    case body =>
      rintro l pre x a' W hlW hlr ⟨⟨hp, hcA, hcD, hcO, hfO, hcR, hfR, hWs⟩, hB⟩ ⟨Bt, hBt, rfl, e0⟩ hlen
      have e1 := e0 0 _ rfl
      have e2 := e0 1 _ rfl
      have e3 := e0 2 _ rfl
      have e4 := e0 3 _ rfl
      have e5 := e0 4 _ rfl
      have e6 := e0 5 _ rfl
      have e7 := e0 6 _ rfl
      have z1 := hcR 0 _ rfl
      have z2 := hcR 1 _ rfl
      have z3 := hcR 2 _ rfl
      have z4 := hcR 3 _ rfl
      have z5 := hcR 4 _ rfl
      have z6 := hcR 5 _ rfl
      have z7 := hcR 6 _ rfl
      have y1 := hfR 0 (by omega)
      have y2 := hfR 1 (by omega)
      have y3 := hfR 2 (by omega)
      have y4 := hfR 3 (by omega)
      have y5 := hfR 4 (by omega)
      have y6 := hfR 5 (by omega)
      have y7 := hfR 6 (by omega)
      gi_wp2
      all_goals first
        | (dsimp only [ownPostG]
           refine ⟨KeepsOthers.from ?_ _, ⟨rfl, pre, x, rfl, hp, ?_, ?_, ?_⟩, ?_⟩
           · iterate 7 refine KeepsOthers.trans ?_ (KeepsOthers.setCell _ _ _)
             exact KeepsOthers.setCell _ _ _
           · simp [hitR, *]
           · exact World.cell?_setCell_same' _ _ _ (by simp [World.cell?_setCell_other, hcO])
           · intro i v hv
             rcases i with _ | _ | _ | _ | _ | _ | _ | i
             all_goals (simp [*] at hv)
             all_goals subst hv
             all_goals simp [World.cell?_setCell_other, World.cell?_setCell_same', z1, z2, z3, z4, z5, z6, z7]
           · iterate 8 refine Below.setCell ?_ (by simp only; omega) _
             exact hB)
        | (have hx : hitR at_ dn x.2 = false := by
             unfold hitR
             first | (have := ‹at_ < x.2.at_›; simp; intro _; omega) | simp [*]
           exact ⟨KeepsFrom.refl _ _, Below.refl _ _, ⟨fun y hy => (List.mem_append.1 hy).elim (hp y) (fun e => by simp at e; subst e; exact hx), hcA, hcD, hcO, hfO, hcR, hfR, hWs⟩, hB⟩)
        | trace_state
    case done =>
      rintro D ys W hD rfl ⟨⟨hne, hcA, hcD, hcO, hfO, hcR, hfR, hWs⟩, hB⟩ hK
      have z1 := hcR 0 _ rfl
      have z2 := hcR 1 _ rfl
      have z3 := hcR 2 _ rfl
      have z4 := hcR 3 _ rfl
      have z5 := hcR 4 _ rfl
      have z6 := hcR 5 _ rfl
      have z7 := hcR 6 _ rfl
      have y1 := hfR 0 (by omega)
      have y2 := hfR 1 (by omega)
      have y3 := hfR 2 (by omega)
      have y4 := hfR 3 (by omega)
      have y5 := hfR 4 (by omega)
      have y6 := hfR 5 (by omega)
      have y7 := hfR 6 (by omega)
      gi_wp2
      obtain ⟨k1, k2⟩ := st8_cells hcR rfl hcO (.int .i64 0) (.int .i64 0) (.string ⟨#[]⟩) (.string ⟨#[]⟩) (.string ⟨#[]⟩) (.bool false) (.slice none 0 0) (.bool false)
      have hK' := (st8_keeps W (w.heap.size + 1 + 1 + 1) (.int .i64 0) (.int .i64 0) (.string ⟨#[]⟩) (.string ⟨#[]⟩) (.string ⟨#[]⟩) (.bool false) (.slice none 0 0) (.bool false)).same D _ hK rfl
      have hB' := st8_below hB (r := w.heap.size + 1 + 1 + 1) (by omega) (.int .i64 0) (.int .i64 0) (.string ⟨#[]⟩) (.string ⟨#[]⟩) (.string ⟨#[]⟩) (.bool false) (.slice none 0 0) (.bool false)
      change bodyPostM F n _ _ _ _ _ (st8 W (w.heap.size + 1 + 1 + 1) (.int .i64 0) (.int .i64 0) (.string ⟨#[]⟩) (.string ⟨#[]⟩) (.string ⟨#[]⟩) (.bool false) (.slice none 0 0) (.bool false))
      generalize st8 W (w.heap.size + 1 + 1 + 1) (.int .i64 0) (.int .i64 0) (.string ⟨#[]⟩) (.string ⟨#[]⟩) (.string ⟨#[]⟩) (.bool false) (.slice none 0 0) (.bool false) = W8 at *
      refine ⟨by simp, .inl ⟨_, _, rfl, run_takeDeferred hK', ?_⟩⟩
      have r8 := cell_kept k2 (grownBy_putObj' _ D (.deferred none)) (fun r e => by cases e; exact ⟨_, hK', rfl⟩)
      have r0 := cell_kept (k1 0 _ rfl) (grownBy_putObj' _ D (.deferred none)) (fun r e => by cases e; exact ⟨_, hK', rfl⟩)
      have r1 := cell_kept (k1 1 _ rfl) (grownBy_putObj' _ D (.deferred none)) (fun r e => by cases e; exact ⟨_, hK', rfl⟩)
      have r2 := cell_kept (k1 2 _ rfl) (grownBy_putObj' _ D (.deferred none)) (fun r e => by cases e; exact ⟨_, hK', rfl⟩)
      have r3 := cell_kept (k1 3 _ rfl) (grownBy_putObj' _ D (.deferred none)) (fun r e => by cases e; exact ⟨_, hK', rfl⟩)
      have r4 := cell_kept (k1 4 _ rfl) (grownBy_putObj' _ D (.deferred none)) (fun r e => by cases e; exact ⟨_, hK', rfl⟩)
      have r5 := cell_kept (k1 5 _ rfl) (grownBy_putObj' _ D (.deferred none)) (fun r e => by cases e; exact ⟨_, hK', rfl⟩)
      have r6 := cell_kept (k1 6 _ rfl) (grownBy_putObj' _ D (.deferred none)) (fun r e => by cases e; exact ⟨_, hK', rfl⟩)
      refine ⟨.tuple #[rwV Rw.z, .bool false], ?_, hB'.trans (belowK_b (w := w) (Nat.le_refl _) W8 D _ _ (by rw [hsz] at hD; omega) hK' rfl rfl), .inl ⟨rfl, hne⟩⟩
      simp [results, Tryz.f67, go_sem, r8, r0, r1, r2, r3, r4, r5, r6, Rw.z]
    case stop =>
      rintro D c pre W hD ⟨k, hk, rfl⟩ ⟨⟨rfl, ini, last, e1, e2, e3, hcO, hcR⟩, hB⟩ hK
      gi_wp2
      refine ⟨by simp, .inl ⟨_, _, rfl, run_takeDeferred hK, ?_⟩⟩
      have r8 := cell_kept hcO (grownBy_putObj' _ D (.deferred none)) (fun r e => by cases e; exact ⟨_, hK, rfl⟩)
      have r0 := cell_kept (hcR 0 _ rfl) (grownBy_putObj' _ D (.deferred none)) (fun r e => by cases e; exact ⟨_, hK, rfl⟩)
      have r1 := cell_kept (hcR 1 _ rfl) (grownBy_putObj' _ D (.deferred none)) (fun r e => by cases e; exact ⟨_, hK, rfl⟩)
      have r2 := cell_kept (hcR 2 _ rfl) (grownBy_putObj' _ D (.deferred none)) (fun r e => by cases e; exact ⟨_, hK, rfl⟩)
      have r3 := cell_kept (hcR 3 _ rfl) (grownBy_putObj' _ D (.deferred none)) (fun r e => by cases e; exact ⟨_, hK, rfl⟩)
      have r4 := cell_kept (hcR 4 _ rfl) (grownBy_putObj' _ D (.deferred none)) (fun r e => by cases e; exact ⟨_, hK, rfl⟩)
      have r5 := cell_kept (hcR 5 _ rfl) (grownBy_putObj' _ D (.deferred none)) (fun r e => by cases e; exact ⟨_, hK, rfl⟩)
      have r6 := cell_kept (hcR 6 _ rfl) (grownBy_putObj' _ D (.deferred none)) (fun r e => by cases e; exact ⟨_, hK, rfl⟩)
      refine ⟨.tuple #[rwV last.2, .bool true], ?_, hB.trans (belowK_b (w := w) (Nat.le_refl _) W D _ _ (by rw [hsz] at hD; omega) hK rfl rfl), .inr ⟨k, ini, last, hk, e1, e2, e3, rfl⟩⟩
      simp [results, Tryz.f67, go_sem, r8, r0, r1, r2, r3, r4, r5, r6]
end Go.AX

namespace Go.AX
open Go Go.Proofs Go.RowKit Go.Shelf
/-- A review: number, moment, paper, person, by, done, answers. -/
abbrev Rv := Int × Int × Str × Str × Str × Bool × List An
abbrev rvD (r : Rv) : D := .agg [.int .i64 r.1, .int .i64 r.2.1, .str r.2.2.1, .str r.2.2.2.1, .str r.2.2.2.2.1, .bool r.2.2.2.2.2.1, .sl (r.2.2.2.2.2.2.map anD)]
def zRv : Rv := (0, 0, [], [], [], false, [])
/-- A review as it lies is this review. -/
structure RwR (w : World) (ok : Nat → Prop) (r : Rv) (t : Rw) : Prop where
 no : t.no = r.1
 at_ : t.at_ = r.2.1
 pa : t.pa = r.2.2.1
 pe : t.pe = r.2.2.2.1
 by_ : t.by_ = r.2.2.2.2.1
 dn : t.dn = r.2.2.2.2.2.1
 an : RD w ok (.sl (r.2.2.2.2.2.2.map anD)) (.slice t.ad t.al t.ac)
theorem list_choose {α : Type} {P : Nat → α → Prop} : ∀ n : Nat, (∀ j, j < n → ∃ t, P j t) → ∃ ts : List α, ts.length = n ∧ ∀ (j : Nat) (t : α), ts[j]? = some t → P j t
 | 0, _ => ⟨[], rfl, by simp⟩
 | n + 1, h => by
  obtain ⟨ts, h1, h2⟩ := list_choose n fun j hj => h j (by omega)
  obtain ⟨t, ht⟩ := h n (by omega)
  refine ⟨ts ++ [t], by simp [h1], fun j u hu => ?_⟩
  rcases Nat.lt_or_ge j ts.length with hj | hj
  ·rw [List.getElem?_append_left hj] at hu
   exact h2 j u hu
  ·rw [List.getElem?_append_right hj] at hu
   have : j - ts.length = 0 := by
    rcases Nat.eq_zero_or_pos (j - ts.length) with e | e
    ·exact e
    ·rw [List.getElem?_eq_none (by simp; omega)] at hu; cases hu
   rw [this] at hu
   simp at hu
   subst hu
   obtain rfl : j = n := by omega
   exact ht
theorem rwSl_of {w : World} {ok : Nat → Prop} (hok : ∀ b, ok b → b < w.heap.size) {rs : List Rv} {sv : Value} (h : RD w ok (.sl (rs.map rvD)) sv) :
  ∃ (a : Option Addr) (cap : Nat) (ts : List Rw), sv = .slice a ts.length cap ∧ ts.length = rs.length ∧ RwSl w.heap.size w sv ts ∧ ∀ (j : Nat) (t : Rw), ts[j]? = some t → ∃ r, rs[j]? = some r ∧ RwR w ok r t := by
 simp only [RD] at h
 obtain ⟨a, n, cap, rfl, hn, hcap, hx⟩ := h
 simp only [List.length_map] at hn
 subst hn
 rcases hx with hx | ⟨b, off, c, e, fr, s, rfl, hb, hh, hr⟩
 ·have : rs = [] := by simpa using hx
  subst this
  exact ⟨a, cap, [], rfl, rfl, .inl ⟨a, cap, rfl, rfl⟩, by simp⟩
 ·obtain ⟨ts, h1, h2⟩ := list_choose (P := fun j t => (∃ r, rs[j]? = some r ∧ RwR w ok r t) ∧ w.cell? ⟨b, off + j * 7, none⟩ = some (.int .i64 t.no) ∧ w.cell? ⟨b, off + j * 7 + 1, none⟩ = some (.int .i64 t.at_) ∧ w.cell? ⟨b, off + j * 7 + 2, none⟩ = some (.string ⟨t.pa.toArray⟩) ∧ w.cell? ⟨b, off + j * 7 + 3, none⟩ = some (.string ⟨t.pe.toArray⟩) ∧ w.cell? ⟨b, off + j * 7 + 4, none⟩ = some (.string ⟨t.by_.toArray⟩) ∧ w.cell? ⟨b, off + j * 7 + 5, none⟩ = some (.bool t.dn) ∧ w.cell? ⟨b, off + j * 7 + 6, none⟩ = some (.slice t.ad t.al t.ac)) rs.length fun j hj => by
   obtain ⟨r, hrj, -, -⟩ := get_some hj
   obtain ⟨v, hv, hrd⟩ := RDels_get hr (i := j) (x := rvD r) (by simp [hrj])
   simp only [RD] at hrd
   obtain ⟨cs, rfl, hcs, hcc⟩ := hrd
   simp only [ElemAt] at hv
   obtain ⟨rfl, hv⟩ := hv
   simp only [List.length_cons, List.length_nil, Nat.zero_add, Nat.reduceAdd] at hcs
   rw [hcs] at hv
   simp only [RDcs] at hcc
   obtain ⟨⟨v0, e0, q0⟩, ⟨v1, e1, q1⟩, ⟨v2, e2, q2⟩, ⟨v3, e3, q3⟩, ⟨v4, e4, q4⟩, ⟨v5, e5, q5⟩, ⟨v6, e6, q6⟩, -⟩ := hcc
   have q6' := q6
   simp only [RD] at q0 q1 q2 q3 q4 q5 q6'
   subst q0 q1 q2 q3 q4 q5
   obtain ⟨a6, n6, c6, rfl, -, -, -⟩ := q6'
   have g0 := hv 0 (by omega)
   have g1 := hv 1 (by omega)
   have g2 := hv 2 (by omega)
   have g3 := hv 3 (by omega)
   have g4 := hv 4 (by omega)
   have g5 := hv 5 (by omega)
   have g6 := hv 6 (by omega)
   simp only [Nat.zero_add, Nat.reduceAdd] at e0 e1 e2 e3 e4 e5 e6
   rw [e0] at g0
   rw [e1] at g1
   rw [e2] at g2
   rw [e3] at g3
   rw [e4] at g4
   rw [e5] at g5
   rw [e6] at g6
   refine ⟨⟨r.1, r.2.1, r.2.2.1, r.2.2.2.1, r.2.2.2.2.1, r.2.2.2.2.2.1, a6, n6, c6⟩, ⟨r, hrj, ⟨rfl, rfl, rfl, rfl, rfl, rfl, q6⟩⟩, ?_⟩
   simp only [World.cell?, hh]
   exact ⟨g0, g1, g2, g3, g4, g5, g6⟩
  refine ⟨some ⟨b, off, none⟩, cap, ts, by rw [h1], h1, .inr ⟨b, off, cap, by rw [h1], hok b hb, fun j t ht => (h2 j t ht).2⟩, fun j t ht => (h2 j t ht).1⟩
/-- Which review is meant. -/
def hitD (at_ : Int) (dn : Bool) (r : Rv) : Bool := decide (r.2.1 ≤ at_) && (r.2.2.2.2.2.1 || !dn)
theorem find_rev {α : Type} {q : α → Bool} {rs : List α} {m : Nat} {r : α} (h : rs[m]? = some r) (hq : q r = true) (hn : ∀ (j : Nat) (x : α), m < j → rs[j]? = some x → q x = false) : rs.reverse.find? q = some r := by
 have hm : m < rs.length := (List.getElem?_eq_some_iff.1 h).1
 have e : rs = rs.take m ++ r :: rs.drop (m + 1) := by
  rw [List.getElem?_eq_getElem hm] at h
  cases h
  rw [← List.drop_eq_getElem_cons hm, List.take_append_drop]
 rw [e, List.reverse_append, List.reverse_cons, List.append_assoc, List.find?_append]
 have h0 : (rs.drop (m + 1)).reverse.find? q = none := by
  rw [List.find?_eq_none]
  intro x hx
  obtain ⟨j, hj⟩ := List.mem_iff_getElem?.1 (List.mem_reverse.1 hx)
  rw [List.getElem?_drop] at hj
  simp [hn (m + 1 + j) x (by omega) hj]
 rw [h0]
 simp [hq]
theorem upR_get (ts : List Rw) {k i : Nat} (h : i < k) : (upR ts k)[i]? = some (ts.length - 1 - i, ts.getD (ts.length - 1 - i) Rw.z) := by
 simp [upR, List.getElem?_range h]
/-- The last review that is meant. -/
def lastF (rs : List Rv) (at_ : Int) (dn : Bool) : Option Rv := rs.reverse.find? (hitD at_ dn)
theorem RwR.hit {w : World} {ok : Nat → Prop} {r : Rv} {t : Rw} (h : RwR w ok r t) (at_ : Int) (dn : Bool) : hitR at_ dn t = hitD at_ dn r := by
 unfold hitR hitD
 rw [h.at_, h.dn]
theorem last_none {w : World} {ok : Nat → Prop} {rs : List Rv} {ts : List Rw} (hl : ts.length = rs.length) (hts : ∀ (j : Nat) (t : Rw), ts[j]? = some t → ∃ r, rs[j]? = some r ∧ RwR w ok r t) {at_ : Int} {dn : Bool}
  (h : ∀ x ∈ upR ts ts.length, hitR at_ dn x.2 = false) : lastF rs at_ dn = none := by
 unfold lastF
 rw [List.find?_eq_none]
 intro r hr
 obtain ⟨j, hj⟩ := List.mem_iff_getElem?.1 (List.mem_reverse.1 hr)
 have hjl : j < rs.length := (List.getElem?_eq_some_iff.1 hj).1
 obtain ⟨t, ht, -, -⟩ := get_some (l := ts) (i := j) (by omega)
 obtain ⟨r', hr', hR⟩ := hts j t ht
 rw [hj] at hr'
 cases hr'
 have hm : (upR ts ts.length)[ts.length - 1 - j]? = some (j, t) := by
  rw [upR_get ts (by omega), show ts.length - 1 - (ts.length - 1 - j) = j by omega]
  simp [List.getD_eq_getElem?_getD, ht]
 have := h _ (List.mem_of_getElem? hm)
 rw [hR.hit] at this
 simp [this]
theorem last_some {w : World} {ok : Nat → Prop} {rs : List Rv} {ts : List Rw} (hl : ts.length = rs.length) (hts : ∀ (j : Nat) (t : Rw), ts[j]? = some t → ∃ r, rs[j]? = some r ∧ RwR w ok r t) {at_ : Int} {dn : Bool}
  {k : Nat} {ini : List (Nat × Rw)} {last : Nat × Rw} (hk : k ≤ ts.length) (h : upR ts k = ini ++ [last]) (h1 : ∀ x ∈ ini, hitR at_ dn x.2 = false) (h2 : hitR at_ dn last.2 = true) : ∃ r, lastF rs at_ dn = some r ∧ RwR w ok r last.2 := by
 have hkl : k = ini.length + 1 := by
  have := congrArg List.length h
  simpa [upR_length] using this
 have hlast : (upR ts k)[k - 1]? = some last := by rw [h, hkl]; simp
 rw [upR_get ts (by omega)] at hlast
 obtain ⟨t, ht, -, -⟩ := get_some (l := ts) (i := ts.length - 1 - (k - 1)) (by omega)
 obtain ⟨r, hr, hR⟩ := hts _ t ht
 have e : last.2 = t := by
  cases hlast
  simp [List.getD_eq_getElem?_getD, ht]
 rw [e] at h2 ⊢
 refine ⟨r, find_rev hr (by rw [← hR.hit]; exact h2) fun j x hj hx => ?_, hR⟩
 have hjl : j < rs.length := (List.getElem?_eq_some_iff.1 hx).1
 obtain ⟨u, hu, -, -⟩ := get_some (l := ts) (i := j) (by omega)
 obtain ⟨r', hr', hR'⟩ := hts j u hu
 rw [hx] at hr'
 cases hr'
 have hm : (upR ts k)[ts.length - 1 - j]? = some (j, u) := by
  rw [upR_get ts (by omega), show ts.length - 1 - (ts.length - 1 - j) = j by omega]
  simp [List.getD_eq_getElem?_getD, hu]
 have hi : (j, u) ∈ ini := by
  rw [h, List.getElem?_append_left (by omega)] at hm
  exact List.mem_of_getElem? hm
 rw [← hR'.hit]
 exact h1 _ hi
/-- The book of reviews: the setup, and the reviews of each pair. -/
abbrev bkC (sd : List D) (gs : List (Pr × List Rv)) : List D := sd ++ [.map (gs.map fun g => prD g.1) (gs.map fun g => .sl (g.2.map rvD))]
theorem fnd_pr (k : Pr) : ∀ ks : List Pr, fndK (prD k) (ks.map prD) = some (ks.findIdx? fun x => decide (k = x))
 | [] => rfl
 | x :: r => by
  have ih := fnd_pr k r
  simp only [List.map_cons, fndK, sameK, sameL, sameP, ih, List.findIdx?_cons, Bool.and_true, ← pr_beq]
  cases h : (k.1 == x.1 && k.2 == x.2)
  ·cases List.findIdx? (fun x => k.1 == x.1 && k.2 == x.2) r <;> simp
  ·simp
theorem rowG_idx {gs : List (Pr × List Rv)} {p : Pr} : match (gs.map (·.1)).findIdx? fun x => decide (p = x) with
  | none => rowG gs p = []
  | some j => ∃ g, gs[j]? = some g ∧ rowG gs p = g.2 := by
 induction gs with
 | nil => simp [rowG]
 | cons g r ih =>
  rw [List.map_cons, List.findIdx?_cons]
  by_cases h : p = g.1
  ·subst h
   simp [rowG]
  ·have h2 : ¬ g.1 = p := fun e => h e.symm
   simp only [h, decide_false, Bool.false_eq_true, if_false]
   cases hi : (r.map (·.1)).findIdx? fun x => decide (p = x) with
   | none =>
    rw [hi] at ih
    simpa [rowG, h2] using ih
   | some j =>
    rw [hi] at ih
    obtain ⟨g', h3, h4⟩ := ih
    simp only [Option.map_some]
    exact ⟨g', by simpa using h3, by simpa [rowG, h2] using h4⟩
theorem RwR.rd {w : World} {ok : Nat → Prop} {r : Rv} {t : Rw} (h : RwR w ok r t) : RD w ok (rvD r) (rwV t) := by
 simp only [RD]
 refine ⟨_, rfl, rfl, ?_⟩
 simp only [RDcs]
 exact ⟨⟨_, rfl, by simp [RD, h.no]⟩, ⟨_, rfl, by simp [RD, h.at_]⟩, ⟨_, rfl, by simp [RD, h.pa]⟩, ⟨_, rfl, by simp [RD, h.pe]⟩, ⟨_, rfl, by simp [RD, h.by_]⟩, ⟨_, rfl, by simp [RD, h.dn]⟩, ⟨_, rfl, h.an⟩, trivial⟩
theorem rd_nil (w : World) (ok : Nat → Prop) : RD w ok (.sl []) (.slice none 0 0) := by
 simp only [RD]
 exact ⟨none, 0, 0, rfl, rfl, Nat.le_refl _, .inl trivial⟩
theorem RwR.z (w : World) (ok : Nat → Prop) : RwR w ok zRv Rw.z := ⟨rfl, rfl, rfl, rfl, rfl, rfl, rd_nil w ok⟩
theorem rv_two {w : World} {ok : Nat → Prop} {x y : D} {a b : Value} (h1 : RD w ok x a) (h2 : RD w ok y b) : RV w ok (fun _ => none) (.tup [.d x, .d y]) (.tuple #[a, b]) := by
 simp only [RV]
 refine ⟨_, rfl, ?_⟩
 simp only [RVl, RV]
 exact ⟨_, _, rfl, h1, _, _, rfl, h2, rfl⟩
theorem last_any (sd : List D) (hsd : sd.length = 7) (gs : List (Pr × List Rv)) (hl : ∀ g ∈ gs, g.2.length ≤ 1000000) (p : Pr) (at_ : Int) (dn : Bool) :
  Does Tryz.prog 67 [.d (.ptr (bkC sd gs) 0), .d (prD p), I at_, B dn] [] (.tup [.d (rvD ((lastF (rowG gs p) at_ dn).getD zRv)), B (lastF (rowG gs p) at_ dn).isSome]) [] := by
 refine Does.of_below ⟨Tryz.f67, Tryz.func67, rfl, by kernel_rfl⟩ fun w ok vs hg hok hargs => ?_
 simp only [RVl, RV] at hargs
 obtain ⟨v1, r1, e1, h1, v2, r2, e2, h2, v3, r3, e3, h3, v4, r4, e4, h4, rfl⟩ := hargs
 subst e4 e3 e2
 have hk2 := h2
 simp only [RD] at h1 h2 h3 h4
 subst h3 h4
 obtain ⟨kc, rfl, hks, hkc⟩ := h2
 simp only [RDcs, RD] at hkc
 obtain ⟨⟨k0, q0, rfl⟩, ⟨k1, q1, rfl⟩, -⟩ := hkc
 have ekc : kc = #[.string ⟨p.1.toArray⟩, .string ⟨p.2.toArray⟩] := by
  obtain ⟨kl⟩ := kc
  match kl, hks with
  | [a, b], _ =>
   simp at q0 q1
   subst q0 q1
   rfl
 subst ekc
 obtain ⟨bb, bo, c, e, fr, rfl, hokb, hh, hcc⟩ := h1
 obtain ⟨mv, hmv, hrm⟩ := RDcs_get hcc (i := 7) (x := .map (gs.map fun g => prD g.1) (gs.map fun g => .sl (g.2.map rvD))) (by rw [List.getElem?_append_right (by omega), hsd]; rfl)
 have hcell : w.cell? ⟨bb, bo + 7, none⟩ = some mv := by simp [World.cell?, hh, hmv]
 have hkey : fndK (prD p) (gs.map fun g => prD g.1) = some ((gs.map (·.1)).findIdx? fun x => decide (p = x)) := by
  rw [← fnd_pr, List.map_map]
  rfl
 obtain ⟨v, hrun, hv⟩ := lookup_run (P := Tryz.prog) (t := 188) (kt := 60) (et := 39) (s := 1) (b := 8) (z0 := .d (.map [] [])) (by kernel_rfl) rfl rfl hrm hk2 (by kernel_rfl) hkey
 have hro : RD w ok (.sl ((rowG gs p).map rvD)) v := by
  have hg := rowG_idx (gs := gs) (p := p)
  rcases hv with ⟨j, x, ej, hx, hrx⟩ | ⟨ej, hz⟩
  ·rw [ej] at hg
   obtain ⟨g, h5, h6⟩ := hg
   rw [h6]
   rw [List.getElem?_map, h5] at hx
   cases hx
   exact hrx
  ·rw [ej] at hg
   rw [show rowG gs p = [] from hg]
   have hc : RV w ok (fun _ => none) (constV v) v := RV_constV v
   rw [hz] at hc
   change RV w ok (fun _ => none) .nils v at hc
   simp only [RV] at hc
   subst hc
   exact rd_nil w ok
 obtain ⟨a, cap, ts, rfl, hlen, hsl, hts⟩ := rwSl_of hok hro
 obtain rfl : vs = #[.pointer (some ⟨bb, bo, none⟩), .agg #[.string ⟨p.1.toArray⟩, .string ⟨p.2.toArray⟩], .int .i64 at_, .bool dn] := by cases vs; simp_all
 have hlr : (rowG gs p).length ≤ 1000000 := by
  have hg := rowG_idx (gs := gs) (p := p)
  cases hi : (gs.map (·.1)).findIdx? fun x => decide (p = x) with
  | none =>
   rw [hi] at hg
   rw [show rowG gs p = [] from hg]
   simp
  | some j =>
   rw [hi] at hg
   obtain ⟨g, h5, h6⟩ := hg
   rw [h6]
   exact hl g (List.mem_of_getElem? h5)
 refine (callsIn_wide (n := 5)).1 ((last_in Fence.wide 5 trivial trivial trivial rfl (by omega) bb bo mv a _ cap ts (by omega) p.1 p.2 at_ dn w (hok bb hokb) hcell (fun W hW => hrun W fun b hb => hW.block b (hok b hb)) hsl).mono ?_)
 rintro e w' ⟨hb, ⟨rfl, hn⟩ | ⟨k, ini, la, hk, h5, h6, h7, rfl⟩⟩
 ·rw [last_none hlen hts hn]
  exact ⟨_, rfl, hb, rv_two (RwR.z _ _).rd (by simp [RD])⟩
 ·obtain ⟨r, hr, hR⟩ := last_some hlen hts hk h5 h6 h7
  rw [hr]
  exact ⟨_, rfl, hb, rv_two (RD_mono (fun b hb' => ⟨.inl hb', hb.block b (hok b hb')⟩) _ _ hR.rd) (by simp [RD])⟩
end Go.AX
