/- AX, part 43: slices.SortFunc at every length (the kit's shelf). -/
import Derived.Test.YtlejkdigdkeocaaGreatDoorAx40
import Derived.Test.YtlejkdigdkeocaaGreatDoorAx38
import Derived.Shelf.SlSortCmp.NoneTotal
set_option linter.unusedSimpArgs false
set_option linter.unusedVariables false
set_option linter.unusedSectionVars false
namespace Go.AX
open Go Go.Proofs Go.Shelf Go.RowKit
open Go.Sort (grow)
/-- Flat data as values. -/
def D.val : D → Value
  | .bool b => .bool b
  | .int k n => .int k n
  | .str s => .string ⟨s.toArray⟩
  | _ => .nilIface
def D.fl1 : D → Bool
  | .bool _ => true
  | .int _ _ => true
  | .str _ => true
  | _ => false
theorem RD_val {w : World} {ok : Nat → Prop} {x : D} (h : x.fl1 = true) {v : Value} : RD w ok x v ↔ v = x.val := by
  cases x <;> simp [D.fl1] at h <;> simp [RD, D.val]
theorem val_one {x : D} (h : x.fl1 = true) : x.val.oneCell' = true := by
  cases x <;> simp [D.fl1] at h <;> rfl
theorem RDcs_fl1 {w : World} {ok : Nat → Prop} {c : Array Value} : ∀ {xs : List D} {p : Nat}, xs.all D.fl1 = true → (RDcs w ok c p xs ↔ ∀ i x, xs[i]? = some x → c[p + i]? = some x.val)
  | [], p, _ => by simp [RDcs]
  | y :: ys, p, h => by
    simp only [List.all_cons, Bool.and_eq_true] at h
    simp only [RDcs, RDcs_fl1 (xs := ys) h.2, RD_val h.1]
    constructor
    · rintro ⟨⟨v, h1, rfl⟩, h2⟩ i x hx
      cases i with
      | zero => simp at hx; subst hx; simpa using h1
      | succ i =>
        have := h2 i x (by simpa using hx)
        rw [show p + 1 + i = p + (i + 1) by omega] at this
        exact this
    · intro h1
      refine ⟨⟨_, by simpa using h1 0 y rfl, rfl⟩, fun i x hx => ?_⟩
      have := h1 (i + 1) x (by simpa using hx)
      rw [show p + (i + 1) = p + 1 + i by omega] at this
      exact this
theorem RD_aggF {w : World} {ok : Nat → Prop} {xs : List D} (h : xs.all D.fl1 = true) {v : Value} : RD w ok (.agg xs) v ↔ v = .agg (xs.map D.val).toArray := by
  simp only [RD, RDcs_fl1 h, Nat.zero_add]
  constructor
  · rintro ⟨c, rfl, h1, h2⟩
    congr 1
    apply Array.ext_getElem?
    intro i
    simp only [List.getElem?_toArray, List.getElem?_map]
    cases hx : xs[i]? with
    | none =>
      have : xs.length ≤ i := List.getElem?_eq_none_iff.1 hx
      rw [Array.getElem?_eq_none (by omega)]; rfl
    | some x => rw [h2 i x hx]; rfl
  · rintro rfl
    exact ⟨_, rfl, by simp, fun i x hx => by simp [hx]⟩
theorem world_grow {w w' : World} (h1 : w'.os = w.os) (h2 : w'.tape = w.tape) (h3 : w'.output = w.output) (h4 : w.heap.size ≤ w'.heap.size) (h5 : ∀ b, b < w.heap.size → w'.heap[b]? = w.heap[b]?) (h6 : w.drawn ≤ w'.drawn) :
    ∃ q os, w' = grow (w.drewN q) os := by
  refine ⟨w'.drawn - w.drawn, w'.heap.extract w.heap.size w'.heap.size, ?_⟩
  obtain ⟨heap, tape, drawn, os, output⟩ := w
  obtain ⟨heap', tape', drawn', os', output'⟩ := w'
  simp only at h1 h2 h3 h4 h5 h6
  subst h1 h2 h3
  have e1 : heap' = heap ++ heap'.extract heap.size heap'.size := by
    apply Array.ext_getElem?
    intro i
    rw [Array.getElem?_append]
    split
    · rename_i hi; exact h5 i hi
    · rename_i hi
      rw [Array.getElem?_extract]
      by_cases hi2 : i < heap'.size
      · rw [if_pos (by omega)]
        congr 1
        omega
      · rw [Array.getElem?_eq_none (by omega), if_neg (by omega)]
  have e2 : drawn' = drawn + (drawn' - drawn) := by omega
  simp only [grow, World.drewN, World.mk.injEq, and_true, true_and]
  exact ⟨e1, e2⟩
theorem RVl_dd {w : World} {ok : Nat → Prop} {σ τ : Nat → Option Loc} : ∀ {xs : List D} {vs : List Value}, RVl w ok σ (xs.map V.d) vs → RVl w ok τ (xs.map V.d) vs
  | [], _, h => h
  | x :: xs, vs, h => by
    simp only [List.map_cons, RVl, RV] at h ⊢
    obtain ⟨u, us, e, h1, h2⟩ := h
    exact ⟨u, us, e, h1, RVl_dd h2⟩
section
variable {P : Program} {α : Type} [Inhabited α]
theorem heap_sortWorldK (enc : α → List Value) (k : Nat) (w : World) (blk off m : Nat) (dk : Array α) (os : Array Obj) {b : Nat} (hb : b < w.heap.size) (hne : b ≠ blk) : (sortWorldK enc k w blk off m dk os).heap[b]? = w.heap[b]? := by
  show ((w.heap.modify blk _) ++ os)[b]? = _
  rw [Array.getElem?_append, if_pos (by simpa using hb), Array.getElem?_modify, if_neg (Ne.symm hne)]
theorem heap_sortWorldK_size (enc : α → List Value) (k : Nat) (w : World) (blk off m : Nat) (dk : Array α) (os : Array Obj) : w.heap.size ≤ (sortWorldK enc k w blk off m dk os).heap.size := by
  show _ ≤ ((w.heap.modify blk _) ++ os).size
  simp
theorem heap_sortWorldK_at (enc : α → List Value) (k : Nat) (w : World) (blk off m : Nat) (dk : Array α) (os : Array Obj) {c : Array Value} {e : TypeId} {fr : Nat × Nat} (h : w.heap[blk]? = some (.cells c e fr)) : (sortWorldK enc k w blk off m dk os).heap[blk]? = some (.cells (Sort.putCells id off (Sort.flatK enc k dk) c) e fr) := by
  have hb : blk < w.heap.size := (Array.getElem?_eq_some_iff.1 h).1
  show ((w.heap.modify blk _) ++ os)[blk]? = _
  rw [Array.getElem?_append, if_pos (by simpa using hb), Array.getElem?_modify, if_pos rfl, h]
  rfl
theorem cmp_lays {c : FuncId} {fl : α → List D} {k : Nat} (hfl : ∀ x, (fl x).length = k ∧ (fl x).all D.fl1 = true) {cf : α → α → Int} {caps : List D}
    (hc : ∀ x y, Does P c (.d (.agg (fl x)) :: .d (.agg (fl y)) :: caps.map V.d) [] (.d (.int .i64 (cf x y))) []) {w : World} {blk off size : Nat} {ok : Nat → Prop} {cb : Array Value}
    (hgl : GlW P w) (hgb : ∀ g q, gloT P g = some q → g ≠ blk) (hok : ∀ b, ok b → b < w.heap.size ∧ b ≠ blk) (hcb : RVl w ok (fun _ => none) (caps.map V.d) cb.toList) :
    CmpLays P c cb (fun x => (fl x).map D.val) k cf blk off size w := by
  intro m os dk hdk x y
  obtain ⟨w1, hw1⟩ : ∃ w1, w1 = sortWorldK (fun x => (fl x).map D.val) k w blk off m dk os := ⟨_, rfl⟩
  have hheap : ∀ b, b < w.heap.size → b ≠ blk → w1.heap[b]? = w.heap[b]? := fun b h1 h2 => by rw [hw1]; exact heap_sortWorldK _ k w blk off m dk os h1 h2
  have hsize : w.heap.size ≤ w1.heap.size := by rw [hw1]; exact heap_sortWorldK_size _ k w blk off m dk os
  rw [← hw1]
  have h := (hc x y).2 ⟨w1, fun _ => False, fun b => b < w1.heap.size, fun _ => none⟩ (fun _ => none) w1 (#[.agg ((fl x).map D.val).toArray, .agg ((fl y).map D.val).toArray] ++ cb) ?_ ?_ (fun _ _ => rfl) (fun _ _ h => by cases h) (fun _ _ h => by cases h) (fun _ h => h.elim) ?_
  · refine (Calls.up h ?_).mono ?_
    · rintro e w' ⟨v, rfl, -⟩; simp
    · rintro e w' ⟨⟨v, rfl, σ', hr, -, -, hv⟩, hd⟩
      simp only [RV, RD] at hv
      subst hv
      exact ⟨rfl, world_grow hr.os hr.tape hr.output hr.size (fun b hb => hr.frame b hb (fun h => h)) hd⟩
  · intro g q hg
    obtain ⟨cc, e, fr, h1, h2⟩ := hgl g q hg
    have hlt : g < w.heap.size := (Array.getElem?_eq_some_iff.1 h1).1
    exact ⟨fun h => h, Nat.lt_of_lt_of_le hlt hsize, cc, e, fr, (hheap g hlt (hgb g q hg)).trans h1, h2⟩
  · exact ⟨rfl, rfl, rfl, Nat.le_refl _, fun _ _ _ => rfl, fun i o h => by simp at h, fun i o b K s h => by simp at h, fun i j o o' b K s K' s' h => by simp at h⟩
  · simp only [Array.toList_append, List.cons_append, List.nil_append, RVl, RV]
    refine ⟨_, _, rfl, (RD_aggF (hfl x).2).2 rfl, _, _, rfl, (RD_aggF (hfl y).2).2 rfl, ?_⟩
    refine RVl_mono (fun b hb => ?_) (fun _ _ h => h) _ _ hcb
    obtain ⟨h1, h2⟩ := hok b hb
    exact ⟨⟨.inl (Nat.lt_of_lt_of_le h1 hsize), Nat.lt_of_lt_of_le h1 hsize, fun i o K s h => by simp at h⟩, hheap b h1 h2⟩
theorem enc_at {fl : α → List D} {k : Nat} (hk : ∀ x, (fl x).length = k) {w : World} {ok : Nat → Prop} {σ : Nat → Option Loc} {c : Array Value} {xs : List α} (hfl : ∀ x, (fl x).all D.fl1 = true)
    (h : RVels w ok σ c k 0 (dv (xs.map fun x => D.agg (fl x)))) {i q : Nat} {x : α} (hx : xs[i]? = some x) (hq : q < k) : c[i * k + q]? = some (((fl x).map D.val)[q]!) := by
  have hx2 : (dv (xs.map fun x => D.agg (fl x)))[i]? = some (.d (.agg (fl x))) := by simp [dv, hx]
  obtain ⟨v, h1, h2⟩ := RVels_get h hx2
  simp only [RV, RD_aggF (hfl x)] at h2
  subst h2
  simp only [ElemAt, Nat.zero_add] at h1
  rw [h1.2 q hq]
  have hl : q < ((fl x).map D.val).length := by rw [List.length_map, hk]; exact hq
  rw [getElem!_pos _ q hl]
  simp only [List.getElem?_toArray, List.getElem?_eq_getElem hl]
theorem DoesI.sortFuncK {ρ : Ren} (L : SlLaysF0.n6 P ρ) (hen : Enters P (ρ.f 6)) (e : TypeId) {k : Nat} (hk0 : 0 < k) (aE : ∀ w, (isAgg (ρ.t 24)).run P w = .ok true w) (zE : ∀ w, (Go.sizeOf (ρ.t 24)).run P w = .ok k w)
    {fl : α → List D} (hk : ∀ x, (fl x).length = k) (hfl : ∀ x, (fl x).all D.fl1 = true) {cf : α → α → Int} (hO : Sort.SWO (ltOf cf)) {c : FuncId} (hcen : Enters P c) {caps : List D}
    (hc : ∀ x y, Does P c (.d (.agg (fl x)) :: .d (.agg (fl y)) :: caps.map V.d) [] (.d (.int .i64 (cf x y))) []) (xs : List α) (hl : xs.length < 4611686018427387904) :
    DoesI P (ρ.f 6) [.slr 0 0 xs.length, .fn c (caps.map V.d)] [.vec e k (dv (xs.map fun x => D.agg (fl x)))] (fun ys : List α => ys.Perm xs ∧ ys.Pairwise fun a b => ltOf cf b a = false) (fun _ => .tup []) (fun ys => [.vec e k (dv (ys.map fun x => D.agg (fl x)))]) := by
  refine ⟨hen, fun cx σ w vs hgl hr hfr hp1 hp2 hpb hargs => ?_⟩
  simp only [RVl] at hargs
  obtain ⟨v1, r1, e1, hv1, v2, r2, e2, hv2, e3⟩ := hargs
  subst e3
  subst e2
  obtain rfl : vs = #[v1, v2] := by cases vs; simp_all
  simp only [RV] at hv1 hv2
  obtain ⟨cb, rfl, hcb⟩ := hv2
  have ho := hr.own 0 _ rfl
  by_cases hx0 : xs = []
  · subst hx0
    have : ∃ p cap, v1 = .slice p 0 cap := by
      rcases hv1 with ⟨-, -, -, a, rfl⟩ | ⟨b, K, s, a, cap, -, rfl, -⟩
      · exact ⟨_, _, rfl⟩
      · exact ⟨_, _, rfl⟩
    obtain ⟨p, cap, rfl⟩ := this
    refine (AnyF.slices_SortFunc_none L p cap _ w).mono ?_
    rintro r w' ⟨rfl, rfl⟩
    refine ⟨[], ⟨.refl _, .nil⟩, _, rfl, σ, ?_, fun _ _ _ h => h, fun i hi => hfr i hi, ?_⟩
    · have : hvL [O.vec e k (dv (([] : List α).map fun x => D.agg (fl x)))] = fun i => ([O.vec e k (dv (([] : List α).map fun x => D.agg (fl x)))] : List O)[i]? := by
        funext i
        rcases i with _ | i
        · rfl
        · simp [hvL]
      rw [this]
      exact hr
    · simp only [RV, RVl]
      exact ⟨#[], rfl, rfl⟩
  · have hn : 0 < xs.length := List.length_pos_iff.2 hx0
    rcases ho with ⟨-, h0⟩ | ⟨b, K, c0, fr, hσ, hb, hfo, hcs, hKl, hels⟩
    · simp [dv] at h0
      exact absurd h0 hx0
    have hv : ∃ cap, v1 = .slice (some ⟨b, 0, none⟩) xs.length cap := by
      rcases hv1 with ⟨h0, -⟩ | ⟨b', K', s', a, cap, h0, rfl, hcap, -, hz⟩
      · rw [hσ] at h0; cases h0
      · rw [hσ] at h0
        cases h0
        rcases hz with hz | hz
        · omega
        · exact ⟨cap, by rw [hz]; simp⟩
    obtain ⟨cap, rfl⟩ := hv
    have hblk : b < w.heap.size := (Array.getElem?_eq_some_iff.1 hb).1
    have hKl' : xs.length ≤ K := by simpa [dv] using hKl
    have hkk : ∀ x, ((fl x).map D.val).length = k := fun x => by rw [List.length_map, hk]
    have hH : Sort.HoldsK (fun x => (fl x).map D.val) k w b 0 xs.toArray := by
      intro j hj
      rw [Sort.size_flatK] at hj
      have hj' : j < xs.length * k := by simpa using hj
      have hd : j / k < xs.length := (Nat.div_lt_iff_lt_mul hk0).2 hj'
      have hm : j % k < k := Nat.mod_lt _ hk0
      have he : (j / k) * k + j % k = j := by rw [Nat.mul_comm]; exact Nat.div_add_mod j k
      obtain ⟨x, hx⟩ : ∃ x, xs[j / k]? = some x := ⟨_, List.getElem?_eq_getElem hd⟩
      have h1 := enc_at hk hfl hels hx hm
      rw [he] at h1
      have hxx : xs.toArray[j / k]! = x := by
        rw [getElem!_pos _ _ (by simpa using hd)]
        have := (List.getElem?_eq_some_iff.1 hx).2
        simpa using this
      rw [Sort.get_flatK _ _ _ _ hj, hxx, Nat.zero_add]
      refine ⟨?_, ?_⟩
      · simp only [World.cell?, hb]
        simpa using h1
      · simp only [World.frozen?, hb]
        have hlt : j < c0.size := by
          rcases Nat.lt_or_ge j c0.size with h | h
          · exact h
          · rw [Array.getElem?_eq_none h] at h1; cases h1
        have := hfo j hlt
        simp only [Bool.and_eq_false_iff, decide_eq_false_iff_not]
        omega
    have hgw : GlW P w := fun g q hg => (hgl.inner hr hg).2
    have hgb : ∀ g q, gloT P g = some q → g ≠ b := by
      rintro g q hg rfl
      exact (hgl.inner hr hg).1.2.2 0 _ K k rfl hσ
    have hcl : CmpLays P c cb (fun x => (fl x).map D.val) k cf b 0 xs.toArray.size w :=
      cmp_lays (fun x => ⟨hk x, hfl x⟩) hc hgw hgb (ok := okB cx w (fun i => ([O.vec e k (dv (xs.map fun x => D.agg (fl x)))] : List O)[i]?) σ) (fun b' hb' => ⟨hb'.2.1, fun h => hb'.2.2 0 _ K k rfl (h ▸ hσ)⟩) (RVl_dd hcb)
    have hS := AnyQ.slices_SortFunc L k aE zE (fun x => (fl x).map D.val) hkk (fun x v hv => by
      obtain ⟨y, hy, rfl⟩ := List.mem_map.1 hv
      exact val_one (List.all_eq_true.1 (hfl x) y hy)) cf hO c cb b 0 cap xs.toArray w (fun args w => hcen.run args w) hcl hH hblk (by simpa using hl)
    simp only [List.size_toArray] at hS
    refine hS.mono ?_
    rintro r w' ⟨rfl, d', n, os, hp, hs, rfl⟩
    obtain ⟨hp1', -, hp3⟩ := hp
    have hd' : d'.size = xs.length := by simpa using hp1'
    have hys : d'.toList.Perm xs := by
      have h1 : d'.extract 0 xs.length = d' := by rw [← hd']; simp
      have h2 : xs.toArray.extract 0 xs.length = xs.toArray := by simp
      rw [h1, h2] at hp3
      simpa using hp3
    refine ⟨d'.toList, ⟨hys, ?_⟩, _, rfl, σ, ?_, fun _ _ _ h => h, fun i hi => hfr i hi, ?_⟩
    · rw [List.pairwise_iff_getElem]
      intro i j hi hj hij
      simp only [Array.length_toList] at hi hj
      have := hs i j (Nat.zero_le _) hij (by omega)
      rw [getElem!_pos d' i hi, getElem!_pos d' j hj] at this
      simpa using this
    · have hat := heap_sortWorldK_at (fun x => (fl x).map D.val) k w b 0 n d' os hb
      have hsz := heap_sortWorldK_size (fun x => (fl x).map D.val) k w b 0 n d' os
      have hoff : ∀ q, q < w.heap.size → q ≠ b → (sortWorldK (fun x => (fl x).map D.val) k w b 0 n d' os).heap[q]? = w.heap[q]? := fun q h1 h2 => heap_sortWorldK _ k w b 0 n d' os h1 h2
      have hos : (sortWorldK (fun x => (fl x).map D.val) k w b 0 n d' os).os = w.os := rfl
      have htp : (sortWorldK (fun x => (fl x).map D.val) k w b 0 n d' os).tape = w.tape := rfl
      have hou : (sortWorldK (fun x => (fl x).map D.val) k w b 0 n d' os).output = w.output := rfl
      generalize sortWorldK (fun x => (fl x).map D.val) k w b 0 n d' os = w' at *
      have h0 : ∀ i o, hvL [O.vec e k (dv (d'.toList.map fun x => D.agg (fl x)))] i = some o → i = 0 ∧ o = .vec e k (dv (d'.toList.map fun x => D.agg (fl x))) := by
        intro i o h
        rcases i with _ | i
        · simp [hvL, O.lv] at h; exact ⟨rfl, h.symm⟩
        · simp [hvL] at h
      constructor
      · rw [hos]; exact hr.os
      · rw [htp]; exact hr.tape
      · rw [hou]; exact hr.output
      · exact Nat.le_trans hr.size hsz
      · intro q h1 h2
        have hne : q ≠ b := by
          rintro rfl
          rcases (hr.new 0 _ q K k rfl hσ).1 with h | h
          · omega
          · exact h2 h
        rw [hoff q (Nat.lt_of_lt_of_le h1 hr.size) hne]
        exact hr.frame q h1 h2
      · intro i o h
        obtain ⟨rfl, rfl⟩ := h0 i o h
        refine .inr ⟨b, K, _, fr, hσ, hat, ?_, ?_, by simp [dv, hd']; omega, ?_⟩
        · simpa [Sort.putCells] using hfo
        · simpa [Sort.putCells] using hcs
        · refine RVels_of fun i x hx => ?_
          simp only [dv, List.getElem?_map, Option.map_eq_some_iff] at hx
          obtain ⟨y, ⟨z, hz, rfl⟩, rfl⟩ := hx
          simp only [Array.getElem?_toList] at hz
          have hi : i < xs.length := by
            have := (Array.getElem?_eq_some_iff.1 hz).1
            omega
          refine ⟨.agg ((fl z).map D.val).toArray, ⟨by simp [hk z], fun q hq => ?_⟩, (RD_aggF (hfl z)).2 rfl⟩
          have hiq : i * k + q < xs.length * k := by
            have := Nat.mul_le_mul_right k (show i + 1 ≤ xs.length from hi)
            rw [Nat.add_mul, Nat.one_mul] at this
            omega
          have hc0 : i * k + q < c0.size := by
            have := Nat.mul_le_mul_right k hKl'
            omega
          have e1 : (i * k + q) / k = i := (Sort.blk_iff k i _ hk0).1 ⟨by omega, by omega⟩
          have e2 : (i * k + q) % k = q := by rw [Nat.mod_eq_sub_div_mul, e1]; omega
          have hzz : d'[i]! = z := by
            rw [getElem!_pos _ _ (by omega)]
            exact (Array.getElem?_eq_some_iff.1 hz).2
          simp only [Sort.putCells, Nat.zero_add, Array.getElem?_mapIdx, Array.getElem?_eq_getElem hc0, Option.map_some, Sort.size_flatK, Nat.zero_le, true_and, Nat.sub_zero, id]
          rw [if_pos (by rw [hd']; exact hiq), Sort.get_flatK _ _ _ _ (by rw [hd']; exact hiq), e1, e2, hzz]
          have hl2 : q < ((fl z).map D.val).length := by rw [hkk]; exact hq
          rw [getElem!_pos ((fl z).map D.val) q hl2]
          simp [List.getElem?_eq_getElem hl2]
      · intro i o b' K' s' h hs'
        obtain ⟨rfl, rfl⟩ := h0 i o h
        have := hr.new 0 _ b' K' s' rfl hs'
        exact ⟨this.1, Nat.lt_of_lt_of_le this.2 hsz⟩
      · intro i j o o' b1 K1 s1 K2 s2 h1 h2 _ _
        rw [(h0 i o h1).1, (h0 j o' h2).1]
    · simp only [RV, RVl]
      exact ⟨#[], rfl, rfl⟩
end
end Go.AX

namespace Go.AX
open Go
def regOkG {σ : Type} (c1 c2 : σ → σ → Bool) (ops : Array Oper) (sg : List σ) : Bool :=
  let b := befOf ops.toList []
  (ops.toList.zipIdx.all fun (o, i) => o.after.toList.all fun e => !Region.binds .any e || decide (e.on < i)) &&
  (ops.toList.zip sg).zipIdx.all fun (oj, j) => ((ops.toList.zip sg).take j).zipIdx.all fun (oi, i) => (b.getD j 0).testBit i || !(inter oi.1.dst.toList (rtmps ops oj.1 ++ oj.1.dst.toList) || inter oj.1.dst.toList (rtmps ops oi.1) || c1 oi.2 oj.2 || c2 oi.2 oj.2)
theorem regOkG_map {σ τ : Type} {c1 c2 : τ → τ → Bool} {d1 d2 : σ → σ → Bool} (g : σ → τ) (h1 : ∀ a b, c1 (g a) (g b) = d1 a b) (h2 : ∀ a b, c2 (g a) (g b) = d2 a b) (ops : Array Oper) (sg : List σ) :
    regOkG c1 c2 ops (sg.map g) = regOkG d1 d2 ops sg := by
  unfold regOkG
  simp only [List.zip_map_right, List.zipIdx_map, List.all_map, ← List.map_take, Function.comp_def, Prod.map, id, h1, h2]
def sigC1 (a b : List Nat × List Nat) : Bool := inter a.1 (b.2 ++ b.1)
def sigC2 (a b : List Nat × List Nat) : Bool := inter b.1 a.2
def Tr.sig (t : Tr) : List Nat × List Nat := (t.wids, t.rids)
def renP (f : Nat → Nat) (a : List Nat × List Nat) : List Nat × List Nat := (a.1.map f, a.2.map f)
theorem inter_map {f : Nat → Nat} (hf : ∀ p q, f p = f q → p = q) (a b : List Nat) : inter (a.map f) (b.map f) = inter a b := by
  unfold inter
  rw [List.any_map, Bool.eq_iff_iff, List.any_eq_true, List.any_eq_true]
  constructor
  · rintro ⟨x, hx, h⟩
    refine ⟨x, hx, ?_⟩
    simp only [Function.comp_apply, List.contains_iff_mem, List.mem_map] at h ⊢
    obtain ⟨y, hy, e⟩ := h
    rw [← hf _ _ e]
    exact hy
  · rintro ⟨x, hx, h⟩
    refine ⟨x, hx, ?_⟩
    simp only [Function.comp_apply, List.contains_iff_mem, List.mem_map] at h ⊢
    exact ⟨x, h, rfl⟩
theorem regOk_sig (ops : Array Oper) (tr : List Tr) : regOk2 ops tr = regOkG sigC1 sigC2 ops (tr.map Tr.sig) := by
  rw [regOkG_map Tr.sig (d1 := fun a b => inter a.wids (b.rids ++ b.wids)) (d2 := fun a b => inter b.wids a.rids) (fun _ _ => rfl) (fun _ _ => rfl)]
  rfl
/-- The numbers may be renamed for the check. -/
theorem regOk_ren (f : Nat → Nat) (hf : ∀ p q, f p = f q → p = q) {ops : Array Oper} {tr : List Tr} (h : regOkG sigC1 sigC2 ops ((tr.map Tr.sig).map (renP f)) = true) : regOk ops tr = true := by
  apply regOk_swap
  rw [regOk_sig]
  rw [regOkG_map (renP f) (d1 := sigC1) (d2 := sigC2)] at h
  · exact h
  · intro a b
    show inter (a.1.map f) (b.2.map f ++ b.1.map f) = inter a.1 (b.2 ++ b.1)
    rw [← List.map_append, inter_map hf]
  · intro a b
    exact inter_map hf _ _
end Go.AX

namespace Go.AX
open Go
section
variable {γ : Type} (R : RowS γ) {cx : Cx}
/-- Weakening to a state with a family of rows; what is not kept becomes data. -/
theorem Weak.rowsK {k : Nat} (hcx : CxOk cx k) {st st' : St} (f : Nat → Nat) (keep : Nat → Bool) (B : Nat) (gs : List γ) (base : List (Nat × Option O)) (hH : st'.H = base ++ Go.AX.rowsH R B gs) (hn : st'.n = st.n) (hg : ∀ i, i < k → f i = i) (hkc : k ≤ st'.c)
    (he : ∀ p ∈ st'.env, ∃ v, lk st.env p.1 = some v ∧ frz st.hv keep v = p.2.ren f ∧ p.2.bel (64 * st'.c) = true)
    (hb : ∀ p ∈ base, ∃ o, p.2 = some o ∧ p.1 < 64 * st'.c ∧ o.bel (64 * st'.c) = true ∧ keep (f p.1) = true ∧ ∃ o', st.hv (f p.1) = some o' ∧ o'.frz st.hv keep = o.ren f)
    (hf : ∀ j x, gs[j]? = some x → R.row x ≠ [] → B + j < 64 * st'.c ∧ keep (f (B + j)) = true ∧ st.hv (f (B + j)) = some (.vec R.e R.s (dv (R.row x))))
    (hpk : ∀ i, i < k → ∃ o, (i, o) ∈ base)
    (hinj : ∀ p q, f p = f q → p = q) : Weak cx st st' := by
  refine Weak.go hcx f keep hn hg hkc he ?_ (fun i hi => ?_) (fun p _ q _ h => hinj _ _ h)
  rotate_left
  · obtain ⟨o, ho⟩ := hpk i hi
    obtain ⟨_, _, _, _, h3, o', h4, _⟩ := hb _ ho
    simp only at h3 h4
    rw [hg i hi] at h3 h4
    exact ⟨h3, o', h4⟩
  intro p hp
  rw [hH] at hp
  rcases List.mem_append.1 hp with hp | hp
  · exact hb p hp
  · obtain ⟨j, x, h1, h2, rfl⟩ := rowsH_mem R hp
    obtain ⟨h3, h4, h5⟩ := hf j x h1 h2
    refine ⟨_, rfl, h3, ?_, h4, _, h5, ?_⟩
    · simp [go_sem]
    · simp [go_sem]
end
/-- Rows that are kept stay. -/
theorem frzL_rowsK {γ : Type} {R : RowS γ} (hv : ∀ g v, R.val g v = v) {h : Nat → Option O} {keep : Nat → Bool} : ∀ (gs : List γ) (B : Nat), (∀ j, j < gs.length → keep (B + j) = true) → frzL h keep (rowsV R B gs) = rowsV R B gs
  | [], B, _ => rfl
  | g :: r, B, hk => by
    have ih := frzL_rowsK hv r (B + 1) (h := h) (keep := keep) fun j hj => by
      have := hk (j + 1) (by simp; omega)
      rwa [show B + (j + 1) = B + 1 + j by omega] at this
    have h0 := hk 0 (by simp)
    rw [Nat.add_zero] at h0
    show frz h keep (R.val g (rref B (R.row g))) :: frzL h keep (rowsV R (B + 1) r) = R.val g (rref B (R.row g)) :: rowsV R (B + 1) r
    rw [ih, hv]
    congr 1
    by_cases he : R.row g = []
    · rw [he]; rfl
    · rw [rref_pos he]
      simp [frz, h0]
end Go.AX
