/- Arrivals by papers. -/
import Derived.Test.YtiepfiomhahckaaGreatDoorAC
set_option linter.unusedSimpArgs false
set_option linter.unusedVariables false
set_option linter.unnecessarySimpa false
set_option maxRecDepth 100000
set_option maxHeartbeats 4000000
namespace Go.AX
open Go Go.Proofs Go.RowKit
theorem toDL_app {F : V → Option D} : ∀ {xs ys : List V} {a b : List D}, toDL F xs = some a → toDL F ys = some b → toDL F (xs ++ ys) = some (a ++ b)
  | [], ys, a, b, h1, h2 => by
    simp only [toDL, Option.some.injEq] at h1
    subst h1
    exact h2
  | x :: xs, ys, a, b, h1, h2 => by
    simp only [toDL] at h1
    split at h1
    · rename_i d ds e1 e2
      cases h1
      simp only [List.cons_append, toDL, e1, toDL_app e2 h2]
    · cases h1
theorem dv_appV (xs ys : List D) : dv (xs ++ ys) = dv xs ++ dv ys := by simp [dv]
theorem frzL_appV {hv : Nat → Option O} {keep : Nat → Bool} : ∀ xs ys : List V, frzL hv keep (xs ++ ys) = frzL hv keep xs ++ frzL hv keep ys
  | [], ys => by simp [frzL]
  | x :: r, ys => by simp [frzL, frzL_appV r ys]
theorem belL_app (n : Nat) : ∀ xs ys : List V, belL n (xs ++ ys) = (belL n xs && belL n ys)
  | [], ys => by simp [belL]
  | x :: r, ys => by simp [belL, belL_app n r ys, Bool.and_assoc]
theorem renL_app (g : Nat → Nat) : ∀ xs ys : List V, renL g (xs ++ ys) = renL g xs ++ renL g ys
  | [], ys => by simp [renL]
  | x :: r, ys => by simp [renL, renL_app g r ys]
theorem frzL_md {α : Type} (f : α → D) (hv : Nat → Option O) (keep : Nat → Bool) : ∀ l : List α, frzL hv keep (l.map fun x => V.d (f x)) = l.map fun x => V.d (f x)
  | [] => rfl
  | x :: r => by simp [frzL, frz, frzL_md f hv keep r]
theorem belL_md {α : Type} (f : α → D) (n : Nat) : ∀ l : List α, belL n (l.map fun x => V.d (f x)) = true
  | [] => rfl
  | x :: r => by simp [belL, V.bel, belL_md f n r]
theorem renL_md {α : Type} (f : α → D) (g : Nat → Nat) : ∀ l : List α, renL g (l.map fun x => V.d (f x)) = l.map fun x => V.d (f x)
  | [] => rfl
  | x :: r => by simp [renL, V.ren, renL_md f g r]
theorem toDL_md {α : Type} (f : α → D) {F : V → Option D} (h : ∀ x : D, F (.d x) = some x) : ∀ l : List α, toDL F (l.map fun x => V.d (f x)) = some (l.map f)
  | [] => rfl
  | x :: r => by simp [toDL, h, toDL_md f h r]
theorem dv_one (x : D) : dv [x] = [V.d x] := rfl
/-- The arrivals in order, each once. -/
def srtA (xs : List Ar) : List Ar := compactM (isort (ltC cpA) xs)
theorem srtA_rise (xs : List Ar) : RiseA (srtA xs) := compactM_rise cp_ar.tot cp_ar.trs _ (isort_sorted cp_ar.asy cp_ar.ntr xs)
theorem srtA_mem (xs : List Ar) (x : Ar) : x ∈ srtA xs ↔ x ∈ xs := by
  unfold srtA
  rw [compactM_mem, (isort_perm (ltC cpA) xs).mem_iff]
theorem srtA_len (xs : List Ar) : (srtA xs).length ≤ xs.length := by
  have := compactM_len (isort (ltC cpA) xs)
  rw [(isort_perm (ltC cpA) xs).length_eq] at this
  exact this
theorem ltA_key {a b : Ar} (h : ltC cpA a b = true) : a.1 = b.1 ∨ ltS a.1 b.1 = true := by
  by_cases e : a.1 = b.1
  · exact .inl e
  · refine .inr ?_
    have h : cpA a b < 0 := of_decide_eq_true h
    unfold cpA lexC at h
    rw [if_pos (fun h0 => e ((cp_str.eq _ _).1 h0))] at h
    have := cmpB_lt a.1 b.1
    rw [decide_eq_true h] at this
    exact this.symm
abbrev Gr := Str × List Ar
abbrev grD (g : Gr) : D := .sl (g.2.map arD)
section
variable {cnt : Ar → Bool}
theorem grp_snoc (T : List Ar) (x : Ar) (p : Str) : grp cnt (T ++ [x]) p = grp cnt T p ++ (if x.1 = p ∧ cnt x = true then [x] else []) := by
  unfold grp
  rw [List.filter_append]
  congr 1
  by_cases h : x.1 = p ∧ cnt x = true
  · rw [if_pos h, List.filter_cons_of_pos (by simp [h])]; rfl
  · rw [if_neg h, List.filter_cons_of_neg (by simpa using h)]; rfl
structure GrpB (cnt : Ar → Bool) (T : List Ar) (gs : List Gr) (k : Str) (ps : List Ar) : Prop where
  keys : (gs.map (·.1) ++ [k]).Pairwise (fun a b => ltS a b = true)
  vals : ∀ g ∈ gs, grp cnt T g.1 = g.2
  cur : grp cnt T k = ps
  mem : ∀ p, p ∈ gs.map (·.1) ++ [k] ↔ ∃ a ∈ T, a.1 = p
def addC (cnt : Ar → Bool) (ps : List Ar) (x : Ar) : List Ar := ps ++ (if cnt x = true then [x] else [])
theorem GrpB.one (x : Ar) : GrpB cnt [x] [] x.1 (addC cnt [] x) where
  keys := by simp
  vals := by simp
  cur := by
    have := grp_snoc (cnt := cnt) [] x x.1
    simpa [grp, addC] using this
  mem := fun p => by simp [eq_comm]
theorem GrpB.lt {T : List Ar} {gs : List Gr} {k : Str} {ps : List Ar} (h : GrpB cnt T gs k ps) : ∀ g ∈ gs, ltS g.1 k = true := by
  intro g hg
  exact (List.pairwise_append.1 h.keys).2.2 g.1 (List.mem_map_of_mem hg) k (by simp)
theorem GrpB.same {T : List Ar} {gs : List Gr} {k : Str} {ps : List Ar} (h : GrpB cnt T gs k ps) {x : Ar} (hx : x.1 = k) : GrpB cnt (T ++ [x]) gs k (addC cnt ps x) where
  keys := h.keys
  vals := fun g hg => by
    rw [grp_snoc, if_neg, List.append_nil, h.vals g hg]
    rintro ⟨e, -⟩
    exact ltS_ne (h.lt g hg) (by rw [← e, hx])
  cur := by
    rw [grp_snoc, h.cur]
    unfold addC
    simp [hx]
  mem := fun p => by
    rw [h.mem]
    constructor
    · rintro ⟨a, ha, e⟩; exact ⟨a, List.mem_append_left _ ha, e⟩
    · rintro ⟨a, ha, e⟩
      rcases List.mem_append.1 ha with ha | ha
      · exact ⟨a, ha, e⟩
      · obtain rfl := List.mem_singleton.1 ha
        refine (h.mem p).1 ?_
        rw [← e, hx]
        simp
theorem GrpB.next {T : List Ar} {gs : List Gr} {k : Str} {ps : List Ar} (h : GrpB cnt T gs k ps) {x : Ar} (hx : ltS k x.1 = true) : GrpB cnt (T ++ [x]) (gs ++ [(k, ps)]) x.1 (addC cnt [] x) where
  keys := by
    rw [List.map_append, List.pairwise_append]
    refine ⟨h.keys, by simp, ?_⟩
    intro a ha b hb
    obtain rfl := List.mem_singleton.1 hb
    rcases List.mem_append.1 ha with ha | ha
    · obtain ⟨g, hg, rfl⟩ := List.mem_map.1 ha
      exact ltS_trans (h.lt g hg) hx
    · simp only [List.map_cons, List.map_nil, List.mem_singleton] at ha
      rw [ha]; exact hx
  vals := fun g hg => by
    rcases List.mem_append.1 hg with hg | hg
    · rw [grp_snoc, if_neg, List.append_nil, h.vals g hg]
      rintro ⟨e, -⟩
      exact ltS_ne (ltS_trans (h.lt g hg) hx) e.symm
    · obtain rfl := List.mem_singleton.1 hg
      rw [grp_snoc, if_neg, List.append_nil, h.cur]
      rintro ⟨e, -⟩
      exact ltS_ne hx e.symm
  cur := by
    have hno : grp cnt T x.1 = [] := by
      unfold grp
      rw [List.filter_eq_nil_iff]
      intro a ha hq
      simp only [Bool.and_eq_true, beq_iff_eq] at hq
      have hm := (h.mem x.1).2 ⟨a, ha, hq.1⟩
      rcases List.mem_append.1 hm with hm | hm
      · obtain ⟨g, hg, e⟩ := List.mem_map.1 hm
        exact ltS_ne (ltS_trans (h.lt g hg) hx) e
      · exact ltS_ne hx (List.mem_singleton.1 hm).symm
    rw [grp_snoc, hno]
    unfold addC
    simp
  mem := fun p => by
    rw [List.map_append, List.mem_append, List.map_cons, List.map_nil, h.mem]
    constructor
    · rintro (⟨a, ha, e⟩ | hp)
      · exact ⟨a, List.mem_append_left _ ha, e⟩
      · exact ⟨x, by simp, (List.mem_singleton.1 hp).symm⟩
    · rintro ⟨a, ha, e⟩
      rcases List.mem_append.1 ha with ha | ha
      · exact .inl ⟨a, ha, e⟩
      · obtain rfl := List.mem_singleton.1 ha
        exact .inr (by simp [e])
theorem rise_nodupS {l : List Str} (h : l.Pairwise (fun a b => ltS a b = true)) : l.Nodup := List.Pairwise.imp (fun h => ltS_ne h) h
/-- A map that holds the arrivals of each paper. -/
structure ByOk (cnt : Ar → Bool) (S : List Ar) (KS : List Str) (VS : List D) : Prop where
  keys : KeysOf S KS
  find : ∀ p, (fndK (.str p) (KS.map D.str) = some none ∧ grp cnt S p = []) ∨ ∃ j, fndK (.str p) (KS.map D.str) = some (some j) ∧ (VS.map V.d)[j]? = some (.d (.sl ((grp cnt S p).map arD)))
  len : KS.length ≤ S.length
theorem grp_len (S : List Ar) (p : Str) : (grp cnt S p).length ≤ S.length := List.length_filter_le _ _
theorem keys_len {ks : List Str} (hn : ks.Nodup) {S : List Ar} (h : ∀ p ∈ ks, ∃ a ∈ S, a.1 = p) : ks.length ≤ S.length := by
  have : ks.length ≤ (S.map (·.1)).length := hn.length_le_of_subset fun p hp => by
    obtain ⟨a, ha, e⟩ := h p hp
    exact List.mem_map.2 ⟨a, ha, e⟩
  simpa using this
theorem GrpB.done {T : List Ar} {gs : List Gr} {k : Str} {ps : List Ar} (h : GrpB cnt T gs k ps) : ByOk cnt T ((gs ++ [(k, ps)]).map (·.1)) ((gs ++ [(k, ps)]).map grD) where
  keys := ⟨by have := h.keys; simpa [RiseK] using this, fun p => by have := h.mem p; simpa using this⟩
  len := keys_len (rise_nodupS (by have := h.keys; simpa using this)) fun p hp => by
    have := (h.mem p).1 (by simpa using hp)
    exact this
  find := fun p => by
    have hn : ((gs ++ [(k, ps)]).map (·.1)).Nodup := by
      have := rise_nodupS h.keys
      simpa using this
    by_cases hp : p ∈ (gs ++ [(k, ps)]).map (·.1)
    · obtain ⟨j, hj⟩ := List.getElem?_of_mem hp
      refine .inr ⟨j, ?_, ?_⟩
      · rw [fndK_str, findIdx_at hn hj]
      · rw [List.getElem?_map] at hj
        cases hg : (gs ++ [(k, ps)])[j]? with
        | none => rw [hg] at hj; cases hj
        | some g =>
          rw [hg] at hj
          cases hj
          have : grp cnt T g.1 = g.2 := by
            rcases List.mem_append.1 (List.mem_of_getElem? hg) with hm | hm
            · exact h.vals g hm
            · obtain rfl := List.mem_singleton.1 hm; exact h.cur
          rw [List.map_map, List.getElem?_map, hg, this]
          rfl
    · refine .inl ⟨by rw [fndK_str, findIdx_none hp], ?_⟩
      unfold grp
      rw [List.filter_eq_nil_iff]
      intro a ha hq
      simp only [Bool.and_eq_true, beq_iff_eq] at hq
      exact hp (by have := (h.mem p).2 ⟨a, ha, hq.1⟩; simpa using this)
theorem ByOk.nil : ByOk cnt [] [] [] where
  keys := ⟨List.Pairwise.nil, fun p => by simp⟩
  len := Nat.le_refl _
  find := fun p => .inl ⟨rfl, rfl⟩
end
/-- The map that is being filled. -/
abbrev LM (gs : List Gr) (k : Str) (b n : Nat) : O := .map ((gs.map fun g => D.str g.1) ++ [.str k]) ((gs.map fun g => V.d (grD g)) ++ [.slr b 0 n])
theorem lm_at {gs : List Gr} {k : Str} (h : (gs.map (·.1) ++ [k]).Pairwise (fun a b => ltS a b = true)) : fndK (.str k) ((gs.map fun g => D.str g.1) ++ [.str k]) = some (some gs.length) := by
  have e : (gs.map fun g => D.str g.1) ++ [.str k] = (gs.map (·.1) ++ [k]).map D.str := by simp
  rw [e, fndK_str, findIdx_at (rise_nodupS h) (j := gs.length) (by simp)]
theorem lm_no {gs : List Gr} {k x : Str} (h : (gs.map (·.1) ++ [k]).Pairwise (fun a b => ltS a b = true)) (hx : ltS k x = true) : fndK (.str x) ((gs.map fun g => D.str g.1) ++ [.str k]) = some none := by
  have e : (gs.map fun g => D.str g.1) ++ [.str k] = (gs.map (·.1) ++ [k]).map D.str := by simp
  rw [e, fndK_str, findIdx_none]
  intro hm
  rcases List.mem_append.1 hm with hm | hm
  · have := (List.pairwise_append.1 h).2.2 x hm k (by simp)
    rw [ltS_asymm hx] at this; cases this
  · simp only [List.mem_singleton] at hm
    subst hm
    rw [ltS_irrefl] at hx; cases hx
theorem frz_lm {hv : Nat → Option O} {keep : Nat → Bool} {m b n : Nat} {e : Nat} {gs : List Gr} {k : Str} {ps : List Ar} (hk : keep m = false) (h : hv m = some (LM gs k b n)) (hk2 : keep b = false) (h2 : hv b = some (.vec e 5 (dv (ps.map arD)))) (hn : n = ps.length) :
    frz hv keep (.mpr m) = .d (.map (((gs ++ [(k, ps)]).map (·.1)).map D.str) ((gs ++ [(k, ps)]).map grD)) := by
  subst hn
  have h3 : toD hv keep 7 (.slr b 0 ps.length) = some (.sl (ps.map arD)) := by
    rw [toD]
    simp only [hk2, Bool.false_eq_true, if_false, h2, dv_length, List.length_map, Nat.zero_add, Nat.le_refl, if_true, List.drop_zero]
    rw [show (dv (ps.map arD)).take ps.length = dv (ps.map arD) from List.take_of_length_le (by simp [dv]), show toDL (toD hv keep 6) (dv (ps.map arD)) = some (ps.map arD) from toDL_dv hv keep 5 _]
  have e : toD hv keep 8 (.mpr m) = some (.map ((gs.map fun g => D.str g.1) ++ [.str k]) (gs.map grD ++ [.sl (ps.map arD)])) := by
    rw [toD]
    simp only [hk, Bool.false_eq_true, if_false, h]
    rw [toDL_app (a := gs.map grD) (b := [.sl (ps.map arD)]) (toDL_md grD (fun x => by rw [toD]) gs) (by simp only [toDL, h3])]
  simp only [frz, hk, Bool.false_eq_true, if_false, e]
  simp
def hsB (l : List V) (c : Cl) : Option (Nat × List Gr × Str × List Ar) → List (Nat × Option O)
  | none => [(192, some (.vec 37 5 l)), (448, some (.map [] [])), (0, some (O.box 28 [I c.1.1, I c.1.2.1, I c.1.2.2, .d (.sl (c.2.map rsD))]))]
  | some p => [(192, some (.vec 37 5 l)), (448, some (LM p.2.1 p.2.2.1 449 p.2.2.2.length)), (0, some (O.box 28 [I c.1.1, I c.1.2.1, I c.1.2.2, .d (.sl (c.2.map rsD))])), (449, some (O.vec 37 5 (dv (p.2.2.2.map arD))))]
def ixB : Option (Nat × List Gr × Str × List Ar) → Nat
  | none => 0
  | some p => p.1
def InvB (cnt : Ar → Bool) (SS : List Ar) : Option (Nat × List Gr × Str × List Ar) → Prop
  | none => True
  | some p => 1 ≤ p.1 ∧ p.1 ≤ SS.length ∧ GrpB cnt (SS.take p.1) p.2.1 p.2.2.1 p.2.2.2 ∧ ∃ y, SS[p.1 - 1]? = some y ∧ y.1 = p.2.2.1
theorem byPaperI (c : Cl) (hc : GoodC c) (xs : List Ar) (hl : xs.length ≤ 12) :
    DoesI Tryz.prog 37 [.d (clD c), .d (.sl (xs.map arD))] [] (fun q : List Str × List D => ByOk (fun a => cntF c a == 1) (srtA xs) q.1 q.2) (fun q => .d (.map (q.1.map D.str) q.2)) (fun _ => []) := by
  have hcl := clone_Ar xs (by omega)
  have hso := sortFunc_Ar (ltC cpA) cpA (fun _ _ => rfl) 45 cmpA_any xs hl
  have hpl := (isort_perm (ltC cpA) xs).length_eq
  have hco := compact_Ar (isort (ltC cpA) xs) (by omega)
  rw [hpl] at hco
  have hfold : compactM (isort (ltC cpA) xs) = srtA xs := rfl
  rw [hfold] at hco
  have hSl := srtA_len xs
  have hSr := srtA_rise xs
  generalize srtA xs = SS at *
  generalize isort (ltC cpA) xs = XS at *
  refine DoesI.of_AW (n := 44) Tryz.func37 rfl rfl rfl fun cx hcx => ?_
  repeat' (first | (refine AW.sreg rfl fun K hK => ?_; simp only [go_sem, Nat.reduceAdd, Nat.reduceMul, Int.reduceToNat, Nat.reduceLT, Nat.reduceLeDiff, Nat.le_refl, Nat.reduceEqDiff, ↓reduceIte, beq_self_eq_true, bne_self_eq_false, Int.reduceBEq, Int.reduceBNe, or_self, true_or, or_true, Option.map_some, Option.map_none, List.length_map, Nat.reduceSub, Nat.add_zero]) | (refine AW.seq_k fun K hK => ?_) | (refine AW.block ?_) | (refine hK _ ?_; clear hK K) | (refine run_call _ _ _ ((hcl).objs [] trivial rfl (by decide) (by simp [go_sem, renOs]) (by simp) (by simp) (by simp [go_sem]) (by simp [go_sem]) (by simp [go_sem]) (by simp [go_sem])) rfl rfl (dstOk_of rfl) rfl rfl rfl ?_; simp only [go_sem, Nat.reduceAdd, Nat.reduceMul, Int.reduceToNat, Nat.reduceLT, Nat.reduceLeDiff, Nat.le_refl, Nat.reduceEqDiff, ↓reduceIte, beq_self_eq_true, bne_self_eq_false, Int.reduceBEq, Int.reduceBNe, or_self, true_or, or_true, Option.map_some, Option.map_none, List.length_map, Nat.reduceSub, Nat.add_zero]) | (refine run_call _ _ _ ((hso).objs [_] ⟨rfl, trivial⟩ rfl (by decide) (by simp [go_sem, renOs]) (by simp) (by simp) (by simp [go_sem]) (by simp [go_sem]) (by simp [go_sem]) (by simp [go_sem])) rfl rfl (dstOk_of rfl) rfl rfl rfl ?_; simp only [go_sem, Nat.reduceAdd, Nat.reduceMul, Int.reduceToNat, Nat.reduceLT, Nat.reduceLeDiff, Nat.le_refl, Nat.reduceEqDiff, ↓reduceIte, beq_self_eq_true, bne_self_eq_false, Int.reduceBEq, Int.reduceBNe, or_self, true_or, or_true, Option.map_some, Option.map_none, List.length_map, Nat.reduceSub, Nat.add_zero]) | (refine run_call _ _ _ ((hco).objs [_] ⟨rfl, trivial⟩ rfl (by decide) (by simp [go_sem, renOs]) (by simp) (by simp) (by simp [go_sem]) (by simp [go_sem]) (by simp [go_sem]) (by simp [go_sem])) rfl rfl (dstOk_of rfl) rfl rfl rfl ?_; simp only [go_sem, Nat.reduceAdd, Nat.reduceMul, Int.reduceToNat, Nat.reduceLT, Nat.reduceLeDiff, Nat.le_refl, Nat.reduceEqDiff, ↓reduceIte, beq_self_eq_true, bne_self_eq_false, Int.reduceBEq, Int.reduceBNe, or_self, true_or, or_true, Option.map_some, Option.map_none, List.length_map, Nat.reduceSub, Nat.add_zero]))
  obtain ⟨⟨co, ca, cf⟩, crs⟩ := c
  have hext : ∃ YS : List D, YS = List.replicate (xs.length - SS.length) (arD ([], 0, 0, [], [])) := ⟨_, rfl⟩
  obtain ⟨YS, hYS⟩ := hext
  rw [← hYS]
  have hgd : ∀ {i : Nat} {x : Ar}, SS[i]? = some x → (dv (SS.map arD ++ YS))[0 + i]? = some (.d (arD x)) := by
    intro i x h
    have hil : i < SS.length := (List.getElem?_eq_some_iff.1 h).1
    have t : (SS.map arD ++ YS)[i]? = some (arD x) := by rw [List.getElem?_append_left (by simpa using hil), List.getElem?_map, h]; rfl
    simp only [dv, Nat.zero_add, List.getElem?_map, t, Option.map_some]
  refine AW.loopF (ι := Option (Nat × List Gr × Str × List Ar)) [2, 5, 14, 15] (fun p => [(16, I (ixB p))]) (hsB (dv (SS.map arD ++ YS)) ((co, ca, cf), crs)) 13 (fun p => InvB (fun a => cntF ((co, ca, cf), crs) a == 1) SS p) (fun p => SS.length - ixB p) none trivial (Weak.objs hcx [(192, 192), (448, 448), (0, 0)] rfl rfl (Nat.le_of_ble_eq_true rfl) (by simp [go_sem, gL, kL, List.map_append, dv_push, hsB, ixB]) (by simp [go_sem, gL, kL, List.map_append, dv_push, hsB, ixB]) (by first | (intro i hi; exact absurd hi (Nat.not_lt_zero _)) | (intro i0 hi0; match i0, hi0 with | 0, _ => exact ⟨_, rfl⟩ | n0+1, h0 => exact absurd h0 (Nat.not_lt.2 (Nat.le_add_left 1 n0))) | (intro i0 hi0; match i0, hi0 with | 0, _ => exact ⟨_, rfl⟩ | 1, _ => exact ⟨_, rfl⟩ | n0+2, h0 => exact absurd h0 (Nat.not_lt.2 (Nat.le_add_left 2 n0))) | (intro i0 hi0; match i0, hi0 with | 0, _ => exact ⟨_, rfl⟩ | 1, _ => exact ⟨_, rfl⟩ | 2, _ => exact ⟨_, rfl⟩ | n0+3, h0 => exact absurd h0 (Nat.not_lt.2 (Nat.le_add_left 3 n0))) | (intro i0 hi0; match i0, hi0 with | 0, _ => exact ⟨_, rfl⟩ | 1, _ => exact ⟨_, rfl⟩ | 2, _ => exact ⟨_, rfl⟩ | 3, _ => exact ⟨_, rfl⟩ | n0+4, h0 => exact absurd h0 (Nat.not_lt.2 (Nat.le_add_left 4 n0)))) (by simp [gL, lk, hsB, ixB])) ?_; simp only [St.at_nil, St.at_cons, lk, Nat.reduceEqDiff, ↓reduceIte, Option.getD_some, Option.getD_none, List.cons_append, List.nil_append, List.append_nil]
  rintro (_ | ⟨i, gs, k, ps⟩) hI
  · simp only [hsB, ixB, Int.natCast_zero]
    by_cases hi : 0 < SS.length
    · obtain ⟨x, hx, hxm, hxd⟩ := get_some hi
      have hget := hgd hx
      have htk : SS.take 1 = [x] := by rw [List.take_one, List.head?_eq_getElem?, hx]; rfl
      have hcnt := counts_any _ hc x
      have hone := GrpB.one (cnt := fun a => cntF ((co, ca, cf), crs) a == 1) x
      have hf1 : fndK (.str x.1) [D.str x.1] = some (some 0) := by
        have := fndK_str x.1 [x.1]
        simp only [List.map_cons, List.map_nil] at this
        rw [this]
        simp
      by_cases h1 : cntF ((co, ca, cf), crs) x = 1
      · rw [h1] at hcnt
        have he : addC (fun a => cntF ((co, ca, cf), crs) a == 1) [] x = [x] := by simp [addC, h1]
        rw [he] at hone
        repeat' (first | (refine AW.sreg rfl fun K hK => ?_; simp only [go_sem, Nat.reduceAdd, Nat.reduceMul, Int.reduceToNat, Nat.reduceLT, Nat.reduceLeDiff, Nat.le_refl, Nat.reduceEqDiff, ↓reduceIte, beq_self_eq_true, bne_self_eq_false, Int.reduceBEq, Int.reduceBNe, or_self, true_or, or_true, Option.map_some, Option.map_none, List.length_map, hget, Int.toNat_zero, hf1, List.nil_append, List.getElem?_cons_zero, List.set_cons_zero]) | (refine AW.sregD hmix rfl fun K hK => ?_; simp only [go_sem, Nat.reduceAdd, Nat.reduceMul, Int.reduceToNat, Nat.reduceLT, Nat.reduceLeDiff, Nat.le_refl, Nat.reduceEqDiff, ↓reduceIte, beq_self_eq_true, bne_self_eq_false, Int.reduceBEq, Int.reduceBNe, or_self, true_or, or_true, Option.map_some, Option.map_none, List.length_map, hget, Int.toNat_zero, hf1, List.nil_append, List.getElem?_cons_zero, List.set_cons_zero]) | (refine AW.reg rfl ?_; simp only [go_sem, Nat.reduceAdd, Nat.reduceMul, Int.reduceToNat, Nat.reduceLT, Nat.reduceLeDiff, Nat.le_refl, Nat.reduceEqDiff, ↓reduceIte, beq_self_eq_true, bne_self_eq_false, Int.reduceBEq, Int.reduceBNe, or_self, true_or, or_true, Option.map_some, Option.map_none, List.length_map, hget, Int.toNat_zero, hf1, List.nil_append, List.getElem?_cons_zero, List.set_cons_zero]) | (refine AW.regD hmix rfl ?_; simp only [go_sem, Nat.reduceAdd, Nat.reduceMul, Int.reduceToNat, Nat.reduceLT, Nat.reduceLeDiff, Nat.le_refl, Nat.reduceEqDiff, ↓reduceIte, beq_self_eq_true, bne_self_eq_false, Int.reduceBEq, Int.reduceBNe, or_self, true_or, or_true, Option.map_some, Option.map_none, List.length_map, hget, Int.toNat_zero, hf1, List.nil_append, List.getElem?_cons_zero, List.set_cons_zero]) | (refine AW.seq_k fun K hK => ?_) | (refine AW.block ?_) | (refine AW.skip ?_; simp only [Then, InBlock]) | (refine AW.condT rfl (by first | rfl | (simp; omega) | (simp [*]; done) | fail) ?_) | (refine hK _ ?_; clear hK K) | (with_reducible refine And.intro (?_ : regOk _ _ = true) ?_; kernel_rfl) | (refine run_call _ _ _ ((hcnt).pure rfl rfl _ _) rfl rfl (dstOk_of rfl) rfl rfl rfl ?_; simp only [go_sem, Nat.reduceAdd, Nat.reduceMul, Int.reduceToNat, Nat.reduceLT, Nat.reduceLeDiff, Nat.le_refl, Nat.reduceEqDiff, ↓reduceIte, beq_self_eq_true, bne_self_eq_false, Int.reduceBEq, Int.reduceBNe, or_self, true_or, or_true, Option.map_some, Option.map_none, List.length_map, hget, Int.toNat_zero, hf1, List.nil_append, List.getElem?_cons_zero, List.set_cons_zero]) | (with_reducible refine And.intro ?_ ?_; first | omega | assumption | (focus (decide)) | (focus (simp; done)) | (focus (simp; omega)) | (focus (constructor <;> omega)) | fail))
        exact ⟨some (1, [], x.1, [x]), ⟨by simp, hi, by simp only [htk]; exact hone, ⟨x, hx, rfl⟩⟩, by simp only [ixB]; omega, (Weak.objs hcx [(192, 192), (448, 448), (0, 0), (449, 2560)] rfl rfl (Nat.le_of_ble_eq_true rfl) (by simp [go_sem, gL, kL, List.map_append, dv_push, frzL_appV, frzL_md, hsB, ixB, belL_app, renL_app, dv_one, belL_md, renL_md]) (by simp [go_sem, gL, kL, List.map_append, dv_push, frzL_appV, frzL_md, hsB, ixB, belL_app, renL_app, dv_one, belL_md, renL_md]) (by first | (intro i hi; exact absurd hi (Nat.not_lt_zero _)) | (intro i0 hi0; match i0, hi0 with | 0, _ => exact ⟨_, rfl⟩ | n0+1, h0 => exact absurd h0 (Nat.not_lt.2 (Nat.le_add_left 1 n0))) | (intro i0 hi0; match i0, hi0 with | 0, _ => exact ⟨_, rfl⟩ | 1, _ => exact ⟨_, rfl⟩ | n0+2, h0 => exact absurd h0 (Nat.not_lt.2 (Nat.le_add_left 2 n0))) | (intro i0 hi0; match i0, hi0 with | 0, _ => exact ⟨_, rfl⟩ | 1, _ => exact ⟨_, rfl⟩ | 2, _ => exact ⟨_, rfl⟩ | n0+3, h0 => exact absurd h0 (Nat.not_lt.2 (Nat.le_add_left 3 n0))) | (intro i0 hi0; match i0, hi0 with | 0, _ => exact ⟨_, rfl⟩ | 1, _ => exact ⟨_, rfl⟩ | 2, _ => exact ⟨_, rfl⟩ | 3, _ => exact ⟨_, rfl⟩ | n0+4, h0 => exact absurd h0 (Nat.not_lt.2 (Nat.le_add_left 4 n0)))) (by simp [gL, lk, frzL_appV, frzL_md, hsB, ixB, belL_app, renL_app, dv_one, belL_md, renL_md]))⟩
      · have he : addC (fun a => cntF ((co, ca, cf), crs) a == 1) [] x = [] := by simp [addC, h1]
        rw [he] at hone
        repeat' (first | (refine AW.sreg rfl fun K hK => ?_; simp only [go_sem, Nat.reduceAdd, Nat.reduceMul, Int.reduceToNat, Nat.reduceLT, Nat.reduceLeDiff, Nat.le_refl, Nat.reduceEqDiff, ↓reduceIte, beq_self_eq_true, bne_self_eq_false, Int.reduceBEq, Int.reduceBNe, or_self, true_or, or_true, Option.map_some, Option.map_none, List.length_map, hget, Int.toNat_zero, hf1, h1, List.nil_append, List.getElem?_cons_zero, List.set_cons_zero]) | (refine AW.sregD hmix rfl fun K hK => ?_; simp only [go_sem, Nat.reduceAdd, Nat.reduceMul, Int.reduceToNat, Nat.reduceLT, Nat.reduceLeDiff, Nat.le_refl, Nat.reduceEqDiff, ↓reduceIte, beq_self_eq_true, bne_self_eq_false, Int.reduceBEq, Int.reduceBNe, or_self, true_or, or_true, Option.map_some, Option.map_none, List.length_map, hget, Int.toNat_zero, hf1, h1, List.nil_append, List.getElem?_cons_zero, List.set_cons_zero]) | (refine AW.reg rfl ?_; simp only [go_sem, Nat.reduceAdd, Nat.reduceMul, Int.reduceToNat, Nat.reduceLT, Nat.reduceLeDiff, Nat.le_refl, Nat.reduceEqDiff, ↓reduceIte, beq_self_eq_true, bne_self_eq_false, Int.reduceBEq, Int.reduceBNe, or_self, true_or, or_true, Option.map_some, Option.map_none, List.length_map, hget, Int.toNat_zero, hf1, h1, List.nil_append, List.getElem?_cons_zero, List.set_cons_zero]) | (refine AW.seq_k fun K hK => ?_) | (refine AW.block ?_) | (refine AW.skip ?_; simp only [Then, InBlock]) | (refine AW.condT rfl (by first | rfl | (simp; omega) | (simp [*]; done) | fail) ?_) | (refine AW.condF rfl (by first | rfl | (simp; omega) | (simp [*]; done) | fail) ?_) | (refine hK _ ?_; clear hK K) | (with_reducible refine And.intro (?_ : regOk _ _ = true) ?_; kernel_rfl) | (refine run_call _ _ _ ((hcnt).pure rfl rfl _ _) rfl rfl (dstOk_of rfl) rfl rfl rfl ?_; simp only [go_sem, Nat.reduceAdd, Nat.reduceMul, Int.reduceToNat, Nat.reduceLT, Nat.reduceLeDiff, Nat.le_refl, Nat.reduceEqDiff, ↓reduceIte, beq_self_eq_true, bne_self_eq_false, Int.reduceBEq, Int.reduceBNe, or_self, true_or, or_true, Option.map_some, Option.map_none, List.length_map, hget, Int.toNat_zero, hf1, h1, List.nil_append, List.getElem?_cons_zero, List.set_cons_zero]) | (with_reducible refine And.intro ?_ ?_; first | omega | assumption | (focus (decide)) | (focus (simp; done)) | (focus (simp; omega)) | (focus (constructor <;> omega)) | fail))
        exact ⟨some (1, [], x.1, []), ⟨by simp, hi, by simp only [htk]; exact hone, ⟨x, hx, rfl⟩⟩, by simp only [ixB]; omega, (Weak.objs hcx [(192, 192), (448, 448), (0, 0), (449, 1600)] rfl rfl (Nat.le_of_ble_eq_true rfl) (by simp [go_sem, gL, kL, List.map_append, dv_push, frzL_appV, frzL_md, hsB, ixB, belL_app, renL_app, dv_one, belL_md, renL_md]) (by simp [go_sem, gL, kL, List.map_append, dv_push, frzL_appV, frzL_md, hsB, ixB, belL_app, renL_app, dv_one, belL_md, renL_md]) (by first | (intro i hi; exact absurd hi (Nat.not_lt_zero _)) | (intro i0 hi0; match i0, hi0 with | 0, _ => exact ⟨_, rfl⟩ | n0+1, h0 => exact absurd h0 (Nat.not_lt.2 (Nat.le_add_left 1 n0))) | (intro i0 hi0; match i0, hi0 with | 0, _ => exact ⟨_, rfl⟩ | 1, _ => exact ⟨_, rfl⟩ | n0+2, h0 => exact absurd h0 (Nat.not_lt.2 (Nat.le_add_left 2 n0))) | (intro i0 hi0; match i0, hi0 with | 0, _ => exact ⟨_, rfl⟩ | 1, _ => exact ⟨_, rfl⟩ | 2, _ => exact ⟨_, rfl⟩ | n0+3, h0 => exact absurd h0 (Nat.not_lt.2 (Nat.le_add_left 3 n0))) | (intro i0 hi0; match i0, hi0 with | 0, _ => exact ⟨_, rfl⟩ | 1, _ => exact ⟨_, rfl⟩ | 2, _ => exact ⟨_, rfl⟩ | 3, _ => exact ⟨_, rfl⟩ | n0+4, h0 => exact absurd h0 (Nat.not_lt.2 (Nat.le_add_left 4 n0)))) (by simp [gL, lk, frzL_appV, frzL_md, hsB, ixB, belL_app, renL_app, dv_one, belL_md, renL_md]))⟩
    · have h0 : SS = [] := List.length_eq_zero_iff.1 (by omega)
      subst h0
      repeat' (first | (refine AW.sreg rfl fun K hK => ?_; simp only [go_sem, Nat.reduceAdd, Nat.reduceMul, Int.reduceToNat, Nat.reduceLT, Nat.reduceLeDiff, Nat.le_refl, Nat.reduceEqDiff, ↓reduceIte, beq_self_eq_true, bne_self_eq_false, Int.reduceBEq, Int.reduceBNe, or_self, true_or, or_true, Option.map_some, Option.map_none, List.length_map]) | (refine AW.seq_k fun K hK => ?_) | (refine AW.exit ?_; simp only [go_sem, ↓reduceIte]) | (refine AW.condF rfl (by first | rfl | (simp; omega) | (simp [*]; done) | fail) ?_) | (refine hK _ ?_; clear hK K) | (clear hK K; refine hK _ ?_; clear hK K))
      exact AW.ret ⟨([], []), ByOk.nil, Fin.data rfl (by simp [go_sem]) rfl⟩
  · obtain ⟨g1, g2, g3, ⟨y, hy, hyk⟩⟩ := hI
    simp only [hsB, ixB] at g1 g2 g3 hy hyk ⊢
    by_cases hi : i < SS.length
    · obtain ⟨x, hx, hxm, hxd⟩ := get_some hi
      have hget := hgd hx
      have htk : SS.take (i + 1) = SS.take i ++ [x] := by rw [List.take_add_one, hx]; rfl
      have hcnt := counts_any _ hc x
      have hlt : ltC cpA y x = true := by
        have h2 := List.pairwise_iff_getElem.1 hSr (i - 1) i (by omega) hi (by omega)
        rw [List.getElem?_eq_getElem (by omega)] at hy hx
        simp only [Option.some.injEq] at hy hx
        rwa [hy, hx] at h2
      have htl : List.take ps.length (dv (ps.map arD)) = dv (ps.map arD) := List.take_of_length_le (by simp [dv])
      have hps : ps.length ≤ 12 := by
        have := grp_len (cnt := (fun a => cntF ((co, ca, cf), crs) a == 1)) (SS.take i) k
        rw [g3.cur, List.length_take] at this
        omega
      by_cases hk : x.1 = k
      · have hsame := g3.same hk
        have hf := lm_at g3.keys
        rw [← hk] at hf
        have hgv : ∀ v : V, ((gs.map fun g => V.d (grD g)) ++ [v])[gs.length]? = some v := fun v => by simp
        have hst : ∀ v z : V, ((gs.map fun g => V.d (grD g)) ++ [v]).set gs.length z = (gs.map fun g => V.d (grD g)) ++ [z] := by
          intro v z
          have := set_mid (gs.map fun g => V.d (grD g)) v [] z
          simpa using this
        subst hk
        by_cases h1 : cntF ((co, ca, cf), crs) x = 1
        · rw [h1] at hcnt
          have he : addC (fun a => cntF ((co, ca, cf), crs) a == 1) ps x = ps ++ [x] := by simp [addC, h1]
          rw [he] at hsame
          repeat' (first | (refine AW.sreg rfl fun K hK => ?_; simp only [go_sem, Nat.reduceAdd, Nat.reduceMul, Int.reduceToNat, Nat.reduceLT, Nat.reduceLeDiff, Nat.le_refl, Nat.reduceEqDiff, ↓reduceIte, beq_self_eq_true, bne_self_eq_false, Int.reduceBEq, Int.reduceBNe, or_self, true_or, or_true, Option.map_some, Option.map_none, List.length_map, hget, hf, hgv, hst, htl, List.append_nil, Nat.add_zero, dv_length]) | (refine AW.sregD hmix rfl fun K hK => ?_; simp only [go_sem, Nat.reduceAdd, Nat.reduceMul, Int.reduceToNat, Nat.reduceLT, Nat.reduceLeDiff, Nat.le_refl, Nat.reduceEqDiff, ↓reduceIte, beq_self_eq_true, bne_self_eq_false, Int.reduceBEq, Int.reduceBNe, or_self, true_or, or_true, Option.map_some, Option.map_none, List.length_map, hget, hf, hgv, hst, htl, List.append_nil, Nat.add_zero, dv_length]) | (refine AW.reg rfl ?_; simp only [go_sem, Nat.reduceAdd, Nat.reduceMul, Int.reduceToNat, Nat.reduceLT, Nat.reduceLeDiff, Nat.le_refl, Nat.reduceEqDiff, ↓reduceIte, beq_self_eq_true, bne_self_eq_false, Int.reduceBEq, Int.reduceBNe, or_self, true_or, or_true, Option.map_some, Option.map_none, List.length_map, hget, hf, hgv, hst, htl, List.append_nil, Nat.add_zero, dv_length]) | (refine AW.regD hmix rfl ?_; simp only [go_sem, Nat.reduceAdd, Nat.reduceMul, Int.reduceToNat, Nat.reduceLT, Nat.reduceLeDiff, Nat.le_refl, Nat.reduceEqDiff, ↓reduceIte, beq_self_eq_true, bne_self_eq_false, Int.reduceBEq, Int.reduceBNe, or_self, true_or, or_true, Option.map_some, Option.map_none, List.length_map, hget, hf, hgv, hst, htl, List.append_nil, Nat.add_zero, dv_length]) | (refine AW.seq_k fun K hK => ?_) | (refine AW.block ?_) | (refine AW.skip ?_; simp only [Then, InBlock]) | (refine AW.condT rfl (by first | rfl | (simp; omega) | (simp [*]; done) | fail) ?_) | (refine hK _ ?_; clear hK K) | (with_reducible refine And.intro (?_ : regOk _ _ = true) ?_; kernel_rfl) | (refine run_call _ _ _ ((hcnt).pure rfl rfl _ _) rfl rfl (dstOk_of rfl) rfl rfl rfl ?_; simp only [go_sem, Nat.reduceAdd, Nat.reduceMul, Int.reduceToNat, Nat.reduceLT, Nat.reduceLeDiff, Nat.le_refl, Nat.reduceEqDiff, ↓reduceIte, beq_self_eq_true, bne_self_eq_false, Int.reduceBEq, Int.reduceBNe, or_self, true_or, or_true, Option.map_some, Option.map_none, List.length_map, hget, hf, hgv, hst, htl, List.append_nil, Nat.add_zero, dv_length]) | (with_reducible refine And.intro ?_ ?_; first | omega | assumption | (focus (decide)) | (focus (simp; done)) | (focus (simp; omega)) | (focus (constructor <;> omega)) | fail))
          exact ⟨some (i + 1, gs, x.1, ps ++ [x]), ⟨by simp, hi, by simp only [htk]; exact hsame, ⟨x, by simpa using hx, rfl⟩⟩, by simp only [ixB]; omega, (Weak.objs hcx [(192, 192), (448, 448), (0, 0), (449, 2560)] rfl rfl (Nat.le_of_ble_eq_true rfl) (by simp [go_sem, gL, kL, List.map_append, dv_push, frzL_appV, frzL_md, hsB, ixB, belL_app, renL_app, dv_one, belL_md, renL_md]) (by simp [go_sem, gL, kL, List.map_append, dv_push, frzL_appV, frzL_md, hsB, ixB, belL_app, renL_app, dv_one, belL_md, renL_md]) (by first | (intro i hi; exact absurd hi (Nat.not_lt_zero _)) | (intro i0 hi0; match i0, hi0 with | 0, _ => exact ⟨_, rfl⟩ | n0+1, h0 => exact absurd h0 (Nat.not_lt.2 (Nat.le_add_left 1 n0))) | (intro i0 hi0; match i0, hi0 with | 0, _ => exact ⟨_, rfl⟩ | 1, _ => exact ⟨_, rfl⟩ | n0+2, h0 => exact absurd h0 (Nat.not_lt.2 (Nat.le_add_left 2 n0))) | (intro i0 hi0; match i0, hi0 with | 0, _ => exact ⟨_, rfl⟩ | 1, _ => exact ⟨_, rfl⟩ | 2, _ => exact ⟨_, rfl⟩ | n0+3, h0 => exact absurd h0 (Nat.not_lt.2 (Nat.le_add_left 3 n0))) | (intro i0 hi0; match i0, hi0 with | 0, _ => exact ⟨_, rfl⟩ | 1, _ => exact ⟨_, rfl⟩ | 2, _ => exact ⟨_, rfl⟩ | 3, _ => exact ⟨_, rfl⟩ | n0+4, h0 => exact absurd h0 (Nat.not_lt.2 (Nat.le_add_left 4 n0)))) (by simp [gL, lk, frzL_appV, frzL_md, hsB, ixB, belL_app, renL_app, dv_one, belL_md, renL_md]))⟩
        · have he : addC (fun a => cntF ((co, ca, cf), crs) a == 1) ps x = ps := by simp [addC, h1]
          rw [he] at hsame
          repeat' (first | (refine AW.sreg rfl fun K hK => ?_; simp only [go_sem, Nat.reduceAdd, Nat.reduceMul, Int.reduceToNat, Nat.reduceLT, Nat.reduceLeDiff, Nat.le_refl, Nat.reduceEqDiff, ↓reduceIte, beq_self_eq_true, bne_self_eq_false, Int.reduceBEq, Int.reduceBNe, or_self, true_or, or_true, Option.map_some, Option.map_none, List.length_map, hget, hf, hgv, hst, htl, h1, List.append_nil, Nat.add_zero, dv_length]) | (refine AW.sregD hmix rfl fun K hK => ?_; simp only [go_sem, Nat.reduceAdd, Nat.reduceMul, Int.reduceToNat, Nat.reduceLT, Nat.reduceLeDiff, Nat.le_refl, Nat.reduceEqDiff, ↓reduceIte, beq_self_eq_true, bne_self_eq_false, Int.reduceBEq, Int.reduceBNe, or_self, true_or, or_true, Option.map_some, Option.map_none, List.length_map, hget, hf, hgv, hst, htl, h1, List.append_nil, Nat.add_zero, dv_length]) | (refine AW.reg rfl ?_; simp only [go_sem, Nat.reduceAdd, Nat.reduceMul, Int.reduceToNat, Nat.reduceLT, Nat.reduceLeDiff, Nat.le_refl, Nat.reduceEqDiff, ↓reduceIte, beq_self_eq_true, bne_self_eq_false, Int.reduceBEq, Int.reduceBNe, or_self, true_or, or_true, Option.map_some, Option.map_none, List.length_map, hget, hf, hgv, hst, htl, h1, List.append_nil, Nat.add_zero, dv_length]) | (refine AW.seq_k fun K hK => ?_) | (refine AW.block ?_) | (refine AW.skip ?_; simp only [Then, InBlock]) | (refine AW.condT rfl (by first | rfl | (simp; omega) | (simp [*]; done) | fail) ?_) | (refine AW.condF rfl (by first | rfl | (simp; omega) | (simp [*]; done) | fail) ?_) | (refine hK _ ?_; clear hK K) | (with_reducible refine And.intro (?_ : regOk _ _ = true) ?_; kernel_rfl) | (refine run_call _ _ _ ((hcnt).pure rfl rfl _ _) rfl rfl (dstOk_of rfl) rfl rfl rfl ?_; simp only [go_sem, Nat.reduceAdd, Nat.reduceMul, Int.reduceToNat, Nat.reduceLT, Nat.reduceLeDiff, Nat.le_refl, Nat.reduceEqDiff, ↓reduceIte, beq_self_eq_true, bne_self_eq_false, Int.reduceBEq, Int.reduceBNe, or_self, true_or, or_true, Option.map_some, Option.map_none, List.length_map, hget, hf, hgv, hst, htl, h1, List.append_nil, Nat.add_zero, dv_length]) | (with_reducible refine And.intro ?_ ?_; first | omega | assumption | (focus (decide)) | (focus (simp; done)) | (focus (simp; omega)) | (focus (constructor <;> omega)) | fail))
          exact ⟨some (i + 1, gs, x.1, ps), ⟨by simp, hi, by simp only [htk]; exact hsame, ⟨x, by simpa using hx, rfl⟩⟩, by simp only [ixB]; omega, (Weak.objs hcx [(192, 192), (448, 448), (0, 0), (449, 1600)] rfl rfl (Nat.le_of_ble_eq_true rfl) (by simp [go_sem, gL, kL, List.map_append, dv_push, frzL_appV, frzL_md, hsB, ixB, belL_app, renL_app, dv_one, belL_md, renL_md]) (by simp [go_sem, gL, kL, List.map_append, dv_push, frzL_appV, frzL_md, hsB, ixB, belL_app, renL_app, dv_one, belL_md, renL_md]) (by first | (intro i hi; exact absurd hi (Nat.not_lt_zero _)) | (intro i0 hi0; match i0, hi0 with | 0, _ => exact ⟨_, rfl⟩ | n0+1, h0 => exact absurd h0 (Nat.not_lt.2 (Nat.le_add_left 1 n0))) | (intro i0 hi0; match i0, hi0 with | 0, _ => exact ⟨_, rfl⟩ | 1, _ => exact ⟨_, rfl⟩ | n0+2, h0 => exact absurd h0 (Nat.not_lt.2 (Nat.le_add_left 2 n0))) | (intro i0 hi0; match i0, hi0 with | 0, _ => exact ⟨_, rfl⟩ | 1, _ => exact ⟨_, rfl⟩ | 2, _ => exact ⟨_, rfl⟩ | n0+3, h0 => exact absurd h0 (Nat.not_lt.2 (Nat.le_add_left 3 n0))) | (intro i0 hi0; match i0, hi0 with | 0, _ => exact ⟨_, rfl⟩ | 1, _ => exact ⟨_, rfl⟩ | 2, _ => exact ⟨_, rfl⟩ | 3, _ => exact ⟨_, rfl⟩ | n0+4, h0 => exact absurd h0 (Nat.not_lt.2 (Nat.le_add_left 4 n0)))) (by simp [gL, lk, frzL_appV, frzL_md, hsB, ixB, belL_app, renL_app, dv_one, belL_md, renL_md]))⟩
      · have hlt2 : ltS k x.1 = true := by
          rcases ltA_key hlt with h | h
          · exact absurd (h.symm.trans hyk) hk
          · rw [← hyk]; exact h
        have hnext := g3.next hlt2
        have hf := lm_no g3.keys hlt2
        have hf2 : fndK (.str x.1) (((gs.map fun g => D.str g.1) ++ [.str k]) ++ [.str x.1]) = some (some (gs.length + 1)) := by
          have := lm_at hnext.keys
          simpa using this
        have hgv : ∀ v w : V, (((gs.map fun g => V.d (grD g)) ++ [v]) ++ [w])[gs.length + 1]? = some w := fun v w => by
          have := get_mid ((gs.map fun g => V.d (grD g)) ++ [v]) w []
          simpa using this
        have hst : ∀ v w z : V, (((gs.map fun g => V.d (grD g)) ++ [v]) ++ [w]).set (gs.length + 1) z = ((gs.map fun g => V.d (grD g)) ++ [v]) ++ [z] := by
          intro v w z
          have := set_mid ((gs.map fun g => V.d (grD g)) ++ [v]) w [] z
          simpa using this
        by_cases h1 : cntF ((co, ca, cf), crs) x = 1
        · rw [h1] at hcnt
          have he : addC (fun a => cntF ((co, ca, cf), crs) a == 1) [] x = [x] := by simp [addC, h1]
          rw [he] at hnext
          repeat' (first | (refine AW.sreg rfl fun K hK => ?_; simp only [go_sem, Nat.reduceAdd, Nat.reduceMul, Int.reduceToNat, Nat.reduceLT, Nat.reduceLeDiff, Nat.le_refl, Nat.reduceEqDiff, ↓reduceIte, beq_self_eq_true, bne_self_eq_false, Int.reduceBEq, Int.reduceBNe, or_self, true_or, or_true, Option.map_some, Option.map_none, List.length_map, hget, hf, hf2, hgv, hst, htl, List.append_nil, Nat.add_zero, dv_length, List.nil_append]) | (refine AW.sregD hmix rfl fun K hK => ?_; simp only [go_sem, Nat.reduceAdd, Nat.reduceMul, Int.reduceToNat, Nat.reduceLT, Nat.reduceLeDiff, Nat.le_refl, Nat.reduceEqDiff, ↓reduceIte, beq_self_eq_true, bne_self_eq_false, Int.reduceBEq, Int.reduceBNe, or_self, true_or, or_true, Option.map_some, Option.map_none, List.length_map, hget, hf, hf2, hgv, hst, htl, List.append_nil, Nat.add_zero, dv_length, List.nil_append]) | (refine AW.reg rfl ?_; simp only [go_sem, Nat.reduceAdd, Nat.reduceMul, Int.reduceToNat, Nat.reduceLT, Nat.reduceLeDiff, Nat.le_refl, Nat.reduceEqDiff, ↓reduceIte, beq_self_eq_true, bne_self_eq_false, Int.reduceBEq, Int.reduceBNe, or_self, true_or, or_true, Option.map_some, Option.map_none, List.length_map, hget, hf, hf2, hgv, hst, htl, List.append_nil, Nat.add_zero, dv_length, List.nil_append]) | (refine AW.regD hmix rfl ?_; simp only [go_sem, Nat.reduceAdd, Nat.reduceMul, Int.reduceToNat, Nat.reduceLT, Nat.reduceLeDiff, Nat.le_refl, Nat.reduceEqDiff, ↓reduceIte, beq_self_eq_true, bne_self_eq_false, Int.reduceBEq, Int.reduceBNe, or_self, true_or, or_true, Option.map_some, Option.map_none, List.length_map, hget, hf, hf2, hgv, hst, htl, List.append_nil, Nat.add_zero, dv_length, List.nil_append]) | (refine AW.seq_k fun K hK => ?_) | (refine AW.block ?_) | (refine AW.skip ?_; simp only [Then, InBlock]) | (refine AW.condT rfl (by first | rfl | (simp; omega) | (simp [*]; done) | fail) ?_) | (refine hK _ ?_; clear hK K) | (with_reducible refine And.intro (?_ : regOk _ _ = true) ?_; kernel_rfl) | (refine run_call _ _ _ ((hcnt).pure rfl rfl _ _) rfl rfl (dstOk_of rfl) rfl rfl rfl ?_; simp only [go_sem, Nat.reduceAdd, Nat.reduceMul, Int.reduceToNat, Nat.reduceLT, Nat.reduceLeDiff, Nat.le_refl, Nat.reduceEqDiff, ↓reduceIte, beq_self_eq_true, bne_self_eq_false, Int.reduceBEq, Int.reduceBNe, or_self, true_or, or_true, Option.map_some, Option.map_none, List.length_map, hget, hf, hf2, hgv, hst, htl, List.append_nil, Nat.add_zero, dv_length, List.nil_append]) | (with_reducible refine And.intro ?_ ?_; first | omega | assumption | (focus (decide)) | (focus (simp; done)) | (focus (simp; omega)) | (focus (constructor <;> omega)) | fail))
          exact ⟨some (i + 1, gs ++ [(k, ps)], x.1, [x]), ⟨by simp, hi, by simp only [htk]; exact hnext, ⟨x, by simpa using hx, rfl⟩⟩, by simp only [ixB]; omega, (Weak.objs hcx [(192, 192), (448, 448), (0, 0), (449, 2560)] rfl rfl (Nat.le_of_ble_eq_true rfl) (by simp [go_sem, gL, kL, List.map_append, dv_push, toDL_dvF, htl, frzL_appV, frzL_md, hsB, ixB, belL_app, renL_app, dv_one, belL_md, renL_md]) (by simp [go_sem, gL, kL, List.map_append, dv_push, toDL_dvF, htl, frzL_appV, frzL_md, hsB, ixB, belL_app, renL_app, dv_one, belL_md, renL_md]) (by first | (intro i hi; exact absurd hi (Nat.not_lt_zero _)) | (intro i0 hi0; match i0, hi0 with | 0, _ => exact ⟨_, rfl⟩ | n0+1, h0 => exact absurd h0 (Nat.not_lt.2 (Nat.le_add_left 1 n0))) | (intro i0 hi0; match i0, hi0 with | 0, _ => exact ⟨_, rfl⟩ | 1, _ => exact ⟨_, rfl⟩ | n0+2, h0 => exact absurd h0 (Nat.not_lt.2 (Nat.le_add_left 2 n0))) | (intro i0 hi0; match i0, hi0 with | 0, _ => exact ⟨_, rfl⟩ | 1, _ => exact ⟨_, rfl⟩ | 2, _ => exact ⟨_, rfl⟩ | n0+3, h0 => exact absurd h0 (Nat.not_lt.2 (Nat.le_add_left 3 n0))) | (intro i0 hi0; match i0, hi0 with | 0, _ => exact ⟨_, rfl⟩ | 1, _ => exact ⟨_, rfl⟩ | 2, _ => exact ⟨_, rfl⟩ | 3, _ => exact ⟨_, rfl⟩ | n0+4, h0 => exact absurd h0 (Nat.not_lt.2 (Nat.le_add_left 4 n0)))) (by simp [gL, lk, toDL_dvF, htl, frzL_appV, frzL_md, hsB, ixB, belL_app, renL_app, dv_one, belL_md, renL_md]))⟩
        · have he : addC (fun a => cntF ((co, ca, cf), crs) a == 1) [] x = [] := by simp [addC, h1]
          rw [he] at hnext
          repeat' (first | (refine AW.sreg rfl fun K hK => ?_; simp only [go_sem, Nat.reduceAdd, Nat.reduceMul, Int.reduceToNat, Nat.reduceLT, Nat.reduceLeDiff, Nat.le_refl, Nat.reduceEqDiff, ↓reduceIte, beq_self_eq_true, bne_self_eq_false, Int.reduceBEq, Int.reduceBNe, or_self, true_or, or_true, Option.map_some, Option.map_none, List.length_map, hget, hf, hf2, hgv, hst, htl, h1, List.append_nil, Nat.add_zero, dv_length, List.nil_append]) | (refine AW.sregD hmix rfl fun K hK => ?_; simp only [go_sem, Nat.reduceAdd, Nat.reduceMul, Int.reduceToNat, Nat.reduceLT, Nat.reduceLeDiff, Nat.le_refl, Nat.reduceEqDiff, ↓reduceIte, beq_self_eq_true, bne_self_eq_false, Int.reduceBEq, Int.reduceBNe, or_self, true_or, or_true, Option.map_some, Option.map_none, List.length_map, hget, hf, hf2, hgv, hst, htl, h1, List.append_nil, Nat.add_zero, dv_length, List.nil_append]) | (refine AW.reg rfl ?_; simp only [go_sem, Nat.reduceAdd, Nat.reduceMul, Int.reduceToNat, Nat.reduceLT, Nat.reduceLeDiff, Nat.le_refl, Nat.reduceEqDiff, ↓reduceIte, beq_self_eq_true, bne_self_eq_false, Int.reduceBEq, Int.reduceBNe, or_self, true_or, or_true, Option.map_some, Option.map_none, List.length_map, hget, hf, hf2, hgv, hst, htl, h1, List.append_nil, Nat.add_zero, dv_length, List.nil_append]) | (refine AW.seq_k fun K hK => ?_) | (refine AW.block ?_) | (refine AW.skip ?_; simp only [Then, InBlock]) | (refine AW.condT rfl (by first | rfl | (simp; omega) | (simp [*]; done) | fail) ?_) | (refine AW.condF rfl (by first | rfl | (simp; omega) | (simp [*]; done) | fail) ?_) | (refine hK _ ?_; clear hK K) | (with_reducible refine And.intro (?_ : regOk _ _ = true) ?_; kernel_rfl) | (refine run_call _ _ _ ((hcnt).pure rfl rfl _ _) rfl rfl (dstOk_of rfl) rfl rfl rfl ?_; simp only [go_sem, Nat.reduceAdd, Nat.reduceMul, Int.reduceToNat, Nat.reduceLT, Nat.reduceLeDiff, Nat.le_refl, Nat.reduceEqDiff, ↓reduceIte, beq_self_eq_true, bne_self_eq_false, Int.reduceBEq, Int.reduceBNe, or_self, true_or, or_true, Option.map_some, Option.map_none, List.length_map, hget, hf, hf2, hgv, hst, htl, h1, List.append_nil, Nat.add_zero, dv_length, List.nil_append]) | (with_reducible refine And.intro ?_ ?_; first | omega | assumption | (focus (decide)) | (focus (simp; done)) | (focus (simp; omega)) | (focus (constructor <;> omega)) | fail))
          exact ⟨some (i + 1, gs ++ [(k, ps)], x.1, []), ⟨by simp, hi, by simp only [htk]; exact hnext, ⟨x, by simpa using hx, rfl⟩⟩, by simp only [ixB]; omega, (Weak.objs hcx [(192, 192), (448, 448), (0, 0), (449, 1600)] rfl rfl (Nat.le_of_ble_eq_true rfl) (by simp [go_sem, gL, kL, List.map_append, dv_push, toDL_dvF, htl, frzL_appV, frzL_md, hsB, ixB, belL_app, renL_app, dv_one, belL_md, renL_md]) (by simp [go_sem, gL, kL, List.map_append, dv_push, toDL_dvF, htl, frzL_appV, frzL_md, hsB, ixB, belL_app, renL_app, dv_one, belL_md, renL_md]) (by first | (intro i hi; exact absurd hi (Nat.not_lt_zero _)) | (intro i0 hi0; match i0, hi0 with | 0, _ => exact ⟨_, rfl⟩ | n0+1, h0 => exact absurd h0 (Nat.not_lt.2 (Nat.le_add_left 1 n0))) | (intro i0 hi0; match i0, hi0 with | 0, _ => exact ⟨_, rfl⟩ | 1, _ => exact ⟨_, rfl⟩ | n0+2, h0 => exact absurd h0 (Nat.not_lt.2 (Nat.le_add_left 2 n0))) | (intro i0 hi0; match i0, hi0 with | 0, _ => exact ⟨_, rfl⟩ | 1, _ => exact ⟨_, rfl⟩ | 2, _ => exact ⟨_, rfl⟩ | n0+3, h0 => exact absurd h0 (Nat.not_lt.2 (Nat.le_add_left 3 n0))) | (intro i0 hi0; match i0, hi0 with | 0, _ => exact ⟨_, rfl⟩ | 1, _ => exact ⟨_, rfl⟩ | 2, _ => exact ⟨_, rfl⟩ | 3, _ => exact ⟨_, rfl⟩ | n0+4, h0 => exact absurd h0 (Nat.not_lt.2 (Nat.le_add_left 4 n0)))) (by simp [gL, lk, toDL_dvF, htl, frzL_appV, frzL_md, hsB, ixB, belL_app, renL_app, dv_one, belL_md, renL_md]))⟩
    · obtain rfl : i = SS.length := by omega
      rw [List.take_length] at g3
      repeat' (first | (refine AW.sreg rfl fun K hK => ?_; simp only [go_sem, Nat.reduceAdd, Nat.reduceMul, Int.reduceToNat, Nat.reduceLT, Nat.reduceLeDiff, Nat.le_refl, Nat.reduceEqDiff, ↓reduceIte, beq_self_eq_true, bne_self_eq_false, Int.reduceBEq, Int.reduceBNe, or_self, true_or, or_true, Option.map_some, Option.map_none, List.length_map]) | (refine AW.seq_k fun K hK => ?_) | (refine AW.exit ?_; simp only [go_sem, ↓reduceIte]) | (refine AW.condF rfl (by first | rfl | (simp; omega) | (simp [*]; done) | fail) ?_) | (refine hK _ ?_; clear hK K) | (clear hK K; refine hK _ ?_; clear hK K))
      exact AW.ret ⟨((gs ++ [(k, ps)]).map (·.1), (gs ++ [(k, ps)]).map grD), g3.done, Fin.data rfl (frz_lm (e := 37) rfl rfl rfl rfl rfl) rfl⟩
end Go.AX

namespace Go.AX
open Go Go.Proofs Go.RowKit
abbrev enD (e : En) : D := .agg [.str e.1, .int .i64 e.2.1, .str e.2.2.1, .str e.2.2.2.1, .int .i64 e.2.2.2.2]
def ptD : Option Ar → D
  | none => .nilp
  | some a => .ptr [.str a.1, .int .i64 a.2.1, .int .i64 a.2.2.1, .str a.2.2.2.1, .str a.2.2.2.2] 0
theorem en_size (h : 45 < Tryz.prog.types.size) : (Tryz.prog.types[45]'h).size = 5 := by kernel_rfl
theorem entryOf_any (xs : List Ar) (hl : xs.length ≤ 100) (hk : ∀ a ∈ xs, 1 ≤ a.2.2.1 ∧ a.2.2.1 ≤ 3) (id : Str) (t : Int) :
    Does Tryz.prog 40 [.d (.sl (xs.map arD)), S id, I t] [] (.d (enD (entF xs id t))) [] := by
  refine Does.of_AW (n := 93) Tryz.func40 rfl rfl rfl fun cx hcx => ?_
  repeat' (first | (refine AW.sreg rfl fun K hK => ?_; simp only [go_sem, Nat.reduceAdd, Nat.reduceMul, Int.reduceToNat, Nat.reduceLT, Nat.reduceLeDiff, Nat.le_refl, Nat.reduceEqDiff, ↓reduceIte, beq_self_eq_true, bne_self_eq_false, Int.reduceBEq, Int.reduceBNe, or_self, true_or, or_true, Option.map_some, Option.map_none, List.length_map]) | (refine AW.seq_k fun K hK => ?_) | (refine AW.block ?_) | (refine hK _ ?_; clear hK K))
  refine AW.loopF (ι := Nat) [0, 2, 6, 7, 8, 17] (fun p => [(18, I p)]) (fun p => [(0, some (O.box 45 [S [], I 0, S [], S [], I 0])), (192, some (O.box 45 [S id, I 1, S [], S [], I 0])), (320, some (O.box 104 [.d .nilp, .d (ptD (lastK 1 t (xs.take p))), .d (ptD (lastK 2 t (xs.take p))), .d (ptD (lastK 3 t (xs.take p)))]))]) 9 (fun p => p ≤ xs.length) (fun p => xs.length - p) 0 (Nat.zero_le _) (Weak.objs hcx [(0, 0), (192, 192), (320, 320)] rfl rfl (Nat.le_of_ble_eq_true rfl) (by simp [go_sem, gL, kL, List.map_append, dv_push, lastK, ptD, List.take_zero, List.filter_nil, List.getLast?_nil]) (by simp [go_sem, gL, kL, List.map_append, dv_push, lastK, ptD, List.take_zero, List.filter_nil, List.getLast?_nil]) (by first | (intro i hi; exact absurd hi (Nat.not_lt_zero _)) | (intro i0 hi0; match i0, hi0 with | 0, _ => exact ⟨_, rfl⟩ | n0+1, h0 => exact absurd h0 (Nat.not_lt.2 (Nat.le_add_left 1 n0))) | (intro i0 hi0; match i0, hi0 with | 0, _ => exact ⟨_, rfl⟩ | 1, _ => exact ⟨_, rfl⟩ | n0+2, h0 => exact absurd h0 (Nat.not_lt.2 (Nat.le_add_left 2 n0))) | (intro i0 hi0; match i0, hi0 with | 0, _ => exact ⟨_, rfl⟩ | 1, _ => exact ⟨_, rfl⟩ | 2, _ => exact ⟨_, rfl⟩ | n0+3, h0 => exact absurd h0 (Nat.not_lt.2 (Nat.le_add_left 3 n0))) | (intro i0 hi0; match i0, hi0 with | 0, _ => exact ⟨_, rfl⟩ | 1, _ => exact ⟨_, rfl⟩ | 2, _ => exact ⟨_, rfl⟩ | 3, _ => exact ⟨_, rfl⟩ | n0+4, h0 => exact absurd h0 (Nat.not_lt.2 (Nat.le_add_left 4 n0)))) (by simp [gL, lk, lastK, ptD, List.take_zero, List.filter_nil, List.getLast?_nil])) ?_; simp only [St.at_nil, St.at_cons, lk, Nat.reduceEqDiff, ↓reduceIte, Option.getD_some, Option.getD_none, List.cons_append, List.nil_append, List.append_nil]
  intro i h1
  by_cases hi : i < xs.length
  · obtain ⟨x, hx, hxm, -⟩ := get_some hi
    have hget : (xs.map arD)[i]? = some (arD x) := by simp [hx]
    have htk : xs.take (i + 1) = xs.take i ++ [x] := by rw [List.take_add_one, hx]; rfl
    have hkx := hk x hxm
    have hsn : ∀ k, lastK k t (xs.take (i + 1)) = if x.2.1 ≤ t ∧ x.2.2.1 = k then some x else lastK k t (xs.take i) := fun k => by rw [htk, lastK_snoc]
    have h1' := hsn 1
    have h2' := hsn 2
    have h3' := hsn 3
    clear hsn
    generalize lastK 1 t (xs.take i) = L1 at *
    generalize lastK 2 t (xs.take i) = L2 at *
    generalize lastK 3 t (xs.take i) = L3 at *
    obtain ⟨xp, xt, xk, xr, xx⟩ := x
    simp only at hkx h1' h2' h3' hget
    by_cases hat : xt ≤ t
    · obtain rfl | rfl | rfl : xk = 1 ∨ xk = 2 ∨ xk = 3 := by omega
      all_goals
        simp only [hat, true_and, Int.reduceEq, ↓reduceIte, and_false, if_false, if_true] at h1' h2' h3'
        repeat' (first | (refine AW.sreg rfl fun K hK => ?_; simp only [go_sem, Nat.reduceAdd, Nat.reduceMul, Int.reduceToNat, Nat.reduceLT, Nat.reduceLeDiff, Nat.le_refl, Nat.reduceEqDiff, ↓reduceIte, beq_self_eq_true, bne_self_eq_false, Int.reduceBEq, Int.reduceBNe, or_self, true_or, or_true, Option.map_some, Option.map_none, List.length_map, hget, hat]) | (refine AW.reg rfl ?_; simp only [go_sem, Nat.reduceAdd, Nat.reduceMul, Int.reduceToNat, Nat.reduceLT, Nat.reduceLeDiff, Nat.le_refl, Nat.reduceEqDiff, ↓reduceIte, beq_self_eq_true, bne_self_eq_false, Int.reduceBEq, Int.reduceBNe, or_self, true_or, or_true, Option.map_some, Option.map_none, List.length_map, hget, hat]) | (refine AW.regD hmix rfl ?_; simp only [go_sem, Nat.reduceAdd, Nat.reduceMul, Int.reduceToNat, Nat.reduceLT, Nat.reduceLeDiff, Nat.le_refl, Nat.reduceEqDiff, ↓reduceIte, beq_self_eq_true, bne_self_eq_false, Int.reduceBEq, Int.reduceBNe, or_self, true_or, or_true, Option.map_some, Option.map_none, List.length_map, hget, hat]) | (refine AW.seq_k fun K hK => ?_) | (refine AW.block ?_) | (refine AW.skip ?_; simp only [Then, InBlock]) | (refine AW.condT rfl (by first | rfl | (simp; omega) | (simp [*]; done) | fail) ?_) | (refine hK _ ?_; clear hK K) | (with_reducible refine And.intro (?_ : regOk _ _ = true) ?_; kernel_rfl) | (with_reducible refine And.intro ?_ ?_; first | omega | assumption | (focus (decide)) | (focus (simp; done)) | (focus (simp; omega)) | (focus (constructor <;> omega)) | fail))
        exact ⟨i + 1, hi, by omega, (Weak.objs hcx [(0, 0), (192, 192), (320, 320)] rfl rfl (Nat.le_of_ble_eq_true rfl) (by simp [go_sem, gL, kL, List.map_append, dv_push, h1', h2', h3', ptD]) (by simp [go_sem, gL, kL, List.map_append, dv_push, h1', h2', h3', ptD]) (by first | (intro i hi; exact absurd hi (Nat.not_lt_zero _)) | (intro i0 hi0; match i0, hi0 with | 0, _ => exact ⟨_, rfl⟩ | n0+1, h0 => exact absurd h0 (Nat.not_lt.2 (Nat.le_add_left 1 n0))) | (intro i0 hi0; match i0, hi0 with | 0, _ => exact ⟨_, rfl⟩ | 1, _ => exact ⟨_, rfl⟩ | n0+2, h0 => exact absurd h0 (Nat.not_lt.2 (Nat.le_add_left 2 n0))) | (intro i0 hi0; match i0, hi0 with | 0, _ => exact ⟨_, rfl⟩ | 1, _ => exact ⟨_, rfl⟩ | 2, _ => exact ⟨_, rfl⟩ | n0+3, h0 => exact absurd h0 (Nat.not_lt.2 (Nat.le_add_left 3 n0))) | (intro i0 hi0; match i0, hi0 with | 0, _ => exact ⟨_, rfl⟩ | 1, _ => exact ⟨_, rfl⟩ | 2, _ => exact ⟨_, rfl⟩ | 3, _ => exact ⟨_, rfl⟩ | n0+4, h0 => exact absurd h0 (Nat.not_lt.2 (Nat.le_add_left 4 n0)))) (by simp [gL, lk, h1', h2', h3', ptD]))⟩
    · simp only [hat, false_and, ↓reduceIte, if_false] at h1' h2' h3'
      repeat' (first | (refine AW.sreg rfl fun K hK => ?_; simp only [go_sem, Nat.reduceAdd, Nat.reduceMul, Int.reduceToNat, Nat.reduceLT, Nat.reduceLeDiff, Nat.le_refl, Nat.reduceEqDiff, ↓reduceIte, beq_self_eq_true, bne_self_eq_false, Int.reduceBEq, Int.reduceBNe, or_self, true_or, or_true, Option.map_some, Option.map_none, List.length_map, hget, hat]) | (refine AW.reg rfl ?_; simp only [go_sem, Nat.reduceAdd, Nat.reduceMul, Int.reduceToNat, Nat.reduceLT, Nat.reduceLeDiff, Nat.le_refl, Nat.reduceEqDiff, ↓reduceIte, beq_self_eq_true, bne_self_eq_false, Int.reduceBEq, Int.reduceBNe, or_self, true_or, or_true, Option.map_some, Option.map_none, List.length_map, hget, hat]) | (refine AW.seq_k fun K hK => ?_) | (refine AW.block ?_) | (refine AW.skip ?_; simp only [Then, InBlock]) | (refine AW.condT rfl (by first | rfl | (simp; omega) | (simp [*]; done) | fail) ?_) | (refine AW.condF rfl (by first | rfl | (simp; omega) | (simp [*]; done) | fail) ?_) | (refine hK _ ?_; clear hK K) | (with_reducible refine And.intro ?_ ?_; first | omega | assumption | (focus (decide)) | (focus (simp; done)) | (focus (simp; omega)) | (focus (constructor <;> omega)) | fail))
      exact ⟨i + 1, hi, by omega, (Weak.objs hcx [(0, 0), (192, 192), (320, 320)] rfl rfl (Nat.le_of_ble_eq_true rfl) (by simp [go_sem, gL, kL, List.map_append, dv_push, h1', h2', h3']) (by simp [go_sem, gL, kL, List.map_append, dv_push, h1', h2', h3']) (by first | (intro i hi; exact absurd hi (Nat.not_lt_zero _)) | (intro i0 hi0; match i0, hi0 with | 0, _ => exact ⟨_, rfl⟩ | n0+1, h0 => exact absurd h0 (Nat.not_lt.2 (Nat.le_add_left 1 n0))) | (intro i0 hi0; match i0, hi0 with | 0, _ => exact ⟨_, rfl⟩ | 1, _ => exact ⟨_, rfl⟩ | n0+2, h0 => exact absurd h0 (Nat.not_lt.2 (Nat.le_add_left 2 n0))) | (intro i0 hi0; match i0, hi0 with | 0, _ => exact ⟨_, rfl⟩ | 1, _ => exact ⟨_, rfl⟩ | 2, _ => exact ⟨_, rfl⟩ | n0+3, h0 => exact absurd h0 (Nat.not_lt.2 (Nat.le_add_left 3 n0))) | (intro i0 hi0; match i0, hi0 with | 0, _ => exact ⟨_, rfl⟩ | 1, _ => exact ⟨_, rfl⟩ | 2, _ => exact ⟨_, rfl⟩ | 3, _ => exact ⟨_, rfl⟩ | n0+4, h0 => exact absurd h0 (Nat.not_lt.2 (Nat.le_add_left 4 n0)))) (by simp [gL, lk, h1', h2', h3']))⟩
  · obtain rfl : i = xs.length := by omega
    rw [List.take_length]
    refine AW.weak (?wk : Weak cx _ (⟨93, [(18, I xs.length), (17, I xs.length), (6, .ptr 0 0), (7, .ptr 192 0), (8, .d (.ptr [.nilp, ptD (lastK 1 t xs), ptD (lastK 2 t xs), ptD (lastK 3 t xs)] 0))], [(0, some (O.box 45 [S [], I 0, S [], S [], I 0])), (192, some (O.box 45 [S id, I 1, S [], S [], I 0]))], 9⟩ : St)) ?_
    case wk => exact (Weak.objs hcx [(0, 0), (192, 192)] rfl rfl (Nat.le_of_ble_eq_true rfl) (by simp [go_sem, gL, kL, List.map_append, dv_push]) (by simp [go_sem, gL, kL, List.map_append, dv_push]) (by first | (intro i hi; exact absurd hi (Nat.not_lt_zero _)) | (intro i0 hi0; match i0, hi0 with | 0, _ => exact ⟨_, rfl⟩ | n0+1, h0 => exact absurd h0 (Nat.not_lt.2 (Nat.le_add_left 1 n0))) | (intro i0 hi0; match i0, hi0 with | 0, _ => exact ⟨_, rfl⟩ | 1, _ => exact ⟨_, rfl⟩ | n0+2, h0 => exact absurd h0 (Nat.not_lt.2 (Nat.le_add_left 2 n0))) | (intro i0 hi0; match i0, hi0 with | 0, _ => exact ⟨_, rfl⟩ | 1, _ => exact ⟨_, rfl⟩ | 2, _ => exact ⟨_, rfl⟩ | n0+3, h0 => exact absurd h0 (Nat.not_lt.2 (Nat.le_add_left 3 n0))) | (intro i0 hi0; match i0, hi0 with | 0, _ => exact ⟨_, rfl⟩ | 1, _ => exact ⟨_, rfl⟩ | 2, _ => exact ⟨_, rfl⟩ | 3, _ => exact ⟨_, rfl⟩ | n0+4, h0 => exact absurd h0 (Nat.not_lt.2 (Nat.le_add_left 4 n0)))) (by simp [gL, lk]))
    cases e1 : lastK 1 t xs with
    | none =>
      have e : entF xs id t = (id, 1, [], [], 0) := by unfold entF; rw [e1]
      rw [e]
      simp only [ptD]
      repeat' (first | (refine AW.sreg rfl fun K hK => ?_; simp only [go_sem, Nat.reduceAdd, Nat.reduceMul, Int.reduceToNat, Nat.reduceLT, Nat.reduceLeDiff, Nat.le_refl, Nat.reduceEqDiff, ↓reduceIte, beq_self_eq_true, bne_self_eq_false, Int.reduceBEq, Int.reduceBNe, or_self, true_or, or_true, Option.map_some, Option.map_none]) | (refine AW.seq_k fun K hK => ?_) | (refine AW.exit ?_; simp only [go_sem, ↓reduceIte]) | (refine AW.condT rfl (by first | rfl | (simp; omega) | (simp [*]; done) | fail) ?_) | (refine AW.condF rfl (by first | rfl | (simp; omega) | (simp [*]; done) | fail) ?_) | (refine hK _ ?_; clear hK K) | (clear hK K; refine hK _ ?_; clear hK K) | (with_reducible refine And.intro ?_ ?_; first | omega | assumption | (focus (decide)) | (focus (simp; done)) | (focus (simp; omega)) | (focus (constructor <;> omega)) | fail))
      exact AW.ret (Fin.data rfl (by simp [go_sem, en_size, e]) rfl)
    | some ab =>
      unfold entF
      rw [e1]
      simp only
      cases e2 : lastK 2 t xs <;> cases e3 : lastK 3 t xs
      all_goals
        simp only [ptD, newer, Option.isSome_none, Option.isSome_some]
        repeat' (first | (refine AW.sreg rfl fun K hK => ?_; simp only [go_sem, Nat.reduceAdd, Nat.reduceMul, Int.reduceToNat, Nat.reduceLT, Nat.reduceLeDiff, Nat.le_refl, Nat.reduceEqDiff, ↓reduceIte, beq_self_eq_true, bne_self_eq_false, Int.reduceBEq, Int.reduceBNe, or_self, true_or, or_true, Option.map_some, Option.map_none, Int.zero_add, Int.reduceAdd]) | (refine AW.sregD hmix rfl fun K hK => ?_; simp only [go_sem, Nat.reduceAdd, Nat.reduceMul, Int.reduceToNat, Nat.reduceLT, Nat.reduceLeDiff, Nat.le_refl, Nat.reduceEqDiff, ↓reduceIte, beq_self_eq_true, bne_self_eq_false, Int.reduceBEq, Int.reduceBNe, or_self, true_or, or_true, Option.map_some, Option.map_none, Int.zero_add, Int.reduceAdd]) | (refine AW.reg rfl ?_; simp only [go_sem, Nat.reduceAdd, Nat.reduceMul, Int.reduceToNat, Nat.reduceLT, Nat.reduceLeDiff, Nat.le_refl, Nat.reduceEqDiff, ↓reduceIte, beq_self_eq_true, bne_self_eq_false, Int.reduceBEq, Int.reduceBNe, or_self, true_or, or_true, Option.map_some, Option.map_none, Int.zero_add, Int.reduceAdd]) | (refine AW.regD hmix rfl ?_; simp only [go_sem, Nat.reduceAdd, Nat.reduceMul, Int.reduceToNat, Nat.reduceLT, Nat.reduceLeDiff, Nat.le_refl, Nat.reduceEqDiff, ↓reduceIte, beq_self_eq_true, bne_self_eq_false, Int.reduceBEq, Int.reduceBNe, or_self, true_or, or_true, Option.map_some, Option.map_none, Int.zero_add, Int.reduceAdd]) | (refine AW.seq_k fun K hK => ?_) | (refine AW.block ?_) | (refine AW.skip ?_; simp only [Then, InBlock]) | (refine AW.exit ?_; simp only [go_sem, ↓reduceIte]) | (refine AW.condT rfl (by first | rfl | (simp; omega) | (simp [*]; done) | fail) ?_) | (refine AW.condF rfl (by first | rfl | (simp; omega) | (simp [*]; done) | fail) ?_) | (refine AW.cond rfl (fun h => ?_) (fun h => ?_) <;> (try simp only [decide_eq_true_eq, decide_eq_false_iff_not, Bool.not_eq_true', Bool.not_eq_false', Bool.not_eq_eq_eq_not, Bool.not_true, Bool.not_false, beq_iff_eq, bne_iff_ne, beq_eq_false_iff_ne, ne_eq, Bool.and_eq_true, Bool.or_eq_true, Bool.or_eq_false_iff] at h)) | (refine hK _ ?_; clear hK K) | (clear hK K; refine hK _ ?_; clear hK K) | (with_reducible refine And.intro (?_ : regOk _ _ = true) ?_; kernel_rfl) | (refine AW.unroll 3 ?_; simp only [AWr]) | (refine runT_call _ _ [] (fun hv _ => (cmpA_any _ _).pure rfl rfl hv _) rfl rfl (dstOk_of rfl) rfl rfl ?_; simp only [go_sem, Nat.reduceAdd, Nat.reduceMul, Int.reduceToNat, Nat.reduceLT, Nat.reduceLeDiff, Nat.le_refl, Nat.reduceEqDiff, ↓reduceIte, beq_self_eq_true, bne_self_eq_false, Int.reduceBEq, Int.reduceBNe, or_self, true_or, or_true, Option.map_some, Option.map_none, Int.zero_add, Int.reduceAdd]) | (with_reducible refine And.intro ?_ ?_; first | omega | assumption | (focus (decide)) | (focus (simp; done)) | (focus (simp; omega)) | (focus (constructor <;> omega)) | fail))
        all_goals first | exact AW.ret (Fin.data rfl (by simp [go_sem, en_size, entF, newer, *]) rfl) | trace_state
end Go.AX

namespace Go.AX
open Go Go.Proofs Go.RowKit
theorem keysOf_unique {S : List Ar} {ks ks' : List (List UInt8)} (h : KeysOf S ks) (h' : KeysOf S ks') : ks = ks' :=
  rise_ext (fun a => ltS_irrefl a) (fun h1 h2 => ltS_trans h1 h2) h.rise h'.rise fun p => by rw [h.mem, h'.mem]
/-- Whether an arrival counts. -/
abbrev cB (c : Cl) : Ar → Bool := fun a => cntF c a == 1
theorem good_len {x : Ar} (h : GoodA x) : x.1.length ≤ 1000000 := by
  have := h.fin.p
  simp only [List.mem_append, List.mem_cons, List.not_mem_nil, or_false] at this
  rcases this with (h | h | h | h) | h | h <;> (rw [h]; simp)
theorem counts2_any (c : Cl) (h : GoodC c) (x : Ar) (hx : GoodA x) : Does Tryz.prog 11 [.d (clD c), .d (arD x)] [] (.tup [I (cntF c x), I 0]) [] := by
  refine Does.of_AW (n := 21) Tryz.func11 rfl rfl rfl fun cx hcx => ?_
  repeat' (first | (refine AW.sreg rfl fun K hK => ?_; simp only [go_sem, Nat.reduceAdd, Nat.reduceMul, Int.reduceToNat, Nat.reduceLT, Nat.reduceLeDiff, Nat.le_refl, Nat.reduceEqDiff, ↓reduceIte, beq_self_eq_true, bne_self_eq_false, Int.reduceBEq, Int.reduceBNe, or_self, true_or, or_true, Option.map_some, Option.map_none]) | (refine AW.seq_k fun K hK => ?_) | (refine AW.skip ?_; simp only [Then, InBlock]) | (refine AW.condF rfl (by first | rfl | (simp; omega) | (simp [*]; done) | fail) ?_) | (refine hK _ ?_; clear hK K) | (refine run_call _ _ _ ((checkCall_ok c h).pure rfl rfl _ _) rfl rfl (dstOk_of rfl) rfl rfl rfl ?_; simp only [go_sem, Nat.reduceAdd, Nat.reduceMul, Int.reduceToNat, Nat.reduceLT, Nat.reduceLeDiff, Nat.le_refl, Nat.reduceEqDiff, ↓reduceIte, beq_self_eq_true, bne_self_eq_false, Int.reduceBEq, Int.reduceBNe, or_self, true_or, or_true, Option.map_some, Option.map_none]) | (refine run_call _ _ _ ((checkArrival_ok x hx).pure rfl rfl _ _) rfl rfl (dstOk_of rfl) rfl rfl rfl ?_; simp only [go_sem, Nat.reduceAdd, Nat.reduceMul, Int.reduceToNat, Nat.reduceLT, Nat.reduceLeDiff, Nat.le_refl, Nat.reduceEqDiff, ↓reduceIte, beq_self_eq_true, bne_self_eq_false, Int.reduceBEq, Int.reduceBNe, or_self, true_or, or_true, Option.map_some, Option.map_none]) | (refine run_call _ _ _ ((counts_any c h x).pure rfl rfl _ _) rfl rfl (dstOk_of rfl) rfl rfl rfl ?_; simp only [go_sem, Nat.reduceAdd, Nat.reduceMul, Int.reduceToNat, Nat.reduceLT, Nat.reduceLeDiff, Nat.le_refl, Nat.reduceEqDiff, ↓reduceIte, beq_self_eq_true, bne_self_eq_false, Int.reduceBEq, Int.reduceBNe, or_self, true_or, or_true, Option.map_some, Option.map_none]) | (refine AW.ret (Fin.data rfl (by first | (simp only [go_sem]; done) | (simp [go_sem, *]; done) | (simp [go_sem]; omega) | rfl) rfl)))
theorem ByOk.found {cnt : Ar → Bool} {SS : List Ar} {KS : List Str} {VS : List D} (hk : ByOk cnt SS KS VS) {p : Str} (hp : p ∈ KS) : ∃ j, fndK (.str p) (KS.map D.str) = some (some j) ∧ (VS.map V.d)[j]? = some (.d (.sl ((grp cnt SS p).map arD))) := by
  rcases hk.find p with ⟨hf, -⟩ | h
  · obtain ⟨i, hi⟩ := List.getElem?_of_mem hp
    rw [fndK_str, findIdx_at (rise_nodupS hk.keys.rise) hi] at hf
    cases hf
  · exact h
theorem statesF_len (cnt : Ar → Bool) (S : List Ar) (ks : List (List UInt8)) (t : Int) : (statesF cnt S ks t).length ≤ ks.length := by
  unfold statesF
  exact List.length_filterMap_le _ _
theorem statesI (c : Cl) (hc : GoodC c) (xs : List Ar) (hl : xs.length ≤ 12) (hx : ∀ x ∈ xs, GoodA x) (t : Int) (h0 : 0 ≤ t) (h1 : t < 5761440) :
    DoesI Tryz.prog 12 [.d (clD c), .d (.sl (xs.map arD)), I t] [] (fun r : List En => ∃ ks, KeysOf (srtA xs) ks ∧ r = statesF (cB c) (srtA xs) ks t) (fun r => .tup [.d (.sl (r.map enD)), I 0]) (fun _ => []) := by
  have haf := arrivalsFault_ok c hc xs (by omega) hx
  have hby := byPaperI c hc xs hl
  have hgS : ∀ x ∈ srtA xs, GoodA x := fun x hxm => hx x ((srtA_mem xs x).1 hxm)
  have hSl := srtA_len xs
  generalize srtA xs = SS at *
  refine DoesI.of_AW (n := 49) Tryz.func12 rfl rfl rfl fun cx hcx => ?_
  repeat' (first | (refine AW.sreg rfl fun K hK => ?_; simp only [go_sem, Nat.reduceAdd, Nat.reduceMul, Int.reduceToNat, Nat.reduceLT, Nat.reduceLeDiff, Nat.le_refl, Nat.reduceEqDiff, ↓reduceIte, beq_self_eq_true, bne_self_eq_false, Int.reduceBEq, Int.reduceBNe, or_self, true_or, or_true, Option.map_some, Option.map_none, Nat.reduceSub, Nat.add_zero]) | (refine AW.seq_k fun K hK => ?_) | (refine AW.skip ?_; simp only [Then, InBlock]) | (refine AW.condF rfl (by first | rfl | (simp; omega) | (simp [*]; done) | fail) ?_) | (refine hK _ ?_; clear hK K) | (refine run_call _ _ _ ((haf).pure rfl rfl _ _) rfl rfl (dstOk_of rfl) rfl rfl rfl ?_; simp only [go_sem, Nat.reduceAdd, Nat.reduceMul, Int.reduceToNat, Nat.reduceLT, Nat.reduceLeDiff, Nat.le_refl, Nat.reduceEqDiff, ↓reduceIte, beq_self_eq_true, bne_self_eq_false, Int.reduceBEq, Int.reduceBNe, or_self, true_or, or_true, Option.map_some, Option.map_none, Nat.reduceSub, Nat.add_zero]) | (refine run_call _ _ _ ((isMoment_any t).pure rfl rfl _ _) rfl rfl (dstOk_of rfl) rfl rfl rfl ?_; simp only [go_sem, Nat.reduceAdd, Nat.reduceMul, Int.reduceToNat, Nat.reduceLT, Nat.reduceLeDiff, Nat.le_refl, Nat.reduceEqDiff, ↓reduceIte, beq_self_eq_true, bne_self_eq_false, Int.reduceBEq, Int.reduceBNe, or_self, true_or, or_true, Option.map_some, Option.map_none, Nat.reduceSub, Nat.add_zero]) | (refine run_callI _ _ _ ((hby).pure rfl (fun _ => rfl) _ _) rfl rfl (dstOk_of rfl) rfl rfl rfl ?_; rintro ⟨KS, VS⟩ hk; (try dsimp only at KS); (try dsimp only at VS); (try dsimp only at hk); simp only [go_sem, Nat.reduceAdd, Nat.reduceMul, Int.reduceToNat, Nat.reduceLT, Nat.reduceLeDiff, Nat.le_refl, Nat.reduceEqDiff, ↓reduceIte, beq_self_eq_true, bne_self_eq_false, Int.reduceBEq, Int.reduceBNe, or_self, true_or, or_true, Option.map_some, Option.map_none, Nat.reduceSub, Nat.add_zero]) | (refine run_call _ _ _ ((mapsKeys_any _ _).objs [] trivial rfl (by decide) (by simp [go_sem, renOs]) (by simp) (by simp) (by simp [go_sem]) (by simp [go_sem]) (by simp [go_sem]) (by simp [go_sem])) rfl rfl (dstOk_of rfl) rfl rfl rfl ?_; simp only [go_sem, Nat.reduceAdd, Nat.reduceMul, Int.reduceToNat, Nat.reduceLT, Nat.reduceLeDiff, Nat.le_refl, Nat.reduceEqDiff, ↓reduceIte, beq_self_eq_true, bne_self_eq_false, Int.reduceBEq, Int.reduceBNe, or_self, true_or, or_true, Option.map_some, Option.map_none, Nat.reduceSub, Nat.add_zero]))
  have hkl : ∀ k ∈ KS, k.length ≤ 1000000 := by
    intro k hkm
    obtain ⟨a, ha, rfl⟩ := (hk.keys.mem k).1 hkm
    exact good_len (hgS a ha)
  have hKl : KS.length ≤ 12 := Nat.le_trans hk.len (by omega)
  have hnd := rise_nodupS hk.keys.rise
  have hsk := sortedKeys_does KS VS (by omega) hkl hnd
  rw [mergeSort_rise hk.keys.rise] at hsk
  repeat' (first | (refine AW.block ?_) | (refine hK _ ?_; clear hK K) | (refine run_call _ _ _ ((hsk).robjs [_] ⟨(by first | rfl | (simp [go_sem]; done) | (simp [go_sem]; rfl)), trivial⟩ rfl (by decide) (by simp) (by simp) (by simp [go_sem]) (by simp [go_sem]) (by simp [go_sem]) (by simp [go_sem])) rfl rfl (dstOk_of rfl) rfl rfl rfl ?_; simp only [go_sem, Nat.reduceAdd, Nat.reduceMul, Int.reduceToNat, Nat.reduceLT, Nat.reduceLeDiff, Nat.le_refl, Nat.reduceEqDiff, ↓reduceIte, beq_self_eq_true, bne_self_eq_false, Int.reduceBEq, Int.reduceBNe, or_self, true_or, or_true, Option.map_some, Option.map_none, List.length_map, Nat.reduceSub, Nat.add_zero]))
  refine AW.weak (Weak.nil 10 45 5 rfl) ?_
  refine AW.loopF (ι := Nat) [2, 9, 28, 29] (fun p => [(30, I p), (10, .slr 1408 0 (statesF (cB c) SS (KS.take p) t).length)]) (fun p => [(1408, some (O.vec 45 5 (dv ((statesF (cB c) SS (KS.take p) t).map enD))))]) 23 (fun p => p ≤ KS.length) (fun p => KS.length - p) 0 (Nat.zero_le _) (Weak.auto hcx rfl rfl (Nat.le_of_ble_eq_true rfl) (by simp [go_sem, gL, kL, renOf, V.obj, lk, Nat.blt, Nat.ble, List.map_append, dv_push, statesF, List.take_zero, List.filterMap_nil]) (by simp [go_sem, gL, kL, renOf, V.obj, lk, Nat.blt, Nat.ble, List.map_append, dv_push, statesF, List.take_zero, List.filterMap_nil]) (by first | (intro i hi; exact absurd hi (Nat.not_lt_zero _)) | (intro i0 hi0; match i0, hi0 with | 0, _ => exact ⟨_, rfl⟩ | n0+1, h0 => exact absurd h0 (Nat.not_lt.2 (Nat.le_add_left 1 n0))) | (intro i0 hi0; match i0, hi0 with | 0, _ => exact ⟨_, rfl⟩ | 1, _ => exact ⟨_, rfl⟩ | n0+2, h0 => exact absurd h0 (Nat.not_lt.2 (Nat.le_add_left 2 n0))) | (intro i0 hi0; match i0, hi0 with | 0, _ => exact ⟨_, rfl⟩ | 1, _ => exact ⟨_, rfl⟩ | 2, _ => exact ⟨_, rfl⟩ | n0+3, h0 => exact absurd h0 (Nat.not_lt.2 (Nat.le_add_left 3 n0))) | (intro i0 hi0; match i0, hi0 with | 0, _ => exact ⟨_, rfl⟩ | 1, _ => exact ⟨_, rfl⟩ | 2, _ => exact ⟨_, rfl⟩ | 3, _ => exact ⟨_, rfl⟩ | n0+4, h0 => exact absurd h0 (Nat.not_lt.2 (Nat.le_add_left 4 n0)))) (by simp [go_sem, gL, kL, lk, renOf, V.obj, Nat.blt, Nat.ble, statesF, List.take_zero, List.filterMap_nil])) ?_; simp only [St.at_nil, St.at_cons, lk, Nat.reduceEqDiff, ↓reduceIte, Option.getD_some, Option.getD_none, List.cons_append, List.nil_append, List.append_nil]
  intro i g1
  by_cases hi : i < KS.length
  · obtain ⟨id, hid, him, -⟩ := get_some hi
    have hget : (KS.map D.str)[i]? = some (.str id) := by simp [hid]
    obtain ⟨j, hf, hg⟩ := hk.found him
    have hen := entryOf_any (grp (cB c) SS id) (Nat.le_trans (grp_len _ _) (by omega)) (fun a ha => by
      have := hgS a (List.mem_filter.1 ha).1
      exact ⟨this.k0, this.k1⟩) id t
    have hst : statesF (cB c) SS (KS.take (i + 1)) t = statesF (cB c) SS (KS.take i) t ++ (oneE (cB c) SS t id).toList := by
      unfold statesF
      rw [List.take_add_one, hid, List.filterMap_append]
      congr 1
      all_goals (cases h : oneE (cB c) SS t id <;> simp [h])
    have hol := statesF_len (cB c) SS (KS.take i) t
    rw [List.length_take] at hol
    unfold oneE at hst
    generalize statesF (cB c) SS (KS.take i) t = out at *
    have htl : List.take out.length (dv (out.map enD)) = dv (out.map enD) := List.take_of_length_le (by simp [dv])
    generalize entF (grp (cB c) SS id) id t = en at *
    by_cases hs : en.2.1 = 1
    · rw [if_pos hs] at hst
      simp only [Option.toList_none, List.append_nil] at hst
      obtain ⟨n1, n2, n3, n4, n5⟩ := en
      simp only at hs
      subst hs
      repeat' (first | (refine AW.sreg rfl fun K hK => ?_; simp only [go_sem, Nat.reduceAdd, Nat.reduceMul, Int.reduceToNat, Nat.reduceLT, Nat.reduceLeDiff, Nat.le_refl, Nat.reduceEqDiff, ↓reduceIte, beq_self_eq_true, bne_self_eq_false, Int.reduceBEq, Int.reduceBNe, or_self, true_or, or_true, Option.map_some, Option.map_none, List.length_map, hget, hf, hg, htl, dv_length]) | (refine AW.reg rfl ?_; simp only [go_sem, Nat.reduceAdd, Nat.reduceMul, Int.reduceToNat, Nat.reduceLT, Nat.reduceLeDiff, Nat.le_refl, Nat.reduceEqDiff, ↓reduceIte, beq_self_eq_true, bne_self_eq_false, Int.reduceBEq, Int.reduceBNe, or_self, true_or, or_true, Option.map_some, Option.map_none, List.length_map, hget, hf, hg, htl, dv_length]) | (refine AW.seq_k fun K hK => ?_) | (refine AW.block ?_) | (refine AW.skip ?_; simp only [Then, InBlock]) | (refine AW.condT rfl (by first | rfl | (simp; omega) | (simp [*]; done) | fail) ?_) | (refine AW.condF rfl (by first | rfl | (simp; omega) | (simp [*]; done) | fail) ?_) | (refine hK _ ?_; clear hK K) | (refine run_call _ _ _ ((hen).pure rfl rfl _ _) rfl rfl (dstOk_of rfl) rfl rfl rfl ?_; simp only [go_sem, Nat.reduceAdd, Nat.reduceMul, Int.reduceToNat, Nat.reduceLT, Nat.reduceLeDiff, Nat.le_refl, Nat.reduceEqDiff, ↓reduceIte, beq_self_eq_true, bne_self_eq_false, Int.reduceBEq, Int.reduceBNe, or_self, true_or, or_true, Option.map_some, Option.map_none, List.length_map, hget, hf, hg, htl, dv_length]) | (with_reducible refine And.intro ?_ ?_; first | omega | assumption | (focus (decide)) | (focus (simp; done)) | (focus (simp; omega)) | (focus (constructor <;> omega)) | fail))
      exact ⟨i + 1, hi, by omega, (Weak.auto hcx rfl rfl (Nat.le_of_ble_eq_true rfl) (by simp [go_sem, gL, kL, renOf, V.obj, lk, Nat.blt, Nat.ble, List.map_append, dv_push, hst]) (by simp [go_sem, gL, kL, renOf, V.obj, lk, Nat.blt, Nat.ble, List.map_append, dv_push, hst]) (by first | (intro i hi; exact absurd hi (Nat.not_lt_zero _)) | (intro i0 hi0; match i0, hi0 with | 0, _ => exact ⟨_, rfl⟩ | n0+1, h0 => exact absurd h0 (Nat.not_lt.2 (Nat.le_add_left 1 n0))) | (intro i0 hi0; match i0, hi0 with | 0, _ => exact ⟨_, rfl⟩ | 1, _ => exact ⟨_, rfl⟩ | n0+2, h0 => exact absurd h0 (Nat.not_lt.2 (Nat.le_add_left 2 n0))) | (intro i0 hi0; match i0, hi0 with | 0, _ => exact ⟨_, rfl⟩ | 1, _ => exact ⟨_, rfl⟩ | 2, _ => exact ⟨_, rfl⟩ | n0+3, h0 => exact absurd h0 (Nat.not_lt.2 (Nat.le_add_left 3 n0))) | (intro i0 hi0; match i0, hi0 with | 0, _ => exact ⟨_, rfl⟩ | 1, _ => exact ⟨_, rfl⟩ | 2, _ => exact ⟨_, rfl⟩ | 3, _ => exact ⟨_, rfl⟩ | n0+4, h0 => exact absurd h0 (Nat.not_lt.2 (Nat.le_add_left 4 n0)))) (by simp [go_sem, gL, kL, lk, renOf, V.obj, Nat.blt, Nat.ble, hst]))⟩
    · rw [if_neg hs] at hst
      simp only [Option.toList_some] at hst
      repeat' (first | (refine AW.sreg rfl fun K hK => ?_; simp only [go_sem, Nat.reduceAdd, Nat.reduceMul, Int.reduceToNat, Nat.reduceLT, Nat.reduceLeDiff, Nat.le_refl, Nat.reduceEqDiff, ↓reduceIte, beq_self_eq_true, bne_self_eq_false, Int.reduceBEq, Int.reduceBNe, or_self, true_or, or_true, Option.map_some, Option.map_none, List.length_map, hget, hf, hg, htl, dv_length, hs]) | (refine AW.reg rfl ?_; simp only [go_sem, Nat.reduceAdd, Nat.reduceMul, Int.reduceToNat, Nat.reduceLT, Nat.reduceLeDiff, Nat.le_refl, Nat.reduceEqDiff, ↓reduceIte, beq_self_eq_true, bne_self_eq_false, Int.reduceBEq, Int.reduceBNe, or_self, true_or, or_true, Option.map_some, Option.map_none, List.length_map, hget, hf, hg, htl, dv_length, hs]) | (refine AW.seq_k fun K hK => ?_) | (refine AW.block ?_) | (refine AW.skip ?_; simp only [Then, InBlock]) | (refine AW.condT rfl (by first | rfl | (simp; omega) | (simp [*]; done) | fail) ?_) | (refine hK _ ?_; clear hK K) | (refine run_call _ _ _ ((hen).pure rfl rfl _ _) rfl rfl (dstOk_of rfl) rfl rfl rfl ?_; simp only [go_sem, Nat.reduceAdd, Nat.reduceMul, Int.reduceToNat, Nat.reduceLT, Nat.reduceLeDiff, Nat.le_refl, Nat.reduceEqDiff, ↓reduceIte, beq_self_eq_true, bne_self_eq_false, Int.reduceBEq, Int.reduceBNe, or_self, true_or, or_true, Option.map_some, Option.map_none, List.length_map, hget, hf, hg, htl, dv_length, hs]) | (with_reducible refine And.intro ?_ ?_; first | omega | assumption | (focus (decide)) | (focus (simp; done)) | (focus (simp; omega)) | (focus (constructor <;> omega)) | fail))
      exact ⟨i + 1, hi, by omega, (Weak.auto hcx rfl rfl (Nat.le_of_ble_eq_true rfl) (by simp [go_sem, gL, kL, renOf, V.obj, lk, Nat.blt, Nat.ble, List.map_append, dv_push, hst]) (by simp [go_sem, gL, kL, renOf, V.obj, lk, Nat.blt, Nat.ble, List.map_append, dv_push, hst]) (by first | (intro i hi; exact absurd hi (Nat.not_lt_zero _)) | (intro i0 hi0; match i0, hi0 with | 0, _ => exact ⟨_, rfl⟩ | n0+1, h0 => exact absurd h0 (Nat.not_lt.2 (Nat.le_add_left 1 n0))) | (intro i0 hi0; match i0, hi0 with | 0, _ => exact ⟨_, rfl⟩ | 1, _ => exact ⟨_, rfl⟩ | n0+2, h0 => exact absurd h0 (Nat.not_lt.2 (Nat.le_add_left 2 n0))) | (intro i0 hi0; match i0, hi0 with | 0, _ => exact ⟨_, rfl⟩ | 1, _ => exact ⟨_, rfl⟩ | 2, _ => exact ⟨_, rfl⟩ | n0+3, h0 => exact absurd h0 (Nat.not_lt.2 (Nat.le_add_left 3 n0))) | (intro i0 hi0; match i0, hi0 with | 0, _ => exact ⟨_, rfl⟩ | 1, _ => exact ⟨_, rfl⟩ | 2, _ => exact ⟨_, rfl⟩ | 3, _ => exact ⟨_, rfl⟩ | n0+4, h0 => exact absurd h0 (Nat.not_lt.2 (Nat.le_add_left 4 n0)))) (by simp [go_sem, gL, kL, lk, renOf, V.obj, Nat.blt, Nat.ble, hst]))⟩
  · obtain rfl : i = KS.length := by omega
    repeat' (first | (refine AW.sreg rfl fun K hK => ?_; simp only [go_sem, Nat.reduceAdd, Nat.reduceMul, Int.reduceToNat, Nat.reduceLT, Nat.reduceLeDiff, Nat.le_refl, Nat.reduceEqDiff, ↓reduceIte, beq_self_eq_true, bne_self_eq_false, Int.reduceBEq, Int.reduceBNe, or_self, true_or, or_true, Option.map_some, Option.map_none, List.length_map]) | (refine AW.seq_k fun K hK => ?_) | (refine AW.exit ?_; simp only [go_sem, ↓reduceIte]) | (refine AW.condF rfl (by first | rfl | (simp; omega) | (simp [*]; done) | fail) ?_) | (refine hK _ ?_; clear hK K) | (clear hK K; refine hK _ ?_; clear hK K))
    refine AW.ret ⟨statesF (cB c) SS KS t, ⟨KS, hk.keys, rfl⟩, Fin.data rfl ?_ rfl⟩
    rw [List.take_length]
    exact frz_tup2 (frz_slr (e := 45) (s := 5) (xs := (statesF (cB c) SS KS t).map enD) rfl rfl (by simp)) rfl
theorem state_any (c : Cl) (hc : GoodC c) (xs : List Ar) (hl : xs.length ≤ 12) (hx : ∀ x ∈ xs, GoodA x) (id : Str) (hid : keyB id = true) (hil : id.length ≤ 1000000) (t : Int) (h0 : 0 ≤ t) (h1 : t < 5761440) :
    Does Tryz.prog 17 [.d (clD c), .d (.sl (xs.map arD)), S id, I t] [] (.tup [.d (enD (entF (grp (cB c) (srtA xs) id) id t)), I 0]) [] := by
  have haf := arrivalsFault_ok c hc xs (by omega) hx
  have hby := byPaperI c hc xs hl
  have hik := isKey_any id hil
  rw [hid] at hik
  have hgS : ∀ x ∈ srtA xs, GoodA x := fun x hxm => hx x ((srtA_mem xs x).1 hxm)
  have hSl := srtA_len xs
  generalize srtA xs = SS at *
  have hen := entryOf_any (grp (cB c) SS id) (Nat.le_trans (grp_len _ _) (by omega)) (fun a ha => by
    have := hgS a (List.mem_filter.1 ha).1
    exact ⟨this.k0, this.k1⟩) id t
  refine Does.of_AW (n := 34) Tryz.func17 rfl rfl rfl fun cx hcx => ?_
  repeat' (first | (refine AW.sreg rfl fun K hK => ?_; simp only [go_sem, Nat.reduceAdd, Nat.reduceMul, Int.reduceToNat, Nat.reduceLT, Nat.reduceLeDiff, Nat.le_refl, Nat.reduceEqDiff, ↓reduceIte, beq_self_eq_true, bne_self_eq_false, Int.reduceBEq, Int.reduceBNe, or_self, true_or, or_true, Option.map_some, Option.map_none]) | (refine AW.seq_k fun K hK => ?_) | (refine AW.skip ?_; simp only [Then, InBlock]) | (refine AW.condF rfl (by first | rfl | (simp; omega) | (simp [*]; done) | fail) ?_) | (refine hK _ ?_; clear hK K) | (refine run_call _ _ _ ((haf).pure rfl rfl _ _) rfl rfl (dstOk_of rfl) rfl rfl rfl ?_; simp only [go_sem, Nat.reduceAdd, Nat.reduceMul, Int.reduceToNat, Nat.reduceLT, Nat.reduceLeDiff, Nat.le_refl, Nat.reduceEqDiff, ↓reduceIte, beq_self_eq_true, bne_self_eq_false, Int.reduceBEq, Int.reduceBNe, or_self, true_or, or_true, Option.map_some, Option.map_none]) | (refine run_call _ _ _ ((hik).pure rfl rfl _ _) rfl rfl (dstOk_of rfl) rfl rfl rfl ?_; simp only [go_sem, Nat.reduceAdd, Nat.reduceMul, Int.reduceToNat, Nat.reduceLT, Nat.reduceLeDiff, Nat.le_refl, Nat.reduceEqDiff, ↓reduceIte, beq_self_eq_true, bne_self_eq_false, Int.reduceBEq, Int.reduceBNe, or_self, true_or, or_true, Option.map_some, Option.map_none]) | (refine run_call _ _ _ ((isMoment_any t).pure rfl rfl _ _) rfl rfl (dstOk_of rfl) rfl rfl rfl ?_; simp only [go_sem, Nat.reduceAdd, Nat.reduceMul, Int.reduceToNat, Nat.reduceLT, Nat.reduceLeDiff, Nat.le_refl, Nat.reduceEqDiff, ↓reduceIte, beq_self_eq_true, bne_self_eq_false, Int.reduceBEq, Int.reduceBNe, or_self, true_or, or_true, Option.map_some, Option.map_none]) | (refine run_callI _ _ _ ((hby).pure rfl (fun _ => rfl) _ _) rfl rfl (dstOk_of rfl) rfl rfl rfl ?_; rintro ⟨KS, VS⟩ hk; (try dsimp only at KS); (try dsimp only at VS); (try dsimp only at hk); simp only [go_sem, Nat.reduceAdd, Nat.reduceMul, Int.reduceToNat, Nat.reduceLT, Nat.reduceLeDiff, Nat.le_refl, Nat.reduceEqDiff, ↓reduceIte, beq_self_eq_true, bne_self_eq_false, Int.reduceBEq, Int.reduceBNe, or_self, true_or, or_true, Option.map_some, Option.map_none]))
  rcases hk.find id with ⟨hf, hz⟩ | ⟨j, hf, hg⟩
  · have hen2 : Does Tryz.prog 40 [.nils, S id, I t] [] (.d (enD (entF (grp (cB c) SS id) id t))) [] := Does.nil (by rw [hz] at hen ⊢; exact hen)
    simp only [go_sem, Nat.reduceAdd, Nat.reduceMul, Int.reduceToNat, Nat.reduceLT, Nat.reduceLeDiff, Nat.le_refl, Nat.reduceEqDiff, ↓reduceIte, beq_self_eq_true, bne_self_eq_false, Int.reduceBEq, Int.reduceBNe, or_self, true_or, or_true, Option.map_some, Option.map_none, hf]
    repeat' (first | (refine hK _ ?_; clear hK K) | (refine run_call _ _ _ ((hen2).pure rfl rfl _ _) rfl rfl (dstOk_of rfl) rfl rfl rfl ?_; simp only [go_sem, Nat.reduceAdd, Nat.reduceMul, Int.reduceToNat, Nat.reduceLT, Nat.reduceLeDiff, Nat.le_refl, Nat.reduceEqDiff, ↓reduceIte, beq_self_eq_true, bne_self_eq_false, Int.reduceBEq, Int.reduceBNe, or_self, true_or, or_true, Option.map_some, Option.map_none, hf]))
    exact AW.ret (Fin.data rfl (by simp [go_sem, en_size]) rfl)
  · simp only [go_sem, Nat.reduceAdd, Nat.reduceMul, Int.reduceToNat, Nat.reduceLT, Nat.reduceLeDiff, Nat.le_refl, Nat.reduceEqDiff, ↓reduceIte, beq_self_eq_true, bne_self_eq_false, Int.reduceBEq, Int.reduceBNe, or_self, true_or, or_true, Option.map_some, Option.map_none, hf, hg]
    repeat' (first | (refine hK _ ?_; clear hK K) | (refine run_call _ _ _ ((hen).pure rfl rfl _ _) rfl rfl (dstOk_of rfl) rfl rfl rfl ?_; simp only [go_sem, Nat.reduceAdd, Nat.reduceMul, Int.reduceToNat, Nat.reduceLT, Nat.reduceLeDiff, Nat.le_refl, Nat.reduceEqDiff, ↓reduceIte, beq_self_eq_true, bne_self_eq_false, Int.reduceBEq, Int.reduceBNe, or_self, true_or, or_true, Option.map_some, Option.map_none, hf, hg]))
    exact AW.ret (Fin.data rfl (by simp [go_sem, en_size]) rfl)
def prevM (own : List Ar) : Nat → Option Int
  | 0 => none
  | i + 1 => (own[i]?).map (·.2.1)
theorem moments_any (c : Cl) (hc : GoodC c) (xs : List Ar) (hl : xs.length ≤ 12) (hx : ∀ x ∈ xs, GoodA x) (id : Str) (hid : keyB id = true) (hil : id.length ≤ 1000000) (hmem : ∃ a ∈ srtA xs, a.1 = id) :
    Does Tryz.prog 14 [.d (clD c), .d (.sl (xs.map arD)), S id] [] (.tup [.d (.sl ((momF (grp (cB c) (srtA xs) id) id).map (D.int .i64))), I 0]) [] := by
  have haf := arrivalsFault_ok c hc xs (by omega) hx
  have hby := byPaperI c hc xs hl
  have hik := isKey_any id hil
  rw [hid] at hik
  have hgS : ∀ x ∈ srtA xs, GoodA x := fun x hxm => hx x ((srtA_mem xs x).1 hxm)
  have hSl := srtA_len xs
  generalize srtA xs = SS at *
  have hgl := grp_len (cnt := cB c) SS id
  have hgG : ∀ a ∈ grp (cB c) SS id, GoodA a := fun a ha => hgS a (List.mem_filter.1 ha).1
  refine Does.of_AW (n := 66) Tryz.func14 rfl rfl rfl fun cx hcx => ?_
  repeat' (first | (refine AW.sreg rfl fun K hK => ?_; simp only [go_sem, Nat.reduceAdd, Nat.reduceMul, Int.reduceToNat, Nat.reduceLT, Nat.reduceLeDiff, Nat.le_refl, Nat.reduceEqDiff, ↓reduceIte, beq_self_eq_true, bne_self_eq_false, Int.reduceBEq, Int.reduceBNe, or_self, true_or, or_true, Option.map_some, Option.map_none]) | (refine AW.seq_k fun K hK => ?_) | (refine AW.skip ?_; simp only [Then, InBlock]) | (refine AW.condF rfl (by first | rfl | (simp; omega) | (simp [*]; done) | fail) ?_) | (refine hK _ ?_; clear hK K) | (refine run_call _ _ _ ((haf).pure rfl rfl _ _) rfl rfl (dstOk_of rfl) rfl rfl rfl ?_; simp only [go_sem, Nat.reduceAdd, Nat.reduceMul, Int.reduceToNat, Nat.reduceLT, Nat.reduceLeDiff, Nat.le_refl, Nat.reduceEqDiff, ↓reduceIte, beq_self_eq_true, bne_self_eq_false, Int.reduceBEq, Int.reduceBNe, or_self, true_or, or_true, Option.map_some, Option.map_none]) | (refine run_call _ _ _ ((hik).pure rfl rfl _ _) rfl rfl (dstOk_of rfl) rfl rfl rfl ?_; simp only [go_sem, Nat.reduceAdd, Nat.reduceMul, Int.reduceToNat, Nat.reduceLT, Nat.reduceLeDiff, Nat.le_refl, Nat.reduceEqDiff, ↓reduceIte, beq_self_eq_true, bne_self_eq_false, Int.reduceBEq, Int.reduceBNe, or_self, true_or, or_true, Option.map_some, Option.map_none]) | (refine run_callI _ _ _ ((hby).pure rfl (fun _ => rfl) _ _) rfl rfl (dstOk_of rfl) rfl rfl rfl ?_; rintro ⟨KS, VS⟩ hk; (try dsimp only at KS); (try dsimp only at VS); (try dsimp only at hk); simp only [go_sem, Nat.reduceAdd, Nat.reduceMul, Int.reduceToNat, Nat.reduceLT, Nat.reduceLeDiff, Nat.le_refl, Nat.reduceEqDiff, ↓reduceIte, beq_self_eq_true, bne_self_eq_false, Int.reduceBEq, Int.reduceBNe, or_self, true_or, or_true, Option.map_some, Option.map_none]))
  obtain ⟨j, hf, hg⟩ := hk.found ((hk.keys.mem id).2 hmem)
  have hen := fun t => entryOf_any (grp (cB c) SS id) (by omega) (fun a ha => ⟨(hgG a ha).k0, (hgG a ha).k1⟩) id t
  simp only [go_sem, Nat.reduceAdd, Nat.reduceMul, Int.reduceToNat, Nat.reduceLT, Nat.reduceLeDiff, Nat.le_refl, Nat.reduceEqDiff, ↓reduceIte, beq_self_eq_true, bne_self_eq_false, Int.reduceBEq, Int.reduceBNe, or_self, true_or, or_true, Option.map_some, Option.map_none, hf, hg]
  clear hg
  generalize hown : grp (cB c) SS id = own at *
  repeat' (first | (refine AW.sreg rfl fun K hK => ?_; simp only [go_sem, Nat.reduceAdd, Nat.reduceMul, Int.reduceToNat, Nat.reduceLT, Nat.reduceLeDiff, Nat.le_refl, Nat.reduceEqDiff, ↓reduceIte, beq_self_eq_true, bne_self_eq_false, Int.reduceBEq, Int.reduceBNe, or_self, true_or, or_true, Option.map_some, Option.map_none, hf, List.length_map]) | (refine AW.seq_k fun K hK => ?_) | (refine AW.block ?_) | (refine hK _ ?_; clear hK K))
  refine AW.weak (Weak.nil 10 3 1 rfl) ?_
  refine AW.loopF (ι := Nat × List Int) [2, 9, 27, 28] (fun p => [(29, I p.1), (10, .slr 1152 0 p.2.length)]) (fun p => [(1152, some (O.vec 3 1 (dv (p.2.map (D.int .i64)))))]) 19 (fun p => p.1 ≤ own.length ∧ p.2.length ≤ p.1 ∧ p.2 ++ momG (fun t => !(entF own id t == entF own id (t - 1))) (prevM own p.1) (own.drop p.1) = momF own id) (fun p => own.length - p.1) (0, []) ⟨by simp, by simp, rfl⟩ (Weak.auto hcx rfl rfl (Nat.le_of_ble_eq_true rfl) (by simp [go_sem, gL, kL, renOf, V.obj, lk, Nat.blt, Nat.ble, List.map_append, dv_push]) (by simp [go_sem, gL, kL, renOf, V.obj, lk, Nat.blt, Nat.ble, List.map_append, dv_push]) (by first | (intro i hi; exact absurd hi (Nat.not_lt_zero _)) | (intro i0 hi0; match i0, hi0 with | 0, _ => exact ⟨_, rfl⟩ | n0+1, h0 => exact absurd h0 (Nat.not_lt.2 (Nat.le_add_left 1 n0))) | (intro i0 hi0; match i0, hi0 with | 0, _ => exact ⟨_, rfl⟩ | 1, _ => exact ⟨_, rfl⟩ | n0+2, h0 => exact absurd h0 (Nat.not_lt.2 (Nat.le_add_left 2 n0))) | (intro i0 hi0; match i0, hi0 with | 0, _ => exact ⟨_, rfl⟩ | 1, _ => exact ⟨_, rfl⟩ | 2, _ => exact ⟨_, rfl⟩ | n0+3, h0 => exact absurd h0 (Nat.not_lt.2 (Nat.le_add_left 3 n0))) | (intro i0 hi0; match i0, hi0 with | 0, _ => exact ⟨_, rfl⟩ | 1, _ => exact ⟨_, rfl⟩ | 2, _ => exact ⟨_, rfl⟩ | 3, _ => exact ⟨_, rfl⟩ | n0+4, h0 => exact absurd h0 (Nat.not_lt.2 (Nat.le_add_left 4 n0)))) (by simp [go_sem, gL, kL, lk, renOf, V.obj, Nat.blt, Nat.ble])) ?_; simp only [St.at_nil, St.at_cons, lk, Nat.reduceEqDiff, ↓reduceIte, Option.getD_some, Option.getD_none, List.cons_append, List.nil_append, List.append_nil]
  rintro ⟨i, out⟩ ⟨g1, g2, g3⟩
  simp only at g1 g2 g3 ⊢
  by_cases hi : i < own.length
  · obtain ⟨x, hxi, hxm, hxd⟩ := get_some hi
    have hget : (own.map arD)[i]? = some (arD x) := by simp [hxi]
    have hgx := hgG x hxm
    have hx0 := hgx.t0
    have hx1 := hgx.t1
    rw [hxd, momG] at g3
    have hpv : prevM own (i + 1) = some x.2.1 := by simp [prevM, hxi]
    have h1e := hen x.2.1
    have h2e := hen (x.2.1 - 1)
    have htl : List.take out.length (dv (out.map (D.int .i64))) = dv (out.map (D.int .i64)) := List.take_of_length_le (by simp [dv])
    have hne : ∀ z, z = (entF own id x.2.1 == entF own id (x.2.1 - 1)) → z = true → prevM own i ≠ some x.2.1 → out ++ momG (fun t => !(entF own id t == entF own id (t - 1))) (prevM own (i + 1)) (own.drop (i + 1)) = momF own id := by
      intro z hz hzt hp
      rw [if_neg hp, ← hz, hzt] at g3
      simpa [hpv] using g3
    have hyes : ∀ z, z = (entF own id x.2.1 == entF own id (x.2.1 - 1)) → z = false → prevM own i ≠ some x.2.1 → (out ++ [x.2.1]) ++ momG (fun t => !(entF own id t == entF own id (t - 1))) (prevM own (i + 1)) (own.drop (i + 1)) = momF own id := by
      intro z hz hzt hp
      rw [if_neg hp, ← hz, hzt] at g3
      simpa [hpv] using g3
    have hsk : prevM own i = some x.2.1 → out ++ momG (fun t => !(entF own id t == entF own id (t - 1))) (prevM own (i + 1)) (own.drop (i + 1)) = momF own id := by
      intro hp
      rw [if_pos hp] at g3
      simpa [hpv] using g3
    clear g3
    generalize entF own id x.2.1 = en1 at *
    generalize entF own id (x.2.1 - 1) = en2 at *
    obtain ⟨z, hz⟩ : ∃ z, z = (en1 == en2) := ⟨_, rfl⟩
    have heq : (en1.1 == en2.1 && (en1.2.1 == en2.2.1 && (en1.2.2.1 == en2.2.2.1 && (en1.2.2.2.1 == en2.2.2.2.1 && en1.2.2.2.2 == en2.2.2.2.2)))) = z := hz.symm ▸ rfl
    rcases i with _ | j
    · have hp : prevM own 0 ≠ some x.2.1 := by simp [prevM]
      cases z with
      | true =>
        repeat' (first | (refine AW.sreg rfl fun K hK => ?_; simp only [go_sem, Nat.reduceAdd, Nat.reduceMul, Int.reduceToNat, Nat.reduceLT, Nat.reduceLeDiff, Nat.le_refl, Nat.reduceEqDiff, ↓reduceIte, beq_self_eq_true, bne_self_eq_false, Int.reduceBEq, Int.reduceBNe, or_self, true_or, or_true, Option.map_some, Option.map_none, List.length_map, hget, heq, htl, dv_length, Int.toNat_zero, Int.natCast_zero]) | (refine AW.sregD hmix rfl fun K hK => ?_; simp only [go_sem, Nat.reduceAdd, Nat.reduceMul, Int.reduceToNat, Nat.reduceLT, Nat.reduceLeDiff, Nat.le_refl, Nat.reduceEqDiff, ↓reduceIte, beq_self_eq_true, bne_self_eq_false, Int.reduceBEq, Int.reduceBNe, or_self, true_or, or_true, Option.map_some, Option.map_none, List.length_map, hget, heq, htl, dv_length, Int.toNat_zero, Int.natCast_zero]) | (refine AW.reg rfl ?_; simp only [go_sem, Nat.reduceAdd, Nat.reduceMul, Int.reduceToNat, Nat.reduceLT, Nat.reduceLeDiff, Nat.le_refl, Nat.reduceEqDiff, ↓reduceIte, beq_self_eq_true, bne_self_eq_false, Int.reduceBEq, Int.reduceBNe, or_self, true_or, or_true, Option.map_some, Option.map_none, List.length_map, hget, heq, htl, dv_length, Int.toNat_zero, Int.natCast_zero]) | (refine AW.seq_k fun K hK => ?_) | (refine AW.block ?_) | (refine AW.skip ?_; simp only [Then, InBlock]) | (refine AW.condT rfl (by first | rfl | (simp; omega) | (simp [*]; done) | fail) ?_) | (refine AW.condF rfl (by first | rfl | (simp; omega) | (simp [*]; done) | fail) ?_) | (refine hK _ ?_; clear hK K) | (refine stepBT_split (fun h => ?_) (fun h => ?_) <;> (have hb0 := h) <;> (try simp only [Bool.not_eq_true', Bool.not_eq_false'] at hb0) <;> (try simp only [decide_eq_true_eq, decide_eq_false_iff_not, Bool.not_eq_true', Bool.not_eq_false', Bool.not_eq_eq_eq_not, Bool.not_true, Bool.not_false, beq_iff_eq, bne_iff_ne, beq_eq_false_iff_ne, ne_eq, Bool.and_eq_true, Bool.or_eq_true, Bool.or_eq_false_iff] at h) <;> simp only [go_sem, Nat.reduceAdd, Nat.reduceMul, Int.reduceToNat, Nat.reduceLT, Nat.reduceLeDiff, Nat.le_refl, Nat.reduceEqDiff, ↓reduceIte, beq_self_eq_true, bne_self_eq_false, Int.reduceBEq, Int.reduceBNe, or_self, true_or, or_true, Option.map_some, Option.map_none, hb0, h, decide_true, decide_false, List.length_map, hget, heq, htl, dv_length, Int.toNat_zero, Int.natCast_zero] <;> (try clear hb0)) | (with_reducible refine And.intro (?_ : regOk _ _ = true) ?_; kernel_rfl) | (refine runT_call _ _ [] (fun hv _ => (h1e).pure rfl rfl hv _) rfl rfl (dstOk_of rfl) rfl rfl ?_; simp only [go_sem, Nat.reduceAdd, Nat.reduceMul, Int.reduceToNat, Nat.reduceLT, Nat.reduceLeDiff, Nat.le_refl, Nat.reduceEqDiff, ↓reduceIte, beq_self_eq_true, bne_self_eq_false, Int.reduceBEq, Int.reduceBNe, or_self, true_or, or_true, Option.map_some, Option.map_none, List.length_map, hget, heq, htl, dv_length, Int.toNat_zero, Int.natCast_zero]) | (refine runT_call _ _ [] (fun hv _ => (h2e).pure rfl rfl hv _) rfl rfl (dstOk_of rfl) rfl rfl ?_; simp only [go_sem, Nat.reduceAdd, Nat.reduceMul, Int.reduceToNat, Nat.reduceLT, Nat.reduceLeDiff, Nat.le_refl, Nat.reduceEqDiff, ↓reduceIte, beq_self_eq_true, bne_self_eq_false, Int.reduceBEq, Int.reduceBNe, or_self, true_or, or_true, Option.map_some, Option.map_none, List.length_map, hget, heq, htl, dv_length, Int.toNat_zero, Int.natCast_zero]) | (with_reducible refine And.intro ?_ ?_; first | omega | assumption | (focus (decide)) | (focus (simp; done)) | (focus (simp; omega)) | (focus (constructor <;> omega)) | fail) | (exfalso; omega))
        exact ⟨(1, out), ⟨hi, by simp only; omega, hne true hz rfl hp⟩, by simp only; omega, (Weak.auto hcx rfl rfl (Nat.le_of_ble_eq_true rfl) (by simp [go_sem, gL, kL, renOf, V.obj, lk, Nat.blt, Nat.ble, List.map_append, dv_push]) (by simp [go_sem, gL, kL, renOf, V.obj, lk, Nat.blt, Nat.ble, List.map_append, dv_push]) (by first | (intro i hi; exact absurd hi (Nat.not_lt_zero _)) | (intro i0 hi0; match i0, hi0 with | 0, _ => exact ⟨_, rfl⟩ | n0+1, h0 => exact absurd h0 (Nat.not_lt.2 (Nat.le_add_left 1 n0))) | (intro i0 hi0; match i0, hi0 with | 0, _ => exact ⟨_, rfl⟩ | 1, _ => exact ⟨_, rfl⟩ | n0+2, h0 => exact absurd h0 (Nat.not_lt.2 (Nat.le_add_left 2 n0))) | (intro i0 hi0; match i0, hi0 with | 0, _ => exact ⟨_, rfl⟩ | 1, _ => exact ⟨_, rfl⟩ | 2, _ => exact ⟨_, rfl⟩ | n0+3, h0 => exact absurd h0 (Nat.not_lt.2 (Nat.le_add_left 3 n0))) | (intro i0 hi0; match i0, hi0 with | 0, _ => exact ⟨_, rfl⟩ | 1, _ => exact ⟨_, rfl⟩ | 2, _ => exact ⟨_, rfl⟩ | 3, _ => exact ⟨_, rfl⟩ | n0+4, h0 => exact absurd h0 (Nat.not_lt.2 (Nat.le_add_left 4 n0)))) (by simp [go_sem, gL, kL, lk, renOf, V.obj, Nat.blt, Nat.ble]))⟩
      | false =>
        repeat' (first | (refine AW.sreg rfl fun K hK => ?_; simp only [go_sem, Nat.reduceAdd, Nat.reduceMul, Int.reduceToNat, Nat.reduceLT, Nat.reduceLeDiff, Nat.le_refl, Nat.reduceEqDiff, ↓reduceIte, beq_self_eq_true, bne_self_eq_false, Int.reduceBEq, Int.reduceBNe, or_self, true_or, or_true, Option.map_some, Option.map_none, List.length_map, hget, heq, htl, dv_length, Int.toNat_zero, Int.natCast_zero]) | (refine AW.sregD hmix rfl fun K hK => ?_; simp only [go_sem, Nat.reduceAdd, Nat.reduceMul, Int.reduceToNat, Nat.reduceLT, Nat.reduceLeDiff, Nat.le_refl, Nat.reduceEqDiff, ↓reduceIte, beq_self_eq_true, bne_self_eq_false, Int.reduceBEq, Int.reduceBNe, or_self, true_or, or_true, Option.map_some, Option.map_none, List.length_map, hget, heq, htl, dv_length, Int.toNat_zero, Int.natCast_zero]) | (refine AW.reg rfl ?_; simp only [go_sem, Nat.reduceAdd, Nat.reduceMul, Int.reduceToNat, Nat.reduceLT, Nat.reduceLeDiff, Nat.le_refl, Nat.reduceEqDiff, ↓reduceIte, beq_self_eq_true, bne_self_eq_false, Int.reduceBEq, Int.reduceBNe, or_self, true_or, or_true, Option.map_some, Option.map_none, List.length_map, hget, heq, htl, dv_length, Int.toNat_zero, Int.natCast_zero]) | (refine AW.seq_k fun K hK => ?_) | (refine AW.block ?_) | (refine AW.skip ?_; simp only [Then, InBlock]) | (refine AW.condT rfl (by first | rfl | (simp; omega) | (simp [*]; done) | fail) ?_) | (refine AW.condF rfl (by first | rfl | (simp; omega) | (simp [*]; done) | fail) ?_) | (refine hK _ ?_; clear hK K) | (refine stepBT_split (fun h => ?_) (fun h => ?_) <;> (have hb0 := h) <;> (try simp only [Bool.not_eq_true', Bool.not_eq_false'] at hb0) <;> (try simp only [decide_eq_true_eq, decide_eq_false_iff_not, Bool.not_eq_true', Bool.not_eq_false', Bool.not_eq_eq_eq_not, Bool.not_true, Bool.not_false, beq_iff_eq, bne_iff_ne, beq_eq_false_iff_ne, ne_eq, Bool.and_eq_true, Bool.or_eq_true, Bool.or_eq_false_iff] at h) <;> simp only [go_sem, Nat.reduceAdd, Nat.reduceMul, Int.reduceToNat, Nat.reduceLT, Nat.reduceLeDiff, Nat.le_refl, Nat.reduceEqDiff, ↓reduceIte, beq_self_eq_true, bne_self_eq_false, Int.reduceBEq, Int.reduceBNe, or_self, true_or, or_true, Option.map_some, Option.map_none, hb0, h, decide_true, decide_false, List.length_map, hget, heq, htl, dv_length, Int.toNat_zero, Int.natCast_zero] <;> (try clear hb0)) | (with_reducible refine And.intro (?_ : regOk _ _ = true) ?_; kernel_rfl) | (refine runT_call _ _ [] (fun hv _ => (h1e).pure rfl rfl hv _) rfl rfl (dstOk_of rfl) rfl rfl ?_; simp only [go_sem, Nat.reduceAdd, Nat.reduceMul, Int.reduceToNat, Nat.reduceLT, Nat.reduceLeDiff, Nat.le_refl, Nat.reduceEqDiff, ↓reduceIte, beq_self_eq_true, bne_self_eq_false, Int.reduceBEq, Int.reduceBNe, or_self, true_or, or_true, Option.map_some, Option.map_none, List.length_map, hget, heq, htl, dv_length, Int.toNat_zero, Int.natCast_zero]) | (refine runT_call _ _ [] (fun hv _ => (h2e).pure rfl rfl hv _) rfl rfl (dstOk_of rfl) rfl rfl ?_; simp only [go_sem, Nat.reduceAdd, Nat.reduceMul, Int.reduceToNat, Nat.reduceLT, Nat.reduceLeDiff, Nat.le_refl, Nat.reduceEqDiff, ↓reduceIte, beq_self_eq_true, bne_self_eq_false, Int.reduceBEq, Int.reduceBNe, or_self, true_or, or_true, Option.map_some, Option.map_none, List.length_map, hget, heq, htl, dv_length, Int.toNat_zero, Int.natCast_zero]) | (with_reducible refine And.intro ?_ ?_; first | omega | assumption | (focus (decide)) | (focus (simp; done)) | (focus (simp; omega)) | (focus (constructor <;> omega)) | fail) | (exfalso; omega))
        exact ⟨(1, out ++ [x.2.1]), ⟨hi, by simp only [List.length_append, List.length_cons, List.length_nil]; omega, hyes false hz rfl hp⟩, by simp only; omega, (Weak.auto hcx rfl rfl (Nat.le_of_ble_eq_true rfl) (by simp [go_sem, gL, kL, renOf, V.obj, lk, Nat.blt, Nat.ble, List.map_append, dv_push]) (by simp [go_sem, gL, kL, renOf, V.obj, lk, Nat.blt, Nat.ble, List.map_append, dv_push]) (by first | (intro i hi; exact absurd hi (Nat.not_lt_zero _)) | (intro i0 hi0; match i0, hi0 with | 0, _ => exact ⟨_, rfl⟩ | n0+1, h0 => exact absurd h0 (Nat.not_lt.2 (Nat.le_add_left 1 n0))) | (intro i0 hi0; match i0, hi0 with | 0, _ => exact ⟨_, rfl⟩ | 1, _ => exact ⟨_, rfl⟩ | n0+2, h0 => exact absurd h0 (Nat.not_lt.2 (Nat.le_add_left 2 n0))) | (intro i0 hi0; match i0, hi0 with | 0, _ => exact ⟨_, rfl⟩ | 1, _ => exact ⟨_, rfl⟩ | 2, _ => exact ⟨_, rfl⟩ | n0+3, h0 => exact absurd h0 (Nat.not_lt.2 (Nat.le_add_left 3 n0))) | (intro i0 hi0; match i0, hi0 with | 0, _ => exact ⟨_, rfl⟩ | 1, _ => exact ⟨_, rfl⟩ | 2, _ => exact ⟨_, rfl⟩ | 3, _ => exact ⟨_, rfl⟩ | n0+4, h0 => exact absurd h0 (Nat.not_lt.2 (Nat.le_add_left 4 n0)))) (by simp [go_sem, gL, kL, lk, renOf, V.obj, Nat.blt, Nat.ble]))⟩
    · obtain ⟨y, hy, hym, -⟩ := get_some (show j < own.length by omega)
      have hgety : (own.map arD)[(((j + 1 : Nat) : Int) - 1).toNat]? = some (arD y) := by
        rw [show (((j + 1 : Nat) : Int) - 1).toNat = j by omega]; simp [hy]
      have hpe : prevM own (j + 1) = some y.2.1 := by simp [prevM, hy]
      by_cases hat : x.2.1 = y.2.1
      · have hp : prevM own (j + 1) = some x.2.1 := by rw [hpe, hat]
        repeat' (first | (refine AW.sreg rfl fun K hK => ?_; simp only [go_sem, Nat.reduceAdd, Nat.reduceMul, Int.reduceToNat, Nat.reduceLT, Nat.reduceLeDiff, Nat.le_refl, Nat.reduceEqDiff, ↓reduceIte, beq_self_eq_true, bne_self_eq_false, Int.reduceBEq, Int.reduceBNe, or_self, true_or, or_true, Option.map_some, Option.map_none, List.length_map, hget, hgety, hat, htl, dv_length]) | (refine AW.sregD hmix rfl fun K hK => ?_; simp only [go_sem, Nat.reduceAdd, Nat.reduceMul, Int.reduceToNat, Nat.reduceLT, Nat.reduceLeDiff, Nat.le_refl, Nat.reduceEqDiff, ↓reduceIte, beq_self_eq_true, bne_self_eq_false, Int.reduceBEq, Int.reduceBNe, or_self, true_or, or_true, Option.map_some, Option.map_none, List.length_map, hget, hgety, hat, htl, dv_length]) | (refine AW.reg rfl ?_; simp only [go_sem, Nat.reduceAdd, Nat.reduceMul, Int.reduceToNat, Nat.reduceLT, Nat.reduceLeDiff, Nat.le_refl, Nat.reduceEqDiff, ↓reduceIte, beq_self_eq_true, bne_self_eq_false, Int.reduceBEq, Int.reduceBNe, or_self, true_or, or_true, Option.map_some, Option.map_none, List.length_map, hget, hgety, hat, htl, dv_length]) | (refine AW.seq_k fun K hK => ?_) | (refine AW.block ?_) | (refine AW.skip ?_; simp only [Then, InBlock]) | (refine AW.exit ?_; simp only [go_sem, ↓reduceIte]) | (refine AW.condT rfl (by first | rfl | (simp; omega) | (simp [*]; done) | fail) ?_) | (refine hK _ ?_; clear hK K) | (clear hK K; refine hK _ ?_; clear hK K) | (refine stepBT_split (fun h => ?_) (fun h => ?_) <;> (have hb0 := h) <;> (try simp only [Bool.not_eq_true', Bool.not_eq_false'] at hb0) <;> (try simp only [decide_eq_true_eq, decide_eq_false_iff_not, Bool.not_eq_true', Bool.not_eq_false', Bool.not_eq_eq_eq_not, Bool.not_true, Bool.not_false, beq_iff_eq, bne_iff_ne, beq_eq_false_iff_ne, ne_eq, Bool.and_eq_true, Bool.or_eq_true, Bool.or_eq_false_iff] at h) <;> simp only [go_sem, Nat.reduceAdd, Nat.reduceMul, Int.reduceToNat, Nat.reduceLT, Nat.reduceLeDiff, Nat.le_refl, Nat.reduceEqDiff, ↓reduceIte, beq_self_eq_true, bne_self_eq_false, Int.reduceBEq, Int.reduceBNe, or_self, true_or, or_true, Option.map_some, Option.map_none, hb0, h, decide_true, decide_false, List.length_map, hget, hgety, hat, htl, dv_length] <;> (try clear hb0)) | (with_reducible refine And.intro (?_ : regOk _ _ = true) ?_; kernel_rfl) | (with_reducible refine And.intro ?_ ?_; first | omega | assumption | (focus (decide)) | (focus (simp; done)) | (focus (simp; omega)) | (focus (constructor <;> omega)) | fail) | (exfalso; omega))
        exact ⟨(j + 1 + 1, out), ⟨hi, by simp only; omega, hsk hp⟩, by simp only; omega, (Weak.auto hcx rfl rfl (Nat.le_of_ble_eq_true rfl) (by simp [go_sem, gL, kL, renOf, V.obj, lk, Nat.blt, Nat.ble, List.map_append, dv_push]) (by simp [go_sem, gL, kL, renOf, V.obj, lk, Nat.blt, Nat.ble, List.map_append, dv_push]) (by first | (intro i hi; exact absurd hi (Nat.not_lt_zero _)) | (intro i0 hi0; match i0, hi0 with | 0, _ => exact ⟨_, rfl⟩ | n0+1, h0 => exact absurd h0 (Nat.not_lt.2 (Nat.le_add_left 1 n0))) | (intro i0 hi0; match i0, hi0 with | 0, _ => exact ⟨_, rfl⟩ | 1, _ => exact ⟨_, rfl⟩ | n0+2, h0 => exact absurd h0 (Nat.not_lt.2 (Nat.le_add_left 2 n0))) | (intro i0 hi0; match i0, hi0 with | 0, _ => exact ⟨_, rfl⟩ | 1, _ => exact ⟨_, rfl⟩ | 2, _ => exact ⟨_, rfl⟩ | n0+3, h0 => exact absurd h0 (Nat.not_lt.2 (Nat.le_add_left 3 n0))) | (intro i0 hi0; match i0, hi0 with | 0, _ => exact ⟨_, rfl⟩ | 1, _ => exact ⟨_, rfl⟩ | 2, _ => exact ⟨_, rfl⟩ | 3, _ => exact ⟨_, rfl⟩ | n0+4, h0 => exact absurd h0 (Nat.not_lt.2 (Nat.le_add_left 4 n0)))) (by simp [go_sem, gL, kL, lk, renOf, V.obj, Nat.blt, Nat.ble]))⟩
      · have hp : prevM own (j + 1) ≠ some x.2.1 := by rw [hpe]; simpa using fun e => hat (Eq.symm e)
        cases z with
        | true =>
          repeat' (first | (refine AW.sreg rfl fun K hK => ?_; simp only [go_sem, Nat.reduceAdd, Nat.reduceMul, Int.reduceToNat, Nat.reduceLT, Nat.reduceLeDiff, Nat.le_refl, Nat.reduceEqDiff, ↓reduceIte, beq_self_eq_true, bne_self_eq_false, Int.reduceBEq, Int.reduceBNe, or_self, true_or, or_true, Option.map_some, Option.map_none, List.length_map, hget, hgety, hat, heq, htl, dv_length]) | (refine AW.sregD hmix rfl fun K hK => ?_; simp only [go_sem, Nat.reduceAdd, Nat.reduceMul, Int.reduceToNat, Nat.reduceLT, Nat.reduceLeDiff, Nat.le_refl, Nat.reduceEqDiff, ↓reduceIte, beq_self_eq_true, bne_self_eq_false, Int.reduceBEq, Int.reduceBNe, or_self, true_or, or_true, Option.map_some, Option.map_none, List.length_map, hget, hgety, hat, heq, htl, dv_length]) | (refine AW.reg rfl ?_; simp only [go_sem, Nat.reduceAdd, Nat.reduceMul, Int.reduceToNat, Nat.reduceLT, Nat.reduceLeDiff, Nat.le_refl, Nat.reduceEqDiff, ↓reduceIte, beq_self_eq_true, bne_self_eq_false, Int.reduceBEq, Int.reduceBNe, or_self, true_or, or_true, Option.map_some, Option.map_none, List.length_map, hget, hgety, hat, heq, htl, dv_length]) | (refine AW.seq_k fun K hK => ?_) | (refine AW.block ?_) | (refine AW.skip ?_; simp only [Then, InBlock]) | (refine AW.exit ?_; simp only [go_sem, ↓reduceIte]) | (refine AW.condT rfl (by first | rfl | (simp; omega) | (simp [*]; done) | fail) ?_) | (refine AW.condF rfl (by first | rfl | (simp; omega) | (simp [*]; done) | fail) ?_) | (refine hK _ ?_; clear hK K) | (clear hK K; refine hK _ ?_; clear hK K) | (refine stepBT_split (fun h => ?_) (fun h => ?_) <;> (have hb0 := h) <;> (try simp only [Bool.not_eq_true', Bool.not_eq_false'] at hb0) <;> (try simp only [decide_eq_true_eq, decide_eq_false_iff_not, Bool.not_eq_true', Bool.not_eq_false', Bool.not_eq_eq_eq_not, Bool.not_true, Bool.not_false, beq_iff_eq, bne_iff_ne, beq_eq_false_iff_ne, ne_eq, Bool.and_eq_true, Bool.or_eq_true, Bool.or_eq_false_iff] at h) <;> simp only [go_sem, Nat.reduceAdd, Nat.reduceMul, Int.reduceToNat, Nat.reduceLT, Nat.reduceLeDiff, Nat.le_refl, Nat.reduceEqDiff, ↓reduceIte, beq_self_eq_true, bne_self_eq_false, Int.reduceBEq, Int.reduceBNe, or_self, true_or, or_true, Option.map_some, Option.map_none, hb0, h, decide_true, decide_false, List.length_map, hget, hgety, hat, heq, htl, dv_length] <;> (try clear hb0)) | (with_reducible refine And.intro (?_ : regOk _ _ = true) ?_; kernel_rfl) | (refine runT_call _ _ [] (fun hv _ => (h1e).pure rfl rfl hv _) rfl rfl (dstOk_of rfl) rfl rfl ?_; simp only [go_sem, Nat.reduceAdd, Nat.reduceMul, Int.reduceToNat, Nat.reduceLT, Nat.reduceLeDiff, Nat.le_refl, Nat.reduceEqDiff, ↓reduceIte, beq_self_eq_true, bne_self_eq_false, Int.reduceBEq, Int.reduceBNe, or_self, true_or, or_true, Option.map_some, Option.map_none, List.length_map, hget, hgety, hat, heq, htl, dv_length]) | (refine runT_call _ _ [] (fun hv _ => (h2e).pure rfl rfl hv _) rfl rfl (dstOk_of rfl) rfl rfl ?_; simp only [go_sem, Nat.reduceAdd, Nat.reduceMul, Int.reduceToNat, Nat.reduceLT, Nat.reduceLeDiff, Nat.le_refl, Nat.reduceEqDiff, ↓reduceIte, beq_self_eq_true, bne_self_eq_false, Int.reduceBEq, Int.reduceBNe, or_self, true_or, or_true, Option.map_some, Option.map_none, List.length_map, hget, hgety, hat, heq, htl, dv_length]) | (with_reducible refine And.intro ?_ ?_; first | omega | assumption | (focus (decide)) | (focus (simp; done)) | (focus (simp; omega)) | (focus (constructor <;> omega)) | fail) | (exfalso; omega))
          exact ⟨(j + 1 + 1, out), ⟨hi, by simp only; omega, hne true hz rfl hp⟩, by simp only; omega, (Weak.auto hcx rfl rfl (Nat.le_of_ble_eq_true rfl) (by simp [go_sem, gL, kL, renOf, V.obj, lk, Nat.blt, Nat.ble, List.map_append, dv_push]) (by simp [go_sem, gL, kL, renOf, V.obj, lk, Nat.blt, Nat.ble, List.map_append, dv_push]) (by first | (intro i hi; exact absurd hi (Nat.not_lt_zero _)) | (intro i0 hi0; match i0, hi0 with | 0, _ => exact ⟨_, rfl⟩ | n0+1, h0 => exact absurd h0 (Nat.not_lt.2 (Nat.le_add_left 1 n0))) | (intro i0 hi0; match i0, hi0 with | 0, _ => exact ⟨_, rfl⟩ | 1, _ => exact ⟨_, rfl⟩ | n0+2, h0 => exact absurd h0 (Nat.not_lt.2 (Nat.le_add_left 2 n0))) | (intro i0 hi0; match i0, hi0 with | 0, _ => exact ⟨_, rfl⟩ | 1, _ => exact ⟨_, rfl⟩ | 2, _ => exact ⟨_, rfl⟩ | n0+3, h0 => exact absurd h0 (Nat.not_lt.2 (Nat.le_add_left 3 n0))) | (intro i0 hi0; match i0, hi0 with | 0, _ => exact ⟨_, rfl⟩ | 1, _ => exact ⟨_, rfl⟩ | 2, _ => exact ⟨_, rfl⟩ | 3, _ => exact ⟨_, rfl⟩ | n0+4, h0 => exact absurd h0 (Nat.not_lt.2 (Nat.le_add_left 4 n0)))) (by simp [go_sem, gL, kL, lk, renOf, V.obj, Nat.blt, Nat.ble]))⟩
        | false =>
          repeat' (first | (refine AW.sreg rfl fun K hK => ?_; simp only [go_sem, Nat.reduceAdd, Nat.reduceMul, Int.reduceToNat, Nat.reduceLT, Nat.reduceLeDiff, Nat.le_refl, Nat.reduceEqDiff, ↓reduceIte, beq_self_eq_true, bne_self_eq_false, Int.reduceBEq, Int.reduceBNe, or_self, true_or, or_true, Option.map_some, Option.map_none, List.length_map, hget, hgety, hat, heq, htl, dv_length]) | (refine AW.sregD hmix rfl fun K hK => ?_; simp only [go_sem, Nat.reduceAdd, Nat.reduceMul, Int.reduceToNat, Nat.reduceLT, Nat.reduceLeDiff, Nat.le_refl, Nat.reduceEqDiff, ↓reduceIte, beq_self_eq_true, bne_self_eq_false, Int.reduceBEq, Int.reduceBNe, or_self, true_or, or_true, Option.map_some, Option.map_none, List.length_map, hget, hgety, hat, heq, htl, dv_length]) | (refine AW.reg rfl ?_; simp only [go_sem, Nat.reduceAdd, Nat.reduceMul, Int.reduceToNat, Nat.reduceLT, Nat.reduceLeDiff, Nat.le_refl, Nat.reduceEqDiff, ↓reduceIte, beq_self_eq_true, bne_self_eq_false, Int.reduceBEq, Int.reduceBNe, or_self, true_or, or_true, Option.map_some, Option.map_none, List.length_map, hget, hgety, hat, heq, htl, dv_length]) | (refine AW.seq_k fun K hK => ?_) | (refine AW.block ?_) | (refine AW.skip ?_; simp only [Then, InBlock]) | (refine AW.exit ?_; simp only [go_sem, ↓reduceIte]) | (refine AW.condT rfl (by first | rfl | (simp; omega) | (simp [*]; done) | fail) ?_) | (refine AW.condF rfl (by first | rfl | (simp; omega) | (simp [*]; done) | fail) ?_) | (refine hK _ ?_; clear hK K) | (clear hK K; refine hK _ ?_; clear hK K) | (refine stepBT_split (fun h => ?_) (fun h => ?_) <;> (have hb0 := h) <;> (try simp only [Bool.not_eq_true', Bool.not_eq_false'] at hb0) <;> (try simp only [decide_eq_true_eq, decide_eq_false_iff_not, Bool.not_eq_true', Bool.not_eq_false', Bool.not_eq_eq_eq_not, Bool.not_true, Bool.not_false, beq_iff_eq, bne_iff_ne, beq_eq_false_iff_ne, ne_eq, Bool.and_eq_true, Bool.or_eq_true, Bool.or_eq_false_iff] at h) <;> simp only [go_sem, Nat.reduceAdd, Nat.reduceMul, Int.reduceToNat, Nat.reduceLT, Nat.reduceLeDiff, Nat.le_refl, Nat.reduceEqDiff, ↓reduceIte, beq_self_eq_true, bne_self_eq_false, Int.reduceBEq, Int.reduceBNe, or_self, true_or, or_true, Option.map_some, Option.map_none, hb0, h, decide_true, decide_false, List.length_map, hget, hgety, hat, heq, htl, dv_length] <;> (try clear hb0)) | (with_reducible refine And.intro (?_ : regOk _ _ = true) ?_; kernel_rfl) | (refine runT_call _ _ [] (fun hv _ => (h1e).pure rfl rfl hv _) rfl rfl (dstOk_of rfl) rfl rfl ?_; simp only [go_sem, Nat.reduceAdd, Nat.reduceMul, Int.reduceToNat, Nat.reduceLT, Nat.reduceLeDiff, Nat.le_refl, Nat.reduceEqDiff, ↓reduceIte, beq_self_eq_true, bne_self_eq_false, Int.reduceBEq, Int.reduceBNe, or_self, true_or, or_true, Option.map_some, Option.map_none, List.length_map, hget, hgety, hat, heq, htl, dv_length]) | (refine runT_call _ _ [] (fun hv _ => (h2e).pure rfl rfl hv _) rfl rfl (dstOk_of rfl) rfl rfl ?_; simp only [go_sem, Nat.reduceAdd, Nat.reduceMul, Int.reduceToNat, Nat.reduceLT, Nat.reduceLeDiff, Nat.le_refl, Nat.reduceEqDiff, ↓reduceIte, beq_self_eq_true, bne_self_eq_false, Int.reduceBEq, Int.reduceBNe, or_self, true_or, or_true, Option.map_some, Option.map_none, List.length_map, hget, hgety, hat, heq, htl, dv_length]) | (with_reducible refine And.intro ?_ ?_; first | omega | assumption | (focus (decide)) | (focus (simp; done)) | (focus (simp; omega)) | (focus (constructor <;> omega)) | fail) | (exfalso; omega))
          exact ⟨(j + 1 + 1, out ++ [x.2.1]), ⟨hi, by simp only [List.length_append, List.length_cons, List.length_nil]; omega, hyes false hz rfl hp⟩, by simp only; omega, (Weak.auto hcx rfl rfl (Nat.le_of_ble_eq_true rfl) (by simp [go_sem, gL, kL, renOf, V.obj, lk, Nat.blt, Nat.ble, List.map_append, dv_push]) (by simp [go_sem, gL, kL, renOf, V.obj, lk, Nat.blt, Nat.ble, List.map_append, dv_push]) (by first | (intro i hi; exact absurd hi (Nat.not_lt_zero _)) | (intro i0 hi0; match i0, hi0 with | 0, _ => exact ⟨_, rfl⟩ | n0+1, h0 => exact absurd h0 (Nat.not_lt.2 (Nat.le_add_left 1 n0))) | (intro i0 hi0; match i0, hi0 with | 0, _ => exact ⟨_, rfl⟩ | 1, _ => exact ⟨_, rfl⟩ | n0+2, h0 => exact absurd h0 (Nat.not_lt.2 (Nat.le_add_left 2 n0))) | (intro i0 hi0; match i0, hi0 with | 0, _ => exact ⟨_, rfl⟩ | 1, _ => exact ⟨_, rfl⟩ | 2, _ => exact ⟨_, rfl⟩ | n0+3, h0 => exact absurd h0 (Nat.not_lt.2 (Nat.le_add_left 3 n0))) | (intro i0 hi0; match i0, hi0 with | 0, _ => exact ⟨_, rfl⟩ | 1, _ => exact ⟨_, rfl⟩ | 2, _ => exact ⟨_, rfl⟩ | 3, _ => exact ⟨_, rfl⟩ | n0+4, h0 => exact absurd h0 (Nat.not_lt.2 (Nat.le_add_left 4 n0)))) (by simp [go_sem, gL, kL, lk, renOf, V.obj, Nat.blt, Nat.ble]))⟩
  · obtain rfl : i = own.length := by omega
    simp only [List.drop_length, momG, List.append_nil] at g3
    repeat' (first | (refine AW.sreg rfl fun K hK => ?_; simp only [go_sem, Nat.reduceAdd, Nat.reduceMul, Int.reduceToNat, Nat.reduceLT, Nat.reduceLeDiff, Nat.le_refl, Nat.reduceEqDiff, ↓reduceIte, beq_self_eq_true, bne_self_eq_false, Int.reduceBEq, Int.reduceBNe, or_self, true_or, or_true, Option.map_some, Option.map_none, List.length_map]) | (refine AW.seq_k fun K hK => ?_) | (refine AW.exit ?_; simp only [go_sem, ↓reduceIte]) | (refine AW.condF rfl (by first | rfl | (simp; omega) | (simp [*]; done) | fail) ?_) | (refine hK _ ?_; clear hK K) | (clear hK K; refine hK _ ?_; clear hK K))
    rw [← g3]
    exact AW.ret (Fin.data rfl (frz_tup2 (frz_slr (e := 3) (s := 1) (xs := out.map (D.int .i64)) rfl rfl (by simp)) rfl) rfl)
end Go.AX
