/- Marks by papers and by persons: plain laws. -/
import Derived.Test.YtmcchfkclhpbhaaGreatDoorVB
set_option linter.unusedSimpArgs false
set_option linter.unusedVariables false
set_option linter.unnecessarySimpa false
set_option maxRecDepth 1000000
set_option maxHeartbeats 4000000
namespace Go.AX
open Go Go.Proofs
theorem toDL_app {F : V → Option D} : ∀ {xs ys : List V} {a b : List D}, toDL F xs = some a → toDL F ys = some b → toDL F (xs ++ ys) = some (a ++ b)
  | [], ys, a, b, h1, h2 => by
    simp only [toDL, Option.some.injEq] at h1
    subst h1
    exact h2
  | x :: xs, ys, a, b, h1, h2 => by
    simp only [toDL] at h1
    split at h1
    · rename_i d ds e1 e2
      cases h1
      simp only [List.cons_append, toDL, e1, toDL_app e2 h2]
    · cases h1
theorem dv_appV (xs ys : List D) : dv (xs ++ ys) = dv xs ++ dv ys := by simp [dv]
theorem frzL_appV {hv : Nat → Option O} {keep : Nat → Bool} : ∀ xs ys : List V, frzL hv keep (xs ++ ys) = frzL hv keep xs ++ frzL hv keep ys
  | [], ys => by simp [frzL]
  | x :: r, ys => by simp [frzL, frzL_appV r ys]
theorem belL_app (n : Nat) : ∀ xs ys : List V, belL n (xs ++ ys) = (belL n xs && belL n ys)
  | [], ys => by simp [belL]
  | x :: r, ys => by simp [belL, belL_app n r ys, Bool.and_assoc]
theorem renL_app (g : Nat → Nat) : ∀ xs ys : List V, renL g (xs ++ ys) = renL g xs ++ renL g ys
  | [], ys => by simp [renL]
  | x :: r, ys => by simp [renL, renL_app g r ys]
theorem frzL_md {α : Type} (f : α → D) (hv : Nat → Option O) (keep : Nat → Bool) : ∀ l : List α, frzL hv keep (l.map fun x => V.d (f x)) = l.map fun x => V.d (f x)
  | [] => rfl
  | x :: r => by simp [frzL, frz, frzL_md f hv keep r]
theorem belL_md {α : Type} (f : α → D) (n : Nat) : ∀ l : List α, belL n (l.map fun x => V.d (f x)) = true
  | [] => rfl
  | x :: r => by simp [belL, V.bel, belL_md f n r]
theorem renL_md {α : Type} (f : α → D) (g : Nat → Nat) : ∀ l : List α, renL g (l.map fun x => V.d (f x)) = l.map fun x => V.d (f x)
  | [] => rfl
  | x :: r => by simp [renL, V.ren, renL_md f g r]
theorem toDL_md {α : Type} (f : α → D) {F : V → Option D} (h : ∀ x : D, F (.d x) = some x) : ∀ l : List α, toDL F (l.map fun x => V.d (f x)) = some (l.map f)
  | [] => rfl
  | x :: r => by simp [toDL, h, toDL_md f h r]
theorem dv_one (x : D) : dv [x] = [V.d x] := rfl
theorem rise_nodupS {l : List Str} (h : l.Pairwise (fun a b => ltS a b = true)) : l.Nodup := List.Pairwise.imp (fun h => ltS_ne h) h
def gP (T : List Mk) (p : Str) : List Mk := T.filter fun m => m.1 == p
def gQ (T : List Mk) (p : Str) : List Mk := T.filter fun m => m.2.1 == p
/-- A map that holds lists of marks. -/
structure MapK (KS : List Str) (VS : List D) (L : Str → List Mk) : Prop where
  find : ∀ p, (fndK (.str p) (KS.map D.str) = some none ∧ L p = []) ∨ ∃ j, fndK (.str p) (KS.map D.str) = some (some j) ∧ (VS.map V.d)[j]? = some (.d (.sl ((L p).map mkD)))
  nd : KS.Nodup
  mem : ∀ p, p ∈ KS ↔ L p ≠ []
  vlen : VS.length = KS.length
abbrev Gr := Str × List Mk
abbrev grD (g : Gr) : D := .sl (g.2.map mkD)
/-- Groups that are all there is. -/
structure Grps (L : Str → List Mk) (gs : List Gr) : Prop where
  nd : (gs.map (·.1)).Nodup
  vals : ∀ g ∈ gs, L g.1 = g.2
  ne : ∀ g ∈ gs, g.2 ≠ []
  non : ∀ p, p ∉ gs.map (·.1) → L p = []
theorem Grps.map {L : Str → List Mk} {gs : List Gr} (h : Grps L gs) : MapK (gs.map (·.1)) (gs.map grD) L where
  nd := h.nd
  vlen := by simp
  mem := fun p => by
    constructor
    · intro hp
      obtain ⟨g, hg, rfl⟩ := List.mem_map.1 hp
      rw [h.vals g hg]
      exact h.ne g hg
    · intro hp
      refine Decidable.byContradiction fun hn => hp (h.non p hn)
  find := fun p => by
    rw [fndK_str]
    by_cases hp : p ∈ gs.map (·.1)
    · obtain ⟨j, hj⟩ := List.getElem?_of_mem hp
      refine .inr ⟨j, by rw [findIdx_at h.nd hj], ?_⟩
      rw [List.getElem?_map] at hj
      obtain ⟨g, hg, rfl⟩ := Option.map_eq_some_iff.1 hj
      rw [List.map_map, List.getElem?_map, hg, Option.map_some, h.vals g (List.mem_of_getElem? hg)]
      rfl
    · exact .inl ⟨by rw [findIdx_none hp], h.non p hp⟩
/-- One list grows. -/
theorem Grps.old {f : Mk → Str} {T : List Mk} {A B : List Gr} {q : Str} {l : List Mk} (h : Grps (fun p => T.filter fun m => f m == p) (A ++ (q, l) :: B)) {x : Mk} (hx : f x = q) : Grps (fun p => (T ++ [x]).filter fun m => f m == p) (A ++ (q, l ++ [x]) :: B) where
  nd := by have := h.nd; simpa using this
  ne := fun g hg => by
    rcases List.mem_append.1 hg with hg | hg
    · exact h.ne g (List.mem_append_left _ hg)
    · rcases List.mem_cons.1 hg with rfl | hg
      · simp
      · exact h.ne g (List.mem_append_right _ (List.mem_cons_of_mem _ hg))
  vals := fun g hg => by
    have hnd := h.nd
    rw [List.map_append, List.map_cons, List.nodup_append] at hnd
    obtain ⟨n1, n2, n3⟩ := hnd
    rw [List.nodup_cons] at n2
    rw [List.filter_append]
    rcases List.mem_append.1 hg with hg | hg
    · have hne : f x ≠ g.1 := by rw [hx]; exact fun e => n3 g.1 (List.mem_map_of_mem hg) q (by simp) e.symm
      rw [List.filter_cons_of_neg (by simpa using hne), List.filter_nil, List.append_nil]
      exact h.vals g (List.mem_append_left _ hg)
    · rcases List.mem_cons.1 hg with rfl | hg
      · rw [List.filter_cons_of_pos (by simpa using hx), List.filter_nil]
        have := h.vals (q, l) (List.mem_append_right _ (by simp))
        simp only at this ⊢
        rw [this]
      · have hne : f x ≠ g.1 := by rw [hx]; exact fun e => n2.1 (show q ∈ B.map (·.1) by rw [e]; exact List.mem_map_of_mem hg)
        rw [List.filter_cons_of_neg (by simpa using hne), List.filter_nil, List.append_nil]
        exact h.vals g (List.mem_append_right _ (List.mem_cons_of_mem _ hg))
  non := fun p hp => by
    have hp2 : p ∉ (A ++ (q, l) :: B).map (·.1) := by simpa using hp
    have hne : f x ≠ p := by rw [hx]; rintro rfl; exact hp (by simp)
    rw [List.filter_append, List.filter_cons_of_neg (by simpa using hne), List.filter_nil, List.append_nil]
    exact h.non p hp2
/-- A list more. -/
theorem Grps.new {f : Mk → Str} {T : List Mk} {gs : List Gr} (h : Grps (fun p => T.filter fun m => f m == p) gs) {x : Mk} (hx : f x ∉ gs.map (·.1)) : Grps (fun p => (T ++ [x]).filter fun m => f m == p) (gs ++ [(f x, [x])]) where
  nd := by
    rw [List.map_append, List.nodup_append]
    exact ⟨h.nd, by simp, fun a ha b hb => by
      simp only [List.map_cons, List.map_nil, List.mem_singleton] at hb
      subst hb
      rintro rfl
      exact hx ha⟩
  ne := fun g hg => by
    rcases List.mem_append.1 hg with hg | hg
    · exact h.ne g hg
    · obtain rfl := List.mem_singleton.1 hg; simp
  vals := fun g hg => by
    rw [List.filter_append]
    rcases List.mem_append.1 hg with hg | hg
    · have hne : f x ≠ g.1 := fun e => hx (by rw [e]; exact List.mem_map_of_mem hg)
      rw [List.filter_cons_of_neg (by simpa using hne), List.filter_nil, List.append_nil]
      exact h.vals g hg
    · obtain rfl := List.mem_singleton.1 hg
      rw [List.filter_cons_of_pos (by simp), List.filter_nil]
      have := h.non (f x) hx
      simp only at this ⊢
      rw [this]
      rfl
  non := fun p hp => by
    have hp1 : p ∉ gs.map (·.1) := fun h => hp (by simp [h])
    have hne : f x ≠ p := by rintro rfl; exact hp (by simp)
    rw [List.filter_append, List.filter_cons_of_neg (by simpa using hne), List.filter_nil, List.append_nil]
    exact h.non p hp1
theorem Grps.one {f : Mk → Str} (x : Mk) : Grps (fun p => [x].filter fun m => f m == p) [(f x, [x])] := by
  have h : Grps (fun p => ([] : List Mk).filter fun m => f m == p) [] := ⟨by simp, by simp, by simp, by simp⟩
  exact h.new (x := x) (by simp)
theorem fnd_at {ks : List Str} {j : Nat} {k : Str} (h : ks.Nodup) (hj : ks[j]? = some k) : fndK (.str k) (ks.map D.str) = some (some j) := by rw [fndK_str, findIdx_at h hj]
theorem fnd_no {ks : List Str} {k : Str} (h : k ∉ ks) : fndK (.str k) (ks.map D.str) = some none := by rw [fndK_str, findIdx_none h]
/-- The papers: those that are done, and the one that is being filled. -/
structure GrpP (T : List Mk) (gs : List Gr) (k : Str) (ps : List Mk) : Prop where
  g : Grps (gP T) (gs ++ [(k, ps)])
  rise : (gs.map (·.1) ++ [k]).Pairwise (fun a b => ltS a b = true)
theorem GrpP.one (x : Mk) : GrpP [x] [] x.1 [x] := ⟨Grps.one (f := fun m => m.1) x, by simp⟩
theorem GrpP.same {T : List Mk} {gs : List Gr} {k : Str} {ps : List Mk} (h : GrpP T gs k ps) {x : Mk} (hx : x.1 = k) : GrpP (T ++ [x]) gs k (ps ++ [x]) := ⟨Grps.old (f := fun m => m.1) (A := gs) (B := []) h.g hx, h.rise⟩
theorem GrpP.next {T : List Mk} {gs : List Gr} {k : Str} {ps : List Mk} (h : GrpP T gs k ps) {x : Mk} (hx : ltS k x.1 = true) : GrpP (T ++ [x]) (gs ++ [(k, ps)]) x.1 [x] := by
  have hr : ((gs ++ [(k, ps)]).map (·.1) ++ [x.1]).Pairwise (fun a b => ltS a b = true) := by
    rw [List.map_append, List.map_cons, List.map_nil, List.pairwise_append]
    refine ⟨h.rise, by simp, ?_⟩
    intro a ha b hb
    obtain rfl := List.mem_singleton.1 hb
    rcases List.mem_append.1 ha with ha | ha
    · exact ltS_trans ((List.pairwise_append.1 h.rise).2.2 a ha k (by simp)) hx
    · obtain rfl := List.mem_singleton.1 ha
      exact hx
  have hn := rise_nodupS hr
  refine ⟨Grps.new (f := fun m => m.1) h.g ?_, hr⟩
  rw [List.nodup_append] at hn
  exact fun hm => hn.2.2 x.1 hm x.1 (by simp) rfl
/-- The map of papers that is being filled. -/
abbrev LM (gs : List Gr) (k : Str) (b n : Nat) : O := .map ((gs.map fun g => D.str g.1) ++ [.str k]) ((gs.map fun g => V.d (grD g)) ++ [.slr b 0 n])
theorem lm_at {gs : List Gr} {k : Str} (h : (gs.map (·.1) ++ [k]).Pairwise (fun a b => ltS a b = true)) : fndK (.str k) ((gs.map fun g => D.str g.1) ++ [.str k]) = some (some gs.length) := by
  have e : (gs.map fun g => D.str g.1) ++ [.str k] = (gs.map (·.1) ++ [k]).map D.str := by simp
  rw [e, fndK_str, findIdx_at (rise_nodupS h) (j := gs.length) (by simp)]
theorem lm_no {gs : List Gr} {k x : Str} (h : (gs.map (·.1) ++ [k]).Pairwise (fun a b => ltS a b = true)) (hx : ltS k x = true) : fndK (.str x) ((gs.map fun g => D.str g.1) ++ [.str k]) = some none := by
  have e : (gs.map fun g => D.str g.1) ++ [.str k] = (gs.map (·.1) ++ [k]).map D.str := by simp
  rw [e, fndK_str, findIdx_none]
  intro hm
  rcases List.mem_append.1 hm with hm | hm
  · have := (List.pairwise_append.1 h).2.2 x hm k (by simp)
    rw [ltS_asymm hx] at this; cases this
  · simp only [List.mem_singleton] at hm
    subst hm
    rw [ltS_irrefl] at hx; cases hx
theorem toD_slr {hv : Nat → Option O} {keep : Nat → Bool} {b e n : Nat} {ps : List Mk} (f : Nat) (hk2 : keep b = false) (h2 : hv b = some (.vec e 3 (dv (ps.map mkD)))) (hn : n = ps.length) : toD hv keep (f + 2) (.slr b 0 n) = some (.sl (ps.map mkD)) := by
  subst hn
  rw [toD]
  simp only [hk2, Bool.false_eq_true, if_false, h2, dv_length, List.length_map, Nat.zero_add, Nat.le_refl, if_true, List.drop_zero]
  rw [show (dv (ps.map mkD)).take ps.length = dv (ps.map mkD) from List.take_of_length_le (by simp [dv]), show toDL (toD hv keep (f + 1)) (dv (ps.map mkD)) = some (ps.map mkD) from toDL_dv hv keep f _]
theorem toD_lm {hv : Nat → Option O} {keep : Nat → Bool} {m b n : Nat} {e : Nat} {gs : List Gr} {k : Str} {ps : List Mk} (f : Nat) (hk : keep m = false) (h : hv m = some (LM gs k b n)) (hk2 : keep b = false) (h2 : hv b = some (.vec e 3 (dv (ps.map mkD)))) (hn : n = ps.length) :
    toD hv keep (f + 3) (.mpr m) = some (.map (((gs ++ [(k, ps)]).map (·.1)).map D.str) ((gs ++ [(k, ps)]).map grD)) := by
  have h3 := toD_slr (hv := hv) (keep := keep) (b := b) (e := e) (n := n) (ps := ps) f hk2 h2 hn
  rw [toD]
  simp only [hk, Bool.false_eq_true, if_false, h]
  rw [toDL_app (a := gs.map grD) (b := [.sl (ps.map mkD)]) (toDL_md grD (fun x => by rw [toD]) gs) (by simp only [toDL, h3])]
  simp
end Go.AX

namespace Go.AX
open Go Go.Proofs Go.RowKit
abbrev MV (ps : List Mk) : O := .vec 39 3 (dv (ps.map mkD))
/-- The objects that hold the marks by persons. -/
def hsQ : List Gr → List (Nat × Option O)
  | [] => [(192, some (.map [] []))]
  | [(q0, l0)] => [(192, some (.map [.str q0] [.slr 601 0 l0.length])), (601, some (MV l0))]
  | [(q0, l0), (q1, l1)] => [(192, some (.map [.str q0, .str q1] [.slr 601 0 l0.length, .slr 602 0 l1.length])), (601, some (MV l0)), (602, some (MV l1))]
  | [(q0, l0), (q1, l1), (q2, l2)] => [(192, some (.map [.str q0, .str q1, .str q2] [.slr 601 0 l0.length, .slr 602 0 l1.length, .slr 603 0 l2.length])), (601, some (MV l0)), (602, some (MV l1)), (603, some (MV l2))]
  | [(q0, l0), (q1, l1), (q2, l2), (q3, l3)] => [(192, some (.map [.str q0, .str q1, .str q2, .str q3] [.slr 601 0 l0.length, .slr 602 0 l1.length, .slr 603 0 l2.length, .slr 604 0 l3.length])), (601, some (MV l0)), (602, some (MV l1)), (603, some (MV l2)), (604, some (MV l3))]
  | [(q0, l0), (q1, l1), (q2, l2), (q3, l3), (q4, l4)] => [(192, some (.map [.str q0, .str q1, .str q2, .str q3, .str q4] [.slr 601 0 l0.length, .slr 602 0 l1.length, .slr 603 0 l2.length, .slr 604 0 l3.length, .slr 605 0 l4.length])), (601, some (MV l0)), (602, some (MV l1)), (603, some (MV l2)), (604, some (MV l3)), (605, some (MV l4))]
  | _ => []
/-- A state of the loop: the place, the papers that are done, the paper that is being filled, the persons. -/
abbrev ShS := Nat × List Gr × Str × List Mk × List Gr
def hsS (ms : List Mk) : Option ShS → List (Nat × Option O)
  | none => [(320, some (.box 79 [.d (.sl (ms.map mkD)), .mpr 128, .mpr 192])), (128, some (.map [] [])), (192, some (.map [] []))]
  | some p => (320, some (.box 79 [.d (.sl (ms.map mkD)), .mpr 128, .mpr 192])) :: (128, some (LM p.2.1 p.2.2.1 576 p.2.2.2.1.length)) :: (576, some (MV p.2.2.2.1)) :: hsQ p.2.2.2.2
def ixS : Option ShS → Nat
  | none => 0
  | some p => p.1
def InvS (ms : List Mk) : Option ShS → Prop
  | none => True
  | some p => 1 ≤ p.1 ∧ p.1 ≤ ms.length ∧ GrpP (ms.take p.1) p.2.1 p.2.2.1 p.2.2.2.1 ∧ Grps (gQ (ms.take p.1)) p.2.2.2.2 ∧ (∃ y, ms[p.1 - 1]? = some y ∧ y.1 = p.2.2.1) ∧ p.2.2.2.1.length ≤ p.1 ∧ (∀ g ∈ p.2.2.2.2, g.2.length ≤ p.1) ∧ p.2.2.2.2 ≠ []
/-- What is made of marks. -/
structure ShOk (ms : List Mk) (q : (List Str × List D) × (List Str × List D)) : Prop where
  pa : MapK q.1.1 q.1.2 (gP ms)
  rise : q.1.1.Pairwise (fun a b => ltS a b = true)
  pe : MapK q.2.1 q.2.2 (gQ ms)
theorem toD_q1 {hv : Nat → Option O} {keep : Nat → Bool} {q0 : Str} {l0 : List Mk} (hk : keep 192 = false) (h : hv 192 = some (.map [.str q0] [.slr 601 0 l0.length])) (k0 : keep 601 = false) (h0 : hv 601 = some (MV l0)) : toD hv keep 7 (.mpr 192) = some (.map ((([(q0, l0)] : List Gr).map (·.1)).map D.str) (([(q0, l0)] : List Gr).map grD)) := by
  have t0 := toD_slr (hv := hv) (keep := keep) (b := 601) (ps := l0) 4 k0 h0 rfl
  rw [toD]
  simp only [hk, Bool.false_eq_true, if_false, h, toDL, t0]
  rfl
theorem toD_q2 {hv : Nat → Option O} {keep : Nat → Bool} {q0 : Str} {l0 : List Mk} {q1 : Str} {l1 : List Mk} (hk : keep 192 = false) (h : hv 192 = some (.map [.str q0, .str q1] [.slr 601 0 l0.length, .slr 602 0 l1.length])) (k0 : keep 601 = false) (h0 : hv 601 = some (MV l0)) (k1 : keep 602 = false) (h1 : hv 602 = some (MV l1)) : toD hv keep 7 (.mpr 192) = some (.map ((([(q0, l0), (q1, l1)] : List Gr).map (·.1)).map D.str) (([(q0, l0), (q1, l1)] : List Gr).map grD)) := by
  have t0 := toD_slr (hv := hv) (keep := keep) (b := 601) (ps := l0) 4 k0 h0 rfl
  have t1 := toD_slr (hv := hv) (keep := keep) (b := 602) (ps := l1) 4 k1 h1 rfl
  rw [toD]
  simp only [hk, Bool.false_eq_true, if_false, h, toDL, t0, t1]
  rfl
theorem toD_q3 {hv : Nat → Option O} {keep : Nat → Bool} {q0 : Str} {l0 : List Mk} {q1 : Str} {l1 : List Mk} {q2 : Str} {l2 : List Mk} (hk : keep 192 = false) (h : hv 192 = some (.map [.str q0, .str q1, .str q2] [.slr 601 0 l0.length, .slr 602 0 l1.length, .slr 603 0 l2.length])) (k0 : keep 601 = false) (h0 : hv 601 = some (MV l0)) (k1 : keep 602 = false) (h1 : hv 602 = some (MV l1)) (k2 : keep 603 = false) (h2 : hv 603 = some (MV l2)) : toD hv keep 7 (.mpr 192) = some (.map ((([(q0, l0), (q1, l1), (q2, l2)] : List Gr).map (·.1)).map D.str) (([(q0, l0), (q1, l1), (q2, l2)] : List Gr).map grD)) := by
  have t0 := toD_slr (hv := hv) (keep := keep) (b := 601) (ps := l0) 4 k0 h0 rfl
  have t1 := toD_slr (hv := hv) (keep := keep) (b := 602) (ps := l1) 4 k1 h1 rfl
  have t2 := toD_slr (hv := hv) (keep := keep) (b := 603) (ps := l2) 4 k2 h2 rfl
  rw [toD]
  simp only [hk, Bool.false_eq_true, if_false, h, toDL, t0, t1, t2]
  rfl
theorem toD_q4 {hv : Nat → Option O} {keep : Nat → Bool} {q0 : Str} {l0 : List Mk} {q1 : Str} {l1 : List Mk} {q2 : Str} {l2 : List Mk} {q3 : Str} {l3 : List Mk} (hk : keep 192 = false) (h : hv 192 = some (.map [.str q0, .str q1, .str q2, .str q3] [.slr 601 0 l0.length, .slr 602 0 l1.length, .slr 603 0 l2.length, .slr 604 0 l3.length])) (k0 : keep 601 = false) (h0 : hv 601 = some (MV l0)) (k1 : keep 602 = false) (h1 : hv 602 = some (MV l1)) (k2 : keep 603 = false) (h2 : hv 603 = some (MV l2)) (k3 : keep 604 = false) (h3 : hv 604 = some (MV l3)) : toD hv keep 7 (.mpr 192) = some (.map ((([(q0, l0), (q1, l1), (q2, l2), (q3, l3)] : List Gr).map (·.1)).map D.str) (([(q0, l0), (q1, l1), (q2, l2), (q3, l3)] : List Gr).map grD)) := by
  have t0 := toD_slr (hv := hv) (keep := keep) (b := 601) (ps := l0) 4 k0 h0 rfl
  have t1 := toD_slr (hv := hv) (keep := keep) (b := 602) (ps := l1) 4 k1 h1 rfl
  have t2 := toD_slr (hv := hv) (keep := keep) (b := 603) (ps := l2) 4 k2 h2 rfl
  have t3 := toD_slr (hv := hv) (keep := keep) (b := 604) (ps := l3) 4 k3 h3 rfl
  rw [toD]
  simp only [hk, Bool.false_eq_true, if_false, h, toDL, t0, t1, t2, t3]
  rfl
theorem toD_q5 {hv : Nat → Option O} {keep : Nat → Bool} {q0 : Str} {l0 : List Mk} {q1 : Str} {l1 : List Mk} {q2 : Str} {l2 : List Mk} {q3 : Str} {l3 : List Mk} {q4 : Str} {l4 : List Mk} (hk : keep 192 = false) (h : hv 192 = some (.map [.str q0, .str q1, .str q2, .str q3, .str q4] [.slr 601 0 l0.length, .slr 602 0 l1.length, .slr 603 0 l2.length, .slr 604 0 l3.length, .slr 605 0 l4.length])) (k0 : keep 601 = false) (h0 : hv 601 = some (MV l0)) (k1 : keep 602 = false) (h1 : hv 602 = some (MV l1)) (k2 : keep 603 = false) (h2 : hv 603 = some (MV l2)) (k3 : keep 604 = false) (h3 : hv 604 = some (MV l3)) (k4 : keep 605 = false) (h4 : hv 605 = some (MV l4)) : toD hv keep 7 (.mpr 192) = some (.map ((([(q0, l0), (q1, l1), (q2, l2), (q3, l3), (q4, l4)] : List Gr).map (·.1)).map D.str) (([(q0, l0), (q1, l1), (q2, l2), (q3, l3), (q4, l4)] : List Gr).map grD)) := by
  have t0 := toD_slr (hv := hv) (keep := keep) (b := 601) (ps := l0) 4 k0 h0 rfl
  have t1 := toD_slr (hv := hv) (keep := keep) (b := 602) (ps := l1) 4 k1 h1 rfl
  have t2 := toD_slr (hv := hv) (keep := keep) (b := 603) (ps := l2) 4 k2 h2 rfl
  have t3 := toD_slr (hv := hv) (keep := keep) (b := 604) (ps := l3) 4 k3 h3 rfl
  have t4 := toD_slr (hv := hv) (keep := keep) (b := 605) (ps := l4) 4 k4 h4 rfl
  rw [toD]
  simp only [hk, Bool.false_eq_true, if_false, h, toDL, t0, t1, t2, t3, t4]
  rfl
theorem ShOk.nil : ShOk [] (([], []), ([], [])) where
  pa := (Grps.map (gs := []) ⟨by simp, by simp, by simp, fun p _ => rfl⟩)
  rise := by simp
  pe := (Grps.map (gs := []) ⟨by simp, by simp, by simp, fun p _ => rfl⟩)
theorem frz_sheet {hv : Nat → Option O} {keep : Nat → Bool} {e : Nat} {ms : List Mk} {P Q : D} (hk : keep 320 = false) (h : hv 320 = some (.box e [.d (.sl (ms.map mkD)), .mpr 128, .mpr 192])) (hP : toD hv keep 7 (.mpr 128) = some P) (hQ : toD hv keep 7 (.mpr 192) = some Q) : frz hv keep (.ptr 320 0) = .d (.ptr [.sl (ms.map mkD), P, Q] 0) := by
  have e : toD hv keep 8 (.ptr 320 0) = some (.ptr [.sl (ms.map mkD), P, Q] 0) := by
    rw [toD]
    simp only [hk, Bool.false_eq_true, if_false, h, toDL, hP, hQ]
    rw [toD]
  simp only [frz, hk, Bool.false_eq_true, if_false, e]
theorem pers_le {gs : List Gr} {L : Str → List Mk} (h : Grps L gs) {H : List Str} (hH : ∀ g ∈ gs, g.1 ∈ H) : gs.length ≤ H.length := by
  have := h.nd.length_le_of_subset (l₂ := H) fun p hp => by
    obtain ⟨g, hg, rfl⟩ := List.mem_map.1 hp
    exact hH g hg
  simpa using this
theorem rise_next {ms : List Mk} (g : GoodM ms) {i : Nat} {y x : Mk} (hy : ms[i]? = some y) (hx : ms[i + 1]? = some x) : y.1 = x.1 ∨ ltS y.1 x.1 = true := by
  have h := g.ord i y x hy hx
  have h2 := cpP_lt (y.1, y.2.1) (x.1, x.2.1)
  rw [decide_eq_true h] at h2
  rcases (ltP_iff _ _).1 h2.symm with h3 | h3
  · exact .inr h3
  · exact .inl h3.1
theorem sheetOfI (ms : List Mk) (hl : ms.length ≤ 1000) (hg : GoodM ms) (H : List Str) (hH : H.length ≤ 5) (hm : ∀ m ∈ ms, m.2.1 ∈ H) : DoesI Tryz.prog 63 [.d (.sl (ms.map mkD))] [] (ShOk ms) (fun q => .d (.ptr [.sl (ms.map mkD), .map (q.1.1.map D.str) q.1.2, .map (q.2.1.map D.str) q.2.2] 0)) (fun _ => []) := by
  refine DoesI.of_AW (n := 55) Tryz.func63 rfl rfl rfl fun cx hcx => ?_
  repeat' (first | (refine AW.sreg rfl fun K hK => ?_; simp only [go_sem, Nat.reduceAdd, Nat.reduceMul, Int.reduceToNat, Nat.reduceLT, Nat.reduceLeDiff, Nat.le_refl, Nat.reduceEqDiff, ↓reduceIte, beq_self_eq_true, bne_self_eq_false, Int.reduceBEq, Int.reduceBNe, or_self, true_or, or_true, Option.map_some, Option.map_none, List.length_map]) | (refine AW.seq_k fun K hK => ?_) | (refine AW.block ?_) | (refine hK _ ?_; clear hK K))
  refine AW.loopF (ι := Option ShS) [3, 11, 12] (fun p => [(13, I (ixS p))]) (hsS ms) 10 (fun p => InvS ms p) (fun p => ms.length - ixS p) none trivial (Weak.objs hcx [(320, 320), (128, 128), (192, 192)] rfl rfl (Nat.le_of_ble_eq_true rfl) (by simp [go_sem, gL, kL, List.map_append, dv_push, hsS, ixS]) (by simp [go_sem, gL, kL, List.map_append, dv_push, hsS, ixS]) (by first | exact pk0 | exact pk1 ⟨_, rfl⟩ | exact pk2 ⟨_, rfl⟩ ⟨_, rfl⟩ | exact pk3 ⟨_, rfl⟩ ⟨_, rfl⟩ ⟨_, rfl⟩ | exact pk4 ⟨_, rfl⟩ ⟨_, rfl⟩ ⟨_, rfl⟩ ⟨_, rfl⟩) (by simp [gL, lk, hsS, ixS])) ?_; simp only [St.at_nil, St.at_cons, lk, Nat.reduceEqDiff, ↓reduceIte, Option.getD_some, Option.getD_none, List.cons_append, List.nil_append, List.append_nil]
  rintro (_ | ⟨i, gs, k, ps, hs⟩) hI
  · simp only [hsS, ixS, Int.natCast_zero]
    by_cases hi : 0 < ms.length
    · obtain ⟨x, hx, hxm, hxd⟩ := get_some hi
      have hget : (ms.map mkD)[0]? = some (mkD x) := by simp only [List.getElem?_map, hx, Option.map_some]
      have htk : ms.take 1 = [x] := by rw [List.take_one, List.head?_eq_getElem?, hx]; rfl
      repeat' (first | ((first | refine AW.sreg rfl fun K hK => ?_ | refine AW.sregD hmix rfl fun K hK => ?_ | refine AW.reg rfl ?_ | refine AW.regD hmix rfl ?_); simp only [go_sem, Nat.reduceAdd, Nat.reduceMul, Int.reduceToNat, Nat.reduceLT, Nat.reduceLeDiff, Nat.le_refl, Nat.reduceEqDiff, ↓reduceIte, beq_self_eq_true, bne_self_eq_false, Int.reduceBEq, Int.reduceBNe, or_self, true_or, or_true, Option.map_some, Option.map_none, List.length_map, hget, Int.toNat_zero]) | (refine AW.seq_k fun K hK => ?_) | (refine AW.block ?_) | (refine AW.skip ?_; simp only [Then, InBlock]) | (refine AW.condT rfl (by first | rfl | (simp; omega) | (simp [*]; done) | fail) ?_) | (refine hK _ ?_; clear hK K) | (with_reducible refine And.intro (?_ : regOk _ _ = true) ?_; kernel_rfl) | (with_reducible refine And.intro ?_ ?_; first | omega | assumption | (focus (decide)) | (focus (simp; done)) | (focus (simp; omega)) | (focus (constructor <;> omega)) | fail))
      exact ⟨some (1, [], x.1, [x], [(x.2.1, [x])]), ⟨by simp, hi, by simp only [htk]; exact GrpP.one x, by simp only [htk]; exact Grps.one (f := fun m => m.2.1) x, ⟨x, hx, rfl⟩, by simp, by simp, by simp⟩, by simp only [ixS]; omega, (Weak.objs hcx [(320, 320), (128, 128), (576, 2048), (192, 192), (601, 3264)] rfl rfl (Nat.le_of_ble_eq_true rfl) (by simp [go_sem, gL, kL, List.map_append, dv_push, frzL_appV, frzL_md, hsS, hsQ, ixS, belL_app, renL_app, dv_one, belL_md, renL_md]) (by simp [go_sem, gL, kL, List.map_append, dv_push, frzL_appV, frzL_md, hsS, hsQ, ixS, belL_app, renL_app, dv_one, belL_md, renL_md]) (by first | exact pk0 | exact pk1 ⟨_, rfl⟩ | exact pk2 ⟨_, rfl⟩ ⟨_, rfl⟩ | exact pk3 ⟨_, rfl⟩ ⟨_, rfl⟩ ⟨_, rfl⟩ | exact pk4 ⟨_, rfl⟩ ⟨_, rfl⟩ ⟨_, rfl⟩ ⟨_, rfl⟩) (by simp [gL, lk, frzL_appV, frzL_md, hsS, hsQ, ixS, belL_app, renL_app, dv_one, belL_md, renL_md]))⟩
    · have h0 : ms = [] := List.length_eq_zero_iff.1 (by omega)
      subst h0
      repeat' (first | (refine AW.sreg rfl fun K hK => ?_; simp only [go_sem, Nat.reduceAdd, Nat.reduceMul, Int.reduceToNat, Nat.reduceLT, Nat.reduceLeDiff, Nat.le_refl, Nat.reduceEqDiff, ↓reduceIte, beq_self_eq_true, bne_self_eq_false, Int.reduceBEq, Int.reduceBNe, or_self, true_or, or_true, Option.map_some, Option.map_none, List.length_map]) | (refine AW.seq_k fun K hK => ?_) | (refine AW.exit ?_; simp only [go_sem, ↓reduceIte]) | (refine AW.condF rfl (by first | rfl | (simp; omega) | (simp [*]; done) | fail) ?_) | (refine hK _ ?_; clear hK K) | (clear hK K; refine hK _ ?_; clear hK K))
      exact AW.ret ⟨(([], []), ([], [])), ShOk.nil, Fin.data rfl (by simp [go_sem]) rfl⟩
  · obtain ⟨g1, g2, g3, gQ3, ⟨y, hy, hyk⟩, g5, g6, g7⟩ := hI
    simp only at g1 g2 g3 gQ3 hy hyk g5 g6 g7
    simp only [hsS, ixS]
    by_cases hi : i < ms.length
    · obtain ⟨x, hx, hxm, hxd⟩ := get_some hi
      have hget : (ms.map mkD)[i]? = some (mkD x) := by simp only [List.getElem?_map, hx, Option.map_some]
      have htk : ms.take (i + 1) = ms.take i ++ [x] := by rw [List.take_add_one, hx]; rfl
      have hrn := rise_next hg hy (x := x) (by rw [show i - 1 + 1 = i by omega]; exact hx)
      have hxH := hm x hxm
      have hHall : ∀ (T : List Mk) (gs : List Gr), T ++ [] = T → Grps (gQ (ms.take (i + 1))) gs → gs.length ≤ 5 := by
        intro T gs _ hgs
        refine Nat.le_trans (pers_le hgs (H := H) fun g hgm => ?_) hH
        have hne := hgs.ne g hgm
        rw [← hgs.vals g hgm] at hne
        obtain ⟨m, hmm⟩ := List.exists_mem_of_ne_nil _ hne
        have h2 := (List.mem_filter.1 hmm).2
        have h3 : m.2.1 = g.1 := by simpa using h2
        rw [← h3]
        exact hm m (List.mem_of_mem_take (List.mem_filter.1 hmm).1)
      obtain ⟨xp, xq, xs⟩ := x
      simp only at hrn hyk hxH
      have htl : List.take ps.length (dv (ps.map mkD)) = dv (ps.map mkD) := List.take_of_length_le (by simp [dv])
      have hf1 := lm_at g3.rise
      have hgv : ((gs.map fun g => V.d (grD g)) ++ [.slr 576 0 ps.length])[gs.length]? = some (.slr 576 0 ps.length) := by simp
      have hst : ∀ z : V, ((gs.map fun g => V.d (grD g)) ++ [V.slr 576 0 ps.length]).set gs.length z = (gs.map fun g => V.d (grD g)) ++ [z] := by
        intro z
        have := set_mid (gs.map fun g => V.d (grD g)) (V.slr 576 0 ps.length) [] z
        simpa using this
      have hks : ((gs.map fun (g : Gr) => D.str g.1) ++ [D.str k]).set gs.length (D.str k) = (gs.map fun (g : Gr) => D.str g.1) ++ [D.str k] := by
        have := set_mid (gs.map fun (g : Gr) => D.str g.1) (D.str k) [] (D.str k)
        simpa using this
      have hHall0 : ∀ gs : List Gr, Grps (gQ (ms.take i)) gs → gs.length ≤ 5 := by
        intro gs hgs
        refine Nat.le_trans (pers_le hgs (H := H) fun g hgm => ?_) hH
        have hne := hgs.ne g hgm
        rw [← hgs.vals g hgm] at hne
        obtain ⟨m, hmm⟩ := List.exists_mem_of_ne_nil _ hne
        have h2 := (List.mem_filter.1 hmm).2
        have h3 : m.2.1 = g.1 := by simpa using h2
        rw [← h3]
        exact hm m (List.mem_of_mem_take (List.mem_filter.1 hmm).1)
      rcases hs with _ | ⟨⟨q0, l0⟩, hs⟩
      · exact absurd rfl g7
      rcases hs with _ | ⟨⟨q1, l1⟩, hs⟩
      · simp only [hsQ]
        by_cases e0 : q0 = xq
        · subst e0
          have hl0 := g6 (q0, l0) (by simp)
          simp only at hl0
          have htq : List.take l0.length (dv (l0.map mkD)) = dv (l0.map mkD) := List.take_of_length_le (by simp [dv])
          have hQ2 : Grps (gQ (ms.take (i + 1))) [(q0, l0 ++ [(xp, q0, xs)])] := by simp only [htk]; exact Grps.old (f := fun m => m.2.1) (A := []) (B := []) gQ3 rfl
          have hle : ∀ g ∈ ([(q0, l0 ++ [(xp, q0, xs)])] : List Gr), g.2.length ≤ i + 1 := by
            intro g hg
            simp only [List.mem_cons, List.not_mem_nil, or_false] at hg g6
            rcases hg with rfl
            · simp; omega
          rcases hrn with hrn | hrn
          · obtain rfl : k = xp := hyk.symm.trans hrn
            repeat' (first | ((first | refine AW.sreg rfl fun K hK => ?_ | refine AW.sregD hmix rfl fun K hK => ?_ | refine AW.reg rfl ?_ | refine AW.regD hmix rfl ?_); simp only [go_sem, Nat.reduceAdd, Nat.reduceMul, Int.reduceToNat, Nat.reduceLT, Nat.reduceLeDiff, Nat.le_refl, Nat.reduceEqDiff, ↓reduceIte, beq_self_eq_true, bne_self_eq_false, Int.reduceBEq, Int.reduceBNe, or_self, true_or, or_true, Option.map_some, Option.map_none, List.length_map, hget, hf1, hgv, hst, hks, htl, htq, List.set_cons_zero, List.set_cons_succ]) | (refine AW.seq_k fun K hK => ?_) | (refine AW.block ?_) | (refine AW.skip ?_; simp only [Then, InBlock]) | (refine AW.condT rfl (by first | rfl | (simp; omega) | (simp [*]; done) | fail) ?_) | (refine hK _ ?_; clear hK K) | (with_reducible refine And.intro (?_ : regOk _ _ = true) ?_; kernel_rfl) | (with_reducible refine And.intro ?_ ?_; first | omega | assumption | (focus (decide)) | (focus (simp; done)) | (focus (simp; omega)) | (focus (constructor <;> omega)) | fail))
            exact ⟨some (i + 1, gs, k, ps ++ [(k, q0, xs)], [(q0, l0 ++ [(k, q0, xs)])]), ⟨by simp, hi, by simp only [htk]; exact g3.same rfl, hQ2, ⟨(k, q0, xs), by simpa using hx, rfl⟩, (by simp; omega), hle, by simp⟩, by simp only [ixS]; omega, (Weak.objs hcx [(320, 320), (128, 128), (576, 2048), (192, 192), (601, 3264)] rfl rfl (Nat.le_of_ble_eq_true rfl) (by simp [go_sem, gL, kL, List.map_append, dv_push, toDL_dvF, htl, frzL_appV, frzL_md, hsS, hsQ, ixS, belL_app, renL_app, dv_one, belL_md, renL_md]) (by simp [go_sem, gL, kL, List.map_append, dv_push, toDL_dvF, htl, frzL_appV, frzL_md, hsS, hsQ, ixS, belL_app, renL_app, dv_one, belL_md, renL_md]) (by first | exact pk0 | exact pk1 ⟨_, rfl⟩ | exact pk2 ⟨_, rfl⟩ ⟨_, rfl⟩ | exact pk3 ⟨_, rfl⟩ ⟨_, rfl⟩ ⟨_, rfl⟩ | exact pk4 ⟨_, rfl⟩ ⟨_, rfl⟩ ⟨_, rfl⟩ ⟨_, rfl⟩) (by simp [gL, lk, toDL_dvF, htl, frzL_appV, frzL_md, hsS, hsQ, ixS, belL_app, renL_app, dv_one, belL_md, renL_md]))⟩
          · rw [hyk] at hrn
            have hf2 := lm_no g3.rise hrn
            repeat' (first | ((first | refine AW.sreg rfl fun K hK => ?_ | refine AW.sregD hmix rfl fun K hK => ?_ | refine AW.reg rfl ?_ | refine AW.regD hmix rfl ?_); simp only [go_sem, Nat.reduceAdd, Nat.reduceMul, Int.reduceToNat, Nat.reduceLT, Nat.reduceLeDiff, Nat.le_refl, Nat.reduceEqDiff, ↓reduceIte, beq_self_eq_true, bne_self_eq_false, Int.reduceBEq, Int.reduceBNe, or_self, true_or, or_true, Option.map_some, Option.map_none, List.length_map, hget, hf2, htq, List.set_cons_zero, List.set_cons_succ]) | (refine AW.seq_k fun K hK => ?_) | (refine AW.block ?_) | (refine AW.skip ?_; simp only [Then, InBlock]) | (refine AW.condT rfl (by first | rfl | (simp; omega) | (simp [*]; done) | fail) ?_) | (refine hK _ ?_; clear hK K) | (with_reducible refine And.intro (?_ : regOk _ _ = true) ?_; kernel_rfl) | (with_reducible refine And.intro ?_ ?_; first | omega | assumption | (focus (decide)) | (focus (simp; done)) | (focus (simp; omega)) | (focus (constructor <;> omega)) | fail))
            exact ⟨some (i + 1, gs ++ [(k, ps)], xp, [(xp, q0, xs)], [(q0, l0 ++ [(xp, q0, xs)])]), ⟨by simp, hi, by simp only [htk]; exact g3.next hrn, hQ2, ⟨(xp, q0, xs), by simpa using hx, rfl⟩, (by simp), hle, by simp⟩, by simp only [ixS]; omega, (Weak.objs hcx [(320, 320), (128, 128), (576, 2048), (192, 192), (601, 3264)] rfl rfl (Nat.le_of_ble_eq_true rfl) (by simp [go_sem, gL, kL, List.map_append, dv_push, toDL_dvF, htl, frzL_appV, frzL_md, hsS, hsQ, ixS, belL_app, renL_app, dv_one, belL_md, renL_md]) (by simp [go_sem, gL, kL, List.map_append, dv_push, toDL_dvF, htl, frzL_appV, frzL_md, hsS, hsQ, ixS, belL_app, renL_app, dv_one, belL_md, renL_md]) (by first | exact pk0 | exact pk1 ⟨_, rfl⟩ | exact pk2 ⟨_, rfl⟩ ⟨_, rfl⟩ | exact pk3 ⟨_, rfl⟩ ⟨_, rfl⟩ ⟨_, rfl⟩ | exact pk4 ⟨_, rfl⟩ ⟨_, rfl⟩ ⟨_, rfl⟩ ⟨_, rfl⟩) (by simp [gL, lk, toDL_dvF, htl, frzL_appV, frzL_md, hsS, hsQ, ixS, belL_app, renL_app, dv_one, belL_md, renL_md]))⟩
        have hno : xq ∉ ([(q0, l0)] : List Gr).map (·.1) := by simp only [List.map_cons, List.map_nil, List.mem_singleton]; exact fun h => e0 h.symm
        have hQ2 : Grps (gQ (ms.take (i + 1))) [(q0, l0), (xq, [(xp, xq, xs)])] := by simp only [htk]; exact Grps.new (f := fun m => m.2.1) gQ3 hno
        have b0 : (xq == q0) = false := beq_eq_false_iff_ne.2 (Ne.symm e0)
        have hle : ∀ g ∈ ([(q0, l0), (xq, [(xp, xq, xs)])] : List Gr), g.2.length ≤ i + 1 := by
          intro g hg
          simp only [List.mem_cons, List.not_mem_nil, or_false] at hg g6
          rcases hg with rfl | rfl
          · have := g6 (q0, l0) (by simp); simp only at this ⊢; omega
          · simp
        rcases hrn with hrn | hrn
        · obtain rfl : k = xp := hyk.symm.trans hrn
          repeat' (first | ((first | refine AW.sreg rfl fun K hK => ?_ | refine AW.sregD hmix rfl fun K hK => ?_ | refine AW.reg rfl ?_ | refine AW.regD hmix rfl ?_); simp only [go_sem, Nat.reduceAdd, Nat.reduceMul, Int.reduceToNat, Nat.reduceLT, Nat.reduceLeDiff, Nat.le_refl, Nat.reduceEqDiff, ↓reduceIte, beq_self_eq_true, bne_self_eq_false, Int.reduceBEq, Int.reduceBNe, or_self, true_or, or_true, Option.map_some, Option.map_none, List.length_map, hget, hf1, hgv, hst, hks, htl, b0, List.set_cons_zero, List.set_cons_succ]) | (refine AW.seq_k fun K hK => ?_) | (refine AW.block ?_) | (refine AW.skip ?_; simp only [Then, InBlock]) | (refine AW.condT rfl (by first | rfl | (simp; omega) | (simp [*]; done) | fail) ?_) | (refine hK _ ?_; clear hK K) | (with_reducible refine And.intro (?_ : regOk _ _ = true) ?_; kernel_rfl) | (with_reducible refine And.intro ?_ ?_; first | omega | assumption | (focus (decide)) | (focus (simp; done)) | (focus (simp; omega)) | (focus (constructor <;> omega)) | fail))
          exact ⟨some (i + 1, gs, k, ps ++ [(k, xq, xs)], [(q0, l0), (xq, [(k, xq, xs)])]), ⟨by simp, hi, by simp only [htk]; exact g3.same rfl, hQ2, ⟨(k, xq, xs), by simpa using hx, rfl⟩, (by simp; omega), hle, by simp⟩, by simp only [ixS]; omega, (Weak.objs hcx [(320, 320), (128, 128), (576, 2048), (192, 192), (601, 601), (602, 3264)] rfl rfl (Nat.le_of_ble_eq_true rfl) (by simp [go_sem, gL, kL, List.map_append, dv_push, toDL_dvF, htl, frzL_appV, frzL_md, hsS, hsQ, ixS, belL_app, renL_app, dv_one, belL_md, renL_md]) (by simp [go_sem, gL, kL, List.map_append, dv_push, toDL_dvF, htl, frzL_appV, frzL_md, hsS, hsQ, ixS, belL_app, renL_app, dv_one, belL_md, renL_md]) (by first | exact pk0 | exact pk1 ⟨_, rfl⟩ | exact pk2 ⟨_, rfl⟩ ⟨_, rfl⟩ | exact pk3 ⟨_, rfl⟩ ⟨_, rfl⟩ ⟨_, rfl⟩ | exact pk4 ⟨_, rfl⟩ ⟨_, rfl⟩ ⟨_, rfl⟩ ⟨_, rfl⟩) (by simp [gL, lk, toDL_dvF, htl, frzL_appV, frzL_md, hsS, hsQ, ixS, belL_app, renL_app, dv_one, belL_md, renL_md]))⟩
        · rw [hyk] at hrn
          have hf2 := lm_no g3.rise hrn
          repeat' (first | ((first | refine AW.sreg rfl fun K hK => ?_ | refine AW.sregD hmix rfl fun K hK => ?_ | refine AW.reg rfl ?_ | refine AW.regD hmix rfl ?_); simp only [go_sem, Nat.reduceAdd, Nat.reduceMul, Int.reduceToNat, Nat.reduceLT, Nat.reduceLeDiff, Nat.le_refl, Nat.reduceEqDiff, ↓reduceIte, beq_self_eq_true, bne_self_eq_false, Int.reduceBEq, Int.reduceBNe, or_self, true_or, or_true, Option.map_some, Option.map_none, List.length_map, hget, hf2, b0, List.set_cons_zero, List.set_cons_succ]) | (refine AW.seq_k fun K hK => ?_) | (refine AW.block ?_) | (refine AW.skip ?_; simp only [Then, InBlock]) | (refine AW.condT rfl (by first | rfl | (simp; omega) | (simp [*]; done) | fail) ?_) | (refine hK _ ?_; clear hK K) | (with_reducible refine And.intro (?_ : regOk _ _ = true) ?_; kernel_rfl) | (with_reducible refine And.intro ?_ ?_; first | omega | assumption | (focus (decide)) | (focus (simp; done)) | (focus (simp; omega)) | (focus (constructor <;> omega)) | fail))
          exact ⟨some (i + 1, gs ++ [(k, ps)], xp, [(xp, xq, xs)], [(q0, l0), (xq, [(xp, xq, xs)])]), ⟨by simp, hi, by simp only [htk]; exact g3.next hrn, hQ2, ⟨(xp, xq, xs), by simpa using hx, rfl⟩, (by simp), hle, by simp⟩, by simp only [ixS]; omega, (Weak.objs hcx [(320, 320), (128, 128), (576, 2048), (192, 192), (601, 601), (602, 3264)] rfl rfl (Nat.le_of_ble_eq_true rfl) (by simp [go_sem, gL, kL, List.map_append, dv_push, toDL_dvF, htl, frzL_appV, frzL_md, hsS, hsQ, ixS, belL_app, renL_app, dv_one, belL_md, renL_md]) (by simp [go_sem, gL, kL, List.map_append, dv_push, toDL_dvF, htl, frzL_appV, frzL_md, hsS, hsQ, ixS, belL_app, renL_app, dv_one, belL_md, renL_md]) (by first | exact pk0 | exact pk1 ⟨_, rfl⟩ | exact pk2 ⟨_, rfl⟩ ⟨_, rfl⟩ | exact pk3 ⟨_, rfl⟩ ⟨_, rfl⟩ ⟨_, rfl⟩ | exact pk4 ⟨_, rfl⟩ ⟨_, rfl⟩ ⟨_, rfl⟩ ⟨_, rfl⟩) (by simp [gL, lk, toDL_dvF, htl, frzL_appV, frzL_md, hsS, hsQ, ixS, belL_app, renL_app, dv_one, belL_md, renL_md]))⟩
      rcases hs with _ | ⟨⟨q2, l2⟩, hs⟩
      · simp only [hsQ]
        by_cases e0 : q0 = xq
        · subst e0
          have hl0 := g6 (q0, l0) (by simp)
          simp only at hl0
          have htq : List.take l0.length (dv (l0.map mkD)) = dv (l0.map mkD) := List.take_of_length_le (by simp [dv])
          have hQ2 : Grps (gQ (ms.take (i + 1))) [(q0, l0 ++ [(xp, q0, xs)]), (q1, l1)] := by simp only [htk]; exact Grps.old (f := fun m => m.2.1) (A := []) (B := [(q1, l1)]) gQ3 rfl
          have hle : ∀ g ∈ ([(q0, l0 ++ [(xp, q0, xs)]), (q1, l1)] : List Gr), g.2.length ≤ i + 1 := by
            intro g hg
            simp only [List.mem_cons, List.not_mem_nil, or_false] at hg g6
            rcases hg with rfl | rfl
            · simp; omega
            · have := g6 (q1, l1) (by simp); simp only at this ⊢; omega
          rcases hrn with hrn | hrn
          · obtain rfl : k = xp := hyk.symm.trans hrn
            repeat' (first | ((first | refine AW.sreg rfl fun K hK => ?_ | refine AW.sregD hmix rfl fun K hK => ?_ | refine AW.reg rfl ?_ | refine AW.regD hmix rfl ?_); simp only [go_sem, Nat.reduceAdd, Nat.reduceMul, Int.reduceToNat, Nat.reduceLT, Nat.reduceLeDiff, Nat.le_refl, Nat.reduceEqDiff, ↓reduceIte, beq_self_eq_true, bne_self_eq_false, Int.reduceBEq, Int.reduceBNe, or_self, true_or, or_true, Option.map_some, Option.map_none, List.length_map, hget, hf1, hgv, hst, hks, htl, htq, List.set_cons_zero, List.set_cons_succ]) | (refine AW.seq_k fun K hK => ?_) | (refine AW.block ?_) | (refine AW.skip ?_; simp only [Then, InBlock]) | (refine AW.condT rfl (by first | rfl | (simp; omega) | (simp [*]; done) | fail) ?_) | (refine hK _ ?_; clear hK K) | (with_reducible refine And.intro (?_ : regOk _ _ = true) ?_; kernel_rfl) | (with_reducible refine And.intro ?_ ?_; first | omega | assumption | (focus (decide)) | (focus (simp; done)) | (focus (simp; omega)) | (focus (constructor <;> omega)) | fail))
            exact ⟨some (i + 1, gs, k, ps ++ [(k, q0, xs)], [(q0, l0 ++ [(k, q0, xs)]), (q1, l1)]), ⟨by simp, hi, by simp only [htk]; exact g3.same rfl, hQ2, ⟨(k, q0, xs), by simpa using hx, rfl⟩, (by simp; omega), hle, by simp⟩, by simp only [ixS]; omega, (Weak.objs hcx [(320, 320), (128, 128), (576, 2048), (192, 192), (601, 3264), (602, 602)] rfl rfl (Nat.le_of_ble_eq_true rfl) (by simp [go_sem, gL, kL, List.map_append, dv_push, toDL_dvF, htl, frzL_appV, frzL_md, hsS, hsQ, ixS, belL_app, renL_app, dv_one, belL_md, renL_md]) (by simp [go_sem, gL, kL, List.map_append, dv_push, toDL_dvF, htl, frzL_appV, frzL_md, hsS, hsQ, ixS, belL_app, renL_app, dv_one, belL_md, renL_md]) (by first | exact pk0 | exact pk1 ⟨_, rfl⟩ | exact pk2 ⟨_, rfl⟩ ⟨_, rfl⟩ | exact pk3 ⟨_, rfl⟩ ⟨_, rfl⟩ ⟨_, rfl⟩ | exact pk4 ⟨_, rfl⟩ ⟨_, rfl⟩ ⟨_, rfl⟩ ⟨_, rfl⟩) (by simp [gL, lk, toDL_dvF, htl, frzL_appV, frzL_md, hsS, hsQ, ixS, belL_app, renL_app, dv_one, belL_md, renL_md]))⟩
          · rw [hyk] at hrn
            have hf2 := lm_no g3.rise hrn
            repeat' (first | ((first | refine AW.sreg rfl fun K hK => ?_ | refine AW.sregD hmix rfl fun K hK => ?_ | refine AW.reg rfl ?_ | refine AW.regD hmix rfl ?_); simp only [go_sem, Nat.reduceAdd, Nat.reduceMul, Int.reduceToNat, Nat.reduceLT, Nat.reduceLeDiff, Nat.le_refl, Nat.reduceEqDiff, ↓reduceIte, beq_self_eq_true, bne_self_eq_false, Int.reduceBEq, Int.reduceBNe, or_self, true_or, or_true, Option.map_some, Option.map_none, List.length_map, hget, hf2, htq, List.set_cons_zero, List.set_cons_succ]) | (refine AW.seq_k fun K hK => ?_) | (refine AW.block ?_) | (refine AW.skip ?_; simp only [Then, InBlock]) | (refine AW.condT rfl (by first | rfl | (simp; omega) | (simp [*]; done) | fail) ?_) | (refine hK _ ?_; clear hK K) | (with_reducible refine And.intro (?_ : regOk _ _ = true) ?_; kernel_rfl) | (with_reducible refine And.intro ?_ ?_; first | omega | assumption | (focus (decide)) | (focus (simp; done)) | (focus (simp; omega)) | (focus (constructor <;> omega)) | fail))
            exact ⟨some (i + 1, gs ++ [(k, ps)], xp, [(xp, q0, xs)], [(q0, l0 ++ [(xp, q0, xs)]), (q1, l1)]), ⟨by simp, hi, by simp only [htk]; exact g3.next hrn, hQ2, ⟨(xp, q0, xs), by simpa using hx, rfl⟩, (by simp), hle, by simp⟩, by simp only [ixS]; omega, (Weak.objs hcx [(320, 320), (128, 128), (576, 2048), (192, 192), (601, 3264), (602, 602)] rfl rfl (Nat.le_of_ble_eq_true rfl) (by simp [go_sem, gL, kL, List.map_append, dv_push, toDL_dvF, htl, frzL_appV, frzL_md, hsS, hsQ, ixS, belL_app, renL_app, dv_one, belL_md, renL_md]) (by simp [go_sem, gL, kL, List.map_append, dv_push, toDL_dvF, htl, frzL_appV, frzL_md, hsS, hsQ, ixS, belL_app, renL_app, dv_one, belL_md, renL_md]) (by first | exact pk0 | exact pk1 ⟨_, rfl⟩ | exact pk2 ⟨_, rfl⟩ ⟨_, rfl⟩ | exact pk3 ⟨_, rfl⟩ ⟨_, rfl⟩ ⟨_, rfl⟩ | exact pk4 ⟨_, rfl⟩ ⟨_, rfl⟩ ⟨_, rfl⟩ ⟨_, rfl⟩) (by simp [gL, lk, toDL_dvF, htl, frzL_appV, frzL_md, hsS, hsQ, ixS, belL_app, renL_app, dv_one, belL_md, renL_md]))⟩
        by_cases e1 : q1 = xq
        · subst e1
          have b0 : (q1 == q0) = false := beq_eq_false_iff_ne.2 (Ne.symm e0)
          have hl1 := g6 (q1, l1) (by simp)
          simp only at hl1
          have htq : List.take l1.length (dv (l1.map mkD)) = dv (l1.map mkD) := List.take_of_length_le (by simp [dv])
          have hQ2 : Grps (gQ (ms.take (i + 1))) [(q0, l0), (q1, l1 ++ [(xp, q1, xs)])] := by simp only [htk]; exact Grps.old (f := fun m => m.2.1) (A := [(q0, l0)]) (B := []) gQ3 rfl
          have hle : ∀ g ∈ ([(q0, l0), (q1, l1 ++ [(xp, q1, xs)])] : List Gr), g.2.length ≤ i + 1 := by
            intro g hg
            simp only [List.mem_cons, List.not_mem_nil, or_false] at hg g6
            rcases hg with rfl | rfl
            · have := g6 (q0, l0) (by simp); simp only at this ⊢; omega
            · simp; omega
          rcases hrn with hrn | hrn
          · obtain rfl : k = xp := hyk.symm.trans hrn
            repeat' (first | ((first | refine AW.sreg rfl fun K hK => ?_ | refine AW.sregD hmix rfl fun K hK => ?_ | refine AW.reg rfl ?_ | refine AW.regD hmix rfl ?_); simp only [go_sem, Nat.reduceAdd, Nat.reduceMul, Int.reduceToNat, Nat.reduceLT, Nat.reduceLeDiff, Nat.le_refl, Nat.reduceEqDiff, ↓reduceIte, beq_self_eq_true, bne_self_eq_false, Int.reduceBEq, Int.reduceBNe, or_self, true_or, or_true, Option.map_some, Option.map_none, List.length_map, hget, hf1, hgv, hst, hks, htl, b0, htq, List.set_cons_zero, List.set_cons_succ]) | (refine AW.seq_k fun K hK => ?_) | (refine AW.block ?_) | (refine AW.skip ?_; simp only [Then, InBlock]) | (refine AW.condT rfl (by first | rfl | (simp; omega) | (simp [*]; done) | fail) ?_) | (refine hK _ ?_; clear hK K) | (with_reducible refine And.intro (?_ : regOk _ _ = true) ?_; kernel_rfl) | (with_reducible refine And.intro ?_ ?_; first | omega | assumption | (focus (decide)) | (focus (simp; done)) | (focus (simp; omega)) | (focus (constructor <;> omega)) | fail))
            exact ⟨some (i + 1, gs, k, ps ++ [(k, q1, xs)], [(q0, l0), (q1, l1 ++ [(k, q1, xs)])]), ⟨by simp, hi, by simp only [htk]; exact g3.same rfl, hQ2, ⟨(k, q1, xs), by simpa using hx, rfl⟩, (by simp; omega), hle, by simp⟩, by simp only [ixS]; omega, (Weak.objs hcx [(320, 320), (128, 128), (576, 2048), (192, 192), (601, 601), (602, 3264)] rfl rfl (Nat.le_of_ble_eq_true rfl) (by simp [go_sem, gL, kL, List.map_append, dv_push, toDL_dvF, htl, frzL_appV, frzL_md, hsS, hsQ, ixS, belL_app, renL_app, dv_one, belL_md, renL_md]) (by simp [go_sem, gL, kL, List.map_append, dv_push, toDL_dvF, htl, frzL_appV, frzL_md, hsS, hsQ, ixS, belL_app, renL_app, dv_one, belL_md, renL_md]) (by first | exact pk0 | exact pk1 ⟨_, rfl⟩ | exact pk2 ⟨_, rfl⟩ ⟨_, rfl⟩ | exact pk3 ⟨_, rfl⟩ ⟨_, rfl⟩ ⟨_, rfl⟩ | exact pk4 ⟨_, rfl⟩ ⟨_, rfl⟩ ⟨_, rfl⟩ ⟨_, rfl⟩) (by simp [gL, lk, toDL_dvF, htl, frzL_appV, frzL_md, hsS, hsQ, ixS, belL_app, renL_app, dv_one, belL_md, renL_md]))⟩
          · rw [hyk] at hrn
            have hf2 := lm_no g3.rise hrn
            repeat' (first | ((first | refine AW.sreg rfl fun K hK => ?_ | refine AW.sregD hmix rfl fun K hK => ?_ | refine AW.reg rfl ?_ | refine AW.regD hmix rfl ?_); simp only [go_sem, Nat.reduceAdd, Nat.reduceMul, Int.reduceToNat, Nat.reduceLT, Nat.reduceLeDiff, Nat.le_refl, Nat.reduceEqDiff, ↓reduceIte, beq_self_eq_true, bne_self_eq_false, Int.reduceBEq, Int.reduceBNe, or_self, true_or, or_true, Option.map_some, Option.map_none, List.length_map, hget, hf2, b0, htq, List.set_cons_zero, List.set_cons_succ]) | (refine AW.seq_k fun K hK => ?_) | (refine AW.block ?_) | (refine AW.skip ?_; simp only [Then, InBlock]) | (refine AW.condT rfl (by first | rfl | (simp; omega) | (simp [*]; done) | fail) ?_) | (refine hK _ ?_; clear hK K) | (with_reducible refine And.intro (?_ : regOk _ _ = true) ?_; kernel_rfl) | (with_reducible refine And.intro ?_ ?_; first | omega | assumption | (focus (decide)) | (focus (simp; done)) | (focus (simp; omega)) | (focus (constructor <;> omega)) | fail))
            exact ⟨some (i + 1, gs ++ [(k, ps)], xp, [(xp, q1, xs)], [(q0, l0), (q1, l1 ++ [(xp, q1, xs)])]), ⟨by simp, hi, by simp only [htk]; exact g3.next hrn, hQ2, ⟨(xp, q1, xs), by simpa using hx, rfl⟩, (by simp), hle, by simp⟩, by simp only [ixS]; omega, (Weak.objs hcx [(320, 320), (128, 128), (576, 2048), (192, 192), (601, 601), (602, 3264)] rfl rfl (Nat.le_of_ble_eq_true rfl) (by simp [go_sem, gL, kL, List.map_append, dv_push, toDL_dvF, htl, frzL_appV, frzL_md, hsS, hsQ, ixS, belL_app, renL_app, dv_one, belL_md, renL_md]) (by simp [go_sem, gL, kL, List.map_append, dv_push, toDL_dvF, htl, frzL_appV, frzL_md, hsS, hsQ, ixS, belL_app, renL_app, dv_one, belL_md, renL_md]) (by first | exact pk0 | exact pk1 ⟨_, rfl⟩ | exact pk2 ⟨_, rfl⟩ ⟨_, rfl⟩ | exact pk3 ⟨_, rfl⟩ ⟨_, rfl⟩ ⟨_, rfl⟩ | exact pk4 ⟨_, rfl⟩ ⟨_, rfl⟩ ⟨_, rfl⟩ ⟨_, rfl⟩) (by simp [gL, lk, toDL_dvF, htl, frzL_appV, frzL_md, hsS, hsQ, ixS, belL_app, renL_app, dv_one, belL_md, renL_md]))⟩
        have hno : xq ∉ ([(q0, l0), (q1, l1)] : List Gr).map (·.1) := by simp only [List.map_cons, List.map_nil, List.mem_cons, List.not_mem_nil, or_false, not_or]; exact ⟨fun h => e0 h.symm, fun h => e1 h.symm⟩
        have hQ2 : Grps (gQ (ms.take (i + 1))) [(q0, l0), (q1, l1), (xq, [(xp, xq, xs)])] := by simp only [htk]; exact Grps.new (f := fun m => m.2.1) gQ3 hno
        have b0 : (xq == q0) = false := beq_eq_false_iff_ne.2 (Ne.symm e0)
        have b1 : (xq == q1) = false := beq_eq_false_iff_ne.2 (Ne.symm e1)
        have hle : ∀ g ∈ ([(q0, l0), (q1, l1), (xq, [(xp, xq, xs)])] : List Gr), g.2.length ≤ i + 1 := by
          intro g hg
          simp only [List.mem_cons, List.not_mem_nil, or_false] at hg g6
          rcases hg with rfl | rfl | rfl
          · have := g6 (q0, l0) (by simp); simp only at this ⊢; omega
          · have := g6 (q1, l1) (by simp); simp only at this ⊢; omega
          · simp
        rcases hrn with hrn | hrn
        · obtain rfl : k = xp := hyk.symm.trans hrn
          repeat' (first | ((first | refine AW.sreg rfl fun K hK => ?_ | refine AW.sregD hmix rfl fun K hK => ?_ | refine AW.reg rfl ?_ | refine AW.regD hmix rfl ?_); simp only [go_sem, Nat.reduceAdd, Nat.reduceMul, Int.reduceToNat, Nat.reduceLT, Nat.reduceLeDiff, Nat.le_refl, Nat.reduceEqDiff, ↓reduceIte, beq_self_eq_true, bne_self_eq_false, Int.reduceBEq, Int.reduceBNe, or_self, true_or, or_true, Option.map_some, Option.map_none, List.length_map, hget, hf1, hgv, hst, hks, htl, b0, b1, List.set_cons_zero, List.set_cons_succ]) | (refine AW.seq_k fun K hK => ?_) | (refine AW.block ?_) | (refine AW.skip ?_; simp only [Then, InBlock]) | (refine AW.condT rfl (by first | rfl | (simp; omega) | (simp [*]; done) | fail) ?_) | (refine hK _ ?_; clear hK K) | (with_reducible refine And.intro (?_ : regOk _ _ = true) ?_; kernel_rfl) | (with_reducible refine And.intro ?_ ?_; first | omega | assumption | (focus (decide)) | (focus (simp; done)) | (focus (simp; omega)) | (focus (constructor <;> omega)) | fail))
          exact ⟨some (i + 1, gs, k, ps ++ [(k, xq, xs)], [(q0, l0), (q1, l1), (xq, [(k, xq, xs)])]), ⟨by simp, hi, by simp only [htk]; exact g3.same rfl, hQ2, ⟨(k, xq, xs), by simpa using hx, rfl⟩, (by simp; omega), hle, by simp⟩, by simp only [ixS]; omega, (Weak.objs hcx [(320, 320), (128, 128), (576, 2048), (192, 192), (601, 601), (602, 602), (603, 3264)] rfl rfl (Nat.le_of_ble_eq_true rfl) (by simp [go_sem, gL, kL, List.map_append, dv_push, toDL_dvF, htl, frzL_appV, frzL_md, hsS, hsQ, ixS, belL_app, renL_app, dv_one, belL_md, renL_md]) (by simp [go_sem, gL, kL, List.map_append, dv_push, toDL_dvF, htl, frzL_appV, frzL_md, hsS, hsQ, ixS, belL_app, renL_app, dv_one, belL_md, renL_md]) (by first | exact pk0 | exact pk1 ⟨_, rfl⟩ | exact pk2 ⟨_, rfl⟩ ⟨_, rfl⟩ | exact pk3 ⟨_, rfl⟩ ⟨_, rfl⟩ ⟨_, rfl⟩ | exact pk4 ⟨_, rfl⟩ ⟨_, rfl⟩ ⟨_, rfl⟩ ⟨_, rfl⟩) (by simp [gL, lk, toDL_dvF, htl, frzL_appV, frzL_md, hsS, hsQ, ixS, belL_app, renL_app, dv_one, belL_md, renL_md]))⟩
        · rw [hyk] at hrn
          have hf2 := lm_no g3.rise hrn
          repeat' (first | ((first | refine AW.sreg rfl fun K hK => ?_ | refine AW.sregD hmix rfl fun K hK => ?_ | refine AW.reg rfl ?_ | refine AW.regD hmix rfl ?_); simp only [go_sem, Nat.reduceAdd, Nat.reduceMul, Int.reduceToNat, Nat.reduceLT, Nat.reduceLeDiff, Nat.le_refl, Nat.reduceEqDiff, ↓reduceIte, beq_self_eq_true, bne_self_eq_false, Int.reduceBEq, Int.reduceBNe, or_self, true_or, or_true, Option.map_some, Option.map_none, List.length_map, hget, hf2, b0, b1, List.set_cons_zero, List.set_cons_succ]) | (refine AW.seq_k fun K hK => ?_) | (refine AW.block ?_) | (refine AW.skip ?_; simp only [Then, InBlock]) | (refine AW.condT rfl (by first | rfl | (simp; omega) | (simp [*]; done) | fail) ?_) | (refine hK _ ?_; clear hK K) | (with_reducible refine And.intro (?_ : regOk _ _ = true) ?_; kernel_rfl) | (with_reducible refine And.intro ?_ ?_; first | omega | assumption | (focus (decide)) | (focus (simp; done)) | (focus (simp; omega)) | (focus (constructor <;> omega)) | fail))
          exact ⟨some (i + 1, gs ++ [(k, ps)], xp, [(xp, xq, xs)], [(q0, l0), (q1, l1), (xq, [(xp, xq, xs)])]), ⟨by simp, hi, by simp only [htk]; exact g3.next hrn, hQ2, ⟨(xp, xq, xs), by simpa using hx, rfl⟩, (by simp), hle, by simp⟩, by simp only [ixS]; omega, (Weak.objs hcx [(320, 320), (128, 128), (576, 2048), (192, 192), (601, 601), (602, 602), (603, 3264)] rfl rfl (Nat.le_of_ble_eq_true rfl) (by simp [go_sem, gL, kL, List.map_append, dv_push, toDL_dvF, htl, frzL_appV, frzL_md, hsS, hsQ, ixS, belL_app, renL_app, dv_one, belL_md, renL_md]) (by simp [go_sem, gL, kL, List.map_append, dv_push, toDL_dvF, htl, frzL_appV, frzL_md, hsS, hsQ, ixS, belL_app, renL_app, dv_one, belL_md, renL_md]) (by first | exact pk0 | exact pk1 ⟨_, rfl⟩ | exact pk2 ⟨_, rfl⟩ ⟨_, rfl⟩ | exact pk3 ⟨_, rfl⟩ ⟨_, rfl⟩ ⟨_, rfl⟩ | exact pk4 ⟨_, rfl⟩ ⟨_, rfl⟩ ⟨_, rfl⟩ ⟨_, rfl⟩) (by simp [gL, lk, toDL_dvF, htl, frzL_appV, frzL_md, hsS, hsQ, ixS, belL_app, renL_app, dv_one, belL_md, renL_md]))⟩
      rcases hs with _ | ⟨⟨q3, l3⟩, hs⟩
      · simp only [hsQ]
        by_cases e0 : q0 = xq
        · subst e0
          have hl0 := g6 (q0, l0) (by simp)
          simp only at hl0
          have htq : List.take l0.length (dv (l0.map mkD)) = dv (l0.map mkD) := List.take_of_length_le (by simp [dv])
          have hQ2 : Grps (gQ (ms.take (i + 1))) [(q0, l0 ++ [(xp, q0, xs)]), (q1, l1), (q2, l2)] := by simp only [htk]; exact Grps.old (f := fun m => m.2.1) (A := []) (B := [(q1, l1), (q2, l2)]) gQ3 rfl
          have hle : ∀ g ∈ ([(q0, l0 ++ [(xp, q0, xs)]), (q1, l1), (q2, l2)] : List Gr), g.2.length ≤ i + 1 := by
            intro g hg
            simp only [List.mem_cons, List.not_mem_nil, or_false] at hg g6
            rcases hg with rfl | rfl | rfl
            · simp; omega
            · have := g6 (q1, l1) (by simp); simp only at this ⊢; omega
            · have := g6 (q2, l2) (by simp); simp only at this ⊢; omega
          rcases hrn with hrn | hrn
          · obtain rfl : k = xp := hyk.symm.trans hrn
            repeat' (first | ((first | refine AW.sreg rfl fun K hK => ?_ | refine AW.sregD hmix rfl fun K hK => ?_ | refine AW.reg rfl ?_ | refine AW.regD hmix rfl ?_); simp only [go_sem, Nat.reduceAdd, Nat.reduceMul, Int.reduceToNat, Nat.reduceLT, Nat.reduceLeDiff, Nat.le_refl, Nat.reduceEqDiff, ↓reduceIte, beq_self_eq_true, bne_self_eq_false, Int.reduceBEq, Int.reduceBNe, or_self, true_or, or_true, Option.map_some, Option.map_none, List.length_map, hget, hf1, hgv, hst, hks, htl, htq, List.set_cons_zero, List.set_cons_succ]) | (refine AW.seq_k fun K hK => ?_) | (refine AW.block ?_) | (refine AW.skip ?_; simp only [Then, InBlock]) | (refine AW.condT rfl (by first | rfl | (simp; omega) | (simp [*]; done) | fail) ?_) | (refine hK _ ?_; clear hK K) | (with_reducible refine And.intro (?_ : regOk _ _ = true) ?_; kernel_rfl) | (with_reducible refine And.intro ?_ ?_; first | omega | assumption | (focus (decide)) | (focus (simp; done)) | (focus (simp; omega)) | (focus (constructor <;> omega)) | fail))
            exact ⟨some (i + 1, gs, k, ps ++ [(k, q0, xs)], [(q0, l0 ++ [(k, q0, xs)]), (q1, l1), (q2, l2)]), ⟨by simp, hi, by simp only [htk]; exact g3.same rfl, hQ2, ⟨(k, q0, xs), by simpa using hx, rfl⟩, (by simp; omega), hle, by simp⟩, by simp only [ixS]; omega, (Weak.objs hcx [(320, 320), (128, 128), (576, 2048), (192, 192), (601, 3264), (602, 602), (603, 603)] rfl rfl (Nat.le_of_ble_eq_true rfl) (by simp [go_sem, gL, kL, List.map_append, dv_push, toDL_dvF, htl, frzL_appV, frzL_md, hsS, hsQ, ixS, belL_app, renL_app, dv_one, belL_md, renL_md]) (by simp [go_sem, gL, kL, List.map_append, dv_push, toDL_dvF, htl, frzL_appV, frzL_md, hsS, hsQ, ixS, belL_app, renL_app, dv_one, belL_md, renL_md]) (by first | exact pk0 | exact pk1 ⟨_, rfl⟩ | exact pk2 ⟨_, rfl⟩ ⟨_, rfl⟩ | exact pk3 ⟨_, rfl⟩ ⟨_, rfl⟩ ⟨_, rfl⟩ | exact pk4 ⟨_, rfl⟩ ⟨_, rfl⟩ ⟨_, rfl⟩ ⟨_, rfl⟩) (by simp [gL, lk, toDL_dvF, htl, frzL_appV, frzL_md, hsS, hsQ, ixS, belL_app, renL_app, dv_one, belL_md, renL_md]))⟩
          · rw [hyk] at hrn
            have hf2 := lm_no g3.rise hrn
            repeat' (first | ((first | refine AW.sreg rfl fun K hK => ?_ | refine AW.sregD hmix rfl fun K hK => ?_ | refine AW.reg rfl ?_ | refine AW.regD hmix rfl ?_); simp only [go_sem, Nat.reduceAdd, Nat.reduceMul, Int.reduceToNat, Nat.reduceLT, Nat.reduceLeDiff, Nat.le_refl, Nat.reduceEqDiff, ↓reduceIte, beq_self_eq_true, bne_self_eq_false, Int.reduceBEq, Int.reduceBNe, or_self, true_or, or_true, Option.map_some, Option.map_none, List.length_map, hget, hf2, htq, List.set_cons_zero, List.set_cons_succ]) | (refine AW.seq_k fun K hK => ?_) | (refine AW.block ?_) | (refine AW.skip ?_; simp only [Then, InBlock]) | (refine AW.condT rfl (by first | rfl | (simp; omega) | (simp [*]; done) | fail) ?_) | (refine hK _ ?_; clear hK K) | (with_reducible refine And.intro (?_ : regOk _ _ = true) ?_; kernel_rfl) | (with_reducible refine And.intro ?_ ?_; first | omega | assumption | (focus (decide)) | (focus (simp; done)) | (focus (simp; omega)) | (focus (constructor <;> omega)) | fail))
            exact ⟨some (i + 1, gs ++ [(k, ps)], xp, [(xp, q0, xs)], [(q0, l0 ++ [(xp, q0, xs)]), (q1, l1), (q2, l2)]), ⟨by simp, hi, by simp only [htk]; exact g3.next hrn, hQ2, ⟨(xp, q0, xs), by simpa using hx, rfl⟩, (by simp), hle, by simp⟩, by simp only [ixS]; omega, (Weak.objs hcx [(320, 320), (128, 128), (576, 2048), (192, 192), (601, 3264), (602, 602), (603, 603)] rfl rfl (Nat.le_of_ble_eq_true rfl) (by simp [go_sem, gL, kL, List.map_append, dv_push, toDL_dvF, htl, frzL_appV, frzL_md, hsS, hsQ, ixS, belL_app, renL_app, dv_one, belL_md, renL_md]) (by simp [go_sem, gL, kL, List.map_append, dv_push, toDL_dvF, htl, frzL_appV, frzL_md, hsS, hsQ, ixS, belL_app, renL_app, dv_one, belL_md, renL_md]) (by first | exact pk0 | exact pk1 ⟨_, rfl⟩ | exact pk2 ⟨_, rfl⟩ ⟨_, rfl⟩ | exact pk3 ⟨_, rfl⟩ ⟨_, rfl⟩ ⟨_, rfl⟩ | exact pk4 ⟨_, rfl⟩ ⟨_, rfl⟩ ⟨_, rfl⟩ ⟨_, rfl⟩) (by simp [gL, lk, toDL_dvF, htl, frzL_appV, frzL_md, hsS, hsQ, ixS, belL_app, renL_app, dv_one, belL_md, renL_md]))⟩
        by_cases e1 : q1 = xq
        · subst e1
          have b0 : (q1 == q0) = false := beq_eq_false_iff_ne.2 (Ne.symm e0)
          have hl1 := g6 (q1, l1) (by simp)
          simp only at hl1
          have htq : List.take l1.length (dv (l1.map mkD)) = dv (l1.map mkD) := List.take_of_length_le (by simp [dv])
          have hQ2 : Grps (gQ (ms.take (i + 1))) [(q0, l0), (q1, l1 ++ [(xp, q1, xs)]), (q2, l2)] := by simp only [htk]; exact Grps.old (f := fun m => m.2.1) (A := [(q0, l0)]) (B := [(q2, l2)]) gQ3 rfl
          have hle : ∀ g ∈ ([(q0, l0), (q1, l1 ++ [(xp, q1, xs)]), (q2, l2)] : List Gr), g.2.length ≤ i + 1 := by
            intro g hg
            simp only [List.mem_cons, List.not_mem_nil, or_false] at hg g6
            rcases hg with rfl | rfl | rfl
            · have := g6 (q0, l0) (by simp); simp only at this ⊢; omega
            · simp; omega
            · have := g6 (q2, l2) (by simp); simp only at this ⊢; omega
          rcases hrn with hrn | hrn
          · obtain rfl : k = xp := hyk.symm.trans hrn
            repeat' (first | ((first | refine AW.sreg rfl fun K hK => ?_ | refine AW.sregD hmix rfl fun K hK => ?_ | refine AW.reg rfl ?_ | refine AW.regD hmix rfl ?_); simp only [go_sem, Nat.reduceAdd, Nat.reduceMul, Int.reduceToNat, Nat.reduceLT, Nat.reduceLeDiff, Nat.le_refl, Nat.reduceEqDiff, ↓reduceIte, beq_self_eq_true, bne_self_eq_false, Int.reduceBEq, Int.reduceBNe, or_self, true_or, or_true, Option.map_some, Option.map_none, List.length_map, hget, hf1, hgv, hst, hks, htl, b0, htq, List.set_cons_zero, List.set_cons_succ]) | (refine AW.seq_k fun K hK => ?_) | (refine AW.block ?_) | (refine AW.skip ?_; simp only [Then, InBlock]) | (refine AW.condT rfl (by first | rfl | (simp; omega) | (simp [*]; done) | fail) ?_) | (refine hK _ ?_; clear hK K) | (with_reducible refine And.intro (?_ : regOk _ _ = true) ?_; kernel_rfl) | (with_reducible refine And.intro ?_ ?_; first | omega | assumption | (focus (decide)) | (focus (simp; done)) | (focus (simp; omega)) | (focus (constructor <;> omega)) | fail))
            exact ⟨some (i + 1, gs, k, ps ++ [(k, q1, xs)], [(q0, l0), (q1, l1 ++ [(k, q1, xs)]), (q2, l2)]), ⟨by simp, hi, by simp only [htk]; exact g3.same rfl, hQ2, ⟨(k, q1, xs), by simpa using hx, rfl⟩, (by simp; omega), hle, by simp⟩, by simp only [ixS]; omega, (Weak.objs hcx [(320, 320), (128, 128), (576, 2048), (192, 192), (601, 601), (602, 3264), (603, 603)] rfl rfl (Nat.le_of_ble_eq_true rfl) (by simp [go_sem, gL, kL, List.map_append, dv_push, toDL_dvF, htl, frzL_appV, frzL_md, hsS, hsQ, ixS, belL_app, renL_app, dv_one, belL_md, renL_md]) (by simp [go_sem, gL, kL, List.map_append, dv_push, toDL_dvF, htl, frzL_appV, frzL_md, hsS, hsQ, ixS, belL_app, renL_app, dv_one, belL_md, renL_md]) (by first | exact pk0 | exact pk1 ⟨_, rfl⟩ | exact pk2 ⟨_, rfl⟩ ⟨_, rfl⟩ | exact pk3 ⟨_, rfl⟩ ⟨_, rfl⟩ ⟨_, rfl⟩ | exact pk4 ⟨_, rfl⟩ ⟨_, rfl⟩ ⟨_, rfl⟩ ⟨_, rfl⟩) (by simp [gL, lk, toDL_dvF, htl, frzL_appV, frzL_md, hsS, hsQ, ixS, belL_app, renL_app, dv_one, belL_md, renL_md]))⟩
          · rw [hyk] at hrn
            have hf2 := lm_no g3.rise hrn
            repeat' (first | ((first | refine AW.sreg rfl fun K hK => ?_ | refine AW.sregD hmix rfl fun K hK => ?_ | refine AW.reg rfl ?_ | refine AW.regD hmix rfl ?_); simp only [go_sem, Nat.reduceAdd, Nat.reduceMul, Int.reduceToNat, Nat.reduceLT, Nat.reduceLeDiff, Nat.le_refl, Nat.reduceEqDiff, ↓reduceIte, beq_self_eq_true, bne_self_eq_false, Int.reduceBEq, Int.reduceBNe, or_self, true_or, or_true, Option.map_some, Option.map_none, List.length_map, hget, hf2, b0, htq, List.set_cons_zero, List.set_cons_succ]) | (refine AW.seq_k fun K hK => ?_) | (refine AW.block ?_) | (refine AW.skip ?_; simp only [Then, InBlock]) | (refine AW.condT rfl (by first | rfl | (simp; omega) | (simp [*]; done) | fail) ?_) | (refine hK _ ?_; clear hK K) | (with_reducible refine And.intro (?_ : regOk _ _ = true) ?_; kernel_rfl) | (with_reducible refine And.intro ?_ ?_; first | omega | assumption | (focus (decide)) | (focus (simp; done)) | (focus (simp; omega)) | (focus (constructor <;> omega)) | fail))
            exact ⟨some (i + 1, gs ++ [(k, ps)], xp, [(xp, q1, xs)], [(q0, l0), (q1, l1 ++ [(xp, q1, xs)]), (q2, l2)]), ⟨by simp, hi, by simp only [htk]; exact g3.next hrn, hQ2, ⟨(xp, q1, xs), by simpa using hx, rfl⟩, (by simp), hle, by simp⟩, by simp only [ixS]; omega, (Weak.objs hcx [(320, 320), (128, 128), (576, 2048), (192, 192), (601, 601), (602, 3264), (603, 603)] rfl rfl (Nat.le_of_ble_eq_true rfl) (by simp [go_sem, gL, kL, List.map_append, dv_push, toDL_dvF, htl, frzL_appV, frzL_md, hsS, hsQ, ixS, belL_app, renL_app, dv_one, belL_md, renL_md]) (by simp [go_sem, gL, kL, List.map_append, dv_push, toDL_dvF, htl, frzL_appV, frzL_md, hsS, hsQ, ixS, belL_app, renL_app, dv_one, belL_md, renL_md]) (by first | exact pk0 | exact pk1 ⟨_, rfl⟩ | exact pk2 ⟨_, rfl⟩ ⟨_, rfl⟩ | exact pk3 ⟨_, rfl⟩ ⟨_, rfl⟩ ⟨_, rfl⟩ | exact pk4 ⟨_, rfl⟩ ⟨_, rfl⟩ ⟨_, rfl⟩ ⟨_, rfl⟩) (by simp [gL, lk, toDL_dvF, htl, frzL_appV, frzL_md, hsS, hsQ, ixS, belL_app, renL_app, dv_one, belL_md, renL_md]))⟩
        by_cases e2 : q2 = xq
        · subst e2
          have b0 : (q2 == q0) = false := beq_eq_false_iff_ne.2 (Ne.symm e0)
          have b1 : (q2 == q1) = false := beq_eq_false_iff_ne.2 (Ne.symm e1)
          have hl2 := g6 (q2, l2) (by simp)
          simp only at hl2
          have htq : List.take l2.length (dv (l2.map mkD)) = dv (l2.map mkD) := List.take_of_length_le (by simp [dv])
          have hQ2 : Grps (gQ (ms.take (i + 1))) [(q0, l0), (q1, l1), (q2, l2 ++ [(xp, q2, xs)])] := by simp only [htk]; exact Grps.old (f := fun m => m.2.1) (A := [(q0, l0), (q1, l1)]) (B := []) gQ3 rfl
          have hle : ∀ g ∈ ([(q0, l0), (q1, l1), (q2, l2 ++ [(xp, q2, xs)])] : List Gr), g.2.length ≤ i + 1 := by
            intro g hg
            simp only [List.mem_cons, List.not_mem_nil, or_false] at hg g6
            rcases hg with rfl | rfl | rfl
            · have := g6 (q0, l0) (by simp); simp only at this ⊢; omega
            · have := g6 (q1, l1) (by simp); simp only at this ⊢; omega
            · simp; omega
          rcases hrn with hrn | hrn
          · obtain rfl : k = xp := hyk.symm.trans hrn
            repeat' (first | ((first | refine AW.sreg rfl fun K hK => ?_ | refine AW.sregD hmix rfl fun K hK => ?_ | refine AW.reg rfl ?_ | refine AW.regD hmix rfl ?_); simp only [go_sem, Nat.reduceAdd, Nat.reduceMul, Int.reduceToNat, Nat.reduceLT, Nat.reduceLeDiff, Nat.le_refl, Nat.reduceEqDiff, ↓reduceIte, beq_self_eq_true, bne_self_eq_false, Int.reduceBEq, Int.reduceBNe, or_self, true_or, or_true, Option.map_some, Option.map_none, List.length_map, hget, hf1, hgv, hst, hks, htl, b0, b1, htq, List.set_cons_zero, List.set_cons_succ]) | (refine AW.seq_k fun K hK => ?_) | (refine AW.block ?_) | (refine AW.skip ?_; simp only [Then, InBlock]) | (refine AW.condT rfl (by first | rfl | (simp; omega) | (simp [*]; done) | fail) ?_) | (refine hK _ ?_; clear hK K) | (with_reducible refine And.intro (?_ : regOk _ _ = true) ?_; kernel_rfl) | (with_reducible refine And.intro ?_ ?_; first | omega | assumption | (focus (decide)) | (focus (simp; done)) | (focus (simp; omega)) | (focus (constructor <;> omega)) | fail))
            exact ⟨some (i + 1, gs, k, ps ++ [(k, q2, xs)], [(q0, l0), (q1, l1), (q2, l2 ++ [(k, q2, xs)])]), ⟨by simp, hi, by simp only [htk]; exact g3.same rfl, hQ2, ⟨(k, q2, xs), by simpa using hx, rfl⟩, (by simp; omega), hle, by simp⟩, by simp only [ixS]; omega, (Weak.objs hcx [(320, 320), (128, 128), (576, 2048), (192, 192), (601, 601), (602, 602), (603, 3264)] rfl rfl (Nat.le_of_ble_eq_true rfl) (by simp [go_sem, gL, kL, List.map_append, dv_push, toDL_dvF, htl, frzL_appV, frzL_md, hsS, hsQ, ixS, belL_app, renL_app, dv_one, belL_md, renL_md]) (by simp [go_sem, gL, kL, List.map_append, dv_push, toDL_dvF, htl, frzL_appV, frzL_md, hsS, hsQ, ixS, belL_app, renL_app, dv_one, belL_md, renL_md]) (by first | exact pk0 | exact pk1 ⟨_, rfl⟩ | exact pk2 ⟨_, rfl⟩ ⟨_, rfl⟩ | exact pk3 ⟨_, rfl⟩ ⟨_, rfl⟩ ⟨_, rfl⟩ | exact pk4 ⟨_, rfl⟩ ⟨_, rfl⟩ ⟨_, rfl⟩ ⟨_, rfl⟩) (by simp [gL, lk, toDL_dvF, htl, frzL_appV, frzL_md, hsS, hsQ, ixS, belL_app, renL_app, dv_one, belL_md, renL_md]))⟩
          · rw [hyk] at hrn
            have hf2 := lm_no g3.rise hrn
            repeat' (first | ((first | refine AW.sreg rfl fun K hK => ?_ | refine AW.sregD hmix rfl fun K hK => ?_ | refine AW.reg rfl ?_ | refine AW.regD hmix rfl ?_); simp only [go_sem, Nat.reduceAdd, Nat.reduceMul, Int.reduceToNat, Nat.reduceLT, Nat.reduceLeDiff, Nat.le_refl, Nat.reduceEqDiff, ↓reduceIte, beq_self_eq_true, bne_self_eq_false, Int.reduceBEq, Int.reduceBNe, or_self, true_or, or_true, Option.map_some, Option.map_none, List.length_map, hget, hf2, b0, b1, htq, List.set_cons_zero, List.set_cons_succ]) | (refine AW.seq_k fun K hK => ?_) | (refine AW.block ?_) | (refine AW.skip ?_; simp only [Then, InBlock]) | (refine AW.condT rfl (by first | rfl | (simp; omega) | (simp [*]; done) | fail) ?_) | (refine hK _ ?_; clear hK K) | (with_reducible refine And.intro (?_ : regOk _ _ = true) ?_; kernel_rfl) | (with_reducible refine And.intro ?_ ?_; first | omega | assumption | (focus (decide)) | (focus (simp; done)) | (focus (simp; omega)) | (focus (constructor <;> omega)) | fail))
            exact ⟨some (i + 1, gs ++ [(k, ps)], xp, [(xp, q2, xs)], [(q0, l0), (q1, l1), (q2, l2 ++ [(xp, q2, xs)])]), ⟨by simp, hi, by simp only [htk]; exact g3.next hrn, hQ2, ⟨(xp, q2, xs), by simpa using hx, rfl⟩, (by simp), hle, by simp⟩, by simp only [ixS]; omega, (Weak.objs hcx [(320, 320), (128, 128), (576, 2048), (192, 192), (601, 601), (602, 602), (603, 3264)] rfl rfl (Nat.le_of_ble_eq_true rfl) (by simp [go_sem, gL, kL, List.map_append, dv_push, toDL_dvF, htl, frzL_appV, frzL_md, hsS, hsQ, ixS, belL_app, renL_app, dv_one, belL_md, renL_md]) (by simp [go_sem, gL, kL, List.map_append, dv_push, toDL_dvF, htl, frzL_appV, frzL_md, hsS, hsQ, ixS, belL_app, renL_app, dv_one, belL_md, renL_md]) (by first | exact pk0 | exact pk1 ⟨_, rfl⟩ | exact pk2 ⟨_, rfl⟩ ⟨_, rfl⟩ | exact pk3 ⟨_, rfl⟩ ⟨_, rfl⟩ ⟨_, rfl⟩ | exact pk4 ⟨_, rfl⟩ ⟨_, rfl⟩ ⟨_, rfl⟩ ⟨_, rfl⟩) (by simp [gL, lk, toDL_dvF, htl, frzL_appV, frzL_md, hsS, hsQ, ixS, belL_app, renL_app, dv_one, belL_md, renL_md]))⟩
        have hno : xq ∉ ([(q0, l0), (q1, l1), (q2, l2)] : List Gr).map (·.1) := by simp only [List.map_cons, List.map_nil, List.mem_cons, List.not_mem_nil, or_false, not_or]; exact ⟨fun h => e0 h.symm, fun h => e1 h.symm, fun h => e2 h.symm⟩
        have hQ2 : Grps (gQ (ms.take (i + 1))) [(q0, l0), (q1, l1), (q2, l2), (xq, [(xp, xq, xs)])] := by simp only [htk]; exact Grps.new (f := fun m => m.2.1) gQ3 hno
        have b0 : (xq == q0) = false := beq_eq_false_iff_ne.2 (Ne.symm e0)
        have b1 : (xq == q1) = false := beq_eq_false_iff_ne.2 (Ne.symm e1)
        have b2 : (xq == q2) = false := beq_eq_false_iff_ne.2 (Ne.symm e2)
        have hle : ∀ g ∈ ([(q0, l0), (q1, l1), (q2, l2), (xq, [(xp, xq, xs)])] : List Gr), g.2.length ≤ i + 1 := by
          intro g hg
          simp only [List.mem_cons, List.not_mem_nil, or_false] at hg g6
          rcases hg with rfl | rfl | rfl | rfl
          · have := g6 (q0, l0) (by simp); simp only at this ⊢; omega
          · have := g6 (q1, l1) (by simp); simp only at this ⊢; omega
          · have := g6 (q2, l2) (by simp); simp only at this ⊢; omega
          · simp
        rcases hrn with hrn | hrn
        · obtain rfl : k = xp := hyk.symm.trans hrn
          repeat' (first | ((first | refine AW.sreg rfl fun K hK => ?_ | refine AW.sregD hmix rfl fun K hK => ?_ | refine AW.reg rfl ?_ | refine AW.regD hmix rfl ?_); simp only [go_sem, Nat.reduceAdd, Nat.reduceMul, Int.reduceToNat, Nat.reduceLT, Nat.reduceLeDiff, Nat.le_refl, Nat.reduceEqDiff, ↓reduceIte, beq_self_eq_true, bne_self_eq_false, Int.reduceBEq, Int.reduceBNe, or_self, true_or, or_true, Option.map_some, Option.map_none, List.length_map, hget, hf1, hgv, hst, hks, htl, b0, b1, b2, List.set_cons_zero, List.set_cons_succ]) | (refine AW.seq_k fun K hK => ?_) | (refine AW.block ?_) | (refine AW.skip ?_; simp only [Then, InBlock]) | (refine AW.condT rfl (by first | rfl | (simp; omega) | (simp [*]; done) | fail) ?_) | (refine hK _ ?_; clear hK K) | (with_reducible refine And.intro (?_ : regOk _ _ = true) ?_; kernel_rfl) | (with_reducible refine And.intro ?_ ?_; first | omega | assumption | (focus (decide)) | (focus (simp; done)) | (focus (simp; omega)) | (focus (constructor <;> omega)) | fail))
          exact ⟨some (i + 1, gs, k, ps ++ [(k, xq, xs)], [(q0, l0), (q1, l1), (q2, l2), (xq, [(k, xq, xs)])]), ⟨by simp, hi, by simp only [htk]; exact g3.same rfl, hQ2, ⟨(k, xq, xs), by simpa using hx, rfl⟩, (by simp; omega), hle, by simp⟩, by simp only [ixS]; omega, (Weak.objs hcx [(320, 320), (128, 128), (576, 2048), (192, 192), (601, 601), (602, 602), (603, 603), (604, 3264)] rfl rfl (Nat.le_of_ble_eq_true rfl) (by simp [go_sem, gL, kL, List.map_append, dv_push, toDL_dvF, htl, frzL_appV, frzL_md, hsS, hsQ, ixS, belL_app, renL_app, dv_one, belL_md, renL_md]) (by simp [go_sem, gL, kL, List.map_append, dv_push, toDL_dvF, htl, frzL_appV, frzL_md, hsS, hsQ, ixS, belL_app, renL_app, dv_one, belL_md, renL_md]) (by first | exact pk0 | exact pk1 ⟨_, rfl⟩ | exact pk2 ⟨_, rfl⟩ ⟨_, rfl⟩ | exact pk3 ⟨_, rfl⟩ ⟨_, rfl⟩ ⟨_, rfl⟩ | exact pk4 ⟨_, rfl⟩ ⟨_, rfl⟩ ⟨_, rfl⟩ ⟨_, rfl⟩) (by simp [gL, lk, toDL_dvF, htl, frzL_appV, frzL_md, hsS, hsQ, ixS, belL_app, renL_app, dv_one, belL_md, renL_md]))⟩
        · rw [hyk] at hrn
          have hf2 := lm_no g3.rise hrn
          repeat' (first | ((first | refine AW.sreg rfl fun K hK => ?_ | refine AW.sregD hmix rfl fun K hK => ?_ | refine AW.reg rfl ?_ | refine AW.regD hmix rfl ?_); simp only [go_sem, Nat.reduceAdd, Nat.reduceMul, Int.reduceToNat, Nat.reduceLT, Nat.reduceLeDiff, Nat.le_refl, Nat.reduceEqDiff, ↓reduceIte, beq_self_eq_true, bne_self_eq_false, Int.reduceBEq, Int.reduceBNe, or_self, true_or, or_true, Option.map_some, Option.map_none, List.length_map, hget, hf2, b0, b1, b2, List.set_cons_zero, List.set_cons_succ]) | (refine AW.seq_k fun K hK => ?_) | (refine AW.block ?_) | (refine AW.skip ?_; simp only [Then, InBlock]) | (refine AW.condT rfl (by first | rfl | (simp; omega) | (simp [*]; done) | fail) ?_) | (refine hK _ ?_; clear hK K) | (with_reducible refine And.intro (?_ : regOk _ _ = true) ?_; kernel_rfl) | (with_reducible refine And.intro ?_ ?_; first | omega | assumption | (focus (decide)) | (focus (simp; done)) | (focus (simp; omega)) | (focus (constructor <;> omega)) | fail))
          exact ⟨some (i + 1, gs ++ [(k, ps)], xp, [(xp, xq, xs)], [(q0, l0), (q1, l1), (q2, l2), (xq, [(xp, xq, xs)])]), ⟨by simp, hi, by simp only [htk]; exact g3.next hrn, hQ2, ⟨(xp, xq, xs), by simpa using hx, rfl⟩, (by simp), hle, by simp⟩, by simp only [ixS]; omega, (Weak.objs hcx [(320, 320), (128, 128), (576, 2048), (192, 192), (601, 601), (602, 602), (603, 603), (604, 3264)] rfl rfl (Nat.le_of_ble_eq_true rfl) (by simp [go_sem, gL, kL, List.map_append, dv_push, toDL_dvF, htl, frzL_appV, frzL_md, hsS, hsQ, ixS, belL_app, renL_app, dv_one, belL_md, renL_md]) (by simp [go_sem, gL, kL, List.map_append, dv_push, toDL_dvF, htl, frzL_appV, frzL_md, hsS, hsQ, ixS, belL_app, renL_app, dv_one, belL_md, renL_md]) (by first | exact pk0 | exact pk1 ⟨_, rfl⟩ | exact pk2 ⟨_, rfl⟩ ⟨_, rfl⟩ | exact pk3 ⟨_, rfl⟩ ⟨_, rfl⟩ ⟨_, rfl⟩ | exact pk4 ⟨_, rfl⟩ ⟨_, rfl⟩ ⟨_, rfl⟩ ⟨_, rfl⟩) (by simp [gL, lk, toDL_dvF, htl, frzL_appV, frzL_md, hsS, hsQ, ixS, belL_app, renL_app, dv_one, belL_md, renL_md]))⟩
      rcases hs with _ | ⟨⟨q4, l4⟩, hs⟩
      · simp only [hsQ]
        by_cases e0 : q0 = xq
        · subst e0
          have hl0 := g6 (q0, l0) (by simp)
          simp only at hl0
          have htq : List.take l0.length (dv (l0.map mkD)) = dv (l0.map mkD) := List.take_of_length_le (by simp [dv])
          have hQ2 : Grps (gQ (ms.take (i + 1))) [(q0, l0 ++ [(xp, q0, xs)]), (q1, l1), (q2, l2), (q3, l3)] := by simp only [htk]; exact Grps.old (f := fun m => m.2.1) (A := []) (B := [(q1, l1), (q2, l2), (q3, l3)]) gQ3 rfl
          have hle : ∀ g ∈ ([(q0, l0 ++ [(xp, q0, xs)]), (q1, l1), (q2, l2), (q3, l3)] : List Gr), g.2.length ≤ i + 1 := by
            intro g hg
            simp only [List.mem_cons, List.not_mem_nil, or_false] at hg g6
            rcases hg with rfl | rfl | rfl | rfl
            · simp; omega
            · have := g6 (q1, l1) (by simp); simp only at this ⊢; omega
            · have := g6 (q2, l2) (by simp); simp only at this ⊢; omega
            · have := g6 (q3, l3) (by simp); simp only at this ⊢; omega
          rcases hrn with hrn | hrn
          · obtain rfl : k = xp := hyk.symm.trans hrn
            repeat' (first | ((first | refine AW.sreg rfl fun K hK => ?_ | refine AW.sregD hmix rfl fun K hK => ?_ | refine AW.reg rfl ?_ | refine AW.regD hmix rfl ?_); simp only [go_sem, Nat.reduceAdd, Nat.reduceMul, Int.reduceToNat, Nat.reduceLT, Nat.reduceLeDiff, Nat.le_refl, Nat.reduceEqDiff, ↓reduceIte, beq_self_eq_true, bne_self_eq_false, Int.reduceBEq, Int.reduceBNe, or_self, true_or, or_true, Option.map_some, Option.map_none, List.length_map, hget, hf1, hgv, hst, hks, htl, htq, List.set_cons_zero, List.set_cons_succ]) | (refine AW.seq_k fun K hK => ?_) | (refine AW.block ?_) | (refine AW.skip ?_; simp only [Then, InBlock]) | (refine AW.condT rfl (by first | rfl | (simp; omega) | (simp [*]; done) | fail) ?_) | (refine hK _ ?_; clear hK K) | (with_reducible refine And.intro (?_ : regOk _ _ = true) ?_; kernel_rfl) | (with_reducible refine And.intro ?_ ?_; first | omega | assumption | (focus (decide)) | (focus (simp; done)) | (focus (simp; omega)) | (focus (constructor <;> omega)) | fail))
            exact ⟨some (i + 1, gs, k, ps ++ [(k, q0, xs)], [(q0, l0 ++ [(k, q0, xs)]), (q1, l1), (q2, l2), (q3, l3)]), ⟨by simp, hi, by simp only [htk]; exact g3.same rfl, hQ2, ⟨(k, q0, xs), by simpa using hx, rfl⟩, (by simp; omega), hle, by simp⟩, by simp only [ixS]; omega, (Weak.objs hcx [(320, 320), (128, 128), (576, 2048), (192, 192), (601, 3264), (602, 602), (603, 603), (604, 604)] rfl rfl (Nat.le_of_ble_eq_true rfl) (by simp [go_sem, gL, kL, List.map_append, dv_push, toDL_dvF, htl, frzL_appV, frzL_md, hsS, hsQ, ixS, belL_app, renL_app, dv_one, belL_md, renL_md]) (by simp [go_sem, gL, kL, List.map_append, dv_push, toDL_dvF, htl, frzL_appV, frzL_md, hsS, hsQ, ixS, belL_app, renL_app, dv_one, belL_md, renL_md]) (by first | exact pk0 | exact pk1 ⟨_, rfl⟩ | exact pk2 ⟨_, rfl⟩ ⟨_, rfl⟩ | exact pk3 ⟨_, rfl⟩ ⟨_, rfl⟩ ⟨_, rfl⟩ | exact pk4 ⟨_, rfl⟩ ⟨_, rfl⟩ ⟨_, rfl⟩ ⟨_, rfl⟩) (by simp [gL, lk, toDL_dvF, htl, frzL_appV, frzL_md, hsS, hsQ, ixS, belL_app, renL_app, dv_one, belL_md, renL_md]))⟩
          · rw [hyk] at hrn
            have hf2 := lm_no g3.rise hrn
            repeat' (first | ((first | refine AW.sreg rfl fun K hK => ?_ | refine AW.sregD hmix rfl fun K hK => ?_ | refine AW.reg rfl ?_ | refine AW.regD hmix rfl ?_); simp only [go_sem, Nat.reduceAdd, Nat.reduceMul, Int.reduceToNat, Nat.reduceLT, Nat.reduceLeDiff, Nat.le_refl, Nat.reduceEqDiff, ↓reduceIte, beq_self_eq_true, bne_self_eq_false, Int.reduceBEq, Int.reduceBNe, or_self, true_or, or_true, Option.map_some, Option.map_none, List.length_map, hget, hf2, htq, List.set_cons_zero, List.set_cons_succ]) | (refine AW.seq_k fun K hK => ?_) | (refine AW.block ?_) | (refine AW.skip ?_; simp only [Then, InBlock]) | (refine AW.condT rfl (by first | rfl | (simp; omega) | (simp [*]; done) | fail) ?_) | (refine hK _ ?_; clear hK K) | (with_reducible refine And.intro (?_ : regOk _ _ = true) ?_; kernel_rfl) | (with_reducible refine And.intro ?_ ?_; first | omega | assumption | (focus (decide)) | (focus (simp; done)) | (focus (simp; omega)) | (focus (constructor <;> omega)) | fail))
            exact ⟨some (i + 1, gs ++ [(k, ps)], xp, [(xp, q0, xs)], [(q0, l0 ++ [(xp, q0, xs)]), (q1, l1), (q2, l2), (q3, l3)]), ⟨by simp, hi, by simp only [htk]; exact g3.next hrn, hQ2, ⟨(xp, q0, xs), by simpa using hx, rfl⟩, (by simp), hle, by simp⟩, by simp only [ixS]; omega, (Weak.objs hcx [(320, 320), (128, 128), (576, 2048), (192, 192), (601, 3264), (602, 602), (603, 603), (604, 604)] rfl rfl (Nat.le_of_ble_eq_true rfl) (by simp [go_sem, gL, kL, List.map_append, dv_push, toDL_dvF, htl, frzL_appV, frzL_md, hsS, hsQ, ixS, belL_app, renL_app, dv_one, belL_md, renL_md]) (by simp [go_sem, gL, kL, List.map_append, dv_push, toDL_dvF, htl, frzL_appV, frzL_md, hsS, hsQ, ixS, belL_app, renL_app, dv_one, belL_md, renL_md]) (by first | exact pk0 | exact pk1 ⟨_, rfl⟩ | exact pk2 ⟨_, rfl⟩ ⟨_, rfl⟩ | exact pk3 ⟨_, rfl⟩ ⟨_, rfl⟩ ⟨_, rfl⟩ | exact pk4 ⟨_, rfl⟩ ⟨_, rfl⟩ ⟨_, rfl⟩ ⟨_, rfl⟩) (by simp [gL, lk, toDL_dvF, htl, frzL_appV, frzL_md, hsS, hsQ, ixS, belL_app, renL_app, dv_one, belL_md, renL_md]))⟩
        by_cases e1 : q1 = xq
        · subst e1
          have b0 : (q1 == q0) = false := beq_eq_false_iff_ne.2 (Ne.symm e0)
          have hl1 := g6 (q1, l1) (by simp)
          simp only at hl1
          have htq : List.take l1.length (dv (l1.map mkD)) = dv (l1.map mkD) := List.take_of_length_le (by simp [dv])
          have hQ2 : Grps (gQ (ms.take (i + 1))) [(q0, l0), (q1, l1 ++ [(xp, q1, xs)]), (q2, l2), (q3, l3)] := by simp only [htk]; exact Grps.old (f := fun m => m.2.1) (A := [(q0, l0)]) (B := [(q2, l2), (q3, l3)]) gQ3 rfl
          have hle : ∀ g ∈ ([(q0, l0), (q1, l1 ++ [(xp, q1, xs)]), (q2, l2), (q3, l3)] : List Gr), g.2.length ≤ i + 1 := by
            intro g hg
            simp only [List.mem_cons, List.not_mem_nil, or_false] at hg g6
            rcases hg with rfl | rfl | rfl | rfl
            · have := g6 (q0, l0) (by simp); simp only at this ⊢; omega
            · simp; omega
            · have := g6 (q2, l2) (by simp); simp only at this ⊢; omega
            · have := g6 (q3, l3) (by simp); simp only at this ⊢; omega
          rcases hrn with hrn | hrn
          · obtain rfl : k = xp := hyk.symm.trans hrn
            repeat' (first | ((first | refine AW.sreg rfl fun K hK => ?_ | refine AW.sregD hmix rfl fun K hK => ?_ | refine AW.reg rfl ?_ | refine AW.regD hmix rfl ?_); simp only [go_sem, Nat.reduceAdd, Nat.reduceMul, Int.reduceToNat, Nat.reduceLT, Nat.reduceLeDiff, Nat.le_refl, Nat.reduceEqDiff, ↓reduceIte, beq_self_eq_true, bne_self_eq_false, Int.reduceBEq, Int.reduceBNe, or_self, true_or, or_true, Option.map_some, Option.map_none, List.length_map, hget, hf1, hgv, hst, hks, htl, b0, htq, List.set_cons_zero, List.set_cons_succ]) | (refine AW.seq_k fun K hK => ?_) | (refine AW.block ?_) | (refine AW.skip ?_; simp only [Then, InBlock]) | (refine AW.condT rfl (by first | rfl | (simp; omega) | (simp [*]; done) | fail) ?_) | (refine hK _ ?_; clear hK K) | (with_reducible refine And.intro (?_ : regOk _ _ = true) ?_; kernel_rfl) | (with_reducible refine And.intro ?_ ?_; first | omega | assumption | (focus (decide)) | (focus (simp; done)) | (focus (simp; omega)) | (focus (constructor <;> omega)) | fail))
            exact ⟨some (i + 1, gs, k, ps ++ [(k, q1, xs)], [(q0, l0), (q1, l1 ++ [(k, q1, xs)]), (q2, l2), (q3, l3)]), ⟨by simp, hi, by simp only [htk]; exact g3.same rfl, hQ2, ⟨(k, q1, xs), by simpa using hx, rfl⟩, (by simp; omega), hle, by simp⟩, by simp only [ixS]; omega, (Weak.objs hcx [(320, 320), (128, 128), (576, 2048), (192, 192), (601, 601), (602, 3264), (603, 603), (604, 604)] rfl rfl (Nat.le_of_ble_eq_true rfl) (by simp [go_sem, gL, kL, List.map_append, dv_push, toDL_dvF, htl, frzL_appV, frzL_md, hsS, hsQ, ixS, belL_app, renL_app, dv_one, belL_md, renL_md]) (by simp [go_sem, gL, kL, List.map_append, dv_push, toDL_dvF, htl, frzL_appV, frzL_md, hsS, hsQ, ixS, belL_app, renL_app, dv_one, belL_md, renL_md]) (by first | exact pk0 | exact pk1 ⟨_, rfl⟩ | exact pk2 ⟨_, rfl⟩ ⟨_, rfl⟩ | exact pk3 ⟨_, rfl⟩ ⟨_, rfl⟩ ⟨_, rfl⟩ | exact pk4 ⟨_, rfl⟩ ⟨_, rfl⟩ ⟨_, rfl⟩ ⟨_, rfl⟩) (by simp [gL, lk, toDL_dvF, htl, frzL_appV, frzL_md, hsS, hsQ, ixS, belL_app, renL_app, dv_one, belL_md, renL_md]))⟩
          · rw [hyk] at hrn
            have hf2 := lm_no g3.rise hrn
            repeat' (first | ((first | refine AW.sreg rfl fun K hK => ?_ | refine AW.sregD hmix rfl fun K hK => ?_ | refine AW.reg rfl ?_ | refine AW.regD hmix rfl ?_); simp only [go_sem, Nat.reduceAdd, Nat.reduceMul, Int.reduceToNat, Nat.reduceLT, Nat.reduceLeDiff, Nat.le_refl, Nat.reduceEqDiff, ↓reduceIte, beq_self_eq_true, bne_self_eq_false, Int.reduceBEq, Int.reduceBNe, or_self, true_or, or_true, Option.map_some, Option.map_none, List.length_map, hget, hf2, b0, htq, List.set_cons_zero, List.set_cons_succ]) | (refine AW.seq_k fun K hK => ?_) | (refine AW.block ?_) | (refine AW.skip ?_; simp only [Then, InBlock]) | (refine AW.condT rfl (by first | rfl | (simp; omega) | (simp [*]; done) | fail) ?_) | (refine hK _ ?_; clear hK K) | (with_reducible refine And.intro (?_ : regOk _ _ = true) ?_; kernel_rfl) | (with_reducible refine And.intro ?_ ?_; first | omega | assumption | (focus (decide)) | (focus (simp; done)) | (focus (simp; omega)) | (focus (constructor <;> omega)) | fail))
            exact ⟨some (i + 1, gs ++ [(k, ps)], xp, [(xp, q1, xs)], [(q0, l0), (q1, l1 ++ [(xp, q1, xs)]), (q2, l2), (q3, l3)]), ⟨by simp, hi, by simp only [htk]; exact g3.next hrn, hQ2, ⟨(xp, q1, xs), by simpa using hx, rfl⟩, (by simp), hle, by simp⟩, by simp only [ixS]; omega, (Weak.objs hcx [(320, 320), (128, 128), (576, 2048), (192, 192), (601, 601), (602, 3264), (603, 603), (604, 604)] rfl rfl (Nat.le_of_ble_eq_true rfl) (by simp [go_sem, gL, kL, List.map_append, dv_push, toDL_dvF, htl, frzL_appV, frzL_md, hsS, hsQ, ixS, belL_app, renL_app, dv_one, belL_md, renL_md]) (by simp [go_sem, gL, kL, List.map_append, dv_push, toDL_dvF, htl, frzL_appV, frzL_md, hsS, hsQ, ixS, belL_app, renL_app, dv_one, belL_md, renL_md]) (by first | exact pk0 | exact pk1 ⟨_, rfl⟩ | exact pk2 ⟨_, rfl⟩ ⟨_, rfl⟩ | exact pk3 ⟨_, rfl⟩ ⟨_, rfl⟩ ⟨_, rfl⟩ | exact pk4 ⟨_, rfl⟩ ⟨_, rfl⟩ ⟨_, rfl⟩ ⟨_, rfl⟩) (by simp [gL, lk, toDL_dvF, htl, frzL_appV, frzL_md, hsS, hsQ, ixS, belL_app, renL_app, dv_one, belL_md, renL_md]))⟩
        by_cases e2 : q2 = xq
        · subst e2
          have b0 : (q2 == q0) = false := beq_eq_false_iff_ne.2 (Ne.symm e0)
          have b1 : (q2 == q1) = false := beq_eq_false_iff_ne.2 (Ne.symm e1)
          have hl2 := g6 (q2, l2) (by simp)
          simp only at hl2
          have htq : List.take l2.length (dv (l2.map mkD)) = dv (l2.map mkD) := List.take_of_length_le (by simp [dv])
          have hQ2 : Grps (gQ (ms.take (i + 1))) [(q0, l0), (q1, l1), (q2, l2 ++ [(xp, q2, xs)]), (q3, l3)] := by simp only [htk]; exact Grps.old (f := fun m => m.2.1) (A := [(q0, l0), (q1, l1)]) (B := [(q3, l3)]) gQ3 rfl
          have hle : ∀ g ∈ ([(q0, l0), (q1, l1), (q2, l2 ++ [(xp, q2, xs)]), (q3, l3)] : List Gr), g.2.length ≤ i + 1 := by
            intro g hg
            simp only [List.mem_cons, List.not_mem_nil, or_false] at hg g6
            rcases hg with rfl | rfl | rfl | rfl
            · have := g6 (q0, l0) (by simp); simp only at this ⊢; omega
            · have := g6 (q1, l1) (by simp); simp only at this ⊢; omega
            · simp; omega
            · have := g6 (q3, l3) (by simp); simp only at this ⊢; omega
          rcases hrn with hrn | hrn
          · obtain rfl : k = xp := hyk.symm.trans hrn
            repeat' (first | ((first | refine AW.sreg rfl fun K hK => ?_ | refine AW.sregD hmix rfl fun K hK => ?_ | refine AW.reg rfl ?_ | refine AW.regD hmix rfl ?_); simp only [go_sem, Nat.reduceAdd, Nat.reduceMul, Int.reduceToNat, Nat.reduceLT, Nat.reduceLeDiff, Nat.le_refl, Nat.reduceEqDiff, ↓reduceIte, beq_self_eq_true, bne_self_eq_false, Int.reduceBEq, Int.reduceBNe, or_self, true_or, or_true, Option.map_some, Option.map_none, List.length_map, hget, hf1, hgv, hst, hks, htl, b0, b1, htq, List.set_cons_zero, List.set_cons_succ]) | (refine AW.seq_k fun K hK => ?_) | (refine AW.block ?_) | (refine AW.skip ?_; simp only [Then, InBlock]) | (refine AW.condT rfl (by first | rfl | (simp; omega) | (simp [*]; done) | fail) ?_) | (refine hK _ ?_; clear hK K) | (with_reducible refine And.intro (?_ : regOk _ _ = true) ?_; kernel_rfl) | (with_reducible refine And.intro ?_ ?_; first | omega | assumption | (focus (decide)) | (focus (simp; done)) | (focus (simp; omega)) | (focus (constructor <;> omega)) | fail))
            exact ⟨some (i + 1, gs, k, ps ++ [(k, q2, xs)], [(q0, l0), (q1, l1), (q2, l2 ++ [(k, q2, xs)]), (q3, l3)]), ⟨by simp, hi, by simp only [htk]; exact g3.same rfl, hQ2, ⟨(k, q2, xs), by simpa using hx, rfl⟩, (by simp; omega), hle, by simp⟩, by simp only [ixS]; omega, (Weak.objs hcx [(320, 320), (128, 128), (576, 2048), (192, 192), (601, 601), (602, 602), (603, 3264), (604, 604)] rfl rfl (Nat.le_of_ble_eq_true rfl) (by simp [go_sem, gL, kL, List.map_append, dv_push, toDL_dvF, htl, frzL_appV, frzL_md, hsS, hsQ, ixS, belL_app, renL_app, dv_one, belL_md, renL_md]) (by simp [go_sem, gL, kL, List.map_append, dv_push, toDL_dvF, htl, frzL_appV, frzL_md, hsS, hsQ, ixS, belL_app, renL_app, dv_one, belL_md, renL_md]) (by first | exact pk0 | exact pk1 ⟨_, rfl⟩ | exact pk2 ⟨_, rfl⟩ ⟨_, rfl⟩ | exact pk3 ⟨_, rfl⟩ ⟨_, rfl⟩ ⟨_, rfl⟩ | exact pk4 ⟨_, rfl⟩ ⟨_, rfl⟩ ⟨_, rfl⟩ ⟨_, rfl⟩) (by simp [gL, lk, toDL_dvF, htl, frzL_appV, frzL_md, hsS, hsQ, ixS, belL_app, renL_app, dv_one, belL_md, renL_md]))⟩
          · rw [hyk] at hrn
            have hf2 := lm_no g3.rise hrn
            repeat' (first | ((first | refine AW.sreg rfl fun K hK => ?_ | refine AW.sregD hmix rfl fun K hK => ?_ | refine AW.reg rfl ?_ | refine AW.regD hmix rfl ?_); simp only [go_sem, Nat.reduceAdd, Nat.reduceMul, Int.reduceToNat, Nat.reduceLT, Nat.reduceLeDiff, Nat.le_refl, Nat.reduceEqDiff, ↓reduceIte, beq_self_eq_true, bne_self_eq_false, Int.reduceBEq, Int.reduceBNe, or_self, true_or, or_true, Option.map_some, Option.map_none, List.length_map, hget, hf2, b0, b1, htq, List.set_cons_zero, List.set_cons_succ]) | (refine AW.seq_k fun K hK => ?_) | (refine AW.block ?_) | (refine AW.skip ?_; simp only [Then, InBlock]) | (refine AW.condT rfl (by first | rfl | (simp; omega) | (simp [*]; done) | fail) ?_) | (refine hK _ ?_; clear hK K) | (with_reducible refine And.intro (?_ : regOk _ _ = true) ?_; kernel_rfl) | (with_reducible refine And.intro ?_ ?_; first | omega | assumption | (focus (decide)) | (focus (simp; done)) | (focus (simp; omega)) | (focus (constructor <;> omega)) | fail))
            exact ⟨some (i + 1, gs ++ [(k, ps)], xp, [(xp, q2, xs)], [(q0, l0), (q1, l1), (q2, l2 ++ [(xp, q2, xs)]), (q3, l3)]), ⟨by simp, hi, by simp only [htk]; exact g3.next hrn, hQ2, ⟨(xp, q2, xs), by simpa using hx, rfl⟩, (by simp), hle, by simp⟩, by simp only [ixS]; omega, (Weak.objs hcx [(320, 320), (128, 128), (576, 2048), (192, 192), (601, 601), (602, 602), (603, 3264), (604, 604)] rfl rfl (Nat.le_of_ble_eq_true rfl) (by simp [go_sem, gL, kL, List.map_append, dv_push, toDL_dvF, htl, frzL_appV, frzL_md, hsS, hsQ, ixS, belL_app, renL_app, dv_one, belL_md, renL_md]) (by simp [go_sem, gL, kL, List.map_append, dv_push, toDL_dvF, htl, frzL_appV, frzL_md, hsS, hsQ, ixS, belL_app, renL_app, dv_one, belL_md, renL_md]) (by first | exact pk0 | exact pk1 ⟨_, rfl⟩ | exact pk2 ⟨_, rfl⟩ ⟨_, rfl⟩ | exact pk3 ⟨_, rfl⟩ ⟨_, rfl⟩ ⟨_, rfl⟩ | exact pk4 ⟨_, rfl⟩ ⟨_, rfl⟩ ⟨_, rfl⟩ ⟨_, rfl⟩) (by simp [gL, lk, toDL_dvF, htl, frzL_appV, frzL_md, hsS, hsQ, ixS, belL_app, renL_app, dv_one, belL_md, renL_md]))⟩
        by_cases e3 : q3 = xq
        · subst e3
          have b0 : (q3 == q0) = false := beq_eq_false_iff_ne.2 (Ne.symm e0)
          have b1 : (q3 == q1) = false := beq_eq_false_iff_ne.2 (Ne.symm e1)
          have b2 : (q3 == q2) = false := beq_eq_false_iff_ne.2 (Ne.symm e2)
          have hl3 := g6 (q3, l3) (by simp)
          simp only at hl3
          have htq : List.take l3.length (dv (l3.map mkD)) = dv (l3.map mkD) := List.take_of_length_le (by simp [dv])
          have hQ2 : Grps (gQ (ms.take (i + 1))) [(q0, l0), (q1, l1), (q2, l2), (q3, l3 ++ [(xp, q3, xs)])] := by simp only [htk]; exact Grps.old (f := fun m => m.2.1) (A := [(q0, l0), (q1, l1), (q2, l2)]) (B := []) gQ3 rfl
          have hle : ∀ g ∈ ([(q0, l0), (q1, l1), (q2, l2), (q3, l3 ++ [(xp, q3, xs)])] : List Gr), g.2.length ≤ i + 1 := by
            intro g hg
            simp only [List.mem_cons, List.not_mem_nil, or_false] at hg g6
            rcases hg with rfl | rfl | rfl | rfl
            · have := g6 (q0, l0) (by simp); simp only at this ⊢; omega
            · have := g6 (q1, l1) (by simp); simp only at this ⊢; omega
            · have := g6 (q2, l2) (by simp); simp only at this ⊢; omega
            · simp; omega
          rcases hrn with hrn | hrn
          · obtain rfl : k = xp := hyk.symm.trans hrn
            repeat' (first | ((first | refine AW.sreg rfl fun K hK => ?_ | refine AW.sregD hmix rfl fun K hK => ?_ | refine AW.reg rfl ?_ | refine AW.regD hmix rfl ?_); simp only [go_sem, Nat.reduceAdd, Nat.reduceMul, Int.reduceToNat, Nat.reduceLT, Nat.reduceLeDiff, Nat.le_refl, Nat.reduceEqDiff, ↓reduceIte, beq_self_eq_true, bne_self_eq_false, Int.reduceBEq, Int.reduceBNe, or_self, true_or, or_true, Option.map_some, Option.map_none, List.length_map, hget, hf1, hgv, hst, hks, htl, b0, b1, b2, htq, List.set_cons_zero, List.set_cons_succ]) | (refine AW.seq_k fun K hK => ?_) | (refine AW.block ?_) | (refine AW.skip ?_; simp only [Then, InBlock]) | (refine AW.condT rfl (by first | rfl | (simp; omega) | (simp [*]; done) | fail) ?_) | (refine hK _ ?_; clear hK K) | (with_reducible refine And.intro (?_ : regOk _ _ = true) ?_; kernel_rfl) | (with_reducible refine And.intro ?_ ?_; first | omega | assumption | (focus (decide)) | (focus (simp; done)) | (focus (simp; omega)) | (focus (constructor <;> omega)) | fail))
            exact ⟨some (i + 1, gs, k, ps ++ [(k, q3, xs)], [(q0, l0), (q1, l1), (q2, l2), (q3, l3 ++ [(k, q3, xs)])]), ⟨by simp, hi, by simp only [htk]; exact g3.same rfl, hQ2, ⟨(k, q3, xs), by simpa using hx, rfl⟩, (by simp; omega), hle, by simp⟩, by simp only [ixS]; omega, (Weak.objs hcx [(320, 320), (128, 128), (576, 2048), (192, 192), (601, 601), (602, 602), (603, 603), (604, 3264)] rfl rfl (Nat.le_of_ble_eq_true rfl) (by simp [go_sem, gL, kL, List.map_append, dv_push, toDL_dvF, htl, frzL_appV, frzL_md, hsS, hsQ, ixS, belL_app, renL_app, dv_one, belL_md, renL_md]) (by simp [go_sem, gL, kL, List.map_append, dv_push, toDL_dvF, htl, frzL_appV, frzL_md, hsS, hsQ, ixS, belL_app, renL_app, dv_one, belL_md, renL_md]) (by first | exact pk0 | exact pk1 ⟨_, rfl⟩ | exact pk2 ⟨_, rfl⟩ ⟨_, rfl⟩ | exact pk3 ⟨_, rfl⟩ ⟨_, rfl⟩ ⟨_, rfl⟩ | exact pk4 ⟨_, rfl⟩ ⟨_, rfl⟩ ⟨_, rfl⟩ ⟨_, rfl⟩) (by simp [gL, lk, toDL_dvF, htl, frzL_appV, frzL_md, hsS, hsQ, ixS, belL_app, renL_app, dv_one, belL_md, renL_md]))⟩
          · rw [hyk] at hrn
            have hf2 := lm_no g3.rise hrn
            repeat' (first | ((first | refine AW.sreg rfl fun K hK => ?_ | refine AW.sregD hmix rfl fun K hK => ?_ | refine AW.reg rfl ?_ | refine AW.regD hmix rfl ?_); simp only [go_sem, Nat.reduceAdd, Nat.reduceMul, Int.reduceToNat, Nat.reduceLT, Nat.reduceLeDiff, Nat.le_refl, Nat.reduceEqDiff, ↓reduceIte, beq_self_eq_true, bne_self_eq_false, Int.reduceBEq, Int.reduceBNe, or_self, true_or, or_true, Option.map_some, Option.map_none, List.length_map, hget, hf2, b0, b1, b2, htq, List.set_cons_zero, List.set_cons_succ]) | (refine AW.seq_k fun K hK => ?_) | (refine AW.block ?_) | (refine AW.skip ?_; simp only [Then, InBlock]) | (refine AW.condT rfl (by first | rfl | (simp; omega) | (simp [*]; done) | fail) ?_) | (refine hK _ ?_; clear hK K) | (with_reducible refine And.intro (?_ : regOk _ _ = true) ?_; kernel_rfl) | (with_reducible refine And.intro ?_ ?_; first | omega | assumption | (focus (decide)) | (focus (simp; done)) | (focus (simp; omega)) | (focus (constructor <;> omega)) | fail))
            exact ⟨some (i + 1, gs ++ [(k, ps)], xp, [(xp, q3, xs)], [(q0, l0), (q1, l1), (q2, l2), (q3, l3 ++ [(xp, q3, xs)])]), ⟨by simp, hi, by simp only [htk]; exact g3.next hrn, hQ2, ⟨(xp, q3, xs), by simpa using hx, rfl⟩, (by simp), hle, by simp⟩, by simp only [ixS]; omega, (Weak.objs hcx [(320, 320), (128, 128), (576, 2048), (192, 192), (601, 601), (602, 602), (603, 603), (604, 3264)] rfl rfl (Nat.le_of_ble_eq_true rfl) (by simp [go_sem, gL, kL, List.map_append, dv_push, toDL_dvF, htl, frzL_appV, frzL_md, hsS, hsQ, ixS, belL_app, renL_app, dv_one, belL_md, renL_md]) (by simp [go_sem, gL, kL, List.map_append, dv_push, toDL_dvF, htl, frzL_appV, frzL_md, hsS, hsQ, ixS, belL_app, renL_app, dv_one, belL_md, renL_md]) (by first | exact pk0 | exact pk1 ⟨_, rfl⟩ | exact pk2 ⟨_, rfl⟩ ⟨_, rfl⟩ | exact pk3 ⟨_, rfl⟩ ⟨_, rfl⟩ ⟨_, rfl⟩ | exact pk4 ⟨_, rfl⟩ ⟨_, rfl⟩ ⟨_, rfl⟩ ⟨_, rfl⟩) (by simp [gL, lk, toDL_dvF, htl, frzL_appV, frzL_md, hsS, hsQ, ixS, belL_app, renL_app, dv_one, belL_md, renL_md]))⟩
        have hno : xq ∉ ([(q0, l0), (q1, l1), (q2, l2), (q3, l3)] : List Gr).map (·.1) := by simp only [List.map_cons, List.map_nil, List.mem_cons, List.not_mem_nil, or_false, not_or]; exact ⟨fun h => e0 h.symm, fun h => e1 h.symm, fun h => e2 h.symm, fun h => e3 h.symm⟩
        have hQ2 : Grps (gQ (ms.take (i + 1))) [(q0, l0), (q1, l1), (q2, l2), (q3, l3), (xq, [(xp, xq, xs)])] := by simp only [htk]; exact Grps.new (f := fun m => m.2.1) gQ3 hno
        have b0 : (xq == q0) = false := beq_eq_false_iff_ne.2 (Ne.symm e0)
        have b1 : (xq == q1) = false := beq_eq_false_iff_ne.2 (Ne.symm e1)
        have b2 : (xq == q2) = false := beq_eq_false_iff_ne.2 (Ne.symm e2)
        have b3 : (xq == q3) = false := beq_eq_false_iff_ne.2 (Ne.symm e3)
        have hle : ∀ g ∈ ([(q0, l0), (q1, l1), (q2, l2), (q3, l3), (xq, [(xp, xq, xs)])] : List Gr), g.2.length ≤ i + 1 := by
          intro g hg
          simp only [List.mem_cons, List.not_mem_nil, or_false] at hg g6
          rcases hg with rfl | rfl | rfl | rfl | rfl
          · have := g6 (q0, l0) (by simp); simp only at this ⊢; omega
          · have := g6 (q1, l1) (by simp); simp only at this ⊢; omega
          · have := g6 (q2, l2) (by simp); simp only at this ⊢; omega
          · have := g6 (q3, l3) (by simp); simp only at this ⊢; omega
          · simp
        rcases hrn with hrn | hrn
        · obtain rfl : k = xp := hyk.symm.trans hrn
          repeat' (first | ((first | refine AW.sreg rfl fun K hK => ?_ | refine AW.sregD hmix rfl fun K hK => ?_ | refine AW.reg rfl ?_ | refine AW.regD hmix rfl ?_); simp only [go_sem, Nat.reduceAdd, Nat.reduceMul, Int.reduceToNat, Nat.reduceLT, Nat.reduceLeDiff, Nat.le_refl, Nat.reduceEqDiff, ↓reduceIte, beq_self_eq_true, bne_self_eq_false, Int.reduceBEq, Int.reduceBNe, or_self, true_or, or_true, Option.map_some, Option.map_none, List.length_map, hget, hf1, hgv, hst, hks, htl, b0, b1, b2, b3, List.set_cons_zero, List.set_cons_succ]) | (refine AW.seq_k fun K hK => ?_) | (refine AW.block ?_) | (refine AW.skip ?_; simp only [Then, InBlock]) | (refine AW.condT rfl (by first | rfl | (simp; omega) | (simp [*]; done) | fail) ?_) | (refine hK _ ?_; clear hK K) | (with_reducible refine And.intro (?_ : regOk _ _ = true) ?_; kernel_rfl) | (with_reducible refine And.intro ?_ ?_; first | omega | assumption | (focus (decide)) | (focus (simp; done)) | (focus (simp; omega)) | (focus (constructor <;> omega)) | fail))
          exact ⟨some (i + 1, gs, k, ps ++ [(k, xq, xs)], [(q0, l0), (q1, l1), (q2, l2), (q3, l3), (xq, [(k, xq, xs)])]), ⟨by simp, hi, by simp only [htk]; exact g3.same rfl, hQ2, ⟨(k, xq, xs), by simpa using hx, rfl⟩, (by simp; omega), hle, by simp⟩, by simp only [ixS]; omega, (Weak.objs hcx [(320, 320), (128, 128), (576, 2048), (192, 192), (601, 601), (602, 602), (603, 603), (604, 604), (605, 3264)] rfl rfl (Nat.le_of_ble_eq_true rfl) (by simp [go_sem, gL, kL, List.map_append, dv_push, toDL_dvF, htl, frzL_appV, frzL_md, hsS, hsQ, ixS, belL_app, renL_app, dv_one, belL_md, renL_md]) (by simp [go_sem, gL, kL, List.map_append, dv_push, toDL_dvF, htl, frzL_appV, frzL_md, hsS, hsQ, ixS, belL_app, renL_app, dv_one, belL_md, renL_md]) (by first | exact pk0 | exact pk1 ⟨_, rfl⟩ | exact pk2 ⟨_, rfl⟩ ⟨_, rfl⟩ | exact pk3 ⟨_, rfl⟩ ⟨_, rfl⟩ ⟨_, rfl⟩ | exact pk4 ⟨_, rfl⟩ ⟨_, rfl⟩ ⟨_, rfl⟩ ⟨_, rfl⟩) (by simp [gL, lk, toDL_dvF, htl, frzL_appV, frzL_md, hsS, hsQ, ixS, belL_app, renL_app, dv_one, belL_md, renL_md]))⟩
        · rw [hyk] at hrn
          have hf2 := lm_no g3.rise hrn
          repeat' (first | ((first | refine AW.sreg rfl fun K hK => ?_ | refine AW.sregD hmix rfl fun K hK => ?_ | refine AW.reg rfl ?_ | refine AW.regD hmix rfl ?_); simp only [go_sem, Nat.reduceAdd, Nat.reduceMul, Int.reduceToNat, Nat.reduceLT, Nat.reduceLeDiff, Nat.le_refl, Nat.reduceEqDiff, ↓reduceIte, beq_self_eq_true, bne_self_eq_false, Int.reduceBEq, Int.reduceBNe, or_self, true_or, or_true, Option.map_some, Option.map_none, List.length_map, hget, hf2, b0, b1, b2, b3, List.set_cons_zero, List.set_cons_succ]) | (refine AW.seq_k fun K hK => ?_) | (refine AW.block ?_) | (refine AW.skip ?_; simp only [Then, InBlock]) | (refine AW.condT rfl (by first | rfl | (simp; omega) | (simp [*]; done) | fail) ?_) | (refine hK _ ?_; clear hK K) | (with_reducible refine And.intro (?_ : regOk _ _ = true) ?_; kernel_rfl) | (with_reducible refine And.intro ?_ ?_; first | omega | assumption | (focus (decide)) | (focus (simp; done)) | (focus (simp; omega)) | (focus (constructor <;> omega)) | fail))
          exact ⟨some (i + 1, gs ++ [(k, ps)], xp, [(xp, xq, xs)], [(q0, l0), (q1, l1), (q2, l2), (q3, l3), (xq, [(xp, xq, xs)])]), ⟨by simp, hi, by simp only [htk]; exact g3.next hrn, hQ2, ⟨(xp, xq, xs), by simpa using hx, rfl⟩, (by simp), hle, by simp⟩, by simp only [ixS]; omega, (Weak.objs hcx [(320, 320), (128, 128), (576, 2048), (192, 192), (601, 601), (602, 602), (603, 603), (604, 604), (605, 3264)] rfl rfl (Nat.le_of_ble_eq_true rfl) (by simp [go_sem, gL, kL, List.map_append, dv_push, toDL_dvF, htl, frzL_appV, frzL_md, hsS, hsQ, ixS, belL_app, renL_app, dv_one, belL_md, renL_md]) (by simp [go_sem, gL, kL, List.map_append, dv_push, toDL_dvF, htl, frzL_appV, frzL_md, hsS, hsQ, ixS, belL_app, renL_app, dv_one, belL_md, renL_md]) (by first | exact pk0 | exact pk1 ⟨_, rfl⟩ | exact pk2 ⟨_, rfl⟩ ⟨_, rfl⟩ | exact pk3 ⟨_, rfl⟩ ⟨_, rfl⟩ ⟨_, rfl⟩ | exact pk4 ⟨_, rfl⟩ ⟨_, rfl⟩ ⟨_, rfl⟩ ⟨_, rfl⟩) (by simp [gL, lk, toDL_dvF, htl, frzL_appV, frzL_md, hsS, hsQ, ixS, belL_app, renL_app, dv_one, belL_md, renL_md]))⟩
      rcases hs with _ | ⟨⟨q5, l5⟩, hs⟩
      · simp only [hsQ]
        by_cases e0 : q0 = xq
        · subst e0
          have hl0 := g6 (q0, l0) (by simp)
          simp only at hl0
          have htq : List.take l0.length (dv (l0.map mkD)) = dv (l0.map mkD) := List.take_of_length_le (by simp [dv])
          have hQ2 : Grps (gQ (ms.take (i + 1))) [(q0, l0 ++ [(xp, q0, xs)]), (q1, l1), (q2, l2), (q3, l3), (q4, l4)] := by simp only [htk]; exact Grps.old (f := fun m => m.2.1) (A := []) (B := [(q1, l1), (q2, l2), (q3, l3), (q4, l4)]) gQ3 rfl
          have hle : ∀ g ∈ ([(q0, l0 ++ [(xp, q0, xs)]), (q1, l1), (q2, l2), (q3, l3), (q4, l4)] : List Gr), g.2.length ≤ i + 1 := by
            intro g hg
            simp only [List.mem_cons, List.not_mem_nil, or_false] at hg g6
            rcases hg with rfl | rfl | rfl | rfl | rfl
            · simp; omega
            · have := g6 (q1, l1) (by simp); simp only at this ⊢; omega
            · have := g6 (q2, l2) (by simp); simp only at this ⊢; omega
            · have := g6 (q3, l3) (by simp); simp only at this ⊢; omega
            · have := g6 (q4, l4) (by simp); simp only at this ⊢; omega
          rcases hrn with hrn | hrn
          · obtain rfl : k = xp := hyk.symm.trans hrn
            repeat' (first | ((first | refine AW.sreg rfl fun K hK => ?_ | refine AW.sregD hmix rfl fun K hK => ?_ | refine AW.reg rfl ?_ | refine AW.regD hmix rfl ?_); simp only [go_sem, Nat.reduceAdd, Nat.reduceMul, Int.reduceToNat, Nat.reduceLT, Nat.reduceLeDiff, Nat.le_refl, Nat.reduceEqDiff, ↓reduceIte, beq_self_eq_true, bne_self_eq_false, Int.reduceBEq, Int.reduceBNe, or_self, true_or, or_true, Option.map_some, Option.map_none, List.length_map, hget, hf1, hgv, hst, hks, htl, htq, List.set_cons_zero, List.set_cons_succ]) | (refine AW.seq_k fun K hK => ?_) | (refine AW.block ?_) | (refine AW.skip ?_; simp only [Then, InBlock]) | (refine AW.condT rfl (by first | rfl | (simp; omega) | (simp [*]; done) | fail) ?_) | (refine hK _ ?_; clear hK K) | (with_reducible refine And.intro (?_ : regOk _ _ = true) ?_; kernel_rfl) | (with_reducible refine And.intro ?_ ?_; first | omega | assumption | (focus (decide)) | (focus (simp; done)) | (focus (simp; omega)) | (focus (constructor <;> omega)) | fail))
            exact ⟨some (i + 1, gs, k, ps ++ [(k, q0, xs)], [(q0, l0 ++ [(k, q0, xs)]), (q1, l1), (q2, l2), (q3, l3), (q4, l4)]), ⟨by simp, hi, by simp only [htk]; exact g3.same rfl, hQ2, ⟨(k, q0, xs), by simpa using hx, rfl⟩, (by simp; omega), hle, by simp⟩, by simp only [ixS]; omega, (Weak.objs hcx [(320, 320), (128, 128), (576, 2048), (192, 192), (601, 3264), (602, 602), (603, 603), (604, 604), (605, 605)] rfl rfl (Nat.le_of_ble_eq_true rfl) (by simp [go_sem, gL, kL, List.map_append, dv_push, toDL_dvF, htl, frzL_appV, frzL_md, hsS, hsQ, ixS, belL_app, renL_app, dv_one, belL_md, renL_md]) (by simp [go_sem, gL, kL, List.map_append, dv_push, toDL_dvF, htl, frzL_appV, frzL_md, hsS, hsQ, ixS, belL_app, renL_app, dv_one, belL_md, renL_md]) (by first | exact pk0 | exact pk1 ⟨_, rfl⟩ | exact pk2 ⟨_, rfl⟩ ⟨_, rfl⟩ | exact pk3 ⟨_, rfl⟩ ⟨_, rfl⟩ ⟨_, rfl⟩ | exact pk4 ⟨_, rfl⟩ ⟨_, rfl⟩ ⟨_, rfl⟩ ⟨_, rfl⟩) (by simp [gL, lk, toDL_dvF, htl, frzL_appV, frzL_md, hsS, hsQ, ixS, belL_app, renL_app, dv_one, belL_md, renL_md]))⟩
          · rw [hyk] at hrn
            have hf2 := lm_no g3.rise hrn
            repeat' (first | ((first | refine AW.sreg rfl fun K hK => ?_ | refine AW.sregD hmix rfl fun K hK => ?_ | refine AW.reg rfl ?_ | refine AW.regD hmix rfl ?_); simp only [go_sem, Nat.reduceAdd, Nat.reduceMul, Int.reduceToNat, Nat.reduceLT, Nat.reduceLeDiff, Nat.le_refl, Nat.reduceEqDiff, ↓reduceIte, beq_self_eq_true, bne_self_eq_false, Int.reduceBEq, Int.reduceBNe, or_self, true_or, or_true, Option.map_some, Option.map_none, List.length_map, hget, hf2, htq, List.set_cons_zero, List.set_cons_succ]) | (refine AW.seq_k fun K hK => ?_) | (refine AW.block ?_) | (refine AW.skip ?_; simp only [Then, InBlock]) | (refine AW.condT rfl (by first | rfl | (simp; omega) | (simp [*]; done) | fail) ?_) | (refine hK _ ?_; clear hK K) | (with_reducible refine And.intro (?_ : regOk _ _ = true) ?_; kernel_rfl) | (with_reducible refine And.intro ?_ ?_; first | omega | assumption | (focus (decide)) | (focus (simp; done)) | (focus (simp; omega)) | (focus (constructor <;> omega)) | fail))
            exact ⟨some (i + 1, gs ++ [(k, ps)], xp, [(xp, q0, xs)], [(q0, l0 ++ [(xp, q0, xs)]), (q1, l1), (q2, l2), (q3, l3), (q4, l4)]), ⟨by simp, hi, by simp only [htk]; exact g3.next hrn, hQ2, ⟨(xp, q0, xs), by simpa using hx, rfl⟩, (by simp), hle, by simp⟩, by simp only [ixS]; omega, (Weak.objs hcx [(320, 320), (128, 128), (576, 2048), (192, 192), (601, 3264), (602, 602), (603, 603), (604, 604), (605, 605)] rfl rfl (Nat.le_of_ble_eq_true rfl) (by simp [go_sem, gL, kL, List.map_append, dv_push, toDL_dvF, htl, frzL_appV, frzL_md, hsS, hsQ, ixS, belL_app, renL_app, dv_one, belL_md, renL_md]) (by simp [go_sem, gL, kL, List.map_append, dv_push, toDL_dvF, htl, frzL_appV, frzL_md, hsS, hsQ, ixS, belL_app, renL_app, dv_one, belL_md, renL_md]) (by first | exact pk0 | exact pk1 ⟨_, rfl⟩ | exact pk2 ⟨_, rfl⟩ ⟨_, rfl⟩ | exact pk3 ⟨_, rfl⟩ ⟨_, rfl⟩ ⟨_, rfl⟩ | exact pk4 ⟨_, rfl⟩ ⟨_, rfl⟩ ⟨_, rfl⟩ ⟨_, rfl⟩) (by simp [gL, lk, toDL_dvF, htl, frzL_appV, frzL_md, hsS, hsQ, ixS, belL_app, renL_app, dv_one, belL_md, renL_md]))⟩
        by_cases e1 : q1 = xq
        · subst e1
          have b0 : (q1 == q0) = false := beq_eq_false_iff_ne.2 (Ne.symm e0)
          have hl1 := g6 (q1, l1) (by simp)
          simp only at hl1
          have htq : List.take l1.length (dv (l1.map mkD)) = dv (l1.map mkD) := List.take_of_length_le (by simp [dv])
          have hQ2 : Grps (gQ (ms.take (i + 1))) [(q0, l0), (q1, l1 ++ [(xp, q1, xs)]), (q2, l2), (q3, l3), (q4, l4)] := by simp only [htk]; exact Grps.old (f := fun m => m.2.1) (A := [(q0, l0)]) (B := [(q2, l2), (q3, l3), (q4, l4)]) gQ3 rfl
          have hle : ∀ g ∈ ([(q0, l0), (q1, l1 ++ [(xp, q1, xs)]), (q2, l2), (q3, l3), (q4, l4)] : List Gr), g.2.length ≤ i + 1 := by
            intro g hg
            simp only [List.mem_cons, List.not_mem_nil, or_false] at hg g6
            rcases hg with rfl | rfl | rfl | rfl | rfl
            · have := g6 (q0, l0) (by simp); simp only at this ⊢; omega
            · simp; omega
            · have := g6 (q2, l2) (by simp); simp only at this ⊢; omega
            · have := g6 (q3, l3) (by simp); simp only at this ⊢; omega
            · have := g6 (q4, l4) (by simp); simp only at this ⊢; omega
          rcases hrn with hrn | hrn
          · obtain rfl : k = xp := hyk.symm.trans hrn
            repeat' (first | ((first | refine AW.sreg rfl fun K hK => ?_ | refine AW.sregD hmix rfl fun K hK => ?_ | refine AW.reg rfl ?_ | refine AW.regD hmix rfl ?_); simp only [go_sem, Nat.reduceAdd, Nat.reduceMul, Int.reduceToNat, Nat.reduceLT, Nat.reduceLeDiff, Nat.le_refl, Nat.reduceEqDiff, ↓reduceIte, beq_self_eq_true, bne_self_eq_false, Int.reduceBEq, Int.reduceBNe, or_self, true_or, or_true, Option.map_some, Option.map_none, List.length_map, hget, hf1, hgv, hst, hks, htl, b0, htq, List.set_cons_zero, List.set_cons_succ]) | (refine AW.seq_k fun K hK => ?_) | (refine AW.block ?_) | (refine AW.skip ?_; simp only [Then, InBlock]) | (refine AW.condT rfl (by first | rfl | (simp; omega) | (simp [*]; done) | fail) ?_) | (refine hK _ ?_; clear hK K) | (with_reducible refine And.intro (?_ : regOk _ _ = true) ?_; kernel_rfl) | (with_reducible refine And.intro ?_ ?_; first | omega | assumption | (focus (decide)) | (focus (simp; done)) | (focus (simp; omega)) | (focus (constructor <;> omega)) | fail))
            exact ⟨some (i + 1, gs, k, ps ++ [(k, q1, xs)], [(q0, l0), (q1, l1 ++ [(k, q1, xs)]), (q2, l2), (q3, l3), (q4, l4)]), ⟨by simp, hi, by simp only [htk]; exact g3.same rfl, hQ2, ⟨(k, q1, xs), by simpa using hx, rfl⟩, (by simp; omega), hle, by simp⟩, by simp only [ixS]; omega, (Weak.objs hcx [(320, 320), (128, 128), (576, 2048), (192, 192), (601, 601), (602, 3264), (603, 603), (604, 604), (605, 605)] rfl rfl (Nat.le_of_ble_eq_true rfl) (by simp [go_sem, gL, kL, List.map_append, dv_push, toDL_dvF, htl, frzL_appV, frzL_md, hsS, hsQ, ixS, belL_app, renL_app, dv_one, belL_md, renL_md]) (by simp [go_sem, gL, kL, List.map_append, dv_push, toDL_dvF, htl, frzL_appV, frzL_md, hsS, hsQ, ixS, belL_app, renL_app, dv_one, belL_md, renL_md]) (by first | exact pk0 | exact pk1 ⟨_, rfl⟩ | exact pk2 ⟨_, rfl⟩ ⟨_, rfl⟩ | exact pk3 ⟨_, rfl⟩ ⟨_, rfl⟩ ⟨_, rfl⟩ | exact pk4 ⟨_, rfl⟩ ⟨_, rfl⟩ ⟨_, rfl⟩ ⟨_, rfl⟩) (by simp [gL, lk, toDL_dvF, htl, frzL_appV, frzL_md, hsS, hsQ, ixS, belL_app, renL_app, dv_one, belL_md, renL_md]))⟩
          · rw [hyk] at hrn
            have hf2 := lm_no g3.rise hrn
            repeat' (first | ((first | refine AW.sreg rfl fun K hK => ?_ | refine AW.sregD hmix rfl fun K hK => ?_ | refine AW.reg rfl ?_ | refine AW.regD hmix rfl ?_); simp only [go_sem, Nat.reduceAdd, Nat.reduceMul, Int.reduceToNat, Nat.reduceLT, Nat.reduceLeDiff, Nat.le_refl, Nat.reduceEqDiff, ↓reduceIte, beq_self_eq_true, bne_self_eq_false, Int.reduceBEq, Int.reduceBNe, or_self, true_or, or_true, Option.map_some, Option.map_none, List.length_map, hget, hf2, b0, htq, List.set_cons_zero, List.set_cons_succ]) | (refine AW.seq_k fun K hK => ?_) | (refine AW.block ?_) | (refine AW.skip ?_; simp only [Then, InBlock]) | (refine AW.condT rfl (by first | rfl | (simp; omega) | (simp [*]; done) | fail) ?_) | (refine hK _ ?_; clear hK K) | (with_reducible refine And.intro (?_ : regOk _ _ = true) ?_; kernel_rfl) | (with_reducible refine And.intro ?_ ?_; first | omega | assumption | (focus (decide)) | (focus (simp; done)) | (focus (simp; omega)) | (focus (constructor <;> omega)) | fail))
            exact ⟨some (i + 1, gs ++ [(k, ps)], xp, [(xp, q1, xs)], [(q0, l0), (q1, l1 ++ [(xp, q1, xs)]), (q2, l2), (q3, l3), (q4, l4)]), ⟨by simp, hi, by simp only [htk]; exact g3.next hrn, hQ2, ⟨(xp, q1, xs), by simpa using hx, rfl⟩, (by simp), hle, by simp⟩, by simp only [ixS]; omega, (Weak.objs hcx [(320, 320), (128, 128), (576, 2048), (192, 192), (601, 601), (602, 3264), (603, 603), (604, 604), (605, 605)] rfl rfl (Nat.le_of_ble_eq_true rfl) (by simp [go_sem, gL, kL, List.map_append, dv_push, toDL_dvF, htl, frzL_appV, frzL_md, hsS, hsQ, ixS, belL_app, renL_app, dv_one, belL_md, renL_md]) (by simp [go_sem, gL, kL, List.map_append, dv_push, toDL_dvF, htl, frzL_appV, frzL_md, hsS, hsQ, ixS, belL_app, renL_app, dv_one, belL_md, renL_md]) (by first | exact pk0 | exact pk1 ⟨_, rfl⟩ | exact pk2 ⟨_, rfl⟩ ⟨_, rfl⟩ | exact pk3 ⟨_, rfl⟩ ⟨_, rfl⟩ ⟨_, rfl⟩ | exact pk4 ⟨_, rfl⟩ ⟨_, rfl⟩ ⟨_, rfl⟩ ⟨_, rfl⟩) (by simp [gL, lk, toDL_dvF, htl, frzL_appV, frzL_md, hsS, hsQ, ixS, belL_app, renL_app, dv_one, belL_md, renL_md]))⟩
        by_cases e2 : q2 = xq
        · subst e2
          have b0 : (q2 == q0) = false := beq_eq_false_iff_ne.2 (Ne.symm e0)
          have b1 : (q2 == q1) = false := beq_eq_false_iff_ne.2 (Ne.symm e1)
          have hl2 := g6 (q2, l2) (by simp)
          simp only at hl2
          have htq : List.take l2.length (dv (l2.map mkD)) = dv (l2.map mkD) := List.take_of_length_le (by simp [dv])
          have hQ2 : Grps (gQ (ms.take (i + 1))) [(q0, l0), (q1, l1), (q2, l2 ++ [(xp, q2, xs)]), (q3, l3), (q4, l4)] := by simp only [htk]; exact Grps.old (f := fun m => m.2.1) (A := [(q0, l0), (q1, l1)]) (B := [(q3, l3), (q4, l4)]) gQ3 rfl
          have hle : ∀ g ∈ ([(q0, l0), (q1, l1), (q2, l2 ++ [(xp, q2, xs)]), (q3, l3), (q4, l4)] : List Gr), g.2.length ≤ i + 1 := by
            intro g hg
            simp only [List.mem_cons, List.not_mem_nil, or_false] at hg g6
            rcases hg with rfl | rfl | rfl | rfl | rfl
            · have := g6 (q0, l0) (by simp); simp only at this ⊢; omega
            · have := g6 (q1, l1) (by simp); simp only at this ⊢; omega
            · simp; omega
            · have := g6 (q3, l3) (by simp); simp only at this ⊢; omega
            · have := g6 (q4, l4) (by simp); simp only at this ⊢; omega
          rcases hrn with hrn | hrn
          · obtain rfl : k = xp := hyk.symm.trans hrn
            repeat' (first | ((first | refine AW.sreg rfl fun K hK => ?_ | refine AW.sregD hmix rfl fun K hK => ?_ | refine AW.reg rfl ?_ | refine AW.regD hmix rfl ?_); simp only [go_sem, Nat.reduceAdd, Nat.reduceMul, Int.reduceToNat, Nat.reduceLT, Nat.reduceLeDiff, Nat.le_refl, Nat.reduceEqDiff, ↓reduceIte, beq_self_eq_true, bne_self_eq_false, Int.reduceBEq, Int.reduceBNe, or_self, true_or, or_true, Option.map_some, Option.map_none, List.length_map, hget, hf1, hgv, hst, hks, htl, b0, b1, htq, List.set_cons_zero, List.set_cons_succ]) | (refine AW.seq_k fun K hK => ?_) | (refine AW.block ?_) | (refine AW.skip ?_; simp only [Then, InBlock]) | (refine AW.condT rfl (by first | rfl | (simp; omega) | (simp [*]; done) | fail) ?_) | (refine hK _ ?_; clear hK K) | (with_reducible refine And.intro (?_ : regOk _ _ = true) ?_; kernel_rfl) | (with_reducible refine And.intro ?_ ?_; first | omega | assumption | (focus (decide)) | (focus (simp; done)) | (focus (simp; omega)) | (focus (constructor <;> omega)) | fail))
            exact ⟨some (i + 1, gs, k, ps ++ [(k, q2, xs)], [(q0, l0), (q1, l1), (q2, l2 ++ [(k, q2, xs)]), (q3, l3), (q4, l4)]), ⟨by simp, hi, by simp only [htk]; exact g3.same rfl, hQ2, ⟨(k, q2, xs), by simpa using hx, rfl⟩, (by simp; omega), hle, by simp⟩, by simp only [ixS]; omega, (Weak.objs hcx [(320, 320), (128, 128), (576, 2048), (192, 192), (601, 601), (602, 602), (603, 3264), (604, 604), (605, 605)] rfl rfl (Nat.le_of_ble_eq_true rfl) (by simp [go_sem, gL, kL, List.map_append, dv_push, toDL_dvF, htl, frzL_appV, frzL_md, hsS, hsQ, ixS, belL_app, renL_app, dv_one, belL_md, renL_md]) (by simp [go_sem, gL, kL, List.map_append, dv_push, toDL_dvF, htl, frzL_appV, frzL_md, hsS, hsQ, ixS, belL_app, renL_app, dv_one, belL_md, renL_md]) (by first | exact pk0 | exact pk1 ⟨_, rfl⟩ | exact pk2 ⟨_, rfl⟩ ⟨_, rfl⟩ | exact pk3 ⟨_, rfl⟩ ⟨_, rfl⟩ ⟨_, rfl⟩ | exact pk4 ⟨_, rfl⟩ ⟨_, rfl⟩ ⟨_, rfl⟩ ⟨_, rfl⟩) (by simp [gL, lk, toDL_dvF, htl, frzL_appV, frzL_md, hsS, hsQ, ixS, belL_app, renL_app, dv_one, belL_md, renL_md]))⟩
          · rw [hyk] at hrn
            have hf2 := lm_no g3.rise hrn
            repeat' (first | ((first | refine AW.sreg rfl fun K hK => ?_ | refine AW.sregD hmix rfl fun K hK => ?_ | refine AW.reg rfl ?_ | refine AW.regD hmix rfl ?_); simp only [go_sem, Nat.reduceAdd, Nat.reduceMul, Int.reduceToNat, Nat.reduceLT, Nat.reduceLeDiff, Nat.le_refl, Nat.reduceEqDiff, ↓reduceIte, beq_self_eq_true, bne_self_eq_false, Int.reduceBEq, Int.reduceBNe, or_self, true_or, or_true, Option.map_some, Option.map_none, List.length_map, hget, hf2, b0, b1, htq, List.set_cons_zero, List.set_cons_succ]) | (refine AW.seq_k fun K hK => ?_) | (refine AW.block ?_) | (refine AW.skip ?_; simp only [Then, InBlock]) | (refine AW.condT rfl (by first | rfl | (simp; omega) | (simp [*]; done) | fail) ?_) | (refine hK _ ?_; clear hK K) | (with_reducible refine And.intro (?_ : regOk _ _ = true) ?_; kernel_rfl) | (with_reducible refine And.intro ?_ ?_; first | omega | assumption | (focus (decide)) | (focus (simp; done)) | (focus (simp; omega)) | (focus (constructor <;> omega)) | fail))
            exact ⟨some (i + 1, gs ++ [(k, ps)], xp, [(xp, q2, xs)], [(q0, l0), (q1, l1), (q2, l2 ++ [(xp, q2, xs)]), (q3, l3), (q4, l4)]), ⟨by simp, hi, by simp only [htk]; exact g3.next hrn, hQ2, ⟨(xp, q2, xs), by simpa using hx, rfl⟩, (by simp), hle, by simp⟩, by simp only [ixS]; omega, (Weak.objs hcx [(320, 320), (128, 128), (576, 2048), (192, 192), (601, 601), (602, 602), (603, 3264), (604, 604), (605, 605)] rfl rfl (Nat.le_of_ble_eq_true rfl) (by simp [go_sem, gL, kL, List.map_append, dv_push, toDL_dvF, htl, frzL_appV, frzL_md, hsS, hsQ, ixS, belL_app, renL_app, dv_one, belL_md, renL_md]) (by simp [go_sem, gL, kL, List.map_append, dv_push, toDL_dvF, htl, frzL_appV, frzL_md, hsS, hsQ, ixS, belL_app, renL_app, dv_one, belL_md, renL_md]) (by first | exact pk0 | exact pk1 ⟨_, rfl⟩ | exact pk2 ⟨_, rfl⟩ ⟨_, rfl⟩ | exact pk3 ⟨_, rfl⟩ ⟨_, rfl⟩ ⟨_, rfl⟩ | exact pk4 ⟨_, rfl⟩ ⟨_, rfl⟩ ⟨_, rfl⟩ ⟨_, rfl⟩) (by simp [gL, lk, toDL_dvF, htl, frzL_appV, frzL_md, hsS, hsQ, ixS, belL_app, renL_app, dv_one, belL_md, renL_md]))⟩
        by_cases e3 : q3 = xq
        · subst e3
          have b0 : (q3 == q0) = false := beq_eq_false_iff_ne.2 (Ne.symm e0)
          have b1 : (q3 == q1) = false := beq_eq_false_iff_ne.2 (Ne.symm e1)
          have b2 : (q3 == q2) = false := beq_eq_false_iff_ne.2 (Ne.symm e2)
          have hl3 := g6 (q3, l3) (by simp)
          simp only at hl3
          have htq : List.take l3.length (dv (l3.map mkD)) = dv (l3.map mkD) := List.take_of_length_le (by simp [dv])
          have hQ2 : Grps (gQ (ms.take (i + 1))) [(q0, l0), (q1, l1), (q2, l2), (q3, l3 ++ [(xp, q3, xs)]), (q4, l4)] := by simp only [htk]; exact Grps.old (f := fun m => m.2.1) (A := [(q0, l0), (q1, l1), (q2, l2)]) (B := [(q4, l4)]) gQ3 rfl
          have hle : ∀ g ∈ ([(q0, l0), (q1, l1), (q2, l2), (q3, l3 ++ [(xp, q3, xs)]), (q4, l4)] : List Gr), g.2.length ≤ i + 1 := by
            intro g hg
            simp only [List.mem_cons, List.not_mem_nil, or_false] at hg g6
            rcases hg with rfl | rfl | rfl | rfl | rfl
            · have := g6 (q0, l0) (by simp); simp only at this ⊢; omega
            · have := g6 (q1, l1) (by simp); simp only at this ⊢; omega
            · have := g6 (q2, l2) (by simp); simp only at this ⊢; omega
            · simp; omega
            · have := g6 (q4, l4) (by simp); simp only at this ⊢; omega
          rcases hrn with hrn | hrn
          · obtain rfl : k = xp := hyk.symm.trans hrn
            repeat' (first | ((first | refine AW.sreg rfl fun K hK => ?_ | refine AW.sregD hmix rfl fun K hK => ?_ | refine AW.reg rfl ?_ | refine AW.regD hmix rfl ?_); simp only [go_sem, Nat.reduceAdd, Nat.reduceMul, Int.reduceToNat, Nat.reduceLT, Nat.reduceLeDiff, Nat.le_refl, Nat.reduceEqDiff, ↓reduceIte, beq_self_eq_true, bne_self_eq_false, Int.reduceBEq, Int.reduceBNe, or_self, true_or, or_true, Option.map_some, Option.map_none, List.length_map, hget, hf1, hgv, hst, hks, htl, b0, b1, b2, htq, List.set_cons_zero, List.set_cons_succ]) | (refine AW.seq_k fun K hK => ?_) | (refine AW.block ?_) | (refine AW.skip ?_; simp only [Then, InBlock]) | (refine AW.condT rfl (by first | rfl | (simp; omega) | (simp [*]; done) | fail) ?_) | (refine hK _ ?_; clear hK K) | (with_reducible refine And.intro (?_ : regOk _ _ = true) ?_; kernel_rfl) | (with_reducible refine And.intro ?_ ?_; first | omega | assumption | (focus (decide)) | (focus (simp; done)) | (focus (simp; omega)) | (focus (constructor <;> omega)) | fail))
            exact ⟨some (i + 1, gs, k, ps ++ [(k, q3, xs)], [(q0, l0), (q1, l1), (q2, l2), (q3, l3 ++ [(k, q3, xs)]), (q4, l4)]), ⟨by simp, hi, by simp only [htk]; exact g3.same rfl, hQ2, ⟨(k, q3, xs), by simpa using hx, rfl⟩, (by simp; omega), hle, by simp⟩, by simp only [ixS]; omega, (Weak.objs hcx [(320, 320), (128, 128), (576, 2048), (192, 192), (601, 601), (602, 602), (603, 603), (604, 3264), (605, 605)] rfl rfl (Nat.le_of_ble_eq_true rfl) (by simp [go_sem, gL, kL, List.map_append, dv_push, toDL_dvF, htl, frzL_appV, frzL_md, hsS, hsQ, ixS, belL_app, renL_app, dv_one, belL_md, renL_md]) (by simp [go_sem, gL, kL, List.map_append, dv_push, toDL_dvF, htl, frzL_appV, frzL_md, hsS, hsQ, ixS, belL_app, renL_app, dv_one, belL_md, renL_md]) (by first | exact pk0 | exact pk1 ⟨_, rfl⟩ | exact pk2 ⟨_, rfl⟩ ⟨_, rfl⟩ | exact pk3 ⟨_, rfl⟩ ⟨_, rfl⟩ ⟨_, rfl⟩ | exact pk4 ⟨_, rfl⟩ ⟨_, rfl⟩ ⟨_, rfl⟩ ⟨_, rfl⟩) (by simp [gL, lk, toDL_dvF, htl, frzL_appV, frzL_md, hsS, hsQ, ixS, belL_app, renL_app, dv_one, belL_md, renL_md]))⟩
          · rw [hyk] at hrn
            have hf2 := lm_no g3.rise hrn
            repeat' (first | ((first | refine AW.sreg rfl fun K hK => ?_ | refine AW.sregD hmix rfl fun K hK => ?_ | refine AW.reg rfl ?_ | refine AW.regD hmix rfl ?_); simp only [go_sem, Nat.reduceAdd, Nat.reduceMul, Int.reduceToNat, Nat.reduceLT, Nat.reduceLeDiff, Nat.le_refl, Nat.reduceEqDiff, ↓reduceIte, beq_self_eq_true, bne_self_eq_false, Int.reduceBEq, Int.reduceBNe, or_self, true_or, or_true, Option.map_some, Option.map_none, List.length_map, hget, hf2, b0, b1, b2, htq, List.set_cons_zero, List.set_cons_succ]) | (refine AW.seq_k fun K hK => ?_) | (refine AW.block ?_) | (refine AW.skip ?_; simp only [Then, InBlock]) | (refine AW.condT rfl (by first | rfl | (simp; omega) | (simp [*]; done) | fail) ?_) | (refine hK _ ?_; clear hK K) | (with_reducible refine And.intro (?_ : regOk _ _ = true) ?_; kernel_rfl) | (with_reducible refine And.intro ?_ ?_; first | omega | assumption | (focus (decide)) | (focus (simp; done)) | (focus (simp; omega)) | (focus (constructor <;> omega)) | fail))
            exact ⟨some (i + 1, gs ++ [(k, ps)], xp, [(xp, q3, xs)], [(q0, l0), (q1, l1), (q2, l2), (q3, l3 ++ [(xp, q3, xs)]), (q4, l4)]), ⟨by simp, hi, by simp only [htk]; exact g3.next hrn, hQ2, ⟨(xp, q3, xs), by simpa using hx, rfl⟩, (by simp), hle, by simp⟩, by simp only [ixS]; omega, (Weak.objs hcx [(320, 320), (128, 128), (576, 2048), (192, 192), (601, 601), (602, 602), (603, 603), (604, 3264), (605, 605)] rfl rfl (Nat.le_of_ble_eq_true rfl) (by simp [go_sem, gL, kL, List.map_append, dv_push, toDL_dvF, htl, frzL_appV, frzL_md, hsS, hsQ, ixS, belL_app, renL_app, dv_one, belL_md, renL_md]) (by simp [go_sem, gL, kL, List.map_append, dv_push, toDL_dvF, htl, frzL_appV, frzL_md, hsS, hsQ, ixS, belL_app, renL_app, dv_one, belL_md, renL_md]) (by first | exact pk0 | exact pk1 ⟨_, rfl⟩ | exact pk2 ⟨_, rfl⟩ ⟨_, rfl⟩ | exact pk3 ⟨_, rfl⟩ ⟨_, rfl⟩ ⟨_, rfl⟩ | exact pk4 ⟨_, rfl⟩ ⟨_, rfl⟩ ⟨_, rfl⟩ ⟨_, rfl⟩) (by simp [gL, lk, toDL_dvF, htl, frzL_appV, frzL_md, hsS, hsQ, ixS, belL_app, renL_app, dv_one, belL_md, renL_md]))⟩
        by_cases e4 : q4 = xq
        · subst e4
          have b0 : (q4 == q0) = false := beq_eq_false_iff_ne.2 (Ne.symm e0)
          have b1 : (q4 == q1) = false := beq_eq_false_iff_ne.2 (Ne.symm e1)
          have b2 : (q4 == q2) = false := beq_eq_false_iff_ne.2 (Ne.symm e2)
          have b3 : (q4 == q3) = false := beq_eq_false_iff_ne.2 (Ne.symm e3)
          have hl4 := g6 (q4, l4) (by simp)
          simp only at hl4
          have htq : List.take l4.length (dv (l4.map mkD)) = dv (l4.map mkD) := List.take_of_length_le (by simp [dv])
          have hQ2 : Grps (gQ (ms.take (i + 1))) [(q0, l0), (q1, l1), (q2, l2), (q3, l3), (q4, l4 ++ [(xp, q4, xs)])] := by simp only [htk]; exact Grps.old (f := fun m => m.2.1) (A := [(q0, l0), (q1, l1), (q2, l2), (q3, l3)]) (B := []) gQ3 rfl
          have hle : ∀ g ∈ ([(q0, l0), (q1, l1), (q2, l2), (q3, l3), (q4, l4 ++ [(xp, q4, xs)])] : List Gr), g.2.length ≤ i + 1 := by
            intro g hg
            simp only [List.mem_cons, List.not_mem_nil, or_false] at hg g6
            rcases hg with rfl | rfl | rfl | rfl | rfl
            · have := g6 (q0, l0) (by simp); simp only at this ⊢; omega
            · have := g6 (q1, l1) (by simp); simp only at this ⊢; omega
            · have := g6 (q2, l2) (by simp); simp only at this ⊢; omega
            · have := g6 (q3, l3) (by simp); simp only at this ⊢; omega
            · simp; omega
          rcases hrn with hrn | hrn
          · obtain rfl : k = xp := hyk.symm.trans hrn
            repeat' (first | ((first | refine AW.sreg rfl fun K hK => ?_ | refine AW.sregD hmix rfl fun K hK => ?_ | refine AW.reg rfl ?_ | refine AW.regD hmix rfl ?_); simp only [go_sem, Nat.reduceAdd, Nat.reduceMul, Int.reduceToNat, Nat.reduceLT, Nat.reduceLeDiff, Nat.le_refl, Nat.reduceEqDiff, ↓reduceIte, beq_self_eq_true, bne_self_eq_false, Int.reduceBEq, Int.reduceBNe, or_self, true_or, or_true, Option.map_some, Option.map_none, List.length_map, hget, hf1, hgv, hst, hks, htl, b0, b1, b2, b3, htq, List.set_cons_zero, List.set_cons_succ]) | (refine AW.seq_k fun K hK => ?_) | (refine AW.block ?_) | (refine AW.skip ?_; simp only [Then, InBlock]) | (refine AW.condT rfl (by first | rfl | (simp; omega) | (simp [*]; done) | fail) ?_) | (refine hK _ ?_; clear hK K) | (with_reducible refine And.intro (?_ : regOk _ _ = true) ?_; kernel_rfl) | (with_reducible refine And.intro ?_ ?_; first | omega | assumption | (focus (decide)) | (focus (simp; done)) | (focus (simp; omega)) | (focus (constructor <;> omega)) | fail))
            exact ⟨some (i + 1, gs, k, ps ++ [(k, q4, xs)], [(q0, l0), (q1, l1), (q2, l2), (q3, l3), (q4, l4 ++ [(k, q4, xs)])]), ⟨by simp, hi, by simp only [htk]; exact g3.same rfl, hQ2, ⟨(k, q4, xs), by simpa using hx, rfl⟩, (by simp; omega), hle, by simp⟩, by simp only [ixS]; omega, (Weak.objs hcx [(320, 320), (128, 128), (576, 2048), (192, 192), (601, 601), (602, 602), (603, 603), (604, 604), (605, 3264)] rfl rfl (Nat.le_of_ble_eq_true rfl) (by simp [go_sem, gL, kL, List.map_append, dv_push, toDL_dvF, htl, frzL_appV, frzL_md, hsS, hsQ, ixS, belL_app, renL_app, dv_one, belL_md, renL_md]) (by simp [go_sem, gL, kL, List.map_append, dv_push, toDL_dvF, htl, frzL_appV, frzL_md, hsS, hsQ, ixS, belL_app, renL_app, dv_one, belL_md, renL_md]) (by first | exact pk0 | exact pk1 ⟨_, rfl⟩ | exact pk2 ⟨_, rfl⟩ ⟨_, rfl⟩ | exact pk3 ⟨_, rfl⟩ ⟨_, rfl⟩ ⟨_, rfl⟩ | exact pk4 ⟨_, rfl⟩ ⟨_, rfl⟩ ⟨_, rfl⟩ ⟨_, rfl⟩) (by simp [gL, lk, toDL_dvF, htl, frzL_appV, frzL_md, hsS, hsQ, ixS, belL_app, renL_app, dv_one, belL_md, renL_md]))⟩
          · rw [hyk] at hrn
            have hf2 := lm_no g3.rise hrn
            repeat' (first | ((first | refine AW.sreg rfl fun K hK => ?_ | refine AW.sregD hmix rfl fun K hK => ?_ | refine AW.reg rfl ?_ | refine AW.regD hmix rfl ?_); simp only [go_sem, Nat.reduceAdd, Nat.reduceMul, Int.reduceToNat, Nat.reduceLT, Nat.reduceLeDiff, Nat.le_refl, Nat.reduceEqDiff, ↓reduceIte, beq_self_eq_true, bne_self_eq_false, Int.reduceBEq, Int.reduceBNe, or_self, true_or, or_true, Option.map_some, Option.map_none, List.length_map, hget, hf2, b0, b1, b2, b3, htq, List.set_cons_zero, List.set_cons_succ]) | (refine AW.seq_k fun K hK => ?_) | (refine AW.block ?_) | (refine AW.skip ?_; simp only [Then, InBlock]) | (refine AW.condT rfl (by first | rfl | (simp; omega) | (simp [*]; done) | fail) ?_) | (refine hK _ ?_; clear hK K) | (with_reducible refine And.intro (?_ : regOk _ _ = true) ?_; kernel_rfl) | (with_reducible refine And.intro ?_ ?_; first | omega | assumption | (focus (decide)) | (focus (simp; done)) | (focus (simp; omega)) | (focus (constructor <;> omega)) | fail))
            exact ⟨some (i + 1, gs ++ [(k, ps)], xp, [(xp, q4, xs)], [(q0, l0), (q1, l1), (q2, l2), (q3, l3), (q4, l4 ++ [(xp, q4, xs)])]), ⟨by simp, hi, by simp only [htk]; exact g3.next hrn, hQ2, ⟨(xp, q4, xs), by simpa using hx, rfl⟩, (by simp), hle, by simp⟩, by simp only [ixS]; omega, (Weak.objs hcx [(320, 320), (128, 128), (576, 2048), (192, 192), (601, 601), (602, 602), (603, 603), (604, 604), (605, 3264)] rfl rfl (Nat.le_of_ble_eq_true rfl) (by simp [go_sem, gL, kL, List.map_append, dv_push, toDL_dvF, htl, frzL_appV, frzL_md, hsS, hsQ, ixS, belL_app, renL_app, dv_one, belL_md, renL_md]) (by simp [go_sem, gL, kL, List.map_append, dv_push, toDL_dvF, htl, frzL_appV, frzL_md, hsS, hsQ, ixS, belL_app, renL_app, dv_one, belL_md, renL_md]) (by first | exact pk0 | exact pk1 ⟨_, rfl⟩ | exact pk2 ⟨_, rfl⟩ ⟨_, rfl⟩ | exact pk3 ⟨_, rfl⟩ ⟨_, rfl⟩ ⟨_, rfl⟩ | exact pk4 ⟨_, rfl⟩ ⟨_, rfl⟩ ⟨_, rfl⟩ ⟨_, rfl⟩) (by simp [gL, lk, toDL_dvF, htl, frzL_appV, frzL_md, hsS, hsQ, ixS, belL_app, renL_app, dv_one, belL_md, renL_md]))⟩
        have hno : xq ∉ ([(q0, l0), (q1, l1), (q2, l2), (q3, l3), (q4, l4)] : List Gr).map (·.1) := by simp only [List.map_cons, List.map_nil, List.mem_cons, List.not_mem_nil, or_false, not_or]; exact ⟨fun h => e0 h.symm, fun h => e1 h.symm, fun h => e2 h.symm, fun h => e3 h.symm, fun h => e4 h.symm⟩
        have hQ2 : Grps (gQ (ms.take (i + 1))) [(q0, l0), (q1, l1), (q2, l2), (q3, l3), (q4, l4), (xq, [(xp, xq, xs)])] := by simp only [htk]; exact Grps.new (f := fun m => m.2.1) gQ3 hno
        exact absurd (hHall [] _ rfl hQ2) (by simp)
      exact absurd (hHall0 _ gQ3) (by simp only [List.length_cons]; omega)
    · obtain rfl : i = ms.length := by omega
      rw [List.take_length] at g3 gQ3
      have hHall0 : ∀ gs : List Gr, Grps (gQ ms) gs → gs.length ≤ 5 := by
        intro gs hgs
        refine Nat.le_trans (pers_le hgs (H := H) fun g hgm => ?_) hH
        have hne := hgs.ne g hgm
        rw [← hgs.vals g hgm] at hne
        obtain ⟨m, hmm⟩ := List.exists_mem_of_ne_nil _ hne
        have h2 := (List.mem_filter.1 hmm).2
        have h3 : m.2.1 = g.1 := by simpa using h2
        rw [← h3]
        exact hm m (List.mem_filter.1 hmm).1
      have hr : ((gs ++ [(k, ps)]).map (·.1)).Pairwise (fun a b => ltS a b = true) := by have := g3.rise; simpa using this
      rcases hs with _ | ⟨⟨q0, l0⟩, hs⟩
      · exact absurd rfl g7
      rcases hs with _ | ⟨⟨q1, l1⟩, hs⟩
      · simp only [hsQ]
        repeat' (first | (refine AW.sreg rfl fun K hK => ?_; simp only [go_sem, Nat.reduceAdd, Nat.reduceMul, Int.reduceToNat, Nat.reduceLT, Nat.reduceLeDiff, Nat.le_refl, Nat.reduceEqDiff, ↓reduceIte, beq_self_eq_true, bne_self_eq_false, Int.reduceBEq, Int.reduceBNe, or_self, true_or, or_true, Option.map_some, Option.map_none, List.length_map]) | (refine AW.seq_k fun K hK => ?_) | (refine AW.exit ?_; simp only [go_sem, ↓reduceIte]) | (refine AW.condF rfl (by first | rfl | (simp; omega) | (simp [*]; done) | fail) ?_) | (refine hK _ ?_; clear hK K) | (clear hK K; refine hK _ ?_; clear hK K))
        exact AW.ret ⟨(((gs ++ [(k, ps)]).map (·.1), (gs ++ [(k, ps)]).map grD), (([(q0, l0)] : List Gr).map (·.1), ([(q0, l0)] : List Gr).map grD)), ⟨g3.g.map, hr, gQ3.map⟩, Fin.data rfl (frz_sheet (e := 79) rfl rfl (toD_lm (e := 39) 4 rfl rfl rfl rfl rfl) (toD_q1 rfl rfl rfl rfl)) rfl⟩
      rcases hs with _ | ⟨⟨q2, l2⟩, hs⟩
      · simp only [hsQ]
        repeat' (first | (refine AW.sreg rfl fun K hK => ?_; simp only [go_sem, Nat.reduceAdd, Nat.reduceMul, Int.reduceToNat, Nat.reduceLT, Nat.reduceLeDiff, Nat.le_refl, Nat.reduceEqDiff, ↓reduceIte, beq_self_eq_true, bne_self_eq_false, Int.reduceBEq, Int.reduceBNe, or_self, true_or, or_true, Option.map_some, Option.map_none, List.length_map]) | (refine AW.seq_k fun K hK => ?_) | (refine AW.exit ?_; simp only [go_sem, ↓reduceIte]) | (refine AW.condF rfl (by first | rfl | (simp; omega) | (simp [*]; done) | fail) ?_) | (refine hK _ ?_; clear hK K) | (clear hK K; refine hK _ ?_; clear hK K))
        exact AW.ret ⟨(((gs ++ [(k, ps)]).map (·.1), (gs ++ [(k, ps)]).map grD), (([(q0, l0), (q1, l1)] : List Gr).map (·.1), ([(q0, l0), (q1, l1)] : List Gr).map grD)), ⟨g3.g.map, hr, gQ3.map⟩, Fin.data rfl (frz_sheet (e := 79) rfl rfl (toD_lm (e := 39) 4 rfl rfl rfl rfl rfl) (toD_q2 rfl rfl rfl rfl rfl rfl)) rfl⟩
      rcases hs with _ | ⟨⟨q3, l3⟩, hs⟩
      · simp only [hsQ]
        repeat' (first | (refine AW.sreg rfl fun K hK => ?_; simp only [go_sem, Nat.reduceAdd, Nat.reduceMul, Int.reduceToNat, Nat.reduceLT, Nat.reduceLeDiff, Nat.le_refl, Nat.reduceEqDiff, ↓reduceIte, beq_self_eq_true, bne_self_eq_false, Int.reduceBEq, Int.reduceBNe, or_self, true_or, or_true, Option.map_some, Option.map_none, List.length_map]) | (refine AW.seq_k fun K hK => ?_) | (refine AW.exit ?_; simp only [go_sem, ↓reduceIte]) | (refine AW.condF rfl (by first | rfl | (simp; omega) | (simp [*]; done) | fail) ?_) | (refine hK _ ?_; clear hK K) | (clear hK K; refine hK _ ?_; clear hK K))
        exact AW.ret ⟨(((gs ++ [(k, ps)]).map (·.1), (gs ++ [(k, ps)]).map grD), (([(q0, l0), (q1, l1), (q2, l2)] : List Gr).map (·.1), ([(q0, l0), (q1, l1), (q2, l2)] : List Gr).map grD)), ⟨g3.g.map, hr, gQ3.map⟩, Fin.data rfl (frz_sheet (e := 79) rfl rfl (toD_lm (e := 39) 4 rfl rfl rfl rfl rfl) (toD_q3 rfl rfl rfl rfl rfl rfl rfl rfl)) rfl⟩
      rcases hs with _ | ⟨⟨q4, l4⟩, hs⟩
      · simp only [hsQ]
        repeat' (first | (refine AW.sreg rfl fun K hK => ?_; simp only [go_sem, Nat.reduceAdd, Nat.reduceMul, Int.reduceToNat, Nat.reduceLT, Nat.reduceLeDiff, Nat.le_refl, Nat.reduceEqDiff, ↓reduceIte, beq_self_eq_true, bne_self_eq_false, Int.reduceBEq, Int.reduceBNe, or_self, true_or, or_true, Option.map_some, Option.map_none, List.length_map]) | (refine AW.seq_k fun K hK => ?_) | (refine AW.exit ?_; simp only [go_sem, ↓reduceIte]) | (refine AW.condF rfl (by first | rfl | (simp; omega) | (simp [*]; done) | fail) ?_) | (refine hK _ ?_; clear hK K) | (clear hK K; refine hK _ ?_; clear hK K))
        exact AW.ret ⟨(((gs ++ [(k, ps)]).map (·.1), (gs ++ [(k, ps)]).map grD), (([(q0, l0), (q1, l1), (q2, l2), (q3, l3)] : List Gr).map (·.1), ([(q0, l0), (q1, l1), (q2, l2), (q3, l3)] : List Gr).map grD)), ⟨g3.g.map, hr, gQ3.map⟩, Fin.data rfl (frz_sheet (e := 79) rfl rfl (toD_lm (e := 39) 4 rfl rfl rfl rfl rfl) (toD_q4 rfl rfl rfl rfl rfl rfl rfl rfl rfl rfl)) rfl⟩
      rcases hs with _ | ⟨⟨q5, l5⟩, hs⟩
      · simp only [hsQ]
        repeat' (first | (refine AW.sreg rfl fun K hK => ?_; simp only [go_sem, Nat.reduceAdd, Nat.reduceMul, Int.reduceToNat, Nat.reduceLT, Nat.reduceLeDiff, Nat.le_refl, Nat.reduceEqDiff, ↓reduceIte, beq_self_eq_true, bne_self_eq_false, Int.reduceBEq, Int.reduceBNe, or_self, true_or, or_true, Option.map_some, Option.map_none, List.length_map]) | (refine AW.seq_k fun K hK => ?_) | (refine AW.exit ?_; simp only [go_sem, ↓reduceIte]) | (refine AW.condF rfl (by first | rfl | (simp; omega) | (simp [*]; done) | fail) ?_) | (refine hK _ ?_; clear hK K) | (clear hK K; refine hK _ ?_; clear hK K))
        exact AW.ret ⟨(((gs ++ [(k, ps)]).map (·.1), (gs ++ [(k, ps)]).map grD), (([(q0, l0), (q1, l1), (q2, l2), (q3, l3), (q4, l4)] : List Gr).map (·.1), ([(q0, l0), (q1, l1), (q2, l2), (q3, l3), (q4, l4)] : List Gr).map grD)), ⟨g3.g.map, hr, gQ3.map⟩, Fin.data rfl (frz_sheet (e := 79) rfl rfl (toD_lm (e := 39) 4 rfl rfl rfl rfl rfl) (toD_q5 rfl rfl rfl rfl rfl rfl rfl rfl rfl rfl rfl rfl)) rfl⟩
      exact absurd (hHall0 _ gQ3) (by simp only [List.length_cons]; omega)
end Go.AX
