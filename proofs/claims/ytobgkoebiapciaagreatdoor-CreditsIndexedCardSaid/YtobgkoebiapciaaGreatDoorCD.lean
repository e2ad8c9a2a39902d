/- The index of a volume. -/
import Derived.Test.YtobgkoebiapciaaGreatDoorCC
import Derived.Test.YtobgkoebiapciaaGreatDoorCB
set_option linter.unusedSimpArgs false
set_option linter.unusedVariables false
set_option linter.unnecessarySimpa false
set_option maxRecDepth 1000000
set_option maxHeartbeats 4000000
namespace Go.AX
open Go Go.Proofs Go.RowKit
attribute [go_sem] aRange aEntry mapOf Lf.done Lf.may Lf.next
/-- A step over a map that remembers what was seen. -/
theorem run_next {P : Program} {ops : Array Oper} {i : Nat} {rest : List Oper} {st : St} {K : St → Prop} {dst : Option Nat} {it : Operand} {ty : TypeId} {pos : String} {af : Array Edge} {gd : Option (Nat × Bool)} {id n : Nat} {cur : Option Nat} {left : Lf} {m : V} {ks : List D} {vs : List V}
    (hit : st.ev it = .ptr id 0) (hid : st.hv id = some (.miter m n cur left)) (hm : mapOf st.hv m = some (ks, vs)) (hw : st.want ops ⟨dst, .next it false, ty, pos, af, gd⟩ = some true) (hd : dstOk dst st.n) (hk : ks.length = n) (hv : vs.length = n)
    (k1 : left.done n → aRunO P ops (i + 1) rest (st.put dst (.tup [.d (.bool false)]) []) K)
    (k2 : ∀ (j : Nat) (k : D) (v : V), left.may j → ks[j]? = some k → vs[j]? = some v → aRunO P ops (i + 1) rest (st.put dst (.tup [.d (.bool true), .d k, v]) [(id, some (.miter m n (some j) (left.next j)))]) K) : callRun P ops i ⟨dst, .next it false, ty, pos, af, gd⟩ rest st K := by
  simp only [callRun, aRunO, hw, aStep, aNext, hit, hid, hm]
  exact ⟨hd, hk, hv, k1, k2⟩
theorem run_entry {P : Program} {ops : Array Oper} {i : Nat} {rest : List Oper} {st : St} {K : St → Prop} {dst : Option Nat} {it : Operand} {ty : TypeId} {pos : String} {af : Array Edge} {gd : Option (Nat × Bool)} {id n j : Nat} {left : Lf} {m : V} {ks : List D} {vs : List V} {k : D} {v : V}
    (hit : st.ev it = .ptr id 0) (hid : st.hv id = some (.miter m n (some j) left)) (hm : mapOf st.hv m = some (ks, vs)) (hw : st.want ops ⟨dst, .entry it, ty, pos, af, gd⟩ = some true) (hd : dstOk dst st.n) (hk : ks.length = n) (h1 : ks[j]? = some k) (h2 : vs[j]? = some v)
    (k1 : aRunO P ops (i + 1) rest (st.put dst (.tup [.d k, v]) []) K) : callRun P ops i ⟨dst, .entry it, ty, pos, af, gd⟩ rest st K := by
  simp only [callRun, aRunO, hw, aStep, aEntry, hit, hid, hm, hk, h1, h2, if_true]
  exact ⟨hd, k1⟩
theorem nodup_subN : ∀ (l r : List Nat), l.Nodup → (∀ x ∈ l, x ∈ r) → l.length ≤ r.length
  | [], _, _, _ => Nat.zero_le _
  | x :: l, r, hn, h => by
    have hn' := List.nodup_cons.1 hn
    have hx := h x (by simp)
    have ih := nodup_subN l (r.erase x) hn'.2 fun y hy => by
      have hne : y ≠ x := by rintro rfl; exact hn'.1 hy
      exact (List.mem_erase_of_ne hne).2 (h y (List.mem_cons_of_mem _ hy))
    rw [List.length_erase_of_mem hx] at ih
    have := List.length_pos_of_mem hx
    simp only [List.length_cons]
    omega
/-- Places of a map that were seen. -/
structure Sd (n : Nat) (seen : List Nat) : Prop where
  nd : seen.Nodup
  lt : ∀ j ∈ seen, j < n
theorem Sd.nil (n : Nat) : Sd n [] := ⟨List.nodup_nil, by simp⟩
theorem Sd.add {n : Nat} {seen : List Nat} (h : Sd n seen) {j : Nat} (hj : j ∉ seen) (hl : j < n) : Sd n (seen ++ [j]) where
  nd := by rw [List.nodup_append]; exact ⟨h.nd, by simp, fun a ha b hb => by simp at hb; subst hb; rintro rfl; exact hj ha⟩
  lt := fun i hi => by
    rcases List.mem_append.1 hi with hi | hi
    · exact h.lt i hi
    · obtain rfl := List.mem_singleton.1 hi
      exact hl
theorem Sd.len {n : Nat} {seen : List Nat} (h : Sd n seen) {j : Nat} (hj : j ∉ seen) (hl : j < n) : seen.length < n := by
  have := nodup_subN (seen ++ [j]) (List.range n) (h.add hj hl).nd fun i hi => List.mem_range.2 ((h.add hj hl).lt i hi)
  simp at this
  omega
theorem Sd.perm {n : Nat} {seen : List Nat} (h : Sd n seen) (hd : ∀ i, i < n → i ∈ seen) : seen.Perm (List.range n) :=
  (List.perm_ext_iff_of_nodup h.nd List.nodup_range).2 fun a => ⟨fun ha => List.mem_range.2 (h.lt a ha), fun ha => hd a (List.mem_range.1 ha)⟩
theorem outF_perm {α : Type} {gs : List α} {d : α} {seen : List Nat} (h : seen.Perm (List.range gs.length)) : (seen.map fun j => gs.getD j d).Perm gs := by
  have h1 := h.map fun j => gs.getD j d
  have h2 : (List.range gs.length).map (fun j => gs.getD j d) = gs := by
    apply List.ext_getElem?
    intro i
    rw [List.getElem?_map]
    by_cases hi : i < gs.length
    · rw [List.getElem?_range hi]
      simp [List.getD, List.getElem?_eq_getElem hi]
    · rw [List.getElem?_eq_none (by simpa using hi), List.getElem?_eq_none (by omega)]
      rfl
  rwa [h2] at h1
theorem frz_ok2 {hv : Nat → Option O} {keep : Nat → Bool} {x : V} {d : D} (h : frz hv keep x = .d d) (c : Int) : frz hv keep (resV [x, I c]) = V.ren id (.tup [.d d, I c]) := by
  simp [resV, go_sem, h]
theorem exists_sub {α : Type} {P : α → Prop} : ∀ l : List α, (∀ x ∈ l, P x) → ∃ xs : List {x // P x}, xs.map Subtype.val = l
  | [], _ => ⟨[], rfl⟩
  | x :: r, h => by
    obtain ⟨xs, hx⟩ := exists_sub r fun y hy => h y (by simp [hy])
    exact ⟨⟨x, h x (by simp)⟩ :: xs, by rw [List.map_cons, hx]⟩
def okN (s : Str) : Bool := decide (s.length ≤ 1000) && decide ((Lib.split s [32]).length ≤ 1000) && decide ((Lib.join ((Lib.split s [32]).drop (dvN s)) [32]).length ≤ 1000) && decide ((Lib.join ((Lib.split s [32]).take (dvN s)) [32]).length ≤ 1000) && decide ((snF s).length ≤ 1000)
theorem okN14 : N14.all okN = true := by kernel_rfl
theorem sortN : ∀ s ∈ N14, Does Tryz.prog 62 [S s] [] (S (snF s)) [] := fun s hs => by
  have h := List.all_eq_true.1 okN14 s hs
  simp only [okN, Bool.and_eq_true, decide_eq_true_eq] at h
  obtain ⟨⟨⟨⟨h1, h2⟩, h3⟩, h4⟩, -⟩ := h
  exact sortName_any s h1 h2 h3 h4
theorem snF_len : ∀ s ∈ N14, (snF s).length ≤ 1000 := fun s hs => by
  have h := List.all_eq_true.1 okN14 s hs
  simp only [okN, Bool.and_eq_true, decide_eq_true_eq] at h
  exact h.2
abbrev keyD (k : IK) : D := .agg [.str k.1, .str k.2]
theorem fndK_key (k : IK) : ∀ ks : List IK, fndK (keyD k) (ks.map keyD) = some (ks.findIdx? fun x => k == x)
  | [] => rfl
  | x :: r => by
    obtain ⟨a, b⟩ := k
    obtain ⟨c, d⟩ := x
    have ih := fndK_key (a, b) r
    have e : sameK (keyD (a, b)) (keyD (c, d)) = some ((a, b) == (c, d)) := by
      by_cases h1 : a = c
      · by_cases h2 : b = d
        · subst h1; subst h2; simp [sameK, sameL, sameP]
        · have : ((a, b) == (c, d) : Bool) = false := by simp [h2]
          rw [this]
          simp [sameK, sameL, sameP, h1, h2]
      · have : ((a, b) == (c, d) : Bool) = false := by simp [h1]
        rw [this]
        simp [sameK, sameL, sameP, h1]
    simp only [List.map_cons, fndK, e, ih, List.findIdx?_cons]
    cases h : ((a, b) == (c, d) : Bool)
    · cases List.findIdx? (fun x => (a, b) == x) r <;> simp
    · simp
theorem fidx_none {k : IK} {ks : List IK} (h : k ∉ ks) : (ks.findIdx? fun x => k == x) = none := by
  rw [List.findIdx?_eq_none_iff]
  intro x hx
  simp only [beq_eq_false_iff_ne, ne_eq]
  rintro rfl
  exact h hx
theorem fidx_at : ∀ {ks : List IK} {j : Nat} {k : IK}, ks.Nodup → ks[j]? = some k → (ks.findIdx? fun x => k == x) = some j
  | [], j, k, _, h => by simp at h
  | x :: ks, 0, k, _, h => by simp at h; subst h; simp [List.findIdx?_cons]
  | x :: ks, j + 1, k, hn, h => by
    have hn := List.nodup_cons.1 hn
    have h : ks[j]? = some k := by simpa using h
    have hx : k ≠ x := by rintro rfl; exact hn.1 (List.mem_of_getElem? h)
    rw [List.findIdx?_cons, if_neg (by simpa using hx), fidx_at hn.2 h]
    rfl
theorem set_same {α : Type} {l : List α} {i : Nat} {a : α} (h : l[i]? = some a) : l.set i a = l := by
  apply List.ext_getElem?
  intro k
  rw [List.getElem?_set]
  split
  · rename_i e
    subst e
    rw [if_pos (get_lt h), h]
  · rfl
def grR : RowS Grp := ⟨fun g => g.2.map (D.int .i64), 3, 1, fun _ v => v⟩
theorem grR_ok : grR.Ok where
  frz := fun hv g v h => by
    rcases h with rfl | ⟨i, a, n, rfl⟩ <;> simp [grR, frz]
  ren := fun f g v => rfl
  bel := fun n g v => rfl
abbrev kyL (gs : List Grp) : List D := gs.map fun g => keyD g.1
theorem fnd_in {gs : List Grp} {j : Nat} {g : Grp} (hn : (gs.map (·.1)).Nodup) (h : gs[j]? = some g) : fndK (keyD g.1) (kyL gs) = some (some j) := by
  have e : kyL gs = (gs.map (·.1)).map keyD := by simp [kyL]
  rw [e, fndK_key, fidx_at (j := j) hn (by rw [List.getElem?_map, h]; rfl)]
theorem fnd_out {gs : List Grp} {k : IK} (h : k ∉ gs.map (·.1)) : fndK (keyD k) (kyL gs) = some none := by
  have e : kyL gs = (gs.map (·.1)).map keyD := by simp [kyL]
  rw [e, fndK_key, fidx_none h]
theorem indexI {fs : List Fi} (h : FinsF fs) (hn : ∀ f ∈ fs, FinF f) (g0 : Int) (rt : Bool) (cs : List Chp) (hv : VolR (g0, rt, cs)) (h0 : volF fs (g0, rt, cs) = 0) :
    DoesI Tryz.prog 27 [.d (voD (g0, rt, cs)), .d (.sl (fs.map fiD))] [] (fun gs : List Grp => gs.Perm (ixF snF fs [] (lvs rt fs (psV cs) g0))) (fun gs => .tup [.d (.sl (gs.map fun g => .agg [.str g.1.1, .str g.1.2, .sl (g.2.map (D.int .i64))])), I 0]) (fun _ => []) := by
  have hc := checkVolume_any h g0 rt cs hv
  rw [h0] at hc
  have hg := volF_zero h0
  have hp4 : (psV cs).length ≤ 4 := ps_len h.1 hg.nd hg.inn
  have hlv := leaves_any h g0 rt cs hg.first hg.inn hp4 (by have := hv.len; simp only at this; omega)
  have hL4 := lvs_len rt fs (psV cs) g0
  have hLm := lvs_map rt fs (psV cs) g0
  have hgi := hg.inn
  generalize lvs rt fs (psV cs) g0 = L at *
  refine DoesI.of_AW (n := 86) Tryz.func27 rfl rfl rfl fun cx hcx => ?_
  repeat' (first | ((first | refine AW.sreg rfl fun K hK => ?_ | refine run_call _ _ _ ((hc).pure rfl rfl _ _) rfl rfl (dstOk_of rfl) rfl rfl rfl ?_ | refine run_call _ _ _ ((hlv).pure rfl rfl _ _) rfl rfl (dstOk_of rfl) rfl rfl rfl ?_); simp only [go_sem, Nat.reduceAdd, Nat.reduceMul, Int.reduceToNat, Nat.reduceLT, Nat.reduceLeDiff, Nat.le_refl, Nat.reduceEqDiff, ↓reduceIte, beq_self_eq_true, bne_self_eq_false, Int.reduceBEq, Int.reduceBNe, or_self, true_or, or_true, Option.map_some, Option.map_none, List.length_map]) | (refine AW.seq_k fun K hK => ?_) | (refine AW.block ?_) | (refine AW.skip ?_; simp only [Then, InBlock]) | (refine AW.condF rfl (by first | rfl | (simp; omega) | (simp [*]; done) | fail) ?_) | (refine hK _ ?_; clear hK K))
  generalize hR : ixF snF fs [] L = R
  refine AW.loopF (ι := Nat × List Grp) [1, 7, 27, 28] (fun p => [(29, I p.1)]) (fun p => (576, some (O.map (kyL p.2) (rowsV grR 6400 p.2))) :: rowsH grR 6400 p.2) 200 (fun p => p.1 ≤ L.length ∧ ixF snF fs p.2 (L.drop p.1) = R ∧ (p.2.map (·.1)).Nodup ∧ (∀ g ∈ p.2, g.2 ≠ [] ∧ g.2.length ≤ 3 * p.1) ∧ p.2.length ≤ 3 * p.1) (fun p => L.length - p.1) (0, []) ⟨Nat.zero_le _, hR, List.nodup_nil, by simp, Nat.le_refl _⟩ (Weak.objs hcx [(576, 576)] rfl rfl (Nat.le_of_ble_eq_true rfl) (by simp [go_sem, gL, kL, List.map_append, dv_push, rowsV_nil, rowsH_nil, kyL]) (by simp [go_sem, gL, kL, List.map_append, dv_push, rowsV_nil, rowsH_nil, kyL]) (by first | exact pk0 | exact pk1 ⟨_, rfl⟩ | exact pk2 ⟨_, rfl⟩ ⟨_, rfl⟩ | exact pk3 ⟨_, rfl⟩ ⟨_, rfl⟩ ⟨_, rfl⟩ | exact pk4 ⟨_, rfl⟩ ⟨_, rfl⟩ ⟨_, rfl⟩ ⟨_, rfl⟩) (by simp [gL, lk, rowsV_nil, rowsH_nil, kyL])) ?_; simp only [St.at_nil, St.at_cons, lk, Nat.reduceEqDiff, ↓reduceIte, Option.getD_some, Option.getD_none, List.cons_append, List.nil_append, List.append_nil]
  rintro ⟨i, gs⟩ ⟨h1, h2, h3, h4, h5⟩
  dsimp only at h1 h2 h3 h4 h5 ⊢
  by_cases hi : i < L.length
  · obtain ⟨x, hx, hxm, hxd⟩ := get_some hi
    have hget : (L.map leD)[i]? = some (leD x) := by simp [hx]
    have hxin : x.1 ∈ fs.map (·.1) := hgi _ (by show x.1 ∈ psV cs; rw [← hLm]; exact List.mem_map_of_mem hxm)
    obtain ⟨m, hm, hfin⟩ := final_in h x.1 hxin
    have hgetm : (fs.map fiD)[m]? = some (fiD (finAt fs x.1)) := by simp [hm]
    have hcr := (hn _ (List.mem_of_getElem? hm)).2.2.2
    have hcl : (finAt fs x.1).2.2.2.length ≤ 3 := crs_len (finG_of (hn _ (List.mem_of_getElem? hm))).2.2.2
    rw [hxd] at h2
    have h2 : ixF snF fs (ixC snF x.2.1 gs (finAt fs x.1).2.2.2) (L.drop (i + 1)) = R := h2
    generalize finAt fs x.1 = f at *
    repeat' (first | ((first | refine AW.sreg rfl fun K hK => ?_ | refine run_call _ _ _ ((hfin).pure rfl rfl _ _) rfl rfl (dstOk_of rfl) rfl rfl rfl ?_); simp only [go_sem, Nat.reduceAdd, Nat.reduceMul, Int.reduceToNat, Nat.reduceLT, Nat.reduceLeDiff, Nat.le_refl, Nat.reduceEqDiff, ↓reduceIte, beq_self_eq_true, bne_self_eq_false, Int.reduceBEq, Int.reduceBNe, or_self, true_or, or_true, Option.map_some, Option.map_none, List.length_map, hget, hgetm, Int.toNat_natCast]) | (refine AW.seq_k fun K hK => ?_) | (refine AW.block ?_) | (refine AW.skip ?_; simp only [Then, InBlock]) | (refine AW.condT rfl (by first | rfl | (simp; omega) | (simp [*]; done) | fail) ?_) | (refine hK _ ?_; clear hK K) | (with_reducible refine And.intro ?_ ?_; first | omega | assumption | (focus (decide)) | (focus (simp; done)) | (focus (simp; omega)) | (focus (constructor <;> omega)) | fail))
    have hgl60 : gs.length ≤ 20 := by omega
    refine AW.loopF (ι := Nat × List Grp) [1, 7, 9, 27, 28, 29, 44, 45] (fun p => [(46, I p.1)]) (fun p => (12992, some (O.box 80 [S x.1, I x.2.1, I x.2.2])) :: (576, some (O.map (kyL p.2) (rowsV grR 6400 p.2))) :: rowsH grR 6400 p.2) 400 (fun p => p.1 ≤ f.2.2.2.length ∧ ixF snF fs (ixC snF x.2.1 p.2 (f.2.2.2.drop p.1)) (L.drop (i + 1)) = R ∧ (p.2.map (·.1)).Nodup ∧ (∀ g ∈ p.2, g.2 ≠ [] ∧ g.2.length ≤ 3 * i + p.1) ∧ p.2.length ≤ 3 * i + p.1) (fun p => f.2.2.2.length - p.1) (0, gs) ⟨Nat.zero_le _, h2, h3, h4, h5⟩ (by
        have hgl0 : (gs).length ≤ 60 := by omega
        obtain ⟨F, hF⟩ : ∃ F : Nat → Nat, F = sw2 576 576 576 576 := ⟨_, rfl⟩
        have w12992 : F 12992 = 12992 := by rw [hF]; exact sw2_o (by omega) (by omega) (by omega) (by omega)
        have ws : F 576 = 576 := by rw [hF]; simp [sw2, swpN]
        have wo : ∀ q, q < (gs).length → F (6400 + q) = 6400 + q := fun q hq => by rw [hF]; exact sw2_o (by omega) (by omega) (by omega) (by omega)
        have hsp : ∀ hv, frzL hv (fun _ => true) (rowsV grR 6400 gs) = renL F (rowsV grR 6400 (gs)) := sp_id grR_ok wo
        have hbl : belL (64 * 400) (rowsV grR 6400 (gs)) = true := belL_rowsV grR_ok _ _ (by (try simp only [List.length_append, List.length_cons, List.length_nil, List.length_set] at hgl0 ⊢); omega)
        (try simp at hbl hsp)
        exact Weak.rowsH (R := grR) hcx F 6400 _ [_, _] rfl rfl (fun q hq => by first | exact absurd hq (Nat.not_lt_zero _) | (obtain rfl : q = 0 := (by simp only [List.length_cons, List.length_nil] at hq; omega); exact w0)) (by simp) (by simp [go_sem, frz, ws, w12992]) (by simp [go_sem, ws, w12992, hsp, hbl]) (fun q zz hq hx => by
            have hql : q < (gs).length := get_lt hq
            refine ⟨by (try simp only [List.length_append, List.length_cons, List.length_nil] at hgl0 hql ⊢); omega, ?_⟩
            rw [wo q hql]
            repeat (refine (hv_skip (by omega)).trans ?_)
            exact hv_rowsE hq hx) (fun q hq => by first | exact absurd hq (Nat.not_lt_zero _) | (obtain rfl : q = 0 := (by simp only [List.length_cons, List.length_nil] at hq; omega); exact ⟨_, List.mem_cons_self⟩)) (by rw [hF]; exact sw2_inj _ _ _ _)) ?_; simp only [St.at_nil, St.at_cons, lk, Nat.reduceEqDiff, ↓reduceIte, Option.getD_some, Option.getD_none, List.cons_append, List.nil_append, List.append_nil]
    rintro ⟨k, g2⟩ ⟨k1, k2, k3, k4, k5⟩
    dsimp only at k1 k2 k3 k4 k5 ⊢
    by_cases hk : k < f.2.2.2.length
    · obtain ⟨c, hc, hcm, hcd⟩ := get_some hk
      have hgetc : (f.2.2.2.map crD)[k]? = some (crD c) := by simp [hc]
      have hsn := sortN c.2 (hcr.2.2 c hcm)
      have hlen2 : g2.length ≤ 12 := by omega
      rw [hcd] at k2
      have k2 : ixF snF fs (ixC snF x.2.1 (addI g2 (snF c.2, c.1) x.2.1) (f.2.2.2.drop (k + 1))) (L.drop (i + 1)) = R := k2
      generalize hkey : (snF c.2, c.1) = ky at k2
      have hky : D.agg [D.str (snF c.2), D.str c.1] = keyD ky := by rw [← hkey]
      have hnd2 := addI_nd (k := ky) (n := x.2.1) k3
      have hpos2 := addI_pos (k := ky) (n := x.2.1) (fun g hg => (k4 g hg).1)
      by_cases hin : ky ∈ g2.map (·.1)
      · obtain ⟨j, hj⟩ := List.getElem?_of_mem hin
        rw [List.getElem?_map] at hj
        obtain ⟨g, hgj, hge⟩ := Option.map_eq_some_iff.1 hj
        have hjl := get_lt hgj
        have hgm := List.mem_of_getElem? hgj
        have ha := addI_in (n := x.2.1) k3 hgj hge
        rw [ha] at k2 hnd2 hpos2
        have hf := fnd_in k3 hgj
        rw [hge, ← hky] at hf
        have hgv : (rowsV grR 6400 g2)[j]? = some (.slr (6400 + j) 0 g.2.length) := by
          rw [rowsV_get, hgj]
          simp only [Option.map_some]
          rw [rref_pos (by simpa [grR] using (k4 g hgm).1)]
          simp [grR]
        have hlk : lk (rowsH grR 6400 g2) (6400 + j) = some (some (.vec 3 1 (dv (g.2.map (D.int .i64))))) := rowsH_lk grR hgj (by simpa [grR] using (k4 g hgm).1)
        have htk : List.take g.2.length (dv (g.2.map (D.int .i64))) = dv (g.2.map (D.int .i64)) := List.take_of_length_le (by simp [dv])
        have hN0 : ∀ n : Nat, n ≤ 6399 → (n = 6400 + j) = False := fun n hn => by simp; omega
        have hN1 : ∀ n : Nat, 12800 ≤ n → (n = 6400 + j) = False := fun n hn => by simp; omega
        have hN2 : ∀ n : Nat, n ≤ 6399 → (6400 + j = n) = False := fun n hn => by simp; omega
        have hN3 : ∀ n : Nat, 12800 ≤ n → (6400 + j = n) = False := fun n hn => by simp; omega
        have hgle := (k4 g hgm).2
        have hkl : kyL (g2.set j (ky, g.2 ++ [x.2.1])) = kyL g2 := by
          unfold kyL
          rw [List.map_set]
          exact set_same (by rw [List.getElem?_map, hgj, Option.map_some, hge])
        repeat' (first | ((first | refine AW.sreg rfl fun K hK => ?_ | refine AW.sregD hmix rfl fun K hK => ?_ | refine AW.reg rfl ?_ | refine runT_call _ _ [] (fun hv _ => (hsn).pure rfl rfl hv _) rfl rfl (dstOk_of rfl) rfl rfl ?_); simp only [go_sem, Nat.reduceAdd, Nat.reduceMul, Int.reduceToNat, Nat.reduceLT, Nat.reduceLeDiff, Nat.le_refl, Nat.reduceEqDiff, ↓reduceIte, beq_self_eq_true, bne_self_eq_false, Int.reduceBEq, Int.reduceBNe, or_self, true_or, or_true, Option.map_some, Option.map_none, List.length_map, hgetc, hf, hgv, hlk, htk, hN0, hN1, hN2, hN3, dv_length, rowsV_len, Int.toNat_natCast]) | (refine AW.seq_k fun K hK => ?_) | (refine AW.block ?_) | (refine AW.skip ?_; simp only [Then, InBlock]) | (refine AW.condT rfl (by first | rfl | (simp; omega) | (simp [*]; done) | fail) ?_) | (refine hK _ ?_; clear hK K) | (with_reducible refine And.intro (?_ : regOk _ _ = true) ?_; exact regOk_swap (by kernel_rfl)) | (with_reducible refine And.intro ?_ ?_; first | omega | assumption | (focus (decide)) | (focus (simp; done)) | (focus (simp; omega)) | (focus (constructor <;> omega)) | fail))
        refine ⟨(k + 1, g2.set j (ky, g.2 ++ [x.2.1])), ⟨hk, k2, hnd2, fun y hy => ?_, by simp only [List.length_set]; omega⟩, by simp only; omega, (by
            have hgl0 : (g2).length ≤ 60 := by omega
            obtain ⟨F, hF⟩ : ∃ F : Nat → Nat, F = sw2 576 576 (6400 + j) 26880 := ⟨_, rfl⟩
            have w12992 : F 12992 = 12992 := by rw [hF]; exact sw2_o (by omega) (by omega) (by omega) (by omega)
            have ws : F 576 = 576 := by rw [hF]; exact sw2_a (by omega) (by omega)
            have wj : F (6400 + j) = 26880 := by rw [hF]; exact sw2_c (by omega) (by omega)
            have wo : ∀ q, q < (g2).length → q ≠ j → F (6400 + q) = 6400 + q := fun q hq hne => by rw [hF]; exact sw2_o (by omega) (by omega) (by omega) (by omega)
            have hsp : ∀ hv, frzL hv (fun _ => true) ((rowsV grR 6400 g2).set j (.slr 26880 0 (g.2.length + 1))) = renL F (rowsV grR 6400 ((g2).set j (ky, g.2 ++ [x.2.1]))) := sp_set grR_ok (g := (ky, g.2 ++ [x.2.1])) (hjl) wj wo (by simp [grR]) (by simp [grR])
            have hbl : belL (64 * 400) (rowsV grR 6400 ((g2).set j (ky, g.2 ++ [x.2.1]))) = true := belL_rowsV grR_ok _ _ (by (try simp only [List.length_append, List.length_cons, List.length_nil, List.length_set] at hgl0 ⊢); omega)
            (try simp at hbl hsp)
            exact Weak.rowsH (R := grR) hcx F 6400 _ [_, _] rfl rfl (fun q hq => by first | exact absurd hq (Nat.not_lt_zero _) | (obtain rfl : q = 0 := (by simp only [List.length_cons, List.length_nil] at hq; omega); exact w0)) (by simp) (by simp [go_sem, frz, ws, w12992]) (by simp [go_sem, ws, w12992, hsp, hbl, hN2, hN3, hkl]) (fun q zz hq hx => by
                have hql : q < (g2).length := by have := get_lt hq; rwa [List.length_set] at this
                refine ⟨by (try simp only [List.length_append, List.length_cons, List.length_nil] at hgl0 hql ⊢); omega, ?_⟩
                by_cases h : j = q
                · subst h
                  rw [List.getElem?_set_self hql] at hq
                  have hxe : zz = (ky, g.2 ++ [x.2.1]) := (Option.some.inj hq).symm
                  subst hxe
                  rw [wj]
                  simp [St.hv, lk, grR, dv, hN2, hN3, hkl]
                · rw [List.getElem?_set_ne h] at hq
                  rw [wo q hql (Ne.symm h)]
                  repeat (refine (hv_skip (by omega)).trans ?_)
                  exact hv_rowsE hq hx) (fun q hq => by first | exact absurd hq (Nat.not_lt_zero _) | (obtain rfl : q = 0 := (by simp only [List.length_cons, List.length_nil] at hq; omega); exact ⟨_, List.mem_cons_self⟩)) (by rw [hF]; exact sw2_inj _ _ _ _))⟩
        rcases List.mem_or_eq_of_mem_set hy with hy | rfl
        · exact ⟨(k4 y hy).1, by have := (k4 y hy).2; simp only; omega⟩
        · exact ⟨by simp, by simp only [List.length_append, List.length_cons, List.length_nil]; omega⟩
      · have hf := fnd_out hin
        rw [← hky] at hf
        have ha := addI_out (n := x.2.1) hin
        rw [ha] at k2 hnd2 hpos2
        have hkll : (kyL g2).length = g2.length := by simp [kyL]
        have hsetA : ∀ x y : V, (rowsV grR 6400 g2 ++ [x]).set g2.length y = rowsV grR 6400 g2 ++ [y] := fun x y => by
          rw [List.set_append_right _ _ (by rw [rowsV_len]; exact Nat.le_refl _)]
          simp [rowsV_len]
        have hkl : kyL (g2 ++ [(ky, [x.2.1])]) = kyL g2 ++ [D.agg [D.str (snF c.2), D.str c.1]] := by rw [hky]; simp [kyL]
        repeat' (first | ((first | refine AW.sreg rfl fun K hK => ?_ | refine AW.sregD hmix rfl fun K hK => ?_ | refine AW.reg rfl ?_ | refine runT_call _ _ [] (fun hv _ => (hsn).pure rfl rfl hv _) rfl rfl (dstOk_of rfl) rfl rfl ?_); simp only [go_sem, Nat.reduceAdd, Nat.reduceMul, Int.reduceToNat, Nat.reduceLT, Nat.reduceLeDiff, Nat.le_refl, Nat.reduceEqDiff, ↓reduceIte, beq_self_eq_true, bne_self_eq_false, Int.reduceBEq, Int.reduceBNe, or_self, true_or, or_true, Option.map_some, Option.map_none, List.length_map, hgetc, hf, hsetA, hkll, dv_length, rowsV_len, Int.toNat_natCast, List.length_append, List.length_cons, List.length_nil]) | (refine AW.seq_k fun K hK => ?_) | (refine AW.block ?_) | (refine AW.skip ?_; simp only [Then, InBlock]) | (refine AW.condT rfl (by first | rfl | (simp; omega) | (simp [*]; done) | fail) ?_) | (refine hK _ ?_; clear hK K) | (with_reducible refine And.intro (?_ : regOk _ _ = true) ?_; kernel_rfl) | (with_reducible refine And.intro ?_ ?_; first | omega | assumption | (focus (decide)) | (focus (simp; done)) | (focus (simp; omega)) | (focus (constructor <;> omega)) | fail))
        refine ⟨(k + 1, g2 ++ [(ky, [x.2.1])]), ⟨hk, k2, hnd2, fun y hy => ?_, by simp only [List.length_append, List.length_cons, List.length_nil]; omega⟩, by simp only; omega, (by
            have hgl0 : (g2).length ≤ 60 := by omega
            obtain ⟨F, hF⟩ : ∃ F : Nat → Nat, F = sw2 576 576 (6400 + (g2).length) 26880 := ⟨_, rfl⟩
            have w12992 : F 12992 = 12992 := by rw [hF]; exact sw2_o (by omega) (by omega) (by omega) (by omega)
            have ws : F 576 = 576 := by rw [hF]; exact sw2_a (by omega) (by omega)
            have wj : F (6400 + (g2).length) = 26880 := by rw [hF]; exact sw2_c (by omega) (by omega)
            have wo : ∀ q, q < (g2).length → q ≠ (g2).length → F (6400 + q) = 6400 + q := fun q hq hne => by rw [hF]; exact sw2_o (by omega) (by omega) (by omega) (by omega)
            have hsp : ∀ hv, frzL hv (fun _ => true) (rowsV grR 6400 g2 ++ [.slr 26880 0 1]) = renL F (rowsV grR 6400 ((g2) ++ [(ky, [x.2.1])])) := sp_app grR_ok (g := (ky, [x.2.1])) wj (fun q hq => wo q hq (by omega)) (by simp [grR]) (by simp [grR])
            have hbl : belL (64 * 400) (rowsV grR 6400 ((g2) ++ [(ky, [x.2.1])])) = true := belL_rowsV grR_ok _ _ (by (try simp only [List.length_append, List.length_cons, List.length_nil, List.length_set] at hgl0 ⊢); omega)
            (try simp at hbl hsp)
            exact Weak.rowsH (R := grR) hcx F 6400 _ [_, _] rfl rfl (fun q hq => by first | exact absurd hq (Nat.not_lt_zero _) | (obtain rfl : q = 0 := (by simp only [List.length_cons, List.length_nil] at hq; omega); exact w0)) (by simp) (by simp [go_sem, frz, ws, w12992]) (by simp [go_sem, ws, w12992, hsp, hbl, hkl]) (fun q zz hq hx => by
                rcases Nat.lt_trichotomy q (g2).length with h | h | h
                · rw [List.getElem?_append_left h] at hq
                  refine ⟨by (try simp only [List.length_append, List.length_cons, List.length_nil] at hgl0 h ⊢); omega, ?_⟩
                  rw [wo q h (by omega)]
                  repeat (refine (hv_skip (by omega)).trans ?_)
                  exact hv_rowsE hq hx
                · subst h
                  have hxe : zz = (ky, [x.2.1]) := by simpa using hq.symm
                  subst hxe
                  rw [wj]
                  exact ⟨by (try simp only [List.length_append, List.length_cons, List.length_nil] at hgl0 ⊢); omega, by simp [St.hv, lk, grR, dv, hkl]⟩
                · rw [List.getElem?_eq_none (by simp only [List.length_append, List.length_cons, List.length_nil] at h ⊢; omega)] at hq
                  cases hq) (fun q hq => by first | exact absurd hq (Nat.not_lt_zero _) | (obtain rfl : q = 0 := (by simp only [List.length_cons, List.length_nil] at hq; omega); exact ⟨_, List.mem_cons_self⟩)) (by rw [hF]; exact sw2_inj _ _ _ _))⟩
        rcases List.mem_append.1 hy with hy | hy
        · exact ⟨(k4 y hy).1, by have := (k4 y hy).2; simp only; omega⟩
        · obtain rfl := List.mem_singleton.1 hy
          exact ⟨by simp, by simp only [List.length_cons, List.length_nil]; omega⟩
    · obtain rfl : k = f.2.2.2.length := by omega
      rw [List.drop_length] at k2
      have k2 : ixF snF fs g2 (L.drop (i + 1)) = R := k2
      have hg20 : g2.length ≤ 20 := by omega
      repeat' (first | ((first | refine AW.sreg rfl fun K hK => ?_ | refine AW.reg rfl ?_); simp only [go_sem, Nat.reduceAdd, Nat.reduceMul, Int.reduceToNat, Nat.reduceLT, Nat.reduceLeDiff, Nat.le_refl, Nat.reduceEqDiff, ↓reduceIte, beq_self_eq_true, bne_self_eq_false, Int.reduceBEq, Int.reduceBNe, or_self, true_or, or_true, Option.map_some, Option.map_none, List.length_map]) | (refine AW.seq_k fun K hK => ?_) | (refine AW.exit ?_; simp only [go_sem, ↓reduceIte]) | (refine AW.condF rfl (by first | rfl | (simp; omega) | (simp [*]; done) | fail) ?_) | (refine hK _ ?_; clear hK K) | (clear hK K; refine hK _ ?_; clear hK K) | (with_reducible refine And.intro ?_ ?_; first | omega | assumption | (focus (decide)) | (focus (simp; done)) | (focus (simp; omega)) | (focus (constructor <;> omega)) | fail))
      exact ⟨(i + 1, g2), ⟨hi, k2, k3, fun y hy => ⟨(k4 y hy).1, by have := (k4 y hy).2; simp only; omega⟩, by simp only; omega⟩, by simp only; omega, (by
          have hgl0 : (g2).length ≤ 60 := by omega
          obtain ⟨F, hF⟩ : ∃ F : Nat → Nat, F = sw2 576 576 576 576 := ⟨_, rfl⟩
          have ws : F 576 = 576 := by rw [hF]; simp [sw2, swpN]
          have wo : ∀ q, q < (g2).length → F (6400 + q) = 6400 + q := fun q hq => by rw [hF]; exact sw2_o (by omega) (by omega) (by omega) (by omega)
          have hsp : ∀ hv, frzL hv (fun _ => true) (rowsV grR 6400 g2) = renL F (rowsV grR 6400 (g2)) := sp_id grR_ok wo
          have hbl : belL (64 * 200) (rowsV grR 6400 (g2)) = true := belL_rowsV grR_ok _ _ (by (try simp only [List.length_append, List.length_cons, List.length_nil, List.length_set] at hgl0 ⊢); omega)
          (try simp at hbl hsp)
          exact Weak.rowsH (R := grR) hcx F 6400 _ [_] rfl rfl (fun q hq => by first | exact absurd hq (Nat.not_lt_zero _) | (obtain rfl : q = 0 := (by simp only [List.length_cons, List.length_nil] at hq; omega); exact w0)) (by simp) (by simp [go_sem, frz, ws]) (by simp [go_sem, ws, hsp, hbl]) (fun q zz hq hx => by
              have hql : q < (g2).length := get_lt hq
              refine ⟨by (try simp only [List.length_append, List.length_cons, List.length_nil] at hgl0 hql ⊢); omega, ?_⟩
              rw [wo q hql]
              repeat (refine (hv_skip (by omega)).trans ?_)
              exact hv_rowsE hq hx) (fun q hq => by first | exact absurd hq (Nat.not_lt_zero _) | (obtain rfl : q = 0 := (by simp only [List.length_cons, List.length_nil] at hq; omega); exact ⟨_, List.mem_cons_self⟩)) (by rw [hF]; exact sw2_inj _ _ _ _))⟩
  · obtain rfl : i = L.length := by omega
    rw [List.drop_length] at h2
    have h2 : gs = R := h2
    have hkn : ∀ g ∈ R, g.1.1.length ≤ 1000 := by
      rw [← hR]
      refine ixF_key snF (Q := fun s => s.length ≤ 1000) fs L (by simp) fun x hx c hc => snF_len _ ?_
      have hxin : x.1 ∈ fs.map (·.1) := hgi _ (by show x.1 ∈ psV cs; rw [← hLm]; exact List.mem_map_of_mem hx)
      exact (hn _ (finAt_mem hxin).1).2.2.2.2.2 c hc
    subst h2
    repeat' (first | (refine AW.sreg rfl fun K hK => ?_; simp only [go_sem, Nat.reduceAdd, Nat.reduceMul, Int.reduceToNat, Nat.reduceLT, Nat.reduceLeDiff, Nat.le_refl, Nat.reduceEqDiff, ↓reduceIte, beq_self_eq_true, bne_self_eq_false, Int.reduceBEq, Int.reduceBNe, or_self, true_or, or_true, Option.map_some, Option.map_none, List.length_map]) | (refine AW.seq_k fun K hK => ?_) | (refine AW.block ?_) | (refine AW.exit ?_; simp only [go_sem, ↓reduceIte]) | (refine AW.condF rfl (by first | rfl | (simp; omega) | (simp [*]; done) | fail) ?_) | (refine hK _ ?_; clear hK K) | (clear hK K; refine hK _ ?_; clear hK K))
    have hgl : gs.length ≤ 12 := by omega
    refine AW.weak (Weak.go (k := 0) (st' := ⟨86, [(68, .ptr 12992 0), (15, .nils)], [(12992, some (O.miter (.d (.map (kyL gs) (gs.map fun g => D.sl (g.2.map (D.int .i64))))) gs.length none (.lst [])))], 300⟩) hcx id (fun q => Nat.beq q 12992) rfl (fun i hi => absurd hi (Nat.not_lt_zero _)) (Nat.zero_le _) (by simp [go_sem, frz]) ?_ (fun i hi => absurd hi (Nat.not_lt_zero _)) (by simp)) ?_
    · intro p hp
      obtain rfl := List.mem_singleton.1 hp
      refine ⟨_, rfl, by simp, by simp [go_sem], rfl, _, rfl, ?_⟩
      have hm := frz_mprR (R := grR) (hv := St.hv ⟨86, [(68, V.ptr 12992 0), (67, V.mpr 576), (15, V.nils), (30, B (decide (((L.length : Nat) : Int) < ((L.length : Nat) : Int)))), (29, I L.length), (1, .d (.sl (fs.map fiD))), (7, .mpr 576), (27, .d (.sl (L.map leD))), (28, I L.length)], (12992, some (O.miter (.mpr 576) gs.length none (.lst []))) :: (576, some (O.map (kyL gs) (rowsV grR 6400 gs))) :: rowsH grR 6400 gs, 204⟩) (keep := fun q => Nat.beq q 12992) (dat := fun g => D.sl (g.2.map (D.int .i64))) (V0 := 576) (B := 6400) rfl rfl (fun g v hv => hv 7 (by omega)) (fun q g hq hg => ⟨?_, ?_⟩)
      · simp only [O.frz]
        rw [hm]
        rfl
      · have := get_lt hq
        cases hb : Nat.beq (6400 + q) 12992 with
        | false => rfl
        | true => have := Nat.eq_of_beq_eq_true hb; omega
      · have := get_lt hq
        repeat (refine (hv_skip (by omega)).trans ?_)
        exact hv_rowsE hq hg
    refine AW.weak (Weak.nil 15 88 3 rfl) ?_
    refine AW.loopF (ι := List Nat) [68] (fun p => [(15, .slr 19200 0 p.length)]) (fun p => [(12992, some (O.miter (.d (.map (kyL gs) (gs.map fun g => D.sl (g.2.map (D.int .i64))))) gs.length p.getLast? (.lst p))), (19200, some (O.vec 88 3 (dv ((p.map fun j => gs.getD j (([], []), [])).map liD))))]) 310 (fun p => Sd gs.length p) (fun p => gs.length - p.length) [] (Sd.nil _) (Weak.auto hcx rfl rfl (Nat.le_of_ble_eq_true rfl) (by simp [go_sem, gL, kL, renOf, V.obj, lk, Nat.blt, Nat.ble, List.map_append, dv_push, List.getLast?_nil]) (by simp [go_sem, gL, kL, renOf, V.obj, lk, Nat.blt, Nat.ble, List.map_append, dv_push, List.getLast?_nil]) (by first | exact pk0 | exact pk1 ⟨_, rfl⟩ | exact pk2 ⟨_, rfl⟩ ⟨_, rfl⟩ | exact pk3 ⟨_, rfl⟩ ⟨_, rfl⟩ ⟨_, rfl⟩ | exact pk4 ⟨_, rfl⟩ ⟨_, rfl⟩ ⟨_, rfl⟩ ⟨_, rfl⟩) (by simp [go_sem, gL, kL, lk, renOf, V.obj, Nat.blt, Nat.ble, List.getLast?_nil])) ?_; simp only [St.at_nil, St.at_cons, lk, Nat.reduceEqDiff, ↓reduceIte, Option.getD_some, Option.getD_none, List.cons_append, List.nil_append, List.append_nil]
    rintro seen k1
    repeat' (first | (refine AW.sreg rfl fun K hK => ?_; simp only [go_sem, Nat.reduceAdd, Nat.reduceMul, Int.reduceToNat, Nat.reduceLT, Nat.reduceLeDiff, Nat.le_refl, Nat.reduceEqDiff, ↓reduceIte, beq_self_eq_true, bne_self_eq_false, Int.reduceBEq, Int.reduceBNe, or_self, true_or, or_true, Option.map_some, Option.map_none, List.length_map]))
    refine run_next rfl rfl rfl rfl (dstOk_of rfl) (by simp [kyL]) (by simp) (fun hd => ?_) (fun j kk vv hm hk hv => ?_)
    rotate_left
    · have hjl : j < gs.length := by
        have := get_lt hk
        simpa [kyL] using this
      obtain ⟨g, hgj, -, -⟩ := get_some hjl
      have hkk : kk = keyD g.1 := by
        unfold kyL at hk
        rw [List.getElem?_map, hgj] at hk
        exact (Option.some.inj hk).symm
      subst hkk
      have hvv : vv = .d (D.sl (g.2.map (D.int .i64))) := by
        rw [List.getElem?_map, List.getElem?_map, hgj] at hv
        exact (Option.some.inj hv).symm
      subst hvv
      have hlen := k1.len hm hjl
      have hadd := k1.add hm hjl
      have hgd : gs.getD j (([], []), []) = g := by simp [List.getD, hgj]
      have hgd2 : (gs[j]?).getD (([], []), []) = g := by simp [hgj]
      have htk : List.take seen.length (dv ((seen.map fun j => gs.getD j (([], []), [])).map liD)) = dv ((seen.map fun j => gs.getD j (([], []), [])).map liD) := List.take_of_length_le (by simp [dv])
      simp only [go_sem, Nat.reduceAdd, Nat.reduceMul, Int.reduceToNat, Nat.reduceLT, Nat.reduceLeDiff, Nat.le_refl, Nat.reduceEqDiff, ↓reduceIte, beq_self_eq_true, bne_self_eq_false, Int.reduceBEq, Int.reduceBNe, or_self, true_or, or_true, Option.map_some, Option.map_none, List.length_map]
      repeat' (first | (refine AW.sreg rfl fun K hK => ?_; simp only [go_sem, Nat.reduceAdd, Nat.reduceMul, Int.reduceToNat, Nat.reduceLT, Nat.reduceLeDiff, Nat.le_refl, Nat.reduceEqDiff, ↓reduceIte, beq_self_eq_true, bne_self_eq_false, Int.reduceBEq, Int.reduceBNe, or_self, true_or, or_true, Option.map_some, Option.map_none, List.length_map]) | (refine AW.seq_k fun K hK => ?_) | (refine AW.block ?_) | (refine AW.skip ?_; simp only [Then, InBlock]) | (refine AW.condT rfl (by first | rfl | (simp; omega) | (simp [*]; done) | fail) ?_) | (refine hK _ ?_; clear hK K))
      refine run_entry rfl rfl rfl rfl (dstOk_of rfl) (by simp [kyL]) hk hv ?_
      simp only [go_sem, Nat.reduceAdd, Nat.reduceMul, Int.reduceToNat, Nat.reduceLT, Nat.reduceLeDiff, Nat.le_refl, Nat.reduceEqDiff, ↓reduceIte, beq_self_eq_true, bne_self_eq_false, Int.reduceBEq, Int.reduceBNe, or_self, true_or, or_true, Option.map_some, Option.map_none, List.length_map]
      repeat' (first | (refine AW.reg rfl ?_; simp only [go_sem, Nat.reduceAdd, Nat.reduceMul, Int.reduceToNat, Nat.reduceLT, Nat.reduceLeDiff, Nat.le_refl, Nat.reduceEqDiff, ↓reduceIte, beq_self_eq_true, bne_self_eq_false, Int.reduceBEq, Int.reduceBNe, or_self, true_or, or_true, Option.map_some, Option.map_none, List.length_map, htk]) | (refine hK _ ?_; clear hK K) | (with_reducible refine And.intro ?_ ?_; first | omega | assumption | (focus (decide)) | (focus (simp; done)) | (focus (simp; omega)) | (focus (constructor <;> omega)) | fail))
      exact ⟨seen ++ [j], hadd, by simp only [List.length_append, List.length_cons, List.length_nil]; omega, (Weak.auto hcx rfl rfl (Nat.le_of_ble_eq_true rfl) (by simp [go_sem, gL, kL, renOf, V.obj, lk, Nat.blt, Nat.ble, List.map_append, dv_push, hgd2, List.map_append, keyD]) (by simp [go_sem, gL, kL, renOf, V.obj, lk, Nat.blt, Nat.ble, List.map_append, dv_push, hgd2, List.map_append, keyD]) (by first | exact pk0 | exact pk1 ⟨_, rfl⟩ | exact pk2 ⟨_, rfl⟩ ⟨_, rfl⟩ | exact pk3 ⟨_, rfl⟩ ⟨_, rfl⟩ ⟨_, rfl⟩ | exact pk4 ⟨_, rfl⟩ ⟨_, rfl⟩ ⟨_, rfl⟩ ⟨_, rfl⟩) (by simp [go_sem, gL, kL, lk, renOf, V.obj, Nat.blt, Nat.ble, hgd2, List.map_append, keyD]))⟩
    · have hper := outF_perm (d := (([], []), [])) (k1.perm hd)
      have hol : seen.length = gs.length := by simpa using (k1.perm hd).length_eq
      generalize hos : (seen.map fun j => gs.getD j (([], []), [])) = os at *
      obtain ⟨xs, rfl⟩ := exists_sub (P := fun g : Grp => g.1.1.length ≤ 1000) os (fun g hg => hkn g (hper.mem_iff.1 hg))
      have hxl : seen.length = xs.length := by
        have := hper.length_eq
        rw [List.length_map] at this
        omega
      have hli : (xs.map Subtype.val).map liD = xs.map liS := by rw [List.map_map]; rfl
      have hsort := sortFunc_Li (fun a b => decide (cvI a b < 0)) cvI (fun _ _ => rfl) 64 cmpIx xs (by omega)
      have hsp := (isort_perm (fun a b => decide (cvI a b < 0)) xs)
      generalize isort (fun a b => decide (cvI a b < 0)) xs = ys at *
      simp only [go_sem, Nat.reduceAdd, Nat.reduceMul, Int.reduceToNat, Nat.reduceLT, Nat.reduceLeDiff, Nat.le_refl, Nat.reduceEqDiff, ↓reduceIte, beq_self_eq_true, bne_self_eq_false, Int.reduceBEq, Int.reduceBNe, or_self, true_or, or_true, Option.map_some, Option.map_none, List.length_map, hli, hxl]
      repeat' (first | ((first | refine AW.sreg rfl fun K hK => ?_ | refine run_call _ _ _ ((hsort).objs [19200] ⟨rfl, trivial⟩ rfl (by decide) (by simp [go_sem, renOs]) (by simp) (by simp) (by simp [go_sem]) (by simp [go_sem]) (by simp [go_sem]) (by simp [go_sem])) rfl rfl (dstOk_of rfl) rfl rfl rfl ?_); simp only [go_sem, Nat.reduceAdd, Nat.reduceMul, Int.reduceToNat, Nat.reduceLT, Nat.reduceLeDiff, Nat.le_refl, Nat.reduceEqDiff, ↓reduceIte, beq_self_eq_true, bne_self_eq_false, Int.reduceBEq, Int.reduceBNe, or_self, true_or, or_true, Option.map_some, Option.map_none, List.length_map, hli, hxl]) | (refine AW.seq_k fun K hK => ?_) | (refine AW.exit ?_; simp only [go_sem, ↓reduceIte]) | (refine AW.condF rfl (by first | rfl | (simp; omega) | (simp [*]; done) | fail) ?_) | (refine hK _ ?_; clear hK K) | (clear hK K; refine hK _ ?_; clear hK K))
      exact AW.ret ⟨ys.map Subtype.val, (hsp.map Subtype.val).trans (hper.trans (by rw [hR])), Fin.data rfl (frz_ok2 ((frz_slr (xs := ys.map liS) rfl rfl (by simp [hsp.length_eq])).trans (by rw [List.map_map]; rfl)) 0) rfl⟩
end Go.AX

namespace Go.AX
open Go Go.Proofs Go.RowKit
theorem indexFunc_FiX (xs : List Fi) (hl : xs.length ≤ 1000) (c : Nat) (cap : D) (q : Fi → Bool) (hc : ∀ x ∈ xs, Does Tryz.prog c [.d (fiD x), .d cap] [] (B (q x)) []) :
    Does Tryz.prog 69 [.d (.sl (xs.map fiD)), .fn c [.d cap]] [] (I (idxG q xs 0)) [] := by
  refine Does.of_AW (n := 19) Tryz.func69 rfl rfl rfl fun cx hcx => ?_
  generalize hR : idxG q xs 0 = R
  repeat' (first | (refine AW.sreg rfl fun K hK => ?_; simp only [go_sem, Nat.reduceAdd, Nat.reduceMul, Int.reduceToNat, Nat.reduceLT, Nat.reduceLeDiff, Nat.le_refl, Nat.reduceEqDiff, ↓reduceIte, beq_self_eq_true, bne_self_eq_false, Int.reduceBEq, Int.reduceBNe, or_self, true_or, or_true, Option.map_some, Option.map_none, List.length_map]) | (refine AW.seq_k fun K hK => ?_) | (refine AW.block ?_) | (refine hK _ ?_; clear hK K))
  refine AW.loopF (ι := Nat) [0, 1, 7] (fun p => [(8, I p)]) (fun p => []) 1 (fun p => p ≤ xs.length ∧ idxG q (xs.drop p) p = R) (fun p => xs.length - p) 0 ⟨by simp, hR⟩ (Weak.auto hcx rfl rfl (Nat.le_of_ble_eq_true rfl) (by simp [go_sem, gL, kL, renOf, V.obj, lk, Nat.blt, Nat.ble, List.map_append, dv_push]) (by simp [go_sem, gL, kL, renOf, V.obj, lk, Nat.blt, Nat.ble, List.map_append, dv_push]) (by first | exact pk0 | exact pk1 ⟨_, rfl⟩ | exact pk2 ⟨_, rfl⟩ ⟨_, rfl⟩ | exact pk3 ⟨_, rfl⟩ ⟨_, rfl⟩ ⟨_, rfl⟩ | exact pk4 ⟨_, rfl⟩ ⟨_, rfl⟩ ⟨_, rfl⟩ ⟨_, rfl⟩) (by simp [go_sem, gL, kL, lk, renOf, V.obj, Nat.blt, Nat.ble])) ?_; simp only [St.at_nil, St.at_cons, lk, Nat.reduceEqDiff, ↓reduceIte, Option.getD_some, Option.getD_none, List.cons_append, List.nil_append, List.append_nil]
  rintro i ⟨h1, h2⟩
  by_cases hi : i < xs.length
  · obtain ⟨x, hx, hxm, hxd⟩ := get_some hi
    have hget : (xs.map fiD)[i]? = some (fiD x) := by simp [hx]
    rw [hxd, idxG] at h2
    repeat' (first | ((first | refine AW.sreg rfl fun K hK => ?_ | refine AW.reg rfl ?_ | refine run_call _ _ _ ((hc x hxm).pure rfl rfl _ _) rfl rfl (dstOk_of rfl) rfl rfl rfl ?_); simp only [go_sem, Nat.reduceAdd, Nat.reduceMul, Int.reduceToNat, Nat.reduceLT, Nat.reduceLeDiff, Nat.le_refl, Nat.reduceEqDiff, ↓reduceIte, beq_self_eq_true, bne_self_eq_false, Int.reduceBEq, Int.reduceBNe, or_self, true_or, or_true, Option.map_some, Option.map_none, List.length_map, hget]) | (refine AW.seq_k fun K hK => ?_) | (refine AW.block ?_) | (refine AW.skip ?_; simp only [Then, InBlock]) | (refine AW.condT rfl (by first | rfl | (simp; omega) | (simp [*]; done) | fail) ?_) | (refine AW.cond rfl (fun h => ?_) (fun h => ?_) <;> (try simp only [decide_eq_true_eq, decide_eq_false_iff_not, Bool.not_eq_true', Bool.not_eq_false', Bool.not_eq_eq_eq_not, Bool.not_true, Bool.not_false, beq_iff_eq, bne_iff_ne, beq_eq_false_iff_ne, ne_eq, Bool.and_eq_true, Bool.or_eq_true, Bool.or_eq_false_iff] at h)) | (refine hK _ ?_; clear hK K) | (with_reducible refine And.intro ?_ ?_; first | omega | assumption | (focus (decide)) | (focus (simp; done)) | (focus (simp; omega)) | (focus (constructor <;> omega)) | fail) | (refine AW.ret (Fin.data rfl (by first | (simp only [go_sem]; done) | ((rw [if_pos h] at h2; subst h2; simp [go_sem]); done) | (simp [go_sem]; omega) | rfl) rfl)))
    rw [if_neg (by simp [h])] at h2
    exact ⟨i + 1, ⟨hi, h2⟩, by omega, (Weak.auto hcx rfl rfl (Nat.le_of_ble_eq_true rfl) (by simp [go_sem, gL, kL, renOf, V.obj, lk, Nat.blt, Nat.ble, List.map_append, dv_push]) (by simp [go_sem, gL, kL, renOf, V.obj, lk, Nat.blt, Nat.ble, List.map_append, dv_push]) (by first | exact pk0 | exact pk1 ⟨_, rfl⟩ | exact pk2 ⟨_, rfl⟩ ⟨_, rfl⟩ | exact pk3 ⟨_, rfl⟩ ⟨_, rfl⟩ ⟨_, rfl⟩ | exact pk4 ⟨_, rfl⟩ ⟨_, rfl⟩ ⟨_, rfl⟩ ⟨_, rfl⟩) (by simp [go_sem, gL, kL, lk, renOf, V.obj, Nat.blt, Nat.ble]))⟩
  · obtain rfl : i = xs.length := by omega
    simp only [List.drop_length, idxG] at h2
    subst h2
    repeat' (first | (refine AW.sreg rfl fun K hK => ?_; simp only [go_sem, Nat.reduceAdd, Nat.reduceMul, Int.reduceToNat, Nat.reduceLT, Nat.reduceLeDiff, Nat.le_refl, Nat.reduceEqDiff, ↓reduceIte, beq_self_eq_true, bne_self_eq_false, Int.reduceBEq, Int.reduceBNe, or_self, true_or, or_true, Option.map_some, Option.map_none, List.length_map]) | (refine AW.seq_k fun K hK => ?_) | (refine AW.exit ?_; simp only [go_sem, ↓reduceIte]) | (refine AW.condF rfl (by first | rfl | (simp; omega) | (simp [*]; done) | fail) ?_) | (refine hK _ ?_; clear hK K) | (clear hK K; refine hK _ ?_; clear hK K) | (refine AW.ret (Fin.data rfl (by first | (simp only [go_sem]; done) | (simp [go_sem, *]; done) | (simp [go_sem]; omega) | rfl) rfl)))
theorem finalAt1_any (x : Fi) (k : Str) : Does Tryz.prog 70 [.d (fiD x), .d (.ptr [.str k] 0)] [] (B (x.1 == k)) [] := by
  refine Does.of_AW (n := 8) Tryz.func70 rfl rfl rfl fun cx hcx => ?_
  repeat' (first | (refine AW.sreg rfl fun K hK => ?_; simp only [go_sem, Nat.reduceAdd, Nat.reduceMul, Int.reduceToNat, Nat.reduceLT, Nat.reduceLeDiff, Nat.le_refl, Nat.reduceEqDiff, ↓reduceIte, beq_self_eq_true, bne_self_eq_false, Int.reduceBEq, Int.reduceBNe, or_self, true_or, or_true, Option.map_some, Option.map_none]) | (refine hK _ ?_; clear hK K) | (refine AW.ret (Fin.data rfl (by first | (simp only [go_sem]; done) | (simp [go_sem, *]; done) | (simp [go_sem]; omega) | rfl) rfl)))
theorem idxG_find {p : Str} : ∀ (fs : List Fi) (i : Nat), p ∈ fs.map (·.1) → ∃ m : Nat, fs[m]? = fs.find? (fun f => f.1 == p) ∧ idxG (fun f : Fi => f.1 == p) fs i = ((i + m : Nat) : Int)
  | [], i, h => by simp at h
  | f :: r, i, h => by
    by_cases e : f.1 = p
    · exact ⟨0, by simp [e], by simp [idxG, e]⟩
    · simp only [List.map_cons, List.mem_cons] at h
      rcases h with h | h
      · exact absurd h.symm e
      · obtain ⟨m, h1, h2⟩ := idxG_find r (i + 1) h
        refine ⟨m + 1, by simp [e, h1], ?_⟩
        simp only [idxG, beq_eq_false_iff_ne.2 e, Bool.false_eq_true, if_false]
        rw [h2]
        congr 1
        omega
theorem finalAt_in {fs : List Fi} (hl : fs.length ≤ 1000) {p : Str} (hp : p ∈ fs.map (·.1)) : ∃ m : Nat, fs[m]? = some (finAt fs p) ∧ Does Tryz.prog 30 [.d (.sl (fs.map fiD)), S p] [] (I m) [] := by
  obtain ⟨m, h1, h2⟩ := idxG_find fs 0 hp
  refine ⟨m, ?_, ?_⟩
  · obtain ⟨f, hf, rfl⟩ := List.mem_map.1 hp
    unfold finAt
    cases hx : fs.find? (fun g => g.1 == f.1) with
    | none =>
      have := List.find?_eq_none.1 hx f hf
      simp at this
    | some g => rw [h1, hx]; rfl
  · have hx := indexFunc_FiX fs hl 70 (.ptr [.str p] 0) (fun f => f.1 == p) (fun f _ => finalAt1_any f p)
    rw [h2, Nat.zero_add] at hx
    refine Does.of_AW (n := 8) Tryz.func30 rfl rfl rfl fun cx hcx => ?_
    repeat' (first | ((first | refine AW.sreg rfl fun K hK => ?_ | refine run_call _ _ _ ((hx).lend (by repeat' (first | exact frzL_nil | refine frzL_cons (by first | exact frz_d | exact frz_slr rfl rfl (by first | (simp; done) | (simp; omega) | (simp [*]; done) | fail) | rfl) ?_)) rfl rfl rfl) rfl rfl (dstOk_of rfl) rfl rfl rfl ?_); simp only [go_sem, Nat.reduceAdd, Nat.reduceMul, Int.reduceToNat, Nat.reduceLT, Nat.reduceLeDiff, Nat.le_refl, Nat.reduceEqDiff, ↓reduceIte, beq_self_eq_true, bne_self_eq_false, Int.reduceBEq, Int.reduceBNe, or_self, true_or, or_true, Option.map_some, Option.map_none]) | (refine hK _ ?_; clear hK K) | (refine AW.ret (Fin.data rfl (by first | (simp only [go_sem]; done) | (simp [go_sem, *]; done) | (simp [go_sem]; omega) | rfl) rfl)))
theorem index_I (xs : List Int) (hl : xs.length ≤ 1000) (v : Int) :
    Does Tryz.prog 72 [.d (.sl (xs.map (D.int .i64))), I v] [] (I (idxG (fun x => v == x) xs 0)) [] := by
  refine Does.of_AW (n := 19) Tryz.func72 rfl rfl rfl fun cx hcx => ?_
  generalize hR : idxG (fun x => v == x) xs 0 = R
  repeat' (first | (refine AW.sreg rfl fun K hK => ?_; simp only [go_sem, Nat.reduceAdd, Nat.reduceMul, Int.reduceToNat, Nat.reduceLT, Nat.reduceLeDiff, Nat.le_refl, Nat.reduceEqDiff, ↓reduceIte, beq_self_eq_true, bne_self_eq_false, Int.reduceBEq, Int.reduceBNe, or_self, true_or, or_true, Option.map_some, Option.map_none, List.length_map]) | (refine AW.seq_k fun K hK => ?_) | (refine AW.block ?_) | (refine hK _ ?_; clear hK K))
  refine AW.loopF (ι := Nat) [0, 1, 7] (fun p => [(8, I p)]) (fun p => []) 1 (fun p => p ≤ xs.length ∧ idxG (fun x => v == x) (xs.drop p) p = R) (fun p => xs.length - p) 0 ⟨by simp, hR⟩ (Weak.auto hcx rfl rfl (Nat.le_of_ble_eq_true rfl) (by simp [go_sem, gL, kL, renOf, V.obj, lk, Nat.blt, Nat.ble, List.map_append, dv_push]) (by simp [go_sem, gL, kL, renOf, V.obj, lk, Nat.blt, Nat.ble, List.map_append, dv_push]) (by first | exact pk0 | exact pk1 ⟨_, rfl⟩ | exact pk2 ⟨_, rfl⟩ ⟨_, rfl⟩ | exact pk3 ⟨_, rfl⟩ ⟨_, rfl⟩ ⟨_, rfl⟩ | exact pk4 ⟨_, rfl⟩ ⟨_, rfl⟩ ⟨_, rfl⟩ ⟨_, rfl⟩) (by simp [go_sem, gL, kL, lk, renOf, V.obj, Nat.blt, Nat.ble])) ?_; simp only [St.at_nil, St.at_cons, lk, Nat.reduceEqDiff, ↓reduceIte, Option.getD_some, Option.getD_none, List.cons_append, List.nil_append, List.append_nil]
  rintro i ⟨h1, h2⟩
  by_cases hi : i < xs.length
  · obtain ⟨x, hx, hxm, hxd⟩ := get_some hi
    have hget : (xs.map (D.int .i64))[i]? = some (.int .i64 x) := by simp [hx]
    rw [hxd, idxG] at h2
    repeat' (first | ((first | refine AW.sreg rfl fun K hK => ?_ | refine AW.reg rfl ?_); simp only [go_sem, Nat.reduceAdd, Nat.reduceMul, Int.reduceToNat, Nat.reduceLT, Nat.reduceLeDiff, Nat.le_refl, Nat.reduceEqDiff, ↓reduceIte, beq_self_eq_true, bne_self_eq_false, Int.reduceBEq, Int.reduceBNe, or_self, true_or, or_true, Option.map_some, Option.map_none, List.length_map, hget]) | (refine AW.seq_k fun K hK => ?_) | (refine AW.block ?_) | (refine AW.skip ?_; simp only [Then, InBlock]) | (refine AW.condT rfl (by first | rfl | (simp; omega) | (simp [*]; done) | fail) ?_) | (refine AW.cond rfl (fun h => ?_) (fun h => ?_) <;> (try simp only [decide_eq_true_eq, decide_eq_false_iff_not, Bool.not_eq_true', Bool.not_eq_false', Bool.not_eq_eq_eq_not, Bool.not_true, Bool.not_false, beq_iff_eq, bne_iff_ne, beq_eq_false_iff_ne, ne_eq, Bool.and_eq_true, Bool.or_eq_true, Bool.or_eq_false_iff] at h)) | (refine hK _ ?_; clear hK K) | (with_reducible refine And.intro ?_ ?_; first | omega | assumption | (focus (decide)) | (focus (simp; done)) | (focus (simp; omega)) | (focus (constructor <;> omega)) | fail) | (refine AW.ret (Fin.data rfl (by first | (simp only [go_sem]; done) | ((rw [if_pos (by simpa using h)] at h2; subst h2; simp [go_sem]); done) | (simp [go_sem]; omega) | rfl) rfl)))
    rw [if_neg (by simpa using h)] at h2
    exact ⟨i + 1, ⟨hi, h2⟩, by omega, (Weak.auto hcx rfl rfl (Nat.le_of_ble_eq_true rfl) (by simp [go_sem, gL, kL, renOf, V.obj, lk, Nat.blt, Nat.ble, List.map_append, dv_push]) (by simp [go_sem, gL, kL, renOf, V.obj, lk, Nat.blt, Nat.ble, List.map_append, dv_push]) (by first | exact pk0 | exact pk1 ⟨_, rfl⟩ | exact pk2 ⟨_, rfl⟩ ⟨_, rfl⟩ | exact pk3 ⟨_, rfl⟩ ⟨_, rfl⟩ ⟨_, rfl⟩ | exact pk4 ⟨_, rfl⟩ ⟨_, rfl⟩ ⟨_, rfl⟩ ⟨_, rfl⟩) (by simp [go_sem, gL, kL, lk, renOf, V.obj, Nat.blt, Nat.ble]))⟩
  · obtain rfl : i = xs.length := by omega
    simp only [List.drop_length, idxG] at h2
    subst h2
    repeat' (first | (refine AW.sreg rfl fun K hK => ?_; simp only [go_sem, Nat.reduceAdd, Nat.reduceMul, Int.reduceToNat, Nat.reduceLT, Nat.reduceLeDiff, Nat.le_refl, Nat.reduceEqDiff, ↓reduceIte, beq_self_eq_true, bne_self_eq_false, Int.reduceBEq, Int.reduceBNe, or_self, true_or, or_true, Option.map_some, Option.map_none, List.length_map]) | (refine AW.seq_k fun K hK => ?_) | (refine AW.exit ?_; simp only [go_sem, ↓reduceIte]) | (refine AW.condF rfl (by first | rfl | (simp; omega) | (simp [*]; done) | fail) ?_) | (refine hK _ ?_; clear hK K) | (clear hK K; refine hK _ ?_; clear hK K) | (refine AW.ret (Fin.data rfl (by first | (simp only [go_sem]; done) | (simp [go_sem, *]; done) | (simp [go_sem]; omega) | rfl) rfl)))
theorem contains_I (xs : List Int) (hl : xs.length ≤ 1000) (v : Int) :
    Does Tryz.prog 34 [.d (.sl (xs.map (D.int .i64))), I v] [] (B (xs.any fun x => v == x)) [] := by
  rw [← idxG_any (fun x => v == x) xs 0]
  refine Does.of_AW (n := 9) Tryz.func34 rfl rfl rfl fun cx hcx => ?_
  repeat' (first | ((first | refine AW.sreg rfl fun K hK => ?_ | refine run_call _ _ _ ((index_I xs hl v).pure rfl rfl _ _) rfl rfl (dstOk_of rfl) rfl rfl rfl ?_); simp only [go_sem, Nat.reduceAdd, Nat.reduceMul, Int.reduceToNat, Nat.reduceLT, Nat.reduceLeDiff, Nat.le_refl, Nat.reduceEqDiff, ↓reduceIte, beq_self_eq_true, bne_self_eq_false, Int.reduceBEq, Int.reduceBNe, or_self, true_or, or_true, Option.map_some, Option.map_none]) | (refine hK _ ?_; clear hK K) | (refine AW.ret (Fin.data rfl (by first | (simp only [go_sem]; done) | (simp [go_sem, *]; done) | (simp [go_sem]; omega) | rfl) rfl)))
theorem indexFunc_L3 (xs : List Grp) (hl : xs.length ≤ 1000) (c : Nat) (p1 p2 p3 : D) (q : Grp → Bool) (hc : ∀ x ∈ xs, Does Tryz.prog c [.d (liD x), .d p1, .d p2, .d p3] [] (B (q x)) []) :
    Does Tryz.prog 71 [.d (.sl (xs.map liD)), .fn c [.d p1, .d p2, .d p3]] [] (I (idxG q xs 0)) [] := by
  refine Does.of_AW (n := 19) Tryz.func71 rfl rfl rfl fun cx hcx => ?_
  generalize hR : idxG q xs 0 = R
  repeat' (first | (refine AW.sreg rfl fun K hK => ?_; simp only [go_sem, Nat.reduceAdd, Nat.reduceMul, Int.reduceToNat, Nat.reduceLT, Nat.reduceLeDiff, Nat.le_refl, Nat.reduceEqDiff, ↓reduceIte, beq_self_eq_true, bne_self_eq_false, Int.reduceBEq, Int.reduceBNe, or_self, true_or, or_true, Option.map_some, Option.map_none, List.length_map]) | (refine AW.seq_k fun K hK => ?_) | (refine AW.block ?_) | (refine hK _ ?_; clear hK K))
  refine AW.loopF (ι := Nat) [0, 1, 7] (fun p => [(8, I p)]) (fun p => []) 1 (fun p => p ≤ xs.length ∧ idxG q (xs.drop p) p = R) (fun p => xs.length - p) 0 ⟨by simp, hR⟩ (Weak.auto hcx rfl rfl (Nat.le_of_ble_eq_true rfl) (by simp [go_sem, gL, kL, renOf, V.obj, lk, Nat.blt, Nat.ble, List.map_append, dv_push]) (by simp [go_sem, gL, kL, renOf, V.obj, lk, Nat.blt, Nat.ble, List.map_append, dv_push]) (by first | exact pk0 | exact pk1 ⟨_, rfl⟩ | exact pk2 ⟨_, rfl⟩ ⟨_, rfl⟩ | exact pk3 ⟨_, rfl⟩ ⟨_, rfl⟩ ⟨_, rfl⟩ | exact pk4 ⟨_, rfl⟩ ⟨_, rfl⟩ ⟨_, rfl⟩ ⟨_, rfl⟩) (by simp [go_sem, gL, kL, lk, renOf, V.obj, Nat.blt, Nat.ble])) ?_; simp only [St.at_nil, St.at_cons, lk, Nat.reduceEqDiff, ↓reduceIte, Option.getD_some, Option.getD_none, List.cons_append, List.nil_append, List.append_nil]
  rintro i ⟨h1, h2⟩
  by_cases hi : i < xs.length
  · obtain ⟨x, hx, hxm, hxd⟩ := get_some hi
    have hget : (xs.map liD)[i]? = some (liD x) := by simp [hx]
    rw [hxd, idxG] at h2
    repeat' (first | ((first | refine AW.sreg rfl fun K hK => ?_ | refine AW.reg rfl ?_ | refine run_call _ _ _ ((hc x hxm).pure rfl rfl _ _) rfl rfl (dstOk_of rfl) rfl rfl rfl ?_); simp only [go_sem, Nat.reduceAdd, Nat.reduceMul, Int.reduceToNat, Nat.reduceLT, Nat.reduceLeDiff, Nat.le_refl, Nat.reduceEqDiff, ↓reduceIte, beq_self_eq_true, bne_self_eq_false, Int.reduceBEq, Int.reduceBNe, or_self, true_or, or_true, Option.map_some, Option.map_none, List.length_map, hget]) | (refine AW.seq_k fun K hK => ?_) | (refine AW.block ?_) | (refine AW.skip ?_; simp only [Then, InBlock]) | (refine AW.condT rfl (by first | rfl | (simp; omega) | (simp [*]; done) | fail) ?_) | (refine AW.cond rfl (fun h => ?_) (fun h => ?_) <;> (try simp only [decide_eq_true_eq, decide_eq_false_iff_not, Bool.not_eq_true', Bool.not_eq_false', Bool.not_eq_eq_eq_not, Bool.not_true, Bool.not_false, beq_iff_eq, bne_iff_ne, beq_eq_false_iff_ne, ne_eq, Bool.and_eq_true, Bool.or_eq_true, Bool.or_eq_false_iff] at h)) | (refine hK _ ?_; clear hK K) | (with_reducible refine And.intro ?_ ?_; first | omega | assumption | (focus (decide)) | (focus (simp; done)) | (focus (simp; omega)) | (focus (constructor <;> omega)) | fail) | (refine AW.ret (Fin.data rfl (by first | (simp only [go_sem]; done) | ((rw [if_pos h] at h2; subst h2; simp [go_sem]); done) | (simp [go_sem]; omega) | rfl) rfl)))
    rw [if_neg (by simp [h])] at h2
    exact ⟨i + 1, ⟨hi, h2⟩, by omega, (Weak.auto hcx rfl rfl (Nat.le_of_ble_eq_true rfl) (by simp [go_sem, gL, kL, renOf, V.obj, lk, Nat.blt, Nat.ble, List.map_append, dv_push]) (by simp [go_sem, gL, kL, renOf, V.obj, lk, Nat.blt, Nat.ble, List.map_append, dv_push]) (by first | exact pk0 | exact pk1 ⟨_, rfl⟩ | exact pk2 ⟨_, rfl⟩ ⟨_, rfl⟩ | exact pk3 ⟨_, rfl⟩ ⟨_, rfl⟩ ⟨_, rfl⟩ | exact pk4 ⟨_, rfl⟩ ⟨_, rfl⟩ ⟨_, rfl⟩ ⟨_, rfl⟩) (by simp [go_sem, gL, kL, lk, renOf, V.obj, Nat.blt, Nat.ble]))⟩
  · obtain rfl : i = xs.length := by omega
    simp only [List.drop_length, idxG] at h2
    subst h2
    repeat' (first | (refine AW.sreg rfl fun K hK => ?_; simp only [go_sem, Nat.reduceAdd, Nat.reduceMul, Int.reduceToNat, Nat.reduceLT, Nat.reduceLeDiff, Nat.le_refl, Nat.reduceEqDiff, ↓reduceIte, beq_self_eq_true, bne_self_eq_false, Int.reduceBEq, Int.reduceBNe, or_self, true_or, or_true, Option.map_some, Option.map_none, List.length_map]) | (refine AW.seq_k fun K hK => ?_) | (refine AW.exit ?_; simp only [go_sem, ↓reduceIte]) | (refine AW.condF rfl (by first | rfl | (simp; omega) | (simp [*]; done) | fail) ?_) | (refine hK _ ?_; clear hK K) | (clear hK K; refine hK _ ?_; clear hK K) | (refine AW.ret (Fin.data rfl (by first | (simp only [go_sem]; done) | (simp [go_sem, *]; done) | (simp [go_sem]; omega) | rfl) rfl)))
theorem containsFunc_L3 (xs : List Grp) (hl : xs.length ≤ 1000) (c : Nat) (p1 p2 p3 : D) (q : Grp → Bool) (hc : ∀ x ∈ xs, Does Tryz.prog c [.d (liD x), .d p1, .d p2, .d p3] [] (B (q x)) []) :
    Does Tryz.prog 32 [.d (.sl (xs.map liD)), .fn c [.d p1, .d p2, .d p3]] [] (B (xs.any q)) [] := by
  rw [← idxG_any q xs 0]
  refine Does.of_AW (n := 9) Tryz.func32 rfl rfl rfl fun cx hcx => ?_
  repeat' (first | ((first | refine AW.sreg rfl fun K hK => ?_ | refine run_call _ _ _ ((indexFunc_L3 xs hl c p1 p2 p3 q hc).pure rfl rfl _ _) rfl rfl (dstOk_of rfl) rfl rfl rfl ?_); simp only [go_sem, Nat.reduceAdd, Nat.reduceMul, Int.reduceToNat, Nat.reduceLT, Nat.reduceLeDiff, Nat.le_refl, Nat.reduceEqDiff, ↓reduceIte, beq_self_eq_true, bne_self_eq_false, Int.reduceBEq, Int.reduceBNe, or_self, true_or, or_true, Option.map_some, Option.map_none]) | (refine hK _ ?_; clear hK K) | (refine AW.ret (Fin.data rfl (by first | (simp only [go_sem]; done) | (simp [go_sem, *]; done) | (simp [go_sem]; omega) | rfl) rfl)))
def isE (k n : Str) (g : Int) (y : Grp) : Bool := y.1.2 == k && y.1.1 == n && y.2.any fun x => g == x
theorem credits1_any (y : Grp) (hy : y.2.length ≤ 1000) (k nm n p : Str) (g t : Int) : Does Tryz.prog 33 [.d (liD y), .d (.ptr [.str k, .str nm] 0), .d (.ptr [.str n] 0), .d (.ptr [.str p, .int .i64 g, .int .i64 t] 0)] [] (B (isE k n g y)) [] := by
  have hc := contains_I y.2 hy g
  obtain ⟨⟨yn, yk⟩, yp⟩ := y
  simp only at hc
  unfold isE
  simp only
  generalize yp.any _ = c at *
  refine Does.of_AW (n := 24) Tryz.func33 rfl rfl rfl fun cx hcx => ?_
  by_cases h1 : yk = k
  · by_cases h2 : yn = n
    · have e1 : (yk == k) = true := by simp [h1]
      have e2 : (yn == n) = true := by simp [h2]
      rw [e1, e2]
      repeat' (first | ((first | refine AW.sreg rfl fun K hK => ?_ | refine run_call _ _ _ ((hc).pure rfl rfl _ _) rfl rfl (dstOk_of rfl) rfl rfl rfl ?_); simp only [go_sem, Nat.reduceAdd, Nat.reduceMul, Int.reduceToNat, Nat.reduceLT, Nat.reduceLeDiff, Nat.le_refl, Nat.reduceEqDiff, ↓reduceIte, beq_self_eq_true, bne_self_eq_false, Int.reduceBEq, Int.reduceBNe, or_self, true_or, or_true, Option.map_some, Option.map_none, e1, e2]) | (refine hK _ ?_; clear hK K) | (refine AW.ret (Fin.data rfl (by first | (simp only [go_sem]; done) | (simp [go_sem, *]; done) | (simp [go_sem]; omega) | rfl) rfl)))
    · have e1 : (yk == k) = true := by simp [h1]
      have e2 : (yn == n) = false := by simp [h2]
      rw [e1, e2]
      repeat' (first | (refine AW.sreg rfl fun K hK => ?_; simp only [go_sem, Nat.reduceAdd, Nat.reduceMul, Int.reduceToNat, Nat.reduceLT, Nat.reduceLeDiff, Nat.le_refl, Nat.reduceEqDiff, ↓reduceIte, beq_self_eq_true, bne_self_eq_false, Int.reduceBEq, Int.reduceBNe, or_self, true_or, or_true, Option.map_some, Option.map_none, e1, e2]) | (refine hK _ ?_; clear hK K) | (refine AW.ret (Fin.data rfl (by first | (simp only [go_sem]; done) | (simp [go_sem, *]; done) | (simp [go_sem]; omega) | rfl) rfl)))
  · have e1 : (yk == k) = false := by simp [h1]
    rw [e1]
    repeat' (first | (refine AW.sreg rfl fun K hK => ?_; simp only [go_sem, Nat.reduceAdd, Nat.reduceMul, Int.reduceToNat, Nat.reduceLT, Nat.reduceLeDiff, Nat.le_refl, Nat.reduceEqDiff, ↓reduceIte, beq_self_eq_true, bne_self_eq_false, Int.reduceBEq, Int.reduceBNe, or_self, true_or, or_true, Option.map_some, Option.map_none, e1]) | (refine hK _ ?_; clear hK K) | (refine AW.ret (Fin.data rfl (by first | (simp only [go_sem]; done) | (simp [go_sem, *]; done) | (simp [go_sem]; omega) | rfl) rfl)))
theorem index_err {fs : List Fi} (h : FinsF fs) (g0 : Int) (rt : Bool) (cs : List Chp) (hv : VolR (g0, rt, cs)) (h0 : volF fs (g0, rt, cs) ≠ 0) :
    Does Tryz.prog 27 [.d (voD (g0, rt, cs)), .d (.sl (fs.map fiD))] [] (.tup [.nils, I (volF fs (g0, rt, cs))]) [] := by
  have hc := checkVolume_any h g0 rt cs hv
  generalize volF fs (g0, rt, cs) = e at *
  refine Does.of_AW (n := 86) Tryz.func27 rfl rfl rfl fun cx hcx => ?_
  repeat' (first | ((first | refine AW.sreg rfl fun K hK => ?_ | refine run_call _ _ _ ((hc).pure rfl rfl _ _) rfl rfl (dstOk_of rfl) rfl rfl rfl ?_); simp only [go_sem, Nat.reduceAdd, Nat.reduceMul, Int.reduceToNat, Nat.reduceLT, Nat.reduceLeDiff, Nat.le_refl, Nat.reduceEqDiff, ↓reduceIte, beq_self_eq_true, bne_self_eq_false, Int.reduceBEq, Int.reduceBNe, or_self, true_or, or_true, Option.map_some, Option.map_none, h0]) | (refine AW.seq_k fun K hK => ?_) | (refine AW.condT rfl (by first | rfl | (simp; omega) | (simp [*]; done) | fail) ?_) | (refine hK _ ?_; clear hK K) | (refine AW.ret (Fin.data rfl (by first | (simp only [go_sem]; done) | (simp [go_sem, *]; done) | (simp [go_sem]; omega) | rfl) rfl)))
theorem sortNameE (s : Str) (hs : s ∈ N14) : Does Tryz.prog 31 [S s] [] (.tup [S (snF s), I 0]) [] := by
  have h1 := nameLine (lnN14 s hs)
  have h2 := sortN s hs
  refine Does.of_AW (n := 9) Tryz.func31 rfl rfl rfl fun cx hcx => ?_
  repeat' (first | ((first | refine AW.sreg rfl fun K hK => ?_ | refine run_call _ _ _ ((h1).pure rfl rfl _ _) rfl rfl (dstOk_of rfl) rfl rfl rfl ?_ | refine run_call _ _ _ ((h2).pure rfl rfl _ _) rfl rfl (dstOk_of rfl) rfl rfl rfl ?_); simp only [go_sem, Nat.reduceAdd, Nat.reduceMul, Int.reduceToNat, Nat.reduceLT, Nat.reduceLeDiff, Nat.le_refl, Nat.reduceEqDiff, ↓reduceIte, beq_self_eq_true, bne_self_eq_false, Int.reduceBEq, Int.reduceBNe, or_self, true_or, or_true, Option.map_some, Option.map_none]) | (refine AW.seq_k fun K hK => ?_) | (refine AW.skip ?_; simp only [Then, InBlock]) | (refine AW.condF rfl (by first | rfl | (simp; omega) | (simp [*]; done) | fail) ?_) | (refine hK _ ?_; clear hK K) | (refine AW.ret (Fin.data rfl (by first | (simp only [go_sem]; done) | (simp [go_sem, *]; done) | (simp [go_sem]; omega) | rfl) rfl)))
theorem totI_nn (gs : List Grp) : 0 ≤ totI gs := by
  induction gs with
  | nil => simp [totI]
  | cons x r ih => simp only [totI]; omega
theorem totI_take (gs : List Grp) (i : Nat) : totI (gs.take i) ≤ totI gs := by
  have h := totI_app (gs.take i) (gs.drop i)
  rw [List.take_append_drop] at h
  have := totI_nn (gs.drop i)
  omega
theorem manyL_app (fs : List Fi) (a b : List Lea) : manyL fs (a ++ b) = manyL fs a + manyL fs b := by
  induction a with
  | nil => simp [manyL]
  | cons x r ih => simp only [List.cons_append, manyL, ih]; omega
theorem law_ok (l : List Int) (hl : l.length ≤ 9223372036854775807) : Does Tryz.prog 6 [Ls l] [] (B true) [] := by
  refine Does.of_AW (n := 114) Tryz.func6 rfl rfl rfl fun cx hcx => ?_
  repeat' (first | (refine AW.sreg rfl fun K hK => ?_; simp only [go_sem, Nat.reduceAdd, Nat.reduceMul, Int.reduceToNat, Nat.reduceLT, Nat.reduceLeDiff, Nat.le_refl, Nat.reduceEqDiff, ↓reduceIte, beq_self_eq_true, bne_self_eq_false, Int.reduceBEq, Int.reduceBNe, or_self, true_or, or_true, Option.map_some, Option.map_none]) | (refine hK _ ?_; clear hK K) | (refine run_callI _ _ _ ((rightFinalsI l hl 0 (by omega) (by omega)).objs [_] ⟨rfl, trivial⟩ rfl (by decide) (by simp [go_sem, renOs]) (by simp [go_sem]) (by simp [go_sem]) (fun j hj => ⟨by simp, by simp, by simp [go_sem], by simp [go_sem]⟩)) rfl rfl (dstOk_of rfl) rfl rfl rfl ?_; rintro ⟨fs, p1⟩ ⟨a1, a2, a3, a4⟩; (try dsimp only at fs); (try dsimp only at p1); (try dsimp only at a1); (try dsimp only at a2); (try dsimp only at a3); (try dsimp only at a4); simp only [go_sem, Nat.reduceAdd, Nat.reduceMul, Int.reduceToNat, Nat.reduceLT, Nat.reduceLeDiff, Nat.le_refl, Nat.reduceEqDiff, ↓reduceIte, beq_self_eq_true, bne_self_eq_false, Int.reduceBEq, Int.reduceBNe, or_self, true_or, or_true, Option.map_some, Option.map_none]))
  have h : FinsF fs := ⟨a1, fun f hf => finG_of (a2 f hf)⟩
  have hf4 := fins_len h
  repeat' (first | (refine AW.sreg rfl fun K hK => ?_; simp only [go_sem, Nat.reduceAdd, Nat.reduceMul, Int.reduceToNat, Nat.reduceLT, Nat.reduceLeDiff, Nat.le_refl, Nat.reduceEqDiff, ↓reduceIte, beq_self_eq_true, bne_self_eq_false, Int.reduceBEq, Int.reduceBNe, or_self, true_or, or_true, Option.map_some, Option.map_none]) | (refine hK _ ?_; clear hK K) | (refine run_callI _ _ _ ((volumeI l hl p1 (by omega) (by omega) fs hf4).objs [_] ⟨rfl, trivial⟩ rfl (by decide) (by simp [go_sem, renOs]) (by simp [go_sem]) (by simp [go_sem]) (fun j hj => ⟨by simp, by simp, by simp [go_sem], by simp [go_sem]⟩)) rfl rfl (dstOk_of rfl) rfl rfl rfl ?_; rintro ⟨⟨g0, rt, cs⟩, p2⟩ ⟨b1, b2, b3⟩; (try dsimp only at g0); (try dsimp only at rt); (try dsimp only at cs); (try dsimp only at p2); (try dsimp only at b1); (try dsimp only at b2); (try dsimp only at b3); simp only [go_sem, Nat.reduceAdd, Nat.reduceMul, Int.reduceToNat, Nat.reduceLT, Nat.reduceLeDiff, Nat.le_refl, Nat.reduceEqDiff, ↓reduceIte, beq_self_eq_true, bne_self_eq_false, Int.reduceBEq, Int.reduceBNe, or_self, true_or, or_true, Option.map_some, Option.map_none]))
  by_cases h0 : volF fs (g0, rt, cs) = 0
  · have hix := indexI h a2 g0 rt cs b1 h0
    have hpg := pages_any h g0 rt cs b1
    rw [if_pos h0] at hpg
    have hg := volF_zero h0
    have hp4 : (psV cs).length ≤ 4 := ps_len h.1 hg.nd hg.inn
    have hL4 := lvs_len rt fs (psV cs) g0
    have hLm := lvs_map rt fs (psV cs) g0
    generalize lvs rt fs (psV cs) g0 = L at *
    repeat' (first | ((first | refine AW.sreg rfl fun K hK => ?_ | refine run_call _ _ _ ((hpg).pure rfl rfl _ _) rfl rfl (dstOk_of rfl) rfl rfl rfl ?_); simp only [go_sem, Nat.reduceAdd, Nat.reduceMul, Int.reduceToNat, Nat.reduceLT, Nat.reduceLeDiff, Nat.le_refl, Nat.reduceEqDiff, ↓reduceIte, beq_self_eq_true, bne_self_eq_false, Int.reduceBEq, Int.reduceBNe, or_self, true_or, or_true, Option.map_some, Option.map_none]) | (refine AW.seq_k fun K hK => ?_) | (refine AW.block ?_) | (refine AW.skip ?_; simp only [Then, InBlock]) | (refine AW.condF rfl (by first | rfl | (simp; omega) | (simp [*]; done) | fail) ?_) | (refine hK _ ?_; clear hK K) | (refine run_callI _ _ _ ((hix).pure rfl (fun _ => rfl) _ _) rfl rfl (dstOk_of rfl) rfl rfl rfl ?_; rintro gs hgs; (try dsimp only at gs); (try dsimp only at hgs); simp only [go_sem, Nat.reduceAdd, Nat.reduceMul, Int.reduceToNat, Nat.reduceLT, Nat.reduceLeDiff, Nat.le_refl, Nat.reduceEqDiff, ↓reduceIte, beq_self_eq_true, bne_self_eq_false, Int.reduceBEq, Int.reduceBNe, or_self, true_or, or_true, Option.map_some, Option.map_none]))
    have hnn : ∀ x ∈ L, x.1 ∈ fs.map (·.1) := fun x hx => hg.inn _ (by show x.1 ∈ psV cs; rw [← hLm]; exact List.mem_map_of_mem hx)
    have hcr3 : ∀ x ∈ L, (finAt fs x.1).2.2.2.length ≤ 3 := fun x hx => crs_len (finG_of (a2 _ (finAt_mem (hnn x hx)).1)).2.2.2
    have hmb : ∀ (l : List Lea), (∀ x ∈ l, (finAt fs x.1).2.2.2.length ≤ 3) → 0 ≤ manyL fs l ∧ manyL fs l ≤ 3 * l.length := by
      intro l
      induction l with
      | nil => intro _; simp [manyL]
      | cons x r ih =>
        intro hh
        have h1 := hh x (by simp)
        have h2 := ih fun y hy => hh y (by simp [hy])
        simp only [manyL, List.length_cons]
        omega
    have htot : totI gs = manyL fs L := by
      rw [totI_perm hgs, ixF_tot]
      simp [totI]
    have hmL := hmb L hcr3
    have hgl : gs.length ≤ 1000 ∧ ∀ g ∈ gs, g.2.length ≤ 1000 := by
      have hpos : ∀ g ∈ gs, g.2 ≠ [] := fun g hg2 => (ixF_ok snF fs L (gs := []) List.nodup_nil (by simp)).2 g (hgs.mem_iff.1 hg2)
      have key : ∀ (z : List Grp), (∀ g ∈ z, g.2 ≠ []) → (z.length : Int) ≤ totI z ∧ ∀ g ∈ z, (g.2.length : Int) ≤ totI z := by
        intro z
        induction z with
        | nil => intro _; simp [totI]
        | cons y r ih =>
          intro hz
          have h1 := ih fun g hg => hz g (by simp [hg])
          have h2 : 0 < y.2.length := List.length_pos_iff.2 (hz y (by simp))
          have h3 := totI_nn r
          refine ⟨by simp only [List.length_cons, totI]; omega, fun g hg => ?_⟩
          simp only [totI]
          rcases List.mem_cons.1 hg with rfl | hg
          · omega
          · have := h1.2 g hg
            omega
      obtain ⟨k1, k2⟩ := key gs hpos
      exact ⟨by omega, fun g hg => by have := k2 g hg; omega⟩
    refine AW.loopF (ι := Nat) [4, 6, 9, 55, 56] (fun p => [(10, I (manyL fs (L.take p))), (57, I p)]) (fun p => []) 200 (fun p => p ≤ L.length) (fun p => L.length - p) 0 (Nat.zero_le _) (Weak.auto hcx rfl rfl (Nat.le_of_ble_eq_true rfl) (by simp [go_sem, gL, kL, renOf, V.obj, lk, Nat.blt, Nat.ble, List.map_append, dv_push, List.take_zero, manyL, List.length_map]) (by simp [go_sem, gL, kL, renOf, V.obj, lk, Nat.blt, Nat.ble, List.map_append, dv_push, List.take_zero, manyL, List.length_map]) (by first | exact pk0 | exact pk1 ⟨_, rfl⟩ | exact pk2 ⟨_, rfl⟩ ⟨_, rfl⟩ | exact pk3 ⟨_, rfl⟩ ⟨_, rfl⟩ ⟨_, rfl⟩ | exact pk4 ⟨_, rfl⟩ ⟨_, rfl⟩ ⟨_, rfl⟩ ⟨_, rfl⟩) (by simp [go_sem, gL, kL, lk, renOf, V.obj, Nat.blt, Nat.ble, List.take_zero, manyL, List.length_map])) ?_; simp only [St.at_nil, St.at_cons, lk, Nat.reduceEqDiff, ↓reduceIte, Option.getD_some, Option.getD_none, List.cons_append, List.nil_append, List.append_nil]
    intro i h1
    by_cases hi : i < L.length
    · obtain ⟨x, hx, hxm, hxd⟩ := get_some hi
      have hget : (L.map leD)[i]? = some (leD x) := by simp [hx]
      have htk : L.take (i + 1) = L.take i ++ [x] := by rw [List.take_add_one, hx]; rfl
      obtain ⟨m, hm, hfin⟩ := finalAt_in (fs := fs) (by omega) (hnn x hxm)
      have hgetm : (fs.map fiD)[m]? = some (fiD (finAt fs x.1)) := by simp [hm]
      have hcr := (a2 _ (List.mem_of_getElem? hm)).2.2.2
      have hcl := hcr3 x hxm
      have hmi := hmb (L.take i) (fun y hy => hcr3 y (List.mem_of_mem_take hy))
      rw [List.length_take] at hmi
      have hmn : manyL fs (L.take (i + 1)) = manyL fs (L.take i) + ((finAt fs x.1).2.2.2.length : Int) := by
        rw [htk, manyL_app]; simp [manyL]
      have hhas := ixF_has snF fs L [] x hxm
      generalize finAt fs x.1 = f at *
      generalize manyL fs (L.take i) = mi at *
      repeat' (first | ((first | refine AW.sreg rfl fun K hK => ?_ | refine run_call _ _ _ ((hfin).pure rfl rfl _ _) rfl rfl (dstOk_of rfl) rfl rfl rfl ?_); simp only [go_sem, Nat.reduceAdd, Nat.reduceMul, Int.reduceToNat, Nat.reduceLT, Nat.reduceLeDiff, Nat.le_refl, Nat.reduceEqDiff, ↓reduceIte, beq_self_eq_true, bne_self_eq_false, Int.reduceBEq, Int.reduceBNe, or_self, true_or, or_true, Option.map_some, Option.map_none, List.length_map, hget, hgetm, Int.toNat_natCast]) | (refine AW.seq_k fun K hK => ?_) | (refine AW.block ?_) | (refine AW.skip ?_; simp only [Then, InBlock]) | (refine AW.condT rfl (by first | rfl | (simp; omega) | (simp [*]; done) | fail) ?_) | (refine hK _ ?_; clear hK K) | (with_reducible refine And.intro ?_ ?_; first | omega | assumption | (focus (decide)) | (focus (simp; done)) | (focus (simp; omega)) | (focus (constructor <;> omega)) | fail))
      refine AW.loopF (ι := Nat) [4, 6, 9, 12, 55, 56, 57, 68, 69] (fun p => [(10, I (mi + (p : Nat))), (70, I p)]) (fun p => [(12992, some (O.box 80 [S x.1, I x.2.1, I x.2.2]))]) 400 (fun p => p ≤ f.2.2.2.length) (fun p => f.2.2.2.length - p) 0 (Nat.zero_le _) (Weak.auto hcx rfl rfl (Nat.le_of_ble_eq_true rfl) (by simp [go_sem, gL, kL, renOf, V.obj, lk, Nat.blt, Nat.ble, List.map_append, dv_push, Int.add_zero]) (by simp [go_sem, gL, kL, renOf, V.obj, lk, Nat.blt, Nat.ble, List.map_append, dv_push, Int.add_zero]) (by first | exact pk0 | exact pk1 ⟨_, rfl⟩ | exact pk2 ⟨_, rfl⟩ ⟨_, rfl⟩ | exact pk3 ⟨_, rfl⟩ ⟨_, rfl⟩ ⟨_, rfl⟩ | exact pk4 ⟨_, rfl⟩ ⟨_, rfl⟩ ⟨_, rfl⟩ ⟨_, rfl⟩) (by simp [go_sem, gL, kL, lk, renOf, V.obj, Nat.blt, Nat.ble, Int.add_zero])) ?_; simp only [St.at_nil, St.at_cons, lk, Nat.reduceEqDiff, ↓reduceIte, Option.getD_some, Option.getD_none, List.cons_append, List.nil_append, List.append_nil]
      intro k k1
      by_cases hk : k < f.2.2.2.length
      · obtain ⟨c, hc, hcm, hcd⟩ := get_some hk
        have hgetc : (f.2.2.2.map crD)[k]? = some (crD c) := by simp [hc]
        have hsn := sortNameE c.2 (hcr.2.2 c hcm)
        have hany : gs.any (isE c.1 (snF c.2) x.2.1) = true := by
          obtain ⟨g, hg1, hg2, hg3⟩ := hhas c hcm
          rw [List.any_eq_true]
          refine ⟨g, hgs.mem_iff.2 hg1, ?_⟩
          unfold isE
          rw [hg2]
          simp only [beq_self_eq_true, Bool.true_and, List.any_eq_true]
          exact ⟨x.2.1, hg3, by simp⟩
        have hcf := containsFunc_L3 gs hgl.1 33 (.ptr [.str c.1, .str c.2] 0) (.ptr [.str (snF c.2)] 0) (.ptr [.str x.1, .int .i64 x.2.1, .int .i64 x.2.2] 0) (isE c.1 (snF c.2) x.2.1) (fun y hy => credits1_any y (hgl.2 y hy) _ _ _ _ _ _)
        rw [hany] at hcf
        repeat' (first | ((first | refine AW.sreg rfl fun K hK => ?_ | refine AW.reg rfl ?_ | refine run_call _ _ _ ((hsn).pure rfl rfl _ _) rfl rfl (dstOk_of rfl) rfl rfl rfl ?_ | refine run_call _ _ _ ((hcf).lend (by repeat' (first | exact frzL_nil | refine frzL_cons (by first | exact frz_d | exact frz_slr rfl rfl (by first | (simp; done) | (simp; omega) | (simp [*]; done) | fail) | rfl) ?_)) rfl rfl rfl) rfl rfl (dstOk_of rfl) rfl rfl rfl ?_); simp only [go_sem, Nat.reduceAdd, Nat.reduceMul, Int.reduceToNat, Nat.reduceLT, Nat.reduceLeDiff, Nat.le_refl, Nat.reduceEqDiff, ↓reduceIte, beq_self_eq_true, bne_self_eq_false, Int.reduceBEq, Int.reduceBNe, or_self, true_or, or_true, Option.map_some, Option.map_none, List.length_map, hgetc]) | (refine AW.seq_k fun K hK => ?_) | (refine AW.block ?_) | (refine AW.skip ?_; simp only [Then, InBlock]) | (refine AW.condT rfl (by first | rfl | (simp; omega) | (simp [*]; done) | fail) ?_) | (refine AW.condF rfl (by first | rfl | (simp; omega) | (simp [*]; done) | fail) ?_) | (refine hK _ ?_; clear hK K) | (with_reducible refine And.intro ?_ ?_; first | omega | assumption | (focus (decide)) | (focus (simp; done)) | (focus (simp; omega)) | (focus (constructor <;> omega)) | fail))
        all_goals first | exact ⟨k + 1, hk, by omega, (Weak.auto hcx rfl rfl (Nat.le_of_ble_eq_true rfl) (by simp [go_sem, gL, kL, renOf, V.obj, lk, Nat.blt, Nat.ble, List.map_append, dv_push, Int.add_assoc]) (by simp [go_sem, gL, kL, renOf, V.obj, lk, Nat.blt, Nat.ble, List.map_append, dv_push, Int.add_assoc]) (by first | exact pk0 | exact pk1 ⟨_, rfl⟩ | exact pk2 ⟨_, rfl⟩ ⟨_, rfl⟩ | exact pk3 ⟨_, rfl⟩ ⟨_, rfl⟩ ⟨_, rfl⟩ | exact pk4 ⟨_, rfl⟩ ⟨_, rfl⟩ ⟨_, rfl⟩ ⟨_, rfl⟩) (by simp [go_sem, gL, kL, lk, renOf, V.obj, Nat.blt, Nat.ble, Int.add_assoc]))⟩ | trace_state
      · obtain rfl : k = f.2.2.2.length := by omega
        repeat' (first | ((first | refine AW.sreg rfl fun K hK => ?_ | refine AW.reg rfl ?_); simp only [go_sem, Nat.reduceAdd, Nat.reduceMul, Int.reduceToNat, Nat.reduceLT, Nat.reduceLeDiff, Nat.le_refl, Nat.reduceEqDiff, ↓reduceIte, beq_self_eq_true, bne_self_eq_false, Int.reduceBEq, Int.reduceBNe, or_self, true_or, or_true, Option.map_some, Option.map_none, List.length_map]) | (refine AW.seq_k fun K hK => ?_) | (refine AW.exit ?_; simp only [go_sem, ↓reduceIte]) | (refine AW.condF rfl (by first | rfl | (simp; omega) | (simp [*]; done) | fail) ?_) | (refine hK _ ?_; clear hK K) | (clear hK K; refine hK _ ?_; clear hK K) | (with_reducible refine And.intro ?_ ?_; first | omega | assumption | (focus (decide)) | (focus (simp; done)) | (focus (simp; omega)) | (focus (constructor <;> omega)) | fail))
        exact ⟨i + 1, hi, by omega, (Weak.auto hcx rfl rfl (Nat.le_of_ble_eq_true rfl) (by simp [go_sem, gL, kL, renOf, V.obj, lk, Nat.blt, Nat.ble, List.map_append, dv_push, hmn]) (by simp [go_sem, gL, kL, renOf, V.obj, lk, Nat.blt, Nat.ble, List.map_append, dv_push, hmn]) (by first | exact pk0 | exact pk1 ⟨_, rfl⟩ | exact pk2 ⟨_, rfl⟩ ⟨_, rfl⟩ | exact pk3 ⟨_, rfl⟩ ⟨_, rfl⟩ ⟨_, rfl⟩ | exact pk4 ⟨_, rfl⟩ ⟨_, rfl⟩ ⟨_, rfl⟩ ⟨_, rfl⟩) (by simp [go_sem, gL, kL, lk, renOf, V.obj, Nat.blt, Nat.ble, hmn]))⟩
    · obtain rfl : i = L.length := by omega
      rw [List.take_length]
      repeat' (first | (refine AW.sreg rfl fun K hK => ?_; simp only [go_sem, Nat.reduceAdd, Nat.reduceMul, Int.reduceToNat, Nat.reduceLT, Nat.reduceLeDiff, Nat.le_refl, Nat.reduceEqDiff, ↓reduceIte, beq_self_eq_true, bne_self_eq_false, Int.reduceBEq, Int.reduceBNe, or_self, true_or, or_true, Option.map_some, Option.map_none, List.length_map]) | (refine AW.seq_k fun K hK => ?_) | (refine AW.block ?_) | (refine AW.exit ?_; simp only [go_sem, ↓reduceIte]) | (refine AW.condF rfl (by first | rfl | (simp; omega) | (simp [*]; done) | fail) ?_) | (refine hK _ ?_; clear hK K) | (clear hK K; refine hK _ ?_; clear hK K))
      refine AW.loopF (ι := Nat) [9, 93, 94] (fun p => [(10, I (manyL fs L - totI (gs.take p))), (95, I p)]) (fun p => []) 300 (fun p => p ≤ gs.length) (fun p => gs.length - p) 0 (Nat.zero_le _) (Weak.auto hcx rfl rfl (Nat.le_of_ble_eq_true rfl) (by simp [go_sem, gL, kL, renOf, V.obj, lk, Nat.blt, Nat.ble, List.map_append, dv_push, List.take_zero, totI, Int.sub_zero]) (by simp [go_sem, gL, kL, renOf, V.obj, lk, Nat.blt, Nat.ble, List.map_append, dv_push, List.take_zero, totI, Int.sub_zero]) (by first | exact pk0 | exact pk1 ⟨_, rfl⟩ | exact pk2 ⟨_, rfl⟩ ⟨_, rfl⟩ | exact pk3 ⟨_, rfl⟩ ⟨_, rfl⟩ ⟨_, rfl⟩ | exact pk4 ⟨_, rfl⟩ ⟨_, rfl⟩ ⟨_, rfl⟩ ⟨_, rfl⟩) (by simp [go_sem, gL, kL, lk, renOf, V.obj, Nat.blt, Nat.ble, List.take_zero, totI, Int.sub_zero])) ?_; simp only [St.at_nil, St.at_cons, lk, Nat.reduceEqDiff, ↓reduceIte, Option.getD_some, Option.getD_none, List.cons_append, List.nil_append, List.append_nil]
      intro j j1
      by_cases hj : j < gs.length
      · obtain ⟨y, hy, hym, hyd⟩ := get_some hj
        have hgety : (gs.map liD)[j]? = some (liD y) := by simp [hy]
        have htk : gs.take (j + 1) = gs.take j ++ [y] := by rw [List.take_add_one, hy]; rfl
        have hty : totI (gs.take (j + 1)) = totI (gs.take j) + y.2.length := by rw [htk, totI_app]; simp [totI]
        have hle := totI_take gs j
        have hle2 := totI_take gs (j + 1)
        have hnn2 := totI_nn (gs.take j)
        repeat' (first | ((first | refine AW.sreg rfl fun K hK => ?_ | refine AW.reg rfl ?_); simp only [go_sem, Nat.reduceAdd, Nat.reduceMul, Int.reduceToNat, Nat.reduceLT, Nat.reduceLeDiff, Nat.le_refl, Nat.reduceEqDiff, ↓reduceIte, beq_self_eq_true, bne_self_eq_false, Int.reduceBEq, Int.reduceBNe, or_self, true_or, or_true, Option.map_some, Option.map_none, List.length_map, hgety]) | (refine AW.seq_k fun K hK => ?_) | (refine AW.block ?_) | (refine AW.skip ?_; simp only [Then, InBlock]) | (refine AW.condT rfl (by first | rfl | (simp; omega) | (simp [*]; done) | fail) ?_) | (refine hK _ ?_; clear hK K) | (with_reducible refine And.intro ?_ ?_; first | omega | assumption | (focus (decide)) | (focus (simp; done)) | (focus (simp; omega)) | (focus (constructor <;> omega)) | fail))
        exact ⟨j + 1, hj, by omega, (Weak.auto hcx rfl rfl (Nat.le_of_ble_eq_true rfl) (by simp [go_sem, gL, kL, renOf, V.obj, lk, Nat.blt, Nat.ble, List.map_append, dv_push, hty, Int.sub_sub]) (by simp [go_sem, gL, kL, renOf, V.obj, lk, Nat.blt, Nat.ble, List.map_append, dv_push, hty, Int.sub_sub]) (by first | exact pk0 | exact pk1 ⟨_, rfl⟩ | exact pk2 ⟨_, rfl⟩ ⟨_, rfl⟩ | exact pk3 ⟨_, rfl⟩ ⟨_, rfl⟩ ⟨_, rfl⟩ | exact pk4 ⟨_, rfl⟩ ⟨_, rfl⟩ ⟨_, rfl⟩ ⟨_, rfl⟩) (by simp [go_sem, gL, kL, lk, renOf, V.obj, Nat.blt, Nat.ble, hty, Int.sub_sub]))⟩
      · obtain rfl : j = gs.length := by omega
        rw [List.take_length]
        have hz : manyL fs L - totI gs = 0 := by omega
        rw [hz]
        repeat' (first | ((first | refine AW.sreg rfl fun K hK => ?_ | refine run_call _ _ _ ((stands_ok).pure rfl rfl _ _) rfl rfl (dstOk_of rfl) rfl rfl rfl ?_); simp only [go_sem, Nat.reduceAdd, Nat.reduceMul, Int.reduceToNat, Nat.reduceLT, Nat.reduceLeDiff, Nat.le_refl, Nat.reduceEqDiff, ↓reduceIte, beq_self_eq_true, bne_self_eq_false, Int.reduceBEq, Int.reduceBNe, or_self, true_or, or_true, Option.map_some, Option.map_none, List.length_map]) | (refine AW.seq_k fun K hK => ?_) | (refine AW.exit ?_; simp only [go_sem, ↓reduceIte]) | (refine AW.condF rfl (by first | rfl | (simp; omega) | (simp [*]; done) | fail) ?_) | (refine hK _ ?_; clear hK K) | (clear hK K; refine hK _ ?_; clear hK K) | (refine AW.ret (Fin.data rfl (by first | (simp only [go_sem]; done) | (simp [go_sem, *]; done) | (simp [go_sem]; omega) | rfl) rfl)))
  · have hix := index_err h g0 rt cs b1 h0
    have hpg := pages_any h g0 rt cs b1
    have hcv := checkVolume_any h g0 rt cs b1
    rw [if_neg h0] at hpg
    generalize volF fs (g0, rt, cs) = e at *
    repeat' (first | ((first | refine AW.sreg rfl fun K hK => ?_ | refine run_call _ _ _ ((hix).pure rfl rfl _ _) rfl rfl (dstOk_of rfl) rfl rfl rfl ?_ | refine run_call _ _ _ ((hpg).pure rfl rfl _ _) rfl rfl (dstOk_of rfl) rfl rfl rfl ?_ | refine run_call _ _ _ ((hcv).pure rfl rfl _ _) rfl rfl (dstOk_of rfl) rfl rfl rfl ?_ | refine run_call _ _ _ ((stands_ok).pure rfl rfl _ _) rfl rfl (dstOk_of rfl) rfl rfl rfl ?_); simp only [go_sem, Nat.reduceAdd, Nat.reduceMul, Int.reduceToNat, Nat.reduceLT, Nat.reduceLeDiff, Nat.le_refl, Nat.reduceEqDiff, ↓reduceIte, beq_self_eq_true, bne_self_eq_false, Int.reduceBEq, Int.reduceBNe, or_self, true_or, or_true, Option.map_some, Option.map_none, h0]) | (refine AW.seq_k fun K hK => ?_) | (refine AW.condT rfl (by first | rfl | (simp; omega) | (simp [*]; done) | fail) ?_) | (refine hK _ ?_; clear hK K) | (refine AW.ret (Fin.data rfl (by first | (simp only [go_sem]; done) | (simp [go_sem, *]; done) | (simp [go_sem]; omega) | rfl) rfl)))
end Go.AX
