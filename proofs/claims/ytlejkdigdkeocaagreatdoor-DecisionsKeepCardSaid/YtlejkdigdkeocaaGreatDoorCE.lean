/- Decisions: from those of tracks to those of all papers. -/
import Derived.Test.YtlejkdigdkeocaaGreatDoorCD
set_option linter.unusedSimpArgs false
set_option linter.unusedVariables false
set_option linter.unnecessarySimpa false
set_option maxRecDepth 1000000
set_option maxHeartbeats 4000000
namespace Go.AX
open Go
theorem part_perm {α κ : Type} [DecidableEq κ] (key : α → κ) (ps : List α) : ∀ ks : List κ, ks.Nodup → (ks.flatMap fun k => ps.filter fun p => decide (key p = k)).Perm (ps.filter fun p => decide (key p ∈ ks))
  | [], _ => by simp
  | k :: ks, hn => by
    have hn := List.nodup_cons.1 hn
    have ih := part_perm key ps ks hn.2
    have h1 := List.filter_append_perm (fun p => decide (key p = k)) (ps.filter fun p => decide (key p ∈ k :: ks))
    rw [List.filter_filter, List.filter_filter] at h1
    have e1 : (ps.filter fun p => decide (key p = k) && decide (key p ∈ k :: ks)) = ps.filter fun p => decide (key p = k) := by
      refine List.filter_congr fun p _ => ?_
      by_cases h : key p = k <;> simp [h]
    have e2 : (ps.filter fun p => !decide (key p = k) && decide (key p ∈ k :: ks)) = ps.filter fun p => decide (key p ∈ ks) := by
      refine List.filter_congr fun p _ => ?_
      by_cases h : key p = k
      · have : key p ∉ ks := by rw [h]; exact hn.1
        simp [h, hn.1]
      · simp [h]
    rw [e1, e2] at h1
    rw [List.flatMap_cons]
    exact (List.Perm.append_left _ ih).trans h1
theorem part_all {α κ : Type} [DecidableEq κ] (key : α → κ) (ps : List α) {ks : List κ} (hn : ks.Nodup) (h : ∀ p ∈ ps, key p ∈ ks) : (ks.flatMap fun k => ps.filter fun p => decide (key p = k)).Perm ps := by
  have := part_perm key ps ks hn
  rwa [List.filter_eq_self.2 fun p hp => by simpa using h p hp] at this
theorem flat_perm {α β : Type} {f g : α → List β} : ∀ l : List α, (∀ x ∈ l, (f x).Perm (g x)) → (l.flatMap f).Perm (l.flatMap g)
  | [], _ => .refl _
  | x :: r, h => by
    rw [List.flatMap_cons, List.flatMap_cons]
    exact (h x (by simp)).append (flat_perm r fun y hy => h y (by simp [hy]))
theorem TrOk.ids {ps : List Pa} {ms : List Mk} {fl a b : Int} {os : List Tk} (h : TrOk ps ms fl a b os) : ((os.flatMap (·.2)).map (·.1)).Perm (ps.map (·.1)) := by
  have h1 : ((os.flatMap (·.2)).map (·.1)).Perm (os.flatMap fun o => (ps.filter fun p => decide (p.2.1 = o.1)).map (·.1)) := by
    rw [List.map_flatMap]
    exact flat_perm os h.row
  refine h1.trans ?_
  have h2 := (part_all (fun p : Pa => p.2.1) ps h.nd fun p hp => (h.mem p.2.1).2 ⟨p, hp, rfl⟩).map (·.1)
  rw [List.flatMap_map, List.map_flatMap] at h2
  exact h2
theorem paF_rise {y : Str} {p : Pa} (h : paF (some y) p = 0) : ltS y p.1 = true := by
  obtain ⟨pid, tr, ti, au, tp⟩ := p
  rw [paF_some] at h
  by_cases h1 : (keyB pid && keyB tr) = false
  · rw [if_pos h1] at h; cases h
  rw [if_neg h1] at h
  by_cases h2 : leS pid y = true
  · rw [if_pos h2] at h; cases h
  exact ltS_of_not (by simpa [leS] using h2)
theorem pas_rise : ∀ (r bs : List Pa), goF pasF bs r = 0 → (bs.map (·.1)).Pairwise (fun a b => ltS a b = true) → ((bs ++ r).map (·.1)).Pairwise (fun a b => ltS a b = true)
  | [], bs, _, hb => by simpa using hb
  | x :: r, bs, h, hb => by
    rw [goF] at h
    by_cases h0 : pasF bs x = 0
    · rw [if_neg (by simpa using h0)] at h
      have hb2 : ((bs ++ [x]).map (·.1)).Pairwise (fun a b => ltS a b = true) := by
        rw [List.map_append, List.pairwise_append]
        refine ⟨hb, by simp, fun a ha b hbm => ?_⟩
        obtain rfl : b = x.1 := by simpa using hbm
        cases hl : bs.getLast? with
        | none =>
          rw [List.getLast?_eq_none_iff] at hl
          subst hl
          simp at ha
        | some y =>
          have hy : ltS y.1 x.1 = true := by
            unfold pasF at h0
            rw [hl] at h0
            exact paF_rise h0
          obtain ⟨zs, rfl⟩ := List.getLast?_eq_some_iff.1 hl
          rw [List.map_append, List.mem_append] at ha
          rcases ha with ha | ha
          · rw [List.map_append, List.pairwise_append] at hb
            exact ltS_trans (hb.2.2 a ha y.1 (by simp)) hy
          · obtain rfl : a = y.1 := by simpa using ha
            exact hy
      have := pas_rise r (bs ++ [x]) h hb2
      rwa [List.append_assoc] at this
    · rw [if_pos h0] at h
      exact absurd h h0
theorem riseS_nd {l : List Str} (h : l.Pairwise fun a b => ltS a b = true) : l.Nodup := h.imp fun h => ltS_ne h
theorem nodup_idx {α : Type} {l : List α} (h : l.Nodup) {i j : Nat} {x : α} (hi : l[i]? = some x) (hj : l[j]? = some x) : i = j := by
  have h1 := get_lt hi
  have h2 := get_lt hj
  rw [List.getElem?_eq_getElem h1] at hi
  rw [List.getElem?_eq_getElem h2] at hj
  exact (List.getElem_inj h).1 ((Option.some.inj hi).trans (Option.some.inj hj).symm)
/-- Decisions that are sorted by their papers. -/
theorem TrOk.all {ps : List Pa} {ms : List Mk} {fl a b : Int} {os : List Tk} (h : TrOk ps ms fl a b os) (h0 : goF pasF [] ps = 0) {ds : List De} (hp : ds.Perm (os.flatMap (·.2))) (hs : ds.Pairwise fun x y => Lib.compareBytes y.1 x.1 < 0 → False) (hcmp : ∀ x y : Str, Lib.compareBytes x y < 0 ↔ ltS x y = true) : DcR ps ms fl (moF a b) ds := by
  have hr := pas_rise ps [] h0 (by simp)
  rw [List.nil_append] at hr
  have hnd := riseS_nd hr
  have hpi : (ds.map (·.1)).Perm (ps.map (·.1)) := (hp.map _).trans h.ids
  have hdn : (ds.map (·.1)).Nodup := hpi.nodup_iff.2 hnd
  have hdr : (ds.map (·.1)).Pairwise fun a b => ltS a b = true := by
    rw [List.pairwise_map]
    have h2 : ds.Pairwise fun x y => x.1 ≠ y.1 := by
      rw [List.Nodup, List.pairwise_map] at hdn
      exact hdn
    refine (hs.and h2).imp fun {x y} ⟨e1, e2⟩ => ?_
    have e3 : ltS y.1 x.1 = false := by
      cases e : ltS y.1 x.1 with
      | false => rfl
      | true => exact absurd ((hcmp _ _).2 e) e1
    exact ltS_total e3 (fun e => e2 e.symm)
  have hids : ds.map (·.1) = ps.map (·.1) := rise_ext ltS_irrefl (fun h1 h2 => ltS_trans h1 h2) hdr hr fun x => hpi.mem_iff
  have key : ∀ (i : Nat) (x : De) (p : Pa), ds[i]? = some x → ps[i]? = some p → ∃ o ∈ os, o.1 = p.2.1 ∧ ∃ k : Nat, o.2[k]? = some x := by
    intro i x p hx hpp
    have hxm := hp.mem_iff.1 (List.mem_of_getElem? hx)
    obtain ⟨o, ho, hxo⟩ := List.mem_flatMap.1 hxm
    obtain ⟨k, hk⟩ := List.mem_iff_getElem?.1 hxo
    refine ⟨o, ho, ?_, k, hk⟩
    have h1 : x.1 ∈ (ps.filter fun p => decide (p.2.1 = o.1)).map (·.1) := (h.row o ho).mem_iff.1 (List.mem_map_of_mem hxo)
    obtain ⟨p', hp', he⟩ := List.mem_map.1 h1
    have hp2 := List.mem_filter.1 hp'
    obtain ⟨i2, hi2⟩ := List.mem_iff_getElem?.1 hp2.1
    have e1 : (ps.map (·.1))[i2]? = some x.1 := by rw [List.getElem?_map, hi2, Option.map_some, he]
    have e2 : (ps.map (·.1))[i]? = some x.1 := by rw [← hids, List.getElem?_map, hx]; rfl
    have e3 := nodup_idx hnd e1 e2
    subst e3
    rw [hi2] at hpp
    obtain rfl := Option.some.inj hpp
    exact (of_decide_eq_true hp2.2).symm
  have fact : ∀ (i : Nat) (x : De) (p : Pa), ds[i]? = some x → ps[i]? = some p → 1 ≤ x.2.2 ∧ x.2.1 = yesB ms fl (moF a b p.2.1) x.1 x.2.2 := by
    intro i x p hx hpp
    obtain ⟨o, ho, e, k, hk⟩ := key i x p hx hpp
    obtain ⟨f1, f2⟩ := h.rk o ho k x hk
    rw [e] at f2
    exact ⟨by omega, by rw [f2, f1]⟩
  refine ⟨hids, fun i x p hx hpp hy => ?_, fun i x p hx hpp c1 c2 c3 => ?_, fun x hx => ?_, fun i k x y p q hx hy hpp hqq ht hrk => ?_⟩
  · have := (fact i x p hx hpp).2
    rw [hy] at this
    unfold yesB at this
    have this := this.symm
    simp only [Bool.and_eq_true, decide_eq_true_eq] at this
    exact ⟨this.1, this.2.1, this.2.2⟩
  · rw [(fact i x p hx hpp).2]
    unfold yesB
    simp only [Bool.and_eq_true, decide_eq_true_eq]
    exact ⟨c1, c2, c3⟩
  · obtain ⟨i, hi⟩ := List.mem_iff_getElem?.1 hx
    have hl : ds.length = ps.length := by simpa using congrArg List.length hids
    obtain ⟨p, hpp, -, -⟩ := get_some (l := ps) (i := i) (by have := get_lt hi; omega)
    exact (fact i x p hi hpp).1
  · obtain ⟨o, ho, e, k1, hk1⟩ := key i x p hx hpp
    obtain ⟨o2, ho2, e2, k2, hk2⟩ := key k y q hy hqq
    obtain ⟨j1, hj1⟩ := List.mem_iff_getElem?.1 ho
    obtain ⟨j2, hj2⟩ := List.mem_iff_getElem?.1 ho2
    have hoo : j1 = j2 := nodup_idx h.nd (x := o.1) (by rw [List.getElem?_map, hj1]; rfl) (by rw [List.getElem?_map, hj2, Option.map_some, e2, ← ht, ← e])
    subst hoo
    rw [hj1] at hj2
    obtain rfl := Option.some.inj hj2
    have f1 := (h.rk o ho k1 x hk1).1
    have f2 := (h.rk o ho k2 y hk2).1
    obtain rfl : k1 = k2 := by omega
    rw [hk1] at hk2
    obtain rfl := Option.some.inj hk2
    have e1 : (ds.map (·.1))[i]? = some x.1 := by rw [List.getElem?_map, hx]; rfl
    have e3 : (ds.map (·.1))[k]? = some x.1 := by rw [List.getElem?_map, hy]; rfl
    exact nodup_idx hdn e1 e3
end Go.AX

namespace Go.AX
open Go Go.Proofs Go.RowKit
theorem insertionSort_De (lt : De → De → Bool) (cv : De → De → Int) (hlt : ∀ x y, lt x y = decide (cv x y < 0)) (c : Nat) (hc : ∀ x y, Does Tryz.prog c [.d (deD x), .d (deD y)] [] (I (cv x y)) []) (xs : List De) (hl : xs.length ≤ 1000) :
    Does Tryz.prog 225 [.slr 0 0 xs.length, I 0, I xs.length, .fn c []] [.vec 90 3 (dv (xs.map deD))] (.tup []) [.vec 90 3 (dv ((isort lt xs).map deD))] := by
  refine Does.of_AW (n := 53) Tryz.func225 rfl rfl rfl fun cx hcx => ?_
  generalize hR : isort lt xs = R
  repeat' (first | (refine AW.sreg rfl fun K hK => ?_; simp only [go_sem, ↓reduceIte, List.length_map]) | (refine AW.block ?_) | (refine hK _ ?_; clear hK K) | (with_reducible refine andI ?_))
  refine AW.loopF (ι := Nat × List De × List De) [0, 1, 2, 3] (fun p => [(8, I p.1)]) (fun p => [(0, some (O.vec 90 3 (dv ((p.2.1 ++ p.2.2).map deD))))]) 1 (fun p => 1 ≤ p.1 ∧ p.2.1.length + p.2.2.length = xs.length ∧ (p.2.1.length = p.1 ∨ xs.length = 0) ∧ isGo lt p.2.1 p.2.2 = R) (fun p => xs.length - p.1) (1, xs.take 1, xs.drop 1) ⟨by simp, by simp only [List.length_take, List.length_drop]; omega, by simp only [List.length_take]; omega, hR⟩ (Weak.aC hcx (by refine ⟨?_, ?_, ?_⟩ <;> simp [go_sem, gL, kL, renOf, V.obj, Nat.blt, Nat.ble, List.map_append, dv_push, take1_tail])) ?_; simp only [St.at_nil, St.at_cons, lk, Nat.reduceEqDiff, ↓reduceIte, Option.getD_some, Option.getD_none, List.cons_append, List.nil_append, List.append_nil]
  rintro ⟨i, d, r⟩ ⟨h1, h2, h3, h4⟩
  simp only at h1 h2 h3 h4 ⊢
  by_cases hi : i < xs.length
  · obtain ⟨x, r, rfl⟩ : ∃ x r', r = x :: r' := by
      cases r with
      | nil => simp at h2; omega
      | cons x r' => exact ⟨x, r', rfl⟩
    obtain rfl : i = d.length := by omega
    simp only [isGo] at h4
    repeat' (first | (refine AW.sreg rfl fun K hK => ?_; simp only [go_sem, ↓reduceIte, List.length_map]) | (refine AW.seq_k fun K hK => ?_) | (refine AW.block ?_) | (refine AW.skip ?_; simp only [Then, InBlock]) | (refine AW.cT ?_) | (refine hK _ ?_; clear hK K))
    generalize hR2 : insP lt d.reverse x [] = R2 at h4
    refine AW.loopF (ι := List De × List De) [0, 1, 2, 3, 8] (fun p => [(9, I p.1.length)]) (fun p => [(0, some (O.vec 90 3 (dv ((p.1.reverse ++ x :: (p.2 ++ r)).map deD))))]) 1 (fun p => p.1.length + p.2.length = d.length ∧ insP lt p.1 x p.2 = R2) (fun p => p.1.length) (d.reverse, []) ⟨by simp, hR2⟩ (Weak.aC hcx (by refine ⟨?_, ?_, ?_⟩ <;> simp [go_sem, gL, kL, renOf, V.obj, Nat.blt, Nat.ble, List.map_append, dv_push])) ?_; simp only [St.at_nil, St.at_cons, lk, Nat.reduceEqDiff, ↓reduceIte, Option.getD_some, Option.getD_none, List.cons_append, List.nil_append, List.append_nil]
    rintro ⟨pr, q⟩ ⟨g1, g2⟩
    simp only at g1 g2 ⊢
    rcases pr with _ | ⟨y, pr⟩
    · simp only [insP] at g2
      subst g2
      simp only [List.length_cons, List.length_nil] at g1 h2
      repeat' (first | ((first | refine AW.sregD hmix rfl fun K hK => ?_ | refine AW.reg rfl ?_); simp only [go_sem, ↓reduceIte, List.length_map]) | (refine AW.seq_k fun K hK => ?_) | (refine AW.exit ?_; simp only [go_sem, ↓reduceIte]) | (refine AW.cF ?_) | (refine hK _ ?_; clear hK K) | (clear hK K; refine hK _ ?_; clear hK K) | (refine stepBT_split (fun h => ?_) (fun h => ?_) <;> (have hb0 := h) <;> (try simp only [Bool.not_eq_true', Bool.not_eq_false'] at hb0) <;> (try simp only [decide_eq_true_eq, decide_eq_false_iff_not, Bool.not_eq_true', Bool.not_eq_false', Bool.not_eq_eq_eq_not, Bool.not_true, Bool.not_false, beq_iff_eq, bne_iff_ne, beq_eq_false_iff_ne, ne_eq, Bool.and_eq_true, Bool.or_eq_true, Bool.or_eq_false_iff] at h) <;> simp only [go_sem, ↓reduceIte, hb0, h, decide_true, decide_false, List.length_map] <;> (try clear hb0)) | (with_reducible refine And.intro (?_ : regOk _ _ = true) ?_; kernel_rfl) | (with_reducible refine andI ?_) | (exfalso; omega))
      exact ⟨(d.length + 1, x :: q, r), ⟨by simp only; omega, by simp only [List.length_cons]; omega, .inl (by simp only [List.length_cons]; omega), h4⟩, by simp only; omega, (Weak.aC hcx (by refine ⟨?_, ?_, ?_⟩ <;> simp [go_sem, gL, kL, renOf, V.obj, Nat.blt, Nat.ble, List.map_append, dv_push]))⟩
    · have e1 : (dv ((List.reverse (y :: pr) ++ x :: (q ++ r)).map deD))[0 + (pr.length + 1)]? = some (.d (deD x)) := by
        have := get_mid (List.reverse (y :: pr)) x (q ++ r)
        simp only [List.length_reverse, List.length_cons] at this
        simp only [dv, Nat.zero_add, List.getElem?_map, this, Option.map_some]
      have e2 : (dv ((List.reverse (y :: pr) ++ x :: (q ++ r)).map deD))[0 + pr.length]? = some (.d (deD y)) := by
        have := get_mid (List.reverse pr) y (x :: (q ++ r))
        simp only [List.length_reverse] at this
        simp only [dv, Nat.zero_add, List.getElem?_map, List.reverse_cons, List.append_assoc, List.cons_append, List.nil_append, this, Option.map_some]
      have e3 : (((pr.length + 1 : Nat) : Int) - 1).toNat = pr.length := by omega
      simp only [List.length_cons] at g1 h2
      simp only [insP, hlt] at g2
      have e4 : (((dv ((List.reverse (y :: pr) ++ x :: (q ++ r)).map deD)).set (0 + (pr.length + 1)) (.d (deD y))).set (0 + pr.length) (.d (deD x))) = dv ((pr.reverse ++ x :: ((y :: q) ++ r)).map deD) := by
        have := swap_mid (dv (pr.reverse.map deD)) (V.d (deD x)) (V.d (deD y)) (dv ((q ++ r).map deD))
        simp only [dv, List.length_map, List.length_reverse, List.map_append, List.map_cons, List.reverse_cons, List.append_assoc, List.cons_append, List.nil_append, List.map_nil] at this ⊢
        exact this
      have e5 : ((dv ((List.reverse (y :: pr) ++ x :: (q ++ r)).map deD)).set (0 + (pr.length + 1)) (.d (deD y)))[0 + pr.length]? = some (.d (deD y)) := by
        rw [List.getElem?_set_ne (by omega)]
        exact e2
      repeat' (first | ((first | refine AW.sregD hmix rfl fun K hK => ?_ | refine AW.reg rfl ?_ | refine AW.regD hmix rfl ?_ | refine runT_call _ _ [] (fun hv _ => (hc x y).pure rfl rfl hv _) rfl rfl (dstOk_of rfl) rfl rfl ?_); simp only [go_sem, ↓reduceIte, List.length_map, e1, e2, e3, e4, e5, List.length_cons, or_self, true_or, or_true]) | (refine AW.seq_k fun K hK => ?_) | (refine AW.block ?_) | (refine AW.skip ?_; simp only [Then, InBlock]) | (refine AW.exit ?_; simp only [go_sem, ↓reduceIte]) | (refine AW.cT ?_) | (refine AW.cond rfl (fun h => ?_) (fun h => ?_) <;> (try simp only [decide_eq_true_eq, decide_eq_false_iff_not, Bool.not_eq_true', Bool.not_eq_false', Bool.not_eq_eq_eq_not, Bool.not_true, Bool.not_false, beq_iff_eq, bne_iff_ne, beq_eq_false_iff_ne, ne_eq, Bool.and_eq_true, Bool.or_eq_true, Bool.or_eq_false_iff] at h)) | (refine hK _ ?_; clear hK K) | (clear hK K; refine hK _ ?_; clear hK K) | (refine stepBT_split (fun h => ?_) (fun h => ?_) <;> (have hb0 := h) <;> (try simp only [Bool.not_eq_true', Bool.not_eq_false'] at hb0) <;> (try simp only [decide_eq_true_eq, decide_eq_false_iff_not, Bool.not_eq_true', Bool.not_eq_false', Bool.not_eq_eq_eq_not, Bool.not_true, Bool.not_false, beq_iff_eq, bne_iff_ne, beq_eq_false_iff_ne, ne_eq, Bool.and_eq_true, Bool.or_eq_true, Bool.or_eq_false_iff] at h) <;> simp only [go_sem, ↓reduceIte, hb0, h, decide_true, decide_false, List.length_map, e1, e2, e3, e4, e5, List.length_cons, or_self, true_or, or_true] <;> (try clear hb0)) | (with_reducible refine And.intro (?_ : regOk _ _ = true) ?_; kernel_rfl) | (with_reducible refine andI ?_) | (exfalso; omega))
      · rw [if_pos (by simpa using h)] at g2
        exact ⟨(pr, y :: q), ⟨by simp only [List.length_cons]; omega, g2⟩, by simp only [List.length_cons]; omega, (Weak.aC hcx (by refine ⟨?_, ?_, ?_⟩ <;> simp [go_sem, gL, kL, renOf, V.obj, Nat.blt, Nat.ble, List.map_append, dv_push]))⟩
      · rw [if_neg (by simpa using h)] at g2
        subst g2
        exact ⟨(d.length + 1, (y :: pr).reverse ++ x :: q, r), ⟨by simp only; omega, by simp only [List.length_append, List.length_reverse, List.length_cons]; omega, .inl (by simp only [List.length_append, List.length_reverse, List.length_cons]; omega), h4⟩, by simp only; omega, (Weak.aC hcx (by refine ⟨?_, ?_, ?_⟩ <;> simp [go_sem, gL, kL, renOf, V.obj, Nat.blt, Nat.ble, List.map_append, dv_push]))⟩
  · have hr : r = [] := by
      cases r with
      | nil => rfl
      | cons x r => simp only [List.length_cons] at h2; omega
    subst hr
    simp only [isGo] at h4
    subst h4
    repeat' (first | (refine AW.sreg rfl fun K hK => ?_; simp only [go_sem, ↓reduceIte, List.length_map, List.append_nil]) | (refine AW.seq_k fun K hK => ?_) | (refine AW.exit ?_; simp only [go_sem, ↓reduceIte]) | (refine AW.cF ?_) | (refine hK _ ?_; clear hK K))
    exact Fin.one rfl rfl ⟨_, rfl, by simp [go_sem]⟩ rfl (by simp [go_sem]) rfl
theorem pdqsort_De (lt : De → De → Bool) (cv : De → De → Int) (hlt : ∀ x y, lt x y = decide (cv x y < 0)) (c : Nat) (hc : ∀ x y, Does Tryz.prog c [.d (deD x), .d (deD y)] [] (I (cv x y)) []) (xs : List De) (hl : xs.length ≤ 12) (m : Int) :
    Does Tryz.prog 161 [.slr 0 0 xs.length, I 0, I xs.length, I m, .fn c []] [.vec 90 3 (dv (xs.map deD))] (.tup []) [.vec 90 3 (dv ((isort lt xs).map deD))] := by
  refine Does.of_AW (n := 148) Tryz.func161 rfl rfl rfl fun cx hcx => ?_
  repeat' (first | (refine AW.sreg rfl fun K hK => ?_; simp only [go_sem, ↓reduceIte, List.length_map]) | (refine AW.block ?_) | (refine hK _ ?_; clear hK K))
  refine AW.loopF (ι := Unit) [0, 4] (fun p => [(1, I 0), (2, I xs.length), (3, I m), (10, B true), (11, B true)]) (fun p => [(0, some (O.vec 90 3 (dv (xs.map deD))))]) 1 (fun p => True) (fun p => 0) () trivial (Weak.aC hcx (by refine ⟨?_, ?_, ?_⟩ <;> simp [go_sem, gL, kL, renOf, V.obj, Nat.blt, Nat.ble, List.map_append, dv_push])) ?_; simp only [St.at_nil, St.at_cons, lk, Nat.reduceEqDiff, ↓reduceIte, Option.getD_some, Option.getD_none, List.cons_append, List.nil_append, List.append_nil]
  rintro ⟨⟩ _
  repeat' (first | ((first | refine AW.sreg rfl fun K hK => ?_ | refine run_call _ _ _ ((insertionSort_De lt cv hlt c hc xs (by omega)).objA [0]) rfl rfl (dstOk_of rfl) rfl rfl rfl ?_); simp only [go_sem, ↓reduceIte, List.length_map, Int.sub_zero]) | (refine AW.seq_k fun K hK => ?_) | (refine AW.block ?_) | (refine AW.cT ?_) | (refine hK _ ?_; clear hK K) | (with_reducible refine andI ?_))
  exact AW.ret (Fin.one rfl rfl ⟨_, rfl, by simp [go_sem]⟩ rfl (by simp [go_sem]) rfl)
theorem sortFunc_De (lt : De → De → Bool) (cv : De → De → Int) (hlt : ∀ x y, lt x y = decide (cv x y < 0)) (c : Nat) (hc : ∀ x y, Does Tryz.prog c [.d (deD x), .d (deD y)] [] (I (cv x y)) []) (xs : List De) (hl : xs.length ≤ 12) :
    Does Tryz.prog 93 [.slr 0 0 xs.length, .fn c []] [.vec 90 3 (dv (xs.map deD))] (.tup []) [.vec 90 3 (dv ((isort lt xs).map deD))] := by
  refine Does.of_AW (n := 14) Tryz.func93 rfl rfl rfl fun cx hcx => ?_
  have hw := wrap_small xs.length (by omega)
  repeat' (first | ((first | refine AW.sreg rfl fun K hK => ?_ | refine AW.reg rfl ?_ | refine run_call _ _ _ ((len_ok xs.length hl).pure rfl rfl _ _) rfl rfl (dstOk_of rfl) rfl rfl rfl ?_ | refine run_call _ _ _ ((pdqsort_De lt cv hlt c hc xs hl _).objA [0]) rfl rfl (dstOk_of rfl) rfl rfl rfl ?_); simp only [go_sem, ↓reduceIte, List.length_map, hw]) | (refine hK _ ?_; clear hK K))
  exact Fin.one rfl rfl ⟨_, rfl, by simp [go_sem]⟩ rfl (by simp [go_sem]) rfl

theorem decide1_any (x y : De) : Does Tryz.prog 94 [.d (deD x), .d (deD y)] [] (I (Lib.compareBytes x.1 y.1)) [] := by
  refine Does.of_AW (n := 10) Tryz.func94 rfl rfl rfl fun cx hcx => ?_
  repeat' (first | ((first | refine AW.sreg rfl fun K hK => ?_ | refine run_call _ _ _ ((compareStr_any x.1 y.1).pure rfl rfl _ _) rfl rfl (dstOk_of rfl) rfl rfl rfl ?_); simp only [go_sem, ↓reduceIte]) | (refine hK _ ?_; clear hK K) | (refine AW.ret (Fin.data rfl (by first | (simp only [go_sem]; done) | (simp [go_sem, *]; done) | (simp [go_sem]; omega) | rfl) rfl)))
theorem tracks_bad {ps : List Pa} {ms : List Mk} (hpl : ps.length ≤ 6) (hp : ∀ p ∈ ps, PaR p ∧ p.2.2.2.2 ∈ ToL) (hs : MsS ms) (hbad : ¬ (goF pasF [] ps = 0 ∧ msF ms = 0)) {by_ : List Int} (hby : by_ ∈ BY4) {fl : Int} (hfl : fl ∈ FL3) {a b : Int} (ha : a ∈ ([0, 1, 2] : List Int)) (hb : b ∈ ([0, 1, 2, 3, 4] : List Int)) :
    DoesI Tryz.prog 92 [.d (rlD by_ fl), .d (qtD a b), .d (.sl (ps.map paD)), .d (.sl (ms.map mkD))] [] (fun e : Int => e ≠ 0) (fun e => .tup [.d (.map [] []), I e]) (fun _ => []) := by
  have c1 := rules_ok by_ hby fl hfl
  have c2 := quotas_ok a ha b hb
  have c3 := checkPapers_any ps (by omega) hp
  have hl := hs.1
  have c4 := checkMarks_any ms (by omega) hs.2
  refine DoesI.of_AW (n := 139) Tryz.func92 rfl rfl rfl fun cx hcx => ?_
  generalize goF pasF [] ps = e1 at *
  generalize msF ms = e2 at *
  by_cases z1 : e1 = 0
  · subst z1
    have z2 : ¬ e2 = 0 := fun e => hbad ⟨rfl, e⟩
    have z2b : (e2 != 0) = true := by simpa using z2
    repeat' (first | ((first | refine AW.sreg rfl fun K hK => ?_ | refine run_call _ _ _ ((c1).pure rfl rfl _ _) rfl rfl (dstOk_of rfl) rfl rfl rfl ?_ | refine run_call _ _ _ ((c2).pure rfl rfl _ _) rfl rfl (dstOk_of rfl) rfl rfl rfl ?_ | refine run_call _ _ _ ((c3).pure rfl rfl _ _) rfl rfl (dstOk_of rfl) rfl rfl rfl ?_ | refine run_call _ _ _ ((c4).pure rfl rfl _ _) rfl rfl (dstOk_of rfl) rfl rfl rfl ?_); simp only [go_sem, ↓reduceIte, z2b]) | (refine AW.seq_k fun K hK => ?_) | (refine AW.skip ?_; simp only [Then, InBlock]) | (refine AW.cT ?_) | (refine AW.cF ?_) | (refine hK _ ?_; clear hK K))
    exact AW.ret ⟨e2, z2, Fin.data rfl (by simp [resV, go_sem]) rfl⟩
  · have z1b : (e1 != 0) = true := by simpa using z1
    repeat' (first | ((first | refine AW.sreg rfl fun K hK => ?_ | refine run_call _ _ _ ((c1).pure rfl rfl _ _) rfl rfl (dstOk_of rfl) rfl rfl rfl ?_ | refine run_call _ _ _ ((c2).pure rfl rfl _ _) rfl rfl (dstOk_of rfl) rfl rfl rfl ?_ | refine run_call _ _ _ ((c3).pure rfl rfl _ _) rfl rfl (dstOk_of rfl) rfl rfl rfl ?_); simp only [go_sem, ↓reduceIte, z1b]) | (refine AW.seq_k fun K hK => ?_) | (refine AW.skip ?_; simp only [Then, InBlock]) | (refine AW.cT ?_) | (refine AW.cF ?_) | (refine hK _ ?_; clear hK K))
    exact AW.ret ⟨e1, z1, Fin.data rfl (by simp [resV, go_sem]) rfl⟩
theorem decide_bad {ps : List Pa} {ms : List Mk} (hpl : ps.length ≤ 6) (hp : ∀ p ∈ ps, PaR p ∧ p.2.2.2.2 ∈ ToL) (hs : MsS ms) (hbad : ¬ (goF pasF [] ps = 0 ∧ msF ms = 0)) {by_ : List Int} (hby : by_ ∈ BY4) {fl : Int} (hfl : fl ∈ FL3) {a b : Int} (ha : a ∈ ([0, 1, 2] : List Int)) (hb : b ∈ ([0, 1, 2, 3, 4] : List Int)) :
    DoesI Tryz.prog 33 [.d (rlD by_ fl), .d (qtD a b), .d (.sl (ps.map paD)), .d (.sl (ms.map mkD))] [] (fun e : Int => e ≠ 0) (fun e => .tup [.nils, I e]) (fun _ => []) := by
  have h := tracks_bad hpl hp hs hbad hby hfl ha hb
  refine DoesI.of_AW (n := 38) Tryz.func33 rfl rfl rfl fun cx hcx => ?_
  repeat' (first | (refine AW.sreg rfl fun K hK => ?_; simp only [go_sem, ↓reduceIte]) | (refine AW.seq_k fun K hK => ?_) | (refine AW.cT ?_) | (refine hK _ ?_; clear hK K) | (refine run_callI _ _ _ ((h).pure rfl (fun _ => rfl) _ _) rfl rfl (dstOk_of rfl) rfl rfl rfl ?_; rintro e he; (try dsimp only at e); (try dsimp only at he); simp only [go_sem, ↓reduceIte]))
  have heb : (e != 0) = true := by simpa using he
  repeat' (first | fail)
  exact AW.ret ⟨e, he, Fin.data rfl (by simp [resV, go_sem]) rfl⟩
theorem nodup_subL {α : Type} [DecidableEq α] : ∀ (l r : List α), l.Nodup → (∀ x ∈ l, x ∈ r) → l.length ≤ r.length
  | [], _, _, _ => Nat.zero_le _
  | x :: l, r, hn, h => by
    have hn' := List.nodup_cons.1 hn
    have hx := h x (by simp)
    have ih := nodup_subL l (r.erase x) hn'.2 fun y hy => by
      have hne : y ≠ x := by rintro rfl; exact hn'.1 hy
      exact (List.mem_erase_of_ne hne).2 (h y (List.mem_cons_of_mem _ hy))
    rw [List.length_erase_of_mem hx] at ih
    have := List.length_pos_of_mem hx
    simp only [List.length_cons]
    omega
theorem decideI {ps : List Pa} {ms : List Mk} (hpl : ps.length ≤ 6) (hp : ∀ p ∈ ps, PaR p ∧ p.2.2.2.2 ∈ ToL) (hs : MsS ms) (h1 : goF pasF [] ps = 0) (h2 : msF ms = 0) {by_ : List Int} (hby : by_ ∈ BY4) {fl : Int} (hfl : fl ∈ FL3) {a b : Int} (ha : a ∈ ([0, 1, 2] : List Int)) (hb : b ∈ ([0, 1, 2, 3, 4] : List Int)) :
    DoesI Tryz.prog 33 [.d (rlD by_ fl), .d (qtD a b), .d (.sl (ps.map paD)), .d (.sl (ms.map mkD))] [] (fun ds : List De => DcR ps ms fl (moF a b) ds) (fun ds => .tup [.d (.sl (ds.map deD)), I 0]) (fun _ => []) := by
  have h := tracksI hpl hp hs h1 h2 hby hfl ha hb
  refine DoesI.of_AW (n := 38) Tryz.func33 rfl rfl rfl fun cx hcx => ?_
  repeat' (first | (refine AW.sreg rfl fun K hK => ?_; simp only [go_sem, ↓reduceIte, List.length_map]) | (refine AW.seq_k fun K hK => ?_) | (refine AW.block ?_) | (refine AW.skip ?_; simp only [Then, InBlock]) | (refine AW.cF ?_) | (refine hK _ ?_; clear hK K) | (refine run_callI _ _ _ ((h).pure rfl (fun _ => rfl) _ _) rfl rfl (dstOk_of rfl) rfl rfl rfl ?_; rintro os hos; (try dsimp only at os); (try dsimp only at hos); simp only [go_sem, ↓reduceIte, List.length_map]))
  refine AW.weak (Weak.nil 12 90 3 rfl) ?_
  have hol : os.length ≤ 6 := by
    have h1 := nodup_subL (os.map (·.1)) (ps.map (·.2.1)) hos.nd fun k hk => by obtain ⟨p, hp1, hp2⟩ := (hos.mem k).1 hk; exact List.mem_map.2 ⟨p, hp1, hp2⟩
    simp only [List.length_map] at h1
    omega
  have hrl : ∀ o ∈ os, o.2.length ≤ 6 := fun o ho => by
    have h1 := (hos.row o ho).length_eq
    simp only [List.length_map] at h1
    rw [h1]
    exact Nat.le_trans (List.length_filter_le ..) hpl
  refine AW.loopF (ι := List Nat × List De) [27] (fun p => [(12, .slr 1152 0 p.2.length)]) (fun p => [(1088, some (O.miter (.d (tkD os)) os.length p.1.getLast? (.lst p.1))), (1152, some (O.vec 90 3 (dv (p.2.map deD))))]) 40 (fun p => Sd os.length p.1 ∧ p.2 = (p.1.map fun j => os.getD j ([], [])).flatMap (·.2) ∧ p.2.length ≤ 6 * p.1.length) (fun p => os.length - p.1.length) ([], []) ⟨Sd.nil _, rfl, by simp⟩ (Weak.aC hcx (by refine ⟨?_, ?_, ?_⟩ <;> simp [go_sem, gL, kL, renOf, V.obj, Nat.blt, Nat.ble, List.map_append, dv_push, List.getLast?_nil])) ?_; simp only [St.at_nil, St.at_cons, lk, Nat.reduceEqDiff, ↓reduceIte, Option.getD_some, Option.getD_none, List.cons_append, List.nil_append, List.append_nil]
  rintro ⟨seen, out⟩ ⟨k1, k2, k3⟩
  dsimp only at k1 k2 k3 ⊢
  repeat' (first | (refine AW.sreg rfl fun K hK => ?_; simp only [go_sem, ↓reduceIte, List.length_map]))
  refine run_next rfl rfl rfl rfl (dstOk_of rfl) (by simp) (by simp) (fun hd => ?_) (fun j kk vv hm hk hv => ?_)
  rotate_left
  · have hjl : j < os.length := by
      have := get_lt hk
      simpa using this
    obtain ⟨o, hoj, hom, -⟩ := get_some hjl
    have hkk : kk = .str o.1 := by
      rw [List.getElem?_map, hoj] at hk
      exact (Option.some.inj hk).symm
    subst hkk
    have hvv : vv = .d (D.sl (o.2.map deD)) := by
      rw [List.getElem?_map, List.getElem?_map, hoj] at hv
      exact (Option.some.inj hv).symm
    subst hvv
    have hlen := k1.len hm hjl
    have hadd := k1.add hm hjl
    have hgd : os.getD j ([], []) = o := by simp [List.getD, hoj]
    have hro := hrl o hom
    have htk : List.take out.length (dv (out.map deD)) = dv (out.map deD) := List.take_of_length_le (by simp [dv])
    simp only [go_sem, ↓reduceIte, List.length_map]
    repeat' (first | (refine AW.sreg rfl fun K hK => ?_; simp only [go_sem, ↓reduceIte, List.length_map]) | (refine AW.seq_k fun K hK => ?_) | (refine AW.block ?_) | (refine AW.skip ?_; simp only [Then, InBlock]) | (refine AW.cT ?_) | (refine hK _ ?_; clear hK K))
    refine run_entry rfl rfl rfl rfl (dstOk_of rfl) (by simp) hk hv ?_
    simp only [go_sem, ↓reduceIte, List.length_map]
    repeat' (first | (refine AW.reg rfl ?_; simp only [go_sem, ↓reduceIte, List.length_map, htk]) | (refine hK _ ?_; clear hK K))
    have da : ∀ xs ys : List D, dv xs ++ dv ys = dv (xs ++ ys) := fun xs ys => by simp [dv]
    have hsl := k1.len hm hjl
    refine ⟨⟨by rw [dv, List.map_map, List.all_map]; exact List.all_eq_true.2 fun _ _ => rfl, by omega⟩, (seen ++ [j], out ++ o.2), ⟨hadd, by rw [List.map_append, List.flatMap_append, ← k2]; simp only [List.map_cons, List.map_nil, List.flatMap_cons, List.flatMap_nil, List.append_nil, hgd], by simp only [List.length_append, List.length_cons, List.length_nil]; omega⟩, by simp only [List.length_append, List.length_cons, List.length_nil]; omega, (Weak.aC hcx (by refine ⟨?_, ?_, ?_⟩ <;> simp [go_sem, gL, kL, renOf, V.obj, Nat.blt, Nat.ble, List.map_append, dv_push, da]))⟩
  · have hper := outF_perm (d := (([], []) : Tk)) (k1.perm hd)
    have hfl2 : out.Perm (os.flatMap (·.2)) := by rw [k2]; exact hper.flatMap_right _
    have hol2 : out.length ≤ 6 := by
      have := hfl2.length_eq
      have h3 := hos.ids.length_eq
      simp only [List.length_map] at h3
      omega
    have hsort := sortFunc_De (fun x y => decide (Lib.compareBytes x.1 y.1 < 0)) (fun x y => Lib.compareBytes x.1 y.1) (fun _ _ => rfl) 94 decide1_any out (by omega)
    have hsp := isort_perm (fun (x y : De) => decide (Lib.compareBytes x.1 y.1 < 0)) out
    have hss := isort_sorted (lt := fun (x y : De) => decide (Lib.compareBytes x.1 y.1 < 0)) (fun x y h => by rw [cmpB_lt] at h ⊢; exact ltS_asymm h) (fun x y z e1 e2 => by
      rw [cmpB_lt] at e1 e2 ⊢
      cases e : ltS z.1 x.1 with
      | false => rfl
      | true =>
        by_cases he : z.1 = y.1
        · rw [he] at e; rw [e] at e1; cases e1
        · have e3 := ltS_total e2 he
          have := ltS_trans e3 e
          rw [this] at e1; cases e1) out
    generalize isort (fun (x y : De) => decide (Lib.compareBytes x.1 y.1 < 0)) out = ys at *
    simp only [go_sem, ↓reduceIte, List.length_map]
    repeat' (first | ((first | refine AW.sreg rfl fun K hK => ?_ | refine run_call _ _ _ ((hsort).objA [1152]) rfl rfl (dstOk_of rfl) rfl rfl rfl ?_); simp only [go_sem, ↓reduceIte, List.length_map]) | (refine AW.seq_k fun K hK => ?_) | (refine AW.exit ?_; simp only [go_sem, ↓reduceIte]) | (refine AW.cF ?_) | (refine hK _ ?_; clear hK K) | (clear hK K; refine hK _ ?_; clear hK K))
    exact AW.ret ⟨ys, hos.all h1 (hsp.trans hfl2) (hss.imp fun {x y} h e => by have h : decide (Lib.compareBytes y.1 x.1 < 0) = false := h; rw [decide_eq_true e] at h; cases h) (fun x y => by rw [← cmpB_lt]; simp), Fin.data rfl (frz_ok2 (frz_slr rfl rfl (by simp [hsp.length_eq])) 0) rfl⟩
end Go.AX
