/- The book of reviews. -/
import Derived.Test.YtlejkdigdkeocaaGreatDoorCG
import Derived.Test.YtlejkdigdkeocaaGreatDoorCC
import Derived.Test.YtlejkdigdkeocaaGreatDoorAx47
set_option linter.unusedSimpArgs false
set_option linter.unusedVariables false
set_option linter.unnecessarySimpa false
set_option maxRecDepth 1000000
set_option maxHeartbeats 4000000
namespace Go.AX
open Go Go.Proofs Go.RowKit
abbrev Gv := Pr × List Rv
def rvK : RowS Gv := ⟨fun g => g.2.map rvD, 60, 7, fun _ v => v⟩
theorem rvK_ok : rvK.Ok where
  frz := fun hv g v h => by
    rcases h with rfl | ⟨i, a, n, rfl⟩ <;> simp [rvK, frz]
  ren := fun f g v => rfl
  bel := fun n g v => rfl
abbrev kyV (gs : List Gv) : List D := gs.map fun g => prD g.1
theorem fidxP_out {k : Pr} {ks : List Pr} (h : k ∉ ks) : (ks.findIdx? fun x => decide (k = x)) = none := by
  rw [List.findIdx?_eq_none_iff]
  intro x hx
  simp only [decide_eq_false_iff_not]
  intro e
  exact h (e ▸ hx)
theorem fidxP_in : ∀ {ks : List Pr} {j : Nat} {k : Pr}, ks.Nodup → ks[j]? = some k → (ks.findIdx? fun x => decide (k = x)) = some j
  | [], j, k, _, h => by simp at h
  | x :: r, 0, k, _, h => by
    simp at h
    subst h
    simp [List.findIdx?_cons]
  | x :: r, j + 1, k, hn, h => by
    simp only [List.getElem?_cons_succ] at h
    rw [List.nodup_cons] at hn
    have hne : ¬ k = x := fun e => hn.1 (e ▸ List.mem_of_getElem? h)
    rw [List.findIdx?_cons]
    simp only [hne, decide_false, Bool.false_eq_true, if_false, fidxP_in hn.2 h, Option.map_some]
theorem kyV_in {gs : List Gv} {j : Nat} {g : Gv} (hn : (gs.map (·.1)).Nodup) (h : gs[j]? = some g) : fndK (prD g.1) (kyV gs) = some (some j) := by
  have e : kyV gs = (gs.map (·.1)).map prD := by simp [kyV]
  rw [e, fnd_pr, fidxP_in (j := j) hn (by rw [List.getElem?_map, h]; rfl)]
theorem kyV_out {gs : List Gv} {k : Pr} (h : k ∉ gs.map (·.1)) : fndK (prD k) (kyV gs) = some none := by
  have e : kyV gs = (gs.map (·.1)).map prD := by simp [kyV]
  rw [e, fnd_pr, fidxP_out h]
abbrev rkey (r : Rv) : Pr := (r.2.2.1, r.2.2.2.1)
abbrev gvF (l : List Rv) : List Gv := grpF rkey (fun r : Rv => r) l
theorem toDL_rvK {hv : Nat → Option O} {keep : Nat → Bool} {n : Nat} (hn : 3 ≤ n) : ∀ (gs : List Gv) (B : Nat), (∀ j g, gs[j]? = some g → rvK.row g ≠ [] → keep (B + j) = false ∧ hv (B + j) = some (.vec rvK.e rvK.s (dv (rvK.row g)))) → toDL (toD hv keep n) (rowsV rvK B gs) = some (gs.map fun g => D.sl (g.2.map rvD))
  | [], _, _ => rfl
  | g :: r, B, h => by
    have ih := toDL_rvK hn r (B + 1) fun j x hx => by
      have := h (j + 1) x (by simpa using hx)
      rw [show B + (j + 1) = B + 1 + j by omega] at this
      exact this
    have h1 : toD hv keep n (rref B (rvK.row g)) = some (.sl (rvK.row g)) := by
      obtain ⟨m, rfl⟩ : ∃ q, n = q + 3 := ⟨n - 3, by omega⟩
      have h0 := h 0 g rfl
      rw [Nat.add_zero] at h0
      generalize rvK.row g = xs at *
      cases xs with
      | nil => rfl
      | cons x xs =>
        obtain ⟨hk, hh⟩ := h0 (by simp)
        simp only [rref]
        rw [toD]
        simp only [hk, Bool.false_eq_true, if_false, hh, dv_length, Nat.zero_add, Nat.le_refl, if_true, List.drop_zero]
        rw [show (dv (x :: xs)).take (x :: xs).length = dv (x :: xs) from List.take_of_length_le (by simp [dv])]
        rw [show toDL (toD hv keep (m + 2)) (dv (x :: xs)) = some (x :: xs) from toDL_dv hv keep (m + 1) _]
    have h2 : toD hv keep n (rvK.val g (rref B (rvK.row g))) = some (D.sl (g.2.map rvD)) := h1
    simp only [rowsV, toDL, h2, ih, List.map_cons]
theorem frz_book {hv : Nat → Option O} {keep : Nat → Bool} {t : TypeId} {d0 d1 d2 d3 d4 d5 d6 : D} {ks : List D} {gs : List Gv} (h1 : keep 320 = false) (h2 : keep 192 = false) (hb : hv 320 = some (.box t [.d d0, .d d1, .d d2, .d d3, .d d4, .d d5, .d d6, .mpr 192])) (hm : hv 192 = some (.map ks (rowsV rvK 6400 gs)))
    (hf : ∀ j g, gs[j]? = some g → rvK.row g ≠ [] → keep (6400 + j) = false ∧ hv (6400 + j) = some (.vec rvK.e rvK.s (dv (rvK.row g)))) : frz hv keep (.ptr 320 0) = .d (.ptr [d0, d1, d2, d3, d4, d5, d6, .map ks (gs.map fun g => D.sl (g.2.map rvD))] 0) := by
  have e1 : toD hv keep 7 (.mpr 192) = some (.map ks (gs.map fun g => D.sl (g.2.map rvD))) := by
    rw [toD]
    simp only [h2, Bool.false_eq_true, if_false, hm]
    rw [toDL_rvK (by omega) gs 6400 hf]
  have e2 : toD hv keep 8 (.ptr 320 0) = some (.ptr [d0, d1, d2, d3, d4, d5, d6, .map ks (gs.map fun g => D.sl (g.2.map rvD))] 0) := by
    rw [toD]
    have hd : ∀ x : D, toD hv keep 7 (.d x) = some x := fun _ => rfl
    simp only [h1, Bool.false_eq_true, if_false, hb, toDL, hd, e1]
  simp only [frz, h1, Bool.false_eq_true, if_false, e2]
theorem bookOf_any (x : Su) (l : List Rv) (hl : l.length ≤ 20) : Does Tryz.prog 79 [.d (suD x), .d (.sl (l.map rvD))] [] (.d (.ptr (bkC (suC x) (gvF l)) 0)) [] := by
  refine Does.of_AW (n := 36) Tryz.func79 rfl rfl rfl fun cx hcx => ?_
  repeat' (first | (refine AW.sreg rfl fun K hK => ?_; simp only [go_sem, ↓reduceIte, List.length_map]) | (refine AW.seq_k fun K hK => ?_) | (refine AW.block ?_) | (refine hK _ ?_; clear hK K))
  refine AW.loopF (ι := Nat × List Gv) [5, 12, 13] (fun p => [(14, I p.1)]) (fun p => (320, some (O.box 203 [.d (.sl (x.sheet.map quD)), .d (.sl (x.papers.map paD)), .d (.sl (x.pairs.map prD)), .d (.sl (x.barred.map prD)), .d (.sl (x.chairs.map .str)), .d (.int .i64 x.due), .d (.int .i64 x.reply), .mpr 192])) :: (192, some (O.map (kyV p.2) (rowsV rvK 6400 p.2))) :: rowsH rvK 6400 p.2) 200 (fun p => p.1 ≤ l.length ∧ p.2 = gvF (l.take p.1)) (fun p => l.length - p.1) (0, []) ⟨Nat.zero_le _, rfl⟩ (Weak.oC hcx [(320, 320), (192, 192)] (by refine ⟨?_, ?_, ?_⟩ <;> simp [go_sem, gL, kL, List.map_append, dv_push, rowsV_nil, rowsH_nil, kyV])) ?_; simp only [St.at_nil, St.at_cons, lk, Nat.reduceEqDiff, ↓reduceIte, Option.getD_some, Option.getD_none, List.cons_append, List.nil_append, List.append_nil]
  rintro ⟨i, gs⟩ ⟨h1, h2⟩
  dsimp only at h1 h2 ⊢
  by_cases hi : i < l.length
  · obtain ⟨r, hr, hrm, -⟩ := get_some hi
    have hget : (l.map rvD)[i]? = some (rvD r) := by simp only [List.getElem?_map, hr, Option.map_some]
    have h3 : (gs.map (·.1)).Nodup := by rw [h2]; exact grpF_nd _ _ _
    have h4 : ∀ g ∈ gs, g.2 ≠ [] := by rw [h2]; exact grpF_pos _ _ _
    have h5 : gs.length ≤ 20 := by
      have := grpF_len rkey (fun r : Rv => r) (l.take i)
      rw [h2]
      show (grpF rkey (fun r : Rv => r) (l.take i)).length ≤ 20
      simp only [List.length_take] at this
      omega
    have h6 : ∀ g ∈ gs, g.2.length ≤ 20 := fun g hg => by
      have := grpF_rlen rkey (fun r : Rv => r) (h2 ▸ hg)
      simp only [List.length_take] at this
      omega
    have hst : gvF (l.take (i + 1)) = addG gs (rkey r) r := by rw [h2]; exact grpF_step rkey (fun r : Rv => r) hr
    have hpo := pairOf_any r
    by_cases hin : rkey r ∈ gs.map (·.1)
    · obtain ⟨j, hj⟩ := List.getElem?_of_mem hin
      rw [List.getElem?_map] at hj
      obtain ⟨g, hgj, hge⟩ := Option.map_eq_some_iff.1 hj
      have hjl := get_lt hgj
      have hgm := List.mem_of_getElem? hgj
      have ha := addG_in (n := r) h3 hgj hge
      rw [ha] at hst
      have hf := kyV_in h3 hgj
      rw [hge] at hf
      have hgv : (rowsV rvK 6400 gs)[j]? = some (.slr (6400 + j) 0 g.2.length) := by
        rw [rowsV_get, hgj]
        simp only [Option.map_some]
        rw [rref_pos (by simpa [rvK] using h4 g hgm)]
        simp [rvK]
      have hlk : lk (rowsH rvK 6400 gs) (6400 + j) = some (some (.vec 60 7 (dv (g.2.map rvD)))) := rowsH_lk rvK hgj (by simpa [rvK] using h4 g hgm)
      have htk : List.take g.2.length (dv (g.2.map rvD)) = dv (g.2.map rvD) := List.take_of_length_le (by simp [dv])
      have hN0 : ∀ n : Nat, n ≤ 6399 → (n = 6400 + j) = False := fun n hn => by simp; omega
      have hN1 : ∀ n : Nat, 12800 ≤ n → (n = 6400 + j) = False := fun n hn => by simp; omega
      have hN2 : ∀ n : Nat, n ≤ 6399 → (6400 + j = n) = False := fun n hn => by simp; omega
      have hN3 : ∀ n : Nat, 12800 ≤ n → (6400 + j = n) = False := fun n hn => by simp; omega
      have hgle := h6 g hgm
      have hR0 : swpN (6400 + j) 6400 (6400 + j) = 6400 := swpN_a _ _
      have hR1 : ∀ n : Nat, n ≤ 6399 → swpN (6400 + j) 6400 n = n := fun n hn => swpN_o (by omega) (by omega)
      have hR2 : ∀ n : Nat, 12800 ≤ n → swpN (6400 + j) 6400 n = n := fun n hn => swpN_o (by omega) (by omega)
      have hkl : kyV (gs.set j (rkey r, g.2 ++ [r])) = kyV gs := by
        unfold kyV
        rw [List.map_set]
        exact set_same (by rw [List.getElem?_map, hgj, Option.map_some, hge])
      repeat' (first | ((first | refine AW.sreg rfl fun K hK => ?_ | refine AW.reg rfl ?_ | refine AW.regD hmix rfl ?_ | refine runT_call _ _ [] (fun hv _ => (hpo).pure rfl rfl hv _) rfl rfl (dstOk_of rfl) rfl rfl ?_); simp only [go_sem, ↓reduceIte, List.length_map, hget, hf, hgv, hlk, htk, hN0, hN1, hN2, hN3, dv_length, rowsV_len, Int.toNat_natCast]) | (refine AW.seq_k fun K hK => ?_) | (refine AW.block ?_) | (refine AW.skip ?_; simp only [Then, InBlock]) | (refine AW.cT ?_) | (refine hK _ ?_; clear hK K) | (with_reducible refine And.intro (?_ : regOk _ _ = true) ?_; exact regOk_ren (swpN (6400 + j) 6400) (swpN_inj _ _) (by simp only [List.map_cons, List.map_nil, List.map_append, Tr.sig, Tr.wids, Tr.rids, renP, hR0, hR1, hR2, Nat.reduceLeDiff]; kernel_rfl)) | (with_reducible refine andI ?_))
      exact ⟨(i + 1, gs.set j (rkey r, g.2 ++ [r])), ⟨hi, hst.symm⟩, by simp only; omega, (by
          have hgl0 : (gs).length ≤ 60 := by omega
          obtain ⟨F, hF⟩ : ∃ F : Nat → Nat, F = sw2 192 192 (6400 + j) 14080 := ⟨_, rfl⟩
          have w320 : F 320 = 320 := by rw [hF]; exact sw2_o (by omega) (by omega) (by omega) (by omega)
          have ws : F 192 = 192 := by rw [hF]; exact sw2_a (by omega) (by omega)
          have wj : F (6400 + j) = 14080 := by rw [hF]; exact sw2_c (by omega) (by omega)
          have wo : ∀ q, q < (gs).length → q ≠ j → F (6400 + q) = 6400 + q := fun q hq hne => by rw [hF]; exact sw2_o (by omega) (by omega) (by omega) (by omega)
          have hsp : ∀ hv, frzL hv (fun _ => true) ((rowsV rvK 6400 gs).set j (.slr 14080 0 (g.2.length + 1))) = renL F (rowsV rvK 6400 ((gs).set j (rkey r, g.2 ++ [r]))) := sp_set rvK_ok (g := (rkey r, g.2 ++ [r])) (hjl) wj wo (by simp [rvK]) (by simp [rvK])
          have hbl : belL (64 * 200) (rowsV rvK 6400 ((gs).set j (rkey r, g.2 ++ [r]))) = true := belL_rowsV rvK_ok _ _ (by (try simp only [List.length_append, List.length_cons, List.length_nil, List.length_set] at hgl0 ⊢); omega)
          (try simp at hbl hsp)
          exact Weak.rowsH (R := rvK) hcx F 6400 _ [_, _] rfl rfl (fun q hq => by first | exact absurd hq (Nat.not_lt_zero _) | (obtain rfl : q = 0 := (by simp only [List.length_cons, List.length_nil] at hq; omega); exact w0)) (by simp) (by simp [go_sem, frz, ws, w320]) (by simp [go_sem, ws, w320, hsp, hbl, hN2, hN3, hkl]) (fun q zz hq hx => by
              have hql : q < (gs).length := by have := get_lt hq; rwa [List.length_set] at this
              refine ⟨by (try simp only [List.length_append, List.length_cons, List.length_nil] at hgl0 hql ⊢); omega, ?_⟩
              by_cases h : j = q
              · subst h
                rw [List.getElem?_set_self hql] at hq
                have hxe : zz = (rkey r, g.2 ++ [r]) := (Option.some.inj hq).symm
                subst hxe
                rw [wj]
                simp [St.hv, lk, rvK, dv, hN2, hN3, hkl]
              · rw [List.getElem?_set_ne h] at hq
                rw [wo q hql (Ne.symm h)]
                repeat (refine (hv_skip (by omega)).trans ?_)
                exact hv_rowsE hq hx) (fun q hq => by first | exact absurd hq (Nat.not_lt_zero _) | (obtain rfl : q = 0 := (by simp only [List.length_cons, List.length_nil] at hq; omega); exact ⟨_, List.mem_cons_self⟩)) (by rw [hF]; exact sw2_inj _ _ _ _))⟩
    · have hf := kyV_out hin
      have ha := addG_out (n := r) hin
      rw [ha] at hst
      have hkll : (kyV gs).length = gs.length := by simp [kyV]
      have hsetA : ∀ x y : V, (rowsV rvK 6400 gs ++ [x]).set gs.length y = rowsV rvK 6400 gs ++ [y] := fun x y => by
        rw [List.set_append_right _ _ (by rw [rowsV_len]; exact Nat.le_refl _)]
        simp [rowsV_len]
      have hkl : kyV (gs ++ [(rkey r, [r])]) = kyV gs ++ [prD (rkey r)] := by simp [kyV]
      repeat' (first | ((first | refine AW.sreg rfl fun K hK => ?_ | refine AW.reg rfl ?_ | refine AW.regD hmix rfl ?_ | refine runT_call _ _ [] (fun hv _ => (hpo).pure rfl rfl hv _) rfl rfl (dstOk_of rfl) rfl rfl ?_); simp only [go_sem, ↓reduceIte, List.length_map, hget, hf, hsetA, hkll, dv_length, rowsV_len, Int.toNat_natCast, List.length_append, List.length_cons, List.length_nil]) | (refine AW.seq_k fun K hK => ?_) | (refine AW.block ?_) | (refine AW.skip ?_; simp only [Then, InBlock]) | (refine AW.cT ?_) | (refine hK _ ?_; clear hK K) | (with_reducible refine And.intro (?_ : regOk _ _ = true) ?_; kernel_rfl) | (with_reducible refine andI ?_))
      exact ⟨(i + 1, gs ++ [(rkey r, [r])]), ⟨hi, hst.symm⟩, by simp only; omega, (by
          have hgl0 : (gs).length ≤ 60 := by omega
          obtain ⟨F, hF⟩ : ∃ F : Nat → Nat, F = sw2 192 192 (6400 + (gs).length) 14080 := ⟨_, rfl⟩
          have w320 : F 320 = 320 := by rw [hF]; exact sw2_o (by omega) (by omega) (by omega) (by omega)
          have ws : F 192 = 192 := by rw [hF]; exact sw2_a (by omega) (by omega)
          have wj : F (6400 + (gs).length) = 14080 := by rw [hF]; exact sw2_c (by omega) (by omega)
          have wo : ∀ q, q < (gs).length → q ≠ (gs).length → F (6400 + q) = 6400 + q := fun q hq hne => by rw [hF]; exact sw2_o (by omega) (by omega) (by omega) (by omega)
          have hsp : ∀ hv, frzL hv (fun _ => true) (rowsV rvK 6400 gs ++ [.slr 14080 0 1]) = renL F (rowsV rvK 6400 ((gs) ++ [(rkey r, [r])])) := sp_app rvK_ok (g := (rkey r, [r])) wj (fun q hq => wo q hq (by omega)) (by simp [rvK]) (by simp [rvK])
          have hbl : belL (64 * 200) (rowsV rvK 6400 ((gs) ++ [(rkey r, [r])])) = true := belL_rowsV rvK_ok _ _ (by (try simp only [List.length_append, List.length_cons, List.length_nil, List.length_set] at hgl0 ⊢); omega)
          (try simp at hbl hsp)
          exact Weak.rowsH (R := rvK) hcx F 6400 _ [_, _] rfl rfl (fun q hq => by first | exact absurd hq (Nat.not_lt_zero _) | (obtain rfl : q = 0 := (by simp only [List.length_cons, List.length_nil] at hq; omega); exact w0)) (by simp) (by simp [go_sem, frz, ws, w320]) (by simp [go_sem, ws, w320, hsp, hbl, hkl]) (fun q zz hq hx => by
              rcases Nat.lt_trichotomy q (gs).length with h | h | h
              · rw [List.getElem?_append_left h] at hq
                refine ⟨by (try simp only [List.length_append, List.length_cons, List.length_nil] at hgl0 h ⊢); omega, ?_⟩
                rw [wo q h (by omega)]
                repeat (refine (hv_skip (by omega)).trans ?_)
                exact hv_rowsE hq hx
              · subst h
                have hxe : zz = (rkey r, [r]) := by simpa using hq.symm
                subst hxe
                rw [wj]
                exact ⟨by (try simp only [List.length_append, List.length_cons, List.length_nil] at hgl0 ⊢); omega, by simp [St.hv, lk, rvK, dv, hkl]⟩
              · rw [List.getElem?_eq_none (by simp only [List.length_append, List.length_cons, List.length_nil] at h ⊢; omega)] at hq
                cases hq) (fun q hq => by first | exact absurd hq (Nat.not_lt_zero _) | (obtain rfl : q = 0 := (by simp only [List.length_cons, List.length_nil] at hq; omega); exact ⟨_, List.mem_cons_self⟩)) (by rw [hF]; exact sw2_inj _ _ _ _))⟩
  · obtain rfl : i = l.length := by omega
    rw [List.take_length] at h2
    repeat' (first | (refine AW.sreg rfl fun K hK => ?_; simp only [go_sem, ↓reduceIte, List.length_map]) | (refine AW.seq_k fun K hK => ?_) | (refine AW.exit ?_; simp only [go_sem, ↓reduceIte]) | (refine AW.cF ?_) | (refine hK _ ?_; clear hK K) | (clear hK K; refine hK _ ?_; clear hK K))
    subst h2
    refine AW.ret (Fin.data rfl ((frz_book (gs := gvF l) rfl rfl rfl rfl (fun q g hq hg => ⟨rfl, ?_⟩)).trans rfl) rfl)
    have hql := get_lt hq
    repeat (refine (hv_skip (by omega)).trans ?_)
    exact hv_rowsE hq hg
end Go.AX

namespace Go.AX
open Go Go.Proofs Go.RowKit
/-- What somebody sees of the review of a pair at a moment. -/
def lvF (x : Su) (l : List Rv) (who : Str) (p : Pr) (at_ : Int) : Int :=
  if (auF x.papers p.1 who && decide (x.reply ≤ at_)) = true then 1
  else if (auF x.papers p.1 who || decide ((p.1, who) ∈ x.barred)) = true then 0
  else if (who == p.2 || x.chairs.any fun y => who == y) = true then 3
  else if ((lastF (rowG (gvF l) (p.1, who)) at_ true).isSome && decide ((p.1, who) ∈ x.pairs)) = true then 2 else 0
theorem level_any {x : Su} (h : SuR x) (hc : csF x = 0) (l : List Rv) (hl : l.length ≤ 20) (who : Str) (p : Pr) (at_ : Int) :
    Does Tryz.prog 53 [.d (.ptr (bkC (suC x) (gvF l)) 0), S who, .d (prD p), I at_] [] (I (lvF x l who p at_)) [] := by
  obtain ⟨r1, r2, r3⟩ := csF_rise hc
  have hpl := h.plen
  have hql := h.qlen
  have hbl := h.blen
  have hcl := len_Ch _ h.chairs
  have hau := isAuthor_any x (by omega) (fun p hp => by have := (h.papers p hp).1.aul; omega) r1 p.1 who
  have hib := isIn_any x.barred (by omega) r3 (p.1, who)
  have hip := isIn_any x.pairs (by omega) r2 (p.1, who)
  have hch := contains_St x.chairs (by omega) who
  have hla := last_any (suC x) rfl (gvF l) (fun g hg => by have := grpF_rlen rkey (fun r : Rv => r) hg; omega) (p.1, who) at_ true
  refine Does.of_AW (n := 83) Tryz.func53 rfl rfl rfl fun cx hcx => ?_
  unfold lvF
  generalize (lastF (rowG (gvF l) (p.1, who)) at_ true).getD zRv = zr at hla
  generalize (lastF (rowG (gvF l) (p.1, who)) at_ true).isSome = b5 at hla
  generalize auF x.papers p.1 who = b1 at hau
  generalize decide ((p.1, who) ∈ x.barred) = b2 at hib
  generalize decide ((p.1, who) ∈ x.pairs) = b6 at hip
  generalize (x.chairs.any fun y => who == y) = b4 at hch
  cases b1
  · cases b2
    · cases e3 : (who == p.2)
      · cases b4
        · cases b5
          · repeat' (first | ((first | refine AW.sreg rfl fun K hK => ?_ | refine AW.sregD hmix rfl fun K hK => ?_ | refine runT_call _ _ [] (fun hv _ => (hau).pure rfl rfl hv _) rfl rfl (dstOk_of rfl) rfl rfl ?_ | refine runT_call _ _ [] (fun hv _ => (hib).pure rfl rfl hv _) rfl rfl (dstOk_of rfl) rfl rfl ?_ | refine run_call _ _ _ ((hch).pure rfl rfl _ _) rfl rfl (dstOk_of rfl) rfl rfl rfl ?_ | refine run_call _ _ _ ((hla).pure rfl rfl _ _) rfl rfl (dstOk_of rfl) rfl rfl rfl ?_); simp only [go_sem, ↓reduceIte, e3]) | (refine AW.seq_k fun K hK => ?_) | (refine AW.block ?_) | (refine AW.skip ?_; simp only [Then, InBlock]) | (refine AW.cF ?_) | (refine hK _ ?_; clear hK K) | (with_reducible refine And.intro (?_ : regOk _ _ = true) ?_; kernel_rfl) | (refine AW.ret (Fin.data rfl (by first | (simp only [go_sem]; done) | (simp [go_sem, *]; done) | (simp [go_sem]; omega) | rfl) rfl)))
          · cases b6
            · repeat' (first | ((first | refine AW.sreg rfl fun K hK => ?_ | refine AW.sregD hmix rfl fun K hK => ?_ | refine runT_call _ _ [] (fun hv _ => (hau).pure rfl rfl hv _) rfl rfl (dstOk_of rfl) rfl rfl ?_ | refine runT_call _ _ [] (fun hv _ => (hib).pure rfl rfl hv _) rfl rfl (dstOk_of rfl) rfl rfl ?_ | refine runT_call _ _ [] (fun hv _ => (hip).pure rfl rfl hv _) rfl rfl (dstOk_of rfl) rfl rfl ?_ | refine run_call _ _ _ ((hch).pure rfl rfl _ _) rfl rfl (dstOk_of rfl) rfl rfl rfl ?_ | refine run_call _ _ _ ((hla).pure rfl rfl _ _) rfl rfl (dstOk_of rfl) rfl rfl rfl ?_); simp only [go_sem, ↓reduceIte, e3]) | (refine AW.seq_k fun K hK => ?_) | (refine AW.block ?_) | (refine AW.skip ?_; simp only [Then, InBlock]) | (refine AW.cF ?_) | (refine hK _ ?_; clear hK K) | (with_reducible refine And.intro (?_ : regOk _ _ = true) ?_; kernel_rfl) | (refine AW.ret (Fin.data rfl (by first | (simp only [go_sem]; done) | (simp [go_sem, *]; done) | (simp [go_sem]; omega) | rfl) rfl)))
            · repeat' (first | ((first | refine AW.sreg rfl fun K hK => ?_ | refine AW.sregD hmix rfl fun K hK => ?_ | refine runT_call _ _ [] (fun hv _ => (hau).pure rfl rfl hv _) rfl rfl (dstOk_of rfl) rfl rfl ?_ | refine runT_call _ _ [] (fun hv _ => (hib).pure rfl rfl hv _) rfl rfl (dstOk_of rfl) rfl rfl ?_ | refine runT_call _ _ [] (fun hv _ => (hip).pure rfl rfl hv _) rfl rfl (dstOk_of rfl) rfl rfl ?_ | refine run_call _ _ _ ((hch).pure rfl rfl _ _) rfl rfl (dstOk_of rfl) rfl rfl rfl ?_ | refine run_call _ _ _ ((hla).pure rfl rfl _ _) rfl rfl (dstOk_of rfl) rfl rfl rfl ?_); simp only [go_sem, ↓reduceIte, e3]) | (refine AW.seq_k fun K hK => ?_) | (refine AW.block ?_) | (refine AW.skip ?_; simp only [Then, InBlock]) | (refine AW.cT ?_) | (refine AW.cF ?_) | (refine hK _ ?_; clear hK K) | (with_reducible refine And.intro (?_ : regOk _ _ = true) ?_; kernel_rfl) | (refine AW.ret (Fin.data rfl (by first | (simp only [go_sem]; done) | (simp [go_sem, *]; done) | (simp [go_sem]; omega) | rfl) rfl)))
        · repeat' (first | ((first | refine AW.sreg rfl fun K hK => ?_ | refine AW.sregD hmix rfl fun K hK => ?_ | refine runT_call _ _ [] (fun hv _ => (hau).pure rfl rfl hv _) rfl rfl (dstOk_of rfl) rfl rfl ?_ | refine runT_call _ _ [] (fun hv _ => (hib).pure rfl rfl hv _) rfl rfl (dstOk_of rfl) rfl rfl ?_ | refine run_call _ _ _ ((hch).pure rfl rfl _ _) rfl rfl (dstOk_of rfl) rfl rfl rfl ?_); simp only [go_sem, ↓reduceIte, e3]) | (refine AW.seq_k fun K hK => ?_) | (refine AW.block ?_) | (refine AW.cT ?_) | (refine AW.cF ?_) | (refine hK _ ?_; clear hK K) | (with_reducible refine And.intro (?_ : regOk _ _ = true) ?_; kernel_rfl) | (refine AW.ret (Fin.data rfl (by first | (simp only [go_sem]; done) | (simp [go_sem, *]; done) | (simp [go_sem]; omega) | rfl) rfl)))
      · repeat' (first | ((first | refine AW.sreg rfl fun K hK => ?_ | refine AW.sregD hmix rfl fun K hK => ?_ | refine runT_call _ _ [] (fun hv _ => (hau).pure rfl rfl hv _) rfl rfl (dstOk_of rfl) rfl rfl ?_ | refine runT_call _ _ [] (fun hv _ => (hib).pure rfl rfl hv _) rfl rfl (dstOk_of rfl) rfl rfl ?_); simp only [go_sem, ↓reduceIte, e3]) | (refine AW.seq_k fun K hK => ?_) | (refine AW.block ?_) | (refine AW.cT ?_) | (refine AW.cF ?_) | (refine hK _ ?_; clear hK K) | (with_reducible refine And.intro (?_ : regOk _ _ = true) ?_; kernel_rfl) | (refine AW.ret (Fin.data rfl (by first | (simp only [go_sem]; done) | (simp [go_sem, *]; done) | (simp [go_sem]; omega) | rfl) rfl)))
    · repeat' (first | ((first | refine AW.sreg rfl fun K hK => ?_ | refine AW.sregD hmix rfl fun K hK => ?_ | refine runT_call _ _ [] (fun hv _ => (hau).pure rfl rfl hv _) rfl rfl (dstOk_of rfl) rfl rfl ?_ | refine runT_call _ _ [] (fun hv _ => (hib).pure rfl rfl hv _) rfl rfl (dstOk_of rfl) rfl rfl ?_); simp only [go_sem, ↓reduceIte]) | (refine AW.seq_k fun K hK => ?_) | (refine AW.block ?_) | (refine AW.cT ?_) | (refine AW.cF ?_) | (refine hK _ ?_; clear hK K) | (with_reducible refine And.intro (?_ : regOk _ _ = true) ?_; kernel_rfl) | (refine AW.ret (Fin.data rfl (by first | (simp only [go_sem]; done) | (simp [go_sem, *]; done) | (simp [go_sem]; omega) | rfl) rfl)))
  · by_cases ht : x.reply ≤ at_
    · repeat' (first | ((first | refine AW.sreg rfl fun K hK => ?_ | refine AW.sregD hmix rfl fun K hK => ?_ | refine runT_call _ _ [] (fun hv _ => (hau).pure rfl rfl hv _) rfl rfl (dstOk_of rfl) rfl rfl ?_); simp only [go_sem, ↓reduceIte, ht]) | (refine AW.seq_k fun K hK => ?_) | (refine AW.block ?_) | (refine AW.cT ?_) | (refine hK _ ?_; clear hK K) | (with_reducible refine And.intro (?_ : regOk _ _ = true) ?_; kernel_rfl) | (refine AW.ret (Fin.data rfl (by first | (simp only [go_sem]; done) | (simp [go_sem, *]; done) | (simp [go_sem]; omega) | rfl) rfl)))
    · repeat' (first | ((first | refine AW.sreg rfl fun K hK => ?_ | refine AW.sregD hmix rfl fun K hK => ?_ | refine runT_call _ _ [] (fun hv _ => (hau).pure rfl rfl hv _) rfl rfl (dstOk_of rfl) rfl rfl ?_); simp only [go_sem, ↓reduceIte, ht]) | (refine AW.seq_k fun K hK => ?_) | (refine AW.block ?_) | (refine AW.cT ?_) | (refine AW.cF ?_) | (refine hK _ ?_; clear hK K) | (with_reducible refine And.intro (?_ : regOk _ _ = true) ?_; kernel_rfl) | (refine AW.ret (Fin.data rfl (by first | (simp only [go_sem]; done) | (simp [go_sem, *]; done) | (simp [go_sem]; omega) | rfl) rfl)))
theorem seen_any {x : Su} (h : SuR x) (l : List Rv) (hl : l.length ≤ 20) (hb : ∀ r ∈ l, RvB r) (hc : chF x l = 0) {who : Str} (hw : keyB who = true) (hwl : who.length ≤ 1000) {p : Pr} (hp : p ∈ x.pairs) :
    Does Tryz.prog 51 [.d (suD x), .d (.sl (l.map rvD)), S who, .d (prD p)] [] (.tup [.d (.ptr (bkC (suC x) (gvF l)) 0), I 0]) [] := by
  have hcs : csF x = 0 := by
    unfold chF at hc
    by_cases h0 : csF x = 0
    · exact h0
    · rw [if_pos h0] at hc; exact absurd hc h0
  obtain ⟨r1, r2, r3⟩ := csF_rise hcs
  have hch := check_any h l (by omega) hb
  rw [hc] at hch
  have hk := isKey_any who (by omega)
  rw [hw] at hk
  have hip := isIn_any x.pairs (by have := h.qlen; omega) r2 p
  rw [decide_eq_true hp] at hip
  have hbo := bookOf_any x l hl
  refine Does.of_AW (n := 28) Tryz.func51 rfl rfl rfl fun cx hcx => ?_
  repeat' (first | ((first | refine AW.sreg rfl fun K hK => ?_ | refine run_call _ _ _ ((hch).pure rfl rfl _ _) rfl rfl (dstOk_of rfl) rfl rfl rfl ?_ | refine run_call _ _ _ ((hk).pure rfl rfl _ _) rfl rfl (dstOk_of rfl) rfl rfl rfl ?_ | refine run_call _ _ _ ((hip).pure rfl rfl _ _) rfl rfl (dstOk_of rfl) rfl rfl rfl ?_ | refine run_call _ _ _ ((hbo).pure rfl rfl _ _) rfl rfl (dstOk_of rfl) rfl rfl rfl ?_); simp only [go_sem, ↓reduceIte]) | (refine AW.seq_k fun K hK => ?_) | (refine AW.skip ?_; simp only [Then, InBlock]) | (refine AW.cF ?_) | (refine hK _ ?_; clear hK K) | (refine AW.ret (Fin.data rfl (by first | (simp only [go_sem]; done) | (simp [go_sem, *]; done) | (simp [go_sem]; omega) | rfl) rfl)))
theorem level_ok {x : Su} (h : SuR x) (l : List Rv) (hl : l.length ≤ 20) (hb : ∀ r ∈ l, RvB r) (hc : chF x l = 0) {who : Str} (hw : keyB who = true) (hwl : who.length ≤ 1000) {p : Pr} (hp : p ∈ x.pairs) {at_ : Int} (ha : momB at_ = true) :
    Does Tryz.prog 14 [.d (suD x), .d (.sl (l.map rvD)), S who, .d (prD p), I at_] [] (.tup [I (lvF x l who p at_), I 0]) [] := by
  have hcs : csF x = 0 := by
    unfold chF at hc
    by_cases h0 : csF x = 0
    · exact h0
    · rw [if_pos h0] at hc; exact absurd hc h0
  have hs := seen_any h l hl hb hc hw hwl hp
  have hm := isMoment_any at_
  rw [show (decide (0 ≤ at_) && decide (at_ < 5761440)) = true from ha] at hm
  have hv := level_any h hcs l hl who p at_
  refine Does.of_AW (n := 33) Tryz.func14 rfl rfl rfl fun cx hcx => ?_
  repeat' (first | ((first | refine AW.sreg rfl fun K hK => ?_ | refine run_call _ _ _ ((hs).pure rfl rfl _ _) rfl rfl (dstOk_of rfl) rfl rfl rfl ?_ | refine run_call _ _ _ ((hm).pure rfl rfl _ _) rfl rfl (dstOk_of rfl) rfl rfl rfl ?_ | refine run_call _ _ _ ((hv).pure rfl rfl _ _) rfl rfl (dstOk_of rfl) rfl rfl rfl ?_); simp only [go_sem, ↓reduceIte]) | (refine AW.seq_k fun K hK => ?_) | (refine AW.skip ?_; simp only [Then, InBlock]) | (refine AW.cF ?_) | (refine hK _ ?_; clear hK K) | (refine AW.ret (Fin.data rfl (by first | (simp only [go_sem]; done) | (simp [go_sem, *]; done) | (simp [go_sem]; omega) | rfl) rfl)))
end Go.AX

namespace Go.AX
open Go Go.Proofs Go.RowKit
theorem lastF_some (rs : List Rv) (at_ : Int) (dn : Bool) : (lastF rs at_ dn).isSome = rs.any (hitD at_ dn) := by
  unfold lastF
  rw [Bool.eq_iff_iff, List.find?_isSome, List.any_eq_true]
  simp
theorem lv_mono (x : Su) (l : List Rv) (who : Str) (p : Pr) {a b : Int} (h : a ≤ b) : lvF x l who p a ≤ lvF x l who p b := by
  unfold lvF
  rw [lastF_some, lastF_some]
  have hm : (rowG (gvF l) (p.1, who)).any (hitD a true) = true → (rowG (gvF l) (p.1, who)).any (hitD b true) = true := by
    intro h1
    obtain ⟨r, hr, h2⟩ := List.any_eq_true.1 h1
    refine List.any_eq_true.2 ⟨r, hr, ?_⟩
    simp only [hitD, Bool.and_eq_true, decide_eq_true_eq] at h2 ⊢
    exact ⟨by omega, h2.2⟩
  generalize (rowG (gvF l) (p.1, who)).any (hitD a true) = b1 at *
  generalize (rowG (gvF l) (p.1, who)).any (hitD b true) = b2 at *
  generalize decide ((p.1, who) ∈ x.barred) = b3
  generalize decide ((p.1, who) ∈ x.pairs) = b4
  generalize (who == p.2 || x.chairs.any fun y => who == y) = b5
  have hr : decide (x.reply ≤ a) = true → decide (x.reply ≤ b) = true := by
    simp only [decide_eq_true_eq]
    intro h1
    omega
  generalize decide (x.reply ≤ a) = ra at *
  generalize decide (x.reply ≤ b) = rb at *
  cases auF x.papers p.1 who <;> cases ra <;> cases rb <;> cases b1 <;> cases b2 <;> cases b3 <;> cases b4 <;> cases b5 <;> simp_all
theorem lv_nonneg (x : Su) (l : List Rv) (who : Str) (p : Pr) (a : Int) : 0 ≤ lvF x l who p a := by
  unfold lvF
  repeat' split
  all_goals omega
theorem lv_author {x : Su} {l : List Rv} {who : Str} {p : Pr} {a : Int} (h : 0 < lvF x l who p a) (hb : (p.1, who) ∈ x.barred) : auF x.papers p.1 who = true := by
  cases ha : auF x.papers p.1 who with
  | true => rfl
  | false =>
    unfold lvF at h
    rw [ha, Bool.false_and, if_neg (by simp), Bool.false_or, if_pos (decide_eq_true hb)] at h
    omega
def W6 : List Str := [[97, 110, 110], [98, 111, 98], [99, 105, 100], [100, 101, 101], [101, 118, 101], [122, 101, 100]]
def T7 : List Int := [0, 10, 100, 1000, 2000, 5000, 9000]
theorem law_ok (l : List Int) (hl2 : l.length ≤ 9223372036854775807) : Does Tryz.prog 3 [Ls l] [] (B true) [] := by
  have hrs := rightSetupI l hl2
  refine Does.of_AW (n := 98) Tryz.func3 rfl rfl rfl fun cx hcx => ?_
  repeat' (first | (refine AW.sreg rfl fun K hK => ?_; simp only [go_sem, ↓reduceIte]) | (refine hK _ ?_; clear hK K))
  first | (refine run_callI _ _ _ ((hrs).objs [192] ⟨rfl, trivial⟩ rfl (by decide) (by simp [go_sem, renOs]) (by simp [go_sem]) (by simp [go_sem]) (fun j hj => ⟨by simp, by simp, by simp [go_sem], by simp [go_sem]⟩)) rfl rfl (dstOk_of rfl) rfl rfl rfl ?_; rintro ⟨x, q⟩ ⟨hx, hq1, hq2⟩; (try dsimp only at x); (try dsimp only at q); (try dsimp only at hx); (try dsimp only at hq1); (try dsimp only at hq2); simp only [go_sem, ↓reduceIte])
  refine hK _ ?_; (try clear hK K)
  have n1 := range_any l hl2 q 0 9 (by omega) (by omega) (by omega) (by omega) (by omega)
  have r1 := nextV_range l q (9 - 0 + 1) (by omega)
  generalize nextV l q (9 - 0 + 1) = kk at n1 r1
  obtain ⟨n, rfl⟩ : ∃ n : Nat, kk = (n : Int) := ⟨kk.toNat, by omega⟩
  rw [Int.zero_add] at n1
  refine AW.sregDS hmix [0, 1, 2, 3, 4, 5] [0, 1, 2, 3, 4, 5] [4] rfl (by decide) (by simp only [permOps, renOp, List.map_cons, List.map_nil, List.getD_cons_zero, List.getD_cons_succ]; exact rfl) fun K hK => ?_; simp only [go_sem, ↓reduceIte, List.take_succ_cons, List.take_zero, List.drop_succ_cons, List.drop_zero]
  first | (refine runT_call _ _ [192] (fun hv hag => (n1).objs [192] ⟨((hag 192 (by simp)).trans rfl), trivial⟩ rfl (by decide) (by simp [go_sem, renOs]) (by simp) (by simp) (by simp [go_sem]) (by simp [go_sem]) (by simp [go_sem]) (by simp [go_sem])) rfl rfl (dstOk_of rfl) rfl rfl ?_; simp only [go_sem, ↓reduceIte])
  first | (refine relStep_call _ _ [192] (fun hv hag => (reviewsI l hl2 (q + 1) (by omega) (by omega) hx n (by omega)).objs [192] ⟨((hag 192 (by simp)).trans rfl), trivial⟩ rfl (by decide) (by simp [go_sem, renOs]) (by simp [go_sem]) (by simp [go_sem]) (fun j hj => ⟨by simp, by simp, by simp [go_sem], by simp [go_sem]⟩)) rfl rfl (dstOk_of rfl) rfl rfl ⟨by kernel_rfl, by kernel_rfl⟩ ?_; rintro ⟨rs, q2⟩ ⟨⟨hr1, hr2⟩, hq3, hq4⟩; (try dsimp only at rs); (try dsimp only at q2); (try dsimp only at hr1); (try dsimp only at hr2); (try dsimp only at hq3); (try dsimp only at hq4); simp only [go_sem, ↓reduceIte])
  refine ⟨by kernel_rfl, ?_⟩
  refine hK _ ?_; (try clear hK K)
  have hrl : rs.length ≤ 20 := by omega
  have hql := hx.qlen
  have hch := check_any hx rs (by omega) (fun r hr => (hr2 r hr).1)
  by_cases hc : chF x rs = 0
  rotate_left
  · have e0 : (chF x rs != 0) = true := by simpa using hc
    repeat' (first | ((first | refine AW.sreg rfl fun K hK => ?_ | refine run_call _ _ _ ((hch).pure rfl rfl _ _) rfl rfl (dstOk_of rfl) rfl rfl rfl ?_ | refine run_call _ _ _ ((stands_ok).pure rfl rfl _ _) rfl rfl (dstOk_of rfl) rfl rfl rfl ?_); simp only [go_sem, ↓reduceIte, e0]) | (refine AW.seq_k fun K hK => ?_) | (refine AW.cT ?_) | (refine hK _ ?_; clear hK K) | (refine AW.ret (Fin.data rfl (by first | (simp only [go_sem]; done) | (simp [go_sem, *]; done) | (simp [go_sem]; omega) | rfl) rfl)))
  have hcs : csF x = 0 := by
    unfold chF at hc
    by_cases h0 : csF x = 0
    · exact h0
    · rw [if_pos h0] at hc; exact absurd hc h0
  rw [hc] at hch
  repeat' (first | ((first | refine AW.sreg rfl fun K hK => ?_ | refine run_call _ _ _ ((hch).pure rfl rfl _ _) rfl rfl (dstOk_of rfl) rfl rfl rfl ?_); simp only [go_sem, ↓reduceIte, List.length_map]) | (refine AW.seq_k fun K hK => ?_) | (refine AW.block ?_) | (refine AW.skip ?_; simp only [Then, InBlock]) | (refine AW.cF ?_) | (refine hK _ ?_; clear hK K))
  have d6 : dv (W6.map D.str) = [V.d (D.str [97, 110, 110]), V.d (D.str [98, 111, 98]), V.d (D.str [99, 105, 100]), V.d (D.str [100, 101, 101]), V.d (D.str [101, 118, 101]), V.d (D.str [122, 101, 100])] := rfl
  refine AW.loopF (ι := Nat) [4, 5, 31, 32] (fun p => [(33, I p)]) (fun p => [(448, some (O.box 31 (suV x))), (1216, some (SV W6))]) 30 (fun p => p ≤ 6) (fun p => 6 - p) 0 (by omega) (Weak.oC hcx [(448, 448), (1216, 1216)] (by refine ⟨?_, ?_, ?_⟩ <;> simp [go_sem, gL, kL, List.map_append, dv_push, d6])) ?_; simp only [St.at_nil, St.at_cons, lk, Nat.reduceEqDiff, ↓reduceIte, Option.getD_some, Option.getD_none, List.cons_append, List.nil_append, List.append_nil]
  intro i h1
  by_cases hi : i < 6
  rotate_left
  · obtain rfl : i = 6 := by omega
    repeat' (first | ((first | refine AW.sreg rfl fun K hK => ?_ | refine AW.exit ?_ | refine run_call _ _ _ ((stands_ok).pure rfl rfl _ _) rfl rfl (dstOk_of rfl) rfl rfl rfl ?_); simp only [go_sem, ↓reduceIte]) | (refine AW.seq_k fun K hK => ?_) | (refine AW.cF ?_) | (refine hK _ ?_; clear hK K) | (clear hK K; refine hK _ ?_; clear hK K) | (refine AW.ret (Fin.data rfl (by first | (simp only [go_sem]; done) | (simp [go_sem, *]; done) | (simp [go_sem]; omega) | rfl) rfl)))
  · obtain ⟨y, hy, hym, -⟩ := get_some (l := W6) (i := i) (by simpa [W6] using hi)
    have hgw : (dv (W6.map D.str))[0 + i]? = some (.d (.str y)) := by simp only [dv, Nat.zero_add, List.getElem?_map, hy, Option.map_some]
    have hyk : keyB y = true ∧ y.length ≤ 1000 := (show ∀ s ∈ W6, keyB s = true ∧ s.length ≤ 1000 by decide) y hym
    repeat' (first | (refine AW.sreg rfl fun K hK => ?_; simp only [go_sem, ↓reduceIte, hgw, List.length_map]) | (refine AW.seq_k fun K hK => ?_) | (refine AW.block ?_) | (refine AW.skip ?_; simp only [Then, InBlock]) | (refine AW.cT ?_) | (refine hK _ ?_; clear hK K) | (with_reducible refine andI ?_))
    refine AW.loopF (ι := Nat) [4, 5, 7, 31, 32, 33, 38, 39] (fun p => [(40, I p)]) (fun p => [(448, some (O.box 31 (suV x))), (1216, some (SV W6))]) 60 (fun p => p ≤ x.pairs.length) (fun p => x.pairs.length - p) 0 (Nat.zero_le _) (Weak.oC hcx [(448, 448), (1216, 1216)] (by refine ⟨?_, ?_, ?_⟩ <;> simp [go_sem, gL, kL, List.map_append, dv_push, d6])) ?_; simp only [St.at_nil, St.at_cons, lk, Nat.reduceEqDiff, ↓reduceIte, Option.getD_some, Option.getD_none, List.cons_append, List.nil_append, List.append_nil]
    intro j g1
    by_cases hj : j < x.pairs.length
    rotate_left
    · obtain rfl : j = x.pairs.length := by omega
      repeat' (first | ((first | refine AW.sreg rfl fun K hK => ?_ | refine AW.reg rfl ?_); simp only [go_sem, ↓reduceIte, List.length_map]) | (refine AW.seq_k fun K hK => ?_) | (refine AW.exit ?_; simp only [go_sem, ↓reduceIte]) | (refine AW.cF ?_) | (refine hK _ ?_; clear hK K) | (clear hK K; refine hK _ ?_; clear hK K) | (with_reducible refine andI ?_))
      exact ⟨i + 1, by omega, by omega, (Weak.oC hcx [(448, 448), (1216, 1216)] (by refine ⟨?_, ?_, ?_⟩ <;> simp [go_sem, gL, kL, List.map_append, dv_push]))⟩
    · obtain ⟨pr, hpr, hprm, -⟩ := get_some hj
      have hgp : (x.pairs.map prD)[j]? = some (prD pr) := by simp only [List.getElem?_map, hpr, Option.map_some]
      repeat' (first | (refine AW.sreg rfl fun K hK => ?_; simp only [go_sem, ↓reduceIte, hgp, List.length_map]) | (refine AW.seq_k fun K hK => ?_) | (refine AW.block ?_) | (refine AW.skip ?_; simp only [Then, InBlock]) | (refine AW.cT ?_) | (refine hK _ ?_; clear hK K) | (with_reducible refine andI ?_))
      have d7 : dv (T7.map (D.int .i64)) = [V.d (D.int .i64 0), V.d (D.int .i64 10), V.d (D.int .i64 100), V.d (D.int .i64 1000), V.d (D.int .i64 2000), V.d (D.int .i64 5000), V.d (D.int .i64 9000)] := rfl
      refine AW.loopF (ι := Nat × Int) [4, 5, 7, 9, 31, 32, 33, 38, 39, 40, 44, 45] (fun p => [(46, I p.1), (10, I p.2)]) (fun p => [(448, some (O.box 31 (suV x))), (1216, some (SV W6)), (4032, some (O.box 40 [S pr.1, S pr.2])), (4224, some (IV T7))]) 75 (fun p => p.1 ≤ 7 ∧ ((p.1 = 0 ∧ p.2 = 0) ∨ (0 < p.1 ∧ p.2 = lvF x rs y pr (T7.getD (p.1 - 1) 0)))) (fun p => 7 - p.1) (0, 0) ⟨by omega, .inl ⟨rfl, rfl⟩⟩ (Weak.oC hcx [(448, 448), (1216, 1216), (4032, 4032), (4224, 4224)] (by refine ⟨?_, ?_, ?_⟩ <;> simp [go_sem, gL, kL, List.map_append, dv_push, d6, d7])) ?_; simp only [St.at_nil, St.at_cons, lk, Nat.reduceEqDiff, ↓reduceIte, Option.getD_some, Option.getD_none, List.cons_append, List.nil_append, List.append_nil]
      rintro ⟨k, la⟩ ⟨k1, k2⟩
      dsimp only at k1 k2 ⊢
      by_cases hk : k < 7
      · obtain ⟨tt, ht, htm, -⟩ := get_some (l := T7) (i := k) (by simpa [T7] using hk)
        have hgt : (dv (T7.map (D.int .i64)))[0 + k]? = some (.d (.int .i64 tt)) := by simp only [dv, Nat.zero_add, List.getElem?_map, ht, Option.map_some]
        have htk : T7.getD k 0 = tt := by rw [List.getD_eq_getElem?_getD, ht]; rfl
        have hmo : momB tt = true := (show ∀ t ∈ T7, momB t = true by decide) tt htm
        have hlv := level_ok hx rs hrl (fun r hr => (hr2 r hr).1) hc hyk.1 hyk.2 hprm hmo
        have hle : la ≤ lvF x rs y pr tt := by
          rcases k2 with ⟨-, rfl⟩ | ⟨k3, rfl⟩
          · exact lv_nonneg x rs y pr tt
          · refine lv_mono x rs y pr ?_
            rw [← htk]
            exact (show ∀ k < 7, 0 < k → T7.getD (k - 1) 0 ≤ T7.getD k 0 by decide) k hk k3
        generalize hL : lvF x rs y pr tt = lv at hlv hle
        have elt : decide (lv < la) = false := decide_eq_false (by omega)
        repeat' (first | ((first | refine AW.sreg rfl fun K hK => ?_ | refine AW.reg rfl ?_ | refine run_call _ _ _ ((hlv).pure rfl rfl _ _) rfl rfl (dstOk_of rfl) rfl rfl rfl ?_); simp only [go_sem, ↓reduceIte, hgt, elt, bne_self_eq_false]) | (refine AW.seq_k fun K hK => ?_) | (refine AW.block ?_) | (refine AW.skip ?_; simp only [Then, InBlock]) | (refine AW.cT ?_) | (refine AW.cF ?_) | (refine hK _ ?_; clear hK K) | (with_reducible refine andI ?_))
        exact ⟨(k + 1, lv), ⟨by simp only; omega, .inr ⟨by simp only; omega, by simp only [Nat.add_sub_cancel, htk, hL]⟩⟩, by simp only; omega, (Weak.oC hcx [(448, 448), (1216, 1216), (4032, 4032), (4224, 4224)] (by refine ⟨?_, ?_, ?_⟩ <;> simp [go_sem, gL, kL, List.map_append, dv_push]))⟩
      · obtain rfl : k = 7 := by omega
        obtain ⟨-, rfl⟩ : 0 < 7 ∧ la = lvF x rs y pr (T7.getD (7 - 1) 0) := by
          rcases k2 with ⟨e, -⟩ | e
          · omega
          · exact e
        have hau := lv_author (x := x) (l := rs) (who := y) (p := pr) (a := T7.getD (7 - 1) 0)
        have hnn := lv_nonneg x rs y pr (T7.getD (7 - 1) 0)
        generalize lvF x rs y pr (T7.getD (7 - 1) 0) = lv at hau hnn ⊢
        have hpa := paperAt_any x.papers (by have := hx.plen; omega) pr.1
        by_cases hz : 0 < lv
        rotate_left
        · have ez : decide ((0 : Int) < lv) = false := decide_eq_false hz
          repeat' (first | ((first | refine AW.sreg rfl fun K hK => ?_ | refine AW.reg rfl ?_ | refine run_call _ _ _ ((hpa).pure rfl rfl _ _) rfl rfl (dstOk_of rfl) rfl rfl rfl ?_); simp only [go_sem, ↓reduceIte, ez]) | (refine AW.seq_k fun K hK => ?_) | (refine AW.skip ?_; simp only [Then, InBlock]) | (refine AW.exit ?_; simp only [go_sem, ↓reduceIte]) | (refine AW.cF ?_) | (refine hK _ ?_; clear hK K) | (clear hK K; refine hK _ ?_; clear hK K) | (with_reducible refine andI ?_))
          exact ⟨j + 1, by omega, by omega, (Weak.oC hcx [(448, 448), (1216, 1216)] (by refine ⟨?_, ?_, ?_⟩ <;> simp [go_sem, gL, kL, List.map_append, dv_push]))⟩
        have ez : decide ((0 : Int) < lv) = true := decide_eq_true hz
        have hba := contains_Pr x.barred (by have := hx.blen; omega) (pr.1, y)
        by_cases hm : (pr.1, y) ∈ x.barred
        rotate_left
        · rw [decide_eq_false hm] at hba
          repeat' (first | ((first | refine AW.sreg rfl fun K hK => ?_ | refine AW.reg rfl ?_ | refine run_call _ _ _ ((hpa).pure rfl rfl _ _) rfl rfl (dstOk_of rfl) rfl rfl rfl ?_ | refine run_call _ _ _ ((hba).pure rfl rfl _ _) rfl rfl (dstOk_of rfl) rfl rfl rfl ?_); simp only [go_sem, ↓reduceIte, ez]) | (refine AW.seq_k fun K hK => ?_) | (refine AW.skip ?_; simp only [Then, InBlock]) | (refine AW.exit ?_; simp only [go_sem, ↓reduceIte]) | (refine AW.cF ?_) | (refine hK _ ?_; clear hK K) | (clear hK K; refine hK _ ?_; clear hK K) | (with_reducible refine andI ?_))
          exact ⟨j + 1, by omega, by omega, (Weak.oC hcx [(448, 448), (1216, 1216)] (by refine ⟨?_, ?_, ?_⟩ <;> simp [go_sem, gL, kL, List.map_append, dv_push]))⟩
        rw [decide_eq_true hm] at hba
        have hat := hau hz hm
        unfold auF at hat
        rcases paAt_cases x.papers pr.1 with ⟨-, e2⟩ | ⟨jj, pp, e1, hjj, e2⟩
        · rw [e2] at hat
          cases hat
        · rw [e2] at hat
          rw [e1] at hpa
          have hgj : (x.papers.map paD)[jj]? = some (paD pp) := by simp only [List.getElem?_map, hjj, Option.map_some]
          have hco := contains_St pp.2.2.2.1 (by have := (hx.papers pp (List.mem_of_getElem? hjj)).1.aul; omega) y
          rw [show (pp.2.2.2.1.any fun z => y == z) = true from hat] at hco
          repeat' (first | ((first | refine AW.sreg rfl fun K hK => ?_ | refine AW.reg rfl ?_ | refine run_call _ _ _ ((hpa).pure rfl rfl _ _) rfl rfl (dstOk_of rfl) rfl rfl rfl ?_ | refine run_call _ _ _ ((hba).pure rfl rfl _ _) rfl rfl (dstOk_of rfl) rfl rfl rfl ?_ | refine run_call _ _ _ ((hco).pure rfl rfl _ _) rfl rfl (dstOk_of rfl) rfl rfl rfl ?_); simp only [go_sem, ↓reduceIte, ez, hgj]) | (refine AW.seq_k fun K hK => ?_) | (refine AW.skip ?_; simp only [Then, InBlock]) | (refine AW.exit ?_; simp only [go_sem, ↓reduceIte]) | (refine AW.cF ?_) | (refine hK _ ?_; clear hK K) | (clear hK K; refine hK _ ?_; clear hK K) | (with_reducible refine andI ?_))
          exact ⟨j + 1, by omega, by omega, (Weak.oC hcx [(448, 448), (1216, 1216)] (by refine ⟨?_, ?_, ?_⟩ <;> simp [go_sem, gL, kL, List.map_append, dv_push]))⟩
end Go.AX
