/- The book of reviews. -/
import Derived.Test.YtecggjfjafnepaaGreatDoorCG
import Derived.Test.YtecggjfjafnepaaGreatDoorCC
import Derived.Test.YtecggjfjafnepaaGreatDoorAx47
set_option linter.unusedSimpArgs false
set_option linter.unusedVariables false
set_option linter.unnecessarySimpa false
set_option maxRecDepth 1000000
set_option maxHeartbeats 4000000
namespace Go.AX
open Go Go.Proofs Go.RowKit
abbrev Gv := Pr × List Rv
def rvK : RowS Gv := ⟨fun g => g.2.map rvD, 50, 7, fun _ v => v⟩
theorem rvK_ok : rvK.Ok where
 frz := fun hv g v h => by
  rcases h with rfl | ⟨i, a, n, rfl⟩ <;> simp [rvK, frz]
 ren := fun f g v => rfl
 bel := fun n g v => rfl
abbrev kyV (gs : List Gv) : List D := gs.map fun g => prD g.1
theorem fidxP_out {k : Pr} {ks : List Pr} (h : k ∉ ks) : (ks.findIdx? fun x => decide (k = x)) = none := by
 rw [List.findIdx?_eq_none_iff]
 intro x hx
 simp only [decide_eq_false_iff_not]
 intro e
 exact h (e ▸ hx)
theorem fidxP_in : ∀ {ks : List Pr} {j : Nat} {k : Pr}, ks.Nodup → ks[j]? = some k → (ks.findIdx? fun x => decide (k = x)) = some j
 | [], j, k, _, h => by simp at h
 | x :: r, 0, k, _, h => by
  simp at h
  subst h
  simp [List.findIdx?_cons]
 | x :: r, j + 1, k, hn, h => by
  simp only [List.getElem?_cons_succ] at h
  rw [List.nodup_cons] at hn
  have hne : ¬ k = x := fun e => hn.1 (e ▸ List.mem_of_getElem? h)
  rw [List.findIdx?_cons]
  simp only [hne, decide_false, Bool.false_eq_true, if_false, fidxP_in hn.2 h, Option.map_some]
theorem kyV_in {gs : List Gv} {j : Nat} {g : Gv} (hn : (gs.map (·.1)).Nodup) (h : gs[j]? = some g) : fndK (prD g.1) (kyV gs) = some (some j) := by
 have e : kyV gs = (gs.map (·.1)).map prD := by simp [kyV]
 rw [e, fnd_pr, fidxP_in (j := j) hn (by rw [List.getElem?_map, h]; rfl)]
theorem kyV_out {gs : List Gv} {k : Pr} (h : k ∉ gs.map (·.1)) : fndK (prD k) (kyV gs) = some none := by
 have e : kyV gs = (gs.map (·.1)).map prD := by simp [kyV]
 rw [e, fnd_pr, fidxP_out h]
abbrev rkey (r : Rv) : Pr := (r.2.2.1, r.2.2.2.1)
abbrev gvF (l : List Rv) : List Gv := grpF rkey (fun r : Rv => r) l
theorem toDL_rvK {hv : Nat → Option O} {keep : Nat → Bool} {n : Nat} (hn : 3 ≤ n) : ∀ (gs : List Gv) (B : Nat), (∀ j g, gs[j]? = some g → rvK.row g ≠ [] → keep (B + j) = false ∧ hv (B + j) = some (.vec rvK.e rvK.s (dv (rvK.row g)))) → toDL (toD hv keep n) (rowsV rvK B gs) = some (gs.map fun g => D.sl (g.2.map rvD))
 | [], _, _ => rfl
 | g :: r, B, h => by
  have ih := toDL_rvK hn r (B + 1) fun j x hx => by
   have := h (j + 1) x (by simpa using hx)
   rw [show B + (j + 1) = B + 1 + j by omega] at this
   exact this
  have h1 : toD hv keep n (rref B (rvK.row g)) = some (.sl (rvK.row g)) := by
   obtain ⟨m, rfl⟩ : ∃ q, n = q + 3 := ⟨n - 3, by omega⟩
   have h0 := h 0 g rfl
   rw [Nat.add_zero] at h0
   generalize rvK.row g = xs at *
   cases xs with
   | nil => rfl
   | cons x xs =>
    obtain ⟨hk, hh⟩ := h0 (by simp)
    simp only [rref]
    rw [toD]
    simp only [hk, Bool.false_eq_true, if_false, hh, dv_length, Nat.zero_add, Nat.le_refl, if_true, List.drop_zero]
    rw [show (dv (x :: xs)).take (x :: xs).length = dv (x :: xs) from List.take_of_length_le (by simp [dv])]
    rw [show toDL (toD hv keep (m + 2)) (dv (x :: xs)) = some (x :: xs) from toDL_dv hv keep (m + 1) _]
  have h2 : toD hv keep n (rvK.val g (rref B (rvK.row g))) = some (D.sl (g.2.map rvD)) := h1
  simp only [rowsV, toDL, h2, ih, List.map_cons]
theorem frz_book {hv : Nat → Option O} {keep : Nat → Bool} {t : TypeId} {d0 d1 d2 d3 d4 d5 d6 : D} {ks : List D} {gs : List Gv} (h1 : keep 320 = false) (h2 : keep 192 = false) (hb : hv 320 = some (.box t [.d d0, .d d1, .d d2, .d d3, .d d4, .d d5, .d d6, .mpr 192])) (hm : hv 192 = some (.map ks (rowsV rvK 6400 gs)))
  (hf : ∀ j g, gs[j]? = some g → rvK.row g ≠ [] → keep (6400 + j) = false ∧ hv (6400 + j) = some (.vec rvK.e rvK.s (dv (rvK.row g)))) : frz hv keep (.ptr 320 0) = .d (.ptr [d0, d1, d2, d3, d4, d5, d6, .map ks (gs.map fun g => D.sl (g.2.map rvD))] 0) := by
 have e1 : toD hv keep 7 (.mpr 192) = some (.map ks (gs.map fun g => D.sl (g.2.map rvD))) := by
  rw [toD]
  simp only [h2, Bool.false_eq_true, if_false, hm]
  rw [toDL_rvK (by omega) gs 6400 hf]
 have e2 : toD hv keep 8 (.ptr 320 0) = some (.ptr [d0, d1, d2, d3, d4, d5, d6, .map ks (gs.map fun g => D.sl (g.2.map rvD))] 0) := by
  rw [toD]
  have hd : ∀ x : D, toD hv keep 7 (.d x) = some x := fun _ => rfl
  simp only [h1, Bool.false_eq_true, if_false, hb, toDL, hd, e1]
 simp only [frz, h1, Bool.false_eq_true, if_false, e2]
theorem bookOf_any (x : Su) (l : List Rv) (hl : l.length ≤ 20) : Does Tryz.prog 64 [.d (suD x), .d (.sl (l.map rvD))] [] (.d (.ptr (bkC (suC x) (gvF l)) 0)) [] := by
 refine Does.of_AW (n := 36) Tryz.func64 rfl rfl rfl fun cx hcx => ?_
 repeat' (first | (refine AW.sreg rfl fun K hK => ?_; simp only [go_sem, ↓reduceIte, List.length_map]) | (refine AW.seq_k fun K hK => ?_) | (refine AW.block ?_) | (refine hK _ ?_; clear hK K))
 refine AW.loopF (ι := Nat × List Gv) [5, 12, 13] (fun p => [(14, I p.1)]) (fun p => (320, some (O.box 190 [.d (.sl (x.sheet.map quD)), .d (.sl (x.papers.map paD)), .d (.sl (x.pairs.map prD)), .d (.sl (x.barred.map prD)), .d (.sl (x.chairs.map .str)), .d (.int .i64 x.due), .d (.int .i64 x.reply), .mpr 192])) :: (192, some (O.map (kyV p.2) (rowsV rvK 6400 p.2))) :: rowsH rvK 6400 p.2) 200 (fun p => p.1 ≤ l.length ∧ p.2 = gvF (l.take p.1)) (fun p => l.length - p.1) (0, []) ⟨Nat.zero_le _, rfl⟩ (Weak.oC hcx [(320, 320), (192, 192)] (by refine ⟨?_, ?_, ?_⟩ <;> simp [go_sem, gL, kL, List.map_append, dv_push, rowsV_nil, rowsH_nil, kyV])) ?_; simp only [St.at_nil, St.at_cons, lk, Nat.reduceEqDiff, ↓reduceIte, Option.getD_some, Option.getD_none, List.cons_append, List.nil_append, List.append_nil]
 rintro ⟨i, gs⟩ ⟨h1, h2⟩
 dsimp only at h1 h2 ⊢
 by_cases hi : i < l.length
 ·obtain ⟨r, hr, hrm, -⟩ := get_some hi
  have hget : (l.map rvD)[i]? = some (rvD r) := by simp only [List.getElem?_map, hr, Option.map_some]
  have h3 : (gs.map (·.1)).Nodup := by rw [h2]; exact grpF_nd _ _ _
  have h4 : ∀ g ∈ gs, g.2 ≠ [] := by rw [h2]; exact grpF_pos _ _ _
  have h5 : gs.length ≤ 20 := by
   have := grpF_len rkey (fun r : Rv => r) (l.take i)
   rw [h2]
   show (grpF rkey (fun r : Rv => r) (l.take i)).length ≤ 20
   simp only [List.length_take] at this
   omega
  have h6 : ∀ g ∈ gs, g.2.length ≤ 20 := fun g hg => by
   have := grpF_rlen rkey (fun r : Rv => r) (h2 ▸ hg)
   simp only [List.length_take] at this
   omega
  have hst : gvF (l.take (i + 1)) = addG gs (rkey r) r := by rw [h2]; exact grpF_step rkey (fun r : Rv => r) hr
  have hpo := pairOf_any r
  by_cases hin : rkey r ∈ gs.map (·.1)
  ·obtain ⟨j, hj⟩ := List.getElem?_of_mem hin
   rw [List.getElem?_map] at hj
   obtain ⟨g, hgj, hge⟩ := Option.map_eq_some_iff.1 hj
   have hjl := get_lt hgj
   have hgm := List.mem_of_getElem? hgj
   have ha := addG_in (n := r) h3 hgj hge
   rw [ha] at hst
   have hf := kyV_in h3 hgj
   rw [hge] at hf
   have hgv : (rowsV rvK 6400 gs)[j]? = some (.slr (6400 + j) 0 g.2.length) := by
    rw [rowsV_get, hgj]
    simp only [Option.map_some]
    rw [rref_pos (by simpa [rvK] using h4 g hgm)]
    simp [rvK]
   have hlk : lk (rowsH rvK 6400 gs) (6400 + j) = some (some (.vec 50 7 (dv (g.2.map rvD)))) := rowsH_lk rvK hgj (by simpa [rvK] using h4 g hgm)
   have htk : List.take g.2.length (dv (g.2.map rvD)) = dv (g.2.map rvD) := List.take_of_length_le (by simp [dv])
   have hN0 : ∀ n : Nat, n ≤ 6399 → (n = 6400 + j) = False := fun n hn => by simp; omega
   have hN1 : ∀ n : Nat, 12800 ≤ n → (n = 6400 + j) = False := fun n hn => by simp; omega
   have hN2 : ∀ n : Nat, n ≤ 6399 → (6400 + j = n) = False := fun n hn => by simp; omega
   have hN3 : ∀ n : Nat, 12800 ≤ n → (6400 + j = n) = False := fun n hn => by simp; omega
   have hgle := h6 g hgm
   have hR0 : swpN (6400 + j) 6400 (6400 + j) = 6400 := swpN_a _ _
   have hR1 : ∀ n : Nat, n ≤ 6399 → swpN (6400 + j) 6400 n = n := fun n hn => swpN_o (by omega) (by omega)
   have hR2 : ∀ n : Nat, 12800 ≤ n → swpN (6400 + j) 6400 n = n := fun n hn => swpN_o (by omega) (by omega)
   have hkl : kyV (gs.set j (rkey r, g.2 ++ [r])) = kyV gs := by
    unfold kyV
    rw [List.map_set]
    exact set_same (by rw [List.getElem?_map, hgj, Option.map_some, hge])
   repeat' (first | ((first | refine AW.sreg rfl fun K hK => ?_ | refine AW.reg rfl ?_ | refine AW.regD hmix rfl ?_ | refine runT_call _ _ [] (fun hv _ => (hpo).pure rfl rfl hv _) rfl rfl (dstOk_of rfl) rfl rfl ?_); simp only [go_sem, ↓reduceIte, List.length_map, hget, hf, hgv, hlk, htk, hN0, hN1, hN2, hN3, dv_length, rowsV_len, Int.toNat_natCast]) | (refine AW.seq_k fun K hK => ?_) | (refine AW.block ?_) | (refine AW.skip ?_; simp only [Then, InBlock]) | (refine AW.cT ?_) | (refine hK _ ?_; clear hK K) | (with_reducible refine And.intro (?_ : regOk _ _ = true) ?_; exact regOk_ren (swpN (6400 + j) 6400) (swpN_inj _ _) (by simp only [List.map_cons, List.map_nil, List.map_append, Tr.sig, Tr.wids, Tr.rids, renP, hR0, hR1, hR2, Nat.reduceLeDiff]; kernel_rfl)) | (with_reducible refine andI ?_))
   exact ⟨(i + 1, gs.set j (rkey r, g.2 ++ [r])), ⟨hi, hst.symm⟩, by simp only; omega, (by
     have hgl0 : (gs).length ≤ 60 := by omega
     obtain ⟨F, hF⟩ : ∃ F : Nat → Nat, F = sw2 192 192 (6400 + j) 14080 := ⟨_, rfl⟩
     have w320 : F 320 = 320 := by rw [hF]; exact sw2_o (by omega) (by omega) (by omega) (by omega)
     have ws : F 192 = 192 := by rw [hF]; exact sw2_a (by omega) (by omega)
     have wj : F (6400 + j) = 14080 := by rw [hF]; exact sw2_c (by omega) (by omega)
     have wo : ∀ q, q < (gs).length → q ≠ j → F (6400 + q) = 6400 + q := fun q hq hne => by rw [hF]; exact sw2_o (by omega) (by omega) (by omega) (by omega)
     have hsp : ∀ hv, frzL hv (fun _ => true) ((rowsV rvK 6400 gs).set j (.slr 14080 0 (g.2.length + 1))) = renL F (rowsV rvK 6400 ((gs).set j (rkey r, g.2 ++ [r]))) := sp_set rvK_ok (g := (rkey r, g.2 ++ [r])) (hjl) wj wo (by simp [rvK]) (by simp [rvK])
     have hbl : belL (64 * 200) (rowsV rvK 6400 ((gs).set j (rkey r, g.2 ++ [r]))) = true := belL_rowsV rvK_ok _ _ (by (try simp only [List.length_append, List.length_cons, List.length_nil, List.length_set] at hgl0 ⊢); omega)
     (try simp at hbl hsp)
     exact Weak.rowsH (R := rvK) hcx F 6400 _ [_, _] rfl rfl (fun q hq => by first | exact absurd hq (Nat.not_lt_zero _) | (obtain rfl : q = 0 := (by simp only [List.length_cons, List.length_nil] at hq; omega); exact w0)) (by simp) (by simp [go_sem, frz, ws, w320]) (by simp [go_sem, ws, w320, hsp, hbl, hN2, hN3, hkl]) (fun q zz hq hx => by
       have hql : q < (gs).length := by have := get_lt hq; rwa [List.length_set] at this
       refine ⟨by (try simp only [List.length_append, List.length_cons, List.length_nil] at hgl0 hql ⊢); omega, ?_⟩
       by_cases h : j = q
       ·subst h
        rw [List.getElem?_set_self hql] at hq
        have hxe : zz = (rkey r, g.2 ++ [r]) := (Option.some.inj hq).symm
        subst hxe
        rw [wj]
        simp [St.hv, lk, rvK, dv, hN2, hN3, hkl]
       ·rw [List.getElem?_set_ne h] at hq
        rw [wo q hql (Ne.symm h)]
        repeat (refine (hv_skip (by omega)).trans ?_)
        exact hv_rowsE hq hx) (fun q hq => by first | exact absurd hq (Nat.not_lt_zero _) | (obtain rfl : q = 0 := (by simp only [List.length_cons, List.length_nil] at hq; omega); exact ⟨_, List.mem_cons_self⟩)) (by rw [hF]; exact sw2_inj _ _ _ _))⟩
  ·have hf := kyV_out hin
   have ha := addG_out (n := r) hin
   rw [ha] at hst
   have hkll : (kyV gs).length = gs.length := by simp [kyV]
   have hsetA : ∀ x y : V, (rowsV rvK 6400 gs ++ [x]).set gs.length y = rowsV rvK 6400 gs ++ [y] := fun x y => by
    rw [List.set_append_right _ _ (by rw [rowsV_len]; exact Nat.le_refl _)]
    simp [rowsV_len]
   have hkl : kyV (gs ++ [(rkey r, [r])]) = kyV gs ++ [prD (rkey r)] := by simp [kyV]
   repeat' (first | ((first | refine AW.sreg rfl fun K hK => ?_ | refine AW.reg rfl ?_ | refine AW.regD hmix rfl ?_ | refine runT_call _ _ [] (fun hv _ => (hpo).pure rfl rfl hv _) rfl rfl (dstOk_of rfl) rfl rfl ?_); simp only [go_sem, ↓reduceIte, List.length_map, hget, hf, hsetA, hkll, dv_length, rowsV_len, Int.toNat_natCast, List.length_append, List.length_cons, List.length_nil]) | (refine AW.seq_k fun K hK => ?_) | (refine AW.block ?_) | (refine AW.skip ?_; simp only [Then, InBlock]) | (refine AW.cT ?_) | (refine hK _ ?_; clear hK K) | (with_reducible refine And.intro (?_ : regOk _ _ = true) ?_; kernel_rfl) | (with_reducible refine andI ?_))
   exact ⟨(i + 1, gs ++ [(rkey r, [r])]), ⟨hi, hst.symm⟩, by simp only; omega, (by
     have hgl0 : (gs).length ≤ 60 := by omega
     obtain ⟨F, hF⟩ : ∃ F : Nat → Nat, F = sw2 192 192 (6400 + (gs).length) 14080 := ⟨_, rfl⟩
     have w320 : F 320 = 320 := by rw [hF]; exact sw2_o (by omega) (by omega) (by omega) (by omega)
     have ws : F 192 = 192 := by rw [hF]; exact sw2_a (by omega) (by omega)
     have wj : F (6400 + (gs).length) = 14080 := by rw [hF]; exact sw2_c (by omega) (by omega)
     have wo : ∀ q, q < (gs).length → q ≠ (gs).length → F (6400 + q) = 6400 + q := fun q hq hne => by rw [hF]; exact sw2_o (by omega) (by omega) (by omega) (by omega)
     have hsp : ∀ hv, frzL hv (fun _ => true) (rowsV rvK 6400 gs ++ [.slr 14080 0 1]) = renL F (rowsV rvK 6400 ((gs) ++ [(rkey r, [r])])) := sp_app rvK_ok (g := (rkey r, [r])) wj (fun q hq => wo q hq (by omega)) (by simp [rvK]) (by simp [rvK])
     have hbl : belL (64 * 200) (rowsV rvK 6400 ((gs) ++ [(rkey r, [r])])) = true := belL_rowsV rvK_ok _ _ (by (try simp only [List.length_append, List.length_cons, List.length_nil, List.length_set] at hgl0 ⊢); omega)
     (try simp at hbl hsp)
     exact Weak.rowsH (R := rvK) hcx F 6400 _ [_, _] rfl rfl (fun q hq => by first | exact absurd hq (Nat.not_lt_zero _) | (obtain rfl : q = 0 := (by simp only [List.length_cons, List.length_nil] at hq; omega); exact w0)) (by simp) (by simp [go_sem, frz, ws, w320]) (by simp [go_sem, ws, w320, hsp, hbl, hkl]) (fun q zz hq hx => by
       rcases Nat.lt_trichotomy q (gs).length with h | h | h
       ·rw [List.getElem?_append_left h] at hq
        refine ⟨by (try simp only [List.length_append, List.length_cons, List.length_nil] at hgl0 h ⊢); omega, ?_⟩
        rw [wo q h (by omega)]
        repeat (refine (hv_skip (by omega)).trans ?_)
        exact hv_rowsE hq hx
       ·subst h
        have hxe : zz = (rkey r, [r]) := by simpa using hq.symm
        subst hxe
        rw [wj]
        exact ⟨by (try simp only [List.length_append, List.length_cons, List.length_nil] at hgl0 ⊢); omega, by simp [St.hv, lk, rvK, dv, hkl]⟩
       ·rw [List.getElem?_eq_none (by simp only [List.length_append, List.length_cons, List.length_nil] at h ⊢; omega)] at hq
        cases hq) (fun q hq => by first | exact absurd hq (Nat.not_lt_zero _) | (obtain rfl : q = 0 := (by simp only [List.length_cons, List.length_nil] at hq; omega); exact ⟨_, List.mem_cons_self⟩)) (by rw [hF]; exact sw2_inj _ _ _ _))⟩
 ·obtain rfl : i = l.length := by omega
  rw [List.take_length] at h2
  repeat' (first | (refine AW.sreg rfl fun K hK => ?_; simp only [go_sem, ↓reduceIte, List.length_map]) | (refine AW.seq_k fun K hK => ?_) | (refine AW.exit ?_; simp only [go_sem, ↓reduceIte]) | (refine AW.cF ?_) | (refine hK _ ?_; clear hK K) | (clear hK K; refine hK _ ?_; clear hK K))
  subst h2
  refine AW.ret (Fin.data rfl ((frz_book (gs := gvF l) rfl rfl rfl rfl (fun q g hq hg => ⟨rfl, ?_⟩)).trans rfl) rfl)
  have hql := get_lt hq
  repeat (refine (hv_skip (by omega)).trans ?_)
  exact hv_rowsE hq hg
end Go.AX

namespace Go.AX
open Go Go.Proofs Go.RowKit
/-- What somebody sees of the review of a pair at a moment. -/
def lvF (x : Su) (l : List Rv) (who : Str) (p : Pr) (at_ : Int) : Int :=
 if (auF x.papers p.1 who && decide (x.reply ≤ at_)) = true then 1
 else if (auF x.papers p.1 who || decide ((p.1, who) ∈ x.barred)) = true then 0
 else if (who == p.2 || x.chairs.any fun y => who == y) = true then 3
 else if ((lastF (rowG (gvF l) (p.1, who)) at_ true).isSome && decide ((p.1, who) ∈ x.pairs)) = true then 2 else 0
theorem level_any {x : Su} (h : SuR x) (hc : csF x = 0) (l : List Rv) (hl : l.length ≤ 20) (who : Str) (p : Pr) (at_ : Int) :
  Does Tryz.prog 66 [.d (.ptr (bkC (suC x) (gvF l)) 0), S who, .d (prD p), I at_] [] (I (lvF x l who p at_)) [] := by
 obtain ⟨r1, r2, r3⟩ := csF_rise hc
 have hpl := h.plen
 have hql := h.qlen
 have hbl := h.blen
 have hcl := len_Ch _ h.chairs
 have hau := isAuthor_any x (by omega) (fun p hp => by have := (h.papers p hp).1.aul; omega) r1 p.1 who
 have hib := isIn_any x.barred (by omega) r3 (p.1, who)
 have hip := isIn_any x.pairs (by omega) r2 (p.1, who)
 have hch := contains_St x.chairs (by omega) who
 have hla := last_any (suC x) rfl (gvF l) (fun g hg => by have := grpF_rlen rkey (fun r : Rv => r) hg; omega) (p.1, who) at_ true
 refine Does.of_AW (n := 83) Tryz.func66 rfl rfl rfl fun cx hcx => ?_
 unfold lvF
 generalize (lastF (rowG (gvF l) (p.1, who)) at_ true).getD zRv = zr at hla
 generalize (lastF (rowG (gvF l) (p.1, who)) at_ true).isSome = b5 at hla
 generalize auF x.papers p.1 who = b1 at hau
 generalize decide ((p.1, who) ∈ x.barred) = b2 at hib
 generalize decide ((p.1, who) ∈ x.pairs) = b6 at hip
 generalize (x.chairs.any fun y => who == y) = b4 at hch
 cases b1
 ·cases b2
  ·cases e3 : (who == p.2)
   ·cases b4
    ·cases b5
     ·repeat' (first | ((first | refine AW.sreg rfl fun K hK => ?_ | refine AW.sregD hmix rfl fun K hK => ?_ | refine runT_call _ _ [] (fun hv _ => (hau).pure rfl rfl hv _) rfl rfl (dstOk_of rfl) rfl rfl ?_ | refine runT_call _ _ [] (fun hv _ => (hib).pure rfl rfl hv _) rfl rfl (dstOk_of rfl) rfl rfl ?_ | refine run_call _ _ _ ((hch).pure rfl rfl _ _) rfl rfl (dstOk_of rfl) rfl rfl rfl ?_ | refine run_call _ _ _ ((hla).pure rfl rfl _ _) rfl rfl (dstOk_of rfl) rfl rfl rfl ?_); simp only [go_sem, ↓reduceIte, e3]) | (refine AW.seq_k fun K hK => ?_) | (refine AW.block ?_) | (refine AW.skip ?_; simp only [Then, InBlock]) | (refine AW.cF ?_) | (refine hK _ ?_; clear hK K) | (with_reducible refine And.intro (?_ : regOk _ _ = true) ?_; kernel_rfl) | (refine AW.ret (Fin.data rfl (by first | (simp only [go_sem]; done) | (simp [go_sem, *]; done) | (simp [go_sem]; omega) | rfl) rfl)))
     ·cases b6
      ·repeat' (first | ((first | refine AW.sreg rfl fun K hK => ?_ | refine AW.sregD hmix rfl fun K hK => ?_ | refine runT_call _ _ [] (fun hv _ => (hau).pure rfl rfl hv _) rfl rfl (dstOk_of rfl) rfl rfl ?_ | refine runT_call _ _ [] (fun hv _ => (hib).pure rfl rfl hv _) rfl rfl (dstOk_of rfl) rfl rfl ?_ | refine runT_call _ _ [] (fun hv _ => (hip).pure rfl rfl hv _) rfl rfl (dstOk_of rfl) rfl rfl ?_ | refine run_call _ _ _ ((hch).pure rfl rfl _ _) rfl rfl (dstOk_of rfl) rfl rfl rfl ?_ | refine run_call _ _ _ ((hla).pure rfl rfl _ _) rfl rfl (dstOk_of rfl) rfl rfl rfl ?_); simp only [go_sem, ↓reduceIte, e3]) | (refine AW.seq_k fun K hK => ?_) | (refine AW.block ?_) | (refine AW.skip ?_; simp only [Then, InBlock]) | (refine AW.cF ?_) | (refine hK _ ?_; clear hK K) | (with_reducible refine And.intro (?_ : regOk _ _ = true) ?_; kernel_rfl) | (refine AW.ret (Fin.data rfl (by first | (simp only [go_sem]; done) | (simp [go_sem, *]; done) | (simp [go_sem]; omega) | rfl) rfl)))
      ·repeat' (first | ((first | refine AW.sreg rfl fun K hK => ?_ | refine AW.sregD hmix rfl fun K hK => ?_ | refine runT_call _ _ [] (fun hv _ => (hau).pure rfl rfl hv _) rfl rfl (dstOk_of rfl) rfl rfl ?_ | refine runT_call _ _ [] (fun hv _ => (hib).pure rfl rfl hv _) rfl rfl (dstOk_of rfl) rfl rfl ?_ | refine runT_call _ _ [] (fun hv _ => (hip).pure rfl rfl hv _) rfl rfl (dstOk_of rfl) rfl rfl ?_ | refine run_call _ _ _ ((hch).pure rfl rfl _ _) rfl rfl (dstOk_of rfl) rfl rfl rfl ?_ | refine run_call _ _ _ ((hla).pure rfl rfl _ _) rfl rfl (dstOk_of rfl) rfl rfl rfl ?_); simp only [go_sem, ↓reduceIte, e3]) | (refine AW.seq_k fun K hK => ?_) | (refine AW.block ?_) | (refine AW.skip ?_; simp only [Then, InBlock]) | (refine AW.cT ?_) | (refine AW.cF ?_) | (refine hK _ ?_; clear hK K) | (with_reducible refine And.intro (?_ : regOk _ _ = true) ?_; kernel_rfl) | (refine AW.ret (Fin.data rfl (by first | (simp only [go_sem]; done) | (simp [go_sem, *]; done) | (simp [go_sem]; omega) | rfl) rfl)))
    ·repeat' (first | ((first | refine AW.sreg rfl fun K hK => ?_ | refine AW.sregD hmix rfl fun K hK => ?_ | refine runT_call _ _ [] (fun hv _ => (hau).pure rfl rfl hv _) rfl rfl (dstOk_of rfl) rfl rfl ?_ | refine runT_call _ _ [] (fun hv _ => (hib).pure rfl rfl hv _) rfl rfl (dstOk_of rfl) rfl rfl ?_ | refine run_call _ _ _ ((hch).pure rfl rfl _ _) rfl rfl (dstOk_of rfl) rfl rfl rfl ?_); simp only [go_sem, ↓reduceIte, e3]) | (refine AW.seq_k fun K hK => ?_) | (refine AW.block ?_) | (refine AW.cT ?_) | (refine AW.cF ?_) | (refine hK _ ?_; clear hK K) | (with_reducible refine And.intro (?_ : regOk _ _ = true) ?_; kernel_rfl) | (refine AW.ret (Fin.data rfl (by first | (simp only [go_sem]; done) | (simp [go_sem, *]; done) | (simp [go_sem]; omega) | rfl) rfl)))
   ·repeat' (first | ((first | refine AW.sreg rfl fun K hK => ?_ | refine AW.sregD hmix rfl fun K hK => ?_ | refine runT_call _ _ [] (fun hv _ => (hau).pure rfl rfl hv _) rfl rfl (dstOk_of rfl) rfl rfl ?_ | refine runT_call _ _ [] (fun hv _ => (hib).pure rfl rfl hv _) rfl rfl (dstOk_of rfl) rfl rfl ?_); simp only [go_sem, ↓reduceIte, e3]) | (refine AW.seq_k fun K hK => ?_) | (refine AW.block ?_) | (refine AW.cT ?_) | (refine AW.cF ?_) | (refine hK _ ?_; clear hK K) | (with_reducible refine And.intro (?_ : regOk _ _ = true) ?_; kernel_rfl) | (refine AW.ret (Fin.data rfl (by first | (simp only [go_sem]; done) | (simp [go_sem, *]; done) | (simp [go_sem]; omega) | rfl) rfl)))
  ·repeat' (first | ((first | refine AW.sreg rfl fun K hK => ?_ | refine AW.sregD hmix rfl fun K hK => ?_ | refine runT_call _ _ [] (fun hv _ => (hau).pure rfl rfl hv _) rfl rfl (dstOk_of rfl) rfl rfl ?_ | refine runT_call _ _ [] (fun hv _ => (hib).pure rfl rfl hv _) rfl rfl (dstOk_of rfl) rfl rfl ?_); simp only [go_sem, ↓reduceIte]) | (refine AW.seq_k fun K hK => ?_) | (refine AW.block ?_) | (refine AW.cT ?_) | (refine AW.cF ?_) | (refine hK _ ?_; clear hK K) | (with_reducible refine And.intro (?_ : regOk _ _ = true) ?_; kernel_rfl) | (refine AW.ret (Fin.data rfl (by first | (simp only [go_sem]; done) | (simp [go_sem, *]; done) | (simp [go_sem]; omega) | rfl) rfl)))
 ·by_cases ht : x.reply ≤ at_
  ·repeat' (first | ((first | refine AW.sreg rfl fun K hK => ?_ | refine AW.sregD hmix rfl fun K hK => ?_ | refine runT_call _ _ [] (fun hv _ => (hau).pure rfl rfl hv _) rfl rfl (dstOk_of rfl) rfl rfl ?_); simp only [go_sem, ↓reduceIte, ht]) | (refine AW.seq_k fun K hK => ?_) | (refine AW.block ?_) | (refine AW.cT ?_) | (refine hK _ ?_; clear hK K) | (with_reducible refine And.intro (?_ : regOk _ _ = true) ?_; kernel_rfl) | (refine AW.ret (Fin.data rfl (by first | (simp only [go_sem]; done) | (simp [go_sem, *]; done) | (simp [go_sem]; omega) | rfl) rfl)))
  ·repeat' (first | ((first | refine AW.sreg rfl fun K hK => ?_ | refine AW.sregD hmix rfl fun K hK => ?_ | refine runT_call _ _ [] (fun hv _ => (hau).pure rfl rfl hv _) rfl rfl (dstOk_of rfl) rfl rfl ?_); simp only [go_sem, ↓reduceIte, ht]) | (refine AW.seq_k fun K hK => ?_) | (refine AW.block ?_) | (refine AW.cT ?_) | (refine AW.cF ?_) | (refine hK _ ?_; clear hK K) | (with_reducible refine And.intro (?_ : regOk _ _ = true) ?_; kernel_rfl) | (refine AW.ret (Fin.data rfl (by first | (simp only [go_sem]; done) | (simp [go_sem, *]; done) | (simp [go_sem]; omega) | rfl) rfl)))
end Go.AX
