/- Places that are made one: the loops (printed by py1gen.py). -/
import Derived.Test.YtcjdlbdoffchfaaGreatDoorCF
import Derived.Test.YtcjdlbdoffchfaaGreatDoorCE
import Derived.Test.YtcjdlbdoffchfaaGreatDoorAx44
set_option linter.unusedSimpArgs false
set_option linter.unusedVariables false
set_option linter.unnecessarySimpa false
set_option maxRecDepth 1000000
set_option maxHeartbeats 4000000
namespace Go.AX
open Go Go.Proofs Go.RowKit
theorem mpT_zero {α : Type} (f : α → α) (xs : List α) : mpT f xs 0 = xs := by simp [mpT]
theorem mpT_all {α : Type} (f : α → α) (xs : List α) : mpT f xs xs.length = xs.map f := by simp [mpT]
def mpG (into fr : Str) (q : Pl) : Pl := if q.2 = fr then (q.1, into) else q
theorem deletePl_cut (pls : List Pl) (hl : pls.length ≤ 1000) (fr : Str) : Does Tryz.prog 65 [.slr 0 0 pls.length, .fn 66 [.ptr 1 0]] [.vec 60 2 (dv (pls.map plD)), .box 9 [S fr]] (.slr 0 0 (pls.filter fun q => !(q.1 == fr)).length) [.vec 60 2 (dv ((pls.filter fun q => !(q.1 == fr)).map plD)), .box 9 [S fr]] := by
  refine (deleteFuncT_Pl 9 pls hl 66 (.str fr) (fun x => x.1 == fr) (fun x _ => mergePlaces1_any x fr)).cut rfl fun j o' ho => ?_
  rcases j with _ | _ | j
  · simp [hvL, O.lv] at ho ⊢; subst ho; exact .inr ⟨_, _, _, _, by rw [dv_app2], rfl⟩
  · simp [hvL, O.lv] at ho ⊢; subst ho; exact .inl rfl
  · simp [hvL] at ho
abbrev hpV (p : Pe) (i : Nat) : V := .agg [S p.key, .d (.sl (p.names.map nmD)), .slr i 0 p.homes.length, .d (.sl (p.mails.map D.str)), .d (.sl (p.advs.map D.str))]
/-- What is left behind the loops. -/
theorem mpB {cx : Cx} (hcx : CxOk cx 0) (w : Wo) (hok : OkW w) : AW Tryz.prog cx (RWb Tryz.f20 10) (RetQ Tryz.prog Tryz.f20 0 (.tup [.d (woD w), I 0]) []) ⟨131, [(3, .ptr 0 0), (6, .ptr 128 0)], [(0, some (O.box 31 [.d (.sl (w.pls.map plD)), .d (.sl (w.pes.map peD)), .d (.sl (w.wks.map wkD)), .d (.sl (w.bos.map boD))])), (128, some wo0)], 2000⟩ := by
  have c9 := checked_ok hok
  obtain ⟨pls, pes, wks, bos⟩ := w
  simp only at c9 ⊢
  repeat' (first | ((first | refine AW.sreg rfl fun K hK => ?_ | refine run_call _ _ _ ((c9).pure rfl rfl _ _) rfl rfl (dstOk_of rfl) rfl rfl rfl ?_); simp only [go_sem, ↓reduceIte]) | (refine hK _ ?_; clear hK K))
  all_goals first | exact AW.ret (Fin.data rfl rfl rfl) | trace_state
set_option maxHeartbeats 40000000 in
theorem mpC {cx : Cx} (hcx : CxOk cx 0) {pls : List Pl} {a b c d e : Pe} {wks : List Wk} {bos : List Bo} {into fr : Str} (hpl : pls.length ≤ 10) (hwl : wks.length ≤ 1000) (hbl : bos.length ≤ 1000) (hx : ∀ x ∈ wks, x.2.length ≤ 1000) (hsm : ∀ p ∈ [a, b, c, d, e], SmP p) (hok : OkW (mpW into fr ⟨pls, [a, b, c, d, e], wks, bos⟩)) :
    AW Tryz.prog cx (RWb Tryz.f20 6) (RetQ Tryz.prog Tryz.f20 0 (.tup [.d (woD (mpW into fr ⟨pls, [a, b, c, d, e], wks, bos⟩)), I 0]) []) ⟨131, [(1, S into), (3, .ptr 0 0), (5, .ptr 64 0), (6, .ptr 128 0)], [(0, some (O.box 31 [.d (.sl (pls.map plD)), .d (.sl ([a, b, c, d, e].map peD)), .d (.sl (wks.map wkD)), .d (.sl (bos.map boD))])), (64, some (O.box 9 [S fr])), (128, some wo0)], 60⟩ := by
  have c7 := clone5 pls a b c d e wks bos ⟨by omega, hwl, hbl⟩ hsm hx
  have c8 := deletePl_cut pls (by omega) fr
  have hFl : (pls.filter fun q => !(q.1 == fr)).length ≤ 10 := Nat.le_trans (List.length_filter_le _ _) hpl
  have hmp : mpP into fr pls = (pls.filter fun q => !(q.1 == fr)).map (mpG into fr) := rfl
  generalize (pls.filter fun q => !(q.1 == fr)) = F at *
  repeat' (first | ((first | refine AW.sreg rfl fun K hK => ?_ | refine run_call _ _ _ ((c7).objA []) rfl rfl (dstOk_of rfl) rfl rfl rfl ?_ | refine run_call _ _ _ ((c8).objA [_,64]) rfl rfl (dstOk_of rfl) rfl rfl rfl ?_); simp only [go_sem, ↓reduceIte, Nat.reduceSub, Nat.add_zero, wo0]) | (refine AW.seq_k fun K hK => ?_) | (refine AW.block ?_) | (refine hK _ ?_; clear hK K))
  refine AW.loopF (ι := Nat) [1, 3, 5, 6, 62] (fun p => [(63, I p)]) (fun p => [(0, some (O.box 31 [.slr 3904 0 F.length, .slr 3905 0 5, .slr 3906 0 wks.length, .slr 3907 0 bos.length])), (64, some (O.box 9 [S fr])), (128, some wo0), (3904, some (O.vec 60 2 (dv ((mpT (mpG into fr) F p).map plD)))), (3905, some (O.vec 50 5 [hpV a 3909, hpV b 3913, hpV c 3917, hpV d 3921, hpV e 3925])), (3906, some (O.vec 68 2 (dv (wks.map wkD)))), (3907, some (O.vec 70 2 (dv (bos.map boD)))), (3909, some (peH a)), (3913, some (peH b)), (3917, some (peH c)), (3921, some (peH d)), (3925, some (peH e))]) 100 (fun p => p ≤ F.length) (fun p => F.length - p) 0 (Nat.zero_le _) (Weak.oC hcx [(0, 0), (64, 64), (128, 128), (3904, 3904), (3905, 3905), (3906, 3906), (3907, 3907), (3909, 3909), (3913, 3913), (3917, 3917), (3921, 3921), (3925, 3925)] (by refine ⟨?_, ?_, ?_⟩ <;> simp [go_sem, gL, kL, List.map_append, dv_push, wo0, frzL_set, frz, frzL, toD, toDL_dvF, mkAgg, mpT_zero])) ?_; simp only [St.at_nil, St.at_cons, lk, Nat.reduceEqDiff, ↓reduceIte, Option.getD_some, Option.getD_none, List.cons_append, List.nil_append, List.append_nil]
  intro i h1
  have hml := mpT_len (mpG into fr) F i
  by_cases hi : i < F.length
  · obtain ⟨x, hx, hxm, hxd⟩ := get_some hi
    have hget : (dv ((mpT (mpG into fr) F i).map plD))[i]? = some (.d (plD x)) := by simp [dv, mpT_get _ hx]
    have hms := mpT_set (mpG into fr) hx
    by_cases he : x.2 = fr
    · have e0 : (x.2 == fr) = true := by simpa using he
      have e1 : mpG into fr x = (x.1, into) := if_pos he
      have hset : (dv ((mpT (mpG into fr) F i).map plD)).set i (.d (.agg [.str x.1, .str into])) = dv ((mpT (mpG into fr) F (i + 1)).map plD) := by
        rw [← hms, e1]; simp [dv, List.map_set]
      generalize mpT (mpG into fr) F i = M at *
      repeat' (first | ((first | refine AW.sreg rfl fun K hK => ?_ | refine AW.sregD hmix rfl fun K hK => ?_ | refine AW.reg rfl ?_); simp only [go_sem, ↓reduceIte, List.length_map, hml, hget, e0, dv_length, Nat.zero_add, Nat.add_zero]) | (refine AW.seq_k fun K hK => ?_) | (refine AW.block ?_) | (refine AW.skip ?_; simp only [Then, InBlock]) | (refine AW.cT ?_) | (refine hK _ ?_; clear hK K) | (with_reducible refine And.intro (?_ : regOk _ _ = true) ?_; kernel_rfl) | (with_reducible refine andI ?_))
      exact ⟨i + 1, hi, by omega, (Weak.oC hcx [(0, 0), (64, 64), (128, 128), (3904, 3904), (3905, 3905), (3906, 3906), (3907, 3907), (3909, 3909), (3913, 3913), (3917, 3917), (3921, 3921), (3925, 3925)] (by refine ⟨?_, ?_, ?_⟩ <;> simp [go_sem, gL, kL, List.map_append, dv_push, wo0, hset]))⟩
    · have e0 : (x.2 == fr) = false := by simpa using he
      have e1 : mpG into fr x = x := if_neg he
      have hs2 : mpT (mpG into fr) F (i + 1) = mpT (mpG into fr) F i := by rw [← hms, e1]; exact set_same (mpT_get _ hx)
      repeat' (first | ((first | refine AW.sreg rfl fun K hK => ?_ | refine AW.sregD hmix rfl fun K hK => ?_ | refine AW.reg rfl ?_); simp only [go_sem, ↓reduceIte, List.length_map, hml, hget, e0, dv_length, Nat.zero_add, Nat.add_zero]) | (refine AW.seq_k fun K hK => ?_) | (refine AW.block ?_) | (refine AW.skip ?_; simp only [Then, InBlock]) | (refine AW.cT ?_) | (refine AW.cF ?_) | (refine hK _ ?_; clear hK K) | (with_reducible refine And.intro (?_ : regOk _ _ = true) ?_; kernel_rfl) | (with_reducible refine andI ?_))
      exact ⟨i + 1, hi, by omega, (Weak.oC hcx [(0, 0), (64, 64), (128, 128), (3904, 3904), (3905, 3905), (3906, 3906), (3907, 3907), (3909, 3909), (3913, 3913), (3917, 3917), (3921, 3921), (3925, 3925)] (by refine ⟨?_, ?_, ?_⟩ <;> simp [go_sem, gL, kL, List.map_append, dv_push, wo0, hs2]))⟩
  · obtain rfl : i = F.length := by omega
    rw [mpT_all]
    have hGl : (F.map (mpG into fr)).length = F.length := by simp
    generalize hG : F.map (mpG into fr) = G at *
    repeat' (first | (refine AW.sreg rfl fun K hK => ?_; simp only [go_sem, ↓reduceIte, List.length_map, Nat.reduceSub, Nat.add_zero, Nat.zero_add, List.getElem?_cons_zero, List.getElem?_cons_succ, Int.reduceAdd, Int.zero_add, List.set_cons_zero, List.set_cons_succ, dv_length]) | (refine AW.seq_k fun K hK => ?_) | (refine AW.block ?_) | (refine AW.exit ?_; simp only [go_sem, ↓reduceIte]) | (refine AW.cF ?_) | (refine hK _ ?_; clear hK K) | (clear hK K; refine hK _ ?_; clear hK K))
    have hK9 := hK
    clear hK
    refine AW.unroll 6 ?_; simp only [AWr]
    repeat' (first | (refine AW.sreg rfl fun K hK => ?_; simp only [go_sem, ↓reduceIte, List.length_map, Nat.reduceSub, Nat.add_zero, Nat.zero_add, List.getElem?_cons_zero, List.getElem?_cons_succ, Int.reduceAdd, Int.zero_add, List.set_cons_zero, List.set_cons_succ, dv_length]) | (refine AW.seq_k fun K hK => ?_) | (refine AW.block ?_) | (refine AW.skip ?_; simp only [Then, InBlock]) | (refine AW.cT ?_) | (refine hK _ ?_; clear hK K) | (with_reducible refine andI ?_))
    -- a
    have hsa : SmP a := hsm a (by simp)
    unfold SmP at hsa
    refine AW.loopF (ι := Nat) [1, 3, 5, 6, 13, 83, 84, 95] (fun p => [(96, I p)]) (fun p => [(0, some (O.box 31 [.slr 3904 0 F.length, .slr 3905 0 5, .slr 3906 0 wks.length, .slr 3907 0 bos.length])), (64, some (O.box 9 [S fr])), (128, some wo0), (3904, some (O.vec 60 2 (dv (G.map plD)))), (3905, some (O.vec 50 5 [hpV a 3909, hpV b 3913, hpV c 3917, hpV d 3921, hpV e 3925])), (3906, some (O.vec 68 2 (dv (wks.map wkD)))), (3907, some (O.vec 70 2 (dv (bos.map boD)))), (3909, some (O.vec 98 3 (dv ((mpT (mpH into fr) a.homes p).map hmD)))), (3913, some (peH b)), (3917, some (peH c)), (3921, some (peH d)), (3925, some (peH e))]) 200 (fun p => p ≤ a.homes.length) (fun p => a.homes.length - p) 0 (Nat.zero_le _) (Weak.oC hcx [(0, 0), (64, 64), (128, 128), (3904, 3904), (3905, 3905), (3906, 3906), (3907, 3907), (3909, 3909), (3913, 3913), (3917, 3917), (3921, 3921), (3925, 3925)] (by refine ⟨?_, ?_, ?_⟩ <;> simp [go_sem, gL, kL, List.map_append, dv_push, wo0, frzL_set, frz, frzL, toD, toDL_dvF, mkAgg, mpT_zero])) ?_; simp only [St.at_nil, St.at_cons, lk, Nat.reduceEqDiff, ↓reduceIte, Option.getD_some, Option.getD_none, List.cons_append, List.nil_append, List.append_nil]
    intro ia h1a
    have hmla := mpT_len (mpH into fr) a.homes ia
    by_cases hia : ia < a.homes.length
    · obtain ⟨x, hx, hxm, hxd⟩ := get_some hia
      have hget : (dv ((mpT (mpH into fr) a.homes ia).map hmD))[ia]? = some (.d (hmD x)) := by simp [dv, mpT_get _ hx]
      have hms := mpT_set (mpH into fr) hx
      by_cases he : x.1 = fr
      · have e0 : (x.1 == fr) = true := by simpa using he
        have e1 : mpH into fr x = (into, x.2) := by unfold mpH mpS; rw [if_pos he]
        have hset : (dv ((mpT (mpH into fr) a.homes ia).map hmD)).set ia (.d (.agg [.str into, .int .i64 x.2.1, .int .i64 x.2.2])) = dv ((mpT (mpH into fr) a.homes (ia + 1)).map hmD) := by
          rw [← hms, e1]; simp [dv, List.map_set]
        generalize mpT (mpH into fr) a.homes ia = M at *
        repeat' (first | ((first | refine AW.sreg rfl fun K hK => ?_ | refine AW.sregD hmix rfl fun K hK => ?_ | refine AW.reg rfl ?_); simp only [go_sem, ↓reduceIte, List.length_map, Nat.reduceSub, Nat.add_zero, Nat.zero_add, List.getElem?_cons_zero, List.getElem?_cons_succ, Int.reduceAdd, Int.zero_add, List.set_cons_zero, List.set_cons_succ, dv_length, hmla, hget, e0]) | (refine AW.seq_k fun K hK => ?_) | (refine AW.block ?_) | (refine AW.skip ?_; simp only [Then, InBlock]) | (refine AW.cT ?_) | (refine hK _ ?_; clear hK K) | (with_reducible refine And.intro (?_ : regOk _ _ = true) ?_; kernel_rfl) | (with_reducible refine andI ?_))
        exact ⟨ia + 1, hia, by omega, (Weak.oC hcx [(0, 0), (64, 64), (128, 128), (3904, 3904), (3905, 3905), (3906, 3906), (3907, 3907), (3909, 3909), (3913, 3913), (3917, 3917), (3921, 3921), (3925, 3925)] (by refine ⟨?_, ?_, ?_⟩ <;> simp [go_sem, gL, kL, List.map_append, dv_push, wo0, hset]))⟩
      · have e0 : (x.1 == fr) = false := by simpa using he
        have e1 : mpH into fr x = x := by unfold mpH mpS; rw [if_neg he]
        have hs2 : mpT (mpH into fr) a.homes (ia + 1) = mpT (mpH into fr) a.homes ia := by rw [← hms, e1]; exact set_same (mpT_get _ hx)
        repeat' (first | ((first | refine AW.sreg rfl fun K hK => ?_ | refine AW.sregD hmix rfl fun K hK => ?_ | refine AW.reg rfl ?_); simp only [go_sem, ↓reduceIte, List.length_map, Nat.reduceSub, Nat.add_zero, Nat.zero_add, List.getElem?_cons_zero, List.getElem?_cons_succ, Int.reduceAdd, Int.zero_add, List.set_cons_zero, List.set_cons_succ, dv_length, hmla, hget, e0]) | (refine AW.seq_k fun K hK => ?_) | (refine AW.block ?_) | (refine AW.skip ?_; simp only [Then, InBlock]) | (refine AW.cT ?_) | (refine AW.cF ?_) | (refine hK _ ?_; clear hK K) | (with_reducible refine And.intro (?_ : regOk _ _ = true) ?_; kernel_rfl) | (with_reducible refine andI ?_))
        exact ⟨ia + 1, hia, by omega, (Weak.oC hcx [(0, 0), (64, 64), (128, 128), (3904, 3904), (3905, 3905), (3906, 3906), (3907, 3907), (3909, 3909), (3913, 3913), (3917, 3917), (3921, 3921), (3925, 3925)] (by refine ⟨?_, ?_, ?_⟩ <;> simp [go_sem, gL, kL, List.map_append, dv_push, wo0, hs2]))⟩
    obtain rfl : ia = a.homes.length := by omega
    rw [mpT_all]
    have hha := homesOf_own (a.homes.map (mpH into fr)) (by simp; omega)
    have hTa := dv_takeP ((srtC cpH (a.homes.map (mpH into fr))).map hmD) (List.replicate ((a.homes.map (mpH into fr)).length - (srtC cpH (a.homes.map (mpH into fr))).length) (hmD ([], 0, 0)))
    rw [List.length_map] at hha hTa
    rw [List.length_map] at hTa
    repeat' (first | ((first | refine AW.sreg rfl fun K hK => ?_ | refine AW.reg rfl ?_ | refine run_call _ _ _ ((hha).objA [_]) rfl rfl (dstOk_of rfl) rfl rfl rfl ?_); simp only [go_sem, ↓reduceIte, List.length_map, Nat.reduceSub, Nat.add_zero, Nat.zero_add, List.getElem?_cons_zero, List.getElem?_cons_succ, Int.reduceAdd, Int.zero_add, List.set_cons_zero, List.set_cons_succ, dv_length]) | (refine AW.seq_k fun K hK => ?_) | (refine AW.block ?_) | (refine AW.skip ?_; simp only [Then, InBlock]) | (refine AW.exit ?_; simp only [go_sem, ↓reduceIte]) | (refine AW.cT ?_) | (refine AW.cF ?_) | (refine hK _ ?_; clear hK K) | (clear hK K; refine hK _ ?_; clear hK K) | (with_reducible refine andI ?_))
    -- b
    have hsb : SmP b := hsm b (by simp)
    unfold SmP at hsb
    refine AW.loopF (ι := Nat) [1, 3, 5, 6, 13, 83, 84, 95] (fun p => [(96, I p)]) (fun p => [(0, some (O.box 31 [.slr 3904 0 F.length, .slr 3905 0 5, .slr 3906 0 wks.length, .slr 3907 0 bos.length])), (64, some (O.box 9 [S fr])), (128, some wo0), (3904, some (O.vec 60 2 (dv (G.map plD)))), (3905, some (O.vec 50 5 [.d (peD (mpE into fr a)), hpV b 3913, hpV c 3917, hpV d 3921, hpV e 3925])), (3906, some (O.vec 68 2 (dv (wks.map wkD)))), (3907, some (O.vec 70 2 (dv (bos.map boD)))), (3913, some (O.vec 98 3 (dv ((mpT (mpH into fr) b.homes p).map hmD)))), (3917, some (peH c)), (3921, some (peH d)), (3925, some (peH e))]) 300 (fun p => p ≤ b.homes.length) (fun p => b.homes.length - p) 0 (Nat.zero_le _) (Weak.oC hcx [(0, 0), (64, 64), (128, 128), (3904, 3904), (3905, 3905), (3906, 3906), (3907, 3907), (3913, 3913), (3917, 3917), (3921, 3921), (3925, 3925)] (by refine ⟨?_, ?_, ?_⟩ <;> simp [go_sem, gL, kL, List.map_append, dv_push, wo0, frzL_set, frz, frzL, toD, toDL_dvF, mkAgg, mpT_zero, hTa, mpE])) ?_; simp only [St.at_nil, St.at_cons, lk, Nat.reduceEqDiff, ↓reduceIte, Option.getD_some, Option.getD_none, List.cons_append, List.nil_append, List.append_nil]
    intro ib h1b
    have hmlb := mpT_len (mpH into fr) b.homes ib
    by_cases hib : ib < b.homes.length
    · obtain ⟨x, hx, hxm, hxd⟩ := get_some hib
      have hget : (dv ((mpT (mpH into fr) b.homes ib).map hmD))[ib]? = some (.d (hmD x)) := by simp [dv, mpT_get _ hx]
      have hms := mpT_set (mpH into fr) hx
      by_cases he : x.1 = fr
      · have e0 : (x.1 == fr) = true := by simpa using he
        have e1 : mpH into fr x = (into, x.2) := by unfold mpH mpS; rw [if_pos he]
        have hset : (dv ((mpT (mpH into fr) b.homes ib).map hmD)).set ib (.d (.agg [.str into, .int .i64 x.2.1, .int .i64 x.2.2])) = dv ((mpT (mpH into fr) b.homes (ib + 1)).map hmD) := by
          rw [← hms, e1]; simp [dv, List.map_set]
        generalize mpT (mpH into fr) b.homes ib = M at *
        repeat' (first | ((first | refine AW.sreg rfl fun K hK => ?_ | refine AW.sregD hmix rfl fun K hK => ?_ | refine AW.reg rfl ?_); simp only [go_sem, ↓reduceIte, List.length_map, Nat.reduceSub, Nat.add_zero, Nat.zero_add, List.getElem?_cons_zero, List.getElem?_cons_succ, Int.reduceAdd, Int.zero_add, List.set_cons_zero, List.set_cons_succ, dv_length, hmlb, hget, e0]) | (refine AW.seq_k fun K hK => ?_) | (refine AW.block ?_) | (refine AW.skip ?_; simp only [Then, InBlock]) | (refine AW.cT ?_) | (refine hK _ ?_; clear hK K) | (with_reducible refine And.intro (?_ : regOk _ _ = true) ?_; kernel_rfl) | (with_reducible refine andI ?_))
        exact ⟨ib + 1, hib, by omega, (Weak.oC hcx [(0, 0), (64, 64), (128, 128), (3904, 3904), (3905, 3905), (3906, 3906), (3907, 3907), (3913, 3913), (3917, 3917), (3921, 3921), (3925, 3925)] (by refine ⟨?_, ?_, ?_⟩ <;> simp [go_sem, gL, kL, List.map_append, dv_push, wo0, hset]))⟩
      · have e0 : (x.1 == fr) = false := by simpa using he
        have e1 : mpH into fr x = x := by unfold mpH mpS; rw [if_neg he]
        have hs2 : mpT (mpH into fr) b.homes (ib + 1) = mpT (mpH into fr) b.homes ib := by rw [← hms, e1]; exact set_same (mpT_get _ hx)
        repeat' (first | ((first | refine AW.sreg rfl fun K hK => ?_ | refine AW.sregD hmix rfl fun K hK => ?_ | refine AW.reg rfl ?_); simp only [go_sem, ↓reduceIte, List.length_map, Nat.reduceSub, Nat.add_zero, Nat.zero_add, List.getElem?_cons_zero, List.getElem?_cons_succ, Int.reduceAdd, Int.zero_add, List.set_cons_zero, List.set_cons_succ, dv_length, hmlb, hget, e0]) | (refine AW.seq_k fun K hK => ?_) | (refine AW.block ?_) | (refine AW.skip ?_; simp only [Then, InBlock]) | (refine AW.cT ?_) | (refine AW.cF ?_) | (refine hK _ ?_; clear hK K) | (with_reducible refine And.intro (?_ : regOk _ _ = true) ?_; kernel_rfl) | (with_reducible refine andI ?_))
        exact ⟨ib + 1, hib, by omega, (Weak.oC hcx [(0, 0), (64, 64), (128, 128), (3904, 3904), (3905, 3905), (3906, 3906), (3907, 3907), (3913, 3913), (3917, 3917), (3921, 3921), (3925, 3925)] (by refine ⟨?_, ?_, ?_⟩ <;> simp [go_sem, gL, kL, List.map_append, dv_push, wo0, hs2]))⟩
    obtain rfl : ib = b.homes.length := by omega
    rw [mpT_all]
    have hhb := homesOf_own (b.homes.map (mpH into fr)) (by simp; omega)
    have hTb := dv_takeP ((srtC cpH (b.homes.map (mpH into fr))).map hmD) (List.replicate ((b.homes.map (mpH into fr)).length - (srtC cpH (b.homes.map (mpH into fr))).length) (hmD ([], 0, 0)))
    rw [List.length_map] at hhb hTb
    rw [List.length_map] at hTb
    repeat' (first | ((first | refine AW.sreg rfl fun K hK => ?_ | refine AW.reg rfl ?_ | refine run_call _ _ _ ((hhb).objA [_]) rfl rfl (dstOk_of rfl) rfl rfl rfl ?_); simp only [go_sem, ↓reduceIte, List.length_map, Nat.reduceSub, Nat.add_zero, Nat.zero_add, List.getElem?_cons_zero, List.getElem?_cons_succ, Int.reduceAdd, Int.zero_add, List.set_cons_zero, List.set_cons_succ, dv_length]) | (refine AW.seq_k fun K hK => ?_) | (refine AW.block ?_) | (refine AW.skip ?_; simp only [Then, InBlock]) | (refine AW.exit ?_; simp only [go_sem, ↓reduceIte]) | (refine AW.cT ?_) | (refine AW.cF ?_) | (refine hK _ ?_; clear hK K) | (clear hK K; refine hK _ ?_; clear hK K) | (with_reducible refine andI ?_))
    -- c
    have hsc : SmP c := hsm c (by simp)
    unfold SmP at hsc
    refine AW.loopF (ι := Nat) [1, 3, 5, 6, 13, 83, 84, 95] (fun p => [(96, I p)]) (fun p => [(0, some (O.box 31 [.slr 3904 0 F.length, .slr 3905 0 5, .slr 3906 0 wks.length, .slr 3907 0 bos.length])), (64, some (O.box 9 [S fr])), (128, some wo0), (3904, some (O.vec 60 2 (dv (G.map plD)))), (3905, some (O.vec 50 5 [.d (peD (mpE into fr a)), .d (peD (mpE into fr b)), hpV c 3917, hpV d 3921, hpV e 3925])), (3906, some (O.vec 68 2 (dv (wks.map wkD)))), (3907, some (O.vec 70 2 (dv (bos.map boD)))), (3917, some (O.vec 98 3 (dv ((mpT (mpH into fr) c.homes p).map hmD)))), (3921, some (peH d)), (3925, some (peH e))]) 400 (fun p => p ≤ c.homes.length) (fun p => c.homes.length - p) 0 (Nat.zero_le _) (Weak.oC hcx [(0, 0), (64, 64), (128, 128), (3904, 3904), (3905, 3905), (3906, 3906), (3907, 3907), (3917, 3917), (3921, 3921), (3925, 3925)] (by refine ⟨?_, ?_, ?_⟩ <;> simp [go_sem, gL, kL, List.map_append, dv_push, wo0, frzL_set, frz, frzL, toD, toDL_dvF, mkAgg, mpT_zero, hTb, mpE])) ?_; simp only [St.at_nil, St.at_cons, lk, Nat.reduceEqDiff, ↓reduceIte, Option.getD_some, Option.getD_none, List.cons_append, List.nil_append, List.append_nil]
    intro ic h1c
    have hmlc := mpT_len (mpH into fr) c.homes ic
    by_cases hic : ic < c.homes.length
    · obtain ⟨x, hx, hxm, hxd⟩ := get_some hic
      have hget : (dv ((mpT (mpH into fr) c.homes ic).map hmD))[ic]? = some (.d (hmD x)) := by simp [dv, mpT_get _ hx]
      have hms := mpT_set (mpH into fr) hx
      by_cases he : x.1 = fr
      · have e0 : (x.1 == fr) = true := by simpa using he
        have e1 : mpH into fr x = (into, x.2) := by unfold mpH mpS; rw [if_pos he]
        have hset : (dv ((mpT (mpH into fr) c.homes ic).map hmD)).set ic (.d (.agg [.str into, .int .i64 x.2.1, .int .i64 x.2.2])) = dv ((mpT (mpH into fr) c.homes (ic + 1)).map hmD) := by
          rw [← hms, e1]; simp [dv, List.map_set]
        generalize mpT (mpH into fr) c.homes ic = M at *
        repeat' (first | ((first | refine AW.sreg rfl fun K hK => ?_ | refine AW.sregD hmix rfl fun K hK => ?_ | refine AW.reg rfl ?_); simp only [go_sem, ↓reduceIte, List.length_map, Nat.reduceSub, Nat.add_zero, Nat.zero_add, List.getElem?_cons_zero, List.getElem?_cons_succ, Int.reduceAdd, Int.zero_add, List.set_cons_zero, List.set_cons_succ, dv_length, hmlc, hget, e0]) | (refine AW.seq_k fun K hK => ?_) | (refine AW.block ?_) | (refine AW.skip ?_; simp only [Then, InBlock]) | (refine AW.cT ?_) | (refine hK _ ?_; clear hK K) | (with_reducible refine And.intro (?_ : regOk _ _ = true) ?_; kernel_rfl) | (with_reducible refine andI ?_))
        exact ⟨ic + 1, hic, by omega, (Weak.oC hcx [(0, 0), (64, 64), (128, 128), (3904, 3904), (3905, 3905), (3906, 3906), (3907, 3907), (3917, 3917), (3921, 3921), (3925, 3925)] (by refine ⟨?_, ?_, ?_⟩ <;> simp [go_sem, gL, kL, List.map_append, dv_push, wo0, hset]))⟩
      · have e0 : (x.1 == fr) = false := by simpa using he
        have e1 : mpH into fr x = x := by unfold mpH mpS; rw [if_neg he]
        have hs2 : mpT (mpH into fr) c.homes (ic + 1) = mpT (mpH into fr) c.homes ic := by rw [← hms, e1]; exact set_same (mpT_get _ hx)
        repeat' (first | ((first | refine AW.sreg rfl fun K hK => ?_ | refine AW.sregD hmix rfl fun K hK => ?_ | refine AW.reg rfl ?_); simp only [go_sem, ↓reduceIte, List.length_map, Nat.reduceSub, Nat.add_zero, Nat.zero_add, List.getElem?_cons_zero, List.getElem?_cons_succ, Int.reduceAdd, Int.zero_add, List.set_cons_zero, List.set_cons_succ, dv_length, hmlc, hget, e0]) | (refine AW.seq_k fun K hK => ?_) | (refine AW.block ?_) | (refine AW.skip ?_; simp only [Then, InBlock]) | (refine AW.cT ?_) | (refine AW.cF ?_) | (refine hK _ ?_; clear hK K) | (with_reducible refine And.intro (?_ : regOk _ _ = true) ?_; kernel_rfl) | (with_reducible refine andI ?_))
        exact ⟨ic + 1, hic, by omega, (Weak.oC hcx [(0, 0), (64, 64), (128, 128), (3904, 3904), (3905, 3905), (3906, 3906), (3907, 3907), (3917, 3917), (3921, 3921), (3925, 3925)] (by refine ⟨?_, ?_, ?_⟩ <;> simp [go_sem, gL, kL, List.map_append, dv_push, wo0, hs2]))⟩
    obtain rfl : ic = c.homes.length := by omega
    rw [mpT_all]
    have hhc := homesOf_own (c.homes.map (mpH into fr)) (by simp; omega)
    have hTc := dv_takeP ((srtC cpH (c.homes.map (mpH into fr))).map hmD) (List.replicate ((c.homes.map (mpH into fr)).length - (srtC cpH (c.homes.map (mpH into fr))).length) (hmD ([], 0, 0)))
    rw [List.length_map] at hhc hTc
    rw [List.length_map] at hTc
    repeat' (first | ((first | refine AW.sreg rfl fun K hK => ?_ | refine AW.reg rfl ?_ | refine run_call _ _ _ ((hhc).objA [_]) rfl rfl (dstOk_of rfl) rfl rfl rfl ?_); simp only [go_sem, ↓reduceIte, List.length_map, Nat.reduceSub, Nat.add_zero, Nat.zero_add, List.getElem?_cons_zero, List.getElem?_cons_succ, Int.reduceAdd, Int.zero_add, List.set_cons_zero, List.set_cons_succ, dv_length]) | (refine AW.seq_k fun K hK => ?_) | (refine AW.block ?_) | (refine AW.skip ?_; simp only [Then, InBlock]) | (refine AW.exit ?_; simp only [go_sem, ↓reduceIte]) | (refine AW.cT ?_) | (refine AW.cF ?_) | (refine hK _ ?_; clear hK K) | (clear hK K; refine hK _ ?_; clear hK K) | (with_reducible refine andI ?_))
    -- d
    have hsd : SmP d := hsm d (by simp)
    unfold SmP at hsd
    refine AW.loopF (ι := Nat) [1, 3, 5, 6, 13, 83, 84, 95] (fun p => [(96, I p)]) (fun p => [(0, some (O.box 31 [.slr 3904 0 F.length, .slr 3905 0 5, .slr 3906 0 wks.length, .slr 3907 0 bos.length])), (64, some (O.box 9 [S fr])), (128, some wo0), (3904, some (O.vec 60 2 (dv (G.map plD)))), (3905, some (O.vec 50 5 [.d (peD (mpE into fr a)), .d (peD (mpE into fr b)), .d (peD (mpE into fr c)), hpV d 3921, hpV e 3925])), (3906, some (O.vec 68 2 (dv (wks.map wkD)))), (3907, some (O.vec 70 2 (dv (bos.map boD)))), (3921, some (O.vec 98 3 (dv ((mpT (mpH into fr) d.homes p).map hmD)))), (3925, some (peH e))]) 500 (fun p => p ≤ d.homes.length) (fun p => d.homes.length - p) 0 (Nat.zero_le _) (Weak.oC hcx [(0, 0), (64, 64), (128, 128), (3904, 3904), (3905, 3905), (3906, 3906), (3907, 3907), (3921, 3921), (3925, 3925)] (by refine ⟨?_, ?_, ?_⟩ <;> simp [go_sem, gL, kL, List.map_append, dv_push, wo0, frzL_set, frz, frzL, toD, toDL_dvF, mkAgg, mpT_zero, hTc, mpE])) ?_; simp only [St.at_nil, St.at_cons, lk, Nat.reduceEqDiff, ↓reduceIte, Option.getD_some, Option.getD_none, List.cons_append, List.nil_append, List.append_nil]
    intro id h1d
    have hmld := mpT_len (mpH into fr) d.homes id
    by_cases hid : id < d.homes.length
    · obtain ⟨x, hx, hxm, hxd⟩ := get_some hid
      have hget : (dv ((mpT (mpH into fr) d.homes id).map hmD))[id]? = some (.d (hmD x)) := by simp [dv, mpT_get _ hx]
      have hms := mpT_set (mpH into fr) hx
      by_cases he : x.1 = fr
      · have e0 : (x.1 == fr) = true := by simpa using he
        have e1 : mpH into fr x = (into, x.2) := by unfold mpH mpS; rw [if_pos he]
        have hset : (dv ((mpT (mpH into fr) d.homes id).map hmD)).set id (.d (.agg [.str into, .int .i64 x.2.1, .int .i64 x.2.2])) = dv ((mpT (mpH into fr) d.homes (id + 1)).map hmD) := by
          rw [← hms, e1]; simp [dv, List.map_set]
        generalize mpT (mpH into fr) d.homes id = M at *
        repeat' (first | ((first | refine AW.sreg rfl fun K hK => ?_ | refine AW.sregD hmix rfl fun K hK => ?_ | refine AW.reg rfl ?_); simp only [go_sem, ↓reduceIte, List.length_map, Nat.reduceSub, Nat.add_zero, Nat.zero_add, List.getElem?_cons_zero, List.getElem?_cons_succ, Int.reduceAdd, Int.zero_add, List.set_cons_zero, List.set_cons_succ, dv_length, hmld, hget, e0]) | (refine AW.seq_k fun K hK => ?_) | (refine AW.block ?_) | (refine AW.skip ?_; simp only [Then, InBlock]) | (refine AW.cT ?_) | (refine hK _ ?_; clear hK K) | (with_reducible refine And.intro (?_ : regOk _ _ = true) ?_; kernel_rfl) | (with_reducible refine andI ?_))
        exact ⟨id + 1, hid, by omega, (Weak.oC hcx [(0, 0), (64, 64), (128, 128), (3904, 3904), (3905, 3905), (3906, 3906), (3907, 3907), (3921, 3921), (3925, 3925)] (by refine ⟨?_, ?_, ?_⟩ <;> simp [go_sem, gL, kL, List.map_append, dv_push, wo0, hset]))⟩
      · have e0 : (x.1 == fr) = false := by simpa using he
        have e1 : mpH into fr x = x := by unfold mpH mpS; rw [if_neg he]
        have hs2 : mpT (mpH into fr) d.homes (id + 1) = mpT (mpH into fr) d.homes id := by rw [← hms, e1]; exact set_same (mpT_get _ hx)
        repeat' (first | ((first | refine AW.sreg rfl fun K hK => ?_ | refine AW.sregD hmix rfl fun K hK => ?_ | refine AW.reg rfl ?_); simp only [go_sem, ↓reduceIte, List.length_map, Nat.reduceSub, Nat.add_zero, Nat.zero_add, List.getElem?_cons_zero, List.getElem?_cons_succ, Int.reduceAdd, Int.zero_add, List.set_cons_zero, List.set_cons_succ, dv_length, hmld, hget, e0]) | (refine AW.seq_k fun K hK => ?_) | (refine AW.block ?_) | (refine AW.skip ?_; simp only [Then, InBlock]) | (refine AW.cT ?_) | (refine AW.cF ?_) | (refine hK _ ?_; clear hK K) | (with_reducible refine And.intro (?_ : regOk _ _ = true) ?_; kernel_rfl) | (with_reducible refine andI ?_))
        exact ⟨id + 1, hid, by omega, (Weak.oC hcx [(0, 0), (64, 64), (128, 128), (3904, 3904), (3905, 3905), (3906, 3906), (3907, 3907), (3921, 3921), (3925, 3925)] (by refine ⟨?_, ?_, ?_⟩ <;> simp [go_sem, gL, kL, List.map_append, dv_push, wo0, hs2]))⟩
    obtain rfl : id = d.homes.length := by omega
    rw [mpT_all]
    have hhd := homesOf_own (d.homes.map (mpH into fr)) (by simp; omega)
    have hTd := dv_takeP ((srtC cpH (d.homes.map (mpH into fr))).map hmD) (List.replicate ((d.homes.map (mpH into fr)).length - (srtC cpH (d.homes.map (mpH into fr))).length) (hmD ([], 0, 0)))
    rw [List.length_map] at hhd hTd
    rw [List.length_map] at hTd
    repeat' (first | ((first | refine AW.sreg rfl fun K hK => ?_ | refine AW.reg rfl ?_ | refine run_call _ _ _ ((hhd).objA [_]) rfl rfl (dstOk_of rfl) rfl rfl rfl ?_); simp only [go_sem, ↓reduceIte, List.length_map, Nat.reduceSub, Nat.add_zero, Nat.zero_add, List.getElem?_cons_zero, List.getElem?_cons_succ, Int.reduceAdd, Int.zero_add, List.set_cons_zero, List.set_cons_succ, dv_length]) | (refine AW.seq_k fun K hK => ?_) | (refine AW.block ?_) | (refine AW.skip ?_; simp only [Then, InBlock]) | (refine AW.exit ?_; simp only [go_sem, ↓reduceIte]) | (refine AW.cT ?_) | (refine AW.cF ?_) | (refine hK _ ?_; clear hK K) | (clear hK K; refine hK _ ?_; clear hK K) | (with_reducible refine andI ?_))
    -- e
    have hse : SmP e := hsm e (by simp)
    unfold SmP at hse
    refine AW.loopF (ι := Nat) [1, 3, 5, 6, 13, 83, 84, 95] (fun p => [(96, I p)]) (fun p => [(0, some (O.box 31 [.slr 3904 0 F.length, .slr 3905 0 5, .slr 3906 0 wks.length, .slr 3907 0 bos.length])), (64, some (O.box 9 [S fr])), (128, some wo0), (3904, some (O.vec 60 2 (dv (G.map plD)))), (3905, some (O.vec 50 5 [.d (peD (mpE into fr a)), .d (peD (mpE into fr b)), .d (peD (mpE into fr c)), .d (peD (mpE into fr d)), hpV e 3925])), (3906, some (O.vec 68 2 (dv (wks.map wkD)))), (3907, some (O.vec 70 2 (dv (bos.map boD)))), (3925, some (O.vec 98 3 (dv ((mpT (mpH into fr) e.homes p).map hmD))))]) 600 (fun p => p ≤ e.homes.length) (fun p => e.homes.length - p) 0 (Nat.zero_le _) (Weak.oC hcx [(0, 0), (64, 64), (128, 128), (3904, 3904), (3905, 3905), (3906, 3906), (3907, 3907), (3925, 3925)] (by refine ⟨?_, ?_, ?_⟩ <;> simp [go_sem, gL, kL, List.map_append, dv_push, wo0, frzL_set, frz, frzL, toD, toDL_dvF, mkAgg, mpT_zero, hTd, mpE])) ?_; simp only [St.at_nil, St.at_cons, lk, Nat.reduceEqDiff, ↓reduceIte, Option.getD_some, Option.getD_none, List.cons_append, List.nil_append, List.append_nil]
    intro ie h1e
    have hmle := mpT_len (mpH into fr) e.homes ie
    by_cases hie : ie < e.homes.length
    · obtain ⟨x, hx, hxm, hxd⟩ := get_some hie
      have hget : (dv ((mpT (mpH into fr) e.homes ie).map hmD))[ie]? = some (.d (hmD x)) := by simp [dv, mpT_get _ hx]
      have hms := mpT_set (mpH into fr) hx
      by_cases he : x.1 = fr
      · have e0 : (x.1 == fr) = true := by simpa using he
        have e1 : mpH into fr x = (into, x.2) := by unfold mpH mpS; rw [if_pos he]
        have hset : (dv ((mpT (mpH into fr) e.homes ie).map hmD)).set ie (.d (.agg [.str into, .int .i64 x.2.1, .int .i64 x.2.2])) = dv ((mpT (mpH into fr) e.homes (ie + 1)).map hmD) := by
          rw [← hms, e1]; simp [dv, List.map_set]
        generalize mpT (mpH into fr) e.homes ie = M at *
        repeat' (first | ((first | refine AW.sreg rfl fun K hK => ?_ | refine AW.sregD hmix rfl fun K hK => ?_ | refine AW.reg rfl ?_); simp only [go_sem, ↓reduceIte, List.length_map, Nat.reduceSub, Nat.add_zero, Nat.zero_add, List.getElem?_cons_zero, List.getElem?_cons_succ, Int.reduceAdd, Int.zero_add, List.set_cons_zero, List.set_cons_succ, dv_length, hmle, hget, e0]) | (refine AW.seq_k fun K hK => ?_) | (refine AW.block ?_) | (refine AW.skip ?_; simp only [Then, InBlock]) | (refine AW.cT ?_) | (refine hK _ ?_; clear hK K) | (with_reducible refine And.intro (?_ : regOk _ _ = true) ?_; kernel_rfl) | (with_reducible refine andI ?_))
        exact ⟨ie + 1, hie, by omega, (Weak.oC hcx [(0, 0), (64, 64), (128, 128), (3904, 3904), (3905, 3905), (3906, 3906), (3907, 3907), (3925, 3925)] (by refine ⟨?_, ?_, ?_⟩ <;> simp [go_sem, gL, kL, List.map_append, dv_push, wo0, hset]))⟩
      · have e0 : (x.1 == fr) = false := by simpa using he
        have e1 : mpH into fr x = x := by unfold mpH mpS; rw [if_neg he]
        have hs2 : mpT (mpH into fr) e.homes (ie + 1) = mpT (mpH into fr) e.homes ie := by rw [← hms, e1]; exact set_same (mpT_get _ hx)
        repeat' (first | ((first | refine AW.sreg rfl fun K hK => ?_ | refine AW.sregD hmix rfl fun K hK => ?_ | refine AW.reg rfl ?_); simp only [go_sem, ↓reduceIte, List.length_map, Nat.reduceSub, Nat.add_zero, Nat.zero_add, List.getElem?_cons_zero, List.getElem?_cons_succ, Int.reduceAdd, Int.zero_add, List.set_cons_zero, List.set_cons_succ, dv_length, hmle, hget, e0]) | (refine AW.seq_k fun K hK => ?_) | (refine AW.block ?_) | (refine AW.skip ?_; simp only [Then, InBlock]) | (refine AW.cT ?_) | (refine AW.cF ?_) | (refine hK _ ?_; clear hK K) | (with_reducible refine And.intro (?_ : regOk _ _ = true) ?_; kernel_rfl) | (with_reducible refine andI ?_))
        exact ⟨ie + 1, hie, by omega, (Weak.oC hcx [(0, 0), (64, 64), (128, 128), (3904, 3904), (3905, 3905), (3906, 3906), (3907, 3907), (3925, 3925)] (by refine ⟨?_, ?_, ?_⟩ <;> simp [go_sem, gL, kL, List.map_append, dv_push, wo0, hs2]))⟩
    obtain rfl : ie = e.homes.length := by omega
    rw [mpT_all]
    have hhe := homesOf_own (e.homes.map (mpH into fr)) (by simp; omega)
    have hTe := dv_takeP ((srtC cpH (e.homes.map (mpH into fr))).map hmD) (List.replicate ((e.homes.map (mpH into fr)).length - (srtC cpH (e.homes.map (mpH into fr))).length) (hmD ([], 0, 0)))
    rw [List.length_map] at hhe hTe
    rw [List.length_map] at hTe
    repeat' (first | ((first | refine AW.sreg rfl fun K hK => ?_ | refine AW.reg rfl ?_ | refine run_call _ _ _ ((hhe).objA [_]) rfl rfl (dstOk_of rfl) rfl rfl rfl ?_); simp only [go_sem, ↓reduceIte, List.length_map, Nat.reduceSub, Nat.add_zero, Nat.zero_add, List.getElem?_cons_zero, List.getElem?_cons_succ, Int.reduceAdd, Int.zero_add, List.set_cons_zero, List.set_cons_succ, dv_length]) | (refine AW.seq_k fun K hK => ?_) | (refine AW.exit ?_; simp only [go_sem, ↓reduceIte]) | (refine AW.cF ?_) | (refine hK _ ?_; clear hK K) | (clear hK K; refine hK _ ?_; clear hK K) | (with_reducible refine andI ?_))
    refine hK9 _ ?_
    have hW : mpW into fr ⟨pls, [a, b, c, d, e], wks, bos⟩ = ⟨G, [mpE into fr a, mpE into fr b, mpE into fr c, mpE into fr d, mpE into fr e], wks, bos⟩ := by simp only [mpW, hmp, List.map_cons, List.map_nil]
    rw [hW] at hok ⊢
    refine AW.weak (?wk1 : Weak cx _ (⟨131, [(3, .ptr 0 0), (6, .ptr 128 0)], [(0, some (O.box 31 [.slr 3904 0 F.length, .slr 3905 0 5, .slr 3906 0 wks.length, .slr 3907 0 bos.length])), (128, some wo0), (3904, some (O.vec 60 2 (dv (G.map plD)))), (3905, some (O.vec 50 5 [.d (peD (mpE into fr a)), .d (peD (mpE into fr b)), .d (peD (mpE into fr c)), .d (peD (mpE into fr d)), .d (peD (mpE into fr e))])), (3906, some (O.vec 68 2 (dv (wks.map wkD)))), (3907, some (O.vec 70 2 (dv (bos.map boD))))], 1000⟩ : St)) ?_
    case wk1 => exact (Weak.oC hcx [(0, 0), (128, 128), (3904, 3904), (3905, 3905), (3906, 3906), (3907, 3907)] (by refine ⟨?_, ?_, ?_⟩ <;> simp [go_sem, gL, kL, List.map_append, dv_push, wo0, frzL_set, frz, frzL, toD, toDL_dvF, mkAgg, hTe, mpE]))
    refine AW.weak ?_ (mpB hcx _ hok)
    refine Weak.objs hcx [(0, 0), (128, 128)] rfl rfl (Nat.le_of_ble_eq_true rfl) (by simp [go_sem, gL, kL]) ?_ pk0 (by simp [gL, lk])
    intro p hp
    rcases List.mem_cons.1 hp with rfl | hp
    · exact ⟨_, rfl, (by show (0 : Nat) < 64 * 2000; decide), rfl, rfl, _, rfl, congrArg (O.box _) (frzL4 (frz_slr rfl rfl (by simp [hGl])) (frz_slr rfl rfl (by simp)) (frz_slr rfl rfl (by simp)) (frz_slr rfl rfl (by simp)))⟩
    · obtain rfl := List.mem_singleton.1 hp
      exact ⟨_, rfl, (by show (128 : Nat) < 64 * 2000; decide), rfl, rfl, _, rfl, rfl⟩
end Go.AX

namespace Go.AX
open Go Go.Proofs Go.RowKit
theorem mergePlaces_ok {w : Wo} {a b c d e : Pe} (ho : OkW w) (hpe : w.pes = [a, b, c, d, e]) (hsm : ∀ p ∈ w.pes, SmP p) (hpl : w.pls.length ≤ 10) (into fr : Str) (hi : into ∈ w.pls.map (·.1)) (hf : fr ∈ w.pls.map (·.1)) (h1 : insB w.pls into fr = false)
    (h2 : par w.pls fr = [] ∨ insB w.pls into (par w.pls fr) = true) : Does Tryz.prog 20 [.d (woD w), S into, S fr] [] (.tup [.d (woD (mpW into fr w)), I 0]) [] := by
  have c1 := check_ok ho
  have c2 := parentsOf_any w.pls (by have := ho.pl.len; omega) ho.pl.nd
  have c3 := has_any ho.pl.nd into
  rw [decide_eq_true hi] at c3
  have c4 := has_any ho.pl.nd fr
  rw [decide_eq_true hf] at c4
  have c5 := inside_any ho.pl into fr
  rw [h1] at c5
  have c6 := inside_any ho.pl into (par w.pls fr)
  have hu := up_find ho.pl.nd fr
  have hok := mpW_ok ho hpl hi hf h1
  have hbl := ho.bo.len
  have hwl := ho.wk.len
  have hx : ∀ x ∈ w.wks, x.2.length ≤ 1000 := fun x hx => by have := (ho.wk.wk x hx).len.2; omega
  obtain ⟨pls, pes, wks, bos⟩ := w
  simp only at *
  subst hpe
  rcases hu with ⟨u1, -⟩ | ⟨j, u1, u2, u3⟩
  · exact absurd hf u1
  simp only [dv] at u3
  refine Does.of_AW (n := 131) Tryz.func20 rfl rfl rfl fun cx hcx => ?_
  refine AW.seq_k fun K0 hK0 => ?_
  repeat' (first | (refine AW.reg rfl ?_; simp only [go_sem, ↓reduceIte]))
  refine hK0 _ ?_
  clear hK0 K0
  refine AW.seq_k fun K1 hK1 => ?_
  repeat' (first | ((first | refine AW.sreg rfl fun K hK => ?_ | refine run_call _ _ _ ((c1).pure rfl rfl _ _) rfl rfl (dstOk_of rfl) rfl rfl rfl ?_); simp only [go_sem, ↓reduceIte]) | (refine AW.skip ?_; simp only [Then, InBlock]) | (refine AW.cF ?_) | (refine hK _ ?_; clear hK K))
  refine hK1 _ ?_
  clear hK1 K1
  refine AW.seq_k fun K2 hK2 => ?_
  repeat' (first | ((first | refine AW.reg rfl ?_ | refine run_call _ _ _ ((c2).pure rfl rfl _ _) rfl rfl (dstOk_of rfl) rfl rfl rfl ?_); simp only [go_sem, ↓reduceIte]))
  refine hK2 _ ?_
  clear hK2 K2
  refine AW.seq_k fun K3 hK3 => ?_
  repeat' (first | ((first | refine AW.sreg rfl fun K hK => ?_ | refine run_call _ _ _ ((c3).pure rfl rfl _ _) rfl rfl (dstOk_of rfl) rfl rfl rfl ?_ | refine run_call _ _ _ ((c4).pure rfl rfl _ _) rfl rfl (dstOk_of rfl) rfl rfl rfl ?_); simp only [go_sem, ↓reduceIte]) | (refine AW.skip ?_; simp only [Then, InBlock]) | (refine AW.cF ?_) | (refine hK _ ?_; clear hK K))
  refine hK3 _ ?_
  clear hK3 K3
  refine AW.seq_k fun K4 hK4 => ?_
  repeat' (first | ((first | refine AW.sreg rfl fun K hK => ?_ | refine run_call _ _ _ ((c5).pure rfl rfl _ _) rfl rfl (dstOk_of rfl) rfl rfl rfl ?_); simp only [go_sem, ↓reduceIte]) | (refine AW.skip ?_; simp only [Then, InBlock]) | (refine AW.cF ?_) | (refine hK _ ?_; clear hK K))
  refine hK4 _ ?_
  clear hK4 K4
  refine AW.seq_k fun K9 hK9 => ?_
  have hmp := mpC hcx hpl hwl hbl hx hsm hok
  by_cases hpn : par pls fr = []
  · have hp1 : (par pls fr == []) = true := by simpa using hpn
    repeat' (first | (refine AW.sreg rfl fun K hK => ?_; simp only [go_sem, ↓reduceIte, u2, u3, hp1]) | (refine AW.skip ?_; simp only [Then, InBlock]) | (refine AW.cF ?_) | (refine hK _ ?_; clear hK K))
    refine hK9 _ (AW.weak ?_ hmp)
    exact (Weak.oC hcx [(0, 0), (64, 64), (128, 128)] (by refine ⟨?_, ?_, ?_⟩ <;> simp [go_sem, gL, kL, List.map_append, dv_push, wo0]))
  · have hp1 : (par pls fr == []) = false := by simpa using hpn
    rw [h2.resolve_left hpn] at c6
    repeat' (first | ((first | refine AW.sreg rfl fun K hK => ?_ | refine run_call _ _ _ ((c6).pure rfl rfl _ _) rfl rfl (dstOk_of rfl) rfl rfl rfl ?_); simp only [go_sem, ↓reduceIte, u2, u3, hp1]) | (refine AW.skip ?_; simp only [Then, InBlock]) | (refine AW.cF ?_) | (refine hK _ ?_; clear hK K))
    refine hK9 _ (AW.weak ?_ hmp)
    exact (Weak.oC hcx [(0, 0), (64, 64), (128, 128)] (by refine ⟨?_, ?_, ?_⟩ <;> simp [go_sem, gL, kL, List.map_append, dv_push, wo0]))
end Go.AX

namespace Go.AX
open Go Go.Proofs Go.RowKit
abbrev keyAt (l : List Int) (a : Int) : Str := K4.getD (nextV l a 4).toNat []
theorem key_any (l : List Int) (hl2 : l.length ≤ 9223372036854775807) (a : Int) (h1 : 0 ≤ a) (h2 : a ≤ 100000) :
    Does Tryz.prog 18 [.ptr 0 0] [.box 23 [.ptr 1 0], Stm l a] (S (keyAt l a)) [.box 23 [.ptr 1 0], Stm l (a + 1)] := by
  have hn1 := next_any l hl2 a 4 (by omega) (by omega) (by omega) (by omega)
  have hn2 := nextV_range l a 4 (by omega)
  unfold keyAt
  generalize nextV l a 4 = j at hn1 hn2
  obtain ⟨q, hq, hqm⟩ : ∃ q, ([S [100, 101, 112, 116], S [105, 110, 115, 116], S [108, 97, 98], S [117, 110, 105]] : List V)[j.toNat]? = some (S q) ∧ K4.getD j.toNat [] = q := by
    obtain rfl | rfl | rfl | rfl : j = 0 ∨ j = 1 ∨ j = 2 ∨ j = 3 := by omega
    all_goals exact ⟨_, rfl, rfl⟩
  rw [hqm]
  refine Does.of_AW (n := 7) Tryz.func18 rfl rfl rfl fun cx hcx => ?_
  repeat' (first | ((first | refine AW.sreg rfl fun K hK => ?_ | refine run_call _ _ _ ((hn1).objA [1]) rfl rfl (dstOk_of rfl) rfl rfl rfl ?_); simp only [go_sem, ↓reduceIte, Nat.zero_add, hq]) | (refine hK _ ?_; clear hK K) | (with_reducible refine andI ?_))
  all_goals first | exact AW.ret (Fin.objs [0, 1] rfl (by simp [go_sem, inI, gI]) ⟨⟨_, rfl, by simp [go_sem, inI, gI]⟩, ⟨_, rfl, by simp [go_sem, inI, gI]⟩, trivial⟩ (by simp) rfl (by simp [go_sem]) (by simp [go_sem]) rfl) | trace_state
theorem law_ok (l : List Int) (hl : l.length ≤ 9223372036854775807) : Does Tryz.prog 5 [Ls l] [] (B true) [] := by
  have hrw := rightWorldI l hl 0 (by omega) (by omega) 5 (by omega)
  rw [show ((5 : Nat) : Int) = 5 from rfl] at hrw
  refine Does.of_AW (n := 104) Tryz.func5 rfl rfl rfl fun cx hcx => ?_
  refine AW.sreg rfl fun K hK => ?_; simp only [go_sem, ↓reduceIte]
  refine hK _ ?_; (try clear hK K)
  refine AW.sreg rfl fun K hK => ?_; simp only [go_sem, ↓reduceIte]
  refine hK _ ?_; (try clear hK K)
  refine AW.sregDS hmix [0, 2, 4, 5, 1, 3, 6, 7] [0, 4, 1, 5, 2, 3, 6, 7] [4, 0] rfl (by decide) (by simp only [permOps, renOp, List.map_cons, List.map_nil, List.getD_cons_zero, List.getD_cons_succ]; exact rfl) fun K hK => ?_; simp only [go_sem, ↓reduceIte, List.take_succ_cons, List.take_zero, List.drop_succ_cons, List.drop_zero]
  repeat' (first | (refine relStep_call _ _ [192] (fun hv hag => (hrw).objs [192] ⟨((hag 192 (by simp)).trans rfl), trivial⟩ rfl (by decide) (by simp [go_sem, renOs]) (by simp [go_sem]) (by simp [go_sem]) (fun j hj => ⟨by simp, by simp, by simp [go_sem], by simp [go_sem]⟩)) rfl rfl (dstOk_of rfl) rfl rfl ⟨by kernel_rfl, by kernel_rfl⟩ ?_; rintro ⟨w, p1⟩ ⟨hw, a2, a3⟩; (try dsimp only at w); (try dsimp only at p1); (try dsimp only at hw); (try dsimp only at a2); (try dsimp only at a3); simp only [go_sem, ↓reduceIte]))
  repeat' (first | (refine AW.sreg rfl fun K hK => ?_; simp only [go_sem, ↓reduceIte]) | (refine hK _ ?_; clear hK K) | (with_reducible refine And.intro (?_ : regOk _ _ = true) ?_; kernel_rfl) | (refine relStep_call _ _ [192] (fun hv hag => (termsI l hl p1 (by omega) (by omega)).objs [192] ⟨((hag 192 (by simp)).trans rfl), trivial⟩ rfl (by decide) (by simp [go_sem, renOs]) (by simp [go_sem]) (by simp [go_sem]) (fun j hj => ⟨by simp, by simp, by simp [go_sem], by simp [go_sem]⟩)) rfl rfl (dstOk_of rfl) rfl rfl ⟨by kernel_rfl, by kernel_rfl⟩ ?_; rintro ⟨th, tw⟩ ⟨hth, htw⟩; (try dsimp only at th); (try dsimp only at tw); (try dsimp only at hth); (try dsimp only at htw); simp only [go_sem, ↓reduceIte]))
  repeat' (first | ((first | refine AW.sreg rfl fun K hK => ?_ | refine AW.sregD hmix rfl fun K hK => ?_); simp only [go_sem, ↓reduceIte]) | (refine hK _ ?_; clear hK K) | (refine run_callI _ _ _ ((pickB l hl (p1 + 1 + 1) (by omega) (by omega) [0, 30, 50, 99, 130] 0 4000 (by simp) (by simp) (by decide)).objs [_, _] ⟨rfl, rfl, trivial⟩ rfl (by decide) (by simp [go_sem, renOs]) (by simp [go_sem]) (by simp [go_sem]) (fun j hj => ⟨by simp, by simp, by simp [go_sem], by simp [go_sem]⟩)) rfl rfl (dstOk_of rfl) rfl rfl rfl ?_; rintro day hday; (try dsimp only at day); (try dsimp only at hday); simp only [go_sem, ↓reduceIte]))
  have k1 := key_any l hl (p1 + 1 + 1 + 1) (by omega) (by omega)
  have k2 := key_any l hl (p1 + 1 + 1 + 1 + 1) (by omega) (by omega)
  generalize keyAt l (p1 + 1 + 1 + 1) = into at k1
  generalize keyAt l (p1 + 1 + 1 + 1 + 1) = fr at k2
  have hok := hw.ok
  have hpl : w.pls.length ≤ 10 := by have := hw.pl.len; omega
  have hl300 := hok.len
  by_cases hg : into ∈ w.pls.map (·.1) ∧ fr ∈ w.pls.map (·.1) ∧ insB w.pls into fr = false ∧ (par w.pls fr = [] ∨ insB w.pls into (par w.pls fr) = true)
  · obtain ⟨g1, g2, g3, g4⟩ := hg
    obtain ⟨a0, b0, c0, d0, e0, hpe⟩ : ∃ a b c d e, w.pes = [a, b, c, d, e] := by
      have h5 : w.pes.length = 5 := by
        have := congrArg List.length hw.ky
        simpa [K7] using this
      match hq : w.pes, h5 with
      | [a, b, c, d, e], _ => exact ⟨a, b, c, d, e, rfl⟩
    have hm := mergePlaces_ok hok hpe hw.sm hpl into fr g1 g2 g3 g4
    have hmk := mpW_ok hok hpl g1 g2 g3
    have hwy : ∀ a b, SubI (whyF w th tw day a b) (whyF (mpW into fr w) th tw day (mpE into fr a) (mpE into fr b)) := fun a b => why_mp hok hpl g1 g2 g3 g4 th tw day a b
    have hmm : ∀ a ∈ w.pes, mpE into fr a ∈ (mpW into fr w).pes := fun a ha => List.mem_map_of_mem ha
    have hmk2 : ∀ a, (mpE into fr a).key = a.key := fun a => rfl
    generalize mpW into fr w = m at *
    repeat' (first | ((first | refine AW.sreg rfl fun K hK => ?_ | refine runT_call _ _ [256, 192] (fun hv hag => (k1).robjs [256, 192] ⟨((hag 256 (by simp)).trans (by first | rfl | (simp [go_sem]; done) | (simp [go_sem]; rfl))), ((hag 192 (by simp)).trans (by first | rfl | (simp [go_sem]; done) | (simp [go_sem]; rfl))), trivial⟩ rfl (by decide) (by simp) (by simp) (by simp [go_sem]) (by simp [go_sem]) (by simp [go_sem]) (by simp [go_sem])) rfl rfl (dstOk_of rfl) rfl rfl ?_ | refine runT_call _ _ [256, 192] (fun hv hag => (k2).robjs [256, 192] ⟨((hag 256 (by simp)).trans (by first | rfl | (simp [go_sem]; done) | (simp [go_sem]; rfl))), ((hag 192 (by simp)).trans (by first | rfl | (simp [go_sem]; done) | (simp [go_sem]; rfl))), trivial⟩ rfl (by decide) (by simp) (by simp) (by simp [go_sem]) (by simp [go_sem]) (by simp [go_sem]) (by simp [go_sem])) rfl rfl (dstOk_of rfl) rfl rfl ?_ | refine runT_call _ _ [] (fun hv _ => (hm).pure rfl rfl hv _) rfl rfl (dstOk_of rfl) rfl rfl ?_); simp only [go_sem, ↓reduceIte]) | (refine AW.seq_k fun K hK => ?_) | (refine AW.block ?_) | (refine AW.skip ?_; simp only [Then, InBlock]) | (refine AW.cF ?_) | (refine hK _ ?_; clear hK K) | (with_reducible refine And.intro (?_ : regOk _ _ = true) ?_; kernel_rfl))
    refine AW.loopF (ι := Nat) [4, 5, 6, 8, 54, 55] (fun p => [(56, I p)]) (fun p => [(512, some (O.box 31 [.d (.sl (w.pls.map plD)), .d (.sl (w.pes.map peD)), .d (.sl (w.wks.map wkD)), .d (.sl (w.bos.map boD))])), (576, some (O.box 43 [I th, I tw])), (1856, some (O.box 31 [.d (.sl (m.pls.map plD)), .d (.sl (m.pes.map peD)), .d (.sl (m.wks.map wkD)), .d (.sl (m.bos.map boD))]))]) 60 (fun p => p ≤ w.pes.length) (fun p => w.pes.length - p) 0 (Nat.zero_le _) (Weak.aC hcx (by refine ⟨?_, ?_, ?_⟩ <;> simp [go_sem, gL, kL, renOf, V.obj, Nat.blt, Nat.ble, List.map_append, dv_push, woD])) ?_; simp only [St.at_nil, St.at_cons, lk, Nat.reduceEqDiff, ↓reduceIte, Option.getD_some, Option.getD_none, List.cons_append, List.nil_append, List.append_nil]
    intro i h1
    by_cases hi : i < w.pes.length
    · obtain ⟨a, hA, ham, -⟩ := get_some hi
      have hgA : (w.pes.map peD)[i]? = some (peD a) := by simp [hA]
      repeat' (first | (refine AW.sreg rfl fun K hK => ?_; simp only [go_sem, ↓reduceIte, List.length_map, hgA]) | (refine AW.seq_k fun K hK => ?_) | (refine AW.block ?_) | (refine AW.skip ?_; simp only [Then, InBlock]) | (refine AW.cT ?_) | (refine hK _ ?_; clear hK K) | (with_reducible refine andI ?_))
      refine AW.loopF (ι := Nat) [4, 5, 6, 8, 11, 54, 55, 56, 61, 62] (fun p => [(63, I p)]) (fun p => [(512, some (O.box 31 [.d (.sl (w.pls.map plD)), .d (.sl (w.pes.map peD)), .d (.sl (w.wks.map wkD)), .d (.sl (w.bos.map boD))])), (576, some (O.box 43 [I th, I tw])), (1856, some (O.box 31 [.d (.sl (m.pls.map plD)), .d (.sl (m.pes.map peD)), .d (.sl (m.wks.map wkD)), .d (.sl (m.bos.map boD))])), (4032, some (O.box 50 [S a.key, .d (.sl (a.names.map nmD)), .d (.sl (a.homes.map hmD)), .d (.sl (a.mails.map D.str)), .d (.sl (a.advs.map D.str))]))]) 100 (fun p => p ≤ w.pes.length) (fun p => w.pes.length - p) 0 (Nat.zero_le _) (Weak.aC hcx (by refine ⟨?_, ?_, ?_⟩ <;> simp [go_sem, gL, kL, renOf, V.obj, Nat.blt, Nat.ble, List.map_append, dv_push])) ?_; simp only [St.at_nil, St.at_cons, lk, Nat.reduceEqDiff, ↓reduceIte, Option.getD_some, Option.getD_none, List.cons_append, List.nil_append, List.append_nil]
      intro k g1
      by_cases hk : k < w.pes.length
      · obtain ⟨b, hB, hbm, -⟩ := get_some hk
        have hgB : (w.pes.map peD)[k]? = some (peD b) := by simp [hB]
        have y1 := Why_ok hok th tw day hth htw hday a b ham hbm
        have y2 := Why_ok hmk th tw day hth htw hday (mpE into fr a) (mpE into fr b) (hmm a ham) (hmm b hbm)
        rw [hmk2, hmk2] at y2
        have q1 := within_ok (by have := whyF_len w th tw day a b; omega) (by have := whyF_len m th tw day (mpE into fr a) (mpE into fr b); omega) (hwy a b)
        generalize whyF w th tw day a b = X at y1 q1
        generalize whyF m th tw day (mpE into fr a) (mpE into fr b) = Z at y2 q1
        repeat' (first | ((first | refine AW.sreg rfl fun K hK => ?_ | refine AW.reg rfl ?_ | refine run_call _ _ _ ((y1).pure rfl rfl _ _) rfl rfl (dstOk_of rfl) rfl rfl rfl ?_ | refine run_call _ _ _ ((y2).pure rfl rfl _ _) rfl rfl (dstOk_of rfl) rfl rfl rfl ?_ | refine run_call _ _ _ ((q1).pure rfl rfl _ _) rfl rfl (dstOk_of rfl) rfl rfl rfl ?_); simp only [go_sem, ↓reduceIte, List.length_map, hgB]) | (refine AW.seq_k fun K hK => ?_) | (refine AW.block ?_) | (refine AW.skip ?_; simp only [Then, InBlock]) | (refine AW.cT ?_) | (refine AW.cF ?_) | (refine hK _ ?_; clear hK K) | (with_reducible refine andI ?_))
        all_goals first | exact ⟨k + 1, hk, by omega, (Weak.aC hcx (by refine ⟨?_, ?_, ?_⟩ <;> simp [go_sem, gL, kL, renOf, V.obj, Nat.blt, Nat.ble, List.map_append, dv_push]))⟩ | trace_state
      · obtain rfl : k = w.pes.length := by omega
        repeat' (first | ((first | refine AW.sreg rfl fun K hK => ?_ | refine AW.reg rfl ?_); simp only [go_sem, ↓reduceIte, List.length_map]) | (refine AW.seq_k fun K hK => ?_) | (refine AW.exit ?_; simp only [go_sem, ↓reduceIte]) | (refine AW.cF ?_) | (refine hK _ ?_; clear hK K) | (clear hK K; refine hK _ ?_; clear hK K) | (with_reducible refine andI ?_))
        exact ⟨i + 1, hi, by omega, (Weak.aC hcx (by refine ⟨?_, ?_, ?_⟩ <;> simp [go_sem, gL, kL, renOf, V.obj, Nat.blt, Nat.ble, List.map_append, dv_push]))⟩
    · obtain rfl : i = w.pes.length := by omega
      repeat' (first | ((first | refine AW.sreg rfl fun K hK => ?_ | refine run_call _ _ _ ((stands_ok).pure rfl rfl _ _) rfl rfl (dstOk_of rfl) rfl rfl rfl ?_); simp only [go_sem, ↓reduceIte, List.length_map]) | (refine AW.seq_k fun K hK => ?_) | (refine AW.exit ?_; simp only [go_sem, ↓reduceIte]) | (refine AW.cF ?_) | (refine hK _ ?_; clear hK K) | (clear hK K; refine hK _ ?_; clear hK K) | (refine AW.ret (Fin.data rfl (by first | (simp only [go_sem]; done) | (simp [go_sem, *]; done) | (simp [go_sem]; omega) | rfl) rfl)))
  · obtain ⟨e, he, hm⟩ := mergePlaces_bad hok into fr hg
    rcases he with rfl | rfl | rfl
    · repeat' (first | ((first | refine AW.sreg rfl fun K hK => ?_ | refine runT_call _ _ [256, 192] (fun hv hag => (k1).robjs [256, 192] ⟨((hag 256 (by simp)).trans (by first | rfl | (simp [go_sem]; done) | (simp [go_sem]; rfl))), ((hag 192 (by simp)).trans (by first | rfl | (simp [go_sem]; done) | (simp [go_sem]; rfl))), trivial⟩ rfl (by decide) (by simp) (by simp) (by simp [go_sem]) (by simp [go_sem]) (by simp [go_sem]) (by simp [go_sem])) rfl rfl (dstOk_of rfl) rfl rfl ?_ | refine runT_call _ _ [256, 192] (fun hv hag => (k2).robjs [256, 192] ⟨((hag 256 (by simp)).trans (by first | rfl | (simp [go_sem]; done) | (simp [go_sem]; rfl))), ((hag 192 (by simp)).trans (by first | rfl | (simp [go_sem]; done) | (simp [go_sem]; rfl))), trivial⟩ rfl (by decide) (by simp) (by simp) (by simp [go_sem]) (by simp [go_sem]) (by simp [go_sem]) (by simp [go_sem])) rfl rfl (dstOk_of rfl) rfl rfl ?_ | refine runT_call _ _ [] (fun hv _ => (hm).pure rfl rfl hv _) rfl rfl (dstOk_of rfl) rfl rfl ?_ | refine run_call _ _ _ ((stands_ok).pure rfl rfl _ _) rfl rfl (dstOk_of rfl) rfl rfl rfl ?_); simp only [go_sem, ↓reduceIte]) | (refine AW.seq_k fun K hK => ?_) | (refine AW.cT ?_) | (refine hK _ ?_; clear hK K) | (with_reducible refine And.intro (?_ : regOk _ _ = true) ?_; kernel_rfl) | (refine AW.ret (Fin.data rfl (by first | (simp only [go_sem]; done) | (simp [go_sem, *]; done) | (simp [go_sem]; omega) | rfl) rfl)))
    · repeat' (first | ((first | refine AW.sreg rfl fun K hK => ?_ | refine runT_call _ _ [256, 192] (fun hv hag => (k1).robjs [256, 192] ⟨((hag 256 (by simp)).trans (by first | rfl | (simp [go_sem]; done) | (simp [go_sem]; rfl))), ((hag 192 (by simp)).trans (by first | rfl | (simp [go_sem]; done) | (simp [go_sem]; rfl))), trivial⟩ rfl (by decide) (by simp) (by simp) (by simp [go_sem]) (by simp [go_sem]) (by simp [go_sem]) (by simp [go_sem])) rfl rfl (dstOk_of rfl) rfl rfl ?_ | refine runT_call _ _ [256, 192] (fun hv hag => (k2).robjs [256, 192] ⟨((hag 256 (by simp)).trans (by first | rfl | (simp [go_sem]; done) | (simp [go_sem]; rfl))), ((hag 192 (by simp)).trans (by first | rfl | (simp [go_sem]; done) | (simp [go_sem]; rfl))), trivial⟩ rfl (by decide) (by simp) (by simp) (by simp [go_sem]) (by simp [go_sem]) (by simp [go_sem]) (by simp [go_sem])) rfl rfl (dstOk_of rfl) rfl rfl ?_ | refine runT_call _ _ [] (fun hv _ => (hm).pure rfl rfl hv _) rfl rfl (dstOk_of rfl) rfl rfl ?_ | refine run_call _ _ _ ((stands_ok).pure rfl rfl _ _) rfl rfl (dstOk_of rfl) rfl rfl rfl ?_); simp only [go_sem, ↓reduceIte]) | (refine AW.seq_k fun K hK => ?_) | (refine AW.cT ?_) | (refine hK _ ?_; clear hK K) | (with_reducible refine And.intro (?_ : regOk _ _ = true) ?_; kernel_rfl) | (refine AW.ret (Fin.data rfl (by first | (simp only [go_sem]; done) | (simp [go_sem, *]; done) | (simp [go_sem]; omega) | rfl) rfl)))
    · repeat' (first | ((first | refine AW.sreg rfl fun K hK => ?_ | refine runT_call _ _ [256, 192] (fun hv hag => (k1).robjs [256, 192] ⟨((hag 256 (by simp)).trans (by first | rfl | (simp [go_sem]; done) | (simp [go_sem]; rfl))), ((hag 192 (by simp)).trans (by first | rfl | (simp [go_sem]; done) | (simp [go_sem]; rfl))), trivial⟩ rfl (by decide) (by simp) (by simp) (by simp [go_sem]) (by simp [go_sem]) (by simp [go_sem]) (by simp [go_sem])) rfl rfl (dstOk_of rfl) rfl rfl ?_ | refine runT_call _ _ [256, 192] (fun hv hag => (k2).robjs [256, 192] ⟨((hag 256 (by simp)).trans (by first | rfl | (simp [go_sem]; done) | (simp [go_sem]; rfl))), ((hag 192 (by simp)).trans (by first | rfl | (simp [go_sem]; done) | (simp [go_sem]; rfl))), trivial⟩ rfl (by decide) (by simp) (by simp) (by simp [go_sem]) (by simp [go_sem]) (by simp [go_sem]) (by simp [go_sem])) rfl rfl (dstOk_of rfl) rfl rfl ?_ | refine runT_call _ _ [] (fun hv _ => (hm).pure rfl rfl hv _) rfl rfl (dstOk_of rfl) rfl rfl ?_ | refine run_call _ _ _ ((stands_ok).pure rfl rfl _ _) rfl rfl (dstOk_of rfl) rfl rfl rfl ?_); simp only [go_sem, ↓reduceIte]) | (refine AW.seq_k fun K hK => ?_) | (refine AW.cT ?_) | (refine hK _ ?_; clear hK K) | (with_reducible refine And.intro (?_ : regOk _ _ = true) ?_; kernel_rfl) | (refine AW.ret (Fin.data rfl (by first | (simp only [go_sem]; done) | (simp [go_sem, *]; done) | (simp [go_sem]; omega) | rfl) rfl)))
end Go.AX
