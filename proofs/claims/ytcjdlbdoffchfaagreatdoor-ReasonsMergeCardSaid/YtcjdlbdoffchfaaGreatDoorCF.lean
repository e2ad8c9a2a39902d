/- Merging persons: names that are turned; persons that are joined. -/
import Derived.Test.YtcjdlbdoffchfaaGreatDoorCE
import Derived.Test.YtcjdlbdoffchfaaGreatDoorCD
set_option linter.unusedSimpArgs false
set_option linter.unusedVariables false
set_option linter.unnecessarySimpa false
set_option maxRecDepth 1000000
set_option maxHeartbeats 4000000
namespace Go.AX
open Go Go.Proofs Go.RowKit
abbrev trV (i f : Str) (l : List Str) : O := .vec 9 1 (dv ((trL i f l).map D.str ++ List.replicate (l.length - (trL i f l).length) (D.str [])))
theorem turned_dat (i f : Str) (l : List Str) (hl : l.length ≤ 12) :
    Does Tryz.prog 73 [.d (.sl (l.map D.str)), .ptr 0 0, .ptr 1 0] [.box 9 [S f], .box 9 [S i]] (.slr 2 0 (trL i f l).length) [.box 9 [S f], .box 9 [S i], trV i f l] := by
  have hri := rising_own (l.map (trS i f)) (by simpa using hl)
  rw [List.length_map] at hri
  refine Does.of_AW (n := 25) Tryz.func73 rfl rfl rfl fun cx hcx => ?_
  repeat' (first | (refine AW.sreg rfl fun K hK => ?_; simp only [go_sem, ↓reduceIte, List.length_map]) | (refine AW.seq_k fun K hK => ?_) | (refine AW.block ?_) | (refine hK _ ?_; clear hK K))
  refine AW.weak (Weak.nil 5 9 1 rfl) ?_
  refine AW.loopF (ι := Nat) [1, 2, 8, 9] (fun p => [(5, .slr 320 0 p), (10, I p)]) (fun p => [(0, some (O.box 9 [S f])), (1, some (O.box 9 [S i])), (320, some (O.vec 9 1 (dv (((l.take p).map (trS i f)).map D.str))))]) 20 (fun p => p ≤ l.length) (fun p => l.length - p) 0 (Nat.zero_le _) (Weak.aC hcx (by refine ⟨?_, ?_, ?_⟩ <;> simp [go_sem, gL, kL, renOf, V.obj, Nat.blt, Nat.ble, List.map_append, dv_push])) ?_; simp only [St.at_nil, St.at_cons, lk, Nat.reduceEqDiff, ↓reduceIte, Option.getD_some, Option.getD_none, List.cons_append, List.nil_append, List.append_nil]
  intro k h1
  by_cases hi : k < l.length
  · obtain ⟨x, hx, hxm, hxd⟩ := get_some hi
    have hget : (l.map D.str)[k]? = some (.str x) := by simp [hx]
    have htk : l.take (k + 1) = l.take k ++ [x] := by rw [List.take_add_one, hx]; rfl
    have htd : List.take k (dv (((l.take k).map (trS i f)).map D.str)) = dv (((l.take k).map (trS i f)).map D.str) := List.take_of_length_le (by simp [dv]; omega)
    have hln : (dv (((l.take k).map (trS i f)).map D.str)).length = k := by simp [dv]; omega
    by_cases he : x = f
    · have e0 : (x == f) = true := by simp [he]
      have e1 : trS i f x = i := if_pos he
      repeat' (first | ((first | refine AW.sreg rfl fun K hK => ?_ | refine AW.reg rfl ?_); simp only [go_sem, ↓reduceIte, List.length_map, hget, e0, htd, hln]) | (refine AW.seq_k fun K hK => ?_) | (refine AW.block ?_) | (refine AW.skip ?_; simp only [Then, InBlock]) | (refine AW.cT ?_) | (refine hK _ ?_; clear hK K) | (with_reducible refine andI ?_))
      exact ⟨k + 1, hi, by omega, (Weak.aC hcx (by refine ⟨?_, ?_, ?_⟩ <;> simp [go_sem, gL, kL, renOf, V.obj, Nat.blt, Nat.ble, List.map_append, dv_push, htk, e1]))⟩
    · have e0 : (x == f) = false := by simp [he]
      have e1 : trS i f x = x := if_neg he
      repeat' (first | ((first | refine AW.sreg rfl fun K hK => ?_ | refine AW.reg rfl ?_); simp only [go_sem, ↓reduceIte, List.length_map, hget, e0, htd, hln]) | (refine AW.seq_k fun K hK => ?_) | (refine AW.block ?_) | (refine AW.skip ?_; simp only [Then, InBlock]) | (refine AW.cT ?_) | (refine AW.cF ?_) | (refine hK _ ?_; clear hK K) | (with_reducible refine andI ?_))
      exact ⟨k + 1, hi, by omega, (Weak.aC hcx (by refine ⟨?_, ?_, ?_⟩ <;> simp [go_sem, gL, kL, renOf, V.obj, Nat.blt, Nat.ble, List.map_append, dv_push, htk, e1]))⟩
  · obtain rfl : k = l.length := by omega
    rw [List.take_length]
    repeat' (first | ((first | refine AW.sreg rfl fun K hK => ?_ | refine run_call _ _ _ ((hri).objA [_]) rfl rfl (dstOk_of rfl) rfl rfl rfl ?_); simp only [go_sem, ↓reduceIte, List.length_map, Nat.reduceSub, Nat.add_zero]) | (refine AW.seq_k fun K hK => ?_) | (refine AW.exit ?_; simp only [go_sem, ↓reduceIte]) | (refine AW.cF ?_) | (refine hK _ ?_; clear hK K) | (clear hK K; refine hK _ ?_; clear hK K))
    exact AW.ret (Fin.objs [0, 1, 1408] rfl (by simp [go_sem, inI, gI, trL]) ⟨⟨_, rfl, by simp [go_sem, inI, gI]⟩, ⟨_, rfl, by simp [go_sem, inI, gI]⟩, ⟨_, rfl, by simp [go_sem, inI, gI, trL, trV]⟩, trivial⟩ (by simp) rfl (by simp [go_sem]) (by simp [go_sem]) rfl)
theorem turned_own (i f : Str) (l : List Str) (hl : l.length ≤ 12) :
    Does Tryz.prog 73 [.slr 2 0 l.length, .ptr 0 0, .ptr 1 0] [.box 9 [S f], .box 9 [S i], .vec 9 1 (dv (l.map D.str))] (.slr 3 0 (trL i f l).length) [.box 9 [S f], .box 9 [S i], .vec 9 1 (dv (l.map D.str)), trV i f l] := by
  have hri := rising_own (l.map (trS i f)) (by simpa using hl)
  rw [List.length_map] at hri
  refine Does.of_AW (n := 25) Tryz.func73 rfl rfl rfl fun cx hcx => ?_
  repeat' (first | (refine AW.sreg rfl fun K hK => ?_; simp only [go_sem, ↓reduceIte, List.length_map]) | (refine AW.seq_k fun K hK => ?_) | (refine AW.block ?_) | (refine hK _ ?_; clear hK K))
  refine AW.weak (Weak.nil 5 9 1 rfl) ?_
  refine AW.loopF (ι := Nat) [1, 2, 8, 9] (fun p => [(5, .slr 320 0 p), (10, I p)]) (fun p => [(0, some (O.box 9 [S f])), (1, some (O.box 9 [S i])), (2, some (O.vec 9 1 (dv (l.map D.str)))), (320, some (O.vec 9 1 (dv (((l.take p).map (trS i f)).map D.str))))]) 20 (fun p => p ≤ l.length) (fun p => l.length - p) 0 (Nat.zero_le _) (Weak.aC hcx (by refine ⟨?_, ?_, ?_⟩ <;> simp [go_sem, gL, kL, renOf, V.obj, Nat.blt, Nat.ble, List.map_append, dv_push])) ?_; simp only [St.at_nil, St.at_cons, lk, Nat.reduceEqDiff, ↓reduceIte, Option.getD_some, Option.getD_none, List.cons_append, List.nil_append, List.append_nil]
  intro k h1
  by_cases hi : k < l.length
  · obtain ⟨x, hx, hxm, hxd⟩ := get_some hi
    have hget : (dv (l.map D.str))[k]? = some (.d (.str x)) := by simp [dv, hx]
    have htk : l.take (k + 1) = l.take k ++ [x] := by rw [List.take_add_one, hx]; rfl
    have htd : List.take k (dv (((l.take k).map (trS i f)).map D.str)) = dv (((l.take k).map (trS i f)).map D.str) := List.take_of_length_le (by simp [dv]; omega)
    have hln : (dv (((l.take k).map (trS i f)).map D.str)).length = k := by simp [dv]; omega
    by_cases he : x = f
    · have e0 : (x == f) = true := by simp [he]
      have e1 : trS i f x = i := if_pos he
      repeat' (first | ((first | refine AW.sreg rfl fun K hK => ?_ | refine AW.reg rfl ?_); simp only [go_sem, ↓reduceIte, List.length_map, hget, e0, htd, hln, Nat.zero_add]) | (refine AW.seq_k fun K hK => ?_) | (refine AW.block ?_) | (refine AW.skip ?_; simp only [Then, InBlock]) | (refine AW.cT ?_) | (refine hK _ ?_; clear hK K) | (with_reducible refine andI ?_))
      exact ⟨k + 1, hi, by omega, (Weak.aC hcx (by refine ⟨?_, ?_, ?_⟩ <;> simp [go_sem, gL, kL, renOf, V.obj, Nat.blt, Nat.ble, List.map_append, dv_push, htk, e1]))⟩
    · have e0 : (x == f) = false := by simp [he]
      have e1 : trS i f x = x := if_neg he
      repeat' (first | ((first | refine AW.sreg rfl fun K hK => ?_ | refine AW.reg rfl ?_); simp only [go_sem, ↓reduceIte, List.length_map, hget, e0, htd, hln, Nat.zero_add]) | (refine AW.seq_k fun K hK => ?_) | (refine AW.block ?_) | (refine AW.skip ?_; simp only [Then, InBlock]) | (refine AW.cT ?_) | (refine AW.cF ?_) | (refine hK _ ?_; clear hK K) | (with_reducible refine andI ?_))
      exact ⟨k + 1, hi, by omega, (Weak.aC hcx (by refine ⟨?_, ?_, ?_⟩ <;> simp [go_sem, gL, kL, renOf, V.obj, Nat.blt, Nat.ble, List.map_append, dv_push, htk, e1]))⟩
  · obtain rfl : k = l.length := by omega
    rw [List.take_length]
    repeat' (first | ((first | refine AW.sreg rfl fun K hK => ?_ | refine run_call _ _ _ ((hri).objA [_]) rfl rfl (dstOk_of rfl) rfl rfl rfl ?_); simp only [go_sem, ↓reduceIte, List.length_map, Nat.reduceSub, Nat.add_zero]) | (refine AW.seq_k fun K hK => ?_) | (refine AW.exit ?_; simp only [go_sem, ↓reduceIte]) | (refine AW.cF ?_) | (refine hK _ ?_; clear hK K) | (clear hK K; refine hK _ ?_; clear hK K))
    exact AW.ret (Fin.objs [0, 1, 2, 1408] rfl (by simp [go_sem, inI, gI, trL]) ⟨⟨_, rfl, by simp [go_sem, inI, gI]⟩, ⟨_, rfl, by simp [go_sem, inI, gI]⟩, ⟨_, rfl, by simp [go_sem, inI, gI]⟩, ⟨_, rfl, by simp [go_sem, inI, gI, trL, trV]⟩, trivial⟩ (by simp) rfl (by simp [go_sem]) (by simp [go_sem]) rfl)
theorem person_two {w : Wo} (ho : OkW w) (a b : Pe) (ha : a ∈ w.pes) (hb : b ∈ w.pes) : Does Tryz.prog 69 [.d (woD w), .slr 0 0 2] [.vec 9 1 [S a.key, S b.key]] (.tup [.slr 1 0 2, I 0]) [.vec 9 1 [S a.key, S b.key], .vec 50 5 [.d (peD a), .d (peD b)]] := by
  have c1 := check_ok ho
  have c2 := keysOf_any w (by have := ho.len; omega) ho.nd
  have hnd := ho.nd
  have huq : ∀ {p q : Pe}, p ∈ w.pes → q ∈ w.pes → p.key = q.key → p = q := fun hp hq e => key_inj hnd hp hq e
  rcases ky_find hnd a.key with ⟨u1, u2⟩ | ⟨i, p, u1, u2, u3, u4⟩
  · exact absurd (List.mem_map_of_mem ha) u1
  rcases ky_find hnd b.key with ⟨v1, v2⟩ | ⟨k, q, v1, v2, v3, v4⟩
  · exact absurd (List.mem_map_of_mem hb) v1
  obtain rfl : p = a := huq (List.mem_of_getElem? u1) ha u2
  obtain rfl : q = b := huq (List.mem_of_getElem? v1) hb v2
  have hi : i < w.pes.length := (List.getElem?_eq_some_iff.1 u1).1
  have hk : k < w.pes.length := (List.getElem?_eq_some_iff.1 v1).1
  have g1 : (w.pes.map peD)[i]? = some (peD p) := by simp [u1]
  have g2 : (w.pes.map peD)[k]? = some (peD q) := by simp [v1]
  have hpl := ho.len
  obtain ⟨pls, pes, wks, bos⟩ := w
  simp only at *
  refine Does.of_AW (n := 44) Tryz.func69 rfl rfl rfl fun cx hcx => ?_
  repeat' (first | ((first | refine AW.sreg rfl fun K hK => ?_ | refine AW.reg rfl ?_ | refine run_call _ _ _ ((c1).pure rfl rfl _ _) rfl rfl (dstOk_of rfl) rfl rfl rfl ?_ | refine run_call _ _ _ ((c2).pure rfl rfl _ _) rfl rfl (dstOk_of rfl) rfl rfl rfl ?_); simp only [go_sem, ↓reduceIte, u3, u4, v3, v4, g1, g2, List.length_map, List.length_cons, List.length_nil, List.getElem?_cons_zero, List.getElem?_cons_succ, Nat.zero_add, Int.zero_add, Int.reduceAdd]) | (refine AW.seq_k fun K hK => ?_) | (refine AW.block ?_) | (refine AW.skip ?_; simp only [Then, InBlock]) | (refine AW.exit ?_; simp only [go_sem, ↓reduceIte]) | (refine AW.cT ?_) | (refine AW.cF ?_) | (refine hK _ ?_; clear hK K) | (clear hK K; refine hK _ ?_; clear hK K) | (refine AW.unroll 3 ?_; simp only [AWr]) | (with_reducible refine andI ?_))
  exact AW.ret (Fin.objs [0, 3968] rfl (by simp [go_sem, inI, gI]) ⟨⟨_, rfl, by simp [go_sem, inI, gI]⟩, ⟨_, rfl, by simp [go_sem, inI, gI]⟩, trivial⟩ (by simp) rfl (by simp [go_sem]) (by simp [go_sem]) rfl)
theorem keysOf_own (w : Wo) (hl : w.pes.length ≤ 1000) (hn : (w.pes.map (·.key)).Nodup) (n0 n2 n3 : Nat) (o0 o2 o3 : List D) (e0 e2 e3 s0 s2 s3 : Nat) :
    Does Tryz.prog 70 [.agg [.slr 0 0 n0, .slr 1 0 w.pes.length, .slr 2 0 n2, .slr 3 0 n3]] [.vec e0 s0 (dv o0), .vec 50 5 (dv (w.pes.map peD)), .vec e2 s2 (dv o2), .vec e3 s3 (dv o3)] (.d (kyD w.pes)) [.vec e0 s0 (dv o0), .vec 50 5 (dv (w.pes.map peD)), .vec e2 s2 (dv o2), .vec e3 s3 (dv o3)] := by
  obtain ⟨pls, ps, wks, bos⟩ := w
  simp only at hl hn ⊢
  refine Does.of_AW (n := 21) Tryz.func70 rfl rfl rfl fun cx hcx => ?_
  repeat' (first | (refine AW.sreg rfl fun K hK => ?_; simp only [go_sem, ↓reduceIte, List.length_map]) | (refine AW.seq_k fun K hK => ?_) | (refine AW.block ?_) | (refine hK _ ?_; clear hK K))
  refine AW.loopF (ι := Nat) [3, 8, 9] (fun p => [(10, I p)]) (fun p => [(0, some (O.vec e0 s0 (dv o0))), (1, some (O.vec 50 5 (dv (ps.map peD)))), (2, some (O.vec e2 s2 (dv o2))), (3, some (O.vec e3 s3 (dv o3))), (384, some (O.map ((ps.take p).map fun p => D.str p.key) (dv ((List.range p).map fun i : Nat => D.int .i64 (i : Int)))))]) 20 (fun p => p ≤ ps.length) (fun p => ps.length - p) 0 (Nat.zero_le _) (Weak.oC hcx [(384, 384)] (by refine ⟨?_, ?_, ?_⟩ <;> simp [go_sem, gL, kL, List.map_append, dv_push, List.map_nil])) ?_; simp only [St.at_nil, St.at_cons, lk, Nat.reduceEqDiff, ↓reduceIte, Option.getD_some, Option.getD_none, List.cons_append, List.nil_append, List.append_nil]
  intro i h1
  by_cases hi : i < ps.length
  · obtain ⟨x, hx, hxm, hxd⟩ := get_some hi
    have hget : (dv (ps.map peD))[i]? = some (.d (peD x)) := by simp [dv, hx]
    have htk : ps.take (i + 1) = ps.take i ++ [x] := by rw [List.take_add_one, hx]; rfl
    have hf : fndK (.str x.key) ((ps.take i).map fun p => D.str p.key) = some none := by
      rw [fnd_ky, findIdx_none]
      intro hm
      have hn2 : ((ps.take (i + 1)).map (·.key)).Nodup := by
        rw [List.map_take]
        exact hn.sublist (List.take_sublist _ _)
      rw [htk, List.map_append, List.nodup_append] at hn2
      exact hn2.2.2 _ hm x.key (by simp) rfl
    repeat' (first | ((first | refine AW.sreg rfl fun K hK => ?_ | refine AW.reg rfl ?_); simp only [go_sem, ↓reduceIte, List.length_map, hget, hf, Nat.zero_add]) | (refine AW.seq_k fun K hK => ?_) | (refine AW.block ?_) | (refine AW.skip ?_; simp only [Then, InBlock]) | (refine AW.cT ?_) | (refine hK _ ?_; clear hK K) | (with_reducible refine andI ?_))
    all_goals first | exact ⟨i + 1, hi, by omega, (Weak.oC hcx [(384, 384)] (by refine ⟨?_, ?_, ?_⟩ <;> simp [go_sem, gL, kL, List.map_append, dv_push, htk, List.range_succ]))⟩ | trace_state
  · obtain rfl : i = ps.length := by omega
    rw [List.take_length]
    repeat' (first | (refine AW.sreg rfl fun K hK => ?_; simp only [go_sem, ↓reduceIte, List.length_map]) | (refine AW.seq_k fun K hK => ?_) | (refine AW.exit ?_; simp only [go_sem, ↓reduceIte]) | (refine AW.cF ?_) | (refine hK _ ?_; clear hK K) | (clear hK K; refine hK _ ?_; clear hK K))
    exact AW.ret (Fin.objs [0, 1, 2, 3] rfl (frz_mprD rfl rfl) ⟨⟨_, rfl, by simp [go_sem, inI, gI]⟩, ⟨_, rfl, by simp [go_sem, inI, gI]⟩, ⟨_, rfl, by simp [go_sem, inI, gI]⟩, ⟨_, rfl, by simp [go_sem, inI, gI]⟩, trivial⟩ (by simp) rfl (by simp [go_sem]) (by simp [go_sem]) rfl)
end Go.AX

namespace Go.AX
open Go Go.Proofs Go.RowKit
abbrev nmB (n : Nm) : Prop := -1000000 ≤ n.2 ∧ n.2 ≤ 1000000
abbrev NmS := {n : Nm // nmB n}
abbrev nmS (n : NmS) : D := nmD n.1
theorem indexFunc_Nm (xs : List Nm) (hl : xs.length ≤ 1000) (c : Nat) (cap : D) (q : Nm → Bool) (hc : ∀ x ∈ xs, Does Tryz.prog c [.d (nmD x), .d cap] [] (B (q x)) []) :
    Does Tryz.prog 200 [.d (.sl (xs.map nmD)), .fn c [.d cap]] [] (I (idxG q xs 0)) [] := by
  refine Does.of_AW (n := 19) Tryz.func200 rfl rfl rfl fun cx hcx => ?_
  generalize hR : idxG q xs 0 = R
  repeat' (first | (refine AW.sreg rfl fun K hK => ?_; simp only [go_sem, ↓reduceIte, List.length_map]) | (refine AW.seq_k fun K hK => ?_) | (refine AW.block ?_) | (refine hK _ ?_; clear hK K))
  refine AW.loopF (ι := Nat) [0, 1, 7] (fun p => [(8, I p)]) (fun p => []) 1 (fun p => p ≤ xs.length ∧ idxG q (xs.drop p) p = R) (fun p => xs.length - p) 0 ⟨by simp, hR⟩ (Weak.aC hcx (by refine ⟨?_, ?_, ?_⟩ <;> simp [go_sem, gL, kL, renOf, V.obj, Nat.blt, Nat.ble, List.map_append, dv_push])) ?_; simp only [St.at_nil, St.at_cons, lk, Nat.reduceEqDiff, ↓reduceIte, Option.getD_some, Option.getD_none, List.cons_append, List.nil_append, List.append_nil]
  rintro i ⟨h1, h2⟩
  by_cases hi : i < xs.length
  · obtain ⟨x, hx, hxm, hxd⟩ := get_some hi
    have hget : (xs.map nmD)[i]? = some (nmD x) := by simp [hx]
    rw [hxd, idxG] at h2
    repeat' (first | ((first | refine AW.sreg rfl fun K hK => ?_ | refine AW.reg rfl ?_ | refine run_call _ _ _ ((hc x hxm).pure rfl rfl _ _) rfl rfl (dstOk_of rfl) rfl rfl rfl ?_); simp only [go_sem, ↓reduceIte, List.length_map, hget]) | (refine AW.seq_k fun K hK => ?_) | (refine AW.block ?_) | (refine AW.skip ?_; simp only [Then, InBlock]) | (refine AW.cT ?_) | (refine AW.cond rfl (fun h => ?_) (fun h => ?_) <;> (try simp only [decide_eq_true_eq, decide_eq_false_iff_not, Bool.not_eq_true', Bool.not_eq_false', Bool.not_eq_eq_eq_not, Bool.not_true, Bool.not_false, beq_iff_eq, bne_iff_ne, beq_eq_false_iff_ne, ne_eq, Bool.and_eq_true, Bool.or_eq_true, Bool.or_eq_false_iff] at h)) | (refine hK _ ?_; clear hK K) | (with_reducible refine andI ?_) | (refine AW.ret (Fin.data rfl (by first | (simp only [go_sem]; done) | ((rw [if_pos h] at h2; subst h2; simp [go_sem]); done) | (simp [go_sem]; omega) | rfl) rfl)))
    rw [if_neg (by simp [h])] at h2
    exact ⟨i + 1, ⟨hi, h2⟩, by omega, (Weak.aC hcx (by refine ⟨?_, ?_, ?_⟩ <;> simp [go_sem, gL, kL, renOf, V.obj, Nat.blt, Nat.ble, List.map_append, dv_push]))⟩
  · obtain rfl : i = xs.length := by omega
    simp only [List.drop_length, idxG] at h2
    subst h2
    repeat' (first | (refine AW.sreg rfl fun K hK => ?_; simp only [go_sem, ↓reduceIte, List.length_map]) | (refine AW.seq_k fun K hK => ?_) | (refine AW.exit ?_; simp only [go_sem, ↓reduceIte]) | (refine AW.cF ?_) | (refine hK _ ?_; clear hK K) | (clear hK K; refine hK _ ?_; clear hK K) | (refine AW.ret (Fin.data rfl (by first | (simp only [go_sem]; done) | (simp [go_sem, *]; done) | (simp [go_sem]; omega) | rfl) rfl)))
theorem containsFunc_Nm (xs : List Nm) (hl : xs.length ≤ 1000) (c : Nat) (cap : D) (q : Nm → Bool) (hc : ∀ x ∈ xs, Does Tryz.prog c [.d (nmD x), .d cap] [] (B (q x)) []) :
    Does Tryz.prog 136 [.d (.sl (xs.map nmD)), .fn c [.d cap]] [] (B (xs.any q)) [] := by
  rw [← idxG_any q xs 0]
  refine Does.of_AW (n := 9) Tryz.func136 rfl rfl rfl fun cx hcx => ?_
  repeat' (first | ((first | refine AW.sreg rfl fun K hK => ?_ | refine run_call _ _ _ ((indexFunc_Nm xs hl c cap q hc).pure rfl rfl _ _) rfl rfl (dstOk_of rfl) rfl rfl rfl ?_); simp only [go_sem, ↓reduceIte]) | (refine hK _ ?_; clear hK K) | (refine AW.ret (Fin.data rfl (by first | (simp only [go_sem]; done) | (simp [go_sem, *]; done) | (simp [go_sem]; omega) | rfl) rfl)))

theorem insertionSort_Nm (lt : NmS → NmS → Bool) (cv : NmS → NmS → Int) (hlt : ∀ x y, lt x y = decide (cv x y < 0)) (c : Nat) (hc : ∀ x y, Does Tryz.prog c [.d (nmS x), .d (nmS y)] [] (I (cv x y)) []) (xs : List NmS) (hl : xs.length ≤ 1000) :
    Does Tryz.prog 256 [.slr 0 0 xs.length, I 0, I xs.length, .fn c []] [.vec 63 2 (dv (xs.map nmS))] (.tup []) [.vec 63 2 (dv ((isort lt xs).map nmS))] := by
  refine Does.of_AW (n := 53) Tryz.func256 rfl rfl rfl fun cx hcx => ?_
  generalize hR : isort lt xs = R
  repeat' (first | (refine AW.sreg rfl fun K hK => ?_; simp only [go_sem, ↓reduceIte, List.length_map]) | (refine AW.block ?_) | (refine hK _ ?_; clear hK K) | (with_reducible refine andI ?_))
  refine AW.loopF (ι := Nat × List NmS × List NmS) [0, 1, 2, 3] (fun p => [(8, I p.1)]) (fun p => [(0, some (O.vec 63 2 (dv ((p.2.1 ++ p.2.2).map nmS))))]) 1 (fun p => 1 ≤ p.1 ∧ p.2.1.length + p.2.2.length = xs.length ∧ (p.2.1.length = p.1 ∨ xs.length = 0) ∧ isGo lt p.2.1 p.2.2 = R) (fun p => xs.length - p.1) (1, xs.take 1, xs.drop 1) ⟨by simp, by simp only [List.length_take, List.length_drop]; omega, by simp only [List.length_take]; omega, hR⟩ (Weak.aC hcx (by refine ⟨?_, ?_, ?_⟩ <;> simp [go_sem, gL, kL, renOf, V.obj, Nat.blt, Nat.ble, List.map_append, dv_push, take1_tail])) ?_; simp only [St.at_nil, St.at_cons, lk, Nat.reduceEqDiff, ↓reduceIte, Option.getD_some, Option.getD_none, List.cons_append, List.nil_append, List.append_nil]
  rintro ⟨i, d, r⟩ ⟨h1, h2, h3, h4⟩
  simp only at h1 h2 h3 h4 ⊢
  by_cases hi : i < xs.length
  · obtain ⟨x, r, rfl⟩ : ∃ x r', r = x :: r' := by
      cases r with
      | nil => simp at h2; omega
      | cons x r' => exact ⟨x, r', rfl⟩
    obtain rfl : i = d.length := by omega
    simp only [isGo] at h4
    repeat' (first | (refine AW.sreg rfl fun K hK => ?_; simp only [go_sem, ↓reduceIte, List.length_map]) | (refine AW.seq_k fun K hK => ?_) | (refine AW.block ?_) | (refine AW.skip ?_; simp only [Then, InBlock]) | (refine AW.cT ?_) | (refine hK _ ?_; clear hK K))
    generalize hR2 : insP lt d.reverse x [] = R2 at h4
    refine AW.loopF (ι := List NmS × List NmS) [0, 1, 2, 3, 8] (fun p => [(9, I p.1.length)]) (fun p => [(0, some (O.vec 63 2 (dv ((p.1.reverse ++ x :: (p.2 ++ r)).map nmS))))]) 1 (fun p => p.1.length + p.2.length = d.length ∧ insP lt p.1 x p.2 = R2) (fun p => p.1.length) (d.reverse, []) ⟨by simp, hR2⟩ (Weak.aC hcx (by refine ⟨?_, ?_, ?_⟩ <;> simp [go_sem, gL, kL, renOf, V.obj, Nat.blt, Nat.ble, List.map_append, dv_push])) ?_; simp only [St.at_nil, St.at_cons, lk, Nat.reduceEqDiff, ↓reduceIte, Option.getD_some, Option.getD_none, List.cons_append, List.nil_append, List.append_nil]
    rintro ⟨pr, q⟩ ⟨g1, g2⟩
    simp only at g1 g2 ⊢
    rcases pr with _ | ⟨y, pr⟩
    · simp only [insP] at g2
      subst g2
      simp only [List.length_cons, List.length_nil] at g1 h2
      repeat' (first | ((first | refine AW.sregD hmix rfl fun K hK => ?_ | refine AW.reg rfl ?_); simp only [go_sem, ↓reduceIte, List.length_map]) | (refine AW.seq_k fun K hK => ?_) | (refine AW.exit ?_; simp only [go_sem, ↓reduceIte]) | (refine AW.cF ?_) | (refine hK _ ?_; clear hK K) | (clear hK K; refine hK _ ?_; clear hK K) | (refine stepBT_split (fun h => ?_) (fun h => ?_) <;> (have hb0 := h) <;> (try simp only [Bool.not_eq_true', Bool.not_eq_false'] at hb0) <;> (try simp only [decide_eq_true_eq, decide_eq_false_iff_not, Bool.not_eq_true', Bool.not_eq_false', Bool.not_eq_eq_eq_not, Bool.not_true, Bool.not_false, beq_iff_eq, bne_iff_ne, beq_eq_false_iff_ne, ne_eq, Bool.and_eq_true, Bool.or_eq_true, Bool.or_eq_false_iff] at h) <;> simp only [go_sem, ↓reduceIte, hb0, h, decide_true, decide_false, List.length_map] <;> (try clear hb0)) | (with_reducible refine And.intro (?_ : regOk _ _ = true) ?_; kernel_rfl) | (with_reducible refine andI ?_) | (exfalso; omega))
      exact ⟨(d.length + 1, x :: q, r), ⟨by simp only; omega, by simp only [List.length_cons]; omega, .inl (by simp only [List.length_cons]; omega), h4⟩, by simp only; omega, (Weak.aC hcx (by refine ⟨?_, ?_, ?_⟩ <;> simp [go_sem, gL, kL, renOf, V.obj, Nat.blt, Nat.ble, List.map_append, dv_push]))⟩
    · have e1 : (dv ((List.reverse (y :: pr) ++ x :: (q ++ r)).map nmS))[0 + (pr.length + 1)]? = some (.d (nmS x)) := by
        have := get_mid (List.reverse (y :: pr)) x (q ++ r)
        simp only [List.length_reverse, List.length_cons] at this
        simp only [dv, Nat.zero_add, List.getElem?_map, this, Option.map_some]
      have e2 : (dv ((List.reverse (y :: pr) ++ x :: (q ++ r)).map nmS))[0 + pr.length]? = some (.d (nmS y)) := by
        have := get_mid (List.reverse pr) y (x :: (q ++ r))
        simp only [List.length_reverse] at this
        simp only [dv, Nat.zero_add, List.getElem?_map, List.reverse_cons, List.append_assoc, List.cons_append, List.nil_append, this, Option.map_some]
      have e3 : (((pr.length + 1 : Nat) : Int) - 1).toNat = pr.length := by omega
      simp only [List.length_cons] at g1 h2
      simp only [insP, hlt] at g2
      have e4 : (((dv ((List.reverse (y :: pr) ++ x :: (q ++ r)).map nmS)).set (0 + (pr.length + 1)) (.d (nmS y))).set (0 + pr.length) (.d (nmS x))) = dv ((pr.reverse ++ x :: ((y :: q) ++ r)).map nmS) := by
        have := swap_mid (dv (pr.reverse.map nmS)) (V.d (nmS x)) (V.d (nmS y)) (dv ((q ++ r).map nmS))
        simp only [dv, List.length_map, List.length_reverse, List.map_append, List.map_cons, List.reverse_cons, List.append_assoc, List.cons_append, List.nil_append, List.map_nil] at this ⊢
        exact this
      have e5 : ((dv ((List.reverse (y :: pr) ++ x :: (q ++ r)).map nmS)).set (0 + (pr.length + 1)) (.d (nmS y)))[0 + pr.length]? = some (.d (nmS y)) := by
        rw [List.getElem?_set_ne (by omega)]
        exact e2
      repeat' (first | ((first | refine AW.sregD hmix rfl fun K hK => ?_ | refine AW.reg rfl ?_ | refine AW.regD hmix rfl ?_ | refine runT_call _ _ [] (fun hv _ => (hc x y).pure rfl rfl hv _) rfl rfl (dstOk_of rfl) rfl rfl ?_); simp only [go_sem, ↓reduceIte, List.length_map, e1, e2, e3, e4, e5, List.length_cons, or_self, true_or, or_true]) | (refine AW.seq_k fun K hK => ?_) | (refine AW.block ?_) | (refine AW.skip ?_; simp only [Then, InBlock]) | (refine AW.exit ?_; simp only [go_sem, ↓reduceIte]) | (refine AW.cT ?_) | (refine AW.cond rfl (fun h => ?_) (fun h => ?_) <;> (try simp only [decide_eq_true_eq, decide_eq_false_iff_not, Bool.not_eq_true', Bool.not_eq_false', Bool.not_eq_eq_eq_not, Bool.not_true, Bool.not_false, beq_iff_eq, bne_iff_ne, beq_eq_false_iff_ne, ne_eq, Bool.and_eq_true, Bool.or_eq_true, Bool.or_eq_false_iff] at h)) | (refine hK _ ?_; clear hK K) | (clear hK K; refine hK _ ?_; clear hK K) | (refine stepBT_split (fun h => ?_) (fun h => ?_) <;> (have hb0 := h) <;> (try simp only [Bool.not_eq_true', Bool.not_eq_false'] at hb0) <;> (try simp only [decide_eq_true_eq, decide_eq_false_iff_not, Bool.not_eq_true', Bool.not_eq_false', Bool.not_eq_eq_eq_not, Bool.not_true, Bool.not_false, beq_iff_eq, bne_iff_ne, beq_eq_false_iff_ne, ne_eq, Bool.and_eq_true, Bool.or_eq_true, Bool.or_eq_false_iff] at h) <;> simp only [go_sem, ↓reduceIte, hb0, h, decide_true, decide_false, List.length_map, e1, e2, e3, e4, e5, List.length_cons, or_self, true_or, or_true] <;> (try clear hb0)) | (with_reducible refine And.intro (?_ : regOk _ _ = true) ?_; kernel_rfl) | (with_reducible refine andI ?_) | (exfalso; omega))
      · rw [if_pos (by simpa using h)] at g2
        exact ⟨(pr, y :: q), ⟨by simp only [List.length_cons]; omega, g2⟩, by simp only [List.length_cons]; omega, (Weak.aC hcx (by refine ⟨?_, ?_, ?_⟩ <;> simp [go_sem, gL, kL, renOf, V.obj, Nat.blt, Nat.ble, List.map_append, dv_push]))⟩
      · rw [if_neg (by simpa using h)] at g2
        subst g2
        exact ⟨(d.length + 1, (y :: pr).reverse ++ x :: q, r), ⟨by simp only; omega, by simp only [List.length_append, List.length_reverse, List.length_cons]; omega, .inl (by simp only [List.length_append, List.length_reverse, List.length_cons]; omega), h4⟩, by simp only; omega, (Weak.aC hcx (by refine ⟨?_, ?_, ?_⟩ <;> simp [go_sem, gL, kL, renOf, V.obj, Nat.blt, Nat.ble, List.map_append, dv_push]))⟩
  · have hr : r = [] := by
      cases r with
      | nil => rfl
      | cons x r => simp only [List.length_cons] at h2; omega
    subst hr
    simp only [isGo] at h4
    subst h4
    repeat' (first | (refine AW.sreg rfl fun K hK => ?_; simp only [go_sem, ↓reduceIte, List.length_map, List.append_nil]) | (refine AW.seq_k fun K hK => ?_) | (refine AW.exit ?_; simp only [go_sem, ↓reduceIte]) | (refine AW.cF ?_) | (refine hK _ ?_; clear hK K))
    exact Fin.one rfl rfl ⟨_, rfl, by simp [go_sem]⟩ rfl (by simp [go_sem]) rfl
theorem pdqsort_Nm (lt : NmS → NmS → Bool) (cv : NmS → NmS → Int) (hlt : ∀ x y, lt x y = decide (cv x y < 0)) (c : Nat) (hc : ∀ x y, Does Tryz.prog c [.d (nmS x), .d (nmS y)] [] (I (cv x y)) []) (xs : List NmS) (hl : xs.length ≤ 12) (m : Int) :
    Does Tryz.prog 201 [.slr 0 0 xs.length, I 0, I xs.length, I m, .fn c []] [.vec 63 2 (dv (xs.map nmS))] (.tup []) [.vec 63 2 (dv ((isort lt xs).map nmS))] := by
  refine Does.of_AW (n := 148) Tryz.func201 rfl rfl rfl fun cx hcx => ?_
  repeat' (first | (refine AW.sreg rfl fun K hK => ?_; simp only [go_sem, ↓reduceIte, List.length_map]) | (refine AW.block ?_) | (refine hK _ ?_; clear hK K))
  refine AW.loopF (ι := Unit) [0, 4] (fun p => [(1, I 0), (2, I xs.length), (3, I m), (10, B true), (11, B true)]) (fun p => [(0, some (O.vec 63 2 (dv (xs.map nmS))))]) 1 (fun p => True) (fun p => 0) () trivial (Weak.aC hcx (by refine ⟨?_, ?_, ?_⟩ <;> simp [go_sem, gL, kL, renOf, V.obj, Nat.blt, Nat.ble, List.map_append, dv_push])) ?_; simp only [St.at_nil, St.at_cons, lk, Nat.reduceEqDiff, ↓reduceIte, Option.getD_some, Option.getD_none, List.cons_append, List.nil_append, List.append_nil]
  rintro ⟨⟩ _
  repeat' (first | ((first | refine AW.sreg rfl fun K hK => ?_ | refine run_call _ _ _ ((insertionSort_Nm lt cv hlt c hc xs (by omega)).objA [0]) rfl rfl (dstOk_of rfl) rfl rfl rfl ?_); simp only [go_sem, ↓reduceIte, List.length_map, Int.sub_zero]) | (refine AW.seq_k fun K hK => ?_) | (refine AW.block ?_) | (refine AW.cT ?_) | (refine hK _ ?_; clear hK K) | (with_reducible refine andI ?_))
  exact AW.ret (Fin.one rfl rfl ⟨_, rfl, by simp [go_sem]⟩ rfl (by simp [go_sem]) rfl)
theorem sortFunc_Nm (lt : NmS → NmS → Bool) (cv : NmS → NmS → Int) (hlt : ∀ x y, lt x y = decide (cv x y < 0)) (c : Nat) (hc : ∀ x y, Does Tryz.prog c [.d (nmS x), .d (nmS y)] [] (I (cv x y)) []) (xs : List NmS) (hl : xs.length ≤ 12) :
    Does Tryz.prog 138 [.slr 0 0 xs.length, .fn c []] [.vec 63 2 (dv (xs.map nmS))] (.tup []) [.vec 63 2 (dv ((isort lt xs).map nmS))] := by
  refine Does.of_AW (n := 14) Tryz.func138 rfl rfl rfl fun cx hcx => ?_
  have hw := wrap_small xs.length (by omega)
  repeat' (first | ((first | refine AW.sreg rfl fun K hK => ?_ | refine AW.reg rfl ?_ | refine run_call _ _ _ ((len_ok xs.length hl).pure rfl rfl _ _) rfl rfl (dstOk_of rfl) rfl rfl rfl ?_ | refine run_call _ _ _ ((pdqsort_Nm lt cv hlt c hc xs hl _).objA [0]) rfl rfl (dstOk_of rfl) rfl rfl rfl ?_); simp only [go_sem, ↓reduceIte, List.length_map, hw]) | (refine hK _ ?_; clear hK K))
  exact Fin.one rfl rfl ⟨_, rfl, by simp [go_sem]⟩ rfl (by simp [go_sem]) rfl

theorem joined1_any (n o : Nm) : Does Tryz.prog 137 [.d (nmD o), .d (.ptr [.str n.1, .int .i64 n.2] 0)] [] (B (o.2 == n.2)) [] := by
  refine Does.of_AW (n := 9) Tryz.func137 rfl rfl rfl fun cx hcx => ?_
  repeat' (first | (refine AW.sreg rfl fun K hK => ?_; simp only [go_sem, ↓reduceIte]) | (refine hK _ ?_; clear hK K) | (refine AW.ret (Fin.data rfl (by first | (simp only [go_sem]; done) | (simp [go_sem, *]; done) | (simp [go_sem]; omega) | rfl) rfl)))
theorem joined2_any (a b : NmS) : Does Tryz.prog 139 [.d (nmS a), .d (nmS b)] [] (I (a.1.2 - b.1.2)) [] := by
  obtain ⟨⟨a1, a2⟩, ha⟩ := a
  obtain ⟨⟨b1, b2⟩, hb⟩ := b
  simp only [nmB] at ha hb
  refine Does.of_AW (n := 10) Tryz.func139 rfl rfl rfl fun cx hcx => ?_
  repeat' (first | (refine AW.sreg rfl fun K hK => ?_; simp only [go_sem, ↓reduceIte]) | (refine hK _ ?_; clear hK K) | (with_reducible refine andI ?_) | (refine AW.ret (Fin.data rfl (by first | (simp only [go_sem]; done) | (simp [go_sem, *]; done) | (simp [go_sem]; omega) | rfl) rfl)))
theorem sortNm (xs : List Nm) (hb : ∀ x ∈ xs, nmB x) (hl : xs.length ≤ 12) :
    Does Tryz.prog 138 [.slr 0 0 xs.length, .fn 139 []] [.vec 63 2 (dv (xs.map nmD))] (.tup []) [.vec 63 2 (dv ((isort ltN xs).map nmD))] := by
  obtain ⟨ys, hy, hyl⟩ := exists_sub xs hb
  have h := sortFunc_Nm (fun a b => ltN a.1 b.1) (fun a b => a.1.2 - b.1.2) (fun _ _ => rfl) 139 joined2_any ys (by omega)
  have e1 : ys.map nmS = xs.map nmD := by rw [← hy, List.map_map]; rfl
  have e2 : (isort (fun a b : NmS => ltN a.1 b.1) ys).map nmS = (isort ltN xs).map nmD := by
    rw [← hy, ← isort_map (fun y : NmS => y.1) ltN ys, List.map_map]
    rfl
  rw [e1, e2, hyl] at h
  exact h
theorem joined_ok (a b : Pe) (ha : SmP a) (hb : SmP b) (hna : ∀ x ∈ a.names, nmB x) (hnb : ∀ x ∈ b.names, nmB x) : Does Tryz.prog 71 [.d (peD a), .d (peD b)] [] (.d (peD (joinP a b))) [] := by
  have hcl := clonePerson_own a (by unfold SmP at ha; omega)
  obtain ⟨ak, an, ah, am, aa⟩ := a
  obtain ⟨bk, bn, bh, bm, ba⟩ := b
  simp only [SmP] at ha hb hna hnb hcl ⊢
  refine Does.of_AW (n := 53) Tryz.func71 rfl rfl rfl fun cx hcx => ?_
  repeat' (first | ((first | refine AW.sreg rfl fun K hK => ?_ | refine run_call _ _ _ ((hcl).objA []) rfl rfl (dstOk_of rfl) rfl rfl rfl ?_); simp only [go_sem, ↓reduceIte, List.length_map, Nat.reduceSub, Nat.add_zero]) | (refine AW.seq_k fun K hK => ?_) | (refine AW.block ?_) | (refine hK _ ?_; clear hK K))
  refine AW.loopF (ι := Nat) [2, 3, 4, 5, 11, 12] (fun p => [(13, I p)]) (fun p => [(0, some (O.box 50 [S ak, .d (.sl (an.map nmD)), .d (.sl (ah.map hmD)), .d (.sl (am.map D.str)), .d (.sl (aa.map D.str))])), (64, some (O.box 50 [S bk, .d (.sl (bn.map nmD)), .d (.sl (bh.map hmD)), .d (.sl (bm.map D.str)), .d (.sl (ba.map D.str))])), (128, some (O.box 50 [S [], .nils, .nils, .nils, .nils])), (256, some (O.vec 63 2 (dv ((nmU an (bn.take p)).map nmD)))), (257, some (O.vec 98 3 (dv (ah.map hmD)))), (258, some (O.vec 9 1 (dv (am.map D.str)))), (259, some (O.vec 9 1 (dv (aa.map D.str)))), (320, some (O.box 50 [S ak, .slr 256 0 (nmU an (bn.take p)).length, .slr 257 0 ah.length, .slr 258 0 am.length, .slr 259 0 aa.length]))]) 60 (fun p => p ≤ bn.length) (fun p => bn.length - p) 0 (Nat.zero_le _) (Weak.oC hcx [(0, 0), (64, 64), (128, 128), (256, 256), (257, 257), (258, 258), (259, 259), (320, 320)] (by refine ⟨?_, ?_, ?_⟩ <;> simp [go_sem, gL, kL, List.map_append, dv_push, nmU])) ?_; simp only [St.at_nil, St.at_cons, lk, Nat.reduceEqDiff, ↓reduceIte, Option.getD_some, Option.getD_none, List.cons_append, List.nil_append, List.append_nil]
  intro k h1
  by_cases hi : k < bn.length
  · obtain ⟨x, hx, hxm, hxd⟩ := get_some hi
    have hget : (bn.map nmD)[k]? = some (nmD x) := by simp [hx]
    have htk : bn.take (k + 1) = bn.take k ++ [x] := by rw [List.take_add_one, hx]; rfl
    have htd : List.take (nmU an (bn.take k)).length (dv ((nmU an (bn.take k)).map nmD)) = dv ((nmU an (bn.take k)).map nmD) := List.take_of_length_le (by simp [dv])
    have hul : (nmU an (bn.take k)).length ≤ 1000 := by
      have h2 := List.length_filter_le (fun n : Nm => !(an.any fun o => o.2 == n.2)) (bn.take k)
      rw [List.length_take] at h2
      simp only [nmU, List.length_append]
      omega
    have hcf := containsFunc_Nm an (by omega) 137 (.ptr [.str x.1, .int .i64 x.2] 0) (fun o => o.2 == x.2) (fun o _ => joined1_any x o)
    cases hany : (an.any fun o => o.2 == x.2) with
    | true =>
      rw [hany] at hcf
      have hu : nmU an (bn.take (k + 1)) = nmU an (bn.take k) := by rw [htk]; simp [nmU, hany]
      repeat' (first | ((first | refine AW.sreg rfl fun K hK => ?_ | refine AW.reg rfl ?_ | refine run_call _ _ _ ((hcf).borrow rfl rfl rfl) rfl rfl (dstOk_of rfl) rfl rfl rfl ?_); simp only [go_sem, ↓reduceIte, List.length_map, hget]) | (refine AW.seq_k fun K hK => ?_) | (refine AW.block ?_) | (refine AW.skip ?_; simp only [Then, InBlock]) | (refine AW.cT ?_) | (refine AW.cF ?_) | (refine hK _ ?_; clear hK K) | (with_reducible refine andI ?_))
      exact ⟨k + 1, hi, by omega, (Weak.oC hcx [(0, 0), (64, 64), (128, 128), (256, 256), (257, 257), (258, 258), (259, 259), (320, 320)] (by refine ⟨?_, ?_, ?_⟩ <;> simp [go_sem, gL, kL, List.map_append, dv_push, hu]))⟩
    | false =>
      rw [hany] at hcf
      have hu : nmU an (bn.take (k + 1)) = nmU an (bn.take k) ++ [x] := by rw [htk]; simp [nmU, hany]
      generalize nmU an (bn.take k) = U at *
      repeat' (first | ((first | refine AW.sreg rfl fun K hK => ?_ | refine AW.reg rfl ?_ | refine run_call _ _ _ ((hcf).borrow rfl rfl rfl) rfl rfl (dstOk_of rfl) rfl rfl rfl ?_); simp only [go_sem, ↓reduceIte, List.length_map, hget, htd]) | (refine AW.seq_k fun K hK => ?_) | (refine AW.block ?_) | (refine AW.skip ?_; simp only [Then, InBlock]) | (refine AW.cT ?_) | (refine hK _ ?_; clear hK K) | (with_reducible refine andI ?_))
      exact ⟨k + 1, hi, by omega, (Weak.oC hcx [(0, 0), (64, 64), (128, 128), (256, 4736), (257, 257), (258, 258), (259, 259), (320, 320)] (by refine ⟨?_, ?_, ?_⟩ <;> simp [go_sem, gL, kL, List.map_append, dv_push, hu]))⟩
  · obtain rfl : k = bn.length := by omega
    rw [List.take_length]
    have hnb2 : ∀ x ∈ nmU an bn, nmB x := by
      intro x hx
      rcases List.mem_append.1 hx with h | h
      · exact hna x h
      · exact hnb x (List.mem_filter.1 h).1
    have hul : (nmU an bn).length ≤ 4 := by
      have h2 := List.length_filter_le (fun n : Nm => !(an.any fun o => o.2 == n.2)) bn
      simp only [nmU, List.length_append]
      omega
    have s1 := sortNm (nmU an bn) hnb2 (by omega)
    have s2 := homesOf_own (ah ++ bh) (by simp; omega)
    have s3 := rising_own (am ++ bm) (by simp; omega)
    rw [List.length_append] at s2 s3
    have t1 : List.take ah.length (dv (ah.map hmD)) = dv (ah.map hmD) := List.take_of_length_le (by simp [dv])
    have t2 : List.take am.length (dv (am.map D.str)) = dv (am.map D.str) := List.take_of_length_le (by simp [dv])
    have t3 : List.take aa.length (dv (aa.map D.str)) = dv (aa.map D.str) := List.take_of_length_le (by simp [dv])
    have j1 : dv (ah.map hmD) ++ dv (bh.map hmD) = dv ((ah ++ bh).map hmD) := by simp [dv]
    have j2 : dv (am.map D.str) ++ dv (bm.map D.str) = dv ((am ++ bm).map D.str) := by simp [dv]
    have j3 : dv (aa.map D.str) ++ dv (ba.map D.str) = dv ((aa ++ ba).map D.str) := by simp [dv]
    have l1 : (dv (bh.map hmD)).length = bh.length := by simp [dv]
    have l2 : (dv (bm.map D.str)).length = bm.length := by simp [dv]
    have l3 : (dv (ba.map D.str)).length = ba.length := by simp [dv]
    have hil := (isort_perm ltN (nmU an bn)).length_eq
    repeat' (first | ((first | refine AW.sreg rfl fun K hK => ?_ | refine run_call _ _ _ ((s1).objA [_]) rfl rfl (dstOk_of rfl) rfl rfl rfl ?_ | refine run_call _ _ _ ((s2).objA [_]) rfl rfl (dstOk_of rfl) rfl rfl rfl ?_ | refine run_call _ _ _ ((s3).objA [_]) rfl rfl (dstOk_of rfl) rfl rfl rfl ?_); simp only [go_sem, ↓reduceIte, all_ok_Hm, all_ok_St, List.length_map, t1, t2, t3, j1, j2, j3, l1, l2, l3, Nat.reduceSub, Nat.add_zero]) | (refine AW.seq_k fun K hK => ?_) | (refine AW.exit ?_; simp only [go_sem, ↓reduceIte]) | (refine AW.cF ?_) | (refine hK _ ?_; clear hK K) | (clear hK K; refine hK _ ?_; clear hK K) | (with_reducible refine andI ?_))
    exact AW.ret (Fin.data rfl (frz_agg5 rfl (frz_slr rfl rfl (by simp [joinP, nmJ, hil])) (frz_slrP rfl rfl (by simp [joinP])) (frz_slrP rfl rfl (by simp [joinP])) (frz_slr rfl rfl (by simp [joinP]))) rfl)
end Go.AX

namespace Go.AX
open Go Go.Proofs Go.RowKit
theorem idx_eq {α β : Type} {f : α → β} {l : List α} (hn : (l.map f).Nodup) {i j : Nat} {x y : α} (hi : l[i]? = some x) (hj : l[j]? = some y) (e : f x = f y) : i = j := by
  have key : ∀ {i j : Nat} {x y : α}, l[i]? = some x → l[j]? = some y → f x = f y → ¬ i < j := by
    intro i j x y hi hj e hij
    exact (pw_at (List.pairwise_map.1 hn) hi hj hij) e
  have h1 := key hi hj e
  have h2 := key hj hi e.symm
  omega
theorem merge2_any (ds : List D) (i : Nat) (p : Pe) (h : ds[i]? = some (peD p)) (x : Str) :
    Does Tryz.prog 76 [S x, .ptr 0 0] [.box 123 [.pe 1 i 0], .vec 50 5 (dv ds)] (B (x == p.key)) [.box 123 [.pe 1 i 0], .vec 50 5 (dv ds)] := by
  have hi : i < ds.length := (List.getElem?_eq_some_iff.1 h).1
  have hget : (dv ds)[i]? = some (.d (peD p)) := by simp [dv, h]
  refine Does.of_AW (n := 10) Tryz.func76 rfl rfl rfl fun cx hcx => ?_
  repeat' (first | (refine AW.sreg rfl fun K hK => ?_; simp only [go_sem, ↓reduceIte, hget, dv_length]) | (refine hK _ ?_; clear hK K))
  exact AW.ret (Fin.objs [0, 1] rfl (by simp [go_sem, inI, gI]) ⟨⟨_, rfl, by simp [go_sem, inI, gI]⟩, ⟨_, rfl, by simp [go_sem, inI, gI]⟩, trivial⟩ (by simp) rfl (by simp [go_sem]) (by simp [go_sem]) rfl)
theorem merge3_any (x : Wk) : Does Tryz.prog 78 [.d (wkD x)] [] (B (decide (x.2.length < 2))) [] := by
  refine Does.of_AW (n := 7) Tryz.func78 rfl rfl rfl fun cx hcx => ?_
  repeat' (first | (refine AW.sreg rfl fun K hK => ?_; simp only [go_sem, ↓reduceIte, List.length_map]) | (refine hK _ ?_; clear hK K))
  exact AW.ret (Fin.data rfl (by simp [go_sem]; omega) rfl)
theorem merge4_any (x y : Wk) (hx : x.2.length ≤ 1000) (hy : y.2.length ≤ 1000) : Does Tryz.prog 80 [.d (wkD x), .d (wkD y)] [] (B (x == y)) [] := by
  have ho := compareWorks_any x y hx hy
  have e : (x == y) = (cpW x y == 0) := by
    rw [Bool.eq_iff_iff, beq_iff_eq, beq_iff_eq]
    exact (cp_work.eq x y).symm
  rw [e]
  generalize cpW x y = v at *
  refine Does.of_AW (n := 9) Tryz.func80 rfl rfl rfl fun cx hcx => ?_
  repeat' (first | ((first | refine AW.sreg rfl fun K hK => ?_ | refine run_call _ _ _ ((ho).pure rfl rfl _ _) rfl rfl (dstOk_of rfl) rfl rfl rfl ?_); simp only [go_sem, ↓reduceIte]) | (refine hK _ ?_; clear hK K))
  all_goals first | exact AW.ret (Fin.data rfl (by simp [go_sem]) rfl) | trace_state
/-- Sorting works: at most 12. -/
abbrev WkL := {w : Wk // w.2.length ≤ 1000}
abbrev wkL (w : WkL) : D := wkD w.1
theorem insertionSort_WkL (lt : WkL → WkL → Bool) (cv : WkL → WkL → Int) (hlt : ∀ x y, lt x y = decide (cv x y < 0)) (c : Nat) (hc : ∀ x y, Does Tryz.prog c [.d (wkL x), .d (wkL y)] [] (I (cv x y)) []) (xs : List WkL) (hl : xs.length ≤ 1000) :
    Does Tryz.prog 163 [.slr 0 0 xs.length, I 0, I xs.length, .fn c []] [.vec 68 2 (dv (xs.map wkL))] (.tup []) [.vec 68 2 (dv ((isort lt xs).map wkL))] := by
  refine Does.of_AW (n := 53) Tryz.func163 rfl rfl rfl fun cx hcx => ?_
  generalize hR : isort lt xs = R
  repeat' (first | (refine AW.sreg rfl fun K hK => ?_; simp only [go_sem, ↓reduceIte, List.length_map]) | (refine AW.block ?_) | (refine hK _ ?_; clear hK K) | (with_reducible refine andI ?_))
  refine AW.loopF (ι := Nat × List WkL × List WkL) [0, 1, 2, 3] (fun p => [(8, I p.1)]) (fun p => [(0, some (O.vec 68 2 (dv ((p.2.1 ++ p.2.2).map wkL))))]) 1 (fun p => 1 ≤ p.1 ∧ p.2.1.length + p.2.2.length = xs.length ∧ (p.2.1.length = p.1 ∨ xs.length = 0) ∧ isGo lt p.2.1 p.2.2 = R) (fun p => xs.length - p.1) (1, xs.take 1, xs.drop 1) ⟨by simp, by simp only [List.length_take, List.length_drop]; omega, by simp only [List.length_take]; omega, hR⟩ (Weak.aC hcx (by refine ⟨?_, ?_, ?_⟩ <;> simp [go_sem, gL, kL, renOf, V.obj, Nat.blt, Nat.ble, List.map_append, dv_push, take1_tail])) ?_; simp only [St.at_nil, St.at_cons, lk, Nat.reduceEqDiff, ↓reduceIte, Option.getD_some, Option.getD_none, List.cons_append, List.nil_append, List.append_nil]
  rintro ⟨i, d, r⟩ ⟨h1, h2, h3, h4⟩
  simp only at h1 h2 h3 h4 ⊢
  by_cases hi : i < xs.length
  · obtain ⟨x, r, rfl⟩ : ∃ x r', r = x :: r' := by
      cases r with
      | nil => simp at h2; omega
      | cons x r' => exact ⟨x, r', rfl⟩
    obtain rfl : i = d.length := by omega
    simp only [isGo] at h4
    repeat' (first | (refine AW.sreg rfl fun K hK => ?_; simp only [go_sem, ↓reduceIte, List.length_map]) | (refine AW.seq_k fun K hK => ?_) | (refine AW.block ?_) | (refine AW.skip ?_; simp only [Then, InBlock]) | (refine AW.cT ?_) | (refine hK _ ?_; clear hK K))
    generalize hR2 : insP lt d.reverse x [] = R2 at h4
    refine AW.loopF (ι := List WkL × List WkL) [0, 1, 2, 3, 8] (fun p => [(9, I p.1.length)]) (fun p => [(0, some (O.vec 68 2 (dv ((p.1.reverse ++ x :: (p.2 ++ r)).map wkL))))]) 1 (fun p => p.1.length + p.2.length = d.length ∧ insP lt p.1 x p.2 = R2) (fun p => p.1.length) (d.reverse, []) ⟨by simp, hR2⟩ (Weak.aC hcx (by refine ⟨?_, ?_, ?_⟩ <;> simp [go_sem, gL, kL, renOf, V.obj, Nat.blt, Nat.ble, List.map_append, dv_push])) ?_; simp only [St.at_nil, St.at_cons, lk, Nat.reduceEqDiff, ↓reduceIte, Option.getD_some, Option.getD_none, List.cons_append, List.nil_append, List.append_nil]
    rintro ⟨pr, q⟩ ⟨g1, g2⟩
    simp only at g1 g2 ⊢
    rcases pr with _ | ⟨y, pr⟩
    · simp only [insP] at g2
      subst g2
      simp only [List.length_cons, List.length_nil] at g1 h2
      repeat' (first | ((first | refine AW.sregD hmix rfl fun K hK => ?_ | refine AW.reg rfl ?_); simp only [go_sem, ↓reduceIte, List.length_map]) | (refine AW.seq_k fun K hK => ?_) | (refine AW.exit ?_; simp only [go_sem, ↓reduceIte]) | (refine AW.cF ?_) | (refine hK _ ?_; clear hK K) | (clear hK K; refine hK _ ?_; clear hK K) | (refine stepBT_split (fun h => ?_) (fun h => ?_) <;> (have hb0 := h) <;> (try simp only [Bool.not_eq_true', Bool.not_eq_false'] at hb0) <;> (try simp only [decide_eq_true_eq, decide_eq_false_iff_not, Bool.not_eq_true', Bool.not_eq_false', Bool.not_eq_eq_eq_not, Bool.not_true, Bool.not_false, beq_iff_eq, bne_iff_ne, beq_eq_false_iff_ne, ne_eq, Bool.and_eq_true, Bool.or_eq_true, Bool.or_eq_false_iff] at h) <;> simp only [go_sem, ↓reduceIte, hb0, h, decide_true, decide_false, List.length_map] <;> (try clear hb0)) | (with_reducible refine And.intro (?_ : regOk _ _ = true) ?_; kernel_rfl) | (with_reducible refine andI ?_) | (exfalso; omega))
      exact ⟨(d.length + 1, x :: q, r), ⟨by simp only; omega, by simp only [List.length_cons]; omega, .inl (by simp only [List.length_cons]; omega), h4⟩, by simp only; omega, (Weak.aC hcx (by refine ⟨?_, ?_, ?_⟩ <;> simp [go_sem, gL, kL, renOf, V.obj, Nat.blt, Nat.ble, List.map_append, dv_push]))⟩
    · have e1 : (dv ((List.reverse (y :: pr) ++ x :: (q ++ r)).map wkL))[0 + (pr.length + 1)]? = some (.d (wkL x)) := by
        have := get_mid (List.reverse (y :: pr)) x (q ++ r)
        simp only [List.length_reverse, List.length_cons] at this
        simp only [dv, Nat.zero_add, List.getElem?_map, this, Option.map_some]
      have e2 : (dv ((List.reverse (y :: pr) ++ x :: (q ++ r)).map wkL))[0 + pr.length]? = some (.d (wkL y)) := by
        have := get_mid (List.reverse pr) y (x :: (q ++ r))
        simp only [List.length_reverse] at this
        simp only [dv, Nat.zero_add, List.getElem?_map, List.reverse_cons, List.append_assoc, List.cons_append, List.nil_append, this, Option.map_some]
      have e3 : (((pr.length + 1 : Nat) : Int) - 1).toNat = pr.length := by omega
      simp only [List.length_cons] at g1 h2
      simp only [insP, hlt] at g2
      have e4 : (((dv ((List.reverse (y :: pr) ++ x :: (q ++ r)).map wkL)).set (0 + (pr.length + 1)) (.d (wkL y))).set (0 + pr.length) (.d (wkL x))) = dv ((pr.reverse ++ x :: ((y :: q) ++ r)).map wkL) := by
        have := swap_mid (dv (pr.reverse.map wkL)) (V.d (wkL x)) (V.d (wkL y)) (dv ((q ++ r).map wkL))
        simp only [dv, List.length_map, List.length_reverse, List.map_append, List.map_cons, List.reverse_cons, List.append_assoc, List.cons_append, List.nil_append, List.map_nil] at this ⊢
        exact this
      have e5 : ((dv ((List.reverse (y :: pr) ++ x :: (q ++ r)).map wkL)).set (0 + (pr.length + 1)) (.d (wkL y)))[0 + pr.length]? = some (.d (wkL y)) := by
        rw [List.getElem?_set_ne (by omega)]
        exact e2
      repeat' (first | ((first | refine AW.sregD hmix rfl fun K hK => ?_ | refine AW.reg rfl ?_ | refine AW.regD hmix rfl ?_ | refine runT_call _ _ [] (fun hv _ => (hc x y).pure rfl rfl hv _) rfl rfl (dstOk_of rfl) rfl rfl ?_); simp only [go_sem, ↓reduceIte, List.length_map, e1, e2, e3, e4, e5, List.length_cons, or_self, true_or, or_true]) | (refine AW.seq_k fun K hK => ?_) | (refine AW.block ?_) | (refine AW.skip ?_; simp only [Then, InBlock]) | (refine AW.exit ?_; simp only [go_sem, ↓reduceIte]) | (refine AW.cT ?_) | (refine AW.cond rfl (fun h => ?_) (fun h => ?_) <;> (try simp only [decide_eq_true_eq, decide_eq_false_iff_not, Bool.not_eq_true', Bool.not_eq_false', Bool.not_eq_eq_eq_not, Bool.not_true, Bool.not_false, beq_iff_eq, bne_iff_ne, beq_eq_false_iff_ne, ne_eq, Bool.and_eq_true, Bool.or_eq_true, Bool.or_eq_false_iff] at h)) | (refine hK _ ?_; clear hK K) | (clear hK K; refine hK _ ?_; clear hK K) | (refine stepBT_split (fun h => ?_) (fun h => ?_) <;> (have hb0 := h) <;> (try simp only [Bool.not_eq_true', Bool.not_eq_false'] at hb0) <;> (try simp only [decide_eq_true_eq, decide_eq_false_iff_not, Bool.not_eq_true', Bool.not_eq_false', Bool.not_eq_eq_eq_not, Bool.not_true, Bool.not_false, beq_iff_eq, bne_iff_ne, beq_eq_false_iff_ne, ne_eq, Bool.and_eq_true, Bool.or_eq_true, Bool.or_eq_false_iff] at h) <;> simp only [go_sem, ↓reduceIte, hb0, h, decide_true, decide_false, List.length_map, e1, e2, e3, e4, e5, List.length_cons, or_self, true_or, or_true] <;> (try clear hb0)) | (with_reducible refine And.intro (?_ : regOk _ _ = true) ?_; kernel_rfl) | (with_reducible refine andI ?_) | (exfalso; omega))
      · rw [if_pos (by simpa using h)] at g2
        exact ⟨(pr, y :: q), ⟨by simp only [List.length_cons]; omega, g2⟩, by simp only [List.length_cons]; omega, (Weak.aC hcx (by refine ⟨?_, ?_, ?_⟩ <;> simp [go_sem, gL, kL, renOf, V.obj, Nat.blt, Nat.ble, List.map_append, dv_push]))⟩
      · rw [if_neg (by simpa using h)] at g2
        subst g2
        exact ⟨(d.length + 1, (y :: pr).reverse ++ x :: q, r), ⟨by simp only; omega, by simp only [List.length_append, List.length_reverse, List.length_cons]; omega, .inl (by simp only [List.length_append, List.length_reverse, List.length_cons]; omega), h4⟩, by simp only; omega, (Weak.aC hcx (by refine ⟨?_, ?_, ?_⟩ <;> simp [go_sem, gL, kL, renOf, V.obj, Nat.blt, Nat.ble, List.map_append, dv_push]))⟩
  · have hr : r = [] := by
      cases r with
      | nil => rfl
      | cons x r => simp only [List.length_cons] at h2; omega
    subst hr
    simp only [isGo] at h4
    subst h4
    repeat' (first | (refine AW.sreg rfl fun K hK => ?_; simp only [go_sem, ↓reduceIte, List.length_map, List.append_nil]) | (refine AW.seq_k fun K hK => ?_) | (refine AW.exit ?_; simp only [go_sem, ↓reduceIte]) | (refine AW.cF ?_) | (refine hK _ ?_; clear hK K))
    exact Fin.one rfl rfl ⟨_, rfl, by simp [go_sem]⟩ rfl (by simp [go_sem]) rfl
theorem pdqsort_WkL (lt : WkL → WkL → Bool) (cv : WkL → WkL → Int) (hlt : ∀ x y, lt x y = decide (cv x y < 0)) (c : Nat) (hc : ∀ x y, Does Tryz.prog c [.d (wkL x), .d (wkL y)] [] (I (cv x y)) []) (xs : List WkL) (hl : xs.length ≤ 12) (m : Int) :
    Does Tryz.prog 96 [.slr 0 0 xs.length, I 0, I xs.length, I m, .fn c []] [.vec 68 2 (dv (xs.map wkL))] (.tup []) [.vec 68 2 (dv ((isort lt xs).map wkL))] := by
  refine Does.of_AW (n := 148) Tryz.func96 rfl rfl rfl fun cx hcx => ?_
  repeat' (first | (refine AW.sreg rfl fun K hK => ?_; simp only [go_sem, ↓reduceIte, List.length_map]) | (refine AW.block ?_) | (refine hK _ ?_; clear hK K))
  refine AW.loopF (ι := Unit) [0, 4] (fun p => [(1, I 0), (2, I xs.length), (3, I m), (10, B true), (11, B true)]) (fun p => [(0, some (O.vec 68 2 (dv (xs.map wkL))))]) 1 (fun p => True) (fun p => 0) () trivial (Weak.aC hcx (by refine ⟨?_, ?_, ?_⟩ <;> simp [go_sem, gL, kL, renOf, V.obj, Nat.blt, Nat.ble, List.map_append, dv_push])) ?_; simp only [St.at_nil, St.at_cons, lk, Nat.reduceEqDiff, ↓reduceIte, Option.getD_some, Option.getD_none, List.cons_append, List.nil_append, List.append_nil]
  rintro ⟨⟩ _
  repeat' (first | ((first | refine AW.sreg rfl fun K hK => ?_ | refine run_call _ _ _ ((insertionSort_WkL lt cv hlt c hc xs (by omega)).objA [0]) rfl rfl (dstOk_of rfl) rfl rfl rfl ?_); simp only [go_sem, ↓reduceIte, List.length_map, Int.sub_zero]) | (refine AW.seq_k fun K hK => ?_) | (refine AW.block ?_) | (refine AW.cT ?_) | (refine hK _ ?_; clear hK K) | (with_reducible refine andI ?_))
  exact AW.ret (Fin.one rfl rfl ⟨_, rfl, by simp [go_sem]⟩ rfl (by simp [go_sem]) rfl)
theorem sortFunc_WkL (lt : WkL → WkL → Bool) (cv : WkL → WkL → Int) (hlt : ∀ x y, lt x y = decide (cv x y < 0)) (c : Nat) (hc : ∀ x y, Does Tryz.prog c [.d (wkL x), .d (wkL y)] [] (I (cv x y)) []) (xs : List WkL) (hl : xs.length ≤ 12) :
    Does Tryz.prog 28 [.slr 0 0 xs.length, .fn c []] [.vec 68 2 (dv (xs.map wkL))] (.tup []) [.vec 68 2 (dv ((isort lt xs).map wkL))] := by
  refine Does.of_AW (n := 14) Tryz.func28 rfl rfl rfl fun cx hcx => ?_
  have hw := wrap_small xs.length (by omega)
  repeat' (first | ((first | refine AW.sreg rfl fun K hK => ?_ | refine AW.reg rfl ?_ | refine run_call _ _ _ ((len_ok xs.length hl).pure rfl rfl _ _) rfl rfl (dstOk_of rfl) rfl rfl rfl ?_ | refine run_call _ _ _ ((pdqsort_WkL lt cv hlt c hc xs hl _).objA [0]) rfl rfl (dstOk_of rfl) rfl rfl rfl ?_); simp only [go_sem, ↓reduceIte, List.length_map, hw]) | (refine hK _ ?_; clear hK K))
  exact Fin.one rfl rfl ⟨_, rfl, by simp [go_sem]⟩ rfl (by simp [go_sem]) rfl

theorem sortWkP (xs : List Wk) (hb : ∀ x ∈ xs, x.2.length ≤ 1000) (hl : xs.length ≤ 12) :
    Does Tryz.prog 28 [.slr 0 0 xs.length, .fn 79 []] [.vec 68 2 (dv (xs.map wkD))] (.tup []) [.vec 68 2 (dv ((isort (fun a b => decide (cpW a b < 0)) xs).map wkD))] := by
  obtain ⟨ys, hy, hyl⟩ := exists_sub xs hb
  have h := sortFunc_WkL (fun a b => decide (cpW a.1 b.1 < 0)) (fun a b => cpW a.1 b.1) (fun _ _ => rfl) 79 (fun x y => compareWorks_any x.1 y.1 x.2 y.2) ys (by omega)
  have e1 : ys.map wkL = xs.map wkD := by rw [← hy, List.map_map]; rfl
  have e2 : (isort (fun a b : WkL => decide (cpW a.1 b.1 < 0)) ys).map wkL = (isort (fun a b => decide (cpW a b < 0)) xs).map wkD := by
    rw [← hy, ← isort_map (fun y : WkL => y.1) (fun a b => decide (cpW a b < 0)) ys, List.map_map]
    rfl
  rw [e1, e2, hyl] at h
  exact h
theorem checked_ok {w : Wo} (ho : OkW w) : Does Tryz.prog 68 [.d (woD w)] [] (.tup [.d (woD w), I 0]) [] := by
  have c1 := check_ok ho
  obtain ⟨pls, ps, wks, bos⟩ := w
  refine Does.of_AW (n := 12) Tryz.func68 rfl rfl rfl fun cx hcx => ?_
  repeat' (first | ((first | refine AW.sreg rfl fun K hK => ?_ | refine run_call _ _ _ ((c1).pure rfl rfl _ _) rfl rfl (dstOk_of rfl) rfl rfl rfl ?_); simp only [go_sem, ↓reduceIte]) | (refine AW.seq_k fun K hK => ?_) | (refine AW.skip ?_; simp only [Then, InBlock]) | (refine AW.cF ?_) | (refine hK _ ?_; clear hK K))
  all_goals first | exact AW.ret (Fin.data rfl rfl rfl) | trace_state
end Go.AX

namespace Go.AX
open Go Go.Proofs Go.RowKit
theorem CallStep.same {P : Program} {hv : Nat → Option O} {nid : Nat} {f : FuncId} {as_ : List V} {x : V} {u u' : List (Nat × Option O)} (h : CallStep P hv nid f as_ x u) (e : app hv u = app hv u') : CallStep P hv nid f as_ x u' := by
  intro cx σ w vs hg hr hn ha
  refine (h cx σ w vs hg hr hn ha).mono fun v w' ⟨σ', g⟩ => ⟨σ', ?_⟩
  obtain ⟨g1, g2, g3, g4, g5⟩ := g
  rw [e] at g1 g4 g5
  exact ⟨g1, g2, g3, g4, g5⟩
theorem app_same3 {hv : Nat → Option O} {a b c : Nat} {x y z : Option O} (hb : hv b = y) (hc : hv c = z) : app hv [(a, x), (b, y), (c, z)] = app hv [(a, x)] := by
  funext j
  simp only [app, lk]
  by_cases h1 : a = j
  · simp [h1]
  · by_cases h2 : b = j
    · subst h2; simp [h1, hb]
    · by_cases h3 : c = j
      · subst h3; simp [h1, h2, hc]
      · simp [h1, h2, h3]
theorem frzL4 {hv : Nat → Option O} {keep : Nat → Bool} {a b c d : V} {w x y z : D} (h1 : frz hv keep a = .d w) (h2 : frz hv keep b = .d x) (h3 : frz hv keep c = .d y) (h4 : frz hv keep d = .d z) : frzL hv keep [a, b, c, d] = [.d w, .d x, .d y, .d z] := by
  simp only [frzL, h1, h2, h3, h4]
theorem dv_app2 (x y : List D) : dv (x ++ y) = dv x ++ dv y := by simp [dv]
theorem turned_cut (i f : Str) (l : List Str) (hl : l.length ≤ 12) :
    Does Tryz.prog 73 [.d (.sl (l.map D.str)), .ptr 0 0, .ptr 1 0] [.box 9 [S f], .box 9 [S i]] (.slr 2 0 (trL i f l).length) [.box 9 [S f], .box 9 [S i], .vec 9 1 (dv ((trL i f l).map D.str))] := by
  refine (turned_dat i f l hl).cut rfl fun j o' ho => ?_
  rcases j with _ | _ | _ | j
  · simp [hvL, O.lv] at ho ⊢; subst ho; exact .inl rfl
  · simp [hvL, O.lv] at ho ⊢; subst ho; exact .inl rfl
  · simp [hvL, O.lv] at ho ⊢; subst ho; exact .inr ⟨_, _, _, _, by unfold trV; rw [dv_app2], rfl⟩
  · simp [hvL] at ho
theorem turned_own_cut (i f : Str) (l : List Str) (hl : l.length ≤ 12) :
    Does Tryz.prog 73 [.slr 2 0 l.length, .ptr 0 0, .ptr 1 0] [.box 9 [S f], .box 9 [S i], .vec 9 1 (dv (l.map D.str))] (.slr 3 0 (trL i f l).length) [.box 9 [S f], .box 9 [S i], .vec 9 1 (dv (l.map D.str)), .vec 9 1 (dv ((trL i f l).map D.str))] := by
  refine (turned_own i f l hl).cut rfl fun j o' ho => ?_
  rcases j with _ | _ | _ | _ | j
  · simp [hvL, O.lv] at ho ⊢; subst ho; exact .inl rfl
  · simp [hvL, O.lv] at ho ⊢; subst ho; exact .inl rfl
  · simp [hvL, O.lv] at ho ⊢; subst ho; exact .inl rfl
  · simp [hvL, O.lv] at ho ⊢; subst ho; exact .inr ⟨_, _, _, _, by unfold trV; rw [dv_app2], rfl⟩
  · simp [hvL] at ho
section
variable {α : Type} (f : α → α)
/-- A list whose first elements were mapped. -/
def mpT (xs : List α) (i : Nat) : List α := (xs.take i).map f ++ xs.drop i
theorem mpT_len (xs : List α) (i : Nat) : (mpT f xs i).length = xs.length := by
  simp only [mpT, List.length_append, List.length_map, List.length_take, List.length_drop]; omega
theorem mpT_get {xs : List α} {i : Nat} {x : α} (hx : xs[i]? = some x) : (mpT f xs i)[i]? = some x := by
  have hi : i < xs.length := (List.getElem?_eq_some_iff.1 hx).1
  unfold mpT
  rw [List.getElem?_append_right (by simp; omega)]
  simp only [List.length_map, List.length_take, Nat.min_eq_left (Nat.le_of_lt hi), Nat.sub_self, List.getElem?_drop, Nat.add_zero]
  exact hx
theorem mpT_set {xs : List α} {i : Nat} {x : α} (hx : xs[i]? = some x) : (mpT f xs i).set i (f x) = mpT f xs (i + 1) := by
  have hi : i < xs.length := (List.getElem?_eq_some_iff.1 hx).1
  have hd : xs.drop i = x :: xs.drop (i + 1) := by rw [List.drop_eq_getElem_cons hi]; congr 1; exact (List.getElem?_eq_some_iff.1 hx).2
  unfold mpT
  rw [hd, List.take_add_one, hx, List.map_append]
  have hl : ((xs.take i).map f).length = i := by simp; omega
  have := set_mid ((xs.take i).map f) x (xs.drop (i + 1)) (f x)
  rw [hl] at this
  rw [this]
  simp
end
theorem merge_ok {w : Wo} {a b : Pe} {r : List Pe} (ho : OkW w) (hw : w.pes = a :: b :: r) (hsm : ∀ p ∈ w.pes, SmP p) (hwl : w.wks.length ≤ 4) (hwa : ∀ x ∈ w.wks, x.2.length ≤ 12) (hbl : w.bos.length ≤ 4) :
    Does Tryz.prog 21 [.d (woD w), S a.key, S b.key] [] (.tup [.d (woD (mrW a.key b.key w a b r)), I 0]) [] := by
  have hma : a ∈ w.pes := by rw [hw]; simp
  have hmb : b ∈ w.pes := by rw [hw]; simp
  have hks := ho.ris
  rw [hw] at hks
  have hab : a.key ≠ b.key := ltS_ne ((List.pairwise_cons.1 hks).1 b (by simp))
  have c1 := person_two ho a b hma hmb
  have c2 := clone_own w ⟨by have := ho.pl.len; omega, by have := ho.len; omega, by omega, by omega⟩ hsm (fun x hx => by have := (ho.wk.wk x hx).len.2; omega)
  have c3 := keysOf_own w (by have := ho.len; omega) ho.nd w.pls.length w.wks.length w.bos.length (w.pls.map plD) (w.wks.map wkD) (w.bos.map boD) 60 68 70 2 2 2
  have nmb : ∀ p ∈ w.pes, ∀ x ∈ p.names, nmB x := by
    intro p hp x hx
    have h := (ho.pe p hp).nm
    have h1 := (h.nm x hx).2
    have h2 : 0 ≤ x.2 := by
      obtain ⟨i, hi⟩ := List.mem_iff_getElem?.1 hx
      rcases i with _ | i
      · rw [h.fst x hi]; exact Int.le_refl _
      · obtain ⟨y, hy, -, -⟩ := get_some (List.length_pos_iff.2 h.pos)
        have h3 := pw_at h.ris hy hi (Nat.succ_pos i)
        rw [h.fst y hy] at h3
        omega
    exact ⟨by omega, by omega⟩
  have c4 := joined_ok a b (hsm a hma) (hsm b hmb) (nmb a hma) (nmb b hmb)
  have hnd := ho.nd
  have e0 : (a.key == b.key) = false := by simp [hab]
  -- the numbers of the two
  have hka : fndK (.str a.key) (w.pes.map fun p => D.str p.key) = some (some 0) ∧ (((List.range w.pes.length).map fun i : Nat => D.int .i64 (i : Int)).map V.d)[0]? = some (.d (.int .i64 ((0 : Nat) : Int))) := by
    rcases ky_find hnd a.key with ⟨u1, u2⟩ | ⟨j, p, u1, u2, u3, u4⟩
    · exact absurd (List.mem_map_of_mem hma) u1
    · obtain rfl : j = 0 := idx_eq hnd u1 (show w.pes[0]? = some a by rw [hw]; rfl) u2
      exact ⟨u3, u4⟩
  have hkb : fndK (.str b.key) (w.pes.map fun p => D.str p.key) = some (some 1) ∧ (((List.range w.pes.length).map fun i : Nat => D.int .i64 (i : Int)).map V.d)[1]? = some (.d (.int .i64 ((1 : Nat) : Int))) := by
    rcases ky_find hnd b.key with ⟨u1, u2⟩ | ⟨j, p, u1, u2, u3, u4⟩
    · exact absurd (List.mem_map_of_mem hmb) u1
    · obtain rfl : j = 1 := idx_eq hnd u1 (show w.pes[1]? = some b by rw [hw]; rfl) u2
      exact ⟨u3, u4⟩
  obtain ⟨ka1, ka2⟩ := hka
  obtain ⟨kb1, kb2⟩ := hkb
  have hok := mrW_ok ho hw (by have h1 := hsm a hma; have h2 := hsm b hmb; unfold SmP at h1 h2; omega) (by have h1 := hsm a hma; have h2 := hsm b hmb; unfold SmP at h1 h2; omega) (by have h1 := hsm a hma; have h2 := hsm b hmb; unfold SmP at h1 h2; omega)
  have c9 := checked_ok hok
  have hJs : ∀ p ∈ joinP a b :: r, p.advs.length ≤ 2 := by
    intro p hp
    rcases List.mem_cons.1 hp with rfl | hp
    · have h1 := hsm a hma
      have h2 := hsm b hmb
      unfold SmP at h1 h2
      simp only [joinP, List.length_append]
      omega
    · have h1 := hsm p (by rw [hw]; simp [hp])
      unfold SmP at h1
      omega
  obtain ⟨pls, pes, wks, bos⟩ := w
  simp only at hw hwl hwa hbl c1 c2 c3 ka1 ka2 kb1 kb2
  unfold kyD at c3
  generalize ((List.range pes.length).map fun i : Nat => D.int .i64 (i : Int)) = VS at c3 ka2 kb2
  generalize (pes.map fun p => D.str p.key) = KS at c3 ka1 kb1
  subst hw
  have hrl : r.length ≤ 298 := by
    have := ho.len
    simp at this
    omega
  have hs0 : (dv ((a :: b :: r).map peD)).set 0 (.d (peD (joinP a b))) = dv ((joinP a b :: b :: r).map peD) := rfl
  have hset0 : (dv ((a :: b :: r).map peD)).length = r.length + 2 := by simp [dv]
  have hg1 : (dv ((a :: b :: r).map peD))[0]? = some (.d (peD a)) := rfl
  have c5 := deletePe1 (joinP a b :: b :: r) (by simp; omega) 1 (by simp)
  have ed : List.take 1 (joinP a b :: b :: r) ++ List.drop (1 + 1) (joinP a b :: b :: r) = joinP a b :: r := rfl
  rw [ed] at c5
  have hln : (a :: b :: r).length = r.length + 2 := rfl
  have hln2 : (joinP a b :: b :: r).length = r.length + 2 := rfl
  rw [hln] at c2 c3
  rw [hln2] at c5
  dsimp only [woD, mrW] at c1 c2 c9 ⊢
  generalize (a :: b :: r).map peD = L0 at *
  generalize (joinP a b :: b :: r).map peD = L1 at *
  generalize hJ : joinP a b :: r = J at *
  have hJl : J.length = r.length + 1 := by rw [← hJ]; rfl
  have hnn : r.length + 2 - 1 = J.length := by omega
  refine Does.of_AW (n := 152) Tryz.func21 rfl rfl rfl fun cx hcx => ?_
  repeat' (first | ((first | refine AW.sreg rfl fun K hK => ?_ | refine AW.sregD hmix rfl fun K hK => ?_ | refine run_call _ _ _ ((c1).objA [_]) rfl rfl (dstOk_of rfl) rfl rfl rfl ?_ | refine run_call _ _ _ ((c2).objA []) rfl rfl (dstOk_of rfl) rfl rfl rfl ?_ | refine run_call _ _ _ ((c3).objA [_,_,_,_]) rfl rfl (dstOk_of rfl) rfl rfl rfl ?_ | refine runT_call _ _ [] (fun hv _ => (c4).pure rfl rfl hv _) rfl rfl (dstOk_of rfl) rfl rfl ?_ | refine run_call _ _ _ ((c5).objA [_]) rfl rfl (dstOk_of rfl) rfl rfl rfl ?_); simp only [go_sem, ↓reduceIte, e0, ka1, ka2, kb1, kb2, hs0, hset0, hg1, Nat.reduceSub, Nat.add_zero, Nat.zero_add, List.getElem?_cons_zero, List.getElem?_cons_succ, hnn]) | (refine AW.seq_k fun K hK => ?_) | (refine AW.block ?_) | (refine AW.skip ?_; simp only [Then, InBlock]) | (refine AW.cF ?_) | (refine hK _ ?_; clear hK K) | (with_reducible refine And.intro (?_ : regOk _ _ = true) ?_; kernel_rfl) | (with_reducible refine andI ?_))
  refine AW.loopF (ι := Nat) [3, 6, 11, 66] (fun p => [(67, I p)]) (fun p => [(0, some (O.box 31 [.slr 1344 0 pls.length, .slr 1345 0 J.length, .slr 1346 0 wks.length, .slr 1347 0 bos.length])), (64, some (O.box 9 [S a.key])), (128, some (O.box 9 [S b.key])), (192, some wo0), (1344, some (O.vec 60 2 (dv (pls.map plD)))), (1345, some (O.vec 50 5 (dv ((mpT (advT a.key b.key) J p).map peD)))), (1346, some (O.vec 68 2 (dv (wks.map wkD)))), (1347, some (O.vec 70 2 (dv (bos.map boD))))]) 100 (fun p => p ≤ J.length) (fun p => J.length - p) 0 (Nat.zero_le _) (Weak.oC hcx [(0, 0), (64, 64), (128, 128), (192, 192), (1344, 1344), (1345, 1345), (1346, 1346), (1347, 1347)] (by refine ⟨?_, ?_, ?_⟩ <;> simp [go_sem, gL, kL, List.map_append, dv_push, wo0, mpT])) ?_; simp only [St.at_nil, St.at_cons, lk, Nat.reduceEqDiff, ↓reduceIte, Option.getD_some, Option.getD_none, List.cons_append, List.nil_append, List.append_nil]
  intro i h1
  have hml := mpT_len (advT a.key b.key) J i
  by_cases hi : i < J.length
  · obtain ⟨x, hx, hxm, hxd⟩ := get_some hi
    have hget : (dv ((mpT (advT a.key b.key) J i).map peD))[i]? = some (.d (peD x)) := by simp [dv, mpT_get _ hx]
    have hgd : ((mpT (advT a.key b.key) J i).map peD)[i]? = some (peD x) := by simp [mpT_get _ hx]
    have hxa := hJs x hxm
    have t1 := turned_cut a.key b.key x.advs (by omega)
    have hta := trL_len a.key b.key x.advs
    have t2 := deleteFuncR_St 123 50 5 i ((mpT (advT a.key b.key) J i).map peD) (trL a.key b.key x.advs) (by omega) 76 (fun s => s == x.key) (fun s _ => merge2_any _ i x hgd s)
    have hms := mpT_set (advT a.key b.key) hx
    have hset : (dv ((mpT (advT a.key b.key) J i).map peD)).set i (.d (peD (advT a.key b.key x))) = dv ((mpT (advT a.key b.key) J (i + 1)).map peD) := by
      rw [← hms]; simp [dv, List.map_set]
    have hset2 : (dv ((mpT (advT a.key b.key) J i).map peD)).set i (.d (.agg [.str x.key, .sl (x.names.map nmD), .sl (x.homes.map hmD), .sl (x.mails.map D.str), .sl (((trL a.key b.key x.advs).filter fun s => !(s == x.key)).map D.str)])) = dv ((mpT (advT a.key b.key) J (i + 1)).map peD) := hset
    have hT := dv_takeP (((trL a.key b.key x.advs).filter fun s => !(s == x.key)).map D.str) (List.replicate ((trL a.key b.key x.advs).length - ((trL a.key b.key x.advs).filter fun s => !(s == x.key)).length) (D.str []))
    rw [List.length_map] at hT
    generalize mpT (advT a.key b.key) J i = M at *
    repeat' (first | ((first | refine AW.sreg rfl fun K hK => ?_ | refine AW.regD hmix rfl ?_ | refine runT_call _ _ [128, 64] (fun hv hag => (t1).objs [128, 64] ⟨((hag 128 (by simp)).trans rfl), ((hag 64 (by simp)).trans rfl), trivial⟩ rfl (by decide) (by simp [go_sem, renOs]) (by simp) (by simp) (by simp [go_sem]) (by simp [go_sem]) (by simp [go_sem]) (by simp [go_sem])) rfl rfl (dstOk_of rfl) rfl rfl ?_); simp only [go_sem, ↓reduceIte, List.length_map, hml, hget, dv_length, Nat.zero_add, Nat.reduceSub, Nat.add_zero]) | (refine AW.seq_k fun K hK => ?_) | (refine AW.block ?_) | (refine AW.skip ?_; simp only [Then, InBlock]) | (refine AW.cT ?_) | (refine hK _ ?_; clear hK K) | (with_reducible refine andI ?_))
    refine runT_call _ _ [7360, 6848, 1345] (fun hv hag => CallStep.same ((t2).robjs [7360, 6848, 1345] ⟨((hag 7360 (by simp)).trans (by first | rfl | (simp [go_sem]; done) | (simp [go_sem]; rfl))), ((hag 6848 (by simp)).trans (by first | rfl | (simp [go_sem]; done) | (simp [go_sem]; rfl))), ((hag 1345 (by simp)).trans (by first | rfl | (simp [go_sem]; done) | (simp [go_sem]; rfl))), trivial⟩ rfl (by decide) (by simp) (by simp) (by simp [go_sem]) (by simp [go_sem]) (by simp [go_sem]) (by simp [go_sem])) (app_same3 ((hag 6848 (by simp)).trans (by first | rfl | (simp [go_sem]; done) | (simp [go_sem]; rfl))) ((hag 1345 (by simp)).trans (by first | rfl | (simp [go_sem]; done) | (simp [go_sem]; rfl))))) rfl rfl (dstOk_of rfl) rfl rfl ?_
    simp only [go_sem, ↓reduceIte, List.length_map, hml, hget, dv_length, Nat.zero_add, Nat.reduceSub, Nat.add_zero]
    repeat' (first | (refine AW.reg rfl ?_; simp only [go_sem, ↓reduceIte, List.length_map, hml, hget, dv_length, Nat.zero_add, Nat.reduceSub, Nat.add_zero]) | (refine hK _ ?_; clear hK K) | (with_reducible refine And.intro (?_ : regOk _ _ = true) ?_; kernel_rfl) | (with_reducible refine andI ?_))
    exact ⟨i + 1, hi, by omega, (Weak.oC hcx [(0, 0), (64, 64), (128, 128), (192, 192), (1344, 1344), (1345, 1345), (1346, 1346), (1347, 1347)] (by refine ⟨?_, ?_, ?_⟩ <;> simp [go_sem, gL, kL, List.map_append, dv_push, wo0, frzL_set, frz, frzL, toD, toDL_dvF, mkAgg, hT, hset, hset2]))⟩
  · obtain rfl : i = J.length := by omega
    have hPE : mpT (advT a.key b.key) J J.length = J.map (advT a.key b.key) := by simp [mpT]
    have hPl : (J.map (advT a.key b.key)).length = J.length := by simp
    rw [hPE]
    generalize J.map (advT a.key b.key) = PE at *
    repeat' (first | (refine AW.sreg rfl fun K hK => ?_; simp only [go_sem, ↓reduceIte, List.length_map]) | (refine AW.seq_k fun K hK => ?_) | (refine AW.block ?_) | (refine AW.exit ?_; simp only [go_sem, ↓reduceIte]) | (refine AW.cF ?_) | (refine hK _ ?_; clear hK K) | (clear hK K; refine hK _ ?_; clear hK K))
    refine AW.loopF (ι := Nat) [3, 6, 11, 88] (fun p => [(89, I p)]) (fun p => [(0, some (O.box 31 [.slr 1344 0 pls.length, .slr 1345 0 J.length, .slr 1346 0 wks.length, .slr 1347 0 bos.length])), (64, some (O.box 9 [S a.key])), (128, some (O.box 9 [S b.key])), (192, some wo0), (1344, some (O.vec 60 2 (dv (pls.map plD)))), (1345, some (O.vec 50 5 (dv (PE.map peD)))), (1346, some (O.vec 68 2 (dv ((mpT (wkT a.key b.key) wks p).map wkD)))), (1347, some (O.vec 70 2 (dv (bos.map boD))))]) 200 (fun p => p ≤ wks.length) (fun p => wks.length - p) 0 (Nat.zero_le _) (Weak.oC hcx [(0, 0), (64, 64), (128, 128), (192, 192), (1344, 1344), (1345, 1345), (1346, 1346), (1347, 1347)] (by refine ⟨?_, ?_, ?_⟩ <;> simp [go_sem, gL, kL, List.map_append, dv_push, wo0, mpT])) ?_; simp only [St.at_nil, St.at_cons, lk, Nat.reduceEqDiff, ↓reduceIte, Option.getD_some, Option.getD_none, List.cons_append, List.nil_append, List.append_nil]
    intro i h1
    have hml := mpT_len (wkT a.key b.key) wks i
    by_cases hi : i < wks.length
    · obtain ⟨x, hx, hxm, hxd⟩ := get_some hi
      have hget : (dv ((mpT (wkT a.key b.key) wks i).map wkD))[i]? = some (.d (wkD x)) := by simp [dv, mpT_get _ hx]
      have t1 := turned_cut a.key b.key x.2 (hwa x hxm)
      have hms := mpT_set (wkT a.key b.key) hx
      have hset : (dv ((mpT (wkT a.key b.key) wks i).map wkD)).set i (.d (.agg [.int .i64 x.1, .sl ((trL a.key b.key x.2).map D.str)])) = dv ((mpT (wkT a.key b.key) wks (i + 1)).map wkD) := by
        rw [← hms]; simp [dv, List.map_set, wkT]
      generalize mpT (wkT a.key b.key) wks i = M at *
      repeat' (first | ((first | refine AW.sreg rfl fun K hK => ?_ | refine AW.reg rfl ?_ | refine AW.regD hmix rfl ?_ | refine runT_call _ _ [128, 64] (fun hv hag => (t1).objs [128, 64] ⟨((hag 128 (by simp)).trans rfl), ((hag 64 (by simp)).trans rfl), trivial⟩ rfl (by decide) (by simp [go_sem, renOs]) (by simp) (by simp) (by simp [go_sem]) (by simp [go_sem]) (by simp [go_sem]) (by simp [go_sem])) rfl rfl (dstOk_of rfl) rfl rfl ?_); simp only [go_sem, ↓reduceIte, List.length_map, hml, hget, dv_length, Nat.zero_add, Nat.reduceSub, Nat.add_zero]) | (refine AW.seq_k fun K hK => ?_) | (refine AW.block ?_) | (refine AW.skip ?_; simp only [Then, InBlock]) | (refine AW.cT ?_) | (refine hK _ ?_; clear hK K) | (with_reducible refine And.intro (?_ : regOk _ _ = true) ?_; kernel_rfl) | (with_reducible refine andI ?_))
      exact ⟨i + 1, hi, by omega, (Weak.oC hcx [(0, 0), (64, 64), (128, 128), (192, 192), (1344, 1344), (1345, 1345), (1346, 1346), (1347, 1347)] (by refine ⟨?_, ?_, ?_⟩ <;> simp [go_sem, gL, kL, List.map_append, dv_push, wo0, frzL_set, frz, frzL, toD, toDL_dvF, mkAgg, hset]))⟩
    · obtain rfl : i = wks.length := by omega
      have hWE : mpT (wkT a.key b.key) wks wks.length = wks.map (wkT a.key b.key) := by simp [mpT]
      rw [hWE]
      have hwlen : ∀ x ∈ wks.map (wkT a.key b.key), x.2.length ≤ 12 := by
        intro x hx
        obtain ⟨y, hy, rfl⟩ := List.mem_map.1 hx
        have h1 := trL_len a.key b.key y.2
        have h2 := hwa y hy
        simp only [wkT]
        omega
      have hWl : (wks.map (wkT a.key b.key)).length = wks.length := by simp
      have d1 := deleteWk (wks.map (wkT a.key b.key)) (by omega) 78 (fun x => decide (x.2.length < 2)) (fun x _ => merge3_any x)
      rw [hWl] at d1
      have hfl := List.length_filter_le (fun x : Wk => !decide (x.2.length < 2)) (wks.map (wkT a.key b.key))
      have hfm : ∀ x ∈ (wks.map (wkT a.key b.key)).filter (fun x : Wk => !decide (x.2.length < 2)), x.2.length ≤ 12 := fun x hx => hwlen x (List.mem_filter.1 hx).1
      have hW : wksT a.key b.key wks = srtC cpW ((wks.map (wkT a.key b.key)).filter (fun x : Wk => !decide (x.2.length < 2))) := rfl
      generalize (wks.map (wkT a.key b.key)).filter (fun x : Wk => !decide (x.2.length < 2)) = FW at *
      have d2 := sortWkP FW (fun x hx => by have := hfm x hx; omega) (by omega)
      have hil := (isort_perm (fun a b => decide (cpW a b < 0)) FW).length_eq
      have d3 := compactWk 80 (isort (fun a b => decide (cpW a b < 0)) FW) (by omega) (fun x hx y hy => merge4_any x y (by have := hfm x ((isort_perm _ _).mem_iff.1 hx); omega) (by have := hfm y ((isort_perm _ _).mem_iff.1 hy); omega))
      rw [hil] at d3
      rw [show compactM (isort (fun a b => decide (cpW a b < 0)) FW) = wksT a.key b.key wks from hW.symm] at d3
      generalize wksT a.key b.key wks = WE at *
      repeat' (first | ((first | refine AW.sreg rfl fun K hK => ?_ | refine run_call _ _ _ ((d1).objA [_]) rfl rfl (dstOk_of rfl) rfl rfl rfl ?_ | refine run_call _ _ _ ((d2).objA [_]) rfl rfl (dstOk_of rfl) rfl rfl rfl ?_ | refine run_call _ _ _ ((d3).objA [_]) rfl rfl (dstOk_of rfl) rfl rfl rfl ?_); simp only [go_sem, ↓reduceIte, List.length_map]) | (refine AW.seq_k fun K hK => ?_) | (refine AW.block ?_) | (refine AW.exit ?_; simp only [go_sem, ↓reduceIte]) | (refine AW.cF ?_) | (refine hK _ ?_; clear hK K) | (clear hK K; refine hK _ ?_; clear hK K))
      refine AW.weak (Weak.nil 15 70 2 rfl) ?_
      refine AW.loopF (ι := Nat) [3, 6, 11, 118, 119] (fun p => [(15, .slr 14016 0 ((bos.take p).flatMap (boT a.key b.key)).length), (120, I p)]) (fun p => [(0, some (O.box 31 [.slr 1344 0 pls.length, .slr 1345 0 J.length, .slr 1346 0 WE.length, .slr 1347 0 bos.length])), (64, some (O.box 9 [S a.key])), (128, some (O.box 9 [S b.key])), (192, some wo0), (1344, some (O.vec 60 2 (dv (pls.map plD)))), (1345, some (O.vec 50 5 (dv (PE.map peD)))), (1346, some (O.vec 68 2 (dv (WE.map wkD)))), (1347, some (O.vec 70 2 (dv (bos.map boD)))), (14016, some (O.vec 70 2 (dv (((bos.take p).flatMap (boT a.key b.key)).map boD))))]) 300 (fun p => p ≤ bos.length) (fun p => bos.length - p) 0 (Nat.zero_le _) (Weak.oC hcx [(0, 0), (64, 64), (128, 128), (192, 192), (1344, 1344), (1345, 1345), (1346, 1346), (1347, 1347), (14016, 14016)] (by refine ⟨?_, ?_, ?_⟩ <;> simp [go_sem, gL, kL, List.map_append, dv_push, wo0])) ?_; simp only [St.at_nil, St.at_cons, lk, Nat.reduceEqDiff, ↓reduceIte, Option.getD_some, Option.getD_none, List.cons_append, List.nil_append, List.append_nil]
      intro i h1
      by_cases hi : i < bos.length
      · obtain ⟨y, hy, hym, hyd⟩ := get_some hi
        have hget : (dv (bos.map boD))[i]? = some (.d (boD y)) := by simp [dv, hy]
        have htk : (bos.take (i + 1)).flatMap (boT a.key b.key) = (bos.take i).flatMap (boT a.key b.key) ++ boT a.key b.key y := by
          rw [List.take_add_one, hy]; simp
        have hul : ((bos.take i).flatMap (boT a.key b.key)).length ≤ 1000 := by
          have : ∀ l : List Bo, (l.flatMap (boT a.key b.key)).length ≤ l.length := by
            intro l
            induction l with
            | nil => simp
            | cons x l ih =>
              have : (boT a.key b.key x).length ≤ 1 := by unfold boT; split <;> simp
              simp only [List.flatMap_cons, List.length_append, List.length_cons]
              omega
          have h2 := this (bos.take i)
          rw [List.length_take] at h2
          omega
        have t1 := turned_own_cut a.key b.key [y.1, y.2] (by simp)
        have htl := trL_len a.key b.key [y.1, y.2]
        have hbt : boT a.key b.key y = match trL a.key b.key [y.1, y.2] with | [u, v] => [(u, v)] | _ => [] := rfl
        generalize trL a.key b.key [y.1, y.2] = T at *
        generalize (bos.take i).flatMap (boT a.key b.key) = U at *
        have htd : List.take U.length (dv (U.map boD)) = dv (U.map boD) := List.take_of_length_le (by simp [dv])
        rcases T with _ | ⟨u, _ | ⟨v, _ | ⟨z, l⟩⟩⟩
        · simp only at hbt
          rw [hbt, List.append_nil] at htk
          repeat' (first | ((first | refine AW.sreg rfl fun K hK => ?_ | refine AW.reg rfl ?_ | refine run_call _ _ _ ((t1).objA [128,64,_]) rfl rfl (dstOk_of rfl) rfl rfl rfl ?_); simp only [go_sem, ↓reduceIte, List.length_map, hget, List.length_nil, List.length_cons, Nat.zero_add, Nat.reduceSub, Nat.add_zero]) | (refine AW.seq_k fun K hK => ?_) | (refine AW.block ?_) | (refine AW.skip ?_; simp only [Then, InBlock]) | (refine AW.cT ?_) | (refine AW.cF ?_) | (refine hK _ ?_; clear hK K) | (with_reducible refine andI ?_))
          exact ⟨i + 1, hi, by omega, (Weak.oC hcx [(0, 0), (64, 64), (128, 128), (192, 192), (1344, 1344), (1345, 1345), (1346, 1346), (1347, 1347), (14016, 14016)] (by refine ⟨?_, ?_, ?_⟩ <;> simp [go_sem, gL, kL, List.map_append, dv_push, wo0, htk]))⟩
        · simp only at hbt
          rw [hbt, List.append_nil] at htk
          repeat' (first | ((first | refine AW.sreg rfl fun K hK => ?_ | refine AW.reg rfl ?_ | refine run_call _ _ _ ((t1).objA [128,64,_]) rfl rfl (dstOk_of rfl) rfl rfl rfl ?_); simp only [go_sem, ↓reduceIte, List.length_map, hget, List.length_nil, List.length_cons, Nat.zero_add, Nat.reduceSub, Nat.add_zero]) | (refine AW.seq_k fun K hK => ?_) | (refine AW.block ?_) | (refine AW.skip ?_; simp only [Then, InBlock]) | (refine AW.cT ?_) | (refine AW.cF ?_) | (refine hK _ ?_; clear hK K) | (with_reducible refine andI ?_))
          exact ⟨i + 1, hi, by omega, (Weak.oC hcx [(0, 0), (64, 64), (128, 128), (192, 192), (1344, 1344), (1345, 1345), (1346, 1346), (1347, 1347), (14016, 14016)] (by refine ⟨?_, ?_, ?_⟩ <;> simp [go_sem, gL, kL, List.map_append, dv_push, wo0, htk]))⟩
        · simp only at hbt
          rw [hbt] at htk
          have hv2 : dv ([u, v].map D.str) = [S u, S v] := rfl
          have hv3 : dv [D.str u, D.str v] = [S u, S v] := rfl
          repeat' (first | ((first | refine AW.sreg rfl fun K hK => ?_ | refine AW.reg rfl ?_ | refine AW.regD hmix rfl ?_ | refine run_call _ _ _ ((t1).objA [128,64,_]) rfl rfl (dstOk_of rfl) rfl rfl rfl ?_); simp only [go_sem, ↓reduceIte, List.length_map, hget, htd, List.length_nil, List.length_cons, Nat.zero_add, Nat.reduceSub, Nat.add_zero, hv2, hv3, List.getElem?_cons_zero, List.getElem?_cons_succ]) | (refine AW.seq_k fun K hK => ?_) | (refine AW.block ?_) | (refine AW.skip ?_; simp only [Then, InBlock]) | (refine AW.cT ?_) | (refine hK _ ?_; clear hK K) | (with_reducible refine And.intro (?_ : regOk _ _ = true) ?_; kernel_rfl) | (with_reducible refine andI ?_))
          exact ⟨i + 1, hi, by omega, (Weak.oC hcx [(0, 0), (64, 64), (128, 128), (192, 192), (1344, 1344), (1345, 1345), (1346, 1346), (1347, 1347), (14016, 20800)] (by refine ⟨?_, ?_, ?_⟩ <;> simp [go_sem, gL, kL, List.map_append, dv_push, wo0, htk]))⟩
        · exact absurd htl (by simp)
      · obtain rfl : i = bos.length := by omega
        have hul : (bos.flatMap (boT a.key b.key)).length ≤ bos.length := by
          have : ∀ l : List Bo, (l.flatMap (boT a.key b.key)).length ≤ l.length := by
            intro l
            induction l with
            | nil => simp
            | cons x l ih =>
              have : (boT a.key b.key x).length ≤ 1 := by unfold boT; split <;> simp
              simp only [List.flatMap_cons, List.length_append, List.length_cons]
              omega
          exact this bos
        rw [List.take_length]
        have hB : bosT a.key b.key bos = srtC cpB (bos.flatMap (boT a.key b.key)) := rfl
        have d4 := bondsOf_own (bos.flatMap (boT a.key b.key)) (by omega)
        rw [← hB] at d4
        repeat' (first | (refine AW.sreg rfl fun K hK => ?_; simp only [go_sem, ↓reduceIte, List.length_map]) | (refine AW.seq_k fun K hK => ?_) | (refine AW.exit ?_; simp only [go_sem, ↓reduceIte]) | (refine AW.cF ?_) | (refine hK _ ?_; clear hK K) | (clear hK K; refine hK _ ?_; clear hK K))
        first | (refine run_call _ _ _ ((d4).objA [_]) rfl rfl (dstOk_of rfl) rfl rfl rfl ?_; simp only [go_sem, ↓reduceIte, Nat.reduceSub, Nat.add_zero])
        refine hK _ ?_; (try clear hK K)
        have hT := dv_takeP ((bosT a.key b.key bos).map boD) (List.replicate ((bos.flatMap (boT a.key b.key)).length - (bosT a.key b.key bos).length) (boD ([], [])))
        rw [List.length_map] at hT
        have hT3 : List.take J.length (dv (PE.map peD)) = dv (PE.map peD) := List.take_of_length_le (by simp [dv, hPl])
        generalize bosT a.key b.key bos = BE at *
        refine AW.weak (?wk : Weak cx _ (⟨152, [(3, .ptr 0 0), (6, .ptr 192 0)], [(0, some (O.box 31 [.d (.sl (pls.map plD)), .d (.sl (PE.map peD)), .d (.sl (WE.map wkD)), .d (.sl (BE.map boD))])), (192, some wo0)], 400⟩ : St)) ?_
        case wk =>
          refine Weak.objs hcx [(0, 0), (192, 192)] rfl rfl (Nat.le_of_ble_eq_true rfl) (by simp [go_sem, gL, kL]) ?_ pk0 (by simp [gL, lk])
          intro p hp
          rcases List.mem_cons.1 hp with rfl | hp
          · exact ⟨_, rfl, (by show (0 : Nat) < 64 * 400; decide), rfl, rfl, _, rfl, congrArg (O.box _) (frzL4 (frz_slr rfl rfl (by simp)) (frz_slr rfl rfl (by simp [hPl])) (frz_slr rfl rfl (by simp)) (frz_slrP rfl rfl (by simp)))⟩
          · obtain rfl := List.mem_singleton.1 hp
            exact ⟨_, rfl, (by show (192 : Nat) < 64 * 400; decide), rfl, rfl, _, rfl, rfl⟩
        repeat' (first | ((first | refine AW.sreg rfl fun K hK => ?_ | refine run_call _ _ _ ((c9).pure rfl rfl _ _) rfl rfl (dstOk_of rfl) rfl rfl rfl ?_); simp only [go_sem, ↓reduceIte]) | (refine hK _ ?_; clear hK K))
        all_goals first | exact AW.ret (Fin.data rfl rfl rfl) | trace_state
end Go.AX

namespace Go.AX
open Go Go.Proofs Go.RowKit
abbrev annK : Str := [97, 110, 110]
abbrev bobK : Str := [98, 111, 98]
theorem merge_law {w : Wo} (hw : RWR 5 w) : ∃ (a b : Pe) (r : List Pe) (m : Wo), w.pes = a :: b :: r ∧ a.key = annK ∧ b.key = bobK ∧ OkW m ∧ Does Tryz.prog 21 [.d (woD w), S annK, S bobK] [] (.tup [.d (woD m), I 0]) [] ∧
    ∀ c ∈ r, ∀ th tw day, ∃ a' c', a' ∈ m.pes ∧ c' ∈ m.pes ∧ a'.key = annK ∧ c'.key = c.key ∧ SubI (whyF w th tw day a c) (whyF m th tw day a' c') ∧ SubI (whyF w th tw day b c) (whyF m th tw day a' c') := by
  have hk := hw.ky
  obtain ⟨a, b, r, hp⟩ : ∃ a b r, w.pes = a :: b :: r := by
    rcases hq : w.pes with _ | ⟨a, _ | ⟨b, r⟩⟩
    · rw [hq] at hk; simp [K7] at hk
    · rw [hq] at hk; simp [K7] at hk
    · exact ⟨a, b, r, rfl⟩
  have hka : a.key = annK ∧ b.key = bobK := by
    rw [hp] at hk
    simp only [List.map_cons, K7, List.take_succ_cons, List.cons.injEq] at hk
    exact ⟨hk.1, hk.2.1⟩
  have hm := merge_ok hw.ok hp hw.sm hw.wl (fun x hx => by have := hw.wa x hx; omega) hw.bl
  have sa := hw.sm a (by rw [hp]; simp)
  have sb := hw.sm b (by rw [hp]; simp)
  unfold SmP at sa sb
  have hmk := mrW_ok hw.ok hp (by omega) (by omega) (by omega)
  rw [hka.1, hka.2] at hm
  refine ⟨a, b, r, mrW a.key b.key w a b r, hp, hka.1, hka.2, hmk, by rw [hka.1, hka.2]; exact hm, ?_⟩
  intro c hc th tw day
  refine ⟨advT a.key b.key (joinP a b), advT a.key b.key c, List.mem_map_of_mem (by simp), List.mem_map_of_mem (by simp [hc]), hka.1, rfl, why_mr hw.ok hp hc th tw day a (.inl rfl), why_mr hw.ok hp hc th tw day b (.inr rfl)⟩
theorem law_ok (l : List Int) (hl : l.length ≤ 9223372036854775807) : Does Tryz.prog 6 [Ls l] [] (B true) [] := by
  have hrw := rightWorldI l hl 0 (by omega) (by omega) 5 (by omega)
  rw [show ((5 : Nat) : Int) = 5 from rfl] at hrw
  refine Does.of_AW (n := 97) Tryz.func6 rfl rfl rfl fun cx hcx => ?_
  repeat' (first | (refine AW.sreg rfl fun K hK => ?_; simp only [go_sem, ↓reduceIte]) | (refine hK _ ?_; clear hK K) | (refine run_callI _ _ _ ((hrw).objs [_] ⟨rfl, trivial⟩ rfl (by decide) (by simp [go_sem, renOs]) (by simp [go_sem]) (by simp [go_sem]) (fun j hj => ⟨by simp, by simp, by simp [go_sem], by simp [go_sem]⟩)) rfl rfl (dstOk_of rfl) rfl rfl rfl ?_; rintro ⟨w, p1⟩ ⟨hw, a2, a3⟩; (try dsimp only at w); (try dsimp only at p1); (try dsimp only at hw); (try dsimp only at a2); (try dsimp only at a3); simp only [go_sem, ↓reduceIte]))
  repeat' (first | (refine AW.sreg rfl fun K hK => ?_; simp only [go_sem, ↓reduceIte]) | (refine hK _ ?_; clear hK K) | (refine run_callI _ _ _ ((termsI l hl p1 (by omega) (by omega)).objs [_] ⟨rfl, trivial⟩ rfl (by decide) (by simp [go_sem, renOs]) (by simp [go_sem]) (by simp [go_sem]) (fun j hj => ⟨by simp, by simp, by simp [go_sem], by simp [go_sem]⟩)) rfl rfl (dstOk_of rfl) rfl rfl rfl ?_; rintro ⟨th, tw⟩ ⟨hth, htw⟩; (try dsimp only at th); (try dsimp only at tw); (try dsimp only at hth); (try dsimp only at htw); simp only [go_sem, ↓reduceIte]))
  repeat' (first | (refine AW.sreg rfl fun K hK => ?_; simp only [go_sem, ↓reduceIte]) | (refine hK _ ?_; clear hK K) | (refine run_callI _ _ _ ((pickB l hl (p1 + 1 + 1) (by omega) (by omega) [0, 30, 50, 99, 130, 4000] 0 4000 (by simp) (by simp) (by decide)).objs [_, _] ⟨rfl, rfl, trivial⟩ rfl (by decide) (by simp [go_sem, renOs]) (by simp [go_sem]) (by simp [go_sem]) (fun j hj => ⟨by simp, by simp, by simp [go_sem], by simp [go_sem]⟩)) rfl rfl (dstOk_of rfl) rfl rfl rfl ?_; rintro day hday; (try dsimp only at day); (try dsimp only at hday); simp only [go_sem, ↓reduceIte]))
  obtain ⟨a, b, r, m, hp, hka, hkb, hmk, hme, hmr⟩ := merge_law hw
  have hok := hw.ok
  have hl300 := hok.len
  repeat' (first | ((first | refine AW.sreg rfl fun K hK => ?_ | refine run_call _ _ _ ((hme).pure rfl rfl _ _) rfl rfl (dstOk_of rfl) rfl rfl rfl ?_); simp only [go_sem, ↓reduceIte]) | (refine AW.seq_k fun K hK => ?_) | (refine AW.block ?_) | (refine AW.skip ?_; simp only [Then, InBlock]) | (refine AW.cF ?_) | (refine hK _ ?_; clear hK K))
  refine AW.loopF (ι := Nat) [4, 5, 6, 7, 40, 41] (fun p => [(42, I p)]) (fun p => [(576, some (O.box 31 [.d (.sl (w.pls.map plD)), .d (.sl (w.pes.map peD)), .d (.sl (w.wks.map wkD)), .d (.sl (w.bos.map boD))])), (640, some (O.box 43 [I th, I tw])), (1408, some (O.box 31 [.d (.sl (m.pls.map plD)), .d (.sl (m.pes.map peD)), .d (.sl (m.wks.map wkD)), .d (.sl (m.bos.map boD))]))]) 60 (fun p => p ≤ w.pes.length) (fun p => w.pes.length - p) 0 (Nat.zero_le _) (Weak.aC hcx (by refine ⟨?_, ?_, ?_⟩ <;> simp [go_sem, gL, kL, renOf, V.obj, Nat.blt, Nat.ble, List.map_append, dv_push, woD])) ?_; simp only [St.at_nil, St.at_cons, lk, Nat.reduceEqDiff, ↓reduceIte, Option.getD_some, Option.getD_none, List.cons_append, List.nil_append, List.append_nil]
  intro i h1
  by_cases hi : i < w.pes.length
  · obtain ⟨x, hX, hxm, -⟩ := get_some hi
    have hgX : (w.pes.map peD)[i]? = some (peD x) := by simp [hX]
    by_cases e1 : x.key = annK
    · have f1 : (x.key == [97, 110, 110]) = true := by simp [e1]
      repeat' (first | ((first | refine AW.sreg rfl fun K hK => ?_ | refine AW.reg rfl ?_); simp only [go_sem, ↓reduceIte, List.length_map, hgX, f1]) | (refine AW.seq_k fun K hK => ?_) | (refine AW.block ?_) | (refine AW.skip ?_; simp only [Then, InBlock]) | (refine AW.exit ?_; simp only [go_sem, ↓reduceIte]) | (refine AW.cT ?_) | (refine hK _ ?_; clear hK K) | (clear hK K; refine hK _ ?_; clear hK K) | (with_reducible refine andI ?_))
      exact ⟨i + 1, hi, by omega, (Weak.aC hcx (by refine ⟨?_, ?_, ?_⟩ <;> simp [go_sem, gL, kL, renOf, V.obj, Nat.blt, Nat.ble, List.map_append, dv_push]))⟩
    · have f1 : (x.key == [97, 110, 110]) = false := by simpa using e1
      by_cases e2 : x.key = bobK
      · have f2 : (x.key == [98, 111, 98]) = true := by simp [e2]
        repeat' (first | ((first | refine AW.sreg rfl fun K hK => ?_ | refine AW.reg rfl ?_); simp only [go_sem, ↓reduceIte, List.length_map, hgX, f1, f2]) | (refine AW.seq_k fun K hK => ?_) | (refine AW.block ?_) | (refine AW.skip ?_; simp only [Then, InBlock]) | (refine AW.exit ?_; simp only [go_sem, ↓reduceIte]) | (refine AW.cT ?_) | (refine hK _ ?_; clear hK K) | (clear hK K; refine hK _ ?_; clear hK K) | (with_reducible refine andI ?_))
        exact ⟨i + 1, hi, by omega, (Weak.aC hcx (by refine ⟨?_, ?_, ?_⟩ <;> simp [go_sem, gL, kL, renOf, V.obj, Nat.blt, Nat.ble, List.map_append, dv_push]))⟩
      · have f2 : (x.key == [98, 111, 98]) = false := by simpa using e2
        have hxr : x ∈ r := by
          rw [hp] at hxm
          rcases List.mem_cons.1 hxm with e | hxm
          · exact absurd (e ▸ hka) e1
          · rcases List.mem_cons.1 hxm with e | hxm
            · exact absurd (e ▸ hkb) e2
            · exact hxm
        obtain ⟨a', c', g1, g2, g3, g4, g5, g6⟩ := hmr x hxr th tw day
        have y1 := Why_ok hok th tw day hth htw hday a x (by rw [hp]; simp) hxm
        have y2 := Why_ok hok th tw day hth htw hday b x (by rw [hp]; simp) hxm
        have y3 := Why_ok hmk th tw day hth htw hday a' c' g1 g2
        rw [hka] at y1
        rw [hkb] at y2
        rw [g3, g4] at y3
        have q1 := within_ok (by have := whyF_len w th tw day a x; omega) (by have := whyF_len m th tw day a' c'; omega) g5
        have q2 := within_ok (by have := whyF_len w th tw day b x; omega) (by have := whyF_len m th tw day a' c'; omega) g6
        generalize whyF w th tw day a x = X1 at y1 q1
        generalize whyF w th tw day b x = X2 at y2 q2
        generalize whyF m th tw day a' c' = X3 at y3 q1 q2
        repeat' (first | ((first | refine AW.sreg rfl fun K hK => ?_ | refine AW.reg rfl ?_ | refine run_call _ _ _ ((y1).pure rfl rfl _ _) rfl rfl (dstOk_of rfl) rfl rfl rfl ?_ | refine run_call _ _ _ ((y2).pure rfl rfl _ _) rfl rfl (dstOk_of rfl) rfl rfl rfl ?_ | refine run_call _ _ _ ((y3).pure rfl rfl _ _) rfl rfl (dstOk_of rfl) rfl rfl rfl ?_ | refine run_call _ _ _ ((q1).pure rfl rfl _ _) rfl rfl (dstOk_of rfl) rfl rfl rfl ?_ | refine run_call _ _ _ ((q2).pure rfl rfl _ _) rfl rfl (dstOk_of rfl) rfl rfl rfl ?_); simp only [go_sem, ↓reduceIte, List.length_map, hgX, f1, f2]) | (refine AW.seq_k fun K hK => ?_) | (refine AW.block ?_) | (refine AW.skip ?_; simp only [Then, InBlock]) | (refine AW.cT ?_) | (refine AW.cF ?_) | (refine hK _ ?_; clear hK K) | (with_reducible refine andI ?_))
        all_goals first | exact ⟨i + 1, hi, by omega, (Weak.aC hcx (by refine ⟨?_, ?_, ?_⟩ <;> simp [go_sem, gL, kL, renOf, V.obj, Nat.blt, Nat.ble, List.map_append, dv_push]))⟩ | trace_state
  · obtain rfl : i = w.pes.length := by omega
    repeat' (first | ((first | refine AW.sreg rfl fun K hK => ?_ | refine run_call _ _ _ ((stands_ok).pure rfl rfl _ _) rfl rfl (dstOk_of rfl) rfl rfl rfl ?_); simp only [go_sem, ↓reduceIte, List.length_map]) | (refine AW.seq_k fun K hK => ?_) | (refine AW.exit ?_; simp only [go_sem, ↓reduceIte]) | (refine AW.cF ?_) | (refine hK _ ?_; clear hK K) | (clear hK K; refine hK _ ?_; clear hK K) | (refine AW.ret (Fin.data rfl (by first | (simp only [go_sem]; done) | (simp [go_sem, *]; done) | (simp [go_sem]; omega) | rfl) rfl)))
end Go.AX
