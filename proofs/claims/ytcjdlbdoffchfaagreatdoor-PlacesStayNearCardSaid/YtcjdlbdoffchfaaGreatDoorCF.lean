/- Merging persons: names that are turned; persons that are joined. -/
import Derived.Test.YtcjdlbdoffchfaaGreatDoorCE
import Derived.Test.YtcjdlbdoffchfaaGreatDoorCD
import Derived.Test.YtcjdlbdoffchfaaGreatDoorCB
import Derived.Test.YtcjdlbdoffchfaaGreatDoorCC
set_option linter.unusedSimpArgs false
set_option linter.unusedVariables false
set_option linter.unnecessarySimpa false
set_option maxRecDepth 1000000
set_option maxHeartbeats 4000000
namespace Go.AX
open Go Go.Proofs Go.RowKit
end Go.AX

namespace Go.AX
open Go Go.Proofs Go.RowKit
end Go.AX

namespace Go.AX
open Go Go.Proofs Go.RowKit
theorem checked_ok {w : Wo} (ho : OkW w) : Does Tryz.prog 68 [.d (woD w)] [] (.tup [.d (woD w), I 0]) [] := by
  have c1 := check_ok ho
  obtain ⟨pls, ps, wks, bos⟩ := w
  refine Does.of_AW (n := 12) Tryz.func68 rfl rfl rfl fun cx hcx => ?_
  repeat' (first | ((first | refine AW.sreg rfl fun K hK => ?_ | refine run_call _ _ _ ((c1).pure rfl rfl _ _) rfl rfl (dstOk_of rfl) rfl rfl rfl ?_); simp only [go_sem, ↓reduceIte]) | (refine AW.seq_k fun K hK => ?_) | (refine AW.skip ?_; simp only [Then, InBlock]) | (refine AW.cF ?_) | (refine hK _ ?_; clear hK K))
  all_goals first | exact AW.ret (Fin.data rfl rfl rfl) | trace_state
end Go.AX

namespace Go.AX
open Go Go.Proofs Go.RowKit
theorem CallStep.same {P : Program} {hv : Nat → Option O} {nid : Nat} {f : FuncId} {as_ : List V} {x : V} {u u' : List (Nat × Option O)} (h : CallStep P hv nid f as_ x u) (e : app hv u = app hv u') : CallStep P hv nid f as_ x u' := by
  intro cx σ w vs hg hr hn ha
  refine (h cx σ w vs hg hr hn ha).mono fun v w' ⟨σ', g⟩ => ⟨σ', ?_⟩
  obtain ⟨g1, g2, g3, g4, g5⟩ := g
  rw [e] at g1 g4 g5
  exact ⟨g1, g2, g3, g4, g5⟩
theorem frzL4 {hv : Nat → Option O} {keep : Nat → Bool} {a b c d : V} {w x y z : D} (h1 : frz hv keep a = .d w) (h2 : frz hv keep b = .d x) (h3 : frz hv keep c = .d y) (h4 : frz hv keep d = .d z) : frzL hv keep [a, b, c, d] = [.d w, .d x, .d y, .d z] := by
  simp only [frzL, h1, h2, h3, h4]
theorem dv_app2 (x y : List D) : dv (x ++ y) = dv x ++ dv y := by simp [dv]
section
variable {α : Type} (f : α → α)
/-- A list whose first elements were mapped. -/
def mpT (xs : List α) (i : Nat) : List α := (xs.take i).map f ++ xs.drop i
theorem mpT_len (xs : List α) (i : Nat) : (mpT f xs i).length = xs.length := by
  simp only [mpT, List.length_append, List.length_map, List.length_take, List.length_drop]; omega
theorem mpT_get {xs : List α} {i : Nat} {x : α} (hx : xs[i]? = some x) : (mpT f xs i)[i]? = some x := by
  have hi : i < xs.length := (List.getElem?_eq_some_iff.1 hx).1
  unfold mpT
  rw [List.getElem?_append_right (by simp; omega)]
  simp only [List.length_map, List.length_take, Nat.min_eq_left (Nat.le_of_lt hi), Nat.sub_self, List.getElem?_drop, Nat.add_zero]
  exact hx
theorem mpT_set {xs : List α} {i : Nat} {x : α} (hx : xs[i]? = some x) : (mpT f xs i).set i (f x) = mpT f xs (i + 1) := by
  have hi : i < xs.length := (List.getElem?_eq_some_iff.1 hx).1
  have hd : xs.drop i = x :: xs.drop (i + 1) := by rw [List.drop_eq_getElem_cons hi]; congr 1; exact (List.getElem?_eq_some_iff.1 hx).2
  unfold mpT
  rw [hd, List.take_add_one, hx, List.map_append]
  have hl : ((xs.take i).map f).length = i := by simp; omega
  have := set_mid ((xs.take i).map f) x (xs.drop (i + 1)) (f x)
  rw [hl] at this
  rw [this]
  simp
end
end Go.AX

namespace Go.AX
open Go Go.Proofs Go.RowKit
theorem deleteFuncT_Pl (bt : Nat) (xs : List (Pl)) (hl : xs.length ≤ 1000) (c : Nat) (cap : D) (q : Pl → Bool) (hc : ∀ x ∈ xs, Does Tryz.prog c [.d (plD x), .d (.ptr [cap] 0)] [] (B (q x)) []) :
    Does Tryz.prog 65 [.slr 0 0 xs.length, .fn c [.ptr 1 0]] [.vec 60 2 (dv (xs.map plD)), .box bt [.d cap]] (.slr 0 0 (xs.filter fun x => !q x).length) [.vec 60 2 (dv ((xs.filter fun x => !q x).map plD ++ List.replicate (xs.length - (xs.filter fun x => !q x).length) (plD ([], [])))), .box bt [.d cap]] := by
  have hix := indexFunc_Pl xs hl c (.ptr [cap] 0) q hc
  refine Does.of_AW (n := 42) Tryz.func65 rfl rfl rfl fun cx hcx => ?_
  generalize hF : (xs.filter fun x => !q x) = F
  cases hany : xs.any q with
  | false =>
    have hno : ∀ x ∈ xs, q x = false := by simpa using hany
    have hid : idxG q xs 0 = -1 := idxG_none 0 hany
    rw [hid] at hix
    have : F = xs := by
      rw [← hF, List.filter_eq_self]
      intro x hx; rw [hno x hx]; rfl
    subst this
    repeat' (first | ((first | refine AW.sreg rfl fun K hK => ?_ | refine run_call _ _ _ ((hix).lend (by repeat' (first | exact frzL_nil | refine frzL_cons (by first | exact frz_d | exact frz_slr rfl rfl (by first | (simp; done) | (simp; omega) | (simp [*]; done) | fail) | rfl) ?_)) rfl rfl rfl) rfl rfl (dstOk_of rfl) rfl rfl rfl ?_); simp only [go_sem, ↓reduceIte, List.length_map]) | (refine AW.seq_k fun K hK => ?_) | (refine AW.cT ?_) | (refine hK _ ?_; clear hK K))
    exact AW.ret (Fin.objs [0, 1] rfl (by simp [go_sem, inI, gI]) ⟨⟨_, rfl, by simp [go_sem, inI, gI]⟩, ⟨_, rfl, by simp [go_sem, inI, gI]⟩, trivial⟩ (by simp) rfl (by simp [go_sem]) (by simp [go_sem]) rfl)
  | true =>
    obtain ⟨k, x, hk, hkx, hqx, hpre⟩ := idxG_at 0 hany
    rw [hk, Nat.zero_add] at hix
    have hkl : k < xs.length := by
      rcases Nat.lt_or_ge k xs.length with h | h
      · exact h
      · simp [List.getElem?_eq_none h] at hkx
    have hd : xs.drop k = x :: xs.drop (k + 1) := by
      rw [List.drop_eq_getElem_cons hkl]; congr 1; rw [List.getElem?_eq_getElem hkl] at hkx; exact Option.some.inj hkx
    have hf0 : xs.take k ++ (xs.drop (k + 1)).filter (fun x => !q x) = F := by
      rw [← hF]
      conv => rhs; rw [← List.take_append_drop k xs, List.filter_append, hd, List.filter_cons_of_neg (by simp [hqx])]
      congr 1
      rw [List.filter_eq_self.2]
      intro y hy; rw [hpre y hy]; rfl
    repeat' (first | ((first | refine AW.sreg rfl fun K hK => ?_ | refine run_call _ _ _ ((hix).lend (by repeat' (first | exact frzL_nil | refine frzL_cons (by first | exact frz_d | exact frz_slr rfl rfl (by first | (simp; done) | (simp; omega) | (simp [*]; done) | fail) | rfl) ?_)) rfl rfl rfl) rfl rfl (dstOk_of rfl) rfl rfl rfl ?_); simp only [go_sem, ↓reduceIte, List.length_map]) | (refine AW.seq_k fun K hK => ?_) | (refine AW.block ?_) | (refine AW.skip ?_; simp only [Then, InBlock]) | (refine AW.cF ?_) | (refine hK _ ?_; clear hK K) | (with_reducible refine andI ?_))
    refine AW.loopF (ι := Nat × List (Pl) × List (Pl)) [0, 1] (fun p => [(5, I p.2.1.length), (6, I p.1)]) (fun p => [(0, some (O.vec 60 2 (dv ((p.2.1 ++ (p.2.2 ++ xs.drop p.1)).map plD)))), (1, some (O.box bt [.d cap]))]) 2 (fun p => p.1 ≤ xs.length ∧ p.2.1.length + p.2.2.length = p.1 ∧ 1 ≤ p.2.2.length ∧ p.2.1 ++ (xs.drop p.1).filter (fun x => !q x) = F) (fun p => xs.length - p.1) (k + 1, xs.take k, [x]) ⟨by simp only; omega, by simp; omega, by simp, hf0⟩ (Weak.aC hcx (by refine ⟨?_, ?_, ?_⟩ <;> simp [go_sem, gL, kL, renOf, V.obj, Nat.blt, Nat.ble, List.map_append, dv_push, ← hd, List.take_append_drop, Nat.min_eq_left (Nat.le_of_lt hkl)])) ?_; simp only [St.at_nil, St.at_cons, lk, Nat.reduceEqDiff, ↓reduceIte, Option.getD_some, Option.getD_none, List.cons_append, List.nil_append, List.append_nil]
    rintro ⟨j, A, G⟩ ⟨g1, g2, g3, g4⟩
    simp only at g1 g2 g3 g4 ⊢
    have hlen : (A ++ (G ++ xs.drop j)).length = xs.length := by simp; omega
    by_cases hj : j < xs.length
    · obtain ⟨z, hz, hzm, hzd⟩ := get_some hj
      obtain ⟨g0, G, rfl⟩ : ∃ g0 G', G = g0 :: G' := by
        cases G with
        | nil => simp at g3
        | cons a b => exact ⟨a, b, rfl⟩
      have e1 : (dv ((A ++ ((g0 :: G) ++ xs.drop j)).map plD))[0 + j]? = some (.d (plD z)) := by
        have : (A ++ ((g0 :: G) ++ xs.drop j))[j]? = some z := by
          rw [show A ++ ((g0 :: G) ++ xs.drop j) = (A ++ (g0 :: G)) ++ xs.drop j by simp, List.getElem?_append_right (by simp at g2 ⊢; omega), show j - (A ++ (g0 :: G)).length = 0 by simp at g2 ⊢; omega, hzd]
          rfl
        simp only [dv, Nat.zero_add, List.getElem?_map, this, Option.map_some]
      have e3 : (dv ((A ++ ((g0 :: G) ++ xs.drop j)).map plD))[0 + A.length]? = some (.d (plD g0)) := by
        have := get_mid A g0 (G ++ xs.drop j)
        simp only [dv, Nat.zero_add, List.getElem?_map, List.cons_append, this, Option.map_some]
      have hset : (dv ((A ++ ((g0 :: G) ++ xs.drop j)).map plD)).set (0 + A.length) (.d (plD z)) = dv (((A ++ [z]) ++ (G ++ xs.drop j)).map plD) := by
        have := set_mid (dv (A.map plD)) (V.d (plD g0)) (dv ((G ++ xs.drop j).map plD)) (V.d (plD z))
        simpa [dv] using this
      simp only [List.cons_append] at e1 e3 hset hlen
      rw [hzd] at g4
      have hcz := hc z hzm
      cases hqz : q z with
      | true =>
        rw [hqz] at hcz
        rw [List.filter_cons_of_neg (by simp [hqz])] at g4
        repeat' (first | ((first | refine AW.sreg rfl fun K hK => ?_ | refine AW.reg rfl ?_ | refine run_call _ _ _ ((hcz).borrow rfl rfl rfl) rfl rfl (dstOk_of rfl) rfl rfl rfl ?_); simp only [go_sem, ↓reduceIte, List.length_map, e1, List.cons_append]) | (refine AW.seq_k fun K hK => ?_) | (refine AW.block ?_) | (refine AW.skip ?_; simp only [Then, InBlock]) | (refine AW.cT ?_) | (refine AW.cF ?_) | (refine hK _ ?_; clear hK K) | (with_reducible refine andI ?_))
        exact ⟨(j + 1, A, g0 :: (G ++ [z])), ⟨hj, by simp at g2 ⊢; omega, by simp, g4⟩, by simp only; omega, (Weak.aC hcx (by refine ⟨?_, ?_, ?_⟩ <;> simp [go_sem, gL, kL, renOf, V.obj, Nat.blt, Nat.ble, List.map_append, dv_push, hzd]))⟩
      | false =>
        rw [hqz] at hcz
        rw [List.filter_cons_of_pos (by simp [hqz])] at g4
        repeat' (first | ((first | refine AW.sreg rfl fun K hK => ?_ | refine AW.reg rfl ?_ | refine run_call _ _ _ ((hcz).borrow rfl rfl rfl) rfl rfl (dstOk_of rfl) rfl rfl rfl ?_); simp only [go_sem, ↓reduceIte, List.length_map, e1, e3, hset, List.cons_append]) | (refine AW.seq_k fun K hK => ?_) | (refine AW.block ?_) | (refine AW.skip ?_; simp only [Then, InBlock]) | (refine AW.cT ?_) | (refine hK _ ?_; clear hK K) | (with_reducible refine andI ?_))
        exact ⟨(j + 1, A ++ [z], G ++ [z]), ⟨hj, by simp at g2 ⊢; omega, by simp, by simpa using g4⟩, by simp only; omega, (Weak.aC hcx (by refine ⟨?_, ?_, ?_⟩ <;> simp [go_sem, gL, kL, renOf, V.obj, Nat.blt, Nat.ble, List.map_append, dv_push, hzd]))⟩
    · obtain rfl : j = xs.length := by omega
      simp only [List.drop_length, List.filter_nil, List.append_nil] at g4 hlen
      subst g4
      have hcl : (dv ((A ++ G).map plD)).take (0 + A.length) ++ List.replicate (xs.length - A.length) (V.d (plD ([], []))) ++ (dv ((A ++ G).map plD)).drop (0 + A.length + (xs.length - A.length)) = dv (A.map plD ++ List.replicate (xs.length - A.length) (plD ([], []))) := by
        rw [List.drop_eq_nil_of_le (by simp [dv]; omega), List.append_nil]
        simp [dv]
      clear hf0 hF
      repeat' (first | (refine AW.sreg rfl fun K hK => ?_; simp only [go_sem, ↓reduceIte, List.length_map, List.drop_length, List.append_nil, hcl]) | (refine AW.seq_k fun K hK => ?_) | (refine AW.exit ?_; simp only [go_sem, ↓reduceIte]) | (refine AW.cF ?_) | (refine hK _ ?_; clear hK K) | (clear hK K; refine hK _ ?_; clear hK K) | (with_reducible refine andI ?_))
      exact AW.ret (Fin.objs [0, 1] rfl (by simp [go_sem, inI, gI]) ⟨⟨_, rfl, by simp [go_sem, inI, gI]⟩, ⟨_, rfl, by simp [go_sem, inI, gI]⟩, trivial⟩ (by simp) rfl (by simp [go_sem]) (by simp [go_sem]) rfl)

/-- A person whose four lists are own objects, from number i on. -/
abbrev peO (p : Pe) (i : Nat) : V := .agg [S p.key, .slr i 0 p.names.length, .slr (i + 1) 0 p.homes.length, .slr (i + 2) 0 p.mails.length, .slr (i + 3) 0 p.advs.length]
abbrev peN (p : Pe) : O := .vec 63 2 (dv (p.names.map nmD))
abbrev peH (p : Pe) : O := .vec 98 3 (dv (p.homes.map hmD))
abbrev peM (p : Pe) : O := .vec 9 1 (dv (p.mails.map D.str))
abbrev peA (p : Pe) : O := .vec 9 1 (dv (p.advs.map D.str))
theorem clone5 (pls : List Pl) (a b c d e : Pe) (wks : List Wk) (bos : List Bo) (hl : pls.length ≤ 1000 ∧ wks.length ≤ 1000 ∧ bos.length ≤ 1000) (hp : ∀ p ∈ [a, b, c, d, e], SmP p) (hx : ∀ x ∈ wks, x.2.length ≤ 1000) :
    Does Tryz.prog 64 [.d (woD ⟨pls, [a, b, c, d, e], wks, bos⟩)] [] (.agg [.slr 0 0 pls.length, .slr 1 0 5, .slr 2 0 wks.length, .slr 3 0 bos.length])
      [.vec 60 2 (dv (pls.map plD)), .vec 50 5 [peO a 4, peO b 8, peO c 12, peO d 16, peO e 20], .vec 68 2 (dv (wks.map wkD)), .vec 70 2 (dv (bos.map boD)),
        peN a, peH a, peM a, peA a, peN b, peH b, peM b, peA b, peN c, peH c, peM c, peA c, peN d, peH d, peM d, peA d, peN e, peH e, peM e, peA e] := by
  have c1 := clone_Pl pls hl.1
  have c2 := clone_Pe [a, b, c, d, e] (by simp)
  have c3 := clone_Wk wks hl.2.1
  have c4 := clone_Bo bos hl.2.2
  have pa := clonePerson_own a (by have := hp a (by simp); unfold SmP at this; omega)
  have pb := clonePerson_own b (by have := hp b (by simp); unfold SmP at this; omega)
  have pc := clonePerson_own c (by have := hp c (by simp); unfold SmP at this; omega)
  have pd := clonePerson_own d (by have := hp d (by simp); unfold SmP at this; omega)
  have pe := clonePerson_own e (by have := hp e (by simp); unfold SmP at this; omega)
  rw [show dv ([a, b, c, d, e].map peD) = [V.d (peD a), V.d (peD b), V.d (peD c), V.d (peD d), V.d (peD e)] from rfl] at c2
  simp only [List.map_cons, List.map_nil, List.length_cons, List.length_nil, Nat.zero_add, Nat.reduceAdd] at c2
  refine Does.of_AW (n := 54) Tryz.func64 rfl rfl rfl fun cx hcx => ?_
  repeat' (first | ((first | refine AW.sreg rfl fun K hK => ?_ | refine AW.sregD hmix rfl fun K hK => ?_ | refine runT_call _ _ [] (fun hv _ => (c1).objs [] trivial rfl (by decide) (by simp [go_sem, renOs]) (by simp) (by simp) (by simp [go_sem]) (by simp [go_sem]) (by simp [go_sem]) (by simp [go_sem])) rfl rfl (dstOk_of rfl) rfl rfl ?_ | refine runT_call _ _ [] (fun hv _ => (c2).objs [] trivial rfl (by decide) (by simp [go_sem, renOs]) (by simp) (by simp) (by simp [go_sem]) (by simp [go_sem]) (by simp [go_sem]) (by simp [go_sem])) rfl rfl (dstOk_of rfl) rfl rfl ?_ | refine runT_call _ _ [] (fun hv _ => (c3).objs [] trivial rfl (by decide) (by simp [go_sem, renOs]) (by simp) (by simp) (by simp [go_sem]) (by simp [go_sem]) (by simp [go_sem]) (by simp [go_sem])) rfl rfl (dstOk_of rfl) rfl rfl ?_ | refine runT_call _ _ [] (fun hv _ => (c4).objs [] trivial rfl (by decide) (by simp [go_sem, renOs]) (by simp) (by simp) (by simp [go_sem]) (by simp [go_sem]) (by simp [go_sem]) (by simp [go_sem])) rfl rfl (dstOk_of rfl) rfl rfl ?_); simp only [go_sem, ↓reduceIte, Nat.reduceSub, Nat.add_zero]) | (refine AW.seq_k fun K hK => ?_) | (refine AW.block ?_) | (refine hK _ ?_; clear hK K) | (with_reducible refine And.intro (?_ : regOk _ _ = true) ?_; kernel_rfl))
  refine AW.unroll 6 ?_; simp only [AWr]
  repeat' (first | ((first | refine AW.sreg rfl fun K hK => ?_ | refine AW.reg rfl ?_ | refine AW.regD hmix rfl ?_ | refine runT_call _ _ [] (fun hv _ => (pa).objs [] trivial rfl (by decide) (by simp [go_sem, renOs]) (by simp) (by simp) (by simp [go_sem]) (by simp [go_sem]) (by simp [go_sem]) (by simp [go_sem])) rfl rfl (dstOk_of rfl) rfl rfl ?_ | refine runT_call _ _ [] (fun hv _ => (pb).objs [] trivial rfl (by decide) (by simp [go_sem, renOs]) (by simp) (by simp) (by simp [go_sem]) (by simp [go_sem]) (by simp [go_sem]) (by simp [go_sem])) rfl rfl (dstOk_of rfl) rfl rfl ?_ | refine runT_call _ _ [] (fun hv _ => (pc).objs [] trivial rfl (by decide) (by simp [go_sem, renOs]) (by simp) (by simp) (by simp [go_sem]) (by simp [go_sem]) (by simp [go_sem]) (by simp [go_sem])) rfl rfl (dstOk_of rfl) rfl rfl ?_ | refine runT_call _ _ [] (fun hv _ => (pd).objs [] trivial rfl (by decide) (by simp [go_sem, renOs]) (by simp) (by simp) (by simp [go_sem]) (by simp [go_sem]) (by simp [go_sem]) (by simp [go_sem])) rfl rfl (dstOk_of rfl) rfl rfl ?_ | refine runT_call _ _ [] (fun hv _ => (pe).objs [] trivial rfl (by decide) (by simp [go_sem, renOs]) (by simp) (by simp) (by simp [go_sem]) (by simp [go_sem]) (by simp [go_sem]) (by simp [go_sem])) rfl rfl (dstOk_of rfl) rfl rfl ?_); simp only [go_sem, ↓reduceIte, Nat.reduceSub, Nat.add_zero, Nat.zero_add, List.getElem?_cons_zero, List.getElem?_cons_succ, Int.reduceAdd, Int.zero_add, List.set_cons_zero, List.set_cons_succ]) | (refine AW.seq_k fun K hK => ?_) | (refine AW.block ?_) | (refine AW.skip ?_; simp only [Then, InBlock]) | (refine AW.exit ?_; simp only [go_sem, ↓reduceIte]) | (refine AW.cT ?_) | (refine AW.cF ?_) | (refine hK _ ?_; clear hK K) | (clear hK K; refine hK _ ?_; clear hK K) | (with_reducible refine And.intro (?_ : regOk _ _ = true) ?_; kernel_rfl) | (with_reducible refine andI ?_))
  refine AW.loopF (ι := Nat) [2, 3, 37, 38] (fun p => [(39, I p)]) (fun p => [(64, some wo0), (256, some (O.vec 60 2 (dv (pls.map plD)))), (448, some (O.vec 50 5 [peO a 2048, peO b 3072, peO c 4096, peO d 5120, peO e 6144])), (640, some (O.vec 68 2 (dv (wks.map wkD)))), (832, some (O.vec 70 2 (dv (bos.map boD)))), (960, some (O.box 31 [.slr 256 0 pls.length, .slr 448 0 5, .slr 640 0 wks.length, .slr 832 0 bos.length])), (2048, some (peN a)), (2049, some (peH a)), (2050, some (peM a)), (2051, some (peA a)), (3072, some (peN b)), (3073, some (peH b)), (3074, some (peM b)), (3075, some (peA b)), (4096, some (peN c)), (4097, some (peH c)), (4098, some (peM c)), (4099, some (peA c)), (5120, some (peN d)), (5121, some (peH d)), (5122, some (peM d)), (5123, some (peA d)), (6144, some (peN e)), (6145, some (peH e)), (6146, some (peM e)), (6147, some (peA e))]) 200 (fun p => p ≤ wks.length) (fun p => wks.length - p) 0 (Nat.zero_le _) (Weak.oC hcx [(64, 64), (256, 256), (448, 448), (640, 640), (832, 832), (960, 960), (2048, 2048), (2049, 2049), (2050, 2050), (2051, 2051), (3072, 3072), (3073, 3073), (3074, 3074), (3075, 3075), (4096, 4096), (4097, 4097), (4098, 4098), (4099, 4099), (5120, 5120), (5121, 5121), (5122, 5122), (5123, 5123), (6144, 6144), (6145, 6145), (6146, 6146), (6147, 6147)] (by refine ⟨?_, ?_, ?_⟩ <;> simp [go_sem, gL, kL, List.map_append, dv_push, wo0])) ?_; simp only [St.at_nil, St.at_cons, lk, Nat.reduceEqDiff, ↓reduceIte, Option.getD_some, Option.getD_none, List.cons_append, List.nil_append, List.append_nil]
  intro i h1
  by_cases hi : i < wks.length
  · obtain ⟨x, hxx, hxm, hxd⟩ := get_some hi
    have hget : (dv (wks.map wkD))[i]? = some (.d (wkD x)) := by simp [dv, hxx]
    have hset : (dv (wks.map wkD)).set i (.d (.agg [.int .i64 x.1, .sl (x.2.map D.str)])) = dv (wks.map wkD) := set_same (by simpa using hget)
    have hca := clone_St x.2 (hx x hxm)
    repeat' (first | ((first | refine AW.sreg rfl fun K hK => ?_ | refine AW.reg rfl ?_ | refine AW.regD hmix rfl ?_ | refine runT_call _ _ [] (fun hv _ => (hca).objs [] trivial rfl (by decide) (by simp [go_sem, renOs]) (by simp) (by simp) (by simp [go_sem]) (by simp [go_sem]) (by simp [go_sem]) (by simp [go_sem])) rfl rfl (dstOk_of rfl) rfl rfl ?_); simp only [go_sem, ↓reduceIte, List.length_map, hget, Nat.reduceSub, Nat.add_zero, Nat.zero_add]) | (refine AW.seq_k fun K hK => ?_) | (refine AW.block ?_) | (refine AW.skip ?_; simp only [Then, InBlock]) | (refine AW.cT ?_) | (refine hK _ ?_; clear hK K) | (with_reducible refine And.intro (?_ : regOk _ _ = true) ?_; kernel_rfl) | (with_reducible refine andI ?_))
    exact ⟨i + 1, hi, by omega, (Weak.oC hcx [(64, 64), (256, 256), (448, 448), (640, 640), (832, 832), (960, 960), (2048, 2048), (2049, 2049), (2050, 2050), (2051, 2051), (3072, 3072), (3073, 3073), (3074, 3074), (3075, 3075), (4096, 4096), (4097, 4097), (4098, 4098), (4099, 4099), (5120, 5120), (5121, 5121), (5122, 5122), (5123, 5123), (6144, 6144), (6145, 6145), (6146, 6146), (6147, 6147)] (by refine ⟨?_, ?_, ?_⟩ <;> simp [go_sem, gL, kL, List.map_append, dv_push, wo0, frzL_set, hset, frz, frzL, mkAgg, toD, toDL_dvF]))⟩
  · obtain rfl : i = wks.length := by omega
    repeat' (first | (refine AW.sreg rfl fun K hK => ?_; simp only [go_sem, ↓reduceIte, List.length_map]) | (refine AW.seq_k fun K hK => ?_) | (refine AW.exit ?_; simp only [go_sem, ↓reduceIte]) | (refine AW.cF ?_) | (refine hK _ ?_; clear hK K) | (clear hK K; refine hK _ ?_; clear hK K))
    exact AW.ret (Fin.objs [256, 448, 640, 832, 2048, 2049, 2050, 2051, 3072, 3073, 3074, 3075, 4096, 4097, 4098, 4099, 5120, 5121, 5122, 5123, 6144, 6145, 6146, 6147] rfl rfl ⟨⟨_, rfl, by simp [go_sem, inI, gI]⟩, ⟨_, rfl, by simp [go_sem, inI, gI]⟩, ⟨_, rfl, by simp [go_sem, inI, gI]⟩, ⟨_, rfl, by simp [go_sem, inI, gI]⟩, ⟨_, rfl, by simp [go_sem, inI, gI]⟩, ⟨_, rfl, by simp [go_sem, inI, gI]⟩, ⟨_, rfl, by simp [go_sem, inI, gI]⟩, ⟨_, rfl, by simp [go_sem, inI, gI]⟩, ⟨_, rfl, by simp [go_sem, inI, gI]⟩, ⟨_, rfl, by simp [go_sem, inI, gI]⟩, ⟨_, rfl, by simp [go_sem, inI, gI]⟩, ⟨_, rfl, by simp [go_sem, inI, gI]⟩, ⟨_, rfl, by simp [go_sem, inI, gI]⟩, ⟨_, rfl, by simp [go_sem, inI, gI]⟩, ⟨_, rfl, by simp [go_sem, inI, gI]⟩, ⟨_, rfl, by simp [go_sem, inI, gI]⟩, ⟨_, rfl, by simp [go_sem, inI, gI]⟩, ⟨_, rfl, by simp [go_sem, inI, gI]⟩, ⟨_, rfl, by simp [go_sem, inI, gI]⟩, ⟨_, rfl, by simp [go_sem, inI, gI]⟩, ⟨_, rfl, by simp [go_sem, inI, gI]⟩, ⟨_, rfl, by simp [go_sem, inI, gI]⟩, ⟨_, rfl, by simp [go_sem, inI, gI]⟩, ⟨_, rfl, by simp [go_sem, inI, gI]⟩, trivial⟩ (by simp) rfl (by simp [go_sem]) (by simp [go_sem]) rfl)
end Go.AX

namespace Go.AX
open Go Go.Proofs Go.RowKit
theorem mergePlaces1_any (x : Pl) (k : Str) : Does Tryz.prog 66 [.d (plD x), .d (.ptr [.str k] 0)] [] (B (x.1 == k)) [] := by
  refine Does.of_AW (n := 8) Tryz.func66 rfl rfl rfl fun cx hcx => ?_
  repeat' (first | (refine AW.sreg rfl fun K hK => ?_; simp only [go_sem, ↓reduceIte]) | (refine hK _ ?_; clear hK K) | (refine AW.ret (Fin.data rfl (by first | (simp only [go_sem]; done) | (simp [go_sem, *]; done) | (simp [go_sem]; omega) | rfl) rfl)))
theorem mergePlaces_bad {w : Wo} (ho : OkW w) (into fr : Str) (h : ¬ (into ∈ w.pls.map (·.1) ∧ fr ∈ w.pls.map (·.1) ∧ insB w.pls into fr = false ∧ (par w.pls fr = [] ∨ insB w.pls into (par w.pls fr) = true))) :
    ∃ e : Int, (e = 8 ∨ e = 14 ∨ e = 16) ∧ Does Tryz.prog 20 [.d (woD w), S into, S fr] [] (.tup [.agg [.nils, .nils, .nils, .nils], I e]) [] := by
  have c1 := check_ok ho
  have c2 := parentsOf_any w.pls (by have := ho.pl.len; omega) ho.pl.nd
  have c3 := has_any ho.pl.nd into
  have c4 := has_any ho.pl.nd fr
  have c5 := inside_any ho.pl into fr
  have c6 := inside_any ho.pl into (par w.pls fr)
  have hu := up_find ho.pl.nd fr
  obtain ⟨pls, pes, wks, bos⟩ := w
  simp only at *
  by_cases hi : into ∈ pls.map (·.1)
  · rw [decide_eq_true hi] at c3
    by_cases hf : fr ∈ pls.map (·.1)
    · rw [decide_eq_true hf] at c4
      cases h1 : insB pls into fr with
      | true =>
        rw [h1] at c5
        refine ⟨14, by simp, ?_⟩
        refine Does.of_AW (n := 131) Tryz.func20 rfl rfl rfl fun cx hcx => ?_
        repeat' (first | ((first | refine AW.sreg rfl fun K hK => ?_ | refine run_call _ _ _ ((c1).pure rfl rfl _ _) rfl rfl (dstOk_of rfl) rfl rfl rfl ?_ | refine run_call _ _ _ ((c2).pure rfl rfl _ _) rfl rfl (dstOk_of rfl) rfl rfl rfl ?_ | refine run_call _ _ _ ((c3).pure rfl rfl _ _) rfl rfl (dstOk_of rfl) rfl rfl rfl ?_ | refine run_call _ _ _ ((c4).pure rfl rfl _ _) rfl rfl (dstOk_of rfl) rfl rfl rfl ?_ | refine run_call _ _ _ ((c5).pure rfl rfl _ _) rfl rfl (dstOk_of rfl) rfl rfl rfl ?_); simp only [go_sem, ↓reduceIte]) | (refine AW.seq_k fun K hK => ?_) | (refine AW.skip ?_; simp only [Then, InBlock]) | (refine AW.cT ?_) | (refine AW.cF ?_) | (refine hK _ ?_; clear hK K))
        all_goals first | exact AW.ret (Fin.data rfl rfl rfl) | trace_state
      | false =>
        rw [h1] at c5
        have hp : par pls fr ≠ [] ∧ insB pls into (par pls fr) = false := by
          constructor
          · intro e; exact h ⟨hi, hf, h1, .inl e⟩
          · rw [← Bool.not_eq_true]; intro e; exact h ⟨hi, hf, h1, .inr e⟩
        rw [hp.2] at c6
        have hp1 : (par pls fr == []) = false := by simpa using hp.1
        rcases hu with ⟨u1, -⟩ | ⟨j, u1, u2, u3⟩
        · exact absurd hf u1
        simp only [dv] at u3
        refine ⟨16, by simp, ?_⟩
        refine Does.of_AW (n := 131) Tryz.func20 rfl rfl rfl fun cx hcx => ?_
        repeat' (first | ((first | refine AW.sreg rfl fun K hK => ?_ | refine run_call _ _ _ ((c1).pure rfl rfl _ _) rfl rfl (dstOk_of rfl) rfl rfl rfl ?_ | refine run_call _ _ _ ((c2).pure rfl rfl _ _) rfl rfl (dstOk_of rfl) rfl rfl rfl ?_ | refine run_call _ _ _ ((c3).pure rfl rfl _ _) rfl rfl (dstOk_of rfl) rfl rfl rfl ?_ | refine run_call _ _ _ ((c4).pure rfl rfl _ _) rfl rfl (dstOk_of rfl) rfl rfl rfl ?_ | refine run_call _ _ _ ((c5).pure rfl rfl _ _) rfl rfl (dstOk_of rfl) rfl rfl rfl ?_ | refine run_call _ _ _ ((c6).pure rfl rfl _ _) rfl rfl (dstOk_of rfl) rfl rfl rfl ?_); simp only [go_sem, ↓reduceIte, u2, u3, hp1]) | (refine AW.seq_k fun K hK => ?_) | (refine AW.skip ?_; simp only [Then, InBlock]) | (refine AW.cT ?_) | (refine AW.cF ?_) | (refine hK _ ?_; clear hK K))
        all_goals first | exact AW.ret (Fin.data rfl rfl rfl) | trace_state
    · rw [decide_eq_false hf] at c4
      refine ⟨8, by simp, ?_⟩
      refine Does.of_AW (n := 131) Tryz.func20 rfl rfl rfl fun cx hcx => ?_
      repeat' (first | ((first | refine AW.sreg rfl fun K hK => ?_ | refine run_call _ _ _ ((c1).pure rfl rfl _ _) rfl rfl (dstOk_of rfl) rfl rfl rfl ?_ | refine run_call _ _ _ ((c2).pure rfl rfl _ _) rfl rfl (dstOk_of rfl) rfl rfl rfl ?_ | refine run_call _ _ _ ((c3).pure rfl rfl _ _) rfl rfl (dstOk_of rfl) rfl rfl rfl ?_ | refine run_call _ _ _ ((c4).pure rfl rfl _ _) rfl rfl (dstOk_of rfl) rfl rfl rfl ?_); simp only [go_sem, ↓reduceIte]) | (refine AW.seq_k fun K hK => ?_) | (refine AW.skip ?_; simp only [Then, InBlock]) | (refine AW.cT ?_) | (refine AW.cF ?_) | (refine hK _ ?_; clear hK K))
      all_goals first | exact AW.ret (Fin.data rfl rfl rfl) | trace_state
  · rw [decide_eq_false hi] at c3
    refine ⟨8, by simp, ?_⟩
    refine Does.of_AW (n := 131) Tryz.func20 rfl rfl rfl fun cx hcx => ?_
    repeat' (first | ((first | refine AW.sreg rfl fun K hK => ?_ | refine run_call _ _ _ ((c1).pure rfl rfl _ _) rfl rfl (dstOk_of rfl) rfl rfl rfl ?_ | refine run_call _ _ _ ((c2).pure rfl rfl _ _) rfl rfl (dstOk_of rfl) rfl rfl rfl ?_ | refine run_call _ _ _ ((c3).pure rfl rfl _ _) rfl rfl (dstOk_of rfl) rfl rfl rfl ?_); simp only [go_sem, ↓reduceIte]) | (refine AW.seq_k fun K hK => ?_) | (refine AW.skip ?_; simp only [Then, InBlock]) | (refine AW.cT ?_) | (refine AW.cF ?_) | (refine hK _ ?_; clear hK K))
    all_goals first | exact AW.ret (Fin.data rfl rfl rfl) | trace_state
end Go.AX
