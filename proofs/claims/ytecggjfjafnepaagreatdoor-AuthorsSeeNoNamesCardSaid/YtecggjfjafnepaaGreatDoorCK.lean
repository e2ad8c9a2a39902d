/- What authors see: a review copied, secret answers left out. -/
import Derived.Test.YtecggjfjafnepaaGreatDoorCI
import Derived.Test.YtecggjfjafnepaaGreatDoorAx49
set_option linter.unusedSimpArgs false
set_option linter.unusedVariables false
set_option linter.unnecessarySimpa false
set_option maxRecDepth 1000000
set_option maxHeartbeats 4000000
namespace Go.AX
open Go Go.Proofs Go.RowKit
theorem all_ok_An (xs : List An) : (dv (xs.map anD)).all (elemOk 4) = true := by
 simp only [dv, List.map_map, List.all_eq_true, List.mem_map, Function.comp_apply, forall_exists_index, and_imp, forall_apply_eq_imp_iff₂]
 intro x _
 rfl
theorem clone_An (xs : List An) (hl : xs.length ≤ 1000) : Does Tryz.prog 117 [.d (.sl (xs.map anD))] [] (.slr 0 0 xs.length) [.vec 62 4 (dv (xs.map anD))] := by
 refine Does.of_AW (n := 8) Tryz.func117 rfl rfl rfl fun cx hcx => ?_
 refine AW.sreg rfl fun K hK => ?_; simp only [go_sem, ↓reduceIte]
 refine hK _ ?_; (try clear hK K)
 refine AW.seq_k fun K1 hK1 => ?_
 refine AW.seq_k fun K2 hK2 => ?_
 refine AW.nilCmp rfl rfl rfl rfl rfl rfl (by simp only [go_sem]; rfl) (by simp) (by simp) rfl (fun b hb => ?_)
 refine hK2 _ ?_
 refine AW.cond rfl (fun h => ?_) (fun h => ?_)
 ·have h0 : xs = [] := by simpa using hb h
  subst h0
  repeat' (first | (refine AW.sreg rfl fun K hK => ?_; simp only [go_sem, ↓reduceIte, List.length_map]) | (refine hK _ ?_; clear hK K))
  refine AW.weak (Weak.nil 2 62 4 rfl) ?_
  exact AW.ret (Fin.objs [256] rfl (by simp [go_sem, inI, gI]) ⟨⟨_, rfl, by simp [go_sem, inI, gI]⟩, trivial⟩ (by simp) rfl (by simp [go_sem]) (by simp [go_sem]) rfl)
 ·refine AW.skip (hK1 _ ?_)
  repeat' (first | (refine AW.sreg rfl fun K hK => ?_; simp only [go_sem, ↓reduceIte, List.length_map, all_ok_An]) | (refine hK _ ?_; clear hK K) | (with_reducible refine andI ?_))
  exact AW.ret (Fin.objs [320] rfl (by simp [go_sem, inI, gI]) ⟨⟨_, rfl, by simp [go_sem, inI, gI]⟩, trivial⟩ (by simp) rfl (by simp [go_sem]) (by simp [go_sem]) rfl)

theorem deleteFunc_An (xs : List (An)) (hl : xs.length ≤ 1000) (c : Nat) (cap : D) (q : An → Bool) (hc : ∀ x ∈ xs, Does Tryz.prog c [.d (anD x), .d cap] [] (B (q x)) []) :
  Does Tryz.prog 127 [.slr 0 0 xs.length, .fn c [.d cap]] [.vec 62 4 (dv (xs.map anD))] (.slr 0 0 (xs.filter fun x => !q x).length) [.vec 62 4 (dv ((xs.filter fun x => !q x).map anD ++ List.replicate (xs.length - (xs.filter fun x => !q x).length) (anD ([], 0, [], []))))] := by
 have hix := indexFunc_An xs hl c cap q hc
 refine Does.of_AW (n := 42) Tryz.func127 rfl rfl rfl fun cx hcx => ?_
 generalize hF : (xs.filter fun x => !q x) = F
 cases hany : xs.any q with
 | false =>
  have hno : ∀ x ∈ xs, q x = false := by simpa using hany
  have hid : idxG q xs 0 = -1 := idxG_none 0 hany
  rw [hid] at hix
  have : F = xs := by
   rw [← hF, List.filter_eq_self]
   intro x hx; rw [hno x hx]; rfl
  subst this
  repeat' (first | ((first | refine AW.sreg rfl fun K hK => ?_ | refine run_call _ _ _ ((hix).lend (by repeat' (first | exact frzL_nil | refine frzL_cons (by first | exact frz_d | exact frz_slr rfl rfl (by first | (simp; done) | (simp; omega) | (simp [*]; done) | fail) | rfl) ?_)) rfl rfl rfl) rfl rfl (dstOk_of rfl) rfl rfl rfl ?_); simp only [go_sem, ↓reduceIte, List.length_map]) | (refine AW.seq_k fun K hK => ?_) | (refine AW.cT ?_) | (refine hK _ ?_; clear hK K))
  exact AW.ret (Fin.one rfl (by simp [go_sem]) ⟨_, rfl, by simp [go_sem]⟩ rfl (by simp [go_sem]) rfl)
 | true =>
  obtain ⟨k, x, hk, hkx, hqx, hpre⟩ := idxG_at 0 hany
  rw [hk, Nat.zero_add] at hix
  have hkl : k < xs.length := by
   rcases Nat.lt_or_ge k xs.length with h | h
   ·exact h
   ·simp [List.getElem?_eq_none h] at hkx
  have hd : xs.drop k = x :: xs.drop (k + 1) := by
   rw [List.drop_eq_getElem_cons hkl]; congr 1; rw [List.getElem?_eq_getElem hkl] at hkx; exact Option.some.inj hkx
  have hf0 : xs.take k ++ (xs.drop (k + 1)).filter (fun x => !q x) = F := by
   rw [← hF]
   conv => rhs; rw [← List.take_append_drop k xs, List.filter_append, hd, List.filter_cons_of_neg (by simp [hqx])]
   congr 1
   rw [List.filter_eq_self.2]
   intro y hy; rw [hpre y hy]; rfl
  repeat' (first | ((first | refine AW.sreg rfl fun K hK => ?_ | refine run_call _ _ _ ((hix).lend (by repeat' (first | exact frzL_nil | refine frzL_cons (by first | exact frz_d | exact frz_slr rfl rfl (by first | (simp; done) | (simp; omega) | (simp [*]; done) | fail) | rfl) ?_)) rfl rfl rfl) rfl rfl (dstOk_of rfl) rfl rfl rfl ?_); simp only [go_sem, ↓reduceIte, List.length_map]) | (refine AW.seq_k fun K hK => ?_) | (refine AW.block ?_) | (refine AW.skip ?_; simp only [Then, InBlock]) | (refine AW.cF ?_) | (refine hK _ ?_; clear hK K) | (with_reducible refine andI ?_))
  refine AW.loopF (ι := Nat × List (An) × List (An)) [0, 1] (fun p => [(5, I p.2.1.length), (6, I p.1)]) (fun p => [(0, some (O.vec 62 4 (dv ((p.2.1 ++ (p.2.2 ++ xs.drop p.1)).map anD))))]) 1 (fun p => p.1 ≤ xs.length ∧ p.2.1.length + p.2.2.length = p.1 ∧ 1 ≤ p.2.2.length ∧ p.2.1 ++ (xs.drop p.1).filter (fun x => !q x) = F) (fun p => xs.length - p.1) (k + 1, xs.take k, [x]) ⟨by simp only; omega, by simp; omega, by simp, hf0⟩ (Weak.aC hcx (by refine ⟨?_, ?_, ?_⟩ <;> simp [go_sem, gL, kL, renOf, V.obj, Nat.blt, Nat.ble, List.map_append, dv_push, ← hd, List.take_append_drop, Nat.min_eq_left (Nat.le_of_lt hkl)])) ?_; simp only [St.at_nil, St.at_cons, lk, Nat.reduceEqDiff, ↓reduceIte, Option.getD_some, Option.getD_none, List.cons_append, List.nil_append, List.append_nil]
  rintro ⟨j, A, G⟩ ⟨g1, g2, g3, g4⟩
  simp only at g1 g2 g3 g4 ⊢
  have hlen : (A ++ (G ++ xs.drop j)).length = xs.length := by simp; omega
  by_cases hj : j < xs.length
  ·obtain ⟨z, hz, hzm, hzd⟩ := get_some hj
   obtain ⟨g0, G, rfl⟩ : ∃ g0 G', G = g0 :: G' := by
    cases G with
    | nil => simp at g3
    | cons a b => exact ⟨a, b, rfl⟩
   have e1 : (dv ((A ++ ((g0 :: G) ++ xs.drop j)).map anD))[0 + j]? = some (.d (anD z)) := by
    have : (A ++ ((g0 :: G) ++ xs.drop j))[j]? = some z := by
     rw [show A ++ ((g0 :: G) ++ xs.drop j) = (A ++ (g0 :: G)) ++ xs.drop j by simp, List.getElem?_append_right (by simp at g2 ⊢; omega), show j - (A ++ (g0 :: G)).length = 0 by simp at g2 ⊢; omega, hzd]
     rfl
    simp only [dv, Nat.zero_add, List.getElem?_map, this, Option.map_some]
   have e3 : (dv ((A ++ ((g0 :: G) ++ xs.drop j)).map anD))[0 + A.length]? = some (.d (anD g0)) := by
    have := get_mid A g0 (G ++ xs.drop j)
    simp only [dv, Nat.zero_add, List.getElem?_map, List.cons_append, this, Option.map_some]
   have hset : (dv ((A ++ ((g0 :: G) ++ xs.drop j)).map anD)).set (0 + A.length) (.d (anD z)) = dv (((A ++ [z]) ++ (G ++ xs.drop j)).map anD) := by
    have := set_mid (dv (A.map anD)) (V.d (anD g0)) (dv ((G ++ xs.drop j).map anD)) (V.d (anD z))
    simpa [dv] using this
   simp only [List.cons_append] at e1 e3 hset hlen
   rw [hzd] at g4
   have hcz := hc z hzm
   cases hqz : q z with
   | true =>
    rw [hqz] at hcz
    rw [List.filter_cons_of_neg (by simp [hqz])] at g4
    repeat' (first | ((first | refine AW.sreg rfl fun K hK => ?_ | refine AW.reg rfl ?_ | refine run_call _ _ _ ((hcz).pure rfl rfl _ _) rfl rfl (dstOk_of rfl) rfl rfl rfl ?_); simp only [go_sem, ↓reduceIte, List.length_map, e1, List.cons_append]) | (refine AW.seq_k fun K hK => ?_) | (refine AW.block ?_) | (refine AW.skip ?_; simp only [Then, InBlock]) | (refine AW.cT ?_) | (refine AW.cF ?_) | (refine hK _ ?_; clear hK K) | (with_reducible refine andI ?_))
    exact ⟨(j + 1, A, g0 :: (G ++ [z])), ⟨hj, by simp at g2 ⊢; omega, by simp, g4⟩, by simp only; omega, (Weak.aC hcx (by refine ⟨?_, ?_, ?_⟩ <;> simp [go_sem, gL, kL, renOf, V.obj, Nat.blt, Nat.ble, List.map_append, dv_push, hzd]))⟩
   | false =>
    rw [hqz] at hcz
    rw [List.filter_cons_of_pos (by simp [hqz])] at g4
    repeat' (first | ((first | refine AW.sreg rfl fun K hK => ?_ | refine AW.reg rfl ?_ | refine run_call _ _ _ ((hcz).pure rfl rfl _ _) rfl rfl (dstOk_of rfl) rfl rfl rfl ?_); simp only [go_sem, ↓reduceIte, List.length_map, e1, e3, hset, List.cons_append]) | (refine AW.seq_k fun K hK => ?_) | (refine AW.block ?_) | (refine AW.skip ?_; simp only [Then, InBlock]) | (refine AW.cT ?_) | (refine hK _ ?_; clear hK K) | (with_reducible refine andI ?_))
    exact ⟨(j + 1, A ++ [z], G ++ [z]), ⟨hj, by simp at g2 ⊢; omega, by simp, by simpa using g4⟩, by simp only; omega, (Weak.aC hcx (by refine ⟨?_, ?_, ?_⟩ <;> simp [go_sem, gL, kL, renOf, V.obj, Nat.blt, Nat.ble, List.map_append, dv_push, hzd]))⟩
  ·obtain rfl : j = xs.length := by omega
   simp only [List.drop_length, List.filter_nil, List.append_nil] at g4 hlen
   subst g4
   have hcl : (dv ((A ++ G).map anD)).take (0 + A.length) ++ List.replicate (xs.length - A.length) (V.d (anD ([], 0, [], []))) ++ (dv ((A ++ G).map anD)).drop (0 + A.length + (xs.length - A.length)) = dv (A.map anD ++ List.replicate (xs.length - A.length) (anD ([], 0, [], []))) := by
    rw [List.drop_eq_nil_of_le (by simp [dv]; omega), List.append_nil]
    simp [dv]
   clear hf0 hF
   repeat' (first | (refine AW.sreg rfl fun K hK => ?_; simp only [go_sem, ↓reduceIte, List.length_map, List.drop_length, List.append_nil, hcl]) | (refine AW.seq_k fun K hK => ?_) | (refine AW.exit ?_; simp only [go_sem, ↓reduceIte]) | (refine AW.cF ?_) | (refine hK _ ?_; clear hK K) | (clear hK K; refine hK _ ?_; clear hK K) | (with_reducible refine andI ?_))
   exact AW.ret (Fin.one rfl (by simp [go_sem]) ⟨_, rfl, by simp [go_sem]⟩ rfl (by simp [go_sem]) rfl)

/-- Whether the question of an answer is secret. -/
def scF (sh : List Qu) (a : An) : Bool := match sh[(plF sh a.1).toNat]? with
 | some q => q.2.2.2.2.2
 | none => false
theorem open1_any (sh : List Qu) (hs : sh.length ≤ 1000) (a : An) (ha : ¬ plF sh a.1 < 0) : Does Tryz.prog 128 [.d (anD a), .d (.ptr [.sl (sh.map quD)] 0)] [] (B (scF sh a)) [] := by
 have hpl := place_any sh hs a.1
 obtain ⟨q, hq, hqm, -⟩ := plF_get ha
 have hq2 : (sh.map quD)[(plF sh a.1).toNat]? = some (quD q) := by simp only [List.getElem?_map, hq, Option.map_some]
 have e : scF sh a = q.2.2.2.2.2 := by unfold scF; rw [hq]
 have hnn : 0 ≤ plF sh a.1 := by omega
 rw [e]
 generalize plF sh a.1 = k at *
 refine Does.of_AW (n := 12) Tryz.func128 rfl rfl rfl fun cx hcx => ?_
 repeat' (first | ((first | refine AW.sreg rfl fun K hK => ?_ | refine AW.sregD hmix rfl fun K hK => ?_ | refine runT_call _ _ [] (fun hv _ => (hpl).pure rfl rfl hv _) rfl rfl (dstOk_of rfl) rfl rfl ?_); simp only [go_sem, ↓reduceIte, hq2]) | (refine hK _ ?_; clear hK K) | (with_reducible refine And.intro (?_ : regOk _ _ = true) ?_; kernel_rfl) | (with_reducible refine andI ?_) | (refine AW.ret (Fin.data rfl (by first | (simp only [go_sem]; done) | (simp [go_sem, *]; done) | (simp [go_sem]; omega) | rfl) rfl)))
abbrev zAn : An := ([], 0, [], [])
theorem open_any (sh : List Qu) (hs : sh.length ≤ 1000) (l : List An) (hl : l.length ≤ 1000) (ha : ∀ a ∈ l, ¬ plF sh a.1 < 0) :
  Does Tryz.prog 72 [.d (.sl (sh.map quD)), .slr 0 0 l.length] [.vec 62 4 (dv (l.map anD))] (.slr 0 0 (l.filter fun a => !scF sh a).length) [.vec 62 4 (dv ((l.filter fun a => !scF sh a).map anD ++ List.replicate (l.length - (l.filter fun a => !scF sh a).length) (anD zAn)))] := by
 have hd := deleteFunc_An l hl 128 (.ptr [.sl (sh.map quD)] 0) (scF sh) fun a hm => open1_any sh hs a (ha a hm)
 refine Does.of_AW (n := 8) Tryz.func72 rfl rfl rfl fun cx hcx => ?_
 generalize (l.filter fun a => !scF sh a) = F at *
 refine AW.sreg rfl fun K hK => ?_; simp only [go_sem, ↓reduceIte]
 refine hK _ ?_; (try clear hK K)
 refine AW.weak (?wk : Weak cx _ (⟨8, [(2, .d (.ptr [.sl (sh.map quD)] 0)), (1, .slr 0 0 l.length)], [(0, some (O.vec 62 4 (dv (l.map anD))))], 4⟩ : St)) ?_
 case wk => exact (Weak.aC hcx (by refine ⟨?_, ?_, ?_⟩ <;> simp [go_sem, gL, kL, renOf, V.obj, Nat.blt, Nat.ble, List.map_append, dv_push]))
 repeat' (first | ((first | refine AW.sreg rfl fun K hK => ?_ | refine run_call _ _ _ ((hd).objA [0]) rfl rfl (dstOk_of rfl) rfl rfl rfl ?_); simp only [go_sem, ↓reduceIte, List.length_map]) | (refine hK _ ?_; clear hK K))
 exact AW.ret (Fin.one rfl (by simp [go_sem]) ⟨_, rfl, by simp [go_sem]⟩ rfl (by simp [go_sem]) rfl)
theorem clone_any (r : Rv) (hl : r.2.2.2.2.2.2.length ≤ 1000) : Does Tryz.prog 55 [.d (rvD r)] [] (.agg [I r.1, I r.2.1, S r.2.2.1, S r.2.2.2.1, S r.2.2.2.2.1, B r.2.2.2.2.2.1, .slr 0 0 r.2.2.2.2.2.2.length]) [.vec 62 4 (dv (r.2.2.2.2.2.2.map anD))] := by
 have hc := clone_An r.2.2.2.2.2.2 hl
 refine Does.of_AW (n := 8) Tryz.func55 rfl rfl rfl fun cx hcx => ?_
 repeat' (first | ((first | refine AW.sreg rfl fun K hK => ?_ | refine run_call _ _ _ ((hc).objA []) rfl rfl (dstOk_of rfl) rfl rfl rfl ?_); simp only [go_sem, ↓reduceIte, List.length_map, Nat.reduceSub, Nat.add_zero]) | (refine hK _ ?_; clear hK K))
 exact AW.ret (Fin.objs [256] rfl (by rfl) ⟨⟨_, rfl, by simp [go_sem, inI, gI]⟩, trivial⟩ (by simp) rfl (by simp [go_sem]) (by simp [go_sem]) rfl)
end Go.AX

namespace Go.AX
open Go Go.Proofs Go.RowKit
/-- A review without its answers, and where these are. -/
abbrev El := _root_.Fin 4 × Int × Int × Str × Str × Str × Bool
abbrev elV (rw : Nat → List An) (x : El) : V := .agg [I x.2.1, I x.2.2.1, S x.2.2.2.1, S x.2.2.2.2.1, S x.2.2.2.2.2.1, B x.2.2.2.2.2.2, .slr (1 + x.1.val) 0 (rw x.1.val).length]
abbrev elR (rw : Nat → List An) (x : El) : Rv := (x.2.1, x.2.2.1, x.2.2.2.1, x.2.2.2.2.1, x.2.2.2.2.2.1, x.2.2.2.2.2.2, rw x.1.val)
abbrev rwO (rw : Nat → List An) (k : Nat) : O := .vec 62 4 (dv ((rw k).map anD))
abbrev elOs (rw : Nat → List An) (xs : List El) : List O := [.vec 50 7 (xs.map (elV rw)), rwO rw 0, rwO rw 1, rwO rw 2, rwO rw 3]
theorem frz_el {rw : Nat → List An} {hv : Nat → Option O} {keep : Nat → Bool} {B0 : Nat} (hk : ∀ k : _root_.Fin 4, keep (B0 + k.val) = false) (hh : ∀ k : _root_.Fin 4, hv (B0 + k.val) = some (rwO rw k.val)) (x : El) :
  frz hv keep (.agg [I x.2.1, I x.2.2.1, S x.2.2.2.1, S x.2.2.2.2.1, S x.2.2.2.2.2.1, B x.2.2.2.2.2.2, .slr (B0 + x.1.val) 0 (rw x.1.val).length]) = .d (rvD (elR rw x)) := by
 have h1 : frz hv keep (.slr (B0 + x.1.val) 0 (rw x.1.val).length) = .d (.sl ((rw x.1.val).map anD)) := frz_slr (hk _) (hh _) (by simp)
 rw [frz, frzL, frzL, frzL, frzL, frzL, frzL, frzL, frzL, h1]
 rfl
theorem frzL_appV {hv : Nat → Option O} {keep : Nat → Bool} : ∀ xs ys : List V, frzL hv keep (xs ++ ys) = frzL hv keep xs ++ frzL hv keep ys
 | [], ys => by simp [frzL]
 | x :: r, ys => by simp [frzL, frzL_appV r ys]
theorem belL_app (n : Nat) : ∀ xs ys : List V, belL n (xs ++ ys) = (belL n xs && belL n ys)
 | [], ys => by simp [belL]
 | x :: r, ys => by simp [belL, belL_app n r ys, Bool.and_assoc]
theorem renL_app (g : Nat → Nat) : ∀ xs ys : List V, renL g (xs ++ ys) = renL g xs ++ renL g ys
 | [], ys => by simp [renL]
 | x :: r, ys => by simp [renL, renL_app g r ys]
theorem el_bel (rw : Nat → List An) (n : Nat) (hn : 5 ≤ n) (x : El) : V.bel n (elV rw x) = true := by
 have hx := x.1.isLt
 simp [belL, V.bel]
 omega
theorem el_frz (rw : Nat → List An) (hv : Nat → Option O) (keep : Nat → Bool) (hk : ∀ k : _root_.Fin 4, keep (1 + k.val) = true) (x : El) : frz hv keep (elV rw x) = elV rw x := by
 show frz hv keep (.agg [_, _, _, _, _, _, _]) = _
 rw [frz, frzL, frzL, frzL, frzL, frzL, frzL, frzL, frzL]
 rw [show frz hv keep (.slr (1 + x.1.val) 0 (rw x.1.val).length) = .slr (1 + x.1.val) 0 (rw x.1.val).length by rw [frz, if_pos (hk _)]]
 rfl
theorem el_ren (rw : Nat → List An) (g : Nat → Nat) (hg : ∀ k : _root_.Fin 4, g (1 + k.val) = 1 + k.val) (x : El) : V.ren g (elV rw x) = elV rw x := by
 simp only [V.ren, renL, hg]
theorem els_bel (rw : Nat → List An) (n : Nat) (hn : 5 ≤ n) : ∀ ys : List El, belL n (ys.map (elV rw)) = true
 | [] => rfl
 | x :: r => by rw [List.map_cons, belL, el_bel rw n hn x, els_bel rw n hn r, Bool.and_true]
theorem els_frz (rw : Nat → List An) (hv : Nat → Option O) (keep : Nat → Bool) (hk : ∀ k : _root_.Fin 4, keep (1 + k.val) = true) : ∀ ys : List El, frzL hv keep (ys.map (elV rw)) = ys.map (elV rw)
 | [] => rfl
 | x :: r => by rw [List.map_cons, frzL, el_frz rw hv keep hk x, els_frz rw hv keep hk r]
theorem els_ren (rw : Nat → List An) (g : Nat → Nat) (hg : ∀ k : _root_.Fin 4, g (1 + k.val) = 1 + k.val) : ∀ ys : List El, renL g (ys.map (elV rw)) = ys.map (elV rw)
 | [] => rfl
 | x :: r => by rw [List.map_cons, renL, el_ren rw g hg x, els_ren rw g hg r]
theorem frz_elV {rw : Nat → List An} {hv : Nat → Option O} (hh : ∀ k : _root_.Fin 4, hv (1 + k.val) = some (rwO rw k.val)) (x : El) : frz hv (fun _ => false) (elV rw x) = .d (rvD (elR rw x)) := frz_el (B0 := 1) (fun _ => rfl) hh x
theorem pk5 {hv : Nat → Option O} (h0 : ∃ o, hv 0 = some o) (h1 : ∃ o, hv 1 = some o) (h2 : ∃ o, hv 2 = some o) (h3 : ∃ o, hv 3 = some o) (h4 : ∃ o, hv 4 = some o) : ∀ i, i < 5 → ∃ o, hv i = some o := by
 intro i hi
 match i, hi with
 | 0, _ => exact h0
 | 1, _ => exact h1
 | 2, _ => exact h2
 | 3, _ => exact h3
 | 4, _ => exact h4
theorem insertionSort_El (rw : Nat → List An) (lt : El → El → Bool) (cv : El → El → Int) (hlt : ∀ x y, lt x y = decide (cv x y < 0)) (c : Nat) (hc : ∀ x y, Does Tryz.prog c [.d (rvD (elR rw x)), .d (rvD (elR rw y))] [] (I (cv x y)) []) (xs : List El) (hl : xs.length ≤ 1000) :
  Does Tryz.prog 174 [.slr 0 0 xs.length, I 0, I xs.length, .fn c []] (elOs rw xs) (.tup []) (elOs rw (isort lt xs)) := by
 refine Does.of_AW (n := 53) Tryz.func174 rfl rfl rfl fun cx hcx => ?_
 have hk5 : ∀ k : _root_.Fin 4, kL 5 [] (1 + k.val) = true := fun k => by have := k.isLt; simp [kL]; omega
 have hg5 : ∀ k : _root_.Fin 4, gL [] (1 + k.val) = 1 + k.val := fun k => rfl
 have kb := els_bel rw 512 (by omega)
 have kf := fun hv => els_frz rw hv _ hk5
 have kr := els_ren rw _ hg5
 have kbR : ∀ ys : List El, belL 512 (ys.map (elV rw)).reverse = true := fun ys => by rw [← List.map_reverse]; exact kb _
 have kfR : ∀ hv (ys : List El), frzL hv (kL 5 []) (ys.map (elV rw)).reverse = (ys.map (elV rw)).reverse := fun hv ys => by rw [← List.map_reverse]; exact kf hv _
 have krR : ∀ ys : List El, renL (gL []) (ys.map (elV rw)).reverse = (ys.map (elV rw)).reverse := fun ys => by rw [← List.map_reverse]; exact kr _
 have kb1 : ∀ k : _root_.Fin 4, (1 + k.val ≤ 4) = True := fun k => by have := k.isLt; simp; omega
 have kf1 : ∀ k : _root_.Fin 4, (1 + k.val < 512) = True := fun k => by have := k.isLt; simp; omega
 generalize hR : isort lt xs = R
 repeat' (first | (refine AW.sreg rfl fun K hK => ?_; simp only [go_sem, ↓reduceIte, List.length_map]) | (refine AW.block ?_) | (refine hK _ ?_; clear hK K) | (with_reducible refine andI ?_))
 refine AW.loopF (ι := Nat × List El × List El) [0, 1, 2, 3] (fun p => [(8, I p.1)]) (fun p => [(0, some (O.vec 50 7 ((p.2.1 ++ p.2.2).map (elV rw)))), (1, some (rwO rw 0)), (2, some (rwO rw 1)), (3, some (rwO rw 2)), (4, some (rwO rw 3))]) 8 (fun p => 1 ≤ p.1 ∧ p.2.1.length + p.2.2.length = xs.length ∧ (p.2.1.length = p.1 ∨ xs.length = 0) ∧ isGo lt p.2.1 p.2.2 = R) (fun p => xs.length - p.1) (1, xs.take 1, xs.drop 1) ⟨by simp, by simp only [List.length_take, List.length_drop]; omega, by simp only [List.length_take]; omega, hR⟩ (Weak.aC hcx (by refine ⟨?_, ?_, ?_⟩ <;> simp [go_sem, gL, kL, renOf, V.obj, Nat.blt, Nat.ble, List.map_append, dv_push, kb, kf, kr, kb1, kf1, kbR, kfR, krR, belL_app, frzL_appV, renL_app, belL, frzL, renL, take1_tail]) (hpk := pk5 ⟨_, rfl⟩ ⟨_, rfl⟩ ⟨_, rfl⟩ ⟨_, rfl⟩ ⟨_, rfl⟩)) ?_; simp only [St.at_nil, St.at_cons, lk, Nat.reduceEqDiff, ↓reduceIte, Option.getD_some, Option.getD_none, List.cons_append, List.nil_append, List.append_nil]
 rintro ⟨i, d, r⟩ ⟨h1, h2, h3, h4⟩
 simp only at h1 h2 h3 h4 ⊢
 by_cases hi : i < xs.length
 ·obtain ⟨x, r, rfl⟩ : ∃ x r', r = x :: r' := by
   cases r with
   | nil => simp at h2; omega
   | cons x r' => exact ⟨x, r', rfl⟩
  obtain rfl : i = d.length := by omega
  simp only [isGo] at h4
  repeat' (first | (refine AW.sreg rfl fun K hK => ?_; simp only [go_sem, ↓reduceIte, List.length_map]) | (refine AW.seq_k fun K hK => ?_) | (refine AW.block ?_) | (refine AW.skip ?_; simp only [Then, InBlock]) | (refine AW.cT ?_) | (refine hK _ ?_; clear hK K))
  generalize hR2 : insP lt d.reverse x [] = R2 at h4
  refine AW.loopF (ι := List El × List El) [0, 1, 2, 3, 8] (fun p => [(9, I p.1.length)]) (fun p => [(0, some (O.vec 50 7 ((p.1.reverse ++ x :: (p.2 ++ r)).map (elV rw)))), (1, some (rwO rw 0)), (2, some (rwO rw 1)), (3, some (rwO rw 2)), (4, some (rwO rw 3))]) 8 (fun p => p.1.length + p.2.length = d.length ∧ insP lt p.1 x p.2 = R2) (fun p => p.1.length) (d.reverse, []) ⟨by simp, hR2⟩ (Weak.aC hcx (by refine ⟨?_, ?_, ?_⟩ <;> simp [go_sem, gL, kL, renOf, V.obj, Nat.blt, Nat.ble, List.map_append, dv_push, kb, kf, kr, kb1, kf1, kbR, kfR, krR, belL_app, frzL_appV, renL_app, belL, frzL, renL]) (hpk := pk5 ⟨_, rfl⟩ ⟨_, rfl⟩ ⟨_, rfl⟩ ⟨_, rfl⟩ ⟨_, rfl⟩)) ?_; simp only [St.at_nil, St.at_cons, lk, Nat.reduceEqDiff, ↓reduceIte, Option.getD_some, Option.getD_none, List.cons_append, List.nil_append, List.append_nil]
  rintro ⟨pr, q⟩ ⟨g1, g2⟩
  simp only at g1 g2 ⊢
  rcases pr with _ | ⟨y, pr⟩
  ·simp only [insP] at g2
   subst g2
   simp only [List.length_cons, List.length_nil] at g1 h2
   repeat' (first | ((first | refine AW.sregD hmix rfl fun K hK => ?_ | refine AW.reg rfl ?_); simp only [go_sem, ↓reduceIte, List.length_map]) | (refine AW.seq_k fun K hK => ?_) | (refine AW.exit ?_; simp only [go_sem, ↓reduceIte]) | (refine AW.cF ?_) | (refine hK _ ?_; clear hK K) | (clear hK K; refine hK _ ?_; clear hK K) | (refine stepBT_split (fun h => ?_) (fun h => ?_) <;> (have hb0 := h) <;> (try simp only [Bool.not_eq_true', Bool.not_eq_false'] at hb0) <;> (try simp only [decide_eq_true_eq, decide_eq_false_iff_not, Bool.not_eq_true', Bool.not_eq_false', Bool.not_eq_eq_eq_not, Bool.not_true, Bool.not_false, beq_iff_eq, bne_iff_ne, beq_eq_false_iff_ne, ne_eq, Bool.and_eq_true, Bool.or_eq_true, Bool.or_eq_false_iff] at h) <;> simp only [go_sem, ↓reduceIte, hb0, h, decide_true, decide_false, List.length_map] <;> (try clear hb0)) | (with_reducible refine And.intro (?_ : regOk _ _ = true) ?_; kernel_rfl) | (with_reducible refine andI ?_) | (exfalso; omega))
   exact ⟨(d.length + 1, x :: q, r), ⟨by simp only; omega, by simp only [List.length_cons]; omega, .inl (by simp only [List.length_cons]; omega), h4⟩, by simp only; omega, (Weak.aC hcx (by refine ⟨?_, ?_, ?_⟩ <;> simp [go_sem, gL, kL, renOf, V.obj, Nat.blt, Nat.ble, List.map_append, dv_push, kb, kf, kr, kb1, kf1, kbR, kfR, krR, belL_app, frzL_appV, renL_app, belL, frzL, renL]) (hpk := pk5 ⟨_, rfl⟩ ⟨_, rfl⟩ ⟨_, rfl⟩ ⟨_, rfl⟩ ⟨_, rfl⟩))⟩
  ·have e1 : ((List.reverse (y :: pr) ++ x :: (q ++ r)).map (elV rw))[0 + (pr.length + 1)]? = some (elV rw x) := by
    have := get_mid (List.reverse (y :: pr)) x (q ++ r)
    simp only [List.length_reverse, List.length_cons] at this
    simp only [Nat.zero_add, List.getElem?_map, this, Option.map_some]
   have e2 : ((List.reverse (y :: pr) ++ x :: (q ++ r)).map (elV rw))[0 + pr.length]? = some (elV rw y) := by
    have := get_mid (List.reverse pr) y (x :: (q ++ r))
    simp only [List.length_reverse] at this
    simp only [Nat.zero_add, List.getElem?_map, List.reverse_cons, List.append_assoc, List.cons_append, List.nil_append, this, Option.map_some]
   have e3 : (((pr.length + 1 : Nat) : Int) - 1).toNat = pr.length := by omega
   simp only [List.length_cons] at g1 h2
   simp only [insP, hlt] at g2
   have e4 : ((((List.reverse (y :: pr) ++ x :: (q ++ r)).map (elV rw)).set (0 + (pr.length + 1)) (elV rw y)).set (0 + pr.length) (elV rw x)) = (pr.reverse ++ x :: ((y :: q) ++ r)).map (elV rw) := by
    have := swap_mid (pr.reverse.map (elV rw)) (elV rw x) (elV rw y) ((q ++ r).map (elV rw))
    simp only [List.length_map, List.length_reverse, List.map_append, List.map_cons, List.reverse_cons, List.append_assoc, List.cons_append, List.nil_append, List.map_nil] at this ⊢
    exact this
   have e5 : (((List.reverse (y :: pr) ++ x :: (q ++ r)).map (elV rw)).set (0 + (pr.length + 1)) (elV rw y))[0 + pr.length]? = some (elV rw y) := by
    rw [List.getElem?_set_ne (by omega)]
    exact e2
   repeat' (first | ((first | refine AW.sregD hmix rfl fun K hK => ?_ | refine AW.reg rfl ?_ | refine AW.regD hmix rfl ?_); simp only [go_sem, ↓reduceIte, List.length_map, e1, e2, e3, e4, e5, List.length_cons, or_self, true_or, or_true]) | (refine AW.seq_k fun K hK => ?_) | (refine AW.block ?_) | (refine AW.skip ?_; simp only [Then, InBlock]) | (refine AW.cT ?_) | (refine hK _ ?_; clear hK K) | (refine stepBT_split (fun h => ?_) (fun h => ?_) <;> (have hb0 := h) <;> (try simp only [Bool.not_eq_true', Bool.not_eq_false'] at hb0) <;> (try simp only [decide_eq_true_eq, decide_eq_false_iff_not, Bool.not_eq_true', Bool.not_eq_false', Bool.not_eq_eq_eq_not, Bool.not_true, Bool.not_false, beq_iff_eq, bne_iff_ne, beq_eq_false_iff_ne, ne_eq, Bool.and_eq_true, Bool.or_eq_true, Bool.or_eq_false_iff] at h) <;> simp only [go_sem, ↓reduceIte, hb0, h, decide_true, decide_false, List.length_map, e1, e2, e3, e4, e5, List.length_cons, or_self, true_or, or_true] <;> (try clear hb0)) | (with_reducible refine And.intro (?_ : regOk _ _ = true) ?_; kernel_rfl) | (with_reducible refine andI ?_) | (exfalso; omega))
   refine runT_call _ _ [1, 2, 3, 4] (fun hv hag => (hc x y).lend (frzL_cons (frz_elV (fun k => by obtain ⟨k, hk⟩ := k; match k, hk with | 0, _ => exact (hag 1 (by simp)).trans rfl | 1, _ => exact (hag 2 (by simp)).trans rfl | 2, _ => exact (hag 3 (by simp)).trans rfl | 3, _ => exact (hag 4 (by simp)).trans rfl) x) (frzL_cons (frz_elV (fun k => by obtain ⟨k, hk⟩ := k; match k, hk with | 0, _ => exact (hag 1 (by simp)).trans rfl | 1, _ => exact (hag 2 (by simp)).trans rfl | 2, _ => exact (hag 3 (by simp)).trans rfl | 3, _ => exact (hag 4 (by simp)).trans rfl) y) frzL_nil)) rfl rfl rfl) rfl rfl (dstOk_of rfl) rfl rfl ?_
   simp only [go_sem, ↓reduceIte, List.length_map, e1, e2, e3, e4, e5, List.length_cons, or_self, true_or, or_true]
   repeat' (first | ((first | refine AW.reg rfl ?_ | refine AW.regD hmix rfl ?_); simp only [go_sem, ↓reduceIte, List.length_map, e1, e2, e3, e4, e5, List.length_cons, or_self, true_or, or_true]) | (refine AW.seq_k fun K hK => ?_) | (refine AW.block ?_) | (refine AW.skip ?_; simp only [Then, InBlock]) | (refine AW.exit ?_; simp only [go_sem, ↓reduceIte]) | (refine AW.cond rfl (fun h => ?_) (fun h => ?_) <;> (try simp only [decide_eq_true_eq, decide_eq_false_iff_not, Bool.not_eq_true', Bool.not_eq_false', Bool.not_eq_eq_eq_not, Bool.not_true, Bool.not_false, beq_iff_eq, bne_iff_ne, beq_eq_false_iff_ne, ne_eq, Bool.and_eq_true, Bool.or_eq_true, Bool.or_eq_false_iff] at h)) | (refine hK _ ?_; clear hK K) | (clear hK K; refine hK _ ?_; clear hK K) | (with_reducible refine And.intro (?_ : regOk _ _ = true) ?_; kernel_rfl) | (with_reducible refine andI ?_))
   ·rw [if_pos (by simpa using h)] at g2
    exact ⟨(pr, y :: q), ⟨by simp only [List.length_cons]; omega, g2⟩, by simp only [List.length_cons]; omega, (Weak.aC hcx (by refine ⟨?_, ?_, ?_⟩ <;> simp [go_sem, gL, kL, renOf, V.obj, Nat.blt, Nat.ble, List.map_append, dv_push, kb, kf, kr, kb1, kf1, kbR, kfR, krR, belL_app, frzL_appV, renL_app, belL, frzL, renL]) (hpk := pk5 ⟨_, rfl⟩ ⟨_, rfl⟩ ⟨_, rfl⟩ ⟨_, rfl⟩ ⟨_, rfl⟩))⟩
   ·rw [if_neg (by simpa using h)] at g2
    subst g2
    exact ⟨(d.length + 1, (y :: pr).reverse ++ x :: q, r), ⟨by simp only; omega, by simp only [List.length_append, List.length_reverse, List.length_cons]; omega, .inl (by simp only [List.length_append, List.length_reverse, List.length_cons]; omega), h4⟩, by simp only; omega, (Weak.aC hcx (by refine ⟨?_, ?_, ?_⟩ <;> simp [go_sem, gL, kL, renOf, V.obj, Nat.blt, Nat.ble, List.map_append, dv_push, kb, kf, kr, kb1, kf1, kbR, kfR, krR, belL_app, frzL_appV, renL_app, belL, frzL, renL]) (hpk := pk5 ⟨_, rfl⟩ ⟨_, rfl⟩ ⟨_, rfl⟩ ⟨_, rfl⟩ ⟨_, rfl⟩))⟩
 ·have hr : r = [] := by
   cases r with
   | nil => rfl
   | cons x r => simp only [List.length_cons] at h2; omega
  subst hr
  simp only [isGo] at h4
  subst h4
  repeat' (first | (refine AW.sreg rfl fun K hK => ?_; simp only [go_sem, ↓reduceIte, List.length_map, List.append_nil]) | (refine AW.seq_k fun K hK => ?_) | (refine AW.exit ?_; simp only [go_sem, ↓reduceIte]) | (refine AW.cF ?_) | (refine hK _ ?_; clear hK K))
  have hk0 : ∀ k : _root_.Fin 4, inI [0, 1, 2, 3, 4] (1 + k.val) = true := fun k => by obtain ⟨k, hk⟩ := k; match k, hk with | 0, _ => rfl | 1, _ => rfl | 2, _ => rfl | 3, _ => rfl
  have hg0 : ∀ k : _root_.Fin 4, gI [0, 1, 2, 3, 4] (1 + k.val) = 1 + k.val := fun k => by obtain ⟨k, hk⟩ := k; match k, hk with | 0, _ => rfl | 1, _ => rfl | 2, _ => rfl | 3, _ => rfl
  have kf2 := fun hv => els_frz rw hv _ hk0
  have kr2 := els_ren rw _ hg0
  refine Fin.objs [0, 1, 2, 3, 4] rfl rfl ⟨⟨_, rfl, ?_⟩, ⟨_, rfl, by simp [go_sem, inI, gI]⟩, ⟨_, rfl, by simp [go_sem, inI, gI]⟩, ⟨_, rfl, by simp [go_sem, inI, gI]⟩, ⟨_, rfl, by simp [go_sem, inI, gI]⟩, trivial⟩ (by simp) rfl (by simp [go_sem]) (by simp [go_sem]; exact els_bel rw 5 (Nat.le_refl 5) d) rfl
  simp only [O.frz, O.ren, kf2, kr2]
theorem pdqsort_El (rw : Nat → List An) (lt : El → El → Bool) (cv : El → El → Int) (hlt : ∀ x y, lt x y = decide (cv x y < 0)) (c : Nat) (hc : ∀ x y, Does Tryz.prog c [.d (rvD (elR rw x)), .d (rvD (elR rw y))] [] (I (cv x y)) []) (xs : List El) (hl : xs.length ≤ 12) (m : Int) :
  Does Tryz.prog 124 [.slr 0 0 xs.length, I 0, I xs.length, I m, .fn c []] (elOs rw xs) (.tup []) (elOs rw (isort lt xs)) := by
 refine Does.of_AW (n := 148) Tryz.func124 rfl rfl rfl fun cx hcx => ?_
 have hk5 : ∀ k : _root_.Fin 4, kL 5 [] (1 + k.val) = true := fun k => by have := k.isLt; simp [kL]; omega
 have hg5 : ∀ k : _root_.Fin 4, gL [] (1 + k.val) = 1 + k.val := fun k => rfl
 have kb := els_bel rw 512 (by omega)
 have kf := fun hv => els_frz rw hv _ hk5
 have kr := els_ren rw _ hg5
 have kbR : ∀ ys : List El, belL 512 (ys.map (elV rw)).reverse = true := fun ys => by rw [← List.map_reverse]; exact kb _
 have kfR : ∀ hv (ys : List El), frzL hv (kL 5 []) (ys.map (elV rw)).reverse = (ys.map (elV rw)).reverse := fun hv ys => by rw [← List.map_reverse]; exact kf hv _
 have krR : ∀ ys : List El, renL (gL []) (ys.map (elV rw)).reverse = (ys.map (elV rw)).reverse := fun ys => by rw [← List.map_reverse]; exact kr _
 have kb1 : ∀ k : _root_.Fin 4, (1 + k.val ≤ 4) = True := fun k => by have := k.isLt; simp; omega
 have kf1 : ∀ k : _root_.Fin 4, (1 + k.val < 512) = True := fun k => by have := k.isLt; simp; omega
 repeat' (first | (refine AW.sreg rfl fun K hK => ?_; simp only [go_sem, ↓reduceIte, List.length_map]) | (refine AW.block ?_) | (refine hK _ ?_; clear hK K))
 refine AW.loopF (ι := Unit) [0, 4] (fun p => [(1, I 0), (2, I xs.length), (3, I m), (10, B true), (11, B true)]) (fun p => [(0, some (O.vec 50 7 (xs.map (elV rw)))), (1, some (rwO rw 0)), (2, some (rwO rw 1)), (3, some (rwO rw 2)), (4, some (rwO rw 3))]) 8 (fun p => True) (fun p => 0) () trivial (Weak.aC hcx (by refine ⟨?_, ?_, ?_⟩ <;> simp [go_sem, gL, kL, renOf, V.obj, Nat.blt, Nat.ble, List.map_append, dv_push, kb, kf, kr, kb1, kf1, kbR, kfR, krR, belL_app, frzL_appV, renL_app, belL, frzL, renL]) (hpk := pk5 ⟨_, rfl⟩ ⟨_, rfl⟩ ⟨_, rfl⟩ ⟨_, rfl⟩ ⟨_, rfl⟩)) ?_; simp only [St.at_nil, St.at_cons, lk, Nat.reduceEqDiff, ↓reduceIte, Option.getD_some, Option.getD_none, List.cons_append, List.nil_append, List.append_nil]
 rintro ⟨⟩ _
 have hi := insertionSort_El rw lt cv hlt c hc xs (by omega)
 have hgo : ∀ (nid : Nat) (k : _root_.Fin 4), gOf [0, 1, 2, 3, 4] nid (1 + k.val) = 1 + k.val := fun nid k => by obtain ⟨k, hk⟩ := k; match k, hk with | 0, _ => rfl | 1, _ => rfl | 2, _ => rfl | 3, _ => rfl
 have kgo := fun nid => els_ren rw _ (hgo nid)
 have kb5 := els_bel rw 5 (Nat.le_refl 5)
 repeat' (first | (refine AW.sreg rfl fun K hK => ?_; simp only [go_sem, ↓reduceIte, List.length_map, Int.sub_zero]) | (refine AW.seq_k fun K hK => ?_) | (refine AW.block ?_) | (refine AW.cT ?_) | (refine hK _ ?_; clear hK K) | (with_reducible refine andI ?_))
 refine run_call _ _ _ (hi.robjs [0, 1, 2, 3, 4] ⟨?r0, ?r1, ?r2, ?r3, ?r4, trivial⟩ rfl (by decide) (by simp) (by simp) (by simp [go_sem]) (by simp [go_sem]; exact kb5 _) (by simp [go_sem]) (by simp [go_sem]; exact kb5 _)) rfl rfl (dstOk_of rfl) rfl rfl rfl ?_
 case r0 => simp only [O.ren, kgo]; rfl
 case r1 => simp [go_sem]
 case r2 => simp [go_sem]
 case r3 => simp [go_sem]
 case r4 => simp [go_sem]
 simp only [go_sem, ↓reduceIte, List.length_map, kgo]
 repeat' (first | (refine hK _ ?_; clear hK K))
 have hk0 : ∀ k : _root_.Fin 4, inI [0, 1, 2, 3, 4] (1 + k.val) = true := fun k => by obtain ⟨k, hk⟩ := k; match k, hk with | 0, _ => rfl | 1, _ => rfl | 2, _ => rfl | 3, _ => rfl
 have hg0 : ∀ k : _root_.Fin 4, gI [0, 1, 2, 3, 4] (1 + k.val) = 1 + k.val := fun k => by obtain ⟨k, hk⟩ := k; match k, hk with | 0, _ => rfl | 1, _ => rfl | 2, _ => rfl | 3, _ => rfl
 have kf2 := fun hv => els_frz rw hv _ hk0
 have kr2 := els_ren rw _ hg0
 refine AW.ret (Fin.objs [0, 1, 2, 3, 4] rfl rfl ⟨⟨_, rfl, ?_⟩, ⟨_, rfl, by simp [go_sem, inI, gI]⟩, ⟨_, rfl, by simp [go_sem, inI, gI]⟩, ⟨_, rfl, by simp [go_sem, inI, gI]⟩, ⟨_, rfl, by simp [go_sem, inI, gI]⟩, trivial⟩ (by simp) rfl (by simp [go_sem]) (by simp [go_sem]; exact els_bel rw 5 (Nat.le_refl 5) (isort lt xs)) rfl)
 simp only [O.frz, O.ren, kf2, kr2]
theorem sortFunc_El (rw : Nat → List An) (lt : El → El → Bool) (cv : El → El → Int) (hlt : ∀ x y, lt x y = decide (cv x y < 0)) (c : Nat) (hc : ∀ x y, Does Tryz.prog c [.d (rvD (elR rw x)), .d (rvD (elR rw y))] [] (I (cv x y)) []) (xs : List El) (hl : xs.length ≤ 12) :
  Does Tryz.prog 68 [.slr 0 0 xs.length, .fn c []] (elOs rw xs) (.tup []) (elOs rw (isort lt xs)) := by
 refine Does.of_AW (n := 14) Tryz.func68 rfl rfl rfl fun cx hcx => ?_
 have hw := wrap_small xs.length (by omega)
 have hgo : ∀ (nid : Nat) (k : _root_.Fin 4), gOf [0, 1, 2, 3, 4] nid (1 + k.val) = 1 + k.val := fun nid k => by obtain ⟨k, hk⟩ := k; match k, hk with | 0, _ => rfl | 1, _ => rfl | 2, _ => rfl | 3, _ => rfl
 have kgo := fun nid => els_ren rw _ (hgo nid)
 have kb5 := els_bel rw 5 (Nat.le_refl 5)
 repeat' (first | ((first | refine AW.sreg rfl fun K hK => ?_ | refine AW.reg rfl ?_ | refine run_call _ _ _ ((len_ok xs.length hl).pure rfl rfl _ _) rfl rfl (dstOk_of rfl) rfl rfl rfl ?_); simp only [go_sem, ↓reduceIte, List.length_map, hw]) | (refine hK _ ?_; clear hK K))
 refine run_call _ _ _ ((pdqsort_El rw lt cv hlt c hc xs hl _).robjs [0, 1, 2, 3, 4] ⟨?r0, ?r1, ?r2, ?r3, ?r4, trivial⟩ rfl (by decide) (by simp) (by simp) (by simp [go_sem]) (by simp [go_sem]; exact kb5 _) (by simp [go_sem]) (by simp [go_sem]; exact kb5 _)) rfl rfl (dstOk_of rfl) rfl rfl rfl ?_
 case r0 => simp only [O.ren, kgo]; rfl
 case r1 => simp [go_sem]
 case r2 => simp [go_sem]
 case r3 => simp [go_sem]
 case r4 => simp [go_sem]
 simp only [go_sem, ↓reduceIte, List.length_map, kgo]
 repeat' (first | fail)
 have hk0 : ∀ k : _root_.Fin 4, inI [0, 1, 2, 3, 4] (1 + k.val) = true := fun k => by obtain ⟨k, hk⟩ := k; match k, hk with | 0, _ => rfl | 1, _ => rfl | 2, _ => rfl | 3, _ => rfl
 have hg0 : ∀ k : _root_.Fin 4, gI [0, 1, 2, 3, 4] (1 + k.val) = 1 + k.val := fun k => by obtain ⟨k, hk⟩ := k; match k, hk with | 0, _ => rfl | 1, _ => rfl | 2, _ => rfl | 3, _ => rfl
 have kf2 := fun hv => els_frz rw hv _ hk0
 have kr2 := els_ren rw _ hg0
 refine (Fin.objs [0, 1, 2, 3, 4] rfl rfl ⟨⟨_, rfl, ?_⟩, ⟨_, rfl, by simp [go_sem, inI, gI]⟩, ⟨_, rfl, by simp [go_sem, inI, gI]⟩, ⟨_, rfl, by simp [go_sem, inI, gI]⟩, ⟨_, rfl, by simp [go_sem, inI, gI]⟩, trivial⟩ (by simp) rfl (by simp [go_sem]) (by simp [go_sem]; exact els_bel rw 5 (Nat.le_refl 5) (isort lt xs)) rfl)
 simp only [O.frz, O.ren, kf2, kr2]
end Go.AX

namespace Go.AX
open Go Go.Proofs Go.RowKit
/-- By moment, then by number. -/
def cvV (x y : El) : Int := orI [cmpI x.2.2.1 y.2.2.1, cmpI x.2.1 y.2.1]
theorem view1_any (rw : Nat → List An) (x y : El) : Does Tryz.prog 69 [.d (rvD (elR rw x)), .d (rvD (elR rw y))] [] (I (cvV x y)) [] := by
 have h1 := compare_int x.2.2.1 y.2.2.1
 have h2 := compare_int x.2.1 y.2.1
 have h3 := cmpOr_any [cmpI x.2.2.1 y.2.2.1, cmpI x.2.1 y.2.1] (by simp)
 refine Does.of_AW (n := 17) Tryz.func69 rfl rfl rfl fun cx hcx => ?_
 unfold cvV
 generalize cmpI x.2.2.1 y.2.2.1 = a at *
 generalize cmpI x.2.1 y.2.1 = b at *
 repeat' (first | ((first | refine AW.sreg rfl fun K hK => ?_ | refine AW.sregD hmix rfl fun K hK => ?_ | refine runT_call _ _ [] (fun hv _ => (h1).pure rfl rfl hv _) rfl rfl (dstOk_of rfl) rfl rfl ?_ | refine runT_call _ _ [] (fun hv _ => (h2).pure rfl rfl hv _) rfl rfl (dstOk_of rfl) rfl rfl ?_ | refine runT_call _ _ [832] (fun hv hag => (h3).lend (by repeat' (first | exact frzL_nil | refine frzL_cons (by first | exact frz_d | exact frz_slr rfl ((hag 832 (by simp)).trans rfl) (by first | (simp; done) | (simp; omega) | (simp [*]; done) | fail) | rfl) ?_)) rfl rfl rfl) rfl rfl (dstOk_of rfl) rfl rfl ?_); simp only [go_sem, ↓reduceIte]) | (refine hK _ ?_; clear hK K) | (with_reducible refine And.intro (?_ : regOk _ _ = true) ?_; kernel_rfl) | (refine AW.ret (Fin.data rfl (by first | (simp only [go_sem]; done) | (simp [go_sem, *]; done) | (simp [go_sem]; omega) | rfl) rfl)))
end Go.AX

namespace Go.AX
open Go Go.Proofs Go.RowKit
theorem cfF_mem {ps : List Pa} {ba : List Pr} : ∀ {l : List Pr}, cfF ps ba l = 0 → ∀ c ∈ l, auF ps c.1 c.2 = false
 | [], _, c, hc => by cases hc
 | d :: r, h, c, hc => by
  rw [cfF] at h
  split at h
  ·cases h
  ·rename_i h1
   simp only [Bool.or_eq_true, not_or, Bool.not_eq_true] at h1
   rcases List.mem_cons.1 hc with rfl | hc
   ·exact h1.2
   ·exact cfF_mem h c hc
theorem csF_au {x : Su} (h : csF x = 0) : ∀ c ∈ x.pairs, auF x.papers c.1 c.2 = false := by
 unfold csF at h
 by_cases h0 : goF pasF [] x.papers = 0
 rotate_left
 ·rw [if_pos h0] at h; exact absurd h h0
 rw [if_neg (by simpa using h0), csL] at h
 by_cases h1 : prsF none x.pairs = 0
 rotate_left
 ·rw [if_pos h1] at h; exact absurd h h1
 rw [if_neg (by simpa using h1)] at h
 by_cases h2 : prOk x.papers x.pairs = 0
 rotate_left
 ·rw [if_pos h2] at h; exact absurd h h2
 rw [if_neg (by simpa using h2), csL] at h
 by_cases h3 : prsF none x.barred = 0
 rotate_left
 ·rw [if_pos h3] at h; exact absurd h h3
 rw [if_neg (by simpa using h3)] at h
 by_cases h4 : prOk x.papers x.barred = 0
 rotate_left
 ·rw [if_pos h4] at h; exact absurd h h4
 rw [if_neg (by simpa using h4), csL] at h
 exact cfF_mem h
theorem rise_ndP {xs : List Pr} (h : RiseP xs) : xs.Nodup := by
 unfold RiseP at h
 exact h.imp fun {a b} hab e => by
  subst e
  rw [ltP_irrefl] at hab
  cases hab
theorem four_len {xs : List Pr} (hr : RiseP xs) (hw : ∀ p ∈ xs, p.2 ∈ Wh4) (k : Str) : (xs.filter fun p => decide (p.1 = k)).length ≤ 4 := by
 have hn := (rise_ndP hr).filter (fun p => decide (p.1 = k))
 have h1 : ((xs.filter fun p => decide (p.1 = k)).map (·.2)).Nodup := by
  refine List.pairwise_map.2 (List.Pairwise.imp_of_mem (fun {a b} ha hb hab e => hab ?_) hn)
  have e1 := of_decide_eq_true (List.mem_filter.1 ha).2
  have e2 := of_decide_eq_true (List.mem_filter.1 hb).2
  exact Prod.ext (e1.trans e2.symm) e
 have h2 := h1.length_le_of_subset (l₂ := Wh4) fun y hy => by
  obtain ⟨p, hp, rfl⟩ := List.mem_map.1 hy
  exact hw p (List.mem_filter.1 hp).1
 simpa [Wh4] using h2
abbrev noBy (r : Rv) : Rv := (r.1, r.2.1, r.2.2.1, r.2.2.2.1, [], r.2.2.2.2.2.1, r.2.2.2.2.2.2)
/-- The review that is seen of a pair. -/
def gotF (x : Su) (l : List Rv) (paper : Str) (at_ : Int) (p : Pr) : Option Rv :=
 if p.1 = paper ∧ x.reply ≤ at_ then (lastF (rowG (gvF l) p) at_ true).map noBy else none
def colF (x : Su) (l : List Rv) (paper : Str) (at_ : Int) (ps : List Pr) : List Rv := ps.filterMap (gotF x l paper at_)
theorem colF_le (x : Su) (l : List Rv) (paper : Str) (at_ : Int) : ∀ ps : List Pr, (colF x l paper at_ ps).length ≤ (ps.filter fun p => decide (p.1 = paper)).length
 | [] => by simp [colF]
 | p :: r => by
  have ih := colF_le x l paper at_ r
  unfold colF at ih ⊢
  rw [List.filterMap_cons, List.filter_cons]
  by_cases hp : p.1 = paper
  ·rw [if_pos (decide_eq_true hp)]
   cases gotF x l paper at_ p
   ·simp only [List.length_cons]; omega
   ·simp only [List.length_cons]; omega
  ·have : gotF x l paper at_ p = none := by unfold gotF; rw [if_neg (fun h => hp h.1)]
   rw [this, if_neg (by simpa using hp)]
   exact ih
theorem colF_4 {x : Su} (h : SuR x) (hc : csF x = 0) (l : List Rv) (paper : Str) (at_ : Int) (i : Nat) : (colF x l paper at_ (x.pairs.take i)).length ≤ 4 := by
 refine Nat.le_trans (colF_le x l paper at_ _) ?_
 have hr := (csF_rise hc).2.1
 refine four_len (xs := x.pairs.take i) (List.Pairwise.sublist (List.take_sublist i _) hr) (fun p hp => (h.pairs p (List.mem_of_mem_take hp)).2) paper
theorem colF_step {x : Su} {l : List Rv} {paper : Str} {at_ : Int} {i : Nat} {p : Pr} (h : x.pairs[i]? = some p) : colF x l paper at_ (x.pairs.take (i + 1)) = colF x l paper at_ (x.pairs.take i) ++ (gotF x l paper at_ p).toList := by
 unfold colF
 rw [List.take_add_one, h, Option.toList_some, List.filterMap_append]
 cases hg : gotF x l paper at_ p <;> simp [hg]
theorem lv_au {x : Su} {l : List Rv} {who : Str} {p : Pr} {at_ : Int} (h : auF x.papers p.1 who = true) : lvF x l who p at_ = if x.reply ≤ at_ then 1 else 0 := by
 unfold lvF
 rw [h]
 by_cases hr : x.reply ≤ at_
 ·simp [hr]
 ·simp [hr]
theorem rowGv_mem {l : List Rv} {p : Pr} {r : Rv} (h : r ∈ rowG (gvF l) p) : r ∈ l ∧ rkey r = p := by
 rw [grpF_row] at h
 simp only [List.map_id_fun', id_eq, List.mem_filter, decide_eq_true_eq] at h
 exact h
theorem last_mem {rs : List Rv} {at_ : Int} {dn : Bool} {r : Rv} (h : lastF rs at_ dn = some r) : r ∈ rs ∧ hitD at_ dn r = true := by
 unfold lastF at h
 exact ⟨by simpa using List.mem_of_find?_eq_some h, List.find?_some h⟩
/-- Answers of reviews that are right. -/
theorem asF_place {sh : List Qu} : ∀ {l : List An} {k : Int}, asF sh k l = 0 → ∀ a ∈ l, ¬ plF sh a.1 < 0
 | [], _, _, a, ha => by cases ha
 | b :: r, k, h, a, ha => by
  rw [asF] at h
  by_cases h1 : plF sh b.1 < 0
  ·rw [if_pos h1] at h; cases h
  rw [if_neg h1] at h
  by_cases h2 : plF sh b.1 ≤ k
  ·rw [if_pos h2] at h; cases h
  rw [if_neg h2] at h
  rcases List.mem_cons.1 ha with rfl | ha
  ·exact h1
  ·obtain ⟨q, hq, -, -⟩ := plF_get h1
   simp only [hq] at h
   by_cases h3 : anF q b = 0
   ·rw [if_neg (by simpa using h3)] at h
    exact asF_place h a ha
   ·rw [if_pos h3] at h
    exact absurd h h3
theorem chF_at {x : Su} {l : List Rv} (h : chF x l = 0) {r : Rv} (hr : r ∈ l) : ∃ bs, rvF x bs r = 0 := by
 unfold chF at h
 by_cases h0 : csF x = 0
 rotate_left
 ·rw [if_pos h0] at h; exact absurd h h0
 rw [if_neg (by simpa using h0)] at h
 obtain ⟨i, hi⟩ := List.mem_iff_getElem?.1 hr
 have : ∀ (r b : List Rv), goF (rvF x) b r = 0 → ∀ i y, r[i]? = some y → rvF x (b ++ r.take i) y = 0 := by
  intro r
  induction r with
  | nil => intro b _ i y hy; simp at hy
  | cons p r ih =>
   intro b hb i y hy
   rw [goF] at hb
   split at hb
   ·exact absurd hb (by assumption)
   ·rename_i h1
    cases i with
    | zero =>
     simp only [List.getElem?_cons_zero, Option.some.injEq] at hy
     subst hy
     simpa using h1
    | succ i =>
     have := ih _ hb i y (by simpa using hy)
     simpa using this
 exact ⟨_, this l [] h i r hi⟩
theorem rvF_ans {x : Su} {bs : List Rv} {r : Rv} (h : rvF x bs r = 0) : ∀ a ∈ r.2.2.2.2.2.2, ¬ plF x.sheet a.1 < 0 := by
 unfold rvF at h
 repeat' (split at h; · first | cases h | exact absurd h (by assumption))
 all_goals
  rename_i h1 _
  exact asF_place (by simpa using h1)
theorem chF_ans {x : Su} {l : List Rv} (h : chF x l = 0) {r : Rv} (hr : r ∈ l) : ∀ a ∈ r.2.2.2.2.2.2, ¬ plF x.sheet a.1 < 0 := by
 obtain ⟨bs, hb⟩ := chF_at h hr
 exact rvF_ans hb
end Go.AX

namespace Go.AX
open Go Go.Proofs Go.RowKit
def It4 : List Str := [[49], [50], [51], [52]]
theorem itoa4 : ∀ i, i < 4 → Does Tryz.prog 34 [I ((i : Nat) + 1)] [] (S (It4.getD i [])) [] := by
 have h : (List.range 4).all (fun (n : Nat) => evalsTo Tryz.prog (CS Tryz.prog) 34 [I ((n : Int) + 1)] (S (It4.getD n []))) = true := by kernel_rfl
 exact fun i hi => evalsTo_ok CS_ok hmix (List.all_eq_true.1 h i (List.mem_range.2 hi))
def elL (L : List Rv) : List El := L.zipIdx.map fun y => (Fin.ofNat 4 y.2, y.1.1, y.1.2.1, y.1.2.2.1, y.1.2.2.2.1, y.1.2.2.2.2.1, y.1.2.2.2.2.2.1)
abbrev rwL (L : List Rv) (k : Nat) : List An := (L.getD k zRv).2.2.2.2.2.2
/-- A review whose answers lie at a number that G says. -/
abbrev elG (G : Nat → Nat) (rw : Nat → List An) (x : El) : V := .agg [I x.2.1, I x.2.2.1, S x.2.2.2.1, S x.2.2.2.2.1, S x.2.2.2.2.2.1, B x.2.2.2.2.2.2, .slr (G x.1.val) 0 (rw x.1.val).length]
abbrev G4 (k : Nat) : Nat := 2688 + 64 * k
abbrev spL (L : List Rv) : List V := (elL L).map (elG G4 (rwL L))
theorem sp_bel (L : List Rv) (n : Nat) (hn : 2881 ≤ n) : ∀ xs : List El, belL n (xs.map (elG G4 (rwL L))) = true
 | [] => rfl
 | x :: r => by
  have hx := x.1.isLt
  rw [List.map_cons, belL, sp_bel L n hn r, Bool.and_true]
  simp [belL, V.bel, G4]
  omega
theorem sp_frz (L : List Rv) (hv : Nat → Option O) (keep : Nat → Bool) (hk : ∀ k : _root_.Fin 4, keep (G4 k.val) = true) : ∀ xs : List El, frzL hv keep (xs.map (elG G4 (rwL L))) = xs.map (elG G4 (rwL L))
 | [] => rfl
 | x :: r => by
  rw [List.map_cons, frzL, sp_frz L hv keep hk r]
  refine congrArg (· :: _) ?_
  show frz hv keep (.agg [_, _, _, _, _, _, _]) = _
  rw [frz, frzL, frzL, frzL, frzL, frzL, frzL, frzL, frzL]
  rw [show frz hv keep (.slr (G4 x.1.val) 0 (rwL L x.1.val).length) = .slr (G4 x.1.val) 0 (rwL L x.1.val).length by rw [frz, if_pos (hk _)]]
  rfl
theorem sp_ren (L : List Rv) (g : Nat → Nat) (hg : ∀ k : _root_.Fin 4, g (G4 k.val) = G4 k.val) : ∀ xs : List El, renL g (xs.map (elG G4 (rwL L))) = xs.map (elG G4 (rwL L))
 | [] => rfl
 | x :: r => by
  rw [List.map_cons, renL, sp_ren L g hg r]
  refine congrArg (· :: _) ?_
  simp only [V.ren, renL, hg]
abbrev agR (n : Nat) (r : Rv) : V := .agg [I r.1, I r.2.1, S r.2.2.1, S r.2.2.2.1, S r.2.2.2.2.1, B r.2.2.2.2.2.1, .slr n 0 r.2.2.2.2.2.2.length]
theorem spL1 (a : Rv) : spL [a] = [agR 2688 a] := rfl
theorem spL2 (a b : Rv) : spL [a, b] = [agR 2688 a, agR 2752 b] := rfl
theorem spL3 (a b c : Rv) : spL [a, b, c] = [agR 2688 a, agR 2752 b, agR 2816 c] := rfl
theorem spL4 (a b c d : Rv) : spL [a, b, c, d] = [agR 2688 a, agR 2752 b, agR 2816 c, agR 2880 d] := rfl
theorem spL0 : spL [] = [] := rfl
theorem rwL0 (k : Nat) : rwL [] k = [] := rfl
theorem spL_len (L : List Rv) : (spL L).length = L.length := by simp [elL]
theorem elL_len (L : List Rv) : (elL L).length = L.length := by simp [elL]
theorem sp_go (L : List Rv) (nid : Nat) : ∀ xs : List El, renL (gOf [2624, 2688, 2752, 2816, 2880] nid) (xs.map (elV (rwL L))) = xs.map (elG G4 (rwL L))
 | [] => rfl
 | x :: r => by
  rw [List.map_cons, renL, sp_go L nid r]
  refine congrArg (· :: _) ?_
  obtain ⟨⟨k, hk⟩, y⟩ := x
  match k, hk with
  | 0, _ => rfl
  | 1, _ => rfl
  | 2, _ => rfl
  | 3, _ => rfl
/-- The answers that authors see. -/
def opF (x : Su) (l : List An) : List An := l.filter fun a => !scF x.sheet a
def rdN (j : Nat) : Str := [114, 101, 97, 100, 101, 114, 45] ++ It4.getD j []
/-- A review as authors see it. -/
def newR (x : Su) (L : List Rv) (q : El × Nat) : Rv := (0, q.1.2.2.1, q.1.2.2.2.1, rdN q.2, q.1.2.2.2.2.2.1, q.1.2.2.2.2.2.2, opF x (rwL L q.1.1.val))
abbrev newV (x : Su) (L : List Rv) (q : El × Nat) : V := .agg [I 0, I q.1.2.2.1, S q.1.2.2.2.1, S (rdN q.2), S q.1.2.2.2.2.2.1, B q.1.2.2.2.2.2.2, .slr (G4 q.1.1.val) 0 (opF x (rwL L q.1.1.val)).length]
def rowW (x : Su) (L : List Rv) (d : List El) (k : Nat) : List D := if k ∈ d.map (fun y => y.1.val) then (opF x (rwL L k)).map anD ++ List.replicate ((rwL L k).length - (opF x (rwL L k)).length) (anD zAn) else (rwL L k).map anD
/-- What authors see of a paper. -/
def vwF (x : Su) (l : List Rv) (paper : Str) (at_ : Int) : List Rv := (isort (fun x y => decide (cvV x y < 0)) (elL (colF x l paper at_ x.pairs))).zipIdx.map (newR x (colF x l paper at_ x.pairs))
def IsG (v : V) : Prop := ∃ (a b : Int) (c d e : Str) (f : Bool) (k : _root_.Fin 4) (n : Nat), v = .agg [I a, I b, S c, S d, S e, B f, .slr (G4 k.val) 0 n]
theorem isG_bel {n : Nat} (hn : 2881 ≤ n) : ∀ {xs : List V}, (∀ v ∈ xs, IsG v) → belL n xs = true
 | [], _ => rfl
 | x :: r, h => by
  obtain ⟨a, b, c, d, e, f, k, m, rfl⟩ := h x (List.mem_cons_self ..)
  have hk := k.isLt
  rw [belL, isG_bel hn fun v hv => h v (List.mem_cons_of_mem _ hv), Bool.and_true]
  simp [belL, V.bel, G4]
  omega
theorem isG_frz {hv : Nat → Option O} {keep : Nat → Bool} (hk : ∀ k : _root_.Fin 4, keep (G4 k.val) = true) : ∀ {xs : List V}, (∀ v ∈ xs, IsG v) → frzL hv keep xs = xs
 | [], _ => rfl
 | x :: r, h => by
  obtain ⟨a, b, c, d, e, f, k, m, rfl⟩ := h x (List.mem_cons_self ..)
  rw [frzL, isG_frz hk fun v hv => h v (List.mem_cons_of_mem _ hv)]
  refine congrArg (· :: _) ?_
  rw [frz, frzL, frzL, frzL, frzL, frzL, frzL, frzL, frzL]
  rw [show frz hv keep (.slr (G4 k.val) 0 m) = .slr (G4 k.val) 0 m by rw [frz, if_pos (hk _)]]
  rfl
theorem isG_ren {g : Nat → Nat} (hg : ∀ k : _root_.Fin 4, g (G4 k.val) = G4 k.val) : ∀ {xs : List V}, (∀ v ∈ xs, IsG v) → renL g xs = xs
 | [], _ => rfl
 | x :: r, h => by
  obtain ⟨a, b, c, d, e, f, k, m, rfl⟩ := h x (List.mem_cons_self ..)
  rw [renL, isG_ren hg fun v hv => h v (List.mem_cons_of_mem _ hv)]
  refine congrArg (· :: _) ?_
  simp only [V.ren, renL, hg]
theorem isG_spW (x : Su) (L : List Rv) (d : List (El × Nat)) (r : List El) : ∀ v ∈ d.map (newV x L) ++ r.map (elG G4 (rwL L)), IsG v := by
 intro v hv
 rcases List.mem_append.1 hv with hv | hv
 ·obtain ⟨q, -, rfl⟩ := List.mem_map.1 hv
  exact ⟨_, _, _, _, _, _, _, _, rfl⟩
 ·obtain ⟨q, -, rfl⟩ := List.mem_map.1 hv
  exact ⟨_, _, _, _, _, _, _, _, rfl⟩
theorem col_mem {x : Su} {l : List Rv} {paper : Str} {at_ : Int} {ps : List Pr} {r : Rv} (h : r ∈ colF x l paper at_ ps) : x.reply ≤ at_ ∧ ∃ r0 ∈ l, r = noBy r0 ∧ r0.2.2.1 = paper ∧ r0.2.2.2.2.2.1 = true := by
 unfold colF at h
 obtain ⟨p, hp, hg⟩ := List.mem_filterMap.1 h
 unfold gotF at hg
 by_cases hc : p.1 = paper ∧ x.reply ≤ at_
 ·rw [if_pos hc] at hg
  obtain ⟨r0, h0, rfl⟩ := Option.map_eq_some_iff.1 hg
  obtain ⟨h1, h2⟩ := last_mem h0
  obtain ⟨h3, h4⟩ := rowGv_mem h1
  refine ⟨hc.2, r0, h3, rfl, ?_, ?_⟩
  ·rw [← hc.1, ← h4]
  ·unfold hitD at h2
   simpa using (Bool.and_eq_true_iff.1 h2).2
 ·rw [if_neg hc] at hg
  cases hg
theorem rwL_mem {L : List Rv} {k : Nat} : rwL L k = [] ∨ ∃ r ∈ L, rwL L k = r.2.2.2.2.2.2 := by
 unfold rwL
 cases h : L[k]? with
 | none => left; rw [List.getD_eq_getElem?_getD, h]; rfl
 | some r => right; exact ⟨r, List.mem_of_getElem? h, by rw [List.getD_eq_getElem?_getD, h]; rfl⟩
theorem elL_nd {L : List Rv} (h : L.length ≤ 4) : ((elL L).map fun y => y.1.val).Nodup := by
 rcases L with _ | ⟨a, _ | ⟨b, _ | ⟨c, _ | ⟨d, _ | ⟨e, L⟩⟩⟩⟩⟩
 ·exact List.nodup_nil
 ·exact (by decide : [0].Nodup)
 ·exact (by decide : [0, 1].Nodup)
 ·exact (by decide : [0, 1, 2].Nodup)
 ·exact (by decide : [0, 1, 2, 3].Nodup)
 ·simp at h
theorem toD_row {hv : Nat → Option O} {keep : Nat → Bool} {id e s n : Nat} {xs ys : List D} (hk : keep id = false) (h : hv id = some (.vec e s (dv (xs ++ ys)))) : toD hv keep (n + 3) (.slr id 0 xs.length) = some (.sl xs) := by
 have hle : xs.length ≤ xs.length + ys.length := Nat.le_add_right _ _
 have htk : (dv (xs ++ ys)).take xs.length = dv xs := by
  rw [show dv (xs ++ ys) = dv xs ++ dv ys by simp [dv]]
  exact List.take_left' (by simp [dv])
 rw [toD]
 simp only [hk, Bool.false_eq_true, if_false, h, dv_length, List.length_append, Nat.zero_add, hle, if_true, List.drop_zero, htk]
 rw [show toDL (toD hv keep (n + 2)) (dv xs) = some xs from toDL_dv hv keep (n + 1) xs]
theorem toD_el {hv : Nat → Option O} {keep : Nat → Bool} {n : Nat} {x : Su} {L : List Rv} {d : List El} (hk : ∀ k : _root_.Fin 4, keep (G4 k.val) = false) (hr : ∀ k : _root_.Fin 4, hv (G4 k.val) = some (.vec 62 4 (dv (rowW x L d k.val)))) {q : El × Nat} (hq : q.1 ∈ d) : toD hv keep (n + 4) (newV x L q) = some (rvD (newR x L q)) := by
 have h0 : rowW x L d q.1.1.val = (opF x (rwL L q.1.1.val)).map anD ++ List.replicate ((rwL L q.1.1.val).length - (opF x (rwL L q.1.1.val)).length) (anD zAn) := by
  unfold rowW
  rw [if_pos (List.mem_map.2 ⟨q.1, hq, rfl⟩)]
 have h1 : toD hv keep (n + 3) (.slr (G4 q.1.1.val) 0 (opF x (rwL L q.1.1.val)).length) = some (.sl ((opF x (rwL L q.1.1.val)).map anD)) := by
  have := toD_row (n := n) (hk q.1.1) (h0 ▸ hr q.1.1)
  rwa [List.length_map] at this
 rw [toD]
 have hd : ∀ y : D, toD hv keep (n + 3) (.d y) = some y := fun _ => rfl
 simp only [toDL, hd, h1]
 rfl
theorem toDL_vw {hv : Nat → Option O} {keep : Nat → Bool} {n : Nat} {x : Su} {L : List Rv} {d : List El} (hk : ∀ k : _root_.Fin 4, keep (G4 k.val) = false) (hr : ∀ k : _root_.Fin 4, hv (G4 k.val) = some (.vec 62 4 (dv (rowW x L d k.val)))) : ∀ {qs : List (El × Nat)}, (∀ q ∈ qs, q.1 ∈ d) → toDL (toD hv keep (n + 4)) (qs.map (newV x L)) = some ((qs.map (newR x L)).map rvD)
 | [], _ => rfl
 | q :: qs, h => by
  rw [List.map_cons, toDL, toD_el hk hr (h q (List.mem_cons_self ..)), toDL_vw hk hr fun q hq => h q (List.mem_cons_of_mem _ hq)]
  rfl
theorem frz_view {hv : Nat → Option O} {keep : Nat → Bool} {x : Su} {L : List Rv} {d : List El} (hk0 : keep 2624 = false) (hk : ∀ k : _root_.Fin 4, keep (G4 k.val) = false) (h0 : hv 2624 = some (.vec 50 7 (d.zipIdx.map (newV x L)))) (hr : ∀ k : _root_.Fin 4, hv (G4 k.val) = some (.vec 62 4 (dv (rowW x L d k.val)))) {m : Nat} (hm : m = d.length) : frz hv keep (.slr 2624 0 m) = .d (.sl ((d.zipIdx.map (newR x L)).map rvD)) := by
 subst hm
 have hln : (d.zipIdx.map (newV x L)).length = d.length := by simp
 have e : toD hv keep 8 (.slr 2624 0 d.length) = some (.sl ((d.zipIdx.map (newR x L)).map rvD)) := by
  rw [toD]
  have h1 : 0 + d.length ≤ (d.zipIdx.map (newV x L)).length := by rw [hln]; omega
  have h2 : (d.zipIdx.map (newV x L)).take d.length = d.zipIdx.map (newV x L) := List.take_of_length_le (by rw [hln]; exact Nat.le_refl _)
  have h3 := toDL_vw (n := 3) hk hr (qs := d.zipIdx) fun q hq => List.fst_mem_of_mem_zipIdx hq
  simp only [hk0, Bool.false_eq_true, if_false, h0, h1, if_true, List.drop_zero, h2, h3]
 simp only [frz, hk0, Bool.false_eq_true, if_false, e]
theorem viewA_any {x : Su} (h : SuR x) (l : List Rv) (hl : l.length ≤ 20) (hb : ∀ r ∈ l, RvB r) (hc : chF x l = 0) {who : Str} (hw : keyB who = true) (hwl : who.length ≤ 1000) {paper : Str} (hpa : (pOf x.papers paper).isSome = true) (hau : auF x.papers paper who = true) {at_ : Int} (ha : momB at_ = true) :
  Does Tryz.prog 20 [.d (suD x), .d (.sl (l.map rvD)), S who, S paper, I at_] [] (.tup [.d (.sl ((vwF x l paper at_).map rvD)), I 0]) [] := by
 have hcs : csF x = 0 := by
  unfold chF at hc
  by_cases h0 : csF x = 0
  ·exact h0
  ·rw [if_pos h0] at hc; exact absurd hc h0
 obtain ⟨r1, r2, r3⟩ := csF_rise hcs
 have hql := h.qlen
 have hch := check_any h l (by omega) hb
 rw [hc] at hch
 have hk := isKey_any who (by omega)
 rw [hw] at hk
 have hpo := paperOf_any x.papers (by have := h.plen; omega) r1 paper
 rw [hpa] at hpo
 have hm := isMoment_any at_
 rw [show (decide (0 ≤ at_) && decide (at_ < 5761440)) = true from ha] at hm
 have hbo := bookOf_any x l hl
 have hia := isAuthor_any x (by have := h.plen; omega) (fun p hp => by have := (h.papers p hp).1.aul; omega) r1 paper who
 rw [hau] at hia
 generalize (pOf x.papers paper).getD zPa = zp at hpo
 refine Does.of_AW (n := 131) Tryz.func20 rfl rfl rfl fun cx hcx => ?_
 repeat' (first | ((first | refine AW.sreg rfl fun K hK => ?_ | refine run_call _ _ _ ((hch).pure rfl rfl _ _) rfl rfl (dstOk_of rfl) rfl rfl rfl ?_ | refine run_call _ _ _ ((hk).pure rfl rfl _ _) rfl rfl (dstOk_of rfl) rfl rfl rfl ?_ | refine run_call _ _ _ ((hpo).pure rfl rfl _ _) rfl rfl (dstOk_of rfl) rfl rfl rfl ?_ | refine run_call _ _ _ ((hm).pure rfl rfl _ _) rfl rfl (dstOk_of rfl) rfl rfl rfl ?_ | refine run_call _ _ _ ((hbo).pure rfl rfl _ _) rfl rfl (dstOk_of rfl) rfl rfl rfl ?_ | refine run_call _ _ _ ((hia).pure rfl rfl _ _) rfl rfl (dstOk_of rfl) rfl rfl rfl ?_); simp only [go_sem, ↓reduceIte, List.length_map]) | (refine AW.seq_k fun K hK => ?_) | (refine AW.block ?_) | (refine AW.skip ?_; simp only [Then, InBlock]) | (refine AW.cF ?_) | (refine hK _ ?_; clear hK K))
 refine AW.weak (Weak.nil 16 50 7 rfl) ?_
 refine AW.weak (Weak.dummy 62 4) ?_
 refine AW.weak (Weak.dummy 62 4) ?_
 refine AW.weak (Weak.dummy 62 4) ?_
 refine AW.weak (Weak.dummy 62 4) ?_
 simp only [Nat.reduceMul, Nat.reduceAdd]
 refine AW.loopF (ι := Nat × List Rv) [2, 3, 4, 5, 15, 17, 53, 54] (fun p => [(16, .slr 2624 0 p.2.length), (55, I p.1)]) (fun p => [(0, some (O.box 31 (suV x))), (2624, some (O.vec 50 7 (spL p.2))), (2688, some (rwO (rwL p.2) 0)), (2752, some (rwO (rwL p.2) 1)), (2816, some (rwO (rwL p.2) 2)), (2880, some (rwO (rwL p.2) 3))]) 46 (fun p => p.1 ≤ x.pairs.length ∧ p.2 = colF x l paper at_ (x.pairs.take p.1)) (fun p => x.pairs.length - p.1) (0, []) ⟨Nat.zero_le _, rfl⟩ (Weak.oC hcx [(0, 0), (2624, 2624), (2688, 2688), (2752, 2752), (2816, 2816), (2880, 2880)] (by refine ⟨?_, ?_, ?_⟩ <;> simp [go_sem, gL, kL, List.map_append, dv_push, spL0, rwL0, dv])) ?_; simp only [St.at_nil, St.at_cons, lk, Nat.reduceEqDiff, ↓reduceIte, Option.getD_some, Option.getD_none, List.cons_append, List.nil_append, List.append_nil]
 rintro ⟨i, L⟩ ⟨h1, h2⟩
 dsimp only at h1 h2 ⊢
 have hL4 : L.length ≤ 4 := h2 ▸ colF_4 h hcs l paper at_ i
 have kb : belL 2944 (spL L) = true := sp_bel L 2944 (by omega) (elL L)
 have kf := fun hv => sp_frz L hv (kL 0 [(0, 0), (2624, 2624), (2688, 2688), (2752, 2752), (2816, 2816), (2880, 2880)]) (fun k => by obtain ⟨k, hk⟩ := k; match k, hk with | 0, _ => rfl | 1, _ => rfl | 2, _ => rfl | 3, _ => rfl) (elL L)
 have kr := sp_ren L (gL [(0, 0), (2624, 2624), (2688, 2688), (2752, 2752), (2816, 2816), (2880, 2880)]) (fun k => by obtain ⟨k, hk⟩ := k; match k, hk with | 0, _ => rfl | 1, _ => rfl | 2, _ => rfl | 3, _ => rfl) (elL L)
 by_cases hi : i < x.pairs.length
 rotate_left
 ·obtain rfl : i = x.pairs.length := by omega
  rw [List.take_length] at h2
  have hso := sortFunc_El (rwL L) (fun x y => decide (cvV x y < 0)) cvV (fun _ _ => rfl) 69 (view1_any (rwL L)) (elL L) (by rw [elL_len]; omega)
  rw [elL_len] at hso
  have hyp := isort_perm (fun x y => decide (cvV x y < 0)) (elL L)
  generalize hys : isort (fun x y => decide (cvV x y < 0)) (elL L) = ys at hso hyp
  repeat' (first | (refine AW.sreg rfl fun K hK => ?_; simp only [go_sem, ↓reduceIte, List.length_map]) | (refine AW.seq_k fun K hK => ?_) | (refine AW.skip ?_; simp only [Then, InBlock]) | (refine AW.exit ?_; simp only [go_sem, ↓reduceIte]) | (refine AW.cF ?_) | (refine hK _ ?_; clear hK K) | (clear hK K; refine hK _ ?_; clear hK K))
  refine run_call _ _ _ (hso.robjs [2624, 2688, 2752, 2816, 2880] ⟨?r0, ?r1, ?r2, ?r3, ?r4, trivial⟩ rfl (by decide) (by simp) (by simp) (by simp [go_sem]) (by simp [go_sem]; exact els_bel _ 5 (Nat.le_refl 5) _) (by simp [go_sem]) (by simp [go_sem]; exact els_bel _ 5 (Nat.le_refl 5) _)) rfl rfl (dstOk_of rfl) rfl rfl rfl ?_
  case r0 => simp only [O.ren, sp_go]; rfl
  case r1 => simp [go_sem]
  case r2 => simp [go_sem]
  case r3 => simp [go_sem]
  case r4 => simp [go_sem]
  simp only [go_sem, ↓reduceIte, List.length_map, sp_go]
  repeat' (first | (refine AW.sreg rfl fun K hK => ?_; simp only [go_sem, ↓reduceIte, List.length_map]) | (refine AW.seq_k fun K hK => ?_) | (refine AW.block ?_) | (refine hK _ ?_; clear hK K))
  have hyl : ys.length = L.length := by rw [hyp.length_eq, elL_len]
  have hnd : (ys.map fun y => y.1.val).Nodup := (hyp.map _).nodup_iff.2 (elL_nd hL4)
  have hrw : ∀ k, (rwL L k).length ≤ 1000 ∧ ∀ a ∈ rwL L k, ¬ plF x.sheet a.1 < 0 := by
   intro k
   rcases rwL_mem (L := L) (k := k) with e | ⟨r, hr, e⟩
   ·rw [e]; exact ⟨by simp, by simp⟩
   ·rw [e]
    obtain ⟨-, r0, h0, rfl, -⟩ := col_mem (h2 ▸ hr)
    exact ⟨by have := (hb r0 h0).al; simp only; omega, fun a ha => chF_ans hc h0 a ha⟩
  have hks : ∀ k : _root_.Fin 4, kL 0 [(0, 0), (2624, 2624), (2688, 2688), (2752, 2752), (2816, 2816), (2880, 2880)] (G4 k.val) = true := (fun k => by obtain ⟨k, hk⟩ := k; match k, hk with | 0, _ => rfl | 1, _ => rfl | 2, _ => rfl | 3, _ => rfl)
  have hgs : ∀ k : _root_.Fin 4, gL [(0, 0), (2624, 2624), (2688, 2688), (2752, 2752), (2816, 2816), (2880, 2880)] (G4 k.val) = G4 k.val := (fun k => by obtain ⟨k, hk⟩ := k; match k, hk with | 0, _ => rfl | 1, _ => rfl | 2, _ => rfl | 3, _ => rfl)
  have kb1 : belL 3456 (ys.map (elG G4 (rwL L))) = true := sp_bel L 3456 (by omega) ys
  have kf1 := fun hv => sp_frz L hv (kL 0 [(0, 0), (2624, 2624), (2688, 2688), (2752, 2752), (2816, 2816), (2880, 2880)]) hks ys
  have kr1 := sp_ren L (gL [(0, 0), (2624, 2624), (2688, 2688), (2752, 2752), (2816, 2816), (2880, 2880)]) hgs ys
  refine AW.loopF (ι := List El × List El) [5, 16, 101] (fun p => [(102, I p.1.length)]) (fun p => [(0, some (O.box 31 (suV x))), (2624, some (O.vec 50 7 (p.1.zipIdx.map (newV x L) ++ p.2.map (elG G4 (rwL L))))), (2688, some (O.vec 62 4 (dv (rowW x L p.1 0)))), (2752, some (O.vec 62 4 (dv (rowW x L p.1 1)))), (2816, some (O.vec 62 4 (dv (rowW x L p.1 2)))), (2880, some (O.vec 62 4 (dv (rowW x L p.1 3))))]) 54 (fun p => p.1 ++ p.2 = ys) (fun p => p.2.length) ([], ys) rfl (Weak.oC hcx [(0, 0), (2624, 2624), (2688, 2688), (2752, 2752), (2816, 2816), (2880, 2880)] (by refine ⟨?_, ?_, ?_⟩ <;> simp [go_sem, gL, kL, List.map_append, dv_push, rowW, kb1, kf1, kr1])) ?_; simp only [St.at_nil, St.at_cons, lk, Nat.reduceEqDiff, ↓reduceIte, Option.getD_some, Option.getD_none, List.cons_append, List.nil_append, List.append_nil]
  rintro ⟨d, r⟩ g1
  dsimp only at g1 ⊢
  rcases r with _ | ⟨y, r⟩
  ·rw [List.append_nil] at g1
   subst g1
   repeat' (first | (refine AW.sreg rfl fun K hK => ?_; simp only [go_sem, ↓reduceIte, hyl]) | (refine AW.seq_k fun K hK => ?_) | (refine AW.exit ?_; simp only [go_sem, ↓reduceIte]) | (refine AW.cF ?_) | (refine hK _ ?_; clear hK K) | (clear hK K; refine hK _ ?_; clear hK K))
   have hvw : vwF x l paper at_ = d.zipIdx.map (newR x L) := by unfold vwF; rw [← h2, hys]
   rw [hvw]
   refine AW.ret (Fin.data rfl ((frz_ok2 (frz_view rfl (fun _ => rfl) rfl (fun k => ?_) hyl.symm) 0).trans rfl) rfl)
   obtain ⟨k, hk⟩ := k
   match k, hk with
   | 0, _ => rfl
   | 1, _ => rfl
   | 2, _ => rfl
   | 3, _ => rfl
  ·have hnk : y.1.val ∉ d.map (fun y => y.1.val) := by
    rw [← g1, List.map_append, List.map_cons, List.nodup_append] at hnd
    exact fun hm => hnd.2.2 _ hm _ (List.mem_cons_self ..) rfl
   have hdl : d.length < L.length := by rw [← hyl, ← g1]; simp
   have hit := itoa4 d.length (by omega)
   have hi4 : (It4.getD d.length []).length ≤ 1 := (show ∀ i, i < 4 → (It4.getD i []).length ≤ 1 by decide) _ (by omega)
   have hrd : rdN d.length = [114, 101, 97, 100, 101, 114, 45] ++ It4.getD d.length [] := rfl
   have hi5 := hrw y.1.val
   have hw : ∀ k', k' ≠ y.1.val → rowW x L (d ++ [y]) k' = rowW x L d k' := by
    intro k' hk'
    unfold rowW
    simp only [List.map_append, List.mem_append, List.map_cons, List.map_nil, List.mem_singleton, hk', or_false]
   have hw0 : rowW x L d y.1.val = (rwL L y.1.val).map anD := by unfold rowW; rw [if_neg hnk]
   have hw1 : rowW x L (d ++ [y]) y.1.val = (opF x (rwL L y.1.val)).map anD ++ List.replicate ((rwL L y.1.val).length - (opF x (rwL L y.1.val)).length) (anD zAn) := by
    unfold rowW
    rw [if_pos (by simp)]
   have hzi : (d ++ [y]).zipIdx.map (newV x L) = d.zipIdx.map (newV x L) ++ [newV x L (y, d.length)] := by
    rw [List.zipIdx_append, List.map_append]
    simp
   have hAl : (d.zipIdx.map (newV x L)).length = d.length := by simp
   have hop := open_any x.sheet (by have := h.sheet.len; omega) (rwL L y.1.val) (hrw _).1 (hrw _).2
   change Does Tryz.prog 72 _ [_] (.slr 0 0 (opF x (rwL L y.1.val)).length) [.vec 62 4 (dv ((opF x (rwL L y.1.val)).map anD ++ List.replicate ((rwL L y.1.val).length - (opF x (rwL L y.1.val)).length) (anD zAn)))] at hop
   generalize hA : d.zipIdx.map (newV x L) = A at hzi hAl ⊢
   have hget : ∀ v : V, (A ++ v :: r.map (elG G4 (rwL L)))[0 + d.length]? = some v := fun v => by rw [Nat.zero_add, ← hAl]; exact get_mid A v _
   have hset : ∀ v w : V, (A ++ v :: r.map (elG G4 (rwL L))).set (0 + d.length) w = A ++ w :: r.map (elG G4 (rwL L)) := fun v w => by rw [Nat.zero_add, ← hAl]; simp
   obtain ⟨⟨k, hk⟩, y⟩ := y
   match k, hk with
   | 0, hk =>
    change rowW x L d 0 = _ at hw0
    change rowW x L (d ++ _) 0 = _ at hw1
    have hE : newV x L (((⟨0, hk⟩ : _root_.Fin 4), y), d.length) = V.agg [I 0, I y.2.1, S y.2.2.1, S (114 :: 101 :: 97 :: 100 :: 101 :: 114 :: 45 :: It4.getD d.length []), S y.2.2.2.2.1, B y.2.2.2.2.2, .slr 2688 0 (opF x (rwL L 0)).length] := rfl
    have hG := isG_spW x L ((d ++ [((⟨0, hk⟩ : _root_.Fin 4), y)]).zipIdx) r
    rw [hzi, hE, List.append_assoc, List.singleton_append] at hG
    rw [hE] at hzi
    repeat' (first | ((first | refine AW.sreg rfl fun K hK => ?_ | refine AW.reg rfl ?_ | refine AW.regD hmix rfl ?_ | refine runT_call _ _ [] (fun hv _ => (hit).pure rfl rfl hv _) rfl rfl (dstOk_of rfl) rfl rfl ?_ | refine runT_call _ _ [2688] (fun hv hag => (hop).objs [2688] ⟨((hag 2688 (by simp)).trans rfl), trivial⟩ rfl (by decide) (by simp [go_sem, renOs]) (by simp) (by simp) (by simp [go_sem]) (by simp [go_sem]) (by simp [go_sem]) (by simp [go_sem])) rfl rfl (dstOk_of rfl) rfl rfl ?_); simp only [go_sem, ↓reduceIte, hget, hset, hw0, hdl, List.map_cons]) | (refine AW.seq_k fun K hK => ?_) | (refine AW.block ?_) | (refine AW.skip ?_; simp only [Then, InBlock]) | (refine AW.cT ?_) | (refine hK _ ?_; clear hK K) | (with_reducible refine And.intro (?_ : regOk _ _ = true) ?_; kernel_rfl) | (with_reducible refine andI ?_))
    refine ⟨(d ++ [(⟨0, hk⟩, y)], r), by simpa using g1, by simp, ?_⟩
    dsimp only
    rw [hzi, hw 1 (by simp), hw 2 (by simp), hw 3 (by simp), hw1, List.append_assoc, List.singleton_append]
    generalize r.map (elG G4 (rwL L)) = R at hG ⊢
    generalize (114 :: 101 :: 97 :: 100 :: 101 :: 114 :: 45 :: It4.getD d.length []) = nm at hG ⊢
    have kb2 := isG_bel (n := 3456) (by omega) hG
    have kf2 := fun hv => isG_frz (hv := hv) hks hG
    have kr2 := isG_ren hgs hG
    exact (Weak.oC hcx [(0, 0), (2624, 2624), (2688, 2688), (2752, 2752), (2816, 2816), (2880, 2880)] (by refine ⟨?_, ?_, ?_⟩ <;> simp [go_sem, gL, kL, List.map_append, dv_push, kb2, kf2, kr2]))
   | 1, hk =>
    change rowW x L d 1 = _ at hw0
    change rowW x L (d ++ _) 1 = _ at hw1
    have hE : newV x L (((⟨1, hk⟩ : _root_.Fin 4), y), d.length) = V.agg [I 0, I y.2.1, S y.2.2.1, S (114 :: 101 :: 97 :: 100 :: 101 :: 114 :: 45 :: It4.getD d.length []), S y.2.2.2.2.1, B y.2.2.2.2.2, .slr 2752 0 (opF x (rwL L 1)).length] := rfl
    have hG := isG_spW x L ((d ++ [((⟨1, hk⟩ : _root_.Fin 4), y)]).zipIdx) r
    rw [hzi, hE, List.append_assoc, List.singleton_append] at hG
    rw [hE] at hzi
    repeat' (first | ((first | refine AW.sreg rfl fun K hK => ?_ | refine AW.reg rfl ?_ | refine AW.regD hmix rfl ?_ | refine runT_call _ _ [] (fun hv _ => (hit).pure rfl rfl hv _) rfl rfl (dstOk_of rfl) rfl rfl ?_ | refine runT_call _ _ [2752] (fun hv hag => (hop).objs [2752] ⟨((hag 2752 (by simp)).trans rfl), trivial⟩ rfl (by decide) (by simp [go_sem, renOs]) (by simp) (by simp) (by simp [go_sem]) (by simp [go_sem]) (by simp [go_sem]) (by simp [go_sem])) rfl rfl (dstOk_of rfl) rfl rfl ?_); simp only [go_sem, ↓reduceIte, hget, hset, hw0, hdl, List.map_cons]) | (refine AW.seq_k fun K hK => ?_) | (refine AW.block ?_) | (refine AW.skip ?_; simp only [Then, InBlock]) | (refine AW.cT ?_) | (refine hK _ ?_; clear hK K) | (with_reducible refine And.intro (?_ : regOk _ _ = true) ?_; kernel_rfl) | (with_reducible refine andI ?_))
    refine ⟨(d ++ [(⟨1, hk⟩, y)], r), by simpa using g1, by simp, ?_⟩
    dsimp only
    rw [hzi, hw 0 (by simp), hw 2 (by simp), hw 3 (by simp), hw1, List.append_assoc, List.singleton_append]
    generalize r.map (elG G4 (rwL L)) = R at hG ⊢
    generalize (114 :: 101 :: 97 :: 100 :: 101 :: 114 :: 45 :: It4.getD d.length []) = nm at hG ⊢
    have kb2 := isG_bel (n := 3456) (by omega) hG
    have kf2 := fun hv => isG_frz (hv := hv) hks hG
    have kr2 := isG_ren hgs hG
    exact (Weak.oC hcx [(0, 0), (2624, 2624), (2688, 2688), (2752, 2752), (2816, 2816), (2880, 2880)] (by refine ⟨?_, ?_, ?_⟩ <;> simp [go_sem, gL, kL, List.map_append, dv_push, kb2, kf2, kr2]))
   | 2, hk =>
    change rowW x L d 2 = _ at hw0
    change rowW x L (d ++ _) 2 = _ at hw1
    have hE : newV x L (((⟨2, hk⟩ : _root_.Fin 4), y), d.length) = V.agg [I 0, I y.2.1, S y.2.2.1, S (114 :: 101 :: 97 :: 100 :: 101 :: 114 :: 45 :: It4.getD d.length []), S y.2.2.2.2.1, B y.2.2.2.2.2, .slr 2816 0 (opF x (rwL L 2)).length] := rfl
    have hG := isG_spW x L ((d ++ [((⟨2, hk⟩ : _root_.Fin 4), y)]).zipIdx) r
    rw [hzi, hE, List.append_assoc, List.singleton_append] at hG
    rw [hE] at hzi
    repeat' (first | ((first | refine AW.sreg rfl fun K hK => ?_ | refine AW.reg rfl ?_ | refine AW.regD hmix rfl ?_ | refine runT_call _ _ [] (fun hv _ => (hit).pure rfl rfl hv _) rfl rfl (dstOk_of rfl) rfl rfl ?_ | refine runT_call _ _ [2816] (fun hv hag => (hop).objs [2816] ⟨((hag 2816 (by simp)).trans rfl), trivial⟩ rfl (by decide) (by simp [go_sem, renOs]) (by simp) (by simp) (by simp [go_sem]) (by simp [go_sem]) (by simp [go_sem]) (by simp [go_sem])) rfl rfl (dstOk_of rfl) rfl rfl ?_); simp only [go_sem, ↓reduceIte, hget, hset, hw0, hdl, List.map_cons]) | (refine AW.seq_k fun K hK => ?_) | (refine AW.block ?_) | (refine AW.skip ?_; simp only [Then, InBlock]) | (refine AW.cT ?_) | (refine hK _ ?_; clear hK K) | (with_reducible refine And.intro (?_ : regOk _ _ = true) ?_; kernel_rfl) | (with_reducible refine andI ?_))
    refine ⟨(d ++ [(⟨2, hk⟩, y)], r), by simpa using g1, by simp, ?_⟩
    dsimp only
    rw [hzi, hw 0 (by simp), hw 1 (by simp), hw 3 (by simp), hw1, List.append_assoc, List.singleton_append]
    generalize r.map (elG G4 (rwL L)) = R at hG ⊢
    generalize (114 :: 101 :: 97 :: 100 :: 101 :: 114 :: 45 :: It4.getD d.length []) = nm at hG ⊢
    have kb2 := isG_bel (n := 3456) (by omega) hG
    have kf2 := fun hv => isG_frz (hv := hv) hks hG
    have kr2 := isG_ren hgs hG
    exact (Weak.oC hcx [(0, 0), (2624, 2624), (2688, 2688), (2752, 2752), (2816, 2816), (2880, 2880)] (by refine ⟨?_, ?_, ?_⟩ <;> simp [go_sem, gL, kL, List.map_append, dv_push, kb2, kf2, kr2]))
   | 3, hk =>
    change rowW x L d 3 = _ at hw0
    change rowW x L (d ++ _) 3 = _ at hw1
    have hE : newV x L (((⟨3, hk⟩ : _root_.Fin 4), y), d.length) = V.agg [I 0, I y.2.1, S y.2.2.1, S (114 :: 101 :: 97 :: 100 :: 101 :: 114 :: 45 :: It4.getD d.length []), S y.2.2.2.2.1, B y.2.2.2.2.2, .slr 2880 0 (opF x (rwL L 3)).length] := rfl
    have hG := isG_spW x L ((d ++ [((⟨3, hk⟩ : _root_.Fin 4), y)]).zipIdx) r
    rw [hzi, hE, List.append_assoc, List.singleton_append] at hG
    rw [hE] at hzi
    repeat' (first | ((first | refine AW.sreg rfl fun K hK => ?_ | refine AW.reg rfl ?_ | refine AW.regD hmix rfl ?_ | refine runT_call _ _ [] (fun hv _ => (hit).pure rfl rfl hv _) rfl rfl (dstOk_of rfl) rfl rfl ?_ | refine runT_call _ _ [2880] (fun hv hag => (hop).objs [2880] ⟨((hag 2880 (by simp)).trans rfl), trivial⟩ rfl (by decide) (by simp [go_sem, renOs]) (by simp) (by simp) (by simp [go_sem]) (by simp [go_sem]) (by simp [go_sem]) (by simp [go_sem])) rfl rfl (dstOk_of rfl) rfl rfl ?_); simp only [go_sem, ↓reduceIte, hget, hset, hw0, hdl, List.map_cons]) | (refine AW.seq_k fun K hK => ?_) | (refine AW.block ?_) | (refine AW.skip ?_; simp only [Then, InBlock]) | (refine AW.cT ?_) | (refine hK _ ?_; clear hK K) | (with_reducible refine And.intro (?_ : regOk _ _ = true) ?_; kernel_rfl) | (with_reducible refine andI ?_))
    refine ⟨(d ++ [(⟨3, hk⟩, y)], r), by simpa using g1, by simp, ?_⟩
    dsimp only
    rw [hzi, hw 0 (by simp), hw 1 (by simp), hw 2 (by simp), hw1, List.append_assoc, List.singleton_append]
    generalize r.map (elG G4 (rwL L)) = R at hG ⊢
    generalize (114 :: 101 :: 97 :: 100 :: 101 :: 114 :: 45 :: It4.getD d.length []) = nm at hG ⊢
    have kb2 := isG_bel (n := 3456) (by omega) hG
    have kf2 := fun hv => isG_frz (hv := hv) hks hG
    have kr2 := isG_ren hgs hG
    exact (Weak.oC hcx [(0, 0), (2624, 2624), (2688, 2688), (2752, 2752), (2816, 2816), (2880, 2880)] (by refine ⟨?_, ?_, ?_⟩ <;> simp [go_sem, gL, kL, List.map_append, dv_push, kb2, kf2, kr2]))
 ·obtain ⟨pr, hpr, hprm, -⟩ := get_some hi
  have hgp : (x.pairs.map prD)[i]? = some (prD pr) := by simp only [List.getElem?_map, hpr, Option.map_some]
  have hst : colF x l paper at_ (x.pairs.take (i + 1)) = L ++ (gotF x l paper at_ pr).toList := by rw [colF_step hpr, h2]
  by_cases hp : pr.1 = paper
  rotate_left
  ·have e1 : (pr.1 != paper) = true := by simpa using hp
   have hg : gotF x l paper at_ pr = none := by unfold gotF; rw [if_neg (fun e => hp e.1)]
   rw [hg, Option.toList_none, List.append_nil] at hst
   repeat' (first | ((first | refine AW.sreg rfl fun K hK => ?_ | refine AW.reg rfl ?_); simp only [go_sem, ↓reduceIte, hgp, e1, List.length_map]) | (refine AW.seq_k fun K hK => ?_) | (refine AW.block ?_) | (refine AW.skip ?_; simp only [Then, InBlock]) | (refine AW.exit ?_; simp only [go_sem, ↓reduceIte]) | (refine AW.cT ?_) | (refine hK _ ?_; clear hK K) | (clear hK K; refine hK _ ?_; clear hK K) | (with_reducible refine andI ?_))
   exact ⟨(i + 1, L), ⟨hi, hst.symm⟩, by simp only; omega, (Weak.oC hcx [(0, 0), (2624, 2624), (2688, 2688), (2752, 2752), (2816, 2816), (2880, 2880)] (by refine ⟨?_, ?_, ?_⟩ <;> simp [go_sem, gL, kL, List.map_append, dv_push, kb, kf, kr]))⟩
  have e1 : (pr.1 != paper) = false := by simpa using hp
  have hne : (pr.2 == who) = false := by
   rw [beq_eq_false_iff_ne]
   intro e
   have h5 := csF_au hcs pr hprm
   rw [e, hp, hau] at h5
   cases h5
  have hlv := level_any h hcs l hl who pr at_
  rw [lv_au (by rw [hp]; exact hau)] at hlv
  have hla := last_any (suC x) rfl (gvF l) (fun g hg => by have := grpF_rlen rkey (fun r : Rv => r) hg; omega) pr at_ true
  by_cases hre : x.reply ≤ at_
  rotate_left
  ·have hg : gotF x l paper at_ pr = none := by unfold gotF; rw [if_neg (fun e => hre e.2)]
   rw [hg, Option.toList_none, List.append_nil] at hst
   rw [if_neg hre] at hlv
   generalize (lastF (rowG (gvF l) pr) at_ true).getD zRv = zr at hla
   generalize (lastF (rowG (gvF l) pr) at_ true).isSome = b5 at hla
   repeat' (first | ((first | refine AW.sreg rfl fun K hK => ?_ | refine AW.reg rfl ?_ | refine run_call _ _ _ ((hlv).pure rfl rfl _ _) rfl rfl (dstOk_of rfl) rfl rfl rfl ?_ | refine run_call _ _ _ ((hla).pure rfl rfl _ _) rfl rfl (dstOk_of rfl) rfl rfl rfl ?_); simp only [go_sem, ↓reduceIte, hgp, e1, hne, List.length_map]) | (refine AW.seq_k fun K hK => ?_) | (refine AW.block ?_) | (refine AW.skip ?_; simp only [Then, InBlock]) | (refine AW.exit ?_; simp only [go_sem, ↓reduceIte]) | (refine AW.cT ?_) | (refine AW.cF ?_) | (refine hK _ ?_; clear hK K) | (clear hK K; refine hK _ ?_; clear hK K) | (with_reducible refine andI ?_))
   exact ⟨(i + 1, L), ⟨hi, hst.symm⟩, by simp only; omega, (Weak.oC hcx [(0, 0), (2624, 2624), (2688, 2688), (2752, 2752), (2816, 2816), (2880, 2880)] (by refine ⟨?_, ?_, ?_⟩ <;> simp [go_sem, gL, kL, List.map_append, dv_push, kb, kf, kr]))⟩
  rw [if_pos hre] at hlv
  have hg : gotF x l paper at_ pr = (lastF (rowG (gvF l) pr) at_ true).map noBy := by unfold gotF; rw [if_pos ⟨hp, hre⟩]
  cases hr : lastF (rowG (gvF l) pr) at_ true with
  | none =>
   rw [hr] at hla hg
   simp only [Option.getD_none, Option.isSome_none] at hla
   rw [hg, Option.map_none, Option.toList_none, List.append_nil] at hst
   repeat' (first | ((first | refine AW.sreg rfl fun K hK => ?_ | refine AW.reg rfl ?_ | refine run_call _ _ _ ((hlv).pure rfl rfl _ _) rfl rfl (dstOk_of rfl) rfl rfl rfl ?_ | refine run_call _ _ _ ((hla).pure rfl rfl _ _) rfl rfl (dstOk_of rfl) rfl rfl rfl ?_); simp only [go_sem, ↓reduceIte, hgp, e1, hne, List.length_map]) | (refine AW.seq_k fun K hK => ?_) | (refine AW.block ?_) | (refine AW.skip ?_; simp only [Then, InBlock]) | (refine AW.exit ?_; simp only [go_sem, ↓reduceIte]) | (refine AW.cT ?_) | (refine AW.cF ?_) | (refine hK _ ?_; clear hK K) | (clear hK K; refine hK _ ?_; clear hK K) | (with_reducible refine andI ?_))
   exact ⟨(i + 1, L), ⟨hi, hst.symm⟩, by simp only; omega, (Weak.oC hcx [(0, 0), (2624, 2624), (2688, 2688), (2752, 2752), (2816, 2816), (2880, 2880)] (by refine ⟨?_, ?_, ?_⟩ <;> simp [go_sem, gL, kL, List.map_append, dv_push, kb, kf, kr]))⟩
  | some r =>
   rw [hr] at hla hg
   simp only [Option.getD_some, Option.isSome_some] at hla
   rw [hg, Option.map_some, Option.toList_some] at hst
   have hrm := (rowGv_mem (last_mem hr).1).1
   have hcl := clone_any r (by have := (hb r hrm).al; omega)
   have htk : List.take L.length (spL L) = spL L := List.take_of_length_le (by rw [spL_len]; exact Nat.le_refl _)
   have hL5 : (L ++ [noBy r]).length ≤ 4 := by rw [← hst]; exact colF_4 h hcs l paper at_ (i + 1)
   repeat' (first | ((first | refine AW.sreg rfl fun K hK => ?_ | refine AW.reg rfl ?_ | refine run_call _ _ _ ((hlv).pure rfl rfl _ _) rfl rfl (dstOk_of rfl) rfl rfl rfl ?_ | refine run_call _ _ _ ((hla).pure rfl rfl _ _) rfl rfl (dstOk_of rfl) rfl rfl rfl ?_ | refine run_call _ _ _ ((hcl).objA []) rfl rfl (dstOk_of rfl) rfl rfl rfl ?_); simp only [go_sem, ↓reduceIte, hgp, e1, hne, List.length_map, htk, elL_len, Nat.reduceSub, Nat.add_zero]) | (refine AW.seq_k fun K hK => ?_) | (refine AW.block ?_) | (refine AW.skip ?_; simp only [Then, InBlock]) | (refine AW.cT ?_) | (refine AW.cF ?_) | (refine hK _ ?_; clear hK K) | (with_reducible refine andI ?_))
   clear h2 kb kf kr hlv hla hcl
   rcases L with _ | ⟨a, _ | ⟨b, _ | ⟨c, _ | ⟨d, L⟩⟩⟩⟩
   ·exact ⟨(i + 1, [] ++ [noBy r]), ⟨hi, hst.symm⟩, by simp only; omega, (Weak.oC hcx [(0, 0), (2624, 5824), (2688, 5248), (2752, 2752), (2816, 2816), (2880, 2880)] (by refine ⟨?_, ?_, ?_⟩ <;> simp [go_sem, gL, kL, List.map_append, dv_push, spL0, spL1, spL2, spL3, spL4, rwL, zRv]))⟩
   ·exact ⟨(i + 1, [a] ++ [noBy r]), ⟨hi, hst.symm⟩, by simp only; omega, (Weak.oC hcx [(0, 0), (2624, 5824), (2688, 2688), (2752, 5248), (2816, 2816), (2880, 2880)] (by refine ⟨?_, ?_, ?_⟩ <;> simp [go_sem, gL, kL, List.map_append, dv_push, spL0, spL1, spL2, spL3, spL4, rwL, zRv]))⟩
   ·exact ⟨(i + 1, [a, b] ++ [noBy r]), ⟨hi, hst.symm⟩, by simp only; omega, (Weak.oC hcx [(0, 0), (2624, 5824), (2688, 2688), (2752, 2752), (2816, 5248), (2880, 2880)] (by refine ⟨?_, ?_, ?_⟩ <;> simp [go_sem, gL, kL, List.map_append, dv_push, spL0, spL1, spL2, spL3, spL4, rwL, zRv]))⟩
   ·exact ⟨(i + 1, [a, b, c] ++ [noBy r]), ⟨hi, hst.symm⟩, by simp only; omega, (Weak.oC hcx [(0, 0), (2624, 5824), (2688, 2688), (2752, 2752), (2816, 2816), (2880, 5248)] (by refine ⟨?_, ?_, ?_⟩ <;> simp [go_sem, gL, kL, List.map_append, dv_push, spL0, spL1, spL2, spL3, spL4, rwL, zRv]))⟩
   ·simp only [List.length_append, List.length_cons, List.length_nil] at hL5
    omega
end Go.AX

namespace Go.AX
open Go Go.Proofs Go.RowKit
theorem goF_at {α : Type} {f : List α → α → Int} : ∀ {r b : List α}, goF f b r = 0 → ∀ y ∈ r, ∃ bs, f bs y = 0
 | [], _, _, y, hy => by cases hy
 | p :: r, b, h, y, hy => by
  rw [goF] at h
  split at h
  ·exact absurd h (by assumption)
  ·rename_i h1
   rcases List.mem_cons.1 hy with rfl | hy
   ·exact ⟨b, by simpa using h1⟩
   ·exact goF_at h y hy
theorem au_key {x : Su} (h : csF x = 0) {p : Pa} (hp : p ∈ x.papers) {a : Str} (ha : a ∈ p.2.2.2.1) : keyB a = true := by
 unfold csF at h
 by_cases h0 : goF pasF [] x.papers = 0
 rotate_left
 ·rw [if_pos h0] at h; exact absurd h h0
 obtain ⟨bs, h1⟩ := goF_at h0 p hp
 have h2 : goF dfK [] p.2.2.2.1 = 0 := by
  obtain ⟨i, t, ti, au, tp⟩ := p
  unfold pasF at h1
  cases hl : bs.getLast? with
  | none =>
   rw [hl] at h1
   simp only [Option.map_none] at h1
   rw [paF_nil] at h1
   repeat' (split at h1; · first | cases h1 | exact absurd h1 (by assumption))
   all_goals
    rename_i h3
    simpa using h3
  | some q =>
   rw [hl] at h1
   simp only [Option.map_some] at h1
   rw [paF_some] at h1
   repeat' (split at h1; · first | cases h1 | exact absurd h1 (by assumption))
   all_goals
    rename_i h3
    simpa using h3
 obtain ⟨cs, h3⟩ := goF_at h2 a ha
 unfold dfK at h3
 cases hk : keyB a with
 | true => rfl
 | false => rw [if_pos hk] at h3; cases h3
theorem pOf_at : ∀ {l : List Pa}, RisPa l → ∀ {p : Pa}, p ∈ l → pOf l p.1 = some p
 | [], _, p, hp => by cases hp
 | q :: r, hr, p, hp => by
  obtain ⟨h1, h2⟩ := List.pairwise_cons.1 hr
  have ih := fun h => pOf_at h2 (p := p) h
  unfold pOf at ih ⊢
  rw [List.find?_cons]
  rcases List.mem_cons.1 hp with rfl | hp'
  ·simp
  ·have h3 := h1 p hp'
   have hne : (q.1 == p.1) = false := by
    rw [beq_eq_false_iff_ne]
    intro e
    rw [e, ltS_irrefl] at h3
    cases h3
   rw [hne]
   exact ih hp'
theorem au_at {x : Su} (h : csF x = 0) {p : Pa} (hp : p ∈ x.papers) {a : Str} (ha : a ∈ p.2.2.2.1) : auF x.papers p.1 a = true := by
 unfold auF
 rw [pOf_at (csF_rise h).1 hp, Option.getD_some, List.any_eq_true]
 exact ⟨a, ha, by simp⟩
theorem rd_no {x : Su} (h : SuR x) {j : Nat} (hj : j < 4) (p : Str) : (p, rdN j) ∉ x.pairs := by
 intro hm
 have := (h.pairs _ hm).2
 revert this
 show rdN j ∈ Wh4 → False
 exact (show ∀ j, j < 4 → ¬ rdN j ∈ Wh4 by decide) j hj
/-- What is true of each review that authors see. -/
structure VOk (x : Su) (y : Rv) : Prop where
 no : y.1 = 0
 pe : ∃ j, j < 4 ∧ y.2.2.2.1 = rdN j
 by_ : y.2.2.2.2.1 = []
 dn : y.2.2.2.2.2.1 = true
 al : y.2.2.2.2.2.2.length ≤ 1000
 an : ∀ a ∈ y.2.2.2.2.2.2, scF x.sheet a = false ∧ ¬ plF x.sheet a.1 < 0
theorem vwF_ok {x : Su} (h : SuR x) {l : List Rv} (hb : ∀ r ∈ l, RvB r) (hc : chF x l = 0) (hcs : csF x = 0) {paper : Str} {at_ : Int} : (vwF x l paper at_).length ≤ 4 ∧ ∀ y ∈ vwF x l paper at_, x.reply ≤ at_ ∧ VOk x y := by
 have hL4 : (colF x l paper at_ x.pairs).length ≤ 4 := by
  have := colF_4 h hcs l paper at_ x.pairs.length
  rwa [List.take_length] at this
 unfold vwF
 have hyp := isort_perm (fun x y => decide (cvV x y < 0)) (elL (colF x l paper at_ x.pairs))
 generalize isort (fun x y => decide (cvV x y < 0)) (elL (colF x l paper at_ x.pairs)) = ys at hyp
 have hyl : ys.length ≤ 4 := by rw [hyp.length_eq, elL_len]; exact hL4
 refine ⟨by simpa using hyl, fun y hy => ?_⟩
 obtain ⟨⟨e, j⟩, hq, rfl⟩ := List.mem_map.1 hy
 have hj : j < 4 := by
  have := List.snd_lt_of_mem_zipIdx hq
  omega
 have he := hyp.mem_iff.1 (List.fst_mem_of_mem_zipIdx hq)
 dsimp only at he
 unfold elL at he
 obtain ⟨⟨r, k⟩, hr, rfl⟩ := List.mem_map.1 he
 have hr2 := List.fst_mem_of_mem_zipIdx hr
 dsimp only at hr2
 obtain ⟨h1, r0, h2, rfl, h3, h4⟩ := col_mem hr2
 refine ⟨h1, rfl, ⟨j, hj, rfl⟩, rfl, h4, ?_, ?_⟩
 ·have : ∀ k, (rwL (colF x l paper at_ x.pairs) k).length ≤ 1000 := by
   intro k
   rcases rwL_mem (L := colF x l paper at_ x.pairs) (k := k) with e | ⟨r, hr, e⟩
   ·rw [e]; simp
   ·rw [e]
    obtain ⟨-, r0, h0, rfl, -⟩ := col_mem hr
    have := (hb r0 h0).al
    simp only
    omega
  exact Nat.le_trans (List.length_filter_le _ _) (this _)
 ·intro a ha
  have ha : a ∈ opF x (rwL (colF x l paper at_ x.pairs) _) := ha
  obtain ⟨ha, hs⟩ := List.mem_filter.1 ha
  refine ⟨by simpa using hs, ?_⟩
  rcases rwL_mem (L := colF x l paper at_ x.pairs) (k := (Fin.ofNat 4 k).val) with e | ⟨r, hr, e⟩
  ·rw [e] at ha; cases ha
  ·rw [e] at ha
   obtain ⟨-, r1, h5, rfl, -⟩ := col_mem hr
   exact chF_ans hc h5 a ha
theorem sec1_any (q : Qu) (a : An) : Does Tryz.prog 23 [.d (quD q), .d (.ptr [.str a.1, .int .i64 a.2.1, .str a.2.2.1, .str a.2.2.2] 0)] [] (B (q.1 == a.1 && q.2.2.2.2.2)) [] := by
 refine Does.of_AW (n := 13) Tryz.func23 rfl rfl rfl fun cx hcx => ?_
 cases e : (q.1 == a.1)
 ·repeat' (first | (refine AW.sreg rfl fun K hK => ?_; simp only [go_sem, ↓reduceIte, e]) | (refine hK _ ?_; clear hK K) | (refine AW.ret (Fin.data rfl (by first | (simp only [go_sem]; done) | (simp [go_sem, *]; done) | (simp [go_sem]; omega) | rfl) rfl)))
 ·repeat' (first | (refine AW.sreg rfl fun K hK => ?_; simp only [go_sem, ↓reduceIte, e]) | (refine hK _ ?_; clear hK K) | (refine AW.ret (Fin.data rfl (by first | (simp only [go_sem]; done) | (simp [go_sem, *]; done) | (simp [go_sem]; omega) | rfl) rfl)))
theorem sec_none {x : Su} (h : SuR x) {a : An} (h1 : scF x.sheet a = false) (h2 : ¬ plF x.sheet a.1 < 0) : (x.sheet.any fun q => q.1 == a.1 && q.2.2.2.2.2) = false := by
 rw [List.any_eq_false]
 intro q hq
 simp only [Bool.and_eq_true, not_and, Bool.not_eq_true]
 intro e
 obtain ⟨i, hi⟩ := List.mem_iff_getElem?.1 hq
 have h3 := h.sheet.at hi
 rw [show q.1 = a.1 by simpa using e] at h3
 unfold scF at h1
 rw [h3, Int.toNat_natCast, hi] at h1
 exact h1
def T4 : List Int := [0, 2000, 5000, 9000]
theorem law_ok (l : List Int) (hl2 : l.length ≤ 9223372036854775807) : Does Tryz.prog 5 [Ls l] [] (B true) [] := by
 have hrs := rightSetupI l hl2
 refine Does.of_AW (n := 122) Tryz.func5 rfl rfl rfl fun cx hcx => ?_
 repeat' (first | (refine AW.sreg rfl fun K hK => ?_; simp only [go_sem, ↓reduceIte]) | (refine hK _ ?_; clear hK K))
 first | (refine run_callI _ _ _ ((hrs).objs [192] ⟨rfl, trivial⟩ rfl (by decide) (by simp [go_sem, renOs]) (by simp [go_sem]) (by simp [go_sem]) (fun j hj => ⟨by simp, by simp, by simp [go_sem], by simp [go_sem]⟩)) rfl rfl (dstOk_of rfl) rfl rfl rfl ?_; rintro ⟨x, q⟩ ⟨hx, hq1, hq2⟩; (try dsimp only at x); (try dsimp only at q); (try dsimp only at hx); (try dsimp only at hq1); (try dsimp only at hq2); simp only [go_sem, ↓reduceIte])
 refine hK _ ?_; (try clear hK K)
 have n1 := range_any l hl2 q 0 9 (by omega) (by omega) (by omega) (by omega) (by omega)
 have r1 := nextV_range l q (9 - 0 + 1) (by omega)
 generalize nextV l q (9 - 0 + 1) = kk at n1 r1
 obtain ⟨n, rfl⟩ : ∃ n : Nat, kk = (n : Int) := ⟨kk.toNat, by omega⟩
 rw [Int.zero_add] at n1
 refine AW.sregDS hmix [0, 1, 2, 3, 4, 5] [0, 1, 2, 3, 4, 5] [4] rfl (by decide) (by simp only [permOps, renOp, List.map_cons, List.map_nil, List.getD_cons_zero, List.getD_cons_succ]; exact rfl) fun K hK => ?_; simp only [go_sem, ↓reduceIte, List.take_succ_cons, List.take_zero, List.drop_succ_cons, List.drop_zero]
 first | (refine runT_call _ _ [192] (fun hv hag => (n1).objs [192] ⟨((hag 192 (by simp)).trans rfl), trivial⟩ rfl (by decide) (by simp [go_sem, renOs]) (by simp) (by simp) (by simp [go_sem]) (by simp [go_sem]) (by simp [go_sem]) (by simp [go_sem])) rfl rfl (dstOk_of rfl) rfl rfl ?_; simp only [go_sem, ↓reduceIte])
 first | (refine relStep_call _ _ [192] (fun hv hag => (reviewsI l hl2 (q + 1) (by omega) (by omega) hx n (by omega)).objs [192] ⟨((hag 192 (by simp)).trans rfl), trivial⟩ rfl (by decide) (by simp [go_sem, renOs]) (by simp [go_sem]) (by simp [go_sem]) (fun j hj => ⟨by simp, by simp, by simp [go_sem], by simp [go_sem]⟩)) rfl rfl (dstOk_of rfl) rfl rfl ⟨by kernel_rfl, by kernel_rfl⟩ ?_; rintro ⟨rs, q2⟩ ⟨⟨hr1, hr2⟩, hq3, hq4⟩; (try dsimp only at rs); (try dsimp only at q2); (try dsimp only at hr1); (try dsimp only at hr2); (try dsimp only at hq3); (try dsimp only at hq4); simp only [go_sem, ↓reduceIte])
 refine ⟨by kernel_rfl, ?_⟩
 refine hK _ ?_; (try clear hK K)
 have hrl : rs.length ≤ 20 := by omega
 have hql := hx.qlen
 have hpl := hx.plen
 have hrb : ∀ r ∈ rs, RvB r := fun r hr => (hr2 r hr).1
 have hch := check_any hx rs (by omega) hrb
 by_cases hc : chF x rs = 0
 rotate_left
 ·have e0 : (chF x rs != 0) = true := by simpa using hc
  repeat' (first | ((first | refine AW.sreg rfl fun K hK => ?_ | refine run_call _ _ _ ((hch).pure rfl rfl _ _) rfl rfl (dstOk_of rfl) rfl rfl rfl ?_ | refine run_call _ _ _ ((stands_ok).pure rfl rfl _ _) rfl rfl (dstOk_of rfl) rfl rfl rfl ?_); simp only [go_sem, ↓reduceIte, e0]) | (refine AW.seq_k fun K hK => ?_) | (refine AW.cT ?_) | (refine hK _ ?_; clear hK K) | (refine AW.ret (Fin.data rfl (by first | (simp only [go_sem]; done) | (simp [go_sem, *]; done) | (simp [go_sem]; omega) | rfl) rfl)))
 have hcs : csF x = 0 := by
  unfold chF at hc
  by_cases h0 : csF x = 0
  ·exact h0
  ·rw [if_pos h0] at hc; exact absurd hc h0
 rw [hc] at hch
 repeat' (first | ((first | refine AW.sreg rfl fun K hK => ?_ | refine run_call _ _ _ ((hch).pure rfl rfl _ _) rfl rfl (dstOk_of rfl) rfl rfl rfl ?_); simp only [go_sem, ↓reduceIte, List.length_map]) | (refine AW.seq_k fun K hK => ?_) | (refine AW.block ?_) | (refine AW.skip ?_; simp only [Then, InBlock]) | (refine AW.cF ?_) | (refine hK _ ?_; clear hK K))
 refine AW.loopF (ι := Nat) [4, 5, 34, 35] (fun p => [(36, I p)]) (fun p => [(448, some (O.box 31 (suV x)))]) 30 (fun p => p ≤ x.papers.length) (fun p => x.papers.length - p) 0 (Nat.zero_le _) (Weak.oC hcx [(448, 448)] (by refine ⟨?_, ?_, ?_⟩ <;> simp [go_sem, gL, kL, List.map_append, dv_push, dv])) ?_; simp only [St.at_nil, St.at_cons, lk, Nat.reduceEqDiff, ↓reduceIte, Option.getD_some, Option.getD_none, List.cons_append, List.nil_append, List.append_nil]
 intro i h1
 by_cases hi : i < x.papers.length
 rotate_left
 ·obtain rfl : i = x.papers.length := by omega
  repeat' (first | ((first | refine AW.sreg rfl fun K hK => ?_ | refine run_call _ _ _ ((stands_ok).pure rfl rfl _ _) rfl rfl (dstOk_of rfl) rfl rfl rfl ?_); simp only [go_sem, ↓reduceIte, List.length_map]) | (refine AW.seq_k fun K hK => ?_) | (refine AW.exit ?_; simp only [go_sem, ↓reduceIte]) | (refine AW.cF ?_) | (refine hK _ ?_; clear hK K) | (clear hK K; refine hK _ ?_; clear hK K) | (refine AW.ret (Fin.data rfl (by first | (simp only [go_sem]; done) | (simp [go_sem, *]; done) | (simp [go_sem]; omega) | rfl) rfl)))
 obtain ⟨pa, hpa, hpam, -⟩ := get_some hi
 have hgp : (x.papers.map paD)[i]? = some (paD pa) := by simp only [List.getElem?_map, hpa, Option.map_some]
 have hal := (hx.papers pa hpam).1.aul
 have hpo : (pOf x.papers pa.1).isSome = true := by rw [pOf_at (csF_rise hcs).1 hpam]; rfl
 repeat' (first | (refine AW.sreg rfl fun K hK => ?_; simp only [go_sem, ↓reduceIte, hgp, List.length_map]) | (refine AW.seq_k fun K hK => ?_) | (refine AW.block ?_) | (refine AW.skip ?_; simp only [Then, InBlock]) | (refine AW.cT ?_) | (refine hK _ ?_; clear hK K) | (with_reducible refine andI ?_))
 refine AW.loopF (ι := Nat) [4, 5, 7, 34, 35, 36, 41, 42] (fun p => [(43, I p)]) (fun p => [(448, some (O.box 31 (suV x))), (2112, some (O.box 56 [S pa.1, S pa.2.1, S pa.2.2.1, .d (.sl (pa.2.2.2.1.map D.str)), .d (.sl (pa.2.2.2.2.map D.str))]))]) 60 (fun p => p ≤ pa.2.2.2.1.length) (fun p => pa.2.2.2.1.length - p) 0 (Nat.zero_le _) (Weak.oC hcx [(448, 448), (2112, 2112)] (by refine ⟨?_, ?_, ?_⟩ <;> simp [go_sem, gL, kL, List.map_append, dv_push, dv])) ?_; simp only [St.at_nil, St.at_cons, lk, Nat.reduceEqDiff, ↓reduceIte, Option.getD_some, Option.getD_none, List.cons_append, List.nil_append, List.append_nil]
 intro j g1
 by_cases hj : j < pa.2.2.2.1.length
 rotate_left
 ·obtain rfl : j = pa.2.2.2.1.length := by omega
  repeat' (first | ((first | refine AW.sreg rfl fun K hK => ?_ | refine AW.reg rfl ?_); simp only [go_sem, ↓reduceIte, List.length_map]) | (refine AW.seq_k fun K hK => ?_) | (refine AW.exit ?_; simp only [go_sem, ↓reduceIte]) | (refine AW.cF ?_) | (refine hK _ ?_; clear hK K) | (clear hK K; refine hK _ ?_; clear hK K) | (with_reducible refine andI ?_))
  exact ⟨i + 1, by omega, by omega, (Weak.oC hcx [(448, 448)] (by refine ⟨?_, ?_, ?_⟩ <;> simp [go_sem, gL, kL, List.map_append, dv_push]))⟩
 obtain ⟨who, hwh, hwm, -⟩ := get_some hj
 have hgw : (pa.2.2.2.1.map D.str)[j]? = some (D.str who) := by simp only [List.getElem?_map, hwh, Option.map_some]
 have hwk := au_key hcs hpam hwm
 have hwl : who.length ≤ 40 := by
  have := hwk
  unfold keyB at this
  simp only [Bool.and_eq_true, decide_eq_true_eq] at this
  omega
 have hau := au_at hcs hpam hwm
 repeat' (first | (refine AW.sreg rfl fun K hK => ?_; simp only [go_sem, ↓reduceIte, hgw, List.length_map]) | (refine AW.seq_k fun K hK => ?_) | (refine AW.block ?_) | (refine AW.skip ?_; simp only [Then, InBlock]) | (refine AW.cT ?_) | (refine hK _ ?_; clear hK K) | (with_reducible refine andI ?_))
 have d4 : dv (T4.map (D.int .i64)) = [V.d (D.int .i64 0), V.d (D.int .i64 2000), V.d (D.int .i64 5000), V.d (D.int .i64 9000)] := rfl
 refine AW.loopF (ι := Nat) [4, 5, 7, 9, 34, 35, 36, 41, 42, 43, 47, 48] (fun p => [(49, I p)]) (fun p => [(448, some (O.box 31 (suV x))), (2112, some (O.box 56 [S pa.1, S pa.2.1, S pa.2.2.1, .d (.sl (pa.2.2.2.1.map D.str)), .d (.sl (pa.2.2.2.2.map D.str))])), (4096, some (IV T4))]) 80 (fun p => p ≤ 4) (fun p => 4 - p) 0 (by omega) (Weak.oC hcx [(448, 448), (2112, 2112), (4096, 4096)] (by refine ⟨?_, ?_, ?_⟩ <;> simp [go_sem, gL, kL, List.map_append, dv_push, d4])) ?_; simp only [St.at_nil, St.at_cons, lk, Nat.reduceEqDiff, ↓reduceIte, Option.getD_some, Option.getD_none, List.cons_append, List.nil_append, List.append_nil]
 intro k k1
 by_cases hk : k < 4
 rotate_left
 ·obtain rfl : k = 4 := by omega
  repeat' (first | ((first | refine AW.sreg rfl fun K hK => ?_ | refine AW.reg rfl ?_ | refine AW.exit ?_); simp only [go_sem, ↓reduceIte]) | (refine AW.seq_k fun K hK => ?_) | (refine AW.cF ?_) | (refine hK _ ?_; clear hK K) | (clear hK K; refine hK _ ?_; clear hK K) | (with_reducible refine andI ?_))
  exact ⟨j + 1, by omega, by omega, (Weak.oC hcx [(448, 448), (2112, 2112)] (by refine ⟨?_, ?_, ?_⟩ <;> simp [go_sem, gL, kL, List.map_append, dv_push]))⟩
 obtain ⟨tt, ht, htm, -⟩ := get_some (l := T4) (i := k) (by simpa [T4] using hk)
 have hgt : (dv (T4.map (D.int .i64)))[0 + k]? = some (.d (.int .i64 tt)) := by simp only [dv, Nat.zero_add, List.getElem?_map, ht, Option.map_some]
 have hmo : momB tt = true := (show ∀ t ∈ T4, momB t = true by decide) tt htm
 have hvw := viewA_any hx rs hrl hrb hc hwk (by omega) hpo hau hmo
 obtain ⟨v4, vok⟩ := vwF_ok hx hrb hc hcs (paper := pa.1) (at_ := tt)
 generalize vwF x rs pa.1 tt = vs at hvw v4 vok
 have hre : (decide ((0 : Int) < (vs.length : Int)) && decide (tt < x.reply)) = false := by
  rw [Bool.and_eq_false_iff]
  rcases vs with _ | ⟨y, vs⟩
  ·left; simp
  ·right
   have := (vok y (List.mem_cons_self ..)).1
   exact decide_eq_false (by omega)
 have hvl : decide (0 < (vs.length : Int)) = true → decide (tt < x.reply) = false := by
  intro h0
  rcases vs with _ | ⟨y, vs⟩
  ·simp at h0
  ·have := (vok y (List.mem_cons_self ..)).1
   exact decide_eq_false (by omega)
 clear hre
 cases e1 : decide (0 < (vs.length : Int))
 ·obtain rfl : vs = [] := by
   rcases vs with _ | ⟨y, vs⟩
   ·rfl
   ·simp at e1
  repeat' (first | ((first | refine AW.sreg rfl fun K hK => ?_ | refine AW.reg rfl ?_ | refine run_call _ _ _ ((hvw).pure rfl rfl _ _) rfl rfl (dstOk_of rfl) rfl rfl rfl ?_); simp only [go_sem, ↓reduceIte, hgt, List.map_nil, List.length_nil]) | (refine AW.seq_k fun K hK => ?_) | (refine AW.block ?_) | (refine AW.skip ?_; simp only [Then, InBlock]) | (refine AW.exit ?_; simp only [go_sem, ↓reduceIte]) | (refine AW.cT ?_) | (refine AW.cF ?_) | (refine hK _ ?_; clear hK K) | (clear hK K; refine hK _ ?_; clear hK K) | (refine stepB_split (fun h => ?_) (fun h => ?_) <;> (have hb0 := h) <;> (try simp only [Bool.not_eq_true', Bool.not_eq_false'] at hb0) <;> (try simp only [decide_eq_true_eq, decide_eq_false_iff_not, Bool.not_eq_true', Bool.not_eq_false', Bool.not_eq_eq_eq_not, Bool.not_true, Bool.not_false, beq_iff_eq, bne_iff_ne, beq_eq_false_iff_ne, ne_eq, Bool.and_eq_true, Bool.or_eq_true, Bool.or_eq_false_iff] at h) <;> simp only [go_sem, ↓reduceIte, hb0, h, decide_true, decide_false, hgt, List.map_nil, List.length_nil] <;> (try clear hb0)) | (refine AW.unroll 1 ?_; simp only [AWr]) | (with_reducible refine andI ?_) | (exfalso; omega))
  exact ⟨k + 1, by omega, by omega, (Weak.oC hcx [(448, 448), (2112, 2112), (4096, 4096)] (by refine ⟨?_, ?_, ?_⟩ <;> simp [go_sem, gL, kL, List.map_append, dv_push]))⟩
 ·have e2 := hvl e1
  repeat' (first | ((first | refine AW.sreg rfl fun K hK => ?_ | refine run_call _ _ _ ((hvw).pure rfl rfl _ _) rfl rfl (dstOk_of rfl) rfl rfl rfl ?_); simp only [go_sem, ↓reduceIte, hgt, e1, e2, List.length_map]) | (refine AW.seq_k fun K hK => ?_) | (refine AW.block ?_) | (refine AW.skip ?_; simp only [Then, InBlock]) | (refine AW.cT ?_) | (refine AW.cF ?_) | (refine hK _ ?_; clear hK K) | (with_reducible refine andI ?_))
  refine AW.loopF (ι := Nat) [4, 5, 7, 9, 34, 35, 36, 41, 42, 43, 47, 48, 49, 76, 77] (fun p => [(78, I p)]) (fun p => [(448, some (O.box 31 (suV x))), (2112, some (O.box 56 [S pa.1, S pa.2.1, S pa.2.2.1, .d (.sl (pa.2.2.2.1.map D.str)), .d (.sl (pa.2.2.2.2.map D.str))])), (4096, some (IV T4))]) 120 (fun p => p ≤ vs.length) (fun p => vs.length - p) 0 (Nat.zero_le _) (Weak.oC hcx [(448, 448), (2112, 2112), (4096, 4096)] (by refine ⟨?_, ?_, ?_⟩ <;> simp [go_sem, gL, kL, List.map_append, dv_push, d4])) ?_; simp only [St.at_nil, St.at_cons, lk, Nat.reduceEqDiff, ↓reduceIte, Option.getD_some, Option.getD_none, List.cons_append, List.nil_append, List.append_nil]
  intro m m1
  by_cases hm : m < vs.length
  rotate_left
  ·obtain rfl : m = vs.length := by omega
   repeat' (first | ((first | refine AW.sreg rfl fun K hK => ?_ | refine AW.reg rfl ?_); simp only [go_sem, ↓reduceIte, List.length_map]) | (refine AW.seq_k fun K hK => ?_) | (refine AW.exit ?_; simp only [go_sem, ↓reduceIte]) | (refine AW.cF ?_) | (refine hK _ ?_; clear hK K) | (clear hK K; refine hK _ ?_; clear hK K) | (with_reducible refine andI ?_))
   exact ⟨k + 1, by omega, by omega, (Weak.oC hcx [(448, 448), (2112, 2112), (4096, 4096)] (by refine ⟨?_, ?_, ?_⟩ <;> simp [go_sem, gL, kL, List.map_append, dv_push]))⟩
  obtain ⟨y, hy, hym, -⟩ := get_some hm
  have hgy : (vs.map rvD)[m]? = some (rvD y) := by simp only [List.getElem?_map, hy, Option.map_some]
  obtain ⟨-, o1, ⟨jj, hjj, o2⟩, o3, o4, o5, o6⟩ := vok y hym
  clear hy hym
  obtain ⟨no, at1, ppp, pe, by1, dn, an⟩ := y
  dsimp only at o1 o2 o3 o4 o5 o6
  subst o1 o2 o3 o4
  have hco := contains_Pr x.pairs (by omega) (pa.1, rdN jj)
  rw [decide_eq_false (rd_no hx hjj _)] at hco
  repeat' (first | ((first | refine AW.sreg rfl fun K hK => ?_ | refine run_call _ _ _ ((hco).pure rfl rfl _ _) rfl rfl (dstOk_of rfl) rfl rfl rfl ?_); simp only [go_sem, ↓reduceIte, hgy, List.length_map]) | (refine AW.seq_k fun K hK => ?_) | (refine AW.block ?_) | (refine AW.skip ?_; simp only [Then, InBlock]) | (refine AW.cT ?_) | (refine AW.cF ?_) | (refine hK _ ?_; clear hK K) | (with_reducible refine andI ?_))
  refine AW.loopF (ι := Nat) [4, 5, 7, 9, 34, 35, 36, 41, 42, 43, 47, 48, 49, 76, 77, 78, 106, 107] (fun p => [(108, I p)]) (fun p => [(448, some (O.box 31 (suV x))), (2112, some (O.box 56 [S pa.1, S pa.2.1, S pa.2.2.1, .d (.sl (pa.2.2.2.1.map D.str)), .d (.sl (pa.2.2.2.2.map D.str))])), (4096, some (IV T4))]) 160 (fun p => p ≤ an.length) (fun p => an.length - p) 0 (Nat.zero_le _) (Weak.oC hcx [(448, 448), (2112, 2112), (4096, 4096)] (by refine ⟨?_, ?_, ?_⟩ <;> simp [go_sem, gL, kL, List.map_append, dv_push, d4])) ?_; simp only [St.at_nil, St.at_cons, lk, Nat.reduceEqDiff, ↓reduceIte, Option.getD_some, Option.getD_none, List.cons_append, List.nil_append, List.append_nil]
  intro e f1
  by_cases he : e < an.length
  rotate_left
  ·obtain rfl : e = an.length := by omega
   repeat' (first | ((first | refine AW.sreg rfl fun K hK => ?_ | refine AW.reg rfl ?_); simp only [go_sem, ↓reduceIte, List.length_map]) | (refine AW.seq_k fun K hK => ?_) | (refine AW.exit ?_; simp only [go_sem, ↓reduceIte]) | (refine AW.cF ?_) | (refine hK _ ?_; clear hK K) | (clear hK K; refine hK _ ?_; clear hK K) | (with_reducible refine andI ?_))
   exact ⟨m + 1, by omega, by omega, (Weak.oC hcx [(448, 448), (2112, 2112), (4096, 4096)] (by refine ⟨?_, ?_, ?_⟩ <;> simp [go_sem, gL, kL, List.map_append, dv_push]))⟩
  obtain ⟨a, ha, ham, -⟩ := get_some he
  have hga : (an.map anD)[e]? = some (anD a) := by simp only [List.getElem?_map, ha, Option.map_some]
  have hcf := containsFunc_Qu x.sheet (by have := hx.sheet.len; omega) 23 (.ptr [.str a.1, .int .i64 a.2.1, .str a.2.2.1, .str a.2.2.2] 0) (fun q => q.1 == a.1 && q.2.2.2.2.2) (fun q _ => sec1_any q a)
  rw [sec_none hx (o6 a ham).1 (o6 a ham).2] at hcf
  repeat' (first | ((first | refine AW.sreg rfl fun K hK => ?_ | refine AW.reg rfl ?_ | refine run_call _ _ _ ((hcf).lend (by repeat' (first | exact frzL_nil | refine frzL_cons (by first | exact frz_d | exact frz_slr rfl rfl (by first | (simp; done) | (simp; omega) | (simp [*]; done) | fail) | rfl) ?_)) rfl rfl rfl) rfl rfl (dstOk_of rfl) rfl rfl rfl ?_); simp only [go_sem, ↓reduceIte, hga, List.length_map]) | (refine AW.seq_k fun K hK => ?_) | (refine AW.block ?_) | (refine AW.skip ?_; simp only [Then, InBlock]) | (refine AW.cT ?_) | (refine AW.cF ?_) | (refine hK _ ?_; clear hK K) | (with_reducible refine andI ?_))
  exact ⟨e + 1, by omega, by omega, (Weak.oC hcx [(448, 448), (2112, 2112), (4096, 4096)] (by refine ⟨?_, ?_, ?_⟩ <;> simp [go_sem, gL, kL, List.map_append, dv_push]))⟩
end Go.AX
