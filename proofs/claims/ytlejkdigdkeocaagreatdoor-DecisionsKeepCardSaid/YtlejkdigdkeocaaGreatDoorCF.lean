/- Decisions keep what they promise: the law. -/
import Derived.Test.YtlejkdigdkeocaaGreatDoorCE
set_option linter.unusedSimpArgs false
set_option linter.unusedVariables false
set_option linter.unnecessarySimpa false
set_option maxRecDepth 1000000
set_option maxHeartbeats 4000000
namespace Go.AX
open Go Go.Proofs Go.RowKit
theorem indexFuncP_Er (xs : List Int) (hl : xs.length ≤ 1000) (c : Nat) (q : Int → Bool) (hc : ∀ x ∈ xs, Does Tryz.prog c [.d ((D.int .i64) x)] [] (B (q x)) []) :
    Does Tryz.prog 163 [.d (.sl (xs.map (D.int .i64))), .fn c []] [] (I (idxG q xs 0)) [] := by
  refine Does.of_AW (n := 19) Tryz.func163 rfl rfl rfl fun cx hcx => ?_
  generalize hR : idxG q xs 0 = R
  repeat' (first | (refine AW.sreg rfl fun K hK => ?_; simp only [go_sem, ↓reduceIte, List.length_map]) | (refine AW.seq_k fun K hK => ?_) | (refine AW.block ?_) | (refine hK _ ?_; clear hK K))
  refine AW.loopF (ι := Nat) [0, 1, 7] (fun p => [(8, I p)]) (fun p => []) 1 (fun p => p ≤ xs.length ∧ idxG q (xs.drop p) p = R) (fun p => xs.length - p) 0 ⟨by simp, hR⟩ (Weak.aC hcx (by refine ⟨?_, ?_, ?_⟩ <;> simp [go_sem, gL, kL, renOf, V.obj, Nat.blt, Nat.ble, List.map_append, dv_push])) ?_; simp only [St.at_nil, St.at_cons, lk, Nat.reduceEqDiff, ↓reduceIte, Option.getD_some, Option.getD_none, List.cons_append, List.nil_append, List.append_nil]
  rintro i ⟨h1, h2⟩
  by_cases hi : i < xs.length
  · obtain ⟨x, hx, hxm, hxd⟩ := get_some hi
    have hget : (xs.map (D.int .i64))[i]? = some ((D.int .i64) x) := by simp [hx]
    rw [hxd, idxG] at h2
    repeat' (first | ((first | refine AW.sreg rfl fun K hK => ?_ | refine AW.reg rfl ?_ | refine run_call _ _ _ ((hc x hxm).pure rfl rfl _ _) rfl rfl (dstOk_of rfl) rfl rfl rfl ?_); simp only [go_sem, ↓reduceIte, List.length_map, hget]) | (refine AW.seq_k fun K hK => ?_) | (refine AW.block ?_) | (refine AW.skip ?_; simp only [Then, InBlock]) | (refine AW.cT ?_) | (refine AW.cond rfl (fun h => ?_) (fun h => ?_) <;> (try simp only [decide_eq_true_eq, decide_eq_false_iff_not, Bool.not_eq_true', Bool.not_eq_false', Bool.not_eq_eq_eq_not, Bool.not_true, Bool.not_false, beq_iff_eq, bne_iff_ne, beq_eq_false_iff_ne, ne_eq, Bool.and_eq_true, Bool.or_eq_true, Bool.or_eq_false_iff] at h)) | (refine hK _ ?_; clear hK K) | (with_reducible refine andI ?_) | (refine AW.ret (Fin.data rfl (by first | (simp only [go_sem]; done) | ((rw [if_pos h] at h2; subst h2; simp [go_sem]); done) | (simp [go_sem]; omega) | rfl) rfl)))
    rw [if_neg (by simp [h])] at h2
    exact ⟨i + 1, ⟨hi, h2⟩, by omega, (Weak.aC hcx (by refine ⟨?_, ?_, ?_⟩ <;> simp [go_sem, gL, kL, renOf, V.obj, Nat.blt, Nat.ble, List.map_append, dv_push]))⟩
  · obtain rfl : i = xs.length := by omega
    simp only [List.drop_length, idxG] at h2
    subst h2
    repeat' (first | (refine AW.sreg rfl fun K hK => ?_; simp only [go_sem, ↓reduceIte, List.length_map]) | (refine AW.seq_k fun K hK => ?_) | (refine AW.exit ?_; simp only [go_sem, ↓reduceIte]) | (refine AW.cF ?_) | (refine hK _ ?_; clear hK K) | (clear hK K; refine hK _ ?_; clear hK K) | (refine AW.ret (Fin.data rfl (by first | (simp only [go_sem]; done) | (simp [go_sem, *]; done) | (simp [go_sem]; omega) | rfl) rfl)))
theorem containsFuncP_Er (xs : List Int) (hl : xs.length ≤ 1000) (c : Nat) (q : Int → Bool) (hc : ∀ x ∈ xs, Does Tryz.prog c [.d ((D.int .i64) x)] [] (B (q x)) []) :
    Does Tryz.prog 96 [.d (.sl (xs.map (D.int .i64))), .fn c []] [] (B (xs.any q)) [] := by
  rw [← idxG_any q xs 0]
  refine Does.of_AW (n := 9) Tryz.func96 rfl rfl rfl fun cx hcx => ?_
  repeat' (first | ((first | refine AW.sreg rfl fun K hK => ?_ | refine run_call _ _ _ ((indexFuncP_Er xs hl c q hc).pure rfl rfl _ _) rfl rfl (dstOk_of rfl) rfl rfl rfl ?_); simp only [go_sem, ↓reduceIte]) | (refine hK _ ?_; clear hK K) | (refine AW.ret (Fin.data rfl (by first | (simp only [go_sem]; done) | (simp [go_sem, *]; done) | (simp [go_sem]; omega) | rfl) rfl)))

theorem errOf1_any (x : Int) : Does Tryz.prog 97 [I x] [] (B (x != 0)) [] := by
  refine Does.of_AW (n := 5) Tryz.func97 rfl rfl rfl fun cx hcx => ?_
  repeat' (first | (refine AW.sreg rfl fun K hK => ?_; simp only [go_sem, ↓reduceIte]) | (refine hK _ ?_; clear hK K) | (refine AW.ret (Fin.data rfl (by first | (simp only [go_sem]; done) | (simp [go_sem, *]; done) | (simp [go_sem]; omega) | rfl) rfl)))
theorem errOf2_any (x y : Int) (h : ¬ (x = 0 ∧ y = 0)) : Does Tryz.prog 34 [.d (.sl [.int .i64 x, .int .i64 y])] [] (B true) [] := by
  have hc := containsFuncP_Er [x, y] (by simp) 97 (fun x => x != 0) (fun x _ => errOf1_any x)
  have e : ([x, y].any fun x => x != 0) = true := by
    by_cases hx : x = 0
    · have hy : ¬ y = 0 := fun e => h ⟨hx, e⟩
      simp [hx, hy]
    · simp [hx]
  rw [e] at hc
  refine Does.of_AW (n := 5) Tryz.func34 rfl rfl rfl fun cx hcx => ?_
  repeat' (first | ((first | refine AW.sreg rfl fun K hK => ?_ | refine run_call _ _ _ ((hc).pure rfl rfl _ _) rfl rfl (dstOk_of rfl) rfl rfl rfl ?_); simp only [go_sem, ↓reduceIte]) | (refine hK _ ?_; clear hK K) | (refine AW.ret (Fin.data rfl (by first | (simp only [go_sem]; done) | (simp [go_sem, *]; done) | (simp [go_sem]; omega) | rfl) rfl)))
theorem pas_key {ps : List Pa} (h : goF pasF [] ps = 0) {p : Pa} (hp : p ∈ ps) : keyB p.1 = true := by
  obtain ⟨i, hi⟩ := List.mem_iff_getElem?.1 hp
  have h0 := goF_zero pasF ps [] h i p hi
  unfold pasF paF at h0
  by_cases hk : (keyB p.1 && keyB p.2.1) = false
  · rw [if_pos hk] at h0; cases h0
  · simp at hk
    exact hk.1
theorem mn_bd {ns : List Int} (h : In10 ns) : (-400 ≤ (mnF ns).1 ∧ (mnF ns).1 ≤ 400) ∧ -400 ≤ (mnF ns).2 ∧ (mnF ns).2 ≤ 400 := by
  have hl := h.1
  have hb := sum_bd h.2
  by_cases h0 : ns = []
  · subst h0; decide
  have hpos : 0 < ns.length := List.length_pos_iff.2 h0
  have hg := gcd_pos ns.sum ns.length (by omega)
  rw [← low_mn]
  exact ⟨tdiv_fits ns.sum (Int.gcd ns.sum ns.length) 400 hg (by omega), tdiv_fits ns.length (Int.gcd ns.sum ns.length) 400 hg (by omega)⟩
/-- How many are taken of each track so far. -/
structure CtOk (ps : List Pa) (d : List De) (i : Nat) (cs : List (Str × Int)) : Prop where
  nd : (cs.map (·.1)).Nodup
  val : ∀ c ∈ cs, c.2 = cntT ps d c.1 i
  out : ∀ t, t ∉ cs.map (·.1) → cntT ps d t i = 0
theorem cntT_step {ps : List Pa} {d : List De} {i : Nat} {x : De} {p : Pa} (hx : d[i]? = some x) (hp : ps[i]? = some p) (t : Str) : cntT ps d t (i + 1) = cntT ps d t i + if x.2.1 = true ∧ p.2.1 = t then 1 else 0 := by
  unfold cntT
  rw [List.range_succ, List.filter_append, List.length_append]
  congr 1
  by_cases h : x.2.1 = true ∧ p.2.1 = t
  · rw [if_pos h]
    simp [hx, hp, h.1, h.2]
  · rw [if_neg h]
    have : ((d[i]?.map (·.2.1) == some true) && (ps[i]?.map (·.2.1) == some t)) = false := by
      rw [hx, hp]
      simp only [Option.map_some]
      by_cases h1 : x.2.1 = true
      · have h2 : ¬ p.2.1 = t := fun e => h ⟨h1, e⟩
        simp [h2]
      · simp [h1]
    simp [this]
theorem CtOk.step {ps : List Pa} {d : List De} {i : Nat} {cs : List (Str × Int)} (h : CtOk ps d i cs) {x : De} {p : Pa} (hx : d[i]? = some x) (hp : ps[i]? = some p) :
    (x.2.1 = false → CtOk ps d (i + 1) cs) ∧ (x.2.1 = true → (∀ j c, cs[j]? = some c → c.1 = p.2.1 → CtOk ps d (i + 1) (cs.set j (p.2.1, c.2 + 1))) ∧ (p.2.1 ∉ cs.map (·.1) → CtOk ps d (i + 1) (cs ++ [(p.2.1, 1)]))) := by
  have hs := fun t => cntT_step hx hp t
  refine ⟨fun hy => ⟨h.nd, fun c hc => ?_, fun t ht => ?_⟩, fun hy => ⟨fun j c hj hc => ?_, fun hn => ?_⟩⟩
  · rw [hs, if_neg (by simp [hy]), h.val c hc]; simp
  · rw [hs, if_neg (by simp [hy]), h.out t ht]
  · have hk : (cs.set j (p.2.1, c.2 + 1)).map (·.1) = cs.map (·.1) := by
      rw [List.map_set]
      exact set_same (by rw [List.getElem?_map, hj, ← hc]; rfl)
    refine ⟨by rw [hk]; exact h.nd, fun c2 hc2 => ?_, fun t ht => ?_⟩
    · obtain ⟨j2, hj2⟩ := List.mem_iff_getElem?.1 hc2
      by_cases e : j = j2
      · subst e
        rw [List.getElem?_set_self (get_lt hj)] at hj2
        obtain rfl := Option.some.inj hj2
        simp only
        rw [hs, if_pos ⟨hy, rfl⟩, h.val c (List.mem_of_getElem? hj), hc]
        simp
      · rw [List.getElem?_set_ne e] at hj2
        have hne : ¬ p.2.1 = c2.1 := fun e2 => e (by
          refine nodup_idx h.nd (x := c2.1) ?_ ?_
          · rw [List.getElem?_map, hj, Option.map_some, hc, e2]
          · rw [List.getElem?_map, hj2]; rfl)
        rw [hs, if_neg (fun e3 => hne e3.2), h.val c2 (List.mem_of_getElem? hj2)]
        simp
    · rw [hk] at ht
      have hne : ¬ p.2.1 = t := by
        rintro rfl
        exact ht (by rw [← hc]; exact List.mem_map_of_mem (List.mem_of_getElem? hj))
      rw [hs, if_neg (fun e3 => hne e3.2), h.out t ht]
  · refine ⟨by rw [List.map_append, List.nodup_append]; exact ⟨h.nd, by simp, fun a ha b hb => by obtain rfl : b = p.2.1 := (by simpa using hb); rintro rfl; exact hn ha⟩, fun c hc => ?_, fun t ht => ?_⟩
    · rcases List.mem_append.1 hc with hc | hc
      · have hne : ¬ p.2.1 = c.1 := fun e => hn (by rw [e]; exact List.mem_map_of_mem hc)
        rw [hs, if_neg (fun e3 => hne e3.2), h.val c hc]; simp
      · obtain rfl := List.mem_singleton.1 hc
        simp only
        rw [hs, if_pos ⟨hy, rfl⟩, h.out _ hn]
        simp
    · rw [List.map_append, List.mem_append, not_or] at ht
      have hne : ¬ p.2.1 = t := by
        rintro rfl
        exact ht.2 (by simp)
      rw [hs, if_neg (fun e3 => hne e3.2), h.out t ht.1]
theorem law_ok (l : List Int) (hl2 : l.length ≤ 9223372036854775807) : Does Tryz.prog 7 [Ls l] [] (B true) [] := by
  have n1 := next_any l hl2 0 4 (by omega) (by omega) (by omega) (by omega)
  have r1 := nextV_range l 0 4 (by omega)
  generalize nextV l 0 4 = kk at n1 r1
  have hp2 := pick_any l hl2 (0 + 1) (by omega) (by omega) [0, 50, 60] (by simp) (by simp)
  have hd2 := pick_mem l (0 + 1) [0, 50, 60] (by simp)
  generalize ([0, 50, 60] : List Int).getD (nextV l (0 + 1) ([0, 50, 60] : List Int).length).toNat 0 = fl at hp2 hd2
  have hfl : fl ∈ FL3 := hd2
  refine Does.of_AW (n := 168) Tryz.func7 rfl rfl rfl fun cx hcx => ?_
  repeat' (first | ((first | refine AW.sreg rfl fun K hK => ?_ | refine AW.sregD hmix rfl fun K hK => ?_); simp only [go_sem, ↓reduceIte]) | (refine hK _ ?_; clear hK K))
  suffices hA : ∀ by_ ∈ BY4, ∀ s, Weak cx s (⟨168, [(3, .ptr 192 0), (4, .ptr 1152 0)], [(192, some (Stm l (0 + 1 + 1))), (1152, some (O.box 75 [.d (.sl (by_.map (D.int .i64))), I fl]))], 40⟩ : St) → K s by
    clear hK
    have hkk : kk = 0 ∨ kk = 1 ∨ kk = 2 ∨ kk = 3 := by omega
    have d1 : ∀ x : D, dv [x] = [V.d x] := fun _ => rfl
    have d2 : ∀ x y : D, dv [x, y] = [V.d x, V.d y] := fun _ _ => rfl
    rcases hkk with rfl | rfl | rfl | rfl
    · repeat' (first | (with_reducible refine And.intro (?_ : regOk _ _ = true) ?_; kernel_rfl) | ((first | refine runT_call _ _ [192] (fun hv hag => (n1).objs [192] ⟨((hag 192 (by simp)).trans rfl), trivial⟩ rfl (by decide) (by simp [go_sem, renOs]) (by simp) (by simp) (by simp [go_sem]) (by simp [go_sem]) (by simp [go_sem]) (by simp [go_sem])) rfl rfl (dstOk_of rfl) rfl rfl ?_ | refine runT_call _ _ [192, 960] (fun hv hag => (hp2).objs [192, 960] ⟨((hag 192 (by simp)).trans rfl), ((hag 960 (by simp)).trans rfl), trivial⟩ rfl (by decide) (by simp [go_sem, renOs]) (by simp) (by simp) (by simp [go_sem]) (by simp [go_sem]) (by simp [go_sem]) (by simp [go_sem])) rfl rfl (dstOk_of rfl) rfl rfl ?_); simp only [go_sem, ↓reduceIte]) | (with_reducible refine andI ?_))
      exact hA [1] (by simp [BY4]) _ (Weak.oC hcx [(192, 192), (1152, 1152)] (by refine ⟨?_, ?_, ?_⟩ <;> simp [go_sem, gL, kL, List.map_append, dv_push, frz, toD, toDL]))
    · repeat' (first | (with_reducible refine And.intro (?_ : regOk _ _ = true) ?_; kernel_rfl) | ((first | refine runT_call _ _ [192] (fun hv hag => (n1).objs [192] ⟨((hag 192 (by simp)).trans rfl), trivial⟩ rfl (by decide) (by simp [go_sem, renOs]) (by simp) (by simp) (by simp [go_sem]) (by simp [go_sem]) (by simp [go_sem]) (by simp [go_sem])) rfl rfl (dstOk_of rfl) rfl rfl ?_ | refine runT_call _ _ [192, 960] (fun hv hag => (hp2).objs [192, 960] ⟨((hag 192 (by simp)).trans rfl), ((hag 960 (by simp)).trans rfl), trivial⟩ rfl (by decide) (by simp [go_sem, renOs]) (by simp) (by simp) (by simp [go_sem]) (by simp [go_sem]) (by simp [go_sem]) (by simp [go_sem])) rfl rfl (dstOk_of rfl) rfl rfl ?_); simp only [go_sem, ↓reduceIte]) | (with_reducible refine andI ?_))
      exact hA [1, 2] (by simp [BY4]) _ (Weak.oC hcx [(192, 192), (1152, 1152)] (by refine ⟨?_, ?_, ?_⟩ <;> simp [go_sem, gL, kL, List.map_append, dv_push, frz, toD, toDL]))
    · repeat' (first | (with_reducible refine And.intro (?_ : regOk _ _ = true) ?_; kernel_rfl) | ((first | refine runT_call _ _ [192] (fun hv hag => (n1).objs [192] ⟨((hag 192 (by simp)).trans rfl), trivial⟩ rfl (by decide) (by simp [go_sem, renOs]) (by simp) (by simp) (by simp [go_sem]) (by simp [go_sem]) (by simp [go_sem]) (by simp [go_sem])) rfl rfl (dstOk_of rfl) rfl rfl ?_ | refine runT_call _ _ [192, 960] (fun hv hag => (hp2).objs [192, 960] ⟨((hag 192 (by simp)).trans rfl), ((hag 960 (by simp)).trans rfl), trivial⟩ rfl (by decide) (by simp [go_sem, renOs]) (by simp) (by simp) (by simp [go_sem]) (by simp [go_sem]) (by simp [go_sem]) (by simp [go_sem])) rfl rfl (dstOk_of rfl) rfl rfl ?_); simp only [go_sem, ↓reduceIte]) | (with_reducible refine andI ?_))
      exact hA [3, 1] (by simp [BY4]) _ (Weak.oC hcx [(192, 192), (1152, 1152)] (by refine ⟨?_, ?_, ?_⟩ <;> simp [go_sem, gL, kL, List.map_append, dv_push, frz, toD, toDL]))
    · repeat' (first | (with_reducible refine And.intro (?_ : regOk _ _ = true) ?_; kernel_rfl) | ((first | refine runT_call _ _ [192] (fun hv hag => (n1).objs [192] ⟨((hag 192 (by simp)).trans rfl), trivial⟩ rfl (by decide) (by simp [go_sem, renOs]) (by simp) (by simp) (by simp [go_sem]) (by simp [go_sem]) (by simp [go_sem]) (by simp [go_sem])) rfl rfl (dstOk_of rfl) rfl rfl ?_ | refine runT_call _ _ [192, 960] (fun hv hag => (hp2).objs [192, 960] ⟨((hag 192 (by simp)).trans rfl), ((hag 960 (by simp)).trans rfl), trivial⟩ rfl (by decide) (by simp [go_sem, renOs]) (by simp) (by simp) (by simp [go_sem]) (by simp [go_sem]) (by simp [go_sem]) (by simp [go_sem])) rfl rfl (dstOk_of rfl) rfl rfl ?_); simp only [go_sem, ↓reduceIte]) | (with_reducible refine andI ?_))
      exact hA [4, 5] (by simp [BY4]) _ (Weak.oC hcx [(192, 192), (1152, 1152)] (by refine ⟨?_, ?_, ?_⟩ <;> simp [go_sem, gL, kL, List.map_append, dv_push, frz, toD, toDL]))
  intro by_ hby s hw
  refine hK s (AW.weak hw ?_)
  clear hw hK K
  have hpap := papersOf10I l hl2 (0 + 1 + 1 + 1 + 1) (by omega) (by omega) 6 (by omega)
  rw [show ((6 : Nat) : Int) = 6 from rfl] at hpap
  repeat' (first | (refine AW.sreg rfl fun K hK => ?_; simp only [go_sem, ↓reduceIte]) | (refine hK _ ?_; clear hK K) | (refine run_callI _ _ _ ((rangeI l hl2 (0 + 1 + 1) 0 2 (by omega) (by omega) (by omega) (by omega) (by omega)).objs [192] ⟨rfl, trivial⟩ rfl (by decide) (by simp [go_sem, renOs]) (by simp [go_sem]) (by simp [go_sem]) (fun j hj => ⟨by simp, by simp, by simp [go_sem], by simp [go_sem]⟩)) rfl rfl (dstOk_of rfl) rfl rfl rfl ?_; rintro a ha; (try dsimp only at a); (try dsimp only at ha); simp only [go_sem, ↓reduceIte]) | (refine run_callI _ _ _ ((rangeI l hl2 (0 + 1 + 1 + 1) 0 4 (by omega) (by omega) (by omega) (by omega) (by omega)).objs [192] ⟨rfl, trivial⟩ rfl (by decide) (by simp [go_sem, renOs]) (by simp [go_sem]) (by simp [go_sem]) (fun j hj => ⟨by simp, by simp, by simp [go_sem], by simp [go_sem]⟩)) rfl rfl (dstOk_of rfl) rfl rfl rfl ?_; rintro b hb; (try dsimp only at b); (try dsimp only at hb); simp only [go_sem, ↓reduceIte]) | (refine run_callI _ _ _ ((hpap).objs [192] ⟨rfl, trivial⟩ rfl (by decide) (by simp [go_sem, renOs]) (by simp [go_sem]) (by simp [go_sem]) (fun j hj => ⟨by simp, by simp, by simp [go_sem], by simp [go_sem]⟩)) rfl rfl (dstOk_of rfl) rfl rfl rfl ?_; rintro q hq; (try dsimp only at q); (try dsimp only at hq); simp only [go_sem, ↓reduceIte]))
  obtain ⟨ps, a1⟩ := q
  obtain ⟨⟨hq1, hq2⟩, hq3, hq4⟩ := hq
  dsimp only at hq1 hq2 hq3 hq4 ⊢
  first | (refine run_callI _ _ _ ((marks10I l hl2 a1 (by omega) (by omega)).objs [192] ⟨rfl, trivial⟩ rfl (by decide) (by simp [go_sem, renOs]) (by simp [go_sem]) (by simp [go_sem]) (fun j hj => ⟨by simp, by simp, by simp [go_sem], by simp [go_sem]⟩)) rfl rfl (dstOk_of rfl) rfl rfl rfl ?_; rintro q hq; (try dsimp only at q); (try dsimp only at hq); simp only [go_sem, ↓reduceIte])
  obtain ⟨ms, a2⟩ := q
  obtain ⟨⟨hm1, hm2⟩, -, -⟩ := hq
  dsimp only at hm1 hm2 ⊢
  have hpl : ps.length ≤ 6 := by omega
  have hms : MsS ms := ⟨by omega, fun m hm => by
    have h1 := (show ∀ s ∈ MPx, s.length ≤ 1000 by decide) _ (hm1 m hm).pa
    have h2 := (show ∀ s ∈ MQ4, s.length ≤ 1000 by decide) _ (hm1 m hm).pe
    exact ⟨h1, h2⟩⟩
  have haa : a ∈ ([0, 1, 2] : List Int) := by simp only [List.mem_cons, List.not_mem_nil, or_false]; omega
  have hbb : b ∈ ([0, 1, 2, 3, 4] : List Int) := by simp only [List.mem_cons, List.not_mem_nil, or_false]; omega
  suffices hB : ∀ s, Weak cx s (⟨168, [(4, .ptr 1152 0), (5, .d (qtD a b)), (6, .d (.sl (ps.map paD))), (7, .d (.sl (ms.map mkD)))], [(1152, some (O.box 75 [.d (.sl (by_.map (D.int .i64))), I fl]))], 80⟩ : St) → K s by
    clear hK
    exact hB _ (Weak.oC hcx [(1152, 1152)] (by refine ⟨?_, ?_, ?_⟩ <;> simp [go_sem, gL, kL, List.map_append, dv_push, frz, toD, toDL, demo, main_]))
  intro s hw
  refine hK s (AW.weak hw ?_)
  clear hw hK K
  by_cases hgood : goF pasF [] ps = 0 ∧ msF ms = 0
  rotate_left
  · have hdb := decide_bad hpl hq2 hms hgood hby hfl haa hbb
    have hcm := checkMarks_any ms (by omega) hms.2
    have hpf := paperForms_any ps (by omega) hq2
    have he2 := errOf2_any (msF ms) (goF pasF [] ps) (fun h => hgood ⟨h.2, h.1⟩)
    generalize msF ms = x1 at *
    generalize goF pasF [] ps = x2 at *
    repeat' (first | (refine AW.sreg rfl fun K hK => ?_; simp only [go_sem, ↓reduceIte]) | (refine AW.seq_k fun K hK => ?_) | (refine AW.cT ?_) | (refine hK _ ?_; clear hK K) | (refine run_callI _ _ _ ((hdb).pure rfl (fun _ => rfl) _ _) rfl rfl (dstOk_of rfl) rfl rfl rfl ?_; rintro e he; (try dsimp only at e); (try dsimp only at he); simp only [go_sem, ↓reduceIte]))
    have heb : (e != 0) = true := by simpa using he
    repeat' (first | (refine hK _ ?_; clear hK K) | ((first | refine run_call _ _ _ ((hcm).pure rfl rfl _ _) rfl rfl (dstOk_of rfl) rfl rfl rfl ?_ | refine run_call _ _ _ ((hpf).pure rfl rfl _ _) rfl rfl (dstOk_of rfl) rfl rfl rfl ?_ | refine run_call _ _ _ ((he2).lend (by repeat' (first | exact frzL_nil | refine frzL_cons (by first | exact frz_d | exact frz_slr rfl rfl (by first | (simp; done) | (simp; omega) | (simp [*]; done) | fail) | rfl) ?_)) rfl rfl rfl) rfl rfl (dstOk_of rfl) rfl rfl rfl ?_ | refine run_call _ _ _ ((stands_ok).pure rfl rfl _ _) rfl rfl (dstOk_of rfl) rfl rfl rfl ?_); simp only [go_sem, ↓reduceIte, heb]))
    exact AW.ret (Fin.data rfl (by simp [go_sem]) rfl)
  obtain ⟨g1, g2⟩ := hgood
  repeat' (first | (refine AW.sreg rfl fun K hK => ?_; simp only [go_sem, ↓reduceIte]) | (refine AW.seq_k fun K hK => ?_) | (refine AW.block ?_) | (refine AW.skip ?_; simp only [Then, InBlock]) | (refine AW.cF ?_) | (refine hK _ ?_; clear hK K) | (refine run_callI _ _ _ ((decideI hpl hq2 hms g1 g2 hby hfl haa hbb).pure rfl (fun _ => rfl) _ _) rfl rfl (dstOk_of rfl) rfl rfl rfl ?_; rintro d hd; (try dsimp only at d); (try dsimp only at hd); simp only [go_sem, ↓reduceIte]))
  have dvz : dv [] = [] := rfl
  have hkey : ∀ (k : Nat) (y : De), d[k]? = some y → keyB y.1 = true ∧ y.1.length ≤ 1000 := fun k y hy => by
    have h1 : (ps.map (·.1))[k]? = some y.1 := by rw [← hd.ids, List.getElem?_map, hy]; rfl
    rw [List.getElem?_map] at h1
    obtain ⟨q, hq, he⟩ := Option.map_eq_some_iff.1 h1
    have h2 := pas_key g1 (List.mem_of_getElem? hq)
    have h3 := len_all40 q.1 (mem_keys (.inl (hq2 q (List.mem_of_getElem? hq)).1.id))
    rw [he] at h2 h3
    exact ⟨h2, by omega⟩
  have hdl : d.length = ps.length := by have := congrArg List.length hd.ids; simpa using this
  refine AW.loopF (ι := Nat × List (Str × Int)) [5, 6, 7, 8, 10, 66, 67] (fun p => [(68, I p.1)]) (fun p => [(5888, some (O.map (p.2.map fun c => D.str c.1) (dv (p.2.map fun c => D.int .i64 c.2))))]) 110 (fun p => p.1 ≤ d.length ∧ CtOk ps d p.1 p.2) (fun p => d.length - p.1) (0, []) ⟨Nat.zero_le _, by simp, by simp, by simp [cntT]⟩ (Weak.aC hcx (by refine ⟨?_, ?_, ?_⟩ <;> simp [go_sem, gL, kL, renOf, V.obj, Nat.blt, Nat.ble, List.map_append, dv_push, List.map_nil, dvz])) ?_; simp only [St.at_nil, St.at_cons, lk, Nat.reduceEqDiff, ↓reduceIte, Option.getD_some, Option.getD_none, List.cons_append, List.nil_append, List.append_nil]
  rintro ⟨i, cs⟩ ⟨k1, k2⟩
  dsimp only at k1 k2 ⊢
  by_cases hi : i < d.length
  rotate_left
  · obtain rfl : i = d.length := by omega
    have hlk : ∀ t, 0 ≤ moF a b t → fndK (.str t) (cs.map fun c => D.str c.1) = some none ∨ ∃ (j : Nat) (v : Int), fndK (.str t) (cs.map fun c => D.str c.1) = some (some j) ∧ (dv (cs.map fun c => D.int .i64 c.2))[j]? = some (I v) ∧ v ≤ moF a b t := fun t h0 => by
      have e : (cs.map fun c => D.str c.1) = (cs.map (·.1)).map D.str := by simp
      rw [e, fnd_st]
      by_cases hin : t ∈ cs.map (·.1)
      · obtain ⟨j, hj⟩ := List.getElem?_of_mem hin
        refine .inr ⟨j, cntT ps d t d.length, by rw [fidx_in k2.nd hj], ?_, hd.cnt t h0 _⟩
        rw [List.getElem?_map] at hj
        obtain ⟨c, hcj, hce⟩ := Option.map_eq_some_iff.1 hj
        have h1 := k2.val c (List.mem_of_getElem? hcj)
        have hcf : c.1 = t := hce
        rw [hcf] at h1
        simp [dv, hcj, h1]
      · exact .inl (by rw [fidx_out hin])
    have ma : moF a b demo = a := if_pos rfl
    have mb : moF a b main_ = b := (if_neg (by decide)).trans (if_pos rfl)
    have ha0 : 0 ≤ a ∧ a ≤ 2 := by omega
    have hb0 : 0 ≤ b ∧ b ≤ 4 := by omega
    have h1 := hlk demo (by omega)
    have h2 := hlk main_ (by omega)
    rw [ma] at h1
    rw [mb] at h2
    unfold demo at h1
    unfold main_ at h2
    clear hlk hd hkey ma mb
    have za : decide (0 ≤ a) = true := by simpa using ha0.1
    have zb : decide (0 ≤ b) = true := by simpa using hb0.1
    rcases h1 with h1 | ⟨j1, v1, h1, g1, l1⟩ <;> rcases h2 with h2 | ⟨j2, v2, h2, g2, l2⟩
    · simp only [go_sem, ↓reduceIte, h1, h2]
      repeat' (first | ((first | refine AW.sreg rfl fun K hK => ?_ | refine AW.sregD hmix rfl fun K hK => ?_ | refine runT_call _ _ [] (fun hv _ => (stands_ok).pure rfl rfl hv _) rfl rfl (dstOk_of rfl) rfl rfl ?_); simp only [go_sem, ↓reduceIte, List.length_map, h1, h2, za, zb]) | (refine AW.seq_k fun K hK => ?_) | (refine AW.exit ?_; simp only [go_sem, ↓reduceIte]) | (refine AW.cF ?_) | (refine hK _ ?_; clear hK K) | (clear hK K; refine hK _ ?_; clear hK K) | (with_reducible refine And.intro (?_ : regOk _ _ = true) ?_; kernel_rfl) | (with_reducible refine andI ?_))
      exact AW.ret (Fin.data rfl (by simp [go_sem]) rfl)
    · have lb : decide (v2 ≤ b) = true := by simpa using l2
      simp only [go_sem, ↓reduceIte, h1, h2, g2]
      repeat' (first | ((first | refine AW.sreg rfl fun K hK => ?_ | refine AW.sregD hmix rfl fun K hK => ?_ | refine runT_call _ _ [] (fun hv _ => (stands_ok).pure rfl rfl hv _) rfl rfl (dstOk_of rfl) rfl rfl ?_); simp only [go_sem, ↓reduceIte, List.length_map, h1, h2, g2, za, lb]) | (refine AW.seq_k fun K hK => ?_) | (refine AW.exit ?_; simp only [go_sem, ↓reduceIte]) | (refine AW.cF ?_) | (refine hK _ ?_; clear hK K) | (clear hK K; refine hK _ ?_; clear hK K) | (with_reducible refine And.intro (?_ : regOk _ _ = true) ?_; kernel_rfl) | (with_reducible refine andI ?_))
      exact AW.ret (Fin.data rfl (by simp [go_sem]) rfl)
    · have la : decide (v1 ≤ a) = true := by simpa using l1
      simp only [go_sem, ↓reduceIte, h1, h2, g1]
      repeat' (first | ((first | refine AW.sreg rfl fun K hK => ?_ | refine AW.sregD hmix rfl fun K hK => ?_ | refine runT_call _ _ [] (fun hv _ => (stands_ok).pure rfl rfl hv _) rfl rfl (dstOk_of rfl) rfl rfl ?_); simp only [go_sem, ↓reduceIte, List.length_map, h1, h2, g1, la, zb]) | (refine AW.seq_k fun K hK => ?_) | (refine AW.exit ?_; simp only [go_sem, ↓reduceIte]) | (refine AW.cF ?_) | (refine hK _ ?_; clear hK K) | (clear hK K; refine hK _ ?_; clear hK K) | (with_reducible refine And.intro (?_ : regOk _ _ = true) ?_; kernel_rfl) | (with_reducible refine andI ?_))
      exact AW.ret (Fin.data rfl (by simp [go_sem]) rfl)
    · have la : decide (v1 ≤ a) = true := by simpa using l1
      have lb : decide (v2 ≤ b) = true := by simpa using l2
      simp only [go_sem, ↓reduceIte, h1, h2, g1, g2]
      repeat' (first | ((first | refine AW.sreg rfl fun K hK => ?_ | refine AW.sregD hmix rfl fun K hK => ?_ | refine runT_call _ _ [] (fun hv _ => (stands_ok).pure rfl rfl hv _) rfl rfl (dstOk_of rfl) rfl rfl ?_); simp only [go_sem, ↓reduceIte, List.length_map, h1, h2, g1, g2, la, lb]) | (refine AW.seq_k fun K hK => ?_) | (refine AW.exit ?_; simp only [go_sem, ↓reduceIte]) | (refine AW.cF ?_) | (refine hK _ ?_; clear hK K) | (clear hK K; refine hK _ ?_; clear hK K) | (with_reducible refine And.intro (?_ : regOk _ _ = true) ?_; kernel_rfl) | (with_reducible refine andI ?_))
      exact AW.ret (Fin.data rfl (by simp [go_sem]) rfl)
  obtain ⟨x, hx, hxm, -⟩ := get_some hi
  obtain ⟨p, hpp, hpm, -⟩ := get_some (l := ps) (i := i) (by omega)
  have hget : (d.map deD)[i]? = some (deD x) := by simp [hx]
  have hgetp : (ps.map paD)[i]? = some (paD p) := by simp [hpp]
  have hst := k2.step hx hpp
  obtain ⟨xid, xy, xr⟩ := x
  cases xy with
  | false =>
    repeat' (first | ((first | refine AW.sreg rfl fun K hK => ?_ | refine AW.reg rfl ?_); simp only [go_sem, ↓reduceIte, List.length_map, hget]) | (refine AW.seq_k fun K hK => ?_) | (refine AW.block ?_) | (refine AW.skip ?_; simp only [Then, InBlock]) | (refine AW.exit ?_; simp only [go_sem, ↓reduceIte]) | (refine AW.cT ?_) | (refine hK _ ?_; clear hK K) | (clear hK K; refine hK _ ?_; clear hK K) | (with_reducible refine andI ?_))
    exact ⟨(i + 1, cs), ⟨hi, hst.1 rfl⟩, by simp only; omega, (Weak.aC hcx (by refine ⟨?_, ?_, ?_⟩ <;> simp [go_sem, gL, kL, renOf, V.obj, Nat.blt, Nat.ble, List.map_append, dv_push]))⟩
  | true =>
  obtain ⟨hs1, hs2⟩ := hst.2 rfl
  repeat' (first | (refine AW.sreg rfl fun K hK => ?_; simp only [go_sem, ↓reduceIte, List.length_map, hget, hgetp]) | (refine AW.seq_k fun K hK => ?_) | (refine AW.block ?_) | (refine AW.skip ?_; simp only [Then, InBlock]) | (refine AW.cT ?_) | (refine AW.cF ?_) | (refine hK _ ?_; clear hK K) | (with_reducible refine andI ?_))
  suffices hC : ∀ cs2, CtOk ps d (i + 1) cs2 → ∀ s, Weak cx s (⟨168, [(5, .d (qtD a b)), (6, .d (.sl (ps.map paD))), (7, .d (.sl (ms.map mkD))), (8, .d (.sl (d.map deD))), (10, .mpr 5888), (11, I i), (12, .ptr 7296 0), (66, .d (.sl (d.map deD))), (67, I d.length), (68, I i)], [(7296, some (O.box 90 [S xid, B true, I xr])), (5888, some (O.map (cs2.map fun c => D.str c.1) (dv (cs2.map fun c => D.int .i64 c.2))))], 140⟩ : St) → K s by
    clear hK
    by_cases hin : p.2.1 ∈ cs.map (·.1)
    · obtain ⟨j, hj⟩ := List.getElem?_of_mem hin
      have hf : fndK (.str p.2.1) (cs.map fun c => D.str c.1) = some (some j) := by
        have e : (cs.map fun c => D.str c.1) = (cs.map (·.1)).map D.str := by simp
        rw [e, fnd_st, fidx_in k2.nd hj]
      rw [List.getElem?_map] at hj
      obtain ⟨c, hcj, hce⟩ := Option.map_eq_some_iff.1 hj
      have hgv : (dv (cs.map fun c => D.int .i64 c.2))[j]? = some (I c.2) := by simp [dv, hcj]
      have hcv : c.2 ≤ 6 ∧ 0 ≤ c.2 := by
        have h1 := k2.val c (List.mem_of_getElem? hcj)
        have h2 : cntT ps d c.1 i ≤ i := by
          unfold cntT
          have := List.length_filter_le (fun j => (d[j]?.map (·.2.1) == some true) && (ps[j]?.map (·.2.1) == some c.1)) (List.range i)
          simpa using this
        omega
      have hmk : (cs.set j (p.2.1, c.2 + 1)).map (fun c => D.str c.1) = cs.map fun c => D.str c.1 := by
        rw [List.map_set]
        exact set_same (by rw [List.getElem?_map, hcj, ← hce]; rfl)
      have hmv : (dv (cs.map fun c => D.int .i64 c.2)).set j (I (c.2 + 1)) = dv ((cs.set j (p.2.1, c.2 + 1)).map fun c => D.int .i64 c.2) := by rw [dv_set1, List.map_set]
      simp only [go_sem, ↓reduceIte, hf, hgv]
      repeat' (first | (with_reducible refine andI ?_))
      exact hC _ (hs1 j c hcj hce) _ (Weak.oC hcx [(7296, 7296), (5888, 5888)] (by refine ⟨?_, ?_, ?_⟩ <;> simp [go_sem, gL, kL, List.map_append, dv_push, hmk, hmv]))
    · have hf : fndK (.str p.2.1) (cs.map fun c => D.str c.1) = some none := by
        have e : (cs.map fun c => D.str c.1) = (cs.map (·.1)).map D.str := by simp
        rw [e, fnd_st, fidx_out hin]
      simp only [go_sem, ↓reduceIte, hf]
      repeat' (first | (with_reducible refine andI ?_))
      exact hC _ (hs2 hin) _ (Weak.oC hcx [(7296, 7296), (5888, 5888)] (by refine ⟨?_, ?_, ?_⟩ <;> simp [go_sem, gL, kL, List.map_append, dv_push]))
  intro cs2 hcs2 s hw
  refine hK s (AW.weak hw ?_)
  clear hw hK K
  obtain ⟨y1, y2, y3⟩ := hd.yes i _ p hx hpp rfl
  have hkx := hkey i _ hx
  have hmx := mean_any hms g2 hkx.1 hkx.2
  rw [if_neg y2] at hmx
  have hbx := mn_bd (scs_10 (msF_ok g2) hms.1 xid)
  have hfine : ∀ (k : Nat) (y : De) (q : Pa), d[k]? = some y → ps[k]? = some q → q.2.1 = p.2.1 → y.2.2 < xr → scs ms y.1 ≠ [] → (mnF (scs ms xid)).1 * (mnF (scs ms y.1)).2 ≤ (mnF (scs ms y.1)).1 * (mnF (scs ms xid)).2 → y.2.1 = true := fun k y q h1 h2 h3 h4 h5 h6 => hd.fine hx hpp h1 h2 rfl h3 h4 h5 h6
  dsimp only at hmx hbx hfine
  generalize (mnF (scs ms xid)).1 = m1 at *
  generalize (mnF (scs ms xid)).2 = m2 at *
  repeat' (first | ((first | refine AW.sreg rfl fun K hK => ?_ | refine run_call _ _ _ ((hmx).pure rfl rfl _ _) rfl rfl (dstOk_of rfl) rfl rfl rfl ?_); simp only [go_sem, ↓reduceIte, List.length_map]) | (refine AW.seq_k fun K hK => ?_) | (refine AW.block ?_) | (refine AW.skip ?_; simp only [Then, InBlock]) | (refine AW.cF ?_) | (refine hK _ ?_; clear hK K))
  refine AW.loopF (ι := Nat) [5, 6, 7, 8, 10, 11, 12, 13, 66, 67, 68, 93, 94] (fun p => [(95, I p)]) (fun p => [(7296, some (O.box 90 [S xid, B true, I xr])), (5888, some (O.map (cs2.map fun c => D.str c.1) (dv (cs2.map fun c => D.int .i64 c.2)))), (9408, some (O.box 92 [I m1, I m2]))]) 160 (fun p => p ≤ d.length) (fun p => d.length - p) 0 (Nat.zero_le _) (Weak.aC hcx (by refine ⟨?_, ?_, ?_⟩ <;> simp [go_sem, gL, kL, renOf, V.obj, Nat.blt, Nat.ble, List.map_append, dv_push])) ?_; simp only [St.at_nil, St.at_cons, lk, Nat.reduceEqDiff, ↓reduceIte, Option.getD_some, Option.getD_none, List.cons_append, List.nil_append, List.append_nil]
  intro k hk1
  by_cases hk : k < d.length
  rotate_left
  · obtain rfl : k = d.length := by omega
    repeat' (first | ((first | refine AW.sreg rfl fun K hK => ?_ | refine AW.reg rfl ?_); simp only [go_sem, ↓reduceIte, List.length_map]) | (refine AW.seq_k fun K hK => ?_) | (refine AW.exit ?_; simp only [go_sem, ↓reduceIte]) | (refine AW.cF ?_) | (refine hK _ ?_; clear hK K) | (clear hK K; refine hK _ ?_; clear hK K) | (with_reducible refine andI ?_))
    exact ⟨(i + 1, cs2), ⟨hi, hcs2⟩, by simp only; omega, (Weak.aC hcx (by refine ⟨?_, ?_, ?_⟩ <;> simp [go_sem, gL, kL, renOf, V.obj, Nat.blt, Nat.ble, List.map_append, dv_push]))⟩
  obtain ⟨y, hy, hym, -⟩ := get_some hk
  obtain ⟨q, hqq, hqm, -⟩ := get_some (l := ps) (i := k) (by omega)
  have hgety : (d.map deD)[k]? = some (deD y) := by simp [hy]
  have hgetq : (ps.map paD)[k]? = some (paD q) := by simp [hqq]
  have hfk := hfine k y q hy hqq
  have hky := hkey k _ hy
  have hmy := mean_any hms g2 hky.1 hky.2
  have hby := mn_bd (scs_10 (msF_ok g2) hms.1 y.1)
  obtain ⟨qid, qt, qf⟩ := q
  obtain ⟨yid, yy, yr⟩ := y
  dsimp only at hfk hmy hby
  obtain ⟨o1, o2, fc, hmz, ho1, ho2, hfc, hfz⟩ : ∃ o1 o2 fc : Int, Does Tryz.prog 37 [.d (.sl (ms.map mkD)), S yid] [] (.tup [.d (Fr o1 o2), I fc]) [] ∧ (-400 ≤ o1 ∧ o1 ≤ 400) ∧ (-400 ≤ o2 ∧ o2 ≤ 400) ∧ (fc = 0 ∨ fc = 8) ∧ (qt = p.2.1 → yr < xr → fc = 0 → m1 * o2 ≤ o1 * m2 → yy = true) := by
    by_cases e0 : scs ms yid = []
    · rw [if_pos e0] at hmy
      exact ⟨0, 0, 8, hmy, by omega, by omega, .inr rfl, fun _ _ h => by omega⟩
    · rw [if_neg e0] at hmy
      exact ⟨_, _, 0, hmy, hby.1, hby.2, .inl rfl, fun h1 h2 _ h3 => hfk h1 h2 e0 h3⟩
  clear hmy hby hfk hmx hfine hd
  by_cases e1 : qt = p.2.1
  rotate_left
  · have e1b : (qt == p.2.1) = false := by simpa using e1
    repeat' (first | ((first | refine AW.sreg rfl fun K hK => ?_ | refine AW.sregD hmix rfl fun K hK => ?_ | refine AW.reg rfl ?_ | refine run_call _ _ _ ((hmz).pure rfl rfl _ _) rfl rfl (dstOk_of rfl) rfl rfl rfl ?_); simp only [go_sem, ↓reduceIte, List.length_map, hgety, hgetq, hgetp, e1b]) | (refine AW.seq_k fun K hK => ?_) | (refine AW.block ?_) | (refine AW.skip ?_; simp only [Then, InBlock]) | (refine AW.cT ?_) | (refine AW.cF ?_) | (refine hK _ ?_; clear hK K) | (with_reducible refine And.intro (?_ : regOk _ _ = true) ?_; kernel_rfl) | (with_reducible refine andI ?_))
    exact ⟨k + 1, hk, by omega, (Weak.aC hcx (by refine ⟨?_, ?_, ?_⟩ <;> simp [go_sem, gL, kL, renOf, V.obj, Nat.blt, Nat.ble, List.map_append, dv_push]))⟩
  have e1b : (qt == p.2.1) = true := by simpa using e1
  by_cases e2 : yr < xr
  rotate_left
  · have e2b : decide (yr < xr) = false := by simpa using e2
    repeat' (first | ((first | refine AW.sreg rfl fun K hK => ?_ | refine AW.sregD hmix rfl fun K hK => ?_ | refine AW.reg rfl ?_ | refine run_call _ _ _ ((hmz).pure rfl rfl _ _) rfl rfl (dstOk_of rfl) rfl rfl rfl ?_); simp only [go_sem, ↓reduceIte, List.length_map, hgety, hgetq, hgetp, e1b, e2b]) | (refine AW.seq_k fun K hK => ?_) | (refine AW.block ?_) | (refine AW.skip ?_; simp only [Then, InBlock]) | (refine AW.cT ?_) | (refine AW.cF ?_) | (refine hK _ ?_; clear hK K) | (with_reducible refine And.intro (?_ : regOk _ _ = true) ?_; kernel_rfl) | (with_reducible refine andI ?_))
    exact ⟨k + 1, hk, by omega, (Weak.aC hcx (by refine ⟨?_, ?_, ?_⟩ <;> simp [go_sem, gL, kL, renOf, V.obj, Nat.blt, Nat.ble, List.map_append, dv_push]))⟩
  have e2b : decide (yr < xr) = true := by simpa using e2
  rcases hfc with rfl | rfl
  rotate_left
  · repeat' (first | ((first | refine AW.sreg rfl fun K hK => ?_ | refine AW.sregD hmix rfl fun K hK => ?_ | refine AW.reg rfl ?_ | refine run_call _ _ _ ((hmz).pure rfl rfl _ _) rfl rfl (dstOk_of rfl) rfl rfl rfl ?_); simp only [go_sem, ↓reduceIte, List.length_map, hgety, hgetq, hgetp, e1b, e2b]) | (refine AW.seq_k fun K hK => ?_) | (refine AW.block ?_) | (refine AW.skip ?_; simp only [Then, InBlock]) | (refine AW.cT ?_) | (refine AW.cF ?_) | (refine hK _ ?_; clear hK K) | (with_reducible refine And.intro (?_ : regOk _ _ = true) ?_; kernel_rfl) | (with_reducible refine andI ?_))
    exact ⟨k + 1, hk, by omega, (Weak.aC hcx (by refine ⟨?_, ?_, ?_⟩ <;> simp [go_sem, gL, kL, renOf, V.obj, Nat.blt, Nat.ble, List.map_append, dv_push]))⟩
  have hb1 := mul_bd hbx.1 ho2
  have hb2 := mul_bd ho1 hbx.2
  by_cases e3 : m1 * o2 ≤ o1 * m2
  rotate_left
  · have e3b : decide (m1 * o2 ≤ o1 * m2) = false := by simpa using e3
    repeat' (first | ((first | refine AW.sreg rfl fun K hK => ?_ | refine AW.sregD hmix rfl fun K hK => ?_ | refine AW.reg rfl ?_ | refine run_call _ _ _ ((hmz).pure rfl rfl _ _) rfl rfl (dstOk_of rfl) rfl rfl rfl ?_); simp only [go_sem, ↓reduceIte, List.length_map, hgety, hgetq, hgetp, e1b, e2b, e3b]) | (refine AW.seq_k fun K hK => ?_) | (refine AW.block ?_) | (refine AW.skip ?_; simp only [Then, InBlock]) | (refine AW.cT ?_) | (refine AW.cF ?_) | (refine hK _ ?_; clear hK K) | (with_reducible refine And.intro (?_ : regOk _ _ = true) ?_; kernel_rfl) | (with_reducible refine andI ?_))
    exact ⟨k + 1, hk, by omega, (Weak.aC hcx (by refine ⟨?_, ?_, ?_⟩ <;> simp [go_sem, gL, kL, renOf, V.obj, Nat.blt, Nat.ble, List.map_append, dv_push]))⟩
  have e3b : decide (m1 * o2 ≤ o1 * m2) = true := by simpa using e3
  obtain rfl := hfz e1 e2 rfl e3
  repeat' (first | ((first | refine AW.sreg rfl fun K hK => ?_ | refine AW.sregD hmix rfl fun K hK => ?_ | refine AW.reg rfl ?_ | refine run_call _ _ _ ((hmz).pure rfl rfl _ _) rfl rfl (dstOk_of rfl) rfl rfl rfl ?_); simp only [go_sem, ↓reduceIte, List.length_map, hgety, hgetq, hgetp, e1b, e2b, e3b]) | (refine AW.seq_k fun K hK => ?_) | (refine AW.block ?_) | (refine AW.skip ?_; simp only [Then, InBlock]) | (refine AW.cT ?_) | (refine AW.cF ?_) | (refine hK _ ?_; clear hK K) | (with_reducible refine And.intro (?_ : regOk _ _ = true) ?_; kernel_rfl) | (with_reducible refine andI ?_))
  exact ⟨k + 1, hk, by omega, (Weak.aC hcx (by refine ⟨?_, ?_, ?_⟩ <;> simp [go_sem, gL, kL, renOf, V.obj, Nat.blt, Nat.ble, List.map_append, dv_push]))⟩
end Go.AX
