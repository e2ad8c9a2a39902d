/- Papers, compared; means. -/
import Derived.Test.YtlejkdigdkeocaaGreatDoorCC
import Derived.Test.YtlejkdigdkeocaaGreatDoorCB
import Derived.Test.YtlejkdigdkeocaaGreatDoorAx43
set_option linter.unusedSimpArgs false
set_option linter.unusedVariables false
set_option linter.unnecessarySimpa false
set_option maxRecDepth 1000000
set_option maxHeartbeats 4000000
namespace Go.AX
open Go Go.Proofs Go.RowKit
theorem getD_10 {ns : List Int} (h : In10 ns) (k : Nat) : 0 ≤ ns.getD k 0 ∧ ns.getD k 0 ≤ 10 := by
  by_cases hk : k < ns.length
  · rw [List.getD_eq_getElem?_getD, List.getElem?_eq_getElem hk, Option.getD_some]
    exact h.2 _ (List.getElem_mem hk)
  · rw [List.getD_eq_getElem?_getD, List.getElem?_eq_none (by omega)]
    simp
theorem vlF_bd (c : Int) {ns : List Int} (h : In10 ns) : (-400 ≤ (vlF c ns).1 ∧ (vlF c ns).1 ≤ 400) ∧ -400 ≤ (vlF c ns).2 ∧ (vlF c ns).2 ≤ 400 := by
  have hl := h.1
  have hb := sum_bd h.2
  have g0 := getD_10 h 0
  have g1 := getD_10 h (ns.length - 1)
  have g2 := getD_10 h ((ns.length - 1) / 2)
  unfold vlF
  by_cases h4 : c = 4
  · rw [if_pos h4]; simp only; omega
  rw [if_neg h4]
  by_cases h0 : ns = []
  · rw [if_pos h0]; simp
  rw [if_neg h0]
  have hpos : 0 < ns.length := List.length_pos_iff.2 h0
  by_cases h1 : c = 1
  · rw [if_pos h1]
    have hg := gcd_pos ns.sum ns.length (by omega)
    have q1 := tdiv_fits ns.sum (Int.gcd ns.sum ns.length) 400 hg (by omega)
    have q2 := tdiv_fits ns.length (Int.gcd ns.sum ns.length) 400 hg (by omega)
    exact ⟨q1, q2⟩
  rw [if_neg h1]
  by_cases h2 : c = 2
  · rw [if_pos h2]; simp only; omega
  rw [if_neg h2]
  by_cases h3 : c = 3
  · rw [if_pos h3]; simp only; omega
  rw [if_neg h3]
  simp only
  omega
/-- Scores of papers, within bounds. -/
structure GsB (gs : List Sg) : Prop where
  nd : (gs.map (·.1)).Nodup
  row : ∀ g ∈ gs, In10 g.2
theorem rowG_10 {gs : List Sg} (h : GsB gs) (k : Str) : In10 (rowG gs k) := by
  by_cases hk : k ∈ gs.map (·.1)
  · obtain ⟨g, hg, rfl⟩ := List.mem_map.1 hk
    rw [rowG_at h.nd hg]
    exact h.row g hg
  · rw [rowG_out hk]
    exact ⟨by simp, by simp⟩
theorem row_at {gs : List Sg} (h : GsB gs) (k : Str) : (∃ j : Nat, fndK (.str k) (kyS gs) = some (some j) ∧ (List.map V.d (gs.map fun g => D.sl (g.2.map (D.int .i64))))[j]? = some (.d (D.sl ((rowG gs k).map (D.int .i64))))) ∨ (fndK (.str k) (kyS gs) = some none ∧ rowG gs k = []) := by
  by_cases hk : k ∈ gs.map (·.1)
  · obtain ⟨j, hj⟩ := List.getElem?_of_mem hk
    rw [List.getElem?_map] at hj
    obtain ⟨g, hgj, rfl⟩ := Option.map_eq_some_iff.1 hj
    refine .inl ⟨j, kyS_in h.nd hgj, ?_⟩
    rw [List.getElem?_map, List.getElem?_map, hgj, rowG_at h.nd (List.mem_of_getElem? hgj)]
    rfl
  · exact .inr ⟨kyS_out hk, rowG_out hk⟩
/-- How papers are compared. -/
def cmpF (gs : List Sg) (a b : Str) : List Int → Int
  | [] => Lib.compareBytes a b
  | c :: r => if cmpI ((vlF c (rowG gs b)).1 * (vlF c (rowG gs a)).2) ((vlF c (rowG gs a)).1 * (vlF c (rowG gs b)).2) ≠ 0 then cmpI ((vlF c (rowG gs b)).1 * (vlF c (rowG gs a)).2) ((vlF c (rowG gs a)).1 * (vlF c (rowG gs b)).2) else cmpF gs a b r
abbrev rlD (by_ : List Int) (fl : Int) : D := .agg [.sl (by_.map (D.int .i64)), .int .i64 fl]
theorem mul_bd {a b : Int} (ha : -400 ≤ a ∧ a ≤ 400) (hb : -400 ≤ b ∧ b ≤ 400) : -160000 ≤ a * b ∧ a * b ≤ 160000 := by
  have h1 : a.natAbs * b.natAbs ≤ 400 * 400 := Nat.mul_le_mul (by omega) (by omega)
  rw [← Int.natAbs_mul] at h1
  omega
theorem compare_any {gs : List Sg} (hg : GsB gs) (by_ : List Int) (hl : by_.length ≤ 10) (hby : ∀ c ∈ by_, 1 ≤ c ∧ c ≤ 5) (fl : Int) (a b : Str) :
    Does Tryz.prog 160 [.d (rlD by_ fl), .d (gsD gs), S a, S b] [] (I (cmpF gs a b by_)) [] := by
  refine Does.of_AW (n := 49) Tryz.func160 rfl rfl rfl fun cx hcx => ?_
  generalize hR : cmpF gs a b by_ = R
  have ra := row_at hg a
  have rb := row_at hg b
  have va := fun c => vlF_bd c (rowG_10 hg a)
  have vb := fun c => vlF_bd c (rowG_10 hg b)
  repeat' (first | (refine AW.sreg rfl fun K hK => ?_; simp only [go_sem, ↓reduceIte, List.length_map]) | (refine AW.seq_k fun K hK => ?_) | (refine AW.block ?_) | (refine hK _ ?_; clear hK K))
  refine AW.loopF (ι := Nat) [1, 2, 3, 15, 16] (fun p => [(17, I p)]) (fun p => []) 20 (fun p => p ≤ by_.length ∧ cmpF gs a b (by_.drop p) = R) (fun p => by_.length - p) 0 ⟨by simp, hR⟩ (Weak.aC hcx (by refine ⟨?_, ?_, ?_⟩ <;> simp [go_sem, gL, kL, renOf, V.obj, Nat.blt, Nat.ble, List.map_append, dv_push])) ?_; simp only [St.at_nil, St.at_cons, lk, Nat.reduceEqDiff, ↓reduceIte, Option.getD_some, Option.getD_none, List.cons_append, List.nil_append, List.append_nil]
  rintro i ⟨h1, h2⟩
  by_cases hi : i < by_.length
  · obtain ⟨c, hc, hcm, hcd⟩ := get_some hi
    have hget : (by_.map (D.int .i64))[i]? = some (.int .i64 c) := by simp [hc]
    rw [hcd, cmpF] at h2
    have w1 := value_any (hby c hcm) (rowG_10 hg a)
    have w2 := value_any (hby c hcm) (rowG_10 hg b)
    have n1 := value_nil (c := c) (ns := rowG gs a)
    have n2 := value_nil (c := c) (ns := rowG gs b)
    have hxy : rowG gs a = [] → rowG gs b = [] → (vlF c (rowG gs a)).1 = (vlF c (rowG gs b)).1 ∧ (vlF c (rowG gs a)).2 = (vlF c (rowG gs b)).2 := fun e1 e2 => by rw [e1, e2]; exact ⟨rfl, rfl⟩
    have va := va c
    have vb := vb c
    generalize rowG gs a = na at *
    generalize rowG gs b = nb at *
    generalize (vlF c na).1 = x1 at *
    generalize (vlF c na).2 = x2 at *
    generalize (vlF c nb).1 = y1 at *
    generalize (vlF c nb).2 = y2 at *
    have m1 := mul_bd vb.1 va.2
    have m2 := mul_bd va.1 vb.2
    have hcmp := compare_int (y1 * x2) (x1 * y2)
    generalize cmpI (y1 * x2) (x1 * y2) = d at *
    rcases ra with ⟨ja, ra1, ra2⟩ | ⟨ra1, ra3⟩ <;> rcases rb with ⟨jb, rb1, rb2⟩ | ⟨rb1, rb3⟩
    · repeat' (first | ((first | refine AW.sreg rfl fun K hK => ?_ | refine AW.sregD hmix rfl fun K hK => ?_ | refine AW.reg rfl ?_ | refine runT_call _ _ [] (fun hv _ => (w1).pure rfl rfl hv _) rfl rfl (dstOk_of rfl) rfl rfl ?_ | refine runT_call _ _ [] (fun hv _ => (w2).pure rfl rfl hv _) rfl rfl (dstOk_of rfl) rfl rfl ?_ | refine run_call _ _ _ ((hcmp).pure rfl rfl _ _) rfl rfl (dstOk_of rfl) rfl rfl rfl ?_); simp only [go_sem, ↓reduceIte, List.length_map, hget, ra1, ra2, rb1, rb2]) | (refine AW.seq_k fun K hK => ?_) | (refine AW.block ?_) | (refine AW.skip ?_; simp only [Then, InBlock]) | (refine AW.cT ?_) | (refine AW.cond rfl (fun h => ?_) (fun h => ?_) <;> (try simp only [decide_eq_true_eq, decide_eq_false_iff_not, Bool.not_eq_true', Bool.not_eq_false', Bool.not_eq_eq_eq_not, Bool.not_true, Bool.not_false, beq_iff_eq, bne_iff_ne, beq_eq_false_iff_ne, ne_eq, Bool.and_eq_true, Bool.or_eq_true, Bool.or_eq_false_iff] at h)) | (refine hK _ ?_; clear hK K) | (with_reducible refine And.intro (?_ : regOk _ _ = true) ?_; kernel_rfl) | (with_reducible refine andI ?_))
      · have hd : ¬ d = 0 := by simpa using h
        rw [if_pos hd] at h2
        subst h2
        exact AW.ret (Fin.data rfl (by simp [go_sem]) rfl)
      · have hd : d = 0 := by simpa using h
        rw [if_neg (by simpa using hd)] at h2
        exact ⟨i + 1, ⟨hi, h2⟩, by omega, (Weak.aC hcx (by refine ⟨?_, ?_, ?_⟩ <;> simp [go_sem, gL, kL, renOf, V.obj, Nat.blt, Nat.ble, List.map_append, dv_push]))⟩
    · repeat' (first | ((first | refine AW.sreg rfl fun K hK => ?_ | refine AW.sregD hmix rfl fun K hK => ?_ | refine AW.reg rfl ?_ | refine runT_call _ _ [] (fun hv _ => (w1).pure rfl rfl hv _) rfl rfl (dstOk_of rfl) rfl rfl ?_ | refine runT_call _ _ [] (fun hv _ => (n2 rb3).pure rfl rfl hv _) rfl rfl (dstOk_of rfl) rfl rfl ?_ | refine run_call _ _ _ ((hcmp).pure rfl rfl _ _) rfl rfl (dstOk_of rfl) rfl rfl rfl ?_); simp only [go_sem, ↓reduceIte, List.length_map, hget, ra1, ra2, rb1]) | (refine AW.seq_k fun K hK => ?_) | (refine AW.block ?_) | (refine AW.skip ?_; simp only [Then, InBlock]) | (refine AW.cT ?_) | (refine AW.cond rfl (fun h => ?_) (fun h => ?_) <;> (try simp only [decide_eq_true_eq, decide_eq_false_iff_not, Bool.not_eq_true', Bool.not_eq_false', Bool.not_eq_eq_eq_not, Bool.not_true, Bool.not_false, beq_iff_eq, bne_iff_ne, beq_eq_false_iff_ne, ne_eq, Bool.and_eq_true, Bool.or_eq_true, Bool.or_eq_false_iff] at h)) | (refine hK _ ?_; clear hK K) | (with_reducible refine And.intro (?_ : regOk _ _ = true) ?_; kernel_rfl) | (with_reducible refine andI ?_))
      · have hd : ¬ d = 0 := by simpa using h
        rw [if_pos hd] at h2
        subst h2
        exact AW.ret (Fin.data rfl (by simp [go_sem]) rfl)
      · have hd : d = 0 := by simpa using h
        rw [if_neg (by simpa using hd)] at h2
        exact ⟨i + 1, ⟨hi, h2⟩, by omega, (Weak.aC hcx (by refine ⟨?_, ?_, ?_⟩ <;> simp [go_sem, gL, kL, renOf, V.obj, Nat.blt, Nat.ble, List.map_append, dv_push]))⟩
    · repeat' (first | ((first | refine AW.sreg rfl fun K hK => ?_ | refine AW.sregD hmix rfl fun K hK => ?_ | refine AW.reg rfl ?_ | refine runT_call _ _ [] (fun hv _ => (n1 ra3).pure rfl rfl hv _) rfl rfl (dstOk_of rfl) rfl rfl ?_ | refine runT_call _ _ [] (fun hv _ => (w2).pure rfl rfl hv _) rfl rfl (dstOk_of rfl) rfl rfl ?_ | refine run_call _ _ _ ((hcmp).pure rfl rfl _ _) rfl rfl (dstOk_of rfl) rfl rfl rfl ?_); simp only [go_sem, ↓reduceIte, List.length_map, hget, ra1, rb1, rb2]) | (refine AW.seq_k fun K hK => ?_) | (refine AW.block ?_) | (refine AW.skip ?_; simp only [Then, InBlock]) | (refine AW.cT ?_) | (refine AW.cond rfl (fun h => ?_) (fun h => ?_) <;> (try simp only [decide_eq_true_eq, decide_eq_false_iff_not, Bool.not_eq_true', Bool.not_eq_false', Bool.not_eq_eq_eq_not, Bool.not_true, Bool.not_false, beq_iff_eq, bne_iff_ne, beq_eq_false_iff_ne, ne_eq, Bool.and_eq_true, Bool.or_eq_true, Bool.or_eq_false_iff] at h)) | (refine hK _ ?_; clear hK K) | (with_reducible refine And.intro (?_ : regOk _ _ = true) ?_; kernel_rfl) | (with_reducible refine andI ?_))
      · have hd : ¬ d = 0 := by simpa using h
        rw [if_pos hd] at h2
        subst h2
        exact AW.ret (Fin.data rfl (by simp [go_sem]) rfl)
      · have hd : d = 0 := by simpa using h
        rw [if_neg (by simpa using hd)] at h2
        exact ⟨i + 1, ⟨hi, h2⟩, by omega, (Weak.aC hcx (by refine ⟨?_, ?_, ?_⟩ <;> simp [go_sem, gL, kL, renOf, V.obj, Nat.blt, Nat.ble, List.map_append, dv_push]))⟩
    · obtain ⟨rfl, rfl⟩ := hxy ra3 rb3
      repeat' (first | ((first | refine AW.sreg rfl fun K hK => ?_ | refine AW.sregD hmix rfl fun K hK => ?_ | refine AW.reg rfl ?_ | refine runT_call _ _ [] (fun hv _ => (n1 ra3).pure rfl rfl hv _) rfl rfl (dstOk_of rfl) rfl rfl ?_ | refine run_call _ _ _ ((hcmp).pure rfl rfl _ _) rfl rfl (dstOk_of rfl) rfl rfl rfl ?_); simp only [go_sem, ↓reduceIte, List.length_map, hget, ra1, rb1]) | (refine AW.seq_k fun K hK => ?_) | (refine AW.block ?_) | (refine AW.skip ?_; simp only [Then, InBlock]) | (refine AW.cT ?_) | (refine AW.cond rfl (fun h => ?_) (fun h => ?_) <;> (try simp only [decide_eq_true_eq, decide_eq_false_iff_not, Bool.not_eq_true', Bool.not_eq_false', Bool.not_eq_eq_eq_not, Bool.not_true, Bool.not_false, beq_iff_eq, bne_iff_ne, beq_eq_false_iff_ne, ne_eq, Bool.and_eq_true, Bool.or_eq_true, Bool.or_eq_false_iff] at h)) | (refine hK _ ?_; clear hK K) | (with_reducible refine And.intro (?_ : regOk _ _ = true) ?_; kernel_rfl) | (with_reducible refine andI ?_))
      · have hd : ¬ d = 0 := by simpa using h
        rw [if_pos hd] at h2
        subst h2
        exact AW.ret (Fin.data rfl (by simp [go_sem]) rfl)
      · have hd : d = 0 := by simpa using h
        rw [if_neg (by simpa using hd)] at h2
        exact ⟨i + 1, ⟨hi, h2⟩, by omega, (Weak.aC hcx (by refine ⟨?_, ?_, ?_⟩ <;> simp [go_sem, gL, kL, renOf, V.obj, Nat.blt, Nat.ble, List.map_append, dv_push]))⟩
  · obtain rfl : i = by_.length := by omega
    rw [List.drop_length, cmpF] at h2
    subst h2
    repeat' (first | ((first | refine AW.sreg rfl fun K hK => ?_ | refine run_call _ _ _ ((compareStr_any a b).pure rfl rfl _ _) rfl rfl (dstOk_of rfl) rfl rfl rfl ?_); simp only [go_sem, ↓reduceIte, List.length_map]) | (refine AW.seq_k fun K hK => ?_) | (refine AW.exit ?_; simp only [go_sem, ↓reduceIte]) | (refine AW.cF ?_) | (refine hK _ ?_; clear hK K) | (clear hK K; refine hK _ ?_; clear hK K) | (refine AW.ret (Fin.data rfl (by first | (simp only [go_sem]; done) | (simp [go_sem, *]; done) | (simp [go_sem]; omega) | rfl) rfl)))
end Go.AX

namespace Go.AX
open Go Go.Proofs Go.RowKit
theorem perm_sum {xs ys : List Int} (h : xs.Perm ys) : xs.sum = ys.sum := by
  induction h with
  | nil => rfl
  | cons x _ ih => simp only [List.sum_cons, ih]
  | swap x y l => simp only [List.sum_cons]; omega
  | trans _ _ ih1 ih2 => exact ih1.trans ih2
theorem perm_mn {xs ys : List Int} (h : xs.Perm ys) : mnF xs = mnF ys := by
  unfold mnF
  rw [perm_sum h, h.length_eq]
theorem scs_10 {ms : List Mk} (h : MsOk ms) (hl : ms.length ≤ 20) (k : Str) : In10 (scs ms k) := by
  refine ⟨?_, fun n hn => ?_⟩
  · unfold scs
    rw [List.length_map]
    have := List.length_filter_le (fun m : Mk => decide (m.1 = k)) ms
    omega
  · unfold scs at hn
    obtain ⟨m, hm, rfl⟩ := List.mem_map.1 hn
    exact h.num m (List.mem_filter.1 hm).1
theorem GsOk.bd {ms : List Mk} {gs : List Sg} (h : GsOk ms gs) (ho : MsOk ms) (hl : ms.length ≤ 20) : GsB gs := by
  refine ⟨h.nd, fun g hg => ?_⟩
  have hp := h.row g hg
  have h1 := scs_10 ho hl g.1
  exact ⟨by rw [hp.length_eq]; exact h1.1, fun n hn => h1.2 n (hp.mem_iff.1 hn)⟩
theorem GsOk.rowP {ms : List Mk} {gs : List Sg} (h : GsOk ms gs) (k : Str) : (rowG gs k).Perm (scs ms k) := by
  by_cases hk : k ∈ gs.map (·.1)
  · obtain ⟨g, hg, rfl⟩ := List.mem_map.1 hk
    rw [rowG_at h.nd hg]
    exact h.row g hg
  · rw [rowG_out hk]
    have : scs ms k = [] := by
      unfold scs
      rw [List.map_eq_nil_iff, List.filter_eq_nil_iff]
      intro m hm e
      exact hk ((h.mem k).2 ⟨m, hm, of_decide_eq_true e⟩)
    rw [this]
/-- Marks whose names are short. -/
abbrev MsS (ms : List Mk) : Prop := ms.length ≤ 20 ∧ ∀ p ∈ ms, p.1.length ≤ 1000 ∧ p.2.1.length ≤ 1000
theorem mean_any {ms : List Mk} (hs : MsS ms) (h0 : msF ms = 0) {p : Str} (hk : keyB p = true) (hpl : p.length ≤ 1000) :
    Does Tryz.prog 37 [.d (.sl (ms.map mkD)), S p] [] (if scs ms p = [] then .tup [.d (Fr 0 0), I 8] else .tup [.d (Fr (mnF (scs ms p)).1 (mnF (scs ms p)).2), I 0]) [] := by
  have hl := hs.1
  have hc := checkMarks_any ms (by omega) hs.2
  rw [h0] at hc
  have hky := isKey_any p (by omega)
  rw [hk] at hky
  have ho := msF_ok h0
  refine Does.of_AW (n := 31) Tryz.func37 rfl rfl rfl fun cx hcx => ?_
  by_cases he : scs ms p = []
  · rw [if_pos he]
    repeat' (first | ((first | refine AW.sreg rfl fun K hK => ?_ | refine run_call _ _ _ ((hc).pure rfl rfl _ _) rfl rfl (dstOk_of rfl) rfl rfl rfl ?_ | refine run_call _ _ _ ((hky).pure rfl rfl _ _) rfl rfl (dstOk_of rfl) rfl rfl rfl ?_); simp only [go_sem, ↓reduceIte]) | (refine AW.seq_k fun K hK => ?_) | (refine AW.skip ?_; simp only [Then, InBlock]) | (refine AW.cF ?_) | (refine hK _ ?_; clear hK K) | (refine run_callI _ _ _ ((scoresOfI ms hl).pure rfl (fun _ => rfl) _ _) rfl rfl (dstOk_of rfl) rfl rfl rfl ?_; rintro gs hgs; (try dsimp only at gs); (try dsimp only at hgs); simp only [go_sem, ↓reduceIte]))
    have hb := hgs.bd ho hl
    have hr := hgs.rowP p
    rcases row_at hb p with ⟨j, r1, r2⟩ | ⟨r1, r2⟩
    · exfalso
      obtain ⟨g, hg, hge⟩ : ∃ g ∈ gs, g.1 = p := by
        have : p ∈ gs.map (·.1) := by
          by_cases hk2 : p ∈ gs.map (·.1)
          · exact hk2
          · rw [kyS_out hk2] at r1; cases r1
        obtain ⟨g, hg, e⟩ := List.mem_map.1 this
        exact ⟨g, hg, e⟩
      subst hge
      rw [rowG_at hb.nd hg, he] at hr
      exact hgs.pos g hg hr.eq_nil
    · simp only [go_sem, ↓reduceIte, r1]
      repeat' (first | (refine AW.sreg rfl fun K hK => ?_; simp only [go_sem, ↓reduceIte, r1]) | (refine AW.seq_k fun K hK => ?_) | (refine AW.cT ?_) | (refine hK _ ?_; clear hK K))
      exact AW.ret (Fin.data rfl (by simp [go_sem, fr_size]) rfl)
  · rw [if_neg he]
    generalize hM1 : (mnF (scs ms p)).1 = m1
    generalize hM2 : (mnF (scs ms p)).2 = m2
    repeat' (first | ((first | refine AW.sreg rfl fun K hK => ?_ | refine run_call _ _ _ ((hc).pure rfl rfl _ _) rfl rfl (dstOk_of rfl) rfl rfl rfl ?_ | refine run_call _ _ _ ((hky).pure rfl rfl _ _) rfl rfl (dstOk_of rfl) rfl rfl rfl ?_); simp only [go_sem, ↓reduceIte]) | (refine AW.seq_k fun K hK => ?_) | (refine AW.skip ?_; simp only [Then, InBlock]) | (refine AW.cF ?_) | (refine hK _ ?_; clear hK K) | (refine run_callI _ _ _ ((scoresOfI ms hl).pure rfl (fun _ => rfl) _ _) rfl rfl (dstOk_of rfl) rfl rfl rfl ?_; rintro gs hgs; (try dsimp only at gs); (try dsimp only at hgs); simp only [go_sem, ↓reduceIte]))
    have hb := hgs.bd ho hl
    have hr := hgs.rowP p
    have h10 := rowG_10 hb p
    have hsum := sumOf_any h10
    have hbd := sum_bd h10.2
    rcases row_at hb p with ⟨j, r1, r2⟩ | ⟨r1, r2⟩
    · have hne : ¬ rowG gs p = [] := fun e => he (by rw [e] at hr; exact hr.nil_eq.symm)
      have hpos : 0 < (rowG gs p).length := List.length_pos_iff.2 hne
      have hlo := lowest_any (rowG gs p).sum (rowG gs p).length (by have := h10.1; omega) (by have := h10.1; omega)
      rw [low_mn, perm_mn hr, hM1, hM2] at hlo
      have h0b : (((rowG gs p).length : Int) == 0) = false := by simp; omega
      generalize rowG gs p = ns at *
      simp only [go_sem, ↓reduceIte, r1, r2, List.length_map, h0b]
      repeat' (first | ((first | refine AW.sreg rfl fun K hK => ?_ | refine run_call _ _ _ ((hsum).pure rfl rfl _ _) rfl rfl (dstOk_of rfl) rfl rfl rfl ?_ | refine run_call _ _ _ ((hlo).pure rfl rfl _ _) rfl rfl (dstOk_of rfl) rfl rfl rfl ?_); simp only [go_sem, ↓reduceIte, r1, r2, List.length_map, h0b]) | (refine AW.seq_k fun K hK => ?_) | (refine AW.skip ?_; simp only [Then, InBlock]) | (refine AW.cF ?_) | (refine hK _ ?_; clear hK K))
      exact AW.ret (Fin.data rfl (by simp [go_sem, fr_size]) rfl)
    · exact absurd (by rw [r2] at hr; exact hr.nil_eq.symm) he
end Go.AX

namespace Go.AX
open Go Go.Proofs Go.RowKit
theorem insertionSortK_St (lt : Str → Str → Bool) (cv : Str → Str → Int) (hlt : ∀ x y, lt x y = decide (cv x y < 0)) (c : Nat) (cap cap2 : D) (hc : ∀ x y, Does Tryz.prog c [.d (D.str x), .d (D.str y), .d cap, .d cap2] [] (I (cv x y)) []) (xs : List Str) (hl : xs.length ≤ 1000) :
    Does Tryz.prog 283 [.slr 0 0 xs.length, I 0, I xs.length, .fn c [.d cap, .d cap2]] [.vec 9 1 (dv (xs.map D.str))] (.tup []) [.vec 9 1 (dv ((isort lt xs).map D.str))] := by
  refine Does.of_AW (n := 53) Tryz.func283 rfl rfl rfl fun cx hcx => ?_
  generalize hR : isort lt xs = R
  repeat' (first | (refine AW.sreg rfl fun K hK => ?_; simp only [go_sem, ↓reduceIte, List.length_map]) | (refine AW.block ?_) | (refine hK _ ?_; clear hK K) | (with_reducible refine andI ?_))
  refine AW.loopF (ι := Nat × List Str × List Str) [0, 1, 2, 3] (fun p => [(8, I p.1)]) (fun p => [(0, some (O.vec 9 1 (dv ((p.2.1 ++ p.2.2).map D.str))))]) 1 (fun p => 1 ≤ p.1 ∧ p.2.1.length + p.2.2.length = xs.length ∧ (p.2.1.length = p.1 ∨ xs.length = 0) ∧ isGo lt p.2.1 p.2.2 = R) (fun p => xs.length - p.1) (1, xs.take 1, xs.drop 1) ⟨by simp, by simp only [List.length_take, List.length_drop]; omega, by simp only [List.length_take]; omega, hR⟩ (Weak.aC hcx (by refine ⟨?_, ?_, ?_⟩ <;> simp [go_sem, gL, kL, renOf, V.obj, Nat.blt, Nat.ble, List.map_append, dv_push, take1_tail])) ?_; simp only [St.at_nil, St.at_cons, lk, Nat.reduceEqDiff, ↓reduceIte, Option.getD_some, Option.getD_none, List.cons_append, List.nil_append, List.append_nil]
  rintro ⟨i, d, r⟩ ⟨h1, h2, h3, h4⟩
  simp only at h1 h2 h3 h4 ⊢
  by_cases hi : i < xs.length
  · obtain ⟨x, r, rfl⟩ : ∃ x r', r = x :: r' := by
      cases r with
      | nil => simp at h2; omega
      | cons x r' => exact ⟨x, r', rfl⟩
    obtain rfl : i = d.length := by omega
    simp only [isGo] at h4
    repeat' (first | (refine AW.sreg rfl fun K hK => ?_; simp only [go_sem, ↓reduceIte, List.length_map]) | (refine AW.seq_k fun K hK => ?_) | (refine AW.block ?_) | (refine AW.skip ?_; simp only [Then, InBlock]) | (refine AW.cT ?_) | (refine hK _ ?_; clear hK K))
    generalize hR2 : insP lt d.reverse x [] = R2 at h4
    refine AW.loopF (ι := List Str × List Str) [0, 1, 2, 3, 8] (fun p => [(9, I p.1.length)]) (fun p => [(0, some (O.vec 9 1 (dv ((p.1.reverse ++ x :: (p.2 ++ r)).map D.str))))]) 1 (fun p => p.1.length + p.2.length = d.length ∧ insP lt p.1 x p.2 = R2) (fun p => p.1.length) (d.reverse, []) ⟨by simp, hR2⟩ (Weak.aC hcx (by refine ⟨?_, ?_, ?_⟩ <;> simp [go_sem, gL, kL, renOf, V.obj, Nat.blt, Nat.ble, List.map_append, dv_push])) ?_; simp only [St.at_nil, St.at_cons, lk, Nat.reduceEqDiff, ↓reduceIte, Option.getD_some, Option.getD_none, List.cons_append, List.nil_append, List.append_nil]
    rintro ⟨pr, q⟩ ⟨g1, g2⟩
    simp only at g1 g2 ⊢
    rcases pr with _ | ⟨y, pr⟩
    · simp only [insP] at g2
      subst g2
      simp only [List.length_cons, List.length_nil] at g1 h2
      repeat' (first | ((first | refine AW.sregD hmix rfl fun K hK => ?_ | refine AW.reg rfl ?_); simp only [go_sem, ↓reduceIte, List.length_map]) | (refine AW.seq_k fun K hK => ?_) | (refine AW.exit ?_; simp only [go_sem, ↓reduceIte]) | (refine AW.cF ?_) | (refine hK _ ?_; clear hK K) | (clear hK K; refine hK _ ?_; clear hK K) | (refine stepBT_split (fun h => ?_) (fun h => ?_) <;> (have hb0 := h) <;> (try simp only [Bool.not_eq_true', Bool.not_eq_false'] at hb0) <;> (try simp only [decide_eq_true_eq, decide_eq_false_iff_not, Bool.not_eq_true', Bool.not_eq_false', Bool.not_eq_eq_eq_not, Bool.not_true, Bool.not_false, beq_iff_eq, bne_iff_ne, beq_eq_false_iff_ne, ne_eq, Bool.and_eq_true, Bool.or_eq_true, Bool.or_eq_false_iff] at h) <;> simp only [go_sem, ↓reduceIte, hb0, h, decide_true, decide_false, List.length_map] <;> (try clear hb0)) | (with_reducible refine And.intro (?_ : regOk _ _ = true) ?_; kernel_rfl) | (with_reducible refine andI ?_) | (exfalso; omega))
      exact ⟨(d.length + 1, x :: q, r), ⟨by simp only; omega, by simp only [List.length_cons]; omega, .inl (by simp only [List.length_cons]; omega), h4⟩, by simp only; omega, (Weak.aC hcx (by refine ⟨?_, ?_, ?_⟩ <;> simp [go_sem, gL, kL, renOf, V.obj, Nat.blt, Nat.ble, List.map_append, dv_push]))⟩
    · have e1 : (dv ((List.reverse (y :: pr) ++ x :: (q ++ r)).map D.str))[0 + (pr.length + 1)]? = some (.d (D.str x)) := by
        have := get_mid (List.reverse (y :: pr)) x (q ++ r)
        simp only [List.length_reverse, List.length_cons] at this
        simp only [dv, Nat.zero_add, List.getElem?_map, this, Option.map_some]
      have e2 : (dv ((List.reverse (y :: pr) ++ x :: (q ++ r)).map D.str))[0 + pr.length]? = some (.d (D.str y)) := by
        have := get_mid (List.reverse pr) y (x :: (q ++ r))
        simp only [List.length_reverse] at this
        simp only [dv, Nat.zero_add, List.getElem?_map, List.reverse_cons, List.append_assoc, List.cons_append, List.nil_append, this, Option.map_some]
      have e3 : (((pr.length + 1 : Nat) : Int) - 1).toNat = pr.length := by omega
      simp only [List.length_cons] at g1 h2
      simp only [insP, hlt] at g2
      have e4 : (((dv ((List.reverse (y :: pr) ++ x :: (q ++ r)).map D.str)).set (0 + (pr.length + 1)) (.d (D.str y))).set (0 + pr.length) (.d (D.str x))) = dv ((pr.reverse ++ x :: ((y :: q) ++ r)).map D.str) := by
        have := swap_mid (dv (pr.reverse.map D.str)) (V.d (D.str x)) (V.d (D.str y)) (dv ((q ++ r).map D.str))
        simp only [dv, List.length_map, List.length_reverse, List.map_append, List.map_cons, List.reverse_cons, List.append_assoc, List.cons_append, List.nil_append, List.map_nil] at this ⊢
        exact this
      have e5 : ((dv ((List.reverse (y :: pr) ++ x :: (q ++ r)).map D.str)).set (0 + (pr.length + 1)) (.d (D.str y)))[0 + pr.length]? = some (.d (D.str y)) := by
        rw [List.getElem?_set_ne (by omega)]
        exact e2
      repeat' (first | ((first | refine AW.sregD hmix rfl fun K hK => ?_ | refine AW.reg rfl ?_ | refine AW.regD hmix rfl ?_ | refine runT_call _ _ [] (fun hv _ => (hc x y).pure rfl rfl hv _) rfl rfl (dstOk_of rfl) rfl rfl ?_); simp only [go_sem, ↓reduceIte, List.length_map, e1, e2, e3, e4, e5, List.length_cons, or_self, true_or, or_true]) | (refine AW.seq_k fun K hK => ?_) | (refine AW.block ?_) | (refine AW.skip ?_; simp only [Then, InBlock]) | (refine AW.exit ?_; simp only [go_sem, ↓reduceIte]) | (refine AW.cT ?_) | (refine AW.cond rfl (fun h => ?_) (fun h => ?_) <;> (try simp only [decide_eq_true_eq, decide_eq_false_iff_not, Bool.not_eq_true', Bool.not_eq_false', Bool.not_eq_eq_eq_not, Bool.not_true, Bool.not_false, beq_iff_eq, bne_iff_ne, beq_eq_false_iff_ne, ne_eq, Bool.and_eq_true, Bool.or_eq_true, Bool.or_eq_false_iff] at h)) | (refine hK _ ?_; clear hK K) | (clear hK K; refine hK _ ?_; clear hK K) | (refine stepBT_split (fun h => ?_) (fun h => ?_) <;> (have hb0 := h) <;> (try simp only [Bool.not_eq_true', Bool.not_eq_false'] at hb0) <;> (try simp only [decide_eq_true_eq, decide_eq_false_iff_not, Bool.not_eq_true', Bool.not_eq_false', Bool.not_eq_eq_eq_not, Bool.not_true, Bool.not_false, beq_iff_eq, bne_iff_ne, beq_eq_false_iff_ne, ne_eq, Bool.and_eq_true, Bool.or_eq_true, Bool.or_eq_false_iff] at h) <;> simp only [go_sem, ↓reduceIte, hb0, h, decide_true, decide_false, List.length_map, e1, e2, e3, e4, e5, List.length_cons, or_self, true_or, or_true] <;> (try clear hb0)) | (with_reducible refine And.intro (?_ : regOk _ _ = true) ?_; kernel_rfl) | (with_reducible refine andI ?_) | (exfalso; omega))
      · rw [if_pos (by simpa using h)] at g2
        exact ⟨(pr, y :: q), ⟨by simp only [List.length_cons]; omega, g2⟩, by simp only [List.length_cons]; omega, (Weak.aC hcx (by refine ⟨?_, ?_, ?_⟩ <;> simp [go_sem, gL, kL, renOf, V.obj, Nat.blt, Nat.ble, List.map_append, dv_push]))⟩
      · rw [if_neg (by simpa using h)] at g2
        subst g2
        exact ⟨(d.length + 1, (y :: pr).reverse ++ x :: q, r), ⟨by simp only; omega, by simp only [List.length_append, List.length_reverse, List.length_cons]; omega, .inl (by simp only [List.length_append, List.length_reverse, List.length_cons]; omega), h4⟩, by simp only; omega, (Weak.aC hcx (by refine ⟨?_, ?_, ?_⟩ <;> simp [go_sem, gL, kL, renOf, V.obj, Nat.blt, Nat.ble, List.map_append, dv_push]))⟩
  · have hr : r = [] := by
      cases r with
      | nil => rfl
      | cons x r => simp only [List.length_cons] at h2; omega
    subst hr
    simp only [isGo] at h4
    subst h4
    repeat' (first | (refine AW.sreg rfl fun K hK => ?_; simp only [go_sem, ↓reduceIte, List.length_map, List.append_nil]) | (refine AW.seq_k fun K hK => ?_) | (refine AW.exit ?_; simp only [go_sem, ↓reduceIte]) | (refine AW.cF ?_) | (refine hK _ ?_; clear hK K))
    exact Fin.one rfl rfl ⟨_, rfl, by simp [go_sem]⟩ rfl (by simp [go_sem]) rfl
theorem pdqsortK_St (lt : Str → Str → Bool) (cv : Str → Str → Int) (hlt : ∀ x y, lt x y = decide (cv x y < 0)) (c : Nat) (cap cap2 : D) (hc : ∀ x y, Does Tryz.prog c [.d (D.str x), .d (D.str y), .d cap, .d cap2] [] (I (cv x y)) []) (xs : List Str) (hl : xs.length ≤ 12) (m : Int) :
    Does Tryz.prog 223 [.slr 0 0 xs.length, I 0, I xs.length, I m, .fn c [.d cap, .d cap2]] [.vec 9 1 (dv (xs.map D.str))] (.tup []) [.vec 9 1 (dv ((isort lt xs).map D.str))] := by
  refine Does.of_AW (n := 148) Tryz.func223 rfl rfl rfl fun cx hcx => ?_
  repeat' (first | (refine AW.sreg rfl fun K hK => ?_; simp only [go_sem, ↓reduceIte, List.length_map]) | (refine AW.block ?_) | (refine hK _ ?_; clear hK K))
  refine AW.loopF (ι := Unit) [0, 4] (fun p => [(1, I 0), (2, I xs.length), (3, I m), (10, B true), (11, B true)]) (fun p => [(0, some (O.vec 9 1 (dv (xs.map D.str))))]) 1 (fun p => True) (fun p => 0) () trivial (Weak.aC hcx (by refine ⟨?_, ?_, ?_⟩ <;> simp [go_sem, gL, kL, renOf, V.obj, Nat.blt, Nat.ble, List.map_append, dv_push])) ?_; simp only [St.at_nil, St.at_cons, lk, Nat.reduceEqDiff, ↓reduceIte, Option.getD_some, Option.getD_none, List.cons_append, List.nil_append, List.append_nil]
  rintro ⟨⟩ _
  repeat' (first | ((first | refine AW.sreg rfl fun K hK => ?_ | refine run_call _ _ _ ((insertionSortK_St lt cv hlt c cap cap2 hc xs (by omega)).objA [0]) rfl rfl (dstOk_of rfl) rfl rfl rfl ?_); simp only [go_sem, ↓reduceIte, List.length_map, Int.sub_zero]) | (refine AW.seq_k fun K hK => ?_) | (refine AW.block ?_) | (refine AW.cT ?_) | (refine hK _ ?_; clear hK K) | (with_reducible refine andI ?_))
  exact AW.ret (Fin.one rfl rfl ⟨_, rfl, by simp [go_sem]⟩ rfl (by simp [go_sem]) rfl)
theorem sortFuncK_St (lt : Str → Str → Bool) (cv : Str → Str → Int) (hlt : ∀ x y, lt x y = decide (cv x y < 0)) (c : Nat) (cap cap2 : D) (hc : ∀ x y, Does Tryz.prog c [.d (D.str x), .d (D.str y), .d cap, .d cap2] [] (I (cv x y)) []) (xs : List Str) (hl : xs.length ≤ 12) :
    Does Tryz.prog 158 [.slr 0 0 xs.length, .fn c [.d cap, .d cap2]] [.vec 9 1 (dv (xs.map D.str))] (.tup []) [.vec 9 1 (dv ((isort lt xs).map D.str))] := by
  refine Does.of_AW (n := 14) Tryz.func158 rfl rfl rfl fun cx hcx => ?_
  have hw := wrap_small xs.length (by omega)
  repeat' (first | ((first | refine AW.sreg rfl fun K hK => ?_ | refine AW.reg rfl ?_ | refine run_call _ _ _ ((len_ok xs.length hl).pure rfl rfl _ _) rfl rfl (dstOk_of rfl) rfl rfl rfl ?_ | refine run_call _ _ _ ((pdqsortK_St lt cv hlt c cap cap2 hc xs hl _).objA [0]) rfl rfl (dstOk_of rfl) rfl rfl rfl ?_); simp only [go_sem, ↓reduceIte, List.length_map, hw]) | (refine hK _ ?_; clear hK K))
  exact Fin.one rfl rfl ⟨_, rfl, by simp [go_sem]⟩ rfl (by simp [go_sem]) rfl

def BY4 : List (List Int) := [[1], [1, 2], [3, 1], [4, 5]]
def FL3 : List Int := [0, 50, 60]
theorem rules_ok : ∀ by_ ∈ BY4, ∀ fl ∈ FL3, Does Tryz.prog 156 [.d (rlD by_ fl)] [] (I 0) [] := by
  have h : BY4.all (fun by_ => FL3.all fun fl => evalsTo Tryz.prog (CS Tryz.prog) 156 [.d (rlD by_ fl)] (I 0)) = true := by kernel_rfl
  exact fun by_ h1 fl h2 => evalsTo_ok CS_ok hmix (List.all_eq_true.1 (List.all_eq_true.1 h by_ h1) fl h2)
def demo : Str := [100, 101, 109, 111]
def main_ : Str := [109, 97, 105, 110]
abbrev qtD (a b : Int) : D := .sl [.agg [.str demo, .int .i64 a], .agg [.str main_, .int .i64 b]]
theorem quotas_ok : ∀ a ∈ ([0, 1, 2] : List Int), ∀ b ∈ ([0, 1, 2, 3, 4] : List Int), Does Tryz.prog 157 [.d (qtD a b)] [] (I 0) [] := by
  have h : ([0, 1, 2] : List Int).all (fun a => ([0, 1, 2, 3, 4] : List Int).all fun b => evalsTo Tryz.prog (CS Tryz.prog) 157 [.d (qtD a b)] (I 0)) = true := by kernel_rfl
  exact fun a h1 b h2 => evalsTo_ok CS_ok hmix (List.all_eq_true.1 (List.all_eq_true.1 h a h1) b h2)
theorem tracks1_any {gs : List Sg} (h : GsB gs) (by_ : List Int) (hl : by_.length ≤ 10) (hby : ∀ c ∈ by_, 1 ≤ c ∧ c ≤ 5) (fl : Int) (a b : Str) :
    Does Tryz.prog 159 [S a, S b, .d (.ptr [.sl (by_.map (D.int .i64)), .int .i64 fl] 0), .d (.ptr [gsD gs] 0)] [] (I (cmpF gs a b by_)) [] := by
  have hc := compare_any h by_ hl hby fl a b
  refine Does.of_AW (n := 12) Tryz.func159 rfl rfl rfl fun cx hcx => ?_
  repeat' (first | ((first | refine AW.sreg rfl fun K hK => ?_ | refine run_call _ _ _ ((hc).pure rfl rfl _ _) rfl rfl (dstOk_of rfl) rfl rfl rfl ?_); simp only [go_sem, ↓reduceIte]) | (refine hK _ ?_; clear hK K) | (refine AW.ret (Fin.data rfl (by first | (simp only [go_sem]; done) | (simp [go_sem, *]; done) | (simp [go_sem]; omega) | rfl) rfl)))
abbrev Ng := Str × List Str
def ngR : RowS Ng := ⟨fun g => g.2.map D.str, 9, 1, fun _ v => v⟩
theorem ngR_ok : ngR.Ok where
  frz := fun hv g v h => by
    rcases h with rfl | ⟨i, a, n, rfl⟩ <;> simp [ngR, frz]
  ren := fun f g v => rfl
  bel := fun n g v => rfl
abbrev deD (d : De) : D := .agg [.str d.1, .bool d.2.1, .int .i64 d.2.2]
end Go.AX

namespace Go.AX
open Go Go.Proofs Go.RowKit
def yesB (ms : List Mk) (fl m : Int) (id : Str) (r : Int) : Bool := decide (r ≤ m) && (decide (scs ms id ≠ []) && decide (fl * (scs ms id).length ≤ 10 * (scs ms id).sum))
def moF (a b : Int) (t : Str) : Int := if t = demo then a else if t = main_ then b else 0
abbrev ngF (ps : List Pa) : List Ng := grpF (fun p : Pa => p.2.1) (fun p : Pa => p.1) ps
abbrev kyN (gs : List Ng) : List D := gs.map fun g => D.str g.1
theorem kyN_in {gs : List Ng} {j : Nat} {g : Ng} (hn : (gs.map (·.1)).Nodup) (h : gs[j]? = some g) : fndK (.str g.1) (kyN gs) = some (some j) := by
  have e : kyN gs = (gs.map (·.1)).map D.str := by simp [kyN]
  rw [e, fnd_st, fidx_in (j := j) hn (by rw [List.getElem?_map, h]; rfl)]
theorem kyN_out {gs : List Ng} {k : Str} (h : k ∉ gs.map (·.1)) : fndK (.str k) (kyN gs) = some none := by
  have e : kyN gs = (gs.map (·.1)).map D.str := by simp [kyN]
  rw [e, fnd_st, fidx_out h]
abbrev Tk := Str × List De
/-- Decisions of tracks. -/
structure TrOk (ps : List Pa) (ms : List Mk) (fl a b : Int) (os : List Tk) : Prop where
  nd : (os.map (·.1)).Nodup
  mem : ∀ k, k ∈ os.map (·.1) ↔ ∃ p ∈ ps, p.2.1 = k
  row : ∀ o ∈ os, (o.2.map (·.1)).Perm ((ps.filter fun p => decide (p.2.1 = o.1)).map (·.1))
  rk : ∀ o ∈ os, ∀ (i : Nat) (d : De), o.2[i]? = some d → d.2.2 = i + 1 ∧ d.2.1 = yesB ms fl (moF a b o.1) d.1 (i + 1)
abbrev tkD (os : List Tk) : D := .map (os.map fun o => D.str o.1) (os.map fun o => D.sl (o.2.map deD))
theorem frz_mprD {hv : Nat → Option O} {keep : Nat → Bool} {id : Nat} {ks vs : List D} (hk : keep id = false) (h : hv id = some (.map ks (dv vs))) : frz hv keep (.mpr id) = .d (.map ks vs) := by
  have h1 : toD hv keep 8 (.mpr id) = some (.map ks vs) := by
    rw [toD]
    simp only [hk, Bool.false_eq_true, if_false, h]
    rw [toDL_dv hv keep 6 vs]
  simp only [frz, hk, Bool.false_eq_true, if_false, h1]
/-- The map of the places above. -/
theorem belL_app2 (n : Nat) (xs ys : List V) : belL n (xs ++ ys) = (belL n xs && belL n ys) := by
  simp only [belL_eq, List.all_append]
theorem renL_app2 (f : Nat → Nat) (xs ys : List V) : renL f (xs ++ ys) = renL f xs ++ renL f ys := by
  simp only [renL_eq, List.map_append]
/-- Names of tracks' papers, in some order. -/
structure NgOk (ps : List Pa) (ns : List Ng) : Prop where
  nd : (ns.map (·.1)).Nodup
  row : ∀ g ∈ ns, g.2.Perm ((ps.filter fun p => decide (p.2.1 = g.1)).map (·.1))
  pos : ∀ g ∈ ns, g.2 ≠ []
  mem : ∀ k, k ∈ ns.map (·.1) ↔ ∃ p ∈ ps, p.2.1 = k
theorem ngF_ok (ps : List Pa) : NgOk ps (ngF ps) where
  nd := grpF_nd _ _ ps
  row g hg := by rw [grpF_at _ _ hg]
  pos := grpF_pos _ _ ps
  mem := grpF_mem _ _ ps
theorem NgOk.set {ps : List Pa} {ns : List Ng} (h : NgOk ps ns) {j : Nat} {g : Ng} (hj : ns[j]? = some g) {zs : List Str} (hz : zs.Perm g.2) : NgOk ps (ns.set j (g.1, zs)) ∧ (ns.set j (g.1, zs)).map (·.1) = ns.map (·.1) := by
  have hk : (ns.set j (g.1, zs)).map (·.1) = ns.map (·.1) := by
    rw [List.map_set]
    exact set_same (by rw [List.getElem?_map, hj]; rfl)
  have hgm := List.mem_of_getElem? hj
  refine ⟨⟨by rw [hk]; exact h.nd, fun y hy => ?_, fun y hy => ?_, fun k => by rw [hk]; exact h.mem k⟩, hk⟩
  · rcases List.mem_or_eq_of_mem_set hy with hy | rfl
    · exact h.row y hy
    · exact hz.trans (h.row g hgm)
  · rcases List.mem_or_eq_of_mem_set hy with hy | rfl
    · exact h.pos y hy
    · intro e
      simp only at e
      subst e
      exact h.pos g hgm (List.Perm.nil_eq hz).symm
theorem rowsN_same {B : Nat} {gs : List Ng} {j : Nat} {g : Ng} (h : gs[j]? = some g) (hp : g.2 ≠ []) {zs : List Str} (hl : zs.length = g.2.length) : rowsV ngR B (gs.set j (g.1, zs)) = rowsV ngR B gs := by
  apply List.ext_getElem?
  intro i
  rw [rowsV_get, rowsV_get, List.getElem?_set]
  split
  · rename_i e
    subst e
    have hz : zs ≠ [] := by
      intro e
      subst e
      exact hp (List.eq_nil_of_length_eq_zero hl.symm)
    rw [if_pos (get_lt h), h]
    simp only [Option.map_some]
    rw [rref_pos (by simpa [ngR] using hz), rref_pos (by simpa [ngR] using hp)]
    simp [ngR, hl]
  · rfl
theorem kyN_same {gs : List Ng} {j : Nat} {g : Ng} (h : gs[j]? = some g) (zs : List Str) : kyN (gs.set j (g.1, zs)) = kyN gs := by
  unfold kyN
  rw [List.map_set]
  exact set_same (by rw [List.getElem?_map, h]; rfl)
/-- What a row of decisions says. -/
def RkOk (ms : List Mk) (fl a b : Int) (t : Str) (ds : List De) : Prop := ∀ (i : Nat) (d : De), ds[i]? = some d → d.2.2 = i + 1 ∧ d.2.1 = yesB ms fl (moF a b t) d.1 (i + 1)
theorem RkOk.app {ms : List Mk} {fl a b : Int} {t : Str} {ds : List De} (h : RkOk ms fl a b t ds) {pid : Str} {y : Bool} {n : Int} (hn : n = ds.length) (hy : y = yesB ms fl (moF a b t) pid (n + 1)) : RkOk ms fl a b t (ds ++ [(pid, y, n + 1)]) := by
  intro i d hd
  rcases Nat.lt_trichotomy i ds.length with hi | hi | hi
  · rw [List.getElem?_append_left hi] at hd
    exact h i d hd
  · subst hi
    rw [List.getElem?_append_right (Nat.le_refl _)] at hd
    simp at hd
    subst hd
    subst hn
    exact ⟨rfl, hy⟩
  · rw [List.getElem?_append_right (by omega), List.getElem?_eq_none (by simp; omega)] at hd
    cases hd
theorem pas_track {ps : List Pa} (h : goF pasF [] ps = 0) (hp : ∀ p ∈ ps, PaR p) : ∀ p ∈ ps, p.2.1 = demo ∨ p.2.1 = main_ := by
  intro p hpm
  obtain ⟨i, hi⟩ := List.mem_iff_getElem?.1 hpm
  have h0 := goF_zero pasF ps [] h i p hi
  have ht := (hp p hpm).tr
  have hk : keyB p.2.1 = true := by
    unfold pasF paF at h0
    by_cases hk : (keyB p.1 && keyB p.2.1) = false
    · rw [if_pos hk] at h0; cases h0
    · simp at hk
      exact hk.2
  have : ∀ s ∈ TrS, keyB s = true → s = demo ∨ s = main_ := by decide
  exact this _ ht hk
theorem hv_setK {k c j : Nat} {env : List (Nat × V)} {ns1 : List Ng} {t : Str} {zs : List Str} (hl : ns1.length ≤ 60) (m1 m2 m3 m4 : Nat) (x1 x2 x3 x4 : Option O) (h1 : 12800 ≤ m1) (h2 : 12800 ≤ m2) (h3 : 12800 ≤ m3) (h4 : m4 ≤ 6399) {q : Nat} {z : Ng}
    (hq : (ns1.set j (t, zs))[q]? = some z) (hz : ngR.row z ≠ []) : St.hv ⟨k, env, (6400 + j, some (.vec 9 1 (dv (zs.map D.str)))) :: (m1, x1) :: (m2, x2) :: (m3, x3) :: (m4, x4) :: rowsH ngR 6400 ns1, c⟩ (6400 + q) = some (.vec ngR.e ngR.s (dv (ngR.row z))) := by
  have hql : q < ns1.length := by have := get_lt hq; rwa [List.length_set] at this
  by_cases h : j = q
  · subst h
    rw [List.getElem?_set_self hql] at hq
    have hxe : z = (t, zs) := (Option.some.inj hq).symm
    subst hxe
    simp [St.hv, lk, ngR, dv]
  · rw [List.getElem?_set_ne h] at hq
    repeat (refine (hv_skip (by omega)).trans ?_)
    exact hv_rowsE hq hz
theorem most_at {a b : Int} {t : Str} (ht : t = demo ∨ t = main_) {mk mv : List D} (hmk : mk = [D.str demo, D.str main_]) (hmv : mv = [D.int .i64 a, D.int .i64 b]) : ∃ jm : Nat, fndK (.str t) mk = some (some jm) ∧ (List.map V.d mv)[jm]? = some (.d (.int .i64 (moF a b t))) := by
  subst hmk
  subst hmv
  rcases ht with rfl | rfl
  · exact ⟨0, rfl, rfl⟩
  · exact ⟨1, rfl, rfl⟩
theorem tracksI {ps : List Pa} {ms : List Mk} (hpl : ps.length ≤ 6) (hp : ∀ p ∈ ps, PaR p ∧ p.2.2.2.2 ∈ ToL) (hs : MsS ms) (h1 : goF pasF [] ps = 0) (h2 : msF ms = 0) {by_ : List Int} (hby : by_ ∈ BY4) {fl : Int} (hfl : fl ∈ FL3) {a b : Int} (ha : a ∈ ([0, 1, 2] : List Int)) (hb : b ∈ ([0, 1, 2, 3, 4] : List Int)) :
    DoesI Tryz.prog 92 [.d (rlD by_ fl), .d (qtD a b), .d (.sl (ps.map paD)), .d (.sl (ms.map mkD))] [] (fun os : List Tk => TrOk ps ms fl a b os) (fun os => .tup [.d (tkD os), I 0]) (fun _ => []) := by
  have c1 := rules_ok by_ hby fl hfl
  have c2 := quotas_ok a ha b hb
  have c3 := checkPapers_any ps (by omega) hp
  rw [h1] at c3
  have hl := hs.1
  have c4 := checkMarks_any ms (by omega) hs.2
  rw [h2] at c4
  refine DoesI.of_AW (n := 139) Tryz.func92 rfl rfl rfl fun cx hcx => ?_
  have hmd : (main_ == demo) = false := by decide
  have hel : ((0 : Nat) = 0) = True := by simp
  repeat' (first | ((first | refine AW.sreg rfl fun K hK => ?_ | refine run_call _ _ _ ((c1).pure rfl rfl _ _) rfl rfl (dstOk_of rfl) rfl rfl rfl ?_ | refine run_call _ _ _ ((c2).pure rfl rfl _ _) rfl rfl (dstOk_of rfl) rfl rfl rfl ?_ | refine run_call _ _ _ ((c3).pure rfl rfl _ _) rfl rfl (dstOk_of rfl) rfl rfl rfl ?_ | refine run_call _ _ _ ((c4).pure rfl rfl _ _) rfl rfl (dstOk_of rfl) rfl rfl rfl ?_); simp only [go_sem, ↓reduceIte, List.length_map]) | (refine AW.seq_k fun K hK => ?_) | (refine AW.block ?_) | (refine AW.skip ?_; simp only [Then, InBlock]) | (refine AW.cF ?_) | (refine hK _ ?_; clear hK K) | (refine run_callI _ _ _ ((scoresOfI ms hl).pure rfl (fun _ => rfl) _ _) rfl rfl (dstOk_of rfl) rfl rfl rfl ?_; rintro gs hgs; (try dsimp only at gs); (try dsimp only at hgs); simp only [go_sem, ↓reduceIte, List.length_map]))
  refine AW.loopF (ι := Nat) [2, 4, 14, 15, 51, 52] (fun p => [(53, I p)]) (fun p => [(0, some (O.box 75 [.d (.sl (by_.map (D.int .i64))), I fl])), (1600, some (O.box 186 [.d (gsD gs)])), (1728, some (O.map ([D.str demo, D.str main_].take p) ([I a, I b].take p)))]) 40 (fun p => p ≤ 2) (fun p => 2 - p) 0 (Nat.zero_le _) (Weak.aC hcx (by refine ⟨?_, ?_, ?_⟩ <;> simp [go_sem, gL, kL, renOf, V.obj, Nat.blt, Nat.ble, List.map_append, dv_push, List.take_zero])) ?_; simp only [St.at_nil, St.at_cons, lk, Nat.reduceEqDiff, ↓reduceIte, Option.getD_some, Option.getD_none, List.cons_append, List.nil_append, List.append_nil]
  intro i g1
  rcases (show i = 0 ∨ i = 1 ∨ i = 2 by omega) with rfl | rfl | rfl
  · repeat' (first | ((first | refine AW.sreg rfl fun K hK => ?_ | refine AW.reg rfl ?_); simp only [go_sem, ↓reduceIte, List.take_zero]) | (refine AW.seq_k fun K hK => ?_) | (refine AW.block ?_) | (refine AW.skip ?_; simp only [Then, InBlock]) | (refine AW.cT ?_) | (refine hK _ ?_; clear hK K) | (with_reducible refine andI ?_))
    exact ⟨1, by omega, by omega, (Weak.aC hcx (by refine ⟨?_, ?_, ?_⟩ <;> simp [go_sem, gL, kL, renOf, V.obj, Nat.blt, Nat.ble, List.map_append, dv_push]))⟩
  · repeat' (first | ((first | refine AW.sreg rfl fun K hK => ?_ | refine AW.reg rfl ?_); simp only [go_sem, ↓reduceIte, List.take_succ_cons, List.take_zero, hmd]) | (refine AW.seq_k fun K hK => ?_) | (refine AW.block ?_) | (refine AW.skip ?_; simp only [Then, InBlock]) | (refine AW.cT ?_) | (refine hK _ ?_; clear hK K) | (with_reducible refine andI ?_))
    exact ⟨2, by omega, by omega, (Weak.aC hcx (by refine ⟨?_, ?_, ?_⟩ <;> simp [go_sem, gL, kL, renOf, V.obj, Nat.blt, Nat.ble, List.map_append, dv_push]))⟩
  repeat' (first | (refine AW.sreg rfl fun K hK => ?_; simp only [go_sem, ↓reduceIte, List.take_succ_cons, List.take_zero, List.length_map]) | (refine AW.seq_k fun K hK => ?_) | (refine AW.block ?_) | (refine AW.exit ?_; simp only [go_sem, ↓reduceIte]) | (refine AW.cF ?_) | (refine hK _ ?_; clear hK K) | (clear hK K; refine hK _ ?_; clear hK K))
  obtain ⟨mk, hmk⟩ : ∃ mk, mk = [D.str demo, D.str main_] := ⟨_, rfl⟩
  obtain ⟨mv, hmv⟩ : ∃ mv, mv = [D.int .i64 a, D.int .i64 b] := ⟨_, rfl⟩
  refine AW.weak (?wk : Weak cx _ (⟨139, [(66, I 0), (65, I ps.length), (64, .d (.sl (ps.map paD))), (18, .mpr 2624), (4, .d (.ptr [.sl (by_.map (D.int .i64)), .int .i64 fl] 0)), (14, .d (.ptr [gsD gs] 0)), (15, .d (.map mk mv))], [(2624, some (O.map [] []))], 46⟩ : St)) ?_
  case wk => exact (Weak.oC hcx [(2624, 2624)] (by refine ⟨?_, ?_, ?_⟩ <;> simp [go_sem, gL, kL, List.map_append, dv_push, frz, frzL, toD, toDL, mkAgg, hmk, hmv]))
  have hpl' := hpl
  refine AW.loopF (ι := Nat × List Ng) [4, 14, 15, 18, 64, 65] (fun p => [(66, I p.1)]) (fun p => (2624, some (O.map (kyN p.2) (rowsV ngR 6400 p.2))) :: rowsH ngR 6400 p.2) 200 (fun p => p.1 ≤ ps.length ∧ p.2 = ngF (ps.take p.1)) (fun p => ps.length - p.1) (0, []) ⟨Nat.zero_le _, rfl⟩ (Weak.oC hcx [(2624, 2624)] (by refine ⟨?_, ?_, ?_⟩ <;> simp [go_sem, gL, kL, List.map_append, dv_push, rowsV_nil, rowsH_nil, kyN])) ?_; simp only [St.at_nil, St.at_cons, lk, Nat.reduceEqDiff, ↓reduceIte, Option.getD_some, Option.getD_none, List.cons_append, List.nil_append, List.append_nil]
  rintro ⟨i, ns⟩ ⟨k1, k2⟩
  dsimp only at k1 k2 ⊢
  by_cases hi : i < ps.length
  · obtain ⟨x, hx, hxm, -⟩ := get_some hi
    have hget : (ps.map paD)[i]? = some (paD x) := by simp [hx]
    have h3 : (ns.map (·.1)).Nodup := by rw [k2]; exact grpF_nd _ _ _
    have h4 : ∀ g ∈ ns, g.2 ≠ [] := by rw [k2]; exact grpF_pos _ _ _
    have h5 : ns.length ≤ 20 := by
      have := grpF_len (fun p : Pa => p.2.1) (fun p : Pa => p.1) (ps.take i)
      rw [k2]
      show (grpF (fun p : Pa => p.2.1) (fun p : Pa => p.1) (ps.take i)).length ≤ 20
      simp only [List.length_take] at this
      omega
    have h6 : ∀ g ∈ ns, g.2.length ≤ 20 := fun g hg => by
      have := grpF_rlen (fun p : Pa => p.2.1) (fun p : Pa => p.1) (k2 ▸ hg)
      simp only [List.length_take] at this
      omega
    have hst : ngF (ps.take (i + 1)) = addG ns x.2.1 x.1 := by rw [k2]; exact grpF_step (fun p : Pa => p.2.1) (fun p : Pa => p.1) hx
    obtain ⟨pid, tr, ti, au, tp⟩ := x
    dsimp only at hst
    by_cases hin : tr ∈ ns.map (·.1)
    · obtain ⟨j, hj⟩ := List.getElem?_of_mem hin
      rw [List.getElem?_map] at hj
      obtain ⟨g, hgj, hge⟩ := Option.map_eq_some_iff.1 hj
      have hjl := get_lt hgj
      have hgm := List.mem_of_getElem? hgj
      have ha := addG_in (n := pid) h3 hgj hge
      rw [ha] at hst
      have hf := kyN_in h3 hgj
      rw [hge] at hf
      have hgv : (rowsV ngR 6400 ns)[j]? = some (.slr (6400 + j) 0 g.2.length) := by
        rw [rowsV_get, hgj]
        simp only [Option.map_some]
        rw [rref_pos (by simpa [ngR] using h4 g hgm)]
        simp [ngR]
      have hlk : lk (rowsH ngR 6400 ns) (6400 + j) = some (some (.vec 9 1 (dv (g.2.map D.str)))) := rowsH_lk ngR hgj (by simpa [ngR] using h4 g hgm)
      have htk : List.take g.2.length (dv (g.2.map D.str)) = dv (g.2.map D.str) := List.take_of_length_le (by simp [dv])
      have hN0 : ∀ n : Nat, n ≤ 6399 → (n = 6400 + j) = False := fun n hn => by simp; omega
      have hN1 : ∀ n : Nat, 12800 ≤ n → (n = 6400 + j) = False := fun n hn => by simp; omega
      have hN2 : ∀ n : Nat, n ≤ 6399 → (6400 + j = n) = False := fun n hn => by simp; omega
      have hN3 : ∀ n : Nat, 12800 ≤ n → (6400 + j = n) = False := fun n hn => by simp; omega
      have hgle := h6 g hgm
      have hR0 : swpN (6400 + j) 6400 (6400 + j) = 6400 := swpN_a _ _
      have hR1 : ∀ n : Nat, n ≤ 6399 → swpN (6400 + j) 6400 n = n := fun n hn => swpN_o (by omega) (by omega)
      have hR2 : ∀ n : Nat, 12800 ≤ n → swpN (6400 + j) 6400 n = n := fun n hn => swpN_o (by omega) (by omega)
      have hkl : kyN (ns.set j (tr, g.2 ++ [pid])) = kyN ns := by
        unfold kyN
        rw [List.map_set]
        exact set_same (by rw [List.getElem?_map, hgj, Option.map_some, hge])
      repeat' (first | ((first | refine AW.sreg rfl fun K hK => ?_ | refine AW.reg rfl ?_ | refine AW.regD hmix rfl ?_); simp only [go_sem, ↓reduceIte, List.length_map, hget, hf, hgv, hlk, htk, hN0, hN1, hN2, hN3, dv_length, rowsV_len, Int.toNat_natCast]) | (refine AW.seq_k fun K hK => ?_) | (refine AW.block ?_) | (refine AW.skip ?_; simp only [Then, InBlock]) | (refine AW.cT ?_) | (refine hK _ ?_; clear hK K) | (with_reducible refine And.intro (?_ : regOk _ _ = true) ?_; exact regOk_ren (swpN (6400 + j) 6400) (swpN_inj _ _) (by simp only [List.map_cons, List.map_nil, List.map_append, Tr.sig, Tr.wids, Tr.rids, renP, hR0, hR1, hR2, Nat.reduceLeDiff]; kernel_rfl)) | (with_reducible refine andI ?_))
      exact ⟨(i + 1, ns.set j (tr, g.2 ++ [pid])), ⟨hi, hst.symm⟩, by simp only; omega, (by
          have hgl0 : (ns).length ≤ 60 := by omega
          obtain ⟨F, hF⟩ : ∃ F : Nat → Nat, F = sw2 2624 2624 (6400 + j) 13760 := ⟨_, rfl⟩
          have ws : F 2624 = 2624 := by rw [hF]; exact sw2_a (by omega) (by omega)
          have wj : F (6400 + j) = 13760 := by rw [hF]; exact sw2_c (by omega) (by omega)
          have wo : ∀ q, q < (ns).length → q ≠ j → F (6400 + q) = 6400 + q := fun q hq hne => by rw [hF]; exact sw2_o (by omega) (by omega) (by omega) (by omega)
          have hsp : ∀ hv, frzL hv (fun _ => true) ((rowsV ngR 6400 ns).set j (.slr 13760 0 (g.2.length + 1))) = renL F (rowsV ngR 6400 ((ns).set j (tr, g.2 ++ [pid]))) := sp_set ngR_ok (g := (tr, g.2 ++ [pid])) (hjl) wj wo (by simp [ngR]) (by simp [ngR])
          have hbl : belL (64 * 200) (rowsV ngR 6400 ((ns).set j (tr, g.2 ++ [pid]))) = true := belL_rowsV ngR_ok _ _ (by (try simp only [List.length_append, List.length_cons, List.length_nil, List.length_set] at hgl0 ⊢); omega)
          (try simp at hbl hsp)
          exact Weak.rowsH (R := ngR) hcx F 6400 _ [_] rfl rfl (fun q hq => by first | exact absurd hq (Nat.not_lt_zero _) | (obtain rfl : q = 0 := (by simp only [List.length_cons, List.length_nil] at hq; omega); exact w0)) (by simp) (by simp [go_sem, frz, ws]) (by simp [go_sem, ws, hsp, hbl, hN2, hN3, hkl]) (fun q zz hq hx => by
              have hql : q < (ns).length := by have := get_lt hq; rwa [List.length_set] at this
              refine ⟨by (try simp only [List.length_append, List.length_cons, List.length_nil] at hgl0 hql ⊢); omega, ?_⟩
              by_cases h : j = q
              · subst h
                rw [List.getElem?_set_self hql] at hq
                have hxe : zz = (tr, g.2 ++ [pid]) := (Option.some.inj hq).symm
                subst hxe
                rw [wj]
                simp [St.hv, lk, ngR, dv, hN2, hN3, hkl]
              · rw [List.getElem?_set_ne h] at hq
                rw [wo q hql (Ne.symm h)]
                repeat (refine (hv_skip (by omega)).trans ?_)
                exact hv_rowsE hq hx) (fun q hq => by first | exact absurd hq (Nat.not_lt_zero _) | (obtain rfl : q = 0 := (by simp only [List.length_cons, List.length_nil] at hq; omega); exact ⟨_, List.mem_cons_self⟩)) (by rw [hF]; exact sw2_inj _ _ _ _))⟩
    · have hf := kyN_out hin
      have ha := addG_out (n := pid) hin
      rw [ha] at hst
      have hkll : (kyN ns).length = ns.length := by simp [kyN]
      have hsetA : ∀ x y : V, (rowsV ngR 6400 ns ++ [x]).set ns.length y = rowsV ngR 6400 ns ++ [y] := fun x y => by
        rw [List.set_append_right _ _ (by rw [rowsV_len]; exact Nat.le_refl _)]
        simp [rowsV_len]
      have hkl : kyN (ns ++ [(tr, [pid])]) = kyN ns ++ [D.str tr] := by simp [kyN]
      repeat' (first | ((first | refine AW.sreg rfl fun K hK => ?_ | refine AW.reg rfl ?_ | refine AW.regD hmix rfl ?_); simp only [go_sem, ↓reduceIte, List.length_map, hget, hf, hsetA, hkll, dv_length, rowsV_len, Int.toNat_natCast, List.length_append, List.length_cons, List.length_nil]) | (refine AW.seq_k fun K hK => ?_) | (refine AW.block ?_) | (refine AW.skip ?_; simp only [Then, InBlock]) | (refine AW.cT ?_) | (refine hK _ ?_; clear hK K) | (with_reducible refine And.intro (?_ : regOk _ _ = true) ?_; kernel_rfl) | (with_reducible refine andI ?_))
      exact ⟨(i + 1, ns ++ [(tr, [pid])]), ⟨hi, hst.symm⟩, by simp only; omega, (by
          have hgl0 : (ns).length ≤ 60 := by omega
          obtain ⟨F, hF⟩ : ∃ F : Nat → Nat, F = sw2 2624 2624 (6400 + (ns).length) 13760 := ⟨_, rfl⟩
          have ws : F 2624 = 2624 := by rw [hF]; exact sw2_a (by omega) (by omega)
          have wj : F (6400 + (ns).length) = 13760 := by rw [hF]; exact sw2_c (by omega) (by omega)
          have wo : ∀ q, q < (ns).length → q ≠ (ns).length → F (6400 + q) = 6400 + q := fun q hq hne => by rw [hF]; exact sw2_o (by omega) (by omega) (by omega) (by omega)
          have hsp : ∀ hv, frzL hv (fun _ => true) (rowsV ngR 6400 ns ++ [.slr 13760 0 1]) = renL F (rowsV ngR 6400 ((ns) ++ [(tr, [pid])])) := sp_app ngR_ok (g := (tr, [pid])) wj (fun q hq => wo q hq (by omega)) (by simp [ngR]) (by simp [ngR])
          have hbl : belL (64 * 200) (rowsV ngR 6400 ((ns) ++ [(tr, [pid])])) = true := belL_rowsV ngR_ok _ _ (by (try simp only [List.length_append, List.length_cons, List.length_nil, List.length_set] at hgl0 ⊢); omega)
          (try simp at hbl hsp)
          exact Weak.rowsH (R := ngR) hcx F 6400 _ [_] rfl rfl (fun q hq => by first | exact absurd hq (Nat.not_lt_zero _) | (obtain rfl : q = 0 := (by simp only [List.length_cons, List.length_nil] at hq; omega); exact w0)) (by simp) (by simp [go_sem, frz, ws]) (by simp [go_sem, ws, hsp, hbl, hkl]) (fun q zz hq hx => by
              rcases Nat.lt_trichotomy q (ns).length with h | h | h
              · rw [List.getElem?_append_left h] at hq
                refine ⟨by (try simp only [List.length_append, List.length_cons, List.length_nil] at hgl0 h ⊢); omega, ?_⟩
                rw [wo q h (by omega)]
                repeat (refine (hv_skip (by omega)).trans ?_)
                exact hv_rowsE hq hx
              · subst h
                have hxe : zz = (tr, [pid]) := by simpa using hq.symm
                subst hxe
                rw [wj]
                exact ⟨by (try simp only [List.length_append, List.length_cons, List.length_nil] at hgl0 ⊢); omega, by simp [St.hv, lk, ngR, dv, hkl]⟩
              · rw [List.getElem?_eq_none (by simp only [List.length_append, List.length_cons, List.length_nil] at h ⊢; omega)] at hq
                cases hq) (fun q hq => by first | exact absurd hq (Nat.not_lt_zero _) | (obtain rfl : q = 0 := (by simp only [List.length_cons, List.length_nil] at hq; omega); exact ⟨_, List.mem_cons_self⟩)) (by rw [hF]; exact sw2_inj _ _ _ _))⟩
  · obtain rfl : i = ps.length := by omega
    rw [List.take_length] at k2
    have hkl : (kyN ns).length = ns.length := by simp [kyN]
    have hnl : ns.length ≤ 6 := by
      have := grpF_len (fun p : Pa => p.2.1) (fun p : Pa => p.1) ps
      rw [k2]
      show (grpF (fun p : Pa => p.2.1) (fun p : Pa => p.1) ps).length ≤ 6
      omega
    repeat' (first | (refine AW.sreg rfl fun K hK => ?_; simp only [go_sem, ↓reduceIte, List.length_map, rowsV_len, hkl]) | (refine AW.seq_k fun K hK => ?_) | (refine AW.block ?_) | (refine AW.exit ?_; simp only [go_sem, ↓reduceIte]) | (refine AW.cF ?_) | (refine hK _ ?_; clear hK K) | (clear hK K; refine hK _ ?_; clear hK K))
    have hng := ngF_ok ps
    rw [← k2] at hng
    have htr := pas_track h1 (fun p h => (hp p h).1)
    have hgb := hgs.bd (msF_ok h2) hl
    have hby1 : by_.length ≤ 10 ∧ ∀ c ∈ by_, 1 ≤ c ∧ c ≤ 5 := (show ∀ by_ ∈ BY4, by_.length ≤ 10 ∧ ∀ c ∈ by_, 1 ≤ c ∧ c ≤ 5 by decide) by_ hby
    refine AW.loopF (ι := List Nat × List Ng × List Tk) [4, 14, 15, 21, 84] (fun p => []) (fun p => (13056, some (O.miter (.mpr 2624) ns.length p.1.getLast? (.lst p.1))) :: (12864, some (O.map (p.2.2.map fun o => D.str o.1) (dv (p.2.2.map fun o => D.sl (o.2.map deD))))) :: (2624, some (O.map (kyN p.2.1) (rowsV ngR 6400 p.2.1))) :: rowsH ngR 6400 p.2.1) 210 (fun p => Sd ns.length p.1 ∧ (NgOk ps p.2.1 ∧ p.2.1.map (·.1) = ns.map (·.1)) ∧ p.2.2.map (·.1) = p.1.map (fun j => (ns.map (·.1)).getD j []) ∧ ∀ o ∈ p.2.2, (o.2.map (·.1)).Perm ((ps.filter fun p => decide (p.2.1 = o.1)).map (·.1)) ∧ RkOk ms fl a b o.1 o.2) (fun p => ns.length - p.1.length) ([], ns, []) ⟨Sd.nil _, ⟨hng, rfl⟩, rfl, by simp⟩ (by
        have hgl0 : (ns).length ≤ 60 := by omega
        obtain ⟨F, hF⟩ : ∃ F : Nat → Nat, F = sw2 2624 2624 2624 2624 := ⟨_, rfl⟩
        have w13056 : F 13056 = 13056 := by rw [hF]; exact sw2_o (by omega) (by omega) (by omega) (by omega)
        have w12864 : F 12864 = 12864 := by rw [hF]; exact sw2_o (by omega) (by omega) (by omega) (by omega)
        have ws : F 2624 = 2624 := by rw [hF]; simp [sw2, swpN]
        have wo : ∀ q, q < (ns).length → F (6400 + q) = 6400 + q := fun q hq => by rw [hF]; exact sw2_o (by omega) (by omega) (by omega) (by omega)
        have hsp : ∀ hv, frzL hv (fun _ => true) (rowsV ngR 6400 ns) = renL F (rowsV ngR 6400 (ns)) := sp_id ngR_ok wo
        have hbl : belL (64 * 210) (rowsV ngR 6400 (ns)) = true := belL_rowsV ngR_ok _ _ (by (try simp only [List.length_append, List.length_cons, List.length_nil, List.length_set] at hgl0 ⊢); omega)
        (try simp at hbl hsp)
        exact Weak.rowsH (R := ngR) hcx F 6400 _ [_, _, _] rfl rfl (fun q hq => by first | exact absurd hq (Nat.not_lt_zero _) | (obtain rfl : q = 0 := (by simp only [List.length_cons, List.length_nil] at hq; omega); exact w0)) (by simp) (by simp [go_sem, frz, ws, w13056, w12864]) (by simp [go_sem, ws, w13056, w12864, hsp, hbl, List.getLast?_nil, dv]) (fun q zz hq hx => by
            have hql : q < (ns).length := get_lt hq
            refine ⟨by (try simp only [List.length_append, List.length_cons, List.length_nil] at hgl0 hql ⊢); omega, ?_⟩
            rw [wo q hql]
            repeat (refine (hv_skip (by omega)).trans ?_)
            exact hv_rowsE hq hx) (fun q hq => by first | exact absurd hq (Nat.not_lt_zero _) | (obtain rfl : q = 0 := (by simp only [List.length_cons, List.length_nil] at hq; omega); exact ⟨_, List.mem_cons_self⟩)) (by rw [hF]; exact sw2_inj _ _ _ _)) ?_; simp only [St.at_nil, St.at_cons, lk, Nat.reduceEqDiff, ↓reduceIte, Option.getD_some, Option.getD_none, List.cons_append, List.nil_append, List.append_nil]
    rintro ⟨seen, ns1, os⟩ ⟨q1, ⟨q2, q3⟩, q4, q5⟩
    dsimp only at q1 q2 q3 q4 q5 ⊢
    have hn1 : ns1.length = ns.length := by have := congrArg List.length q3; simpa using this
    have hsk : ∀ q ∈ seen, (ns.map (·.1))[q]? = some ((ns.map (·.1)).getD q []) := fun q hq => by
      have := q1.lt q hq
      rw [List.getD_eq_getElem?_getD, List.getElem?_eq_getElem (by simpa using this)]
      rfl
    have hkn : (ns.map (·.1)).Nodup := hng.nd
    have hosn : (os.map (·.1)).Nodup := by
      rw [q4, List.Nodup, List.pairwise_map]
      refine List.Pairwise.imp_of_mem (fun {x y} hx hy hne e => ?_) q1.nd
      have h1 := fidx_in hkn (hsk x hx)
      have h2 := fidx_in hkn (hsk y hy)
      rw [e, h2] at h1
      exact hne (by injection h1 with h1; exact h1.symm)
    have hkl1 : (kyN ns1).length = ns.length := by simp [kyN, hn1]
    have hvl1 : (rowsV ngR 6400 ns1).length = ns.length := by rw [rowsV_len, hn1]
    repeat' (first | (refine AW.sreg rfl fun K hK => ?_; simp only [go_sem, ↓reduceIte]))
    refine run_next rfl rfl rfl rfl (dstOk_of rfl) hkl1 hvl1 (fun hd => ?_) (fun j kk vv hm hk hv => ?_)
    · have hper := outF_perm (gs := ns.map (·.1)) (d := []) (seen := seen) (by rw [List.length_map]; exact q1.perm hd)
      rw [← q4] at hper
      simp only [go_sem, ↓reduceIte, List.length_map]
      repeat' (first | (refine AW.sreg rfl fun K hK => ?_; simp only [go_sem, ↓reduceIte, List.length_map]) | (refine AW.seq_k fun K hK => ?_) | (refine AW.exit ?_; simp only [go_sem, ↓reduceIte]) | (refine AW.cF ?_) | (refine hK _ ?_; clear hK K) | (clear hK K; refine hK _ ?_; clear hK K))
      exact AW.ret ⟨os, ⟨hosn, fun k => by rw [hper.mem_iff]; exact hng.mem k, fun o ho => (q5 o ho).1, fun o ho => (q5 o ho).2⟩, Fin.data rfl (frz_ok2 (frz_mprD rfl rfl) 0) rfl⟩
    have hjl : j < ns1.length := by
      have := get_lt hk
      rw [hkl1] at this
      omega
    obtain ⟨g, hgj, hgm, -⟩ := get_some hjl
    have hkk : kk = .str g.1 := by
      unfold kyN at hk
      rw [List.getElem?_map, hgj] at hk
      exact (Option.some.inj hk).symm
    subst hkk
    have hpos := q2.pos g hgm
    have hvv : vv = .slr (6400 + j) 0 g.2.length := by
      rw [rowsV_get, hgj] at hv
      simp only [Option.map_some] at hv
      rw [rref_pos (by simpa [ngR] using hpos)] at hv
      have := (Option.some.inj hv).symm
      simpa [ngR] using this
    subst hvv
    have hlen := q1.len hm (by omega)
    have hadd := q1.add hm (by omega)
    have hlk : lk (rowsH ngR 6400 ns1) (6400 + j) = some (some (.vec 9 1 (dv (g.2.map D.str)))) := rowsH_lk ngR hgj (by simpa [ngR] using hpos)
    have hN0 : ∀ n : Nat, n ≤ 6399 → (n = 6400 + j) = False := fun n hn => by simp; omega
    have hN1 : ∀ n : Nat, 12800 ≤ n → (n = 6400 + j) = False := fun n hn => by simp; omega
    have hN2 : ∀ n : Nat, n ≤ 6399 → (6400 + j = n) = False := fun n hn => by simp; omega
    have hN3 : ∀ n : Nat, 12800 ≤ n → (6400 + j = n) = False := fun n hn => by simp; omega
    have hg6 : g.2.length ≤ 6 := by
      rw [(q2.row g hgm).length_eq, List.length_map]
      exact Nat.le_trans (List.length_filter_le ..) hpl'
    simp only [go_sem, ↓reduceIte, List.length_map]
    repeat' (first | (refine AW.sreg rfl fun K hK => ?_; simp only [go_sem, ↓reduceIte]) | (refine AW.seq_k fun K hK => ?_) | (refine AW.block ?_) | (refine AW.skip ?_; simp only [Then, InBlock]) | (refine AW.cT ?_) | (refine hK _ ?_; clear hK K))
    refine run_entry rfl rfl rfl rfl (dstOk_of rfl) hkl1 hk hv ?_
    have hso := sortFuncK_St (fun x y => decide (cmpF gs x y by_ < 0)) (fun x y => cmpF gs x y by_) (fun _ _ => rfl) 159 (.ptr [.sl (by_.map (D.int .i64)), .int .i64 fl] 0) (.ptr [gsD gs] 0) (fun x y => tracks1_any hgb by_ hby1.1 hby1.2 fl x y) g.2 (by omega)
    have hzp := isort_perm (fun x y => decide (cmpF gs x y by_ < 0)) g.2
    generalize isort (fun x y => decide (cmpF gs x y by_ < 0)) g.2 = zs at hso hzp
    have hzl := hzp.length_eq
    simp only [go_sem, ↓reduceIte, List.length_map]
    repeat' (first | (refine AW.sreg rfl fun K hK => ?_; simp only [go_sem, ↓reduceIte]) | (refine hK _ ?_; clear hK K))
    refine run_call _ _ _ (hso.objs [6400 + j] ⟨?_, trivial⟩ rfl (by simp) (by simp [go_sem, renOs]) (by simp) (by simp) (by simp [go_sem]) (by simp [go_sem]) (by simp [go_sem]) (by simp [go_sem])) rfl rfl (dstOk_of rfl) rfl rfl rfl ?_
    · simp [gOf, St.hv, lk, hlk, hN0, hN1]
    simp only [go_sem, ↓reduceIte, List.length_map]
    repeat' (first | (refine AW.sreg rfl fun K hK => ?_; simp only [go_sem, ↓reduceIte, List.length_map]) | (refine AW.block ?_) | (refine hK _ ?_; clear hK K))
    have hzn : zs ≠ [] := by
      intro e
      subst e
      exact hpos (List.eq_nil_of_length_eq_zero hzl.symm)
    obtain ⟨q6, q7⟩ := q2.set hgj hzp
    have hrs := rowsN_same (B := 6400) hgj hpos hzl
    have hky := kyN_same hgj zs
    have hrl : (ns1.set j (g.1, zs)).length = ns.length := by rw [List.length_set]; exact hn1
    have hzj : (ns1.set j (g.1, zs))[j]? = some (g.1, zs) := List.getElem?_set_self hjl
    obtain ⟨ns2, hns2⟩ : ∃ ns2, ns2 = ns1.set j (g.1, zs) := ⟨_, rfl⟩
    have hsp : ∀ hv, frzL hv (fun _ => true) (rowsV ngR 6400 ns1) = renL id (rowsV ngR 6400 ns2) := fun hv => by rw [hns2, hrs]; exact sp_id ngR_ok (fun _ _ => rfl) hv
    have hbl : belL (64 * 250) (rowsV ngR 6400 ns2) = true := belL_rowsV ngR_ok _ _ (by rw [hns2, hrl]; omega)
    have hbj : 6400 + j < 16000 := by omega
    rw [← hns2] at q6 q7 hky hrl hzj
    (try simp at hbl hsp)
    refine AW.loopF (ι := Nat × List De) [4, 14, 15, 21, 22, 84, 93, 94] (fun p => [(95, I p.1)]) (fun p => (13056, some (O.miter (.mpr 2624) ns.length (some j) (.lst (seen ++ [j])))) :: ((match p.1 with | 0 => [(12864, some (O.map (os.map fun o => D.str o.1) (dv (os.map fun o => D.sl (o.2.map deD)))))] | _ + 1 => [(12864, some (O.map ((os.map fun o => D.str o.1) ++ [D.str g.1]) (dv (os.map fun o => D.sl (o.2.map deD)) ++ [.slr 15360 0 p.2.length]))), (15360, some (O.vec 90 3 (dv (p.2.map deD))))]) ++ ((2624, some (O.map (kyN ns2) (rowsV ngR 6400 ns2))) :: rowsH ngR 6400 ns2))) 250 (fun p => p.1 ≤ zs.length ∧ p.2.map (·.1) = zs.take p.1 ∧ RkOk ms fl a b g.1 p.2) (fun p => zs.length - p.1) (0, []) ⟨Nat.zero_le _, rfl, by intro i d h; simp at h⟩ (Weak.rowsH (R := ngR) hcx id 6400 ns2 [_, _, _] rfl rfl (fun q hq => absurd hq (Nat.not_lt_zero _)) (by simp) (by simp [go_sem, frz, hbj, hzl]) (by simp [go_sem, hsp, hbl, hky, hN2, hN3]) (fun q zz hq hx => ⟨by have := get_lt hq; simp only; omega, hv_setK (by omega) _ _ _ _ _ _ _ _ (by decide) (by decide) (by decide) (by decide) (hns2 ▸ hq) hx⟩) (fun q hq => absurd hq (Nat.not_lt_zero _)) (fun _ _ h => h)) ?_; simp only [St.at_nil, St.at_cons, lk, Nat.reduceEqDiff, ↓reduceIte, Option.getD_some, Option.getD_none, List.cons_append, List.nil_append, List.append_nil]
    have ht : g.1 = demo ∨ g.1 = main_ := by
      obtain ⟨p, hp1, hp2⟩ := (q2.mem g.1).1 (List.mem_map_of_mem hgm)
      rw [← hp2]
      exact htr p hp1
    obtain ⟨jm, mo1, mo2⟩ := most_at ht hmk hmv
    have hlk2 : lk (rowsH ngR 6400 ns2) (6400 + j) = some (some (.vec 9 1 (dv (zs.map D.str)))) := rowsH_lk ngR hzj (by simpa [ngR] using hzn)
    have hz6 : zs.length ≤ 6 := by omega
    have hfl1 : 0 ≤ fl ∧ fl ≤ 60 := (show ∀ fl ∈ FL3, 0 ≤ fl ∧ fl ≤ 60 by decide) fl hfl
    have hgk : (ns.map (·.1))[j]? = some g.1 := by rw [← q3, List.getElem?_map, hgj]; rfl
    have hkt : g.1 ∉ os.map (·.1) := by
      rw [q4]
      intro hmm
      obtain ⟨q, hq, hqe⟩ := List.mem_map.1 hmm
      have h := hsk q hq
      rw [hqe] at h
      have h1 := fidx_in hkn h
      rw [fidx_in hkn hgk] at h1
      exact hm (by injection h1 with h1; rw [h1]; exact hq)
    have hfo : fndK (.str g.1) (os.map fun o => D.str o.1) = some none := by
      have e : (os.map fun o => D.str o.1) = (os.map (·.1)).map D.str := by simp
      rw [e, fnd_st, fidx_out hkt]
    have hfo2 : fndK (.str g.1) ((os.map fun o => D.str o.1) ++ [D.str g.1]) = some (some os.length) := by
      have e : (os.map fun o => D.str o.1) ++ [D.str g.1] = (os.map (·.1) ++ [g.1]).map D.str := by simp
      rw [e, fnd_st, fidx_in (j := os.length) (by rw [List.nodup_append]; exact ⟨hosn, by simp, fun x hx y hy => by obtain rfl := List.mem_singleton.1 hy; rintro rfl; exact hkt hx⟩) (by rw [List.getElem?_append_right (by simp)]; simp)]
    rintro ⟨i, ds⟩ ⟨r1, r2, r3⟩
    dsimp only at r1 r2 r3 ⊢
    by_cases hi : i < zs.length
    rotate_left
    · obtain rfl : i = zs.length := by omega
      rw [List.take_length] at r2
      obtain ⟨i, hi2⟩ : ∃ i, zs.length = i + 1 := ⟨zs.length - 1, by have := List.length_pos_iff.2 hzn; omega⟩
      have hdl : ds.length = i + 1 := by have := congrArg List.length r2; simp at this; omega
      have htk : List.take ds.length (dv (ds.map deD)) = dv (ds.map deD) := List.take_of_length_le (by simp [dv])
      rw [hi2]
      dsimp only
      repeat' (first | (refine AW.sreg rfl fun K hK => ?_; simp only [go_sem, ↓reduceIte, ← hzl, hi2, List.length_map]) | (refine AW.seq_k fun K hK => ?_) | (refine AW.exit ?_; simp only [go_sem, ↓reduceIte]) | (refine AW.cF ?_) | (refine hK _ ?_; clear hK K))
      have hgd : (ns.map (·.1)).getD j [] = g.1 := by rw [List.getD_eq_getElem?_getD, hgk]; rfl
      have hkp : ∀ q : Nat, q < 60 → (6400 + q = 15360) = False := fun q hq => by simp; omega
      have hbl2 : belL (64 * 210) (rowsV ngR 6400 ns2) = true := belL_rowsV ngR_ok _ _ (by omega)
      have hsp3 : ∀ hv, frzL hv (fun q => !decide (q = 15360)) (rowsV ngR 6400 ns2) = renL id (rowsV ngR 6400 ns2) := fun hv => by
        rw [frzL_rowsK (R := ngR) (fun _ _ => rfl) ns2 6400 (fun q hq => by simp; omega), renL_rowsV ngR_ok ns2 6400 (fun _ _ => rfl)]
      have hfr : ∀ hv : Nat → Option O, hv 15360 = some (.vec 90 3 (dv (ds.map deD))) → frz hv (fun q => !decide (q = 15360)) (.slr 15360 0 ds.length) = .d (.sl (ds.map deD)) := fun hv h => frz_slr (by simp) h (by simp)
      (try simp at hbl2 hsp3)
      refine ⟨(seen ++ [j], ns2, os ++ [(g.1, ds)]), ⟨hadd, ⟨q6, q7.trans q3⟩, by rw [List.map_append, List.map_append, q4]; simp only [List.map_cons, List.map_nil, hgd], fun o ho => ?_⟩, by simp only [List.length_append, List.length_cons, List.length_nil]; omega, Weak.rowsK (R := ngR) hcx id (fun q => !decide (q = 15360)) 6400 ns2 [_, _, _] rfl rfl (fun q hq => absurd hq (Nat.not_lt_zero _)) (by simp) (by simp [go_sem, frz]) ?hb (fun q zz hq hx => ⟨by have := get_lt hq; simp only; omega, by have := get_lt hq; simp; omega, by have := get_lt hq; simp only [id]; (repeat (refine (hv_skip (by omega)).trans ?_)); exact hv_rowsE hq hx⟩) (fun q hq => absurd hq (Nat.not_lt_zero _)) (fun _ _ h => h)⟩
      case hb =>
        intro p hp
        simp only [List.mem_cons, List.not_mem_nil, or_false] at hp
        rcases hp with rfl | rfl | rfl
        · exact ⟨_, rfl, by simp, by simp [go_sem], by simp, _, rfl, by simp [go_sem]⟩
        · refine ⟨_, rfl, by simp, by simp [go_sem], by simp, _, rfl, ?_⟩
          show O.map _ (frzL _ _ (_ ++ _)) = O.map _ (renL id _)
          rw [frzL_app2, frzL_dv, renL_dv]
          simp only [frzL]
          rw [hfr _ rfl]
          simp [dv]
        · exact ⟨_, rfl, by simp, by simp [go_sem, hbl2], by simp, _, rfl, by simp [go_sem, hsp3]⟩
      rcases List.mem_append.1 ho with ho | ho
      · exact q5 o ho
      · obtain rfl := List.mem_singleton.1 ho
        refine ⟨?_, r3⟩
        simp only
        rw [r2]
        exact hzp.trans (q2.row g hgm)
    obtain ⟨pid, hpid, hpm, -⟩ := get_some hi
    have hget : (dv (zs.map D.str))[0 + i]? = some (.d (.str pid)) := by simp only [dv, Nat.zero_add, List.getElem?_map, hpid, Option.map_some]
    have hget2 : (dv (zs.map D.str))[i]? = some (.d (.str pid)) := by rw [← hget, Nat.zero_add]
    have hrp := hgs.rowP pid
    have h10 := rowG_10 hgb pid
    have hsum := sumOf_any h10
    have hbd := sum_bd h10.2
    have hdl : ds.length = i := by have := congrArg List.length r2; simp at this; omega
    have hyes : yesB ms fl (moF a b g.1) pid (i + 1) = (decide ((i : Int) < moF a b g.1) && (decide (rowG gs pid ≠ []) && decide (fl * (rowG gs pid).length ≤ 10 * (rowG gs pid).sum))) := by
      unfold yesB
      have a1 : decide ((i : Int) + 1 ≤ moF a b g.1) = decide ((i : Int) < moF a b g.1) := decide_eq_decide.2 (by omega)
      have a2 : decide (scs ms pid ≠ []) = decide (rowG gs pid ≠ []) := by
        refine decide_eq_decide.2 (not_congr ⟨fun e => ?_, fun e => ?_⟩)
        · rw [e] at hrp; exact hrp.eq_nil
        · rw [e] at hrp; exact hrp.nil_eq.symm
      rw [a1, a2, ← perm_sum hrp, ← hrp.length_eq]
    have hrow := row_at hgb pid
    have hp1 : -1200 ≤ fl * (rowG gs pid).length ∧ fl * (rowG gs pid).length ≤ 1200 := by
      have := h10.1
      have h3 := (show ∀ fl ∈ FL3, fl = 0 ∨ fl = 50 ∨ fl = 60 by decide) fl hfl
      rcases h3 with rfl | rfl | rfl <;> omega
    have hnext : ∀ y : Bool, y = yesB ms fl (moF a b g.1) pid (i + 1) → (i + 1 ≤ zs.length ∧ (ds ++ [(pid, y, (i : Int) + 1)]).map (·.1) = zs.take (i + 1) ∧ RkOk ms fl a b g.1 (ds ++ [(pid, y, (i : Int) + 1)])) := fun y hy =>
      ⟨hi, by rw [List.map_append, r2, List.take_add_one, hpid]; rfl, r3.app (by omega) hy⟩
    rw [hyes] at hnext
    clear hyes
    have hgo : ∀ y : V, (dv (os.map fun o => D.sl (o.2.map deD)) ++ [y])[os.length]? = some y := fun y => by
      rw [List.getElem?_append_right (by simp [dv])]
      simp [dv]
    have hse : ∀ y z : V, (dv (os.map fun o => D.sl (o.2.map deD)) ++ [y]).set os.length z = dv (os.map fun o => D.sl (o.2.map deD)) ++ [z] := fun y z => by
      rw [List.set_append_right _ _ (by simp [dv])]
      simp [dv]
    have htk : List.take ds.length (dv (ds.map deD)) = dv (ds.map deD) := List.take_of_length_le (by simp [dv])
    have htk1 : List.take i (dv (ds.map deD)) = dv (ds.map deD) := List.take_of_length_le (by simp [dv]; omega)
    generalize hmo : moF a b g.1 = mo at *
    generalize rowG gs pid = sc at *
    have hs20 : sc.length ≤ 20 := h10.1
    have hd0 : i = 0 → ds = [] := fun e => List.eq_nil_of_length_eq_zero (by omega)
    have dv1 : ∀ x : D, dv [x] = [V.d x] := fun _ => rfl
    have e1 : swpN 15360 18816 13056 = 13056 := rfl
    have e2 : swpN 15360 18816 12864 = 12864 := rfl
    have e3 : swpN 15360 18816 2624 = 2624 := rfl
    have e4 : swpN 15360 18816 15360 = 18816 := rfl
    have e5 : ∀ q : Nat, q < 60 → swpN 15360 18816 (6400 + q) = 6400 + q := fun q hq => swpN_o (by omega) (by omega)
    have e6 := e5 j (by omega)
    have hsp2 : ∀ hv, frzL hv (fun _ => true) (rowsV ngR 6400 ns2) = renL (swpN 15360 18816) (rowsV ngR 6400 ns2) := fun hv => sp_id ngR_ok (fun q hq => e5 q (by omega)) hv
    by_cases hA : (i : Int) < mo
    rotate_left
    · rcases hrow with ⟨jr, w1, w2⟩ | ⟨w1, w2⟩
      · rcases i with _ | i
        · obtain rfl := hd0 rfl
          repeat' (first | ((first | refine AW.sreg rfl fun K hK => ?_ | refine AW.sregD hmix rfl fun K hK => ?_ | refine AW.reg rfl ?_); simp only [go_sem, ↓reduceIte, List.length_map, hget, hget2, hlk2, hN0, hN1, hN2, hN3, mo1, mo2, w1, w2, hA, hgo, hse, htk, htk1, hdl, dv_length, deD, hfo]) | (refine AW.seq_k fun K hK => ?_) | (refine AW.block ?_) | (refine AW.skip ?_; simp only [Then, InBlock]) | (refine AW.cT ?_) | (refine hK _ ?_; clear hK K) | (refine stepBT_split (fun h => ?_) (fun h => ?_) <;> (have hb0 := h) <;> (try simp only [Bool.not_eq_true', Bool.not_eq_false'] at hb0) <;> (try simp only [decide_eq_true_eq, decide_eq_false_iff_not, Bool.not_eq_true', Bool.not_eq_false', Bool.not_eq_eq_eq_not, Bool.not_true, Bool.not_false, beq_iff_eq, bne_iff_ne, beq_eq_false_iff_ne, ne_eq, Bool.and_eq_true, Bool.or_eq_true, Bool.or_eq_false_iff] at h) <;> simp only [go_sem, ↓reduceIte, hb0, h, decide_true, decide_false, List.length_map, hget, hget2, hlk2, hN0, hN1, hN2, hN3, mo1, mo2, w1, w2, hA, hgo, hse, htk, htk1, hdl, dv_length, deD, hfo] <;> (try clear hb0)) | (with_reducible refine And.intro (?_ : regOk _ _ = true) ?_; kernel_rfl) | (with_reducible refine andI ?_))
          exact ⟨(0 + 1, _), hnext false (by rw [decide_eq_false hA, Bool.false_and]), by simp only; omega, (Weak.rowsH (R := ngR) hcx (swpN 15360 18816) 6400 ns2 [_, _, _, _] rfl rfl (fun q hq => absurd hq (Nat.not_lt_zero _)) (by simp) (by simp [go_sem, frz, hbj, e1, e2, e3, e4, e6]) (by simp [go_sem, hsp2, hbl, e1, e2, e3, e4, e6, belL_app2, renL_app2, frzL_app2, dv1, dv_push, hdl, hN2, hN3, deD]) (fun q zz hq hx => ⟨by have := get_lt hq; simp only; omega, by have := get_lt hq; rw [e5 q (by omega)]; (repeat (refine (hv_skip (by omega)).trans ?_)); exact hv_rowsE hq hx⟩) (fun q hq => absurd hq (Nat.not_lt_zero _)) (swpN_inj _ _))⟩
        · repeat' (first | ((first | refine AW.sreg rfl fun K hK => ?_ | refine AW.sregD hmix rfl fun K hK => ?_ | refine AW.reg rfl ?_); simp only [go_sem, ↓reduceIte, List.length_map, hget, hget2, hlk2, hN0, hN1, hN2, hN3, mo1, mo2, w1, w2, hA, hgo, hse, htk, htk1, hdl, dv_length, deD, hfo2]) | (refine AW.seq_k fun K hK => ?_) | (refine AW.block ?_) | (refine AW.skip ?_; simp only [Then, InBlock]) | (refine AW.cT ?_) | (refine hK _ ?_; clear hK K) | (refine stepBT_split (fun h => ?_) (fun h => ?_) <;> (have hb0 := h) <;> (try simp only [Bool.not_eq_true', Bool.not_eq_false'] at hb0) <;> (try simp only [decide_eq_true_eq, decide_eq_false_iff_not, Bool.not_eq_true', Bool.not_eq_false', Bool.not_eq_eq_eq_not, Bool.not_true, Bool.not_false, beq_iff_eq, bne_iff_ne, beq_eq_false_iff_ne, ne_eq, Bool.and_eq_true, Bool.or_eq_true, Bool.or_eq_false_iff] at h) <;> simp only [go_sem, ↓reduceIte, hb0, h, decide_true, decide_false, List.length_map, hget, hget2, hlk2, hN0, hN1, hN2, hN3, mo1, mo2, w1, w2, hA, hgo, hse, htk, htk1, hdl, dv_length, deD, hfo2] <;> (try clear hb0)) | (with_reducible refine And.intro (?_ : regOk _ _ = true) ?_; kernel_rfl) | (with_reducible refine andI ?_))
          exact ⟨(i + 1 + 1, _), hnext false (by rw [decide_eq_false hA, Bool.false_and]), by simp only; omega, (Weak.rowsH (R := ngR) hcx (swpN 15360 18816) 6400 ns2 [_, _, _, _] rfl rfl (fun q hq => absurd hq (Nat.not_lt_zero _)) (by simp) (by simp [go_sem, frz, hbj, e1, e2, e3, e4, e6]) (by simp [go_sem, hsp2, hbl, e1, e2, e3, e4, e6, belL_app2, renL_app2, frzL_app2, dv1, dv_push, hdl, hN2, hN3, deD]) (fun q zz hq hx => ⟨by have := get_lt hq; simp only; omega, by have := get_lt hq; rw [e5 q (by omega)]; (repeat (refine (hv_skip (by omega)).trans ?_)); exact hv_rowsE hq hx⟩) (fun q hq => absurd hq (Nat.not_lt_zero _)) (swpN_inj _ _))⟩
      · rcases i with _ | i
        · obtain rfl := hd0 rfl
          repeat' (first | ((first | refine AW.sreg rfl fun K hK => ?_ | refine AW.sregD hmix rfl fun K hK => ?_ | refine AW.reg rfl ?_); simp only [go_sem, ↓reduceIte, List.length_map, hget, hget2, hlk2, hN0, hN1, hN2, hN3, mo1, mo2, w1, hA, hgo, hse, htk, htk1, hdl, dv_length, deD, hfo]) | (refine AW.seq_k fun K hK => ?_) | (refine AW.block ?_) | (refine AW.skip ?_; simp only [Then, InBlock]) | (refine AW.cT ?_) | (refine hK _ ?_; clear hK K) | (refine stepBT_split (fun h => ?_) (fun h => ?_) <;> (have hb0 := h) <;> (try simp only [Bool.not_eq_true', Bool.not_eq_false'] at hb0) <;> (try simp only [decide_eq_true_eq, decide_eq_false_iff_not, Bool.not_eq_true', Bool.not_eq_false', Bool.not_eq_eq_eq_not, Bool.not_true, Bool.not_false, beq_iff_eq, bne_iff_ne, beq_eq_false_iff_ne, ne_eq, Bool.and_eq_true, Bool.or_eq_true, Bool.or_eq_false_iff] at h) <;> simp only [go_sem, ↓reduceIte, hb0, h, decide_true, decide_false, List.length_map, hget, hget2, hlk2, hN0, hN1, hN2, hN3, mo1, mo2, w1, hA, hgo, hse, htk, htk1, hdl, dv_length, deD, hfo] <;> (try clear hb0)) | (with_reducible refine And.intro (?_ : regOk _ _ = true) ?_; kernel_rfl) | (with_reducible refine andI ?_))
          exact ⟨(0 + 1, _), hnext false (by rw [decide_eq_false hA, Bool.false_and]), by simp only; omega, (Weak.rowsH (R := ngR) hcx (swpN 15360 18816) 6400 ns2 [_, _, _, _] rfl rfl (fun q hq => absurd hq (Nat.not_lt_zero _)) (by simp) (by simp [go_sem, frz, hbj, e1, e2, e3, e4, e6]) (by simp [go_sem, hsp2, hbl, e1, e2, e3, e4, e6, belL_app2, renL_app2, frzL_app2, dv1, dv_push, hdl, hN2, hN3, deD]) (fun q zz hq hx => ⟨by have := get_lt hq; simp only; omega, by have := get_lt hq; rw [e5 q (by omega)]; (repeat (refine (hv_skip (by omega)).trans ?_)); exact hv_rowsE hq hx⟩) (fun q hq => absurd hq (Nat.not_lt_zero _)) (swpN_inj _ _))⟩
        · repeat' (first | ((first | refine AW.sreg rfl fun K hK => ?_ | refine AW.sregD hmix rfl fun K hK => ?_ | refine AW.reg rfl ?_); simp only [go_sem, ↓reduceIte, List.length_map, hget, hget2, hlk2, hN0, hN1, hN2, hN3, mo1, mo2, w1, hA, hgo, hse, htk, htk1, hdl, dv_length, deD, hfo2]) | (refine AW.seq_k fun K hK => ?_) | (refine AW.block ?_) | (refine AW.skip ?_; simp only [Then, InBlock]) | (refine AW.cT ?_) | (refine hK _ ?_; clear hK K) | (refine stepBT_split (fun h => ?_) (fun h => ?_) <;> (have hb0 := h) <;> (try simp only [Bool.not_eq_true', Bool.not_eq_false'] at hb0) <;> (try simp only [decide_eq_true_eq, decide_eq_false_iff_not, Bool.not_eq_true', Bool.not_eq_false', Bool.not_eq_eq_eq_not, Bool.not_true, Bool.not_false, beq_iff_eq, bne_iff_ne, beq_eq_false_iff_ne, ne_eq, Bool.and_eq_true, Bool.or_eq_true, Bool.or_eq_false_iff] at h) <;> simp only [go_sem, ↓reduceIte, hb0, h, decide_true, decide_false, List.length_map, hget, hget2, hlk2, hN0, hN1, hN2, hN3, mo1, mo2, w1, hA, hgo, hse, htk, htk1, hdl, dv_length, deD, hfo2] <;> (try clear hb0)) | (with_reducible refine And.intro (?_ : regOk _ _ = true) ?_; kernel_rfl) | (with_reducible refine andI ?_))
          exact ⟨(i + 1 + 1, _), hnext false (by rw [decide_eq_false hA, Bool.false_and]), by simp only; omega, (Weak.rowsH (R := ngR) hcx (swpN 15360 18816) 6400 ns2 [_, _, _, _] rfl rfl (fun q hq => absurd hq (Nat.not_lt_zero _)) (by simp) (by simp [go_sem, frz, hbj, e1, e2, e3, e4, e6]) (by simp [go_sem, hsp2, hbl, e1, e2, e3, e4, e6, belL_app2, renL_app2, frzL_app2, dv1, dv_push, hdl, hN2, hN3, deD]) (fun q zz hq hx => ⟨by have := get_lt hq; simp only; omega, by have := get_lt hq; rw [e5 q (by omega)]; (repeat (refine (hv_skip (by omega)).trans ?_)); exact hv_rowsE hq hx⟩) (fun q hq => absurd hq (Nat.not_lt_zero _)) (swpN_inj _ _))⟩
    rcases hrow with ⟨jr, w1, w2⟩ | ⟨w1, hB⟩
    rotate_left
    · rcases i with _ | i
      · obtain rfl := hd0 rfl
        repeat' (first | ((first | refine AW.sreg rfl fun K hK => ?_ | refine AW.sregD hmix rfl fun K hK => ?_ | refine AW.reg rfl ?_); simp only [go_sem, ↓reduceIte, List.length_map, hget, hget2, hlk2, hN0, hN1, hN2, hN3, mo1, mo2, w1, hA, hgo, hse, htk, htk1, hdl, dv_length, deD, hfo]) | (refine AW.seq_k fun K hK => ?_) | (refine AW.block ?_) | (refine AW.skip ?_; simp only [Then, InBlock]) | (refine AW.cT ?_) | (refine hK _ ?_; clear hK K) | (refine stepBT_split (fun h => ?_) (fun h => ?_) <;> (have hb0 := h) <;> (try simp only [Bool.not_eq_true', Bool.not_eq_false'] at hb0) <;> (try simp only [decide_eq_true_eq, decide_eq_false_iff_not, Bool.not_eq_true', Bool.not_eq_false', Bool.not_eq_eq_eq_not, Bool.not_true, Bool.not_false, beq_iff_eq, bne_iff_ne, beq_eq_false_iff_ne, ne_eq, Bool.and_eq_true, Bool.or_eq_true, Bool.or_eq_false_iff] at h) <;> simp only [go_sem, ↓reduceIte, hb0, h, decide_true, decide_false, List.length_map, hget, hget2, hlk2, hN0, hN1, hN2, hN3, mo1, mo2, w1, hA, hgo, hse, htk, htk1, hdl, dv_length, deD, hfo] <;> (try clear hb0)) | (with_reducible refine And.intro (?_ : regOk _ _ = true) ?_; kernel_rfl) | (with_reducible refine andI ?_) | (exfalso; omega))
        exact ⟨(0 + 1, _), hnext false (by rw [show decide (sc ≠ []) = false from decide_eq_false (fun h => h hB), Bool.false_and, Bool.and_false]), by simp only; omega, (Weak.rowsH (R := ngR) hcx (swpN 15360 18816) 6400 ns2 [_, _, _, _] rfl rfl (fun q hq => absurd hq (Nat.not_lt_zero _)) (by simp) (by simp [go_sem, frz, hbj, e1, e2, e3, e4, e6]) (by simp [go_sem, hsp2, hbl, e1, e2, e3, e4, e6, belL_app2, renL_app2, frzL_app2, dv1, dv_push, hdl, hN2, hN3, deD]) (fun q zz hq hx => ⟨by have := get_lt hq; simp only; omega, by have := get_lt hq; rw [e5 q (by omega)]; (repeat (refine (hv_skip (by omega)).trans ?_)); exact hv_rowsE hq hx⟩) (fun q hq => absurd hq (Nat.not_lt_zero _)) (swpN_inj _ _))⟩
      · repeat' (first | ((first | refine AW.sreg rfl fun K hK => ?_ | refine AW.sregD hmix rfl fun K hK => ?_ | refine AW.reg rfl ?_); simp only [go_sem, ↓reduceIte, List.length_map, hget, hget2, hlk2, hN0, hN1, hN2, hN3, mo1, mo2, w1, hA, hgo, hse, htk, htk1, hdl, dv_length, deD, hfo2]) | (refine AW.seq_k fun K hK => ?_) | (refine AW.block ?_) | (refine AW.skip ?_; simp only [Then, InBlock]) | (refine AW.cT ?_) | (refine hK _ ?_; clear hK K) | (refine stepBT_split (fun h => ?_) (fun h => ?_) <;> (have hb0 := h) <;> (try simp only [Bool.not_eq_true', Bool.not_eq_false'] at hb0) <;> (try simp only [decide_eq_true_eq, decide_eq_false_iff_not, Bool.not_eq_true', Bool.not_eq_false', Bool.not_eq_eq_eq_not, Bool.not_true, Bool.not_false, beq_iff_eq, bne_iff_ne, beq_eq_false_iff_ne, ne_eq, Bool.and_eq_true, Bool.or_eq_true, Bool.or_eq_false_iff] at h) <;> simp only [go_sem, ↓reduceIte, hb0, h, decide_true, decide_false, List.length_map, hget, hget2, hlk2, hN0, hN1, hN2, hN3, mo1, mo2, w1, hA, hgo, hse, htk, htk1, hdl, dv_length, deD, hfo2] <;> (try clear hb0)) | (with_reducible refine And.intro (?_ : regOk _ _ = true) ?_; kernel_rfl) | (with_reducible refine andI ?_) | (exfalso; omega))
        exact ⟨(i + 1 + 1, _), hnext false (by rw [show decide (sc ≠ []) = false from decide_eq_false (fun h => h hB), Bool.false_and, Bool.and_false]), by simp only; omega, (Weak.rowsH (R := ngR) hcx (swpN 15360 18816) 6400 ns2 [_, _, _, _] rfl rfl (fun q hq => absurd hq (Nat.not_lt_zero _)) (by simp) (by simp [go_sem, frz, hbj, e1, e2, e3, e4, e6]) (by simp [go_sem, hsp2, hbl, e1, e2, e3, e4, e6, belL_app2, renL_app2, frzL_app2, dv1, dv_push, hdl, hN2, hN3, deD]) (fun q zz hq hx => ⟨by have := get_lt hq; simp only; omega, by have := get_lt hq; rw [e5 q (by omega)]; (repeat (refine (hv_skip (by omega)).trans ?_)); exact hv_rowsE hq hx⟩) (fun q hq => absurd hq (Nat.not_lt_zero _)) (swpN_inj _ _))⟩
    by_cases hB : sc ≠ []
    rotate_left
    · have hB := Decidable.not_not.1 hB
      have hBn : ((sc.length : Nat) : Int) = 0 := by rw [hB]; rfl
      rcases i with _ | i
      · obtain rfl := hd0 rfl
        repeat' (first | ((first | refine AW.sreg rfl fun K hK => ?_ | refine AW.sregD hmix rfl fun K hK => ?_ | refine AW.reg rfl ?_); simp only [go_sem, ↓reduceIte, List.length_map, hget, hget2, hlk2, hN0, hN1, hN2, hN3, mo1, mo2, w1, w2, hA, hgo, hse, htk, htk1, hdl, dv_length, deD, hBn, Int.lt_irrefl, hfo]) | (refine AW.seq_k fun K hK => ?_) | (refine AW.block ?_) | (refine AW.skip ?_; simp only [Then, InBlock]) | (refine AW.cT ?_) | (refine hK _ ?_; clear hK K) | (refine stepBT_split (fun h => ?_) (fun h => ?_) <;> (have hb0 := h) <;> (try simp only [Bool.not_eq_true', Bool.not_eq_false'] at hb0) <;> (try simp only [decide_eq_true_eq, decide_eq_false_iff_not, Bool.not_eq_true', Bool.not_eq_false', Bool.not_eq_eq_eq_not, Bool.not_true, Bool.not_false, beq_iff_eq, bne_iff_ne, beq_eq_false_iff_ne, ne_eq, Bool.and_eq_true, Bool.or_eq_true, Bool.or_eq_false_iff] at h) <;> simp only [go_sem, ↓reduceIte, hb0, h, decide_true, decide_false, List.length_map, hget, hget2, hlk2, hN0, hN1, hN2, hN3, mo1, mo2, w1, w2, hA, hgo, hse, htk, htk1, hdl, dv_length, deD, hBn, Int.lt_irrefl, hfo] <;> (try clear hb0)) | (with_reducible refine And.intro (?_ : regOk _ _ = true) ?_; kernel_rfl) | (with_reducible refine andI ?_))
        exact ⟨(0 + 1, _), hnext false (by rw [show decide (sc ≠ []) = false from decide_eq_false (fun h => h hB), Bool.false_and, Bool.and_false]), by simp only; omega, (Weak.rowsH (R := ngR) hcx (swpN 15360 18816) 6400 ns2 [_, _, _, _] rfl rfl (fun q hq => absurd hq (Nat.not_lt_zero _)) (by simp) (by simp [go_sem, frz, hbj, e1, e2, e3, e4, e6]) (by simp [go_sem, hsp2, hbl, e1, e2, e3, e4, e6, belL_app2, renL_app2, frzL_app2, dv1, dv_push, hdl, hN2, hN3, deD]) (fun q zz hq hx => ⟨by have := get_lt hq; simp only; omega, by have := get_lt hq; rw [e5 q (by omega)]; (repeat (refine (hv_skip (by omega)).trans ?_)); exact hv_rowsE hq hx⟩) (fun q hq => absurd hq (Nat.not_lt_zero _)) (swpN_inj _ _))⟩
      · repeat' (first | ((first | refine AW.sreg rfl fun K hK => ?_ | refine AW.sregD hmix rfl fun K hK => ?_ | refine AW.reg rfl ?_); simp only [go_sem, ↓reduceIte, List.length_map, hget, hget2, hlk2, hN0, hN1, hN2, hN3, mo1, mo2, w1, w2, hA, hgo, hse, htk, htk1, hdl, dv_length, deD, hBn, Int.lt_irrefl, hfo2]) | (refine AW.seq_k fun K hK => ?_) | (refine AW.block ?_) | (refine AW.skip ?_; simp only [Then, InBlock]) | (refine AW.cT ?_) | (refine hK _ ?_; clear hK K) | (refine stepBT_split (fun h => ?_) (fun h => ?_) <;> (have hb0 := h) <;> (try simp only [Bool.not_eq_true', Bool.not_eq_false'] at hb0) <;> (try simp only [decide_eq_true_eq, decide_eq_false_iff_not, Bool.not_eq_true', Bool.not_eq_false', Bool.not_eq_eq_eq_not, Bool.not_true, Bool.not_false, beq_iff_eq, bne_iff_ne, beq_eq_false_iff_ne, ne_eq, Bool.and_eq_true, Bool.or_eq_true, Bool.or_eq_false_iff] at h) <;> simp only [go_sem, ↓reduceIte, hb0, h, decide_true, decide_false, List.length_map, hget, hget2, hlk2, hN0, hN1, hN2, hN3, mo1, mo2, w1, w2, hA, hgo, hse, htk, htk1, hdl, dv_length, deD, hBn, Int.lt_irrefl, hfo2] <;> (try clear hb0)) | (with_reducible refine And.intro (?_ : regOk _ _ = true) ?_; kernel_rfl) | (with_reducible refine andI ?_))
        exact ⟨(i + 1 + 1, _), hnext false (by rw [show decide (sc ≠ []) = false from decide_eq_false (fun h => h hB), Bool.false_and, Bool.and_false]), by simp only; omega, (Weak.rowsH (R := ngR) hcx (swpN 15360 18816) 6400 ns2 [_, _, _, _] rfl rfl (fun q hq => absurd hq (Nat.not_lt_zero _)) (by simp) (by simp [go_sem, frz, hbj, e1, e2, e3, e4, e6]) (by simp [go_sem, hsp2, hbl, e1, e2, e3, e4, e6, belL_app2, renL_app2, frzL_app2, dv1, dv_push, hdl, hN2, hN3, deD]) (fun q zz hq hx => ⟨by have := get_lt hq; simp only; omega, by have := get_lt hq; rw [e5 q (by omega)]; (repeat (refine (hv_skip (by omega)).trans ?_)); exact hv_rowsE hq hx⟩) (fun q hq => absurd hq (Nat.not_lt_zero _)) (swpN_inj _ _))⟩
    have hBl : 0 < sc.length := List.length_pos_iff.2 hB
    have hBn : (0 : Int) < sc.length := by omega
    by_cases hC : fl * (sc.length : Int) ≤ 10 * sc.sum
    · rcases i with _ | i
      · obtain rfl := hd0 rfl
        repeat' (first | ((first | refine AW.sreg rfl fun K hK => ?_ | refine AW.sregD hmix rfl fun K hK => ?_ | refine AW.reg rfl ?_ | refine runT_call _ _ [] (fun hv _ => (hsum).pure rfl rfl hv _) rfl rfl (dstOk_of rfl) rfl rfl ?_); simp only [go_sem, ↓reduceIte, List.length_map, hget, hget2, hlk2, hN0, hN1, hN2, hN3, mo1, mo2, w1, w2, hA, hgo, hse, htk, htk1, hdl, dv_length, deD, hBn, hC, hfo]) | (refine AW.seq_k fun K hK => ?_) | (refine AW.block ?_) | (refine AW.skip ?_; simp only [Then, InBlock]) | (refine AW.cT ?_) | (refine hK _ ?_; clear hK K) | (with_reducible refine And.intro (?_ : regOk _ _ = true) ?_; kernel_rfl) | (with_reducible refine andI ?_))
        exact ⟨(0 + 1, _), hnext true (by rw [decide_eq_true hA, decide_eq_true hB, decide_eq_true hC]; rfl), by simp only; omega, (Weak.rowsH (R := ngR) hcx (swpN 15360 18816) 6400 ns2 [_, _, _, _] rfl rfl (fun q hq => absurd hq (Nat.not_lt_zero _)) (by simp) (by simp [go_sem, frz, hbj, e1, e2, e3, e4, e6]) (by simp [go_sem, hsp2, hbl, e1, e2, e3, e4, e6, belL_app2, renL_app2, frzL_app2, dv1, dv_push, hdl, hN2, hN3, deD]) (fun q zz hq hx => ⟨by have := get_lt hq; simp only; omega, by have := get_lt hq; rw [e5 q (by omega)]; (repeat (refine (hv_skip (by omega)).trans ?_)); exact hv_rowsE hq hx⟩) (fun q hq => absurd hq (Nat.not_lt_zero _)) (swpN_inj _ _))⟩
      · repeat' (first | ((first | refine AW.sreg rfl fun K hK => ?_ | refine AW.sregD hmix rfl fun K hK => ?_ | refine AW.reg rfl ?_ | refine runT_call _ _ [] (fun hv _ => (hsum).pure rfl rfl hv _) rfl rfl (dstOk_of rfl) rfl rfl ?_); simp only [go_sem, ↓reduceIte, List.length_map, hget, hget2, hlk2, hN0, hN1, hN2, hN3, mo1, mo2, w1, w2, hA, hgo, hse, htk, htk1, hdl, dv_length, deD, hBn, hC, hfo2]) | (refine AW.seq_k fun K hK => ?_) | (refine AW.block ?_) | (refine AW.skip ?_; simp only [Then, InBlock]) | (refine AW.cT ?_) | (refine hK _ ?_; clear hK K) | (with_reducible refine And.intro (?_ : regOk _ _ = true) ?_; kernel_rfl) | (with_reducible refine andI ?_))
        exact ⟨(i + 1 + 1, _), hnext true (by rw [decide_eq_true hA, decide_eq_true hB, decide_eq_true hC]; rfl), by simp only; omega, (Weak.rowsH (R := ngR) hcx (swpN 15360 18816) 6400 ns2 [_, _, _, _] rfl rfl (fun q hq => absurd hq (Nat.not_lt_zero _)) (by simp) (by simp [go_sem, frz, hbj, e1, e2, e3, e4, e6]) (by simp [go_sem, hsp2, hbl, e1, e2, e3, e4, e6, belL_app2, renL_app2, frzL_app2, dv1, dv_push, hdl, hN2, hN3, deD]) (fun q zz hq hx => ⟨by have := get_lt hq; simp only; omega, by have := get_lt hq; rw [e5 q (by omega)]; (repeat (refine (hv_skip (by omega)).trans ?_)); exact hv_rowsE hq hx⟩) (fun q hq => absurd hq (Nat.not_lt_zero _)) (swpN_inj _ _))⟩
    · rcases i with _ | i
      · obtain rfl := hd0 rfl
        repeat' (first | ((first | refine AW.sreg rfl fun K hK => ?_ | refine AW.sregD hmix rfl fun K hK => ?_ | refine AW.reg rfl ?_ | refine runT_call _ _ [] (fun hv _ => (hsum).pure rfl rfl hv _) rfl rfl (dstOk_of rfl) rfl rfl ?_); simp only [go_sem, ↓reduceIte, List.length_map, hget, hget2, hlk2, hN0, hN1, hN2, hN3, mo1, mo2, w1, w2, hA, hgo, hse, htk, htk1, hdl, dv_length, deD, hBn, hC, hfo]) | (refine AW.seq_k fun K hK => ?_) | (refine AW.block ?_) | (refine AW.skip ?_; simp only [Then, InBlock]) | (refine AW.cT ?_) | (refine hK _ ?_; clear hK K) | (with_reducible refine And.intro (?_ : regOk _ _ = true) ?_; kernel_rfl) | (with_reducible refine andI ?_))
        exact ⟨(0 + 1, _), hnext false (by rw [decide_eq_true hA, decide_eq_true hB, decide_eq_false hC]; rfl), by simp only; omega, (Weak.rowsH (R := ngR) hcx (swpN 15360 18816) 6400 ns2 [_, _, _, _] rfl rfl (fun q hq => absurd hq (Nat.not_lt_zero _)) (by simp) (by simp [go_sem, frz, hbj, e1, e2, e3, e4, e6]) (by simp [go_sem, hsp2, hbl, e1, e2, e3, e4, e6, belL_app2, renL_app2, frzL_app2, dv1, dv_push, hdl, hN2, hN3, deD]) (fun q zz hq hx => ⟨by have := get_lt hq; simp only; omega, by have := get_lt hq; rw [e5 q (by omega)]; (repeat (refine (hv_skip (by omega)).trans ?_)); exact hv_rowsE hq hx⟩) (fun q hq => absurd hq (Nat.not_lt_zero _)) (swpN_inj _ _))⟩
      · repeat' (first | ((first | refine AW.sreg rfl fun K hK => ?_ | refine AW.sregD hmix rfl fun K hK => ?_ | refine AW.reg rfl ?_ | refine runT_call _ _ [] (fun hv _ => (hsum).pure rfl rfl hv _) rfl rfl (dstOk_of rfl) rfl rfl ?_); simp only [go_sem, ↓reduceIte, List.length_map, hget, hget2, hlk2, hN0, hN1, hN2, hN3, mo1, mo2, w1, w2, hA, hgo, hse, htk, htk1, hdl, dv_length, deD, hBn, hC, hfo2]) | (refine AW.seq_k fun K hK => ?_) | (refine AW.block ?_) | (refine AW.skip ?_; simp only [Then, InBlock]) | (refine AW.cT ?_) | (refine hK _ ?_; clear hK K) | (with_reducible refine And.intro (?_ : regOk _ _ = true) ?_; kernel_rfl) | (with_reducible refine andI ?_))
        exact ⟨(i + 1 + 1, _), hnext false (by rw [decide_eq_true hA, decide_eq_true hB, decide_eq_false hC]; rfl), by simp only; omega, (Weak.rowsH (R := ngR) hcx (swpN 15360 18816) 6400 ns2 [_, _, _, _] rfl rfl (fun q hq => absurd hq (Nat.not_lt_zero _)) (by simp) (by simp [go_sem, frz, hbj, e1, e2, e3, e4, e6]) (by simp [go_sem, hsp2, hbl, e1, e2, e3, e4, e6, belL_app2, renL_app2, frzL_app2, dv1, dv_push, hdl, hN2, hN3, deD]) (fun q zz hq hx => ⟨by have := get_lt hq; simp only; omega, by have := get_lt hq; rw [e5 q (by omega)]; (repeat (refine (hv_skip (by omega)).trans ?_)); exact hv_rowsE hq hx⟩) (fun q hq => absurd hq (Nat.not_lt_zero _)) (swpN_inj _ _))⟩
end Go.AX
