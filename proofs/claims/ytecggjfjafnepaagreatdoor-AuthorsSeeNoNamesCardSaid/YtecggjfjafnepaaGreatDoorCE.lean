/- Setups: the paper of an id, authors, what is wrong with a setup. -/
import Derived.Test.YtecggjfjafnepaaGreatDoorCC
import Derived.Test.YtecggjfjafnepaaGreatDoorAx36
import Derived.Test.YtecggjfjafnepaaGreatDoorCJ
set_option linter.unusedSimpArgs false
set_option linter.unusedVariables false
set_option linter.unnecessarySimpa false
set_option maxRecDepth 1000000
set_option maxHeartbeats 4000000
namespace Go.AX
open Go Go.Proofs Go.RowKit
def RisPa (gs : List Pa) : Prop := gs.Pairwise fun a b => ltS a.1 b.1 = true
theorem paperOf1_any (f : Pa) (p : Str) : Does Tryz.prog 122 [.d (paD f), S p] [] (I (Lib.compareBytes f.1 p)) [] := by
 refine Does.of_AW (n := 9) Tryz.func122 rfl rfl rfl fun cx hcx => ?_
 repeat' (first | ((first | refine AW.sreg rfl fun K hK => ?_ | refine run_call _ _ _ ((compareStr_any _ _).pure rfl rfl _ _) rfl rfl (dstOk_of rfl) rfl rfl rfl ?_); simp only [go_sem, ↓reduceIte]) | (refine hK _ ?_; clear hK K) | (refine AW.ret (Fin.data rfl (by first | (simp only [go_sem]; done) | (simp [go_sem, *]; done) | (simp [go_sem]; omega) | rfl) rfl)))
theorem pairwise_at {α : Type} {R : α → α → Prop} {xs : List α} (h : xs.Pairwise R) {i j : Nat} {x y : α} (hi : xs[i]? = some x) (hj : xs[j]? = some y) (hij : i < j) : R x y := by
 rw [List.pairwise_iff_getElem] at h
 have hil : i < xs.length := by
  rcases Nat.lt_or_ge i xs.length with h' | h'
  ·exact h'
  ·simp [List.getElem?_eq_none h'] at hi
 have hjl : j < xs.length := by
  rcases Nat.lt_or_ge j xs.length with h' | h'
  ·exact h'
  ·simp [List.getElem?_eq_none h'] at hj
 rw [List.getElem?_eq_getElem hil] at hi
 rw [List.getElem?_eq_getElem hjl] at hj
 cases hi
 cases hj
 exact h i j hil hjl hij
theorem bsearchPa (gs : List Pa) (hl : gs.length ≤ 1000) (hr : RisPa gs) (p : Str) :
  ∃ m : Nat, (∀ (i : Nat) (f : Pa), gs[i]? = some f → f.1 = p → i = m) ∧ Does Tryz.prog 121 [.d (.sl (gs.map paD)), S p, .fn 122 []] [] (.tup [I m, B (decide (p ∈ gs.map (·.1)))]) [] := by
 obtain ⟨m, hm, hm1, hm2⟩ : ∃ m, m ≤ gs.length ∧ (∀ k y, gs[k]? = some y → k < m → ltS y.1 p = true) ∧ (∀ k y, gs[k]? = some y → m ≤ k → ltS y.1 p = false) := by
  have : ∀ (l : List Pa), RisPa l → ∃ m, m ≤ l.length ∧ (∀ k y, l[k]? = some y → k < m → ltS y.1 p = true) ∧ (∀ k y, l[k]? = some y → m ≤ k → ltS y.1 p = false) := by
   intro l
   induction l with
   | nil => exact fun _ => ⟨0, by simp, by simp, by simp⟩
   | cons x l ih =>
    intro hl
    have hl := List.pairwise_cons.1 hl
    cases hx : ltS x.1 p with
    | false =>
     refine ⟨0, by simp, by simp, ?_⟩
     rintro (_ | k) y hy -
     ·simp at hy; subst hy; exact hx
     ·have hy : l[k]? = some y := by simpa using hy
      cases hyp : ltS y.1 p with
      | false => rfl
      | true => have := ltS_trans (hl.1 y (List.mem_of_getElem? hy)) hyp; rw [hx] at this; cases this
    | true =>
     obtain ⟨m, h1, h2, h3⟩ := ih hl.2
     refine ⟨m + 1, by simp; omega, ?_, ?_⟩
     ·rintro (_ | k) y hy hk
      ·simp at hy; subst hy; exact hx
      ·exact h2 k y (by simpa using hy) (by omega)
     ·rintro (_ | k) y hy hk
      ·omega
      ·exact h3 k y (by simpa using hy) (by omega)
  exact this gs hr
 have hone : ∀ (i : Nat) (f : Pa), gs[i]? = some f → f.1 = p → i = m := by
  intro i f hf he
  subst he
  rcases Nat.lt_or_ge i m with h | h
  ·have := hm1 i f hf h
   rw [ltS_irrefl] at this; cases this
  ·rcases Nat.lt_or_eq_of_le h with h | h
   ·have hil : i < gs.length := by
     rcases Nat.lt_or_ge i gs.length with h' | h'
     ·exact h'
     ·simp [List.getElem?_eq_none h'] at hf
    obtain ⟨y, hy, -, -⟩ := get_some (l := gs) (i := m) (by omega)
    have h1 := pairwise_at hr hy hf h
    rw [hm2 m y hy (Nat.le_refl _)] at h1; cases h1
   ·exact h.symm
 have hmem : decide (p ∈ gs.map (·.1)) = (match gs[m]? with | some y => Lib.compareBytes y.1 p == 0 | none => false) := by
  cases hy : gs[m]? with
  | none =>
   simp only [decide_eq_false_iff_not]
   intro hp
   obtain ⟨f, hf, he⟩ := List.mem_map.1 hp
   obtain ⟨k, hk⟩ := List.mem_iff_getElem?.1 hf
   have := hone k f hk he
   subst this
   rw [hy] at hk; cases hk
  | some y =>
   simp only
   by_cases e : y.1 = p
   ·rw [(cmpB_eq y.1 p).2 e]
    exact (decide_eq_true (List.mem_map.2 ⟨y, List.mem_of_getElem? hy, e⟩)).trans rfl
   ·have h0 : ¬ Lib.compareBytes y.1 p = 0 := fun h => e ((cmpB_eq y.1 p).1 h)
    have : ¬ p ∈ gs.map (·.1) := by
     intro hp
     obtain ⟨f, hf, he⟩ := List.mem_map.1 hp
     obtain ⟨k, hk⟩ := List.mem_iff_getElem?.1 hf
     have := hone k f hk he
     subst this
     rw [hy] at hk
     cases hk
     exact e he
    simp only [this, decide_false]
    simp [h0]
 refine ⟨m, hone, ?_⟩
 rw [hmem]
 refine Does.of_AW (n := 49) Tryz.func121 rfl rfl rfl fun cx hcx => ?_
 repeat' (first | (refine AW.sreg rfl fun K hK => ?_; simp only [go_sem, ↓reduceIte, List.length_map]) | (refine AW.seq_k fun K hK => ?_) | (refine AW.block ?_) | (refine hK _ ?_; clear hK K))
 refine AW.loopF (ι := Nat × Nat) [0, 1, 2, 8] (fun p => [(9, I p.1), (10, I p.2)]) (fun p => []) 1 (fun p => p.1 ≤ m ∧ m ≤ p.2 ∧ p.2 ≤ gs.length) (fun p => p.2 - p.1) (0, gs.length) ⟨by simp, hm, by simp⟩ (Weak.aC hcx (by refine ⟨?_, ?_, ?_⟩ <;> simp [go_sem, gL, kL, renOf, V.obj, Nat.blt, Nat.ble, List.map_append, dv_push])) ?_; simp only [St.at_nil, St.at_cons, lk, Nat.reduceEqDiff, ↓reduceIte, Option.getD_some, Option.getD_none, List.cons_append, List.nil_append, List.append_nil]
 rintro ⟨i, j⟩ ⟨h1, h2, h3⟩
 simp only at h1 h2 h3 ⊢
 by_cases hij : i < j
 ·have hh : (IntKind.u64.wrap ((i : Int) + (j : Int))).fdiv (2 ^ min 1 64) = ((i + j) / 2 : Nat) := by
   rw [show ((i : Int) + (j : Int)) = ((i + j : Nat) : Int) by omega, wrap_small' (i + j) (by omega), show (2 : Int) ^ min 1 64 = 2 from rfl, Int.fdiv_eq_ediv_of_nonneg _ (by omega)]
   omega
  have hlt : (i + j) / 2 < gs.length := by omega
  generalize hgh : (i + j) / 2 = h at hh hlt
  obtain ⟨y, hy, -, -⟩ := get_some hlt
  have hget : (gs.map paD)[h]? = some (paD y) := by simp [hy]
  have hc : decide (Lib.compareBytes y.1 p < 0) = ltS y.1 p := cmpB_lt y.1 p
  cases hb : ltS y.1 p with
  | true =>
   rw [hb] at hc
   have : h < m := by
    rcases Nat.lt_or_ge h m with h' | h'
    ·exact h'
    ·rw [hm2 h y hy h'] at hb; cases hb
   repeat' (first | ((first | refine AW.sreg rfl fun K hK => ?_ | refine AW.reg rfl ?_ | refine run_call _ _ _ ((paperOf1_any y p).pure rfl rfl _ _) rfl rfl (dstOk_of rfl) rfl rfl rfl ?_); simp only [go_sem, ↓reduceIte, List.length_map, hh, hget, hc]) | (refine AW.seq_k fun K hK => ?_) | (refine AW.block ?_) | (refine AW.skip ?_; simp only [Then, InBlock]) | (refine AW.cT ?_) | (refine hK _ ?_; clear hK K) | (with_reducible refine andI ?_))
   exact ⟨(h + 1, j), ⟨by simp only; omega, h2, h3⟩, by simp only; omega, (Weak.aC hcx (by refine ⟨?_, ?_, ?_⟩ <;> simp [go_sem, gL, kL, renOf, V.obj, Nat.blt, Nat.ble, List.map_append, dv_push]))⟩
  | false =>
   rw [hb] at hc
   have : m ≤ h := by
    rcases Nat.lt_or_ge h m with h' | h'
    ·rw [hm1 h y hy h'] at hb; cases hb
    ·exact h'
   repeat' (first | ((first | refine AW.sreg rfl fun K hK => ?_ | refine AW.reg rfl ?_ | refine run_call _ _ _ ((paperOf1_any y p).pure rfl rfl _ _) rfl rfl (dstOk_of rfl) rfl rfl rfl ?_); simp only [go_sem, ↓reduceIte, List.length_map, hh, hget, hc]) | (refine AW.seq_k fun K hK => ?_) | (refine AW.block ?_) | (refine AW.skip ?_; simp only [Then, InBlock]) | (refine AW.cT ?_) | (refine AW.cF ?_) | (refine hK _ ?_; clear hK K) | (with_reducible refine andI ?_))
   exact ⟨(i, h), ⟨h1, this, by simp only; omega⟩, by simp only; omega, (Weak.aC hcx (by refine ⟨?_, ?_, ?_⟩ <;> simp [go_sem, gL, kL, renOf, V.obj, Nat.blt, Nat.ble, List.map_append, dv_push]))⟩
 ·obtain rfl : i = j := by omega
  obtain rfl : i = m := by omega
  cases hy : gs[i]? with
  | none =>
   have : gs.length ≤ i := List.getElem?_eq_none_iff.1 hy
   repeat' (first | (refine AW.sreg rfl fun K hK => ?_; simp only [go_sem, ↓reduceIte, List.length_map]) | (refine AW.seq_k fun K hK => ?_) | (refine AW.exit ?_; simp only [go_sem, ↓reduceIte]) | (refine AW.cF ?_) | (refine hK _ ?_; clear hK K) | (clear hK K; refine hK _ ?_; clear hK K) | (refine stepB_split (fun h => ?_) (fun h => ?_) <;> (have hb0 := h) <;> (try simp only [Bool.not_eq_true', Bool.not_eq_false'] at hb0) <;> (try simp only [decide_eq_true_eq, decide_eq_false_iff_not, Bool.not_eq_true', Bool.not_eq_false', Bool.not_eq_eq_eq_not, Bool.not_true, Bool.not_false, beq_iff_eq, bne_iff_ne, beq_eq_false_iff_ne, ne_eq, Bool.and_eq_true, Bool.or_eq_true, Bool.or_eq_false_iff] at h) <;> simp only [go_sem, ↓reduceIte, hb0, h, decide_true, decide_false, List.length_map] <;> (try clear hb0)) | (refine AW.ret (Fin.data rfl (by first | (simp only [go_sem]; done) | (simp [go_sem, *]; done) | (simp [go_sem]; omega) | rfl) rfl)) | (exfalso; omega))
  | some y =>
   have hil : i < gs.length := by
    rcases Nat.lt_or_ge i gs.length with h | h
    ·exact h
    ·simp [List.getElem?_eq_none h] at hy
   have hget : (gs.map paD)[i]? = some (paD y) := by simp [hy]
   repeat' (first | ((first | refine AW.sreg rfl fun K hK => ?_ | refine run_call _ _ _ ((paperOf1_any y p).pure rfl rfl _ _) rfl rfl (dstOk_of rfl) rfl rfl rfl ?_); simp only [go_sem, ↓reduceIte, List.length_map, hget]) | (refine AW.seq_k fun K hK => ?_) | (refine AW.exit ?_; simp only [go_sem, ↓reduceIte]) | (refine AW.cF ?_) | (refine hK _ ?_; clear hK K) | (clear hK K; refine hK _ ?_; clear hK K) | (refine stepB_split (fun h => ?_) (fun h => ?_) <;> (have hb0 := h) <;> (try simp only [Bool.not_eq_true', Bool.not_eq_false'] at hb0) <;> (try simp only [decide_eq_true_eq, decide_eq_false_iff_not, Bool.not_eq_true', Bool.not_eq_false', Bool.not_eq_eq_eq_not, Bool.not_true, Bool.not_false, beq_iff_eq, bne_iff_ne, beq_eq_false_iff_ne, ne_eq, Bool.and_eq_true, Bool.or_eq_true, Bool.or_eq_false_iff] at h) <;> simp only [go_sem, ↓reduceIte, hb0, h, decide_true, decide_false, List.length_map, hget] <;> (try clear hb0)) | (with_reducible refine andI ?_) | (exfalso; omega))
   exact AW.ret (Fin.data rfl (by simp only [go_sem, ↓reduceIte, hy]) rfl)
theorem paF_rise {y : Str} {p : Pa} (h : paF (some y) p = 0) : ltS y p.1 = true := by
 obtain ⟨pid, tr, ti, au, tp⟩ := p
 rw [paF_some] at h
 by_cases h1 : (keyB pid && keyB tr) = false
 ·rw [if_pos h1] at h; cases h
 rw [if_neg h1] at h
 by_cases h2 : leS pid y = true
 ·rw [if_pos h2] at h; cases h
 exact ltS_of_not (by simpa [leS] using h2)
theorem pas_rise : ∀ (r bs : List Pa), goF pasF bs r = 0 → (bs.map (·.1)).Pairwise (fun a b => ltS a b = true) → ((bs ++ r).map (·.1)).Pairwise (fun a b => ltS a b = true)
 | [], bs, _, hb => by simpa using hb
 | x :: r, bs, h, hb => by
  rw [goF] at h
  by_cases h0 : pasF bs x = 0
  ·rw [if_neg (by simpa using h0)] at h
   have hb2 : ((bs ++ [x]).map (·.1)).Pairwise (fun a b => ltS a b = true) := by
    rw [List.map_append, List.pairwise_append]
    refine ⟨hb, by simp, fun a ha b hbm => ?_⟩
    obtain rfl : b = x.1 := by simpa using hbm
    cases hl : bs.getLast? with
    | none =>
     rw [List.getLast?_eq_none_iff] at hl
     subst hl
     simp at ha
    | some y =>
     have hy : ltS y.1 x.1 = true := by
      unfold pasF at h0
      rw [hl] at h0
      exact paF_rise h0
     obtain ⟨zs, rfl⟩ := List.getLast?_eq_some_iff.1 hl
     rw [List.map_append, List.mem_append] at ha
     rcases ha with ha | ha
     ·rw [List.map_append, List.pairwise_append] at hb
      exact ltS_trans (hb.2.2 a ha y.1 (by simp)) hy
     ·obtain rfl : a = y.1 := by simpa using ha
      exact hy
   have := pas_rise r (bs ++ [x]) h hb2
   rwa [List.append_assoc] at this
  ·rw [if_pos h0] at h
   exact absurd h h0
theorem risPa_of {ps : List Pa} (h : goF pasF [] ps = 0) : RisPa ps := by
 have h1 := pas_rise ps [] h (by simp)
 rw [List.nil_append] at h1
 exact List.pairwise_map.1 h1
/-- The paper of an id. -/
def pOf (l : List Pa) (k : Str) : Option Pa := l.find? fun p => p.1 == k
def zPa : Pa := ([], [], [], [], [])
theorem paperOf_any (l : List Pa) (hl : l.length ≤ 1000) (hr : RisPa l) (k : Str) :
  Does Tryz.prog 62 [.d (.sl (l.map paD)), S k] [] (.tup [.d (paD ((pOf l k).getD zPa)), B (pOf l k).isSome]) [] := by
 obtain ⟨m, h1, h2⟩ := bsearchPa l hl hr k
 cases hp : pOf l k with
 | none =>
  have hm : decide (k ∈ l.map (·.1)) = false := by
   simp only [decide_eq_false_iff_not]
   intro hk
   obtain ⟨p, hp1, hp2⟩ := List.mem_map.1 hk
   have := List.find?_eq_none.1 hp p hp1
   simp [hp2] at this
  rw [hm] at h2
  refine Does.of_AW (n := 21) Tryz.func62 rfl rfl rfl fun cx hcx => ?_
  repeat' (first | ((first | refine AW.sreg rfl fun K hK => ?_ | refine run_call _ _ _ ((h2).pure rfl rfl _ _) rfl rfl (dstOk_of rfl) rfl rfl rfl ?_); simp only [go_sem, ↓reduceIte]) | (refine AW.seq_k fun K hK => ?_) | (refine AW.cT ?_) | (refine hK _ ?_; clear hK K))
  refine AW.weak (Weak.nilB 0 3 56 9 1 rfl rfl) ?_
  refine AW.weak (Weak.nilB 0 4 56 9 1 rfl rfl) ?_
  simp only [List.set_cons_zero, List.set_cons_succ, Nat.reduceMul, Nat.reduceAdd]
  exact AW.ret (Fin.data rfl (by rfl) rfl)
 | some p =>
  have hpm := List.mem_of_find?_eq_some hp
  have hpk : p.1 = k := by simpa using List.find?_some hp
  have hm : decide (k ∈ l.map (·.1)) = true := decide_eq_true (List.mem_map.2 ⟨p, hpm, hpk⟩)
  obtain ⟨i, hi⟩ := List.mem_iff_getElem?.1 hpm
  obtain rfl := h1 i p hi hpk
  rw [hm] at h2
  have hget : (l.map paD)[i]? = some (paD p) := by simp only [List.getElem?_map, hi, Option.map_some]
  refine Does.of_AW (n := 21) Tryz.func62 rfl rfl rfl fun cx hcx => ?_
  repeat' (first | ((first | refine AW.sreg rfl fun K hK => ?_ | refine run_call _ _ _ ((h2).pure rfl rfl _ _) rfl rfl (dstOk_of rfl) rfl rfl rfl ?_); simp only [go_sem, ↓reduceIte, hget, Option.getD_some, Option.isSome_some]) | (refine AW.seq_k fun K hK => ?_) | (refine AW.skip ?_; simp only [Then, InBlock]) | (refine AW.cF ?_) | (refine hK _ ?_; clear hK K) | (with_reducible refine andI ?_) | (refine AW.ret (Fin.data rfl (by first | (simp only [go_sem]; done) | (simp [go_sem, *]; done) | (simp [go_sem]; omega) | rfl) rfl)))
/-- Whether a person wrote a paper. -/
def auF (l : List Pa) (k who : Str) : Bool := ((pOf l k).getD zPa).2.2.2.1.any fun x => who == x
/-- A setup: sheet, papers, pairs, barred, chairs, due, reply. -/
structure Su where
 sheet : List Qu
 papers : List Pa
 pairs : List Pr
 barred : List Pr
 chairs : List Str
 due : Int
 reply : Int
abbrev suD (x : Su) : D := .agg [.sl (x.sheet.map quD), .sl (x.papers.map paD), .sl (x.pairs.map prD), .sl (x.barred.map prD), .sl (x.chairs.map .str), .int .i64 x.due, .int .i64 x.reply]
def Wh4 : List Str := [[98, 111, 98], [99, 105, 100], [100, 101, 101], [102, 97, 121]]
def Ch3 : List (List Str) := [[], [[101, 118, 101]], [[97, 110, 110], [101, 118, 101]]]
/-- A setup that is drawn. -/
structure SuR (x : Su) : Prop where
 sheet : ShR x.sheet
 plen : x.papers.length ≤ 3
 papers : ∀ p ∈ x.papers, PaR p ∧ p.2.2.2.2 ∈ ToL
 qlen : x.pairs.length ≤ 12
 pairs : ∀ p ∈ x.pairs, p.1 ∈ IdS ∧ p.2 ∈ Wh4
 blen : x.barred.length ≤ 12
 barred : ∀ p ∈ x.barred, p.1 ∈ IdS ∧ p.2 ∈ Wh4
 chairs : x.chairs ∈ Ch3
 due : 0 ≤ x.due ∧ x.due ≤ 5761440
 reply : 0 ≤ x.reply ∧ x.reply ≤ 5761440
end Go.AX

namespace Go.AX
open Go Go.Proofs Go.RowKit
theorem isAuthor_any (x : Su) (hl : x.papers.length ≤ 1000) (ha : ∀ p ∈ x.papers, p.2.2.2.1.length ≤ 1000) (hr : RisPa x.papers) (k who : Str) :
  Does Tryz.prog 65 [.d (suD x), S k, S who] [] (B (auF x.papers k who)) [] := by
 have h1 := paperOf_any x.papers hl hr k
 have h2 := contains_St (((pOf x.papers k).getD zPa).2.2.2.1) (by
  cases h : pOf x.papers k with
  | none => simp [zPa]
  | some p => have := ha p (List.mem_of_find?_eq_some h); simp only [Option.getD_some]; omega) who
 refine Does.of_AW (n := 20) Tryz.func65 rfl rfl rfl fun cx hcx => ?_
 unfold auF
 generalize (pOf x.papers k).getD zPa = p at *
 repeat' (first | ((first | refine AW.sreg rfl fun K hK => ?_ | refine run_call _ _ _ ((h1).pure rfl rfl _ _) rfl rfl (dstOk_of rfl) rfl rfl rfl ?_ | refine run_call _ _ _ ((h2).pure rfl rfl _ _) rfl rfl (dstOk_of rfl) rfl rfl rfl ?_); simp only [go_sem, ↓reduceIte]) | (refine hK _ ?_; clear hK K) | (refine AW.ret (Fin.data rfl (by first | (simp only [go_sem]; done) | (simp [go_sem, *]; done) | (simp [go_sem]; omega) | rfl) rfl)))
def prOk (ps : List Pa) : List Pr → Int
 | [] => 0
 | c :: r => if (pOf ps c.1).isSome = false then 8 else prOk ps r
def csL (ps : List Pa) (rest : Int) : List (List Pr) → Int
 | [] => rest
 | L :: r => if prsF none L ≠ 0 then prsF none L else if prOk ps L ≠ 0 then prOk ps L else csL ps rest r
def cfF (ps : List Pa) (ba : List Pr) : List Pr → Int
 | [] => 0
 | c :: r => if (decide (c ∈ ba) || auF ps c.1 c.2) = true then 13 else cfF ps ba r
/-- The fault of a setup. -/
def csF (x : Su) : Int := if goF pasF [] x.papers ≠ 0 then goF pasF [] x.papers else csL x.papers (cfF x.papers x.barred x.pairs) [x.pairs, x.barred]
theorem rising_Ch3 : ∀ l ∈ Ch3, Does Tryz.prog 101 [.d (.sl (l.map .str))] [] (I 0) [] := by
 have h : Ch3.all (fun l => evalsTo Tryz.prog (CS Tryz.prog) 101 [.d (.sl (l.map .str))] (I 0)) = true := by kernel_rfl
 exact fun s hs => evalsTo_ok CS_ok hmix (List.all_eq_true.1 h s hs)
abbrev suV (x : Su) : List V := [.d (.sl (x.sheet.map quD)), .d (.sl (x.papers.map paD)), .d (.sl (x.pairs.map prD)), .d (.sl (x.barred.map prD)), .d (.sl (x.chairs.map .str)), .d (.int .i64 x.due), .d (.int .i64 x.reply)]
theorem len_Wh : ∀ s ∈ IdS ++ Wh4, s.length ≤ 40 := by decide
theorem prB_of {p : Pr} (h : p.1 ∈ IdS ∧ p.2 ∈ Wh4) : PrB p := by
 have h1 := len_Wh p.1 (List.mem_append_left _ h.1)
 have h2 := len_Wh p.2 (List.mem_append_right _ h.2)
 exact ⟨by omega, by omega⟩
theorem len_Ch : ∀ l ∈ Ch3, l.length ≤ 2 := by decide
theorem checkSetup_any {x : Su} (h : SuR x) : Does Tryz.prog 49 [.d (suD x)] [] (I (csF x)) [] := by
 have hsh := checkSheet_ok h.sheet
 have hpa := checkPapers_any x.papers (by have := h.plen; omega) h.papers
 have hri := rising_Ch3 _ h.chairs
 have hcl := len_Ch _ h.chairs
 have hd1 := outside_any x.due 0 5761440
 have hd2 := outside_any x.reply 0 5761440
 rw [show (decide (x.due < 0) || decide (5761440 < x.due)) = false by have := h.due; simp; omega] at hd1
 rw [show (decide (x.reply < 0) || decide (5761440 < x.reply)) = false by have := h.reply; simp; omega] at hd2
 have hpl := h.plen
 have hql := h.qlen
 have hbl := h.blen
 refine Does.of_AW (n := 96) Tryz.func49 rfl rfl rfl fun cx hcx => ?_
 generalize hR : csF x = R
 unfold csF at hR
 by_cases hp : goF pasF [] x.papers = 0
 rotate_left
 ·rw [if_pos hp] at hR
  have hb : (goF pasF [] x.papers != 0) = true := by simpa using hp
  subst hR
  repeat' (first | ((first | refine AW.sreg rfl fun K hK => ?_ | refine run_call _ _ _ ((hsh).pure rfl rfl _ _) rfl rfl (dstOk_of rfl) rfl rfl rfl ?_ | refine run_call _ _ _ ((hpa).pure rfl rfl _ _) rfl rfl (dstOk_of rfl) rfl rfl rfl ?_); simp only [go_sem, ↓reduceIte, hb]) | (refine AW.seq_k fun K hK => ?_) | (refine AW.skip ?_; simp only [Then, InBlock]) | (refine AW.cT ?_) | (refine AW.cF ?_) | (refine hK _ ?_; clear hK K) | (refine AW.ret (Fin.data rfl (by first | (simp only [go_sem]; done) | (simp [go_sem, *]; done) | (simp [go_sem]; omega) | rfl) rfl)))
 rw [if_neg (by simpa using hp)] at hR
 rw [hp] at hpa
 have hris := risPa_of hp
 repeat' (first | ((first | refine AW.sreg rfl fun K hK => ?_ | refine run_call _ _ _ ((hsh).pure rfl rfl _ _) rfl rfl (dstOk_of rfl) rfl rfl rfl ?_ | refine run_call _ _ _ ((hpa).pure rfl rfl _ _) rfl rfl (dstOk_of rfl) rfl rfl rfl ?_); simp only [go_sem, ↓reduceIte]) | (refine AW.seq_k fun K hK => ?_) | (refine AW.block ?_) | (refine AW.skip ?_; simp only [Then, InBlock]) | (refine AW.cF ?_) | (refine hK _ ?_; clear hK K))
 refine AW.loopF (ι := Nat) [1, 31] (fun p => [(32, I p)]) (fun p => [(0, some (O.box 31 (suV x)))]) 60 (fun p => p ≤ 2 ∧ csL x.papers (cfF x.papers x.barred x.pairs) ([x.pairs, x.barred].drop p) = R ∧ (1 < p → RiseP x.barred)) (fun p => 2 - p) 0 ⟨by simp, hR, by simp⟩ (Weak.aC hcx (by refine ⟨?_, ?_, ?_⟩ <;> simp [go_sem, gL, kL, renOf, V.obj, Nat.blt, Nat.ble, List.map_append, dv_push])) ?_; simp only [St.at_nil, St.at_cons, lk, Nat.reduceEqDiff, ↓reduceIte, Option.getD_some, Option.getD_none, List.cons_append, List.nil_append, List.append_nil]
 rintro i ⟨h1, h2, h3⟩
 by_cases hi : i < 2
 ·obtain ⟨L, hL, hLm, hLd⟩ := get_some (l := [x.pairs, x.barred]) (i := i) (by simpa using hi)
  have hget : ([D.sl (x.pairs.map prD), D.sl (x.barred.map prD)] : List D)[i]? = some (.sl (L.map prD)) := by
   have := congrArg (Option.map fun l : List Pr => D.sl (l.map prD)) hL
   rw [← List.getElem?_map] at this
   exact this
  have hLl : L.length ≤ 12 := by
   simp only [List.mem_cons, List.not_mem_nil, or_false] at hLm
   rcases hLm with rfl | rfl <;> assumption
  have hLp : ∀ p ∈ L, p.1 ∈ IdS ∧ p.2 ∈ Wh4 := by
   simp only [List.mem_cons, List.not_mem_nil, or_false] at hLm
   rcases hLm with rfl | rfl
   ·exact h.pairs
   ·exact h.barred
  have hcp := checkPairs_any L (by omega) fun c hc => prB_of (hLp c hc)
  rw [hLd, csL] at h2
  by_cases c1 : prsF none L = 0
  rotate_left
  ·rw [if_pos c1] at h2
   have hb : (prsF none L != 0) = true := by simpa using c1
   subst h2
   repeat' (first | ((first | refine AW.sreg rfl fun K hK => ?_ | refine run_call _ _ _ ((hcp).pure rfl rfl _ _) rfl rfl (dstOk_of rfl) rfl rfl rfl ?_); simp only [go_sem, ↓reduceIte, hget, Nat.mul_one, hb]) | (refine AW.seq_k fun K hK => ?_) | (refine AW.block ?_) | (refine AW.skip ?_; simp only [Then, InBlock]) | (refine AW.cT ?_) | (refine hK _ ?_; clear hK K) | (with_reducible refine andI ?_) | (refine AW.ret (Fin.data rfl (by first | (simp only [go_sem]; done) | (simp [go_sem, *]; done) | (simp [go_sem]; omega) | rfl) rfl)))
  rw [if_neg (by simpa using c1)] at h2
  rw [c1] at hcp
  have hrise := (prsF_zero L none c1).2.1
  generalize hT : csL x.papers (cfF x.papers x.barred x.pairs) ([x.pairs, x.barred].drop (i + 1)) = T at h2
  have h4 : 1 < i + 1 → RiseP x.barred := by
   intro h5
   obtain rfl : i = 1 := by omega
   simp at hL
   subst hL
   exact hrise
  repeat' (first | ((first | refine AW.sreg rfl fun K hK => ?_ | refine run_call _ _ _ ((hcp).pure rfl rfl _ _) rfl rfl (dstOk_of rfl) rfl rfl rfl ?_); simp only [go_sem, ↓reduceIte, hget, Nat.mul_one, List.length_map]) | (refine AW.seq_k fun K hK => ?_) | (refine AW.block ?_) | (refine AW.skip ?_; simp only [Then, InBlock]) | (refine AW.cT ?_) | (refine AW.cF ?_) | (refine hK _ ?_; clear hK K) | (with_reducible refine andI ?_))
  refine AW.loopF (ι := Nat) [1, 31, 32, 40, 41] (fun p => [(42, I p)]) (fun p => [(0, some (O.box 31 (suV x)))]) 80 (fun p => p ≤ L.length ∧ (if prOk x.papers (L.drop p) ≠ 0 then prOk x.papers (L.drop p) else T) = R) (fun p => L.length - p) 0 ⟨by simp, h2⟩ (Weak.aC hcx (by refine ⟨?_, ?_, ?_⟩ <;> simp [go_sem, gL, kL, renOf, V.obj, Nat.blt, Nat.ble, List.map_append, dv_push])) ?_; simp only [St.at_nil, St.at_cons, lk, Nat.reduceEqDiff, ↓reduceIte, Option.getD_some, Option.getD_none, List.cons_append, List.nil_append, List.append_nil]
  rintro j ⟨g1, g2⟩
  by_cases hj : j < L.length
  ·obtain ⟨c, hc, hcm, hcd⟩ := get_some hj
   have hgc : (L.map prD)[j]? = some (prD c) := by simp only [List.getElem?_map, hc, Option.map_some]
   have hpo := paperOf_any x.papers (by omega) hris c.1
   rw [hcd, show prOk x.papers (c :: L.drop (j + 1)) = if (pOf x.papers c.1).isSome = false then 8 else prOk x.papers (L.drop (j + 1)) from rfl] at g2
   cases hs : (pOf x.papers c.1).isSome with
   | false =>
    rw [hs] at hpo
    rw [hs, if_pos rfl, if_pos (by decide)] at g2
    subst g2
    repeat' (first | ((first | refine AW.sreg rfl fun K hK => ?_ | refine run_call _ _ _ ((hpo).pure rfl rfl _ _) rfl rfl (dstOk_of rfl) rfl rfl rfl ?_); simp only [go_sem, ↓reduceIte, hgc, List.length_map]) | (refine AW.seq_k fun K hK => ?_) | (refine AW.block ?_) | (refine AW.skip ?_; simp only [Then, InBlock]) | (refine AW.cT ?_) | (refine hK _ ?_; clear hK K) | (with_reducible refine andI ?_) | (refine AW.ret (Fin.data rfl (by first | (simp only [go_sem]; done) | (simp [go_sem, *]; done) | (simp [go_sem]; omega) | rfl) rfl)))
   | true =>
    rw [hs] at hpo
    rw [hs] at g2
    simp only [Bool.true_eq_false, if_false] at g2
    repeat' (first | ((first | refine AW.sreg rfl fun K hK => ?_ | refine AW.reg rfl ?_ | refine run_call _ _ _ ((hpo).pure rfl rfl _ _) rfl rfl (dstOk_of rfl) rfl rfl rfl ?_); simp only [go_sem, ↓reduceIte, hgc, List.length_map]) | (refine AW.seq_k fun K hK => ?_) | (refine AW.block ?_) | (refine AW.skip ?_; simp only [Then, InBlock]) | (refine AW.cT ?_) | (refine AW.cF ?_) | (refine hK _ ?_; clear hK K) | (with_reducible refine andI ?_))
    exact ⟨j + 1, ⟨hj, g2⟩, by omega, (Weak.aC hcx (by refine ⟨?_, ?_, ?_⟩ <;> simp [go_sem, gL, kL, renOf, V.obj, Nat.blt, Nat.ble, List.map_append, dv_push]))⟩
  ·obtain rfl : j = L.length := by omega
   simp only [List.drop_length, prOk, ne_eq, not_true_eq_false, if_false] at g2
   repeat' (first | ((first | refine AW.sreg rfl fun K hK => ?_ | refine AW.reg rfl ?_); simp only [go_sem, ↓reduceIte, List.length_map]) | (refine AW.seq_k fun K hK => ?_) | (refine AW.exit ?_; simp only [go_sem, ↓reduceIte]) | (refine AW.cF ?_) | (refine hK _ ?_; clear hK K) | (clear hK K; refine hK _ ?_; clear hK K) | (with_reducible refine andI ?_))
   exact ⟨i + 1, ⟨hi, by rw [hT]; exact g2, h4⟩, by omega, (Weak.aC hcx (by refine ⟨?_, ?_, ?_⟩ <;> simp [go_sem, gL, kL, renOf, V.obj, Nat.blt, Nat.ble, List.map_append, dv_push]))⟩
 ·obtain rfl : i = 2 := by omega
  have hrise := h3 (by omega)
  simp only [List.drop_succ_cons, List.drop_zero, csL] at h2
  repeat' (first | (refine AW.sreg rfl fun K hK => ?_; simp only [go_sem, ↓reduceIte, List.length_map]) | (refine AW.seq_k fun K hK => ?_) | (refine AW.block ?_) | (refine AW.exit ?_; simp only [go_sem, ↓reduceIte]) | (refine AW.cF ?_) | (refine hK _ ?_; clear hK K) | (clear hK K; refine hK _ ?_; clear hK K))
  refine AW.loopF (ι := Nat) [1, 59, 60] (fun p => [(61, I p)]) (fun p => [(0, some (O.box 31 (suV x)))]) 90 (fun p => p ≤ x.pairs.length ∧ cfF x.papers x.barred (x.pairs.drop p) = R) (fun p => x.pairs.length - p) 0 ⟨by simp, h2⟩ (Weak.aC hcx (by refine ⟨?_, ?_, ?_⟩ <;> simp [go_sem, gL, kL, renOf, V.obj, Nat.blt, Nat.ble, List.map_append, dv_push])) ?_; simp only [St.at_nil, St.at_cons, lk, Nat.reduceEqDiff, ↓reduceIte, Option.getD_some, Option.getD_none, List.cons_append, List.nil_append, List.append_nil]
  rintro j ⟨g1, g2⟩
  by_cases hj : j < x.pairs.length
  ·obtain ⟨c, hc, hcm, hcd⟩ := get_some hj
   have hgc : (x.pairs.map prD)[j]? = some (prD c) := by simp only [List.getElem?_map, hc, Option.map_some]
   have hin := isIn_any x.barred (by omega) hrise c
   have hau := isAuthor_any x (by omega) (fun p hp => by have := (h.papers p hp).1.aul; omega) hris c.1 c.2
   rw [hcd, cfF] at g2
   generalize decide (c ∈ x.barred) = b1 at hin g2
   generalize auF x.papers c.1 c.2 = b2 at hau g2
   cases b1 with
   | true =>
    rw [if_pos (by simp)] at g2
    subst g2
    repeat' (first | ((first | refine AW.sreg rfl fun K hK => ?_ | refine run_call _ _ _ ((hin).pure rfl rfl _ _) rfl rfl (dstOk_of rfl) rfl rfl rfl ?_); simp only [go_sem, ↓reduceIte, hgc, List.length_map]) | (refine AW.seq_k fun K hK => ?_) | (refine AW.block ?_) | (refine AW.skip ?_; simp only [Then, InBlock]) | (refine AW.cT ?_) | (refine hK _ ?_; clear hK K) | (with_reducible refine andI ?_) | (refine AW.ret (Fin.data rfl (by first | (simp only [go_sem]; done) | (simp [go_sem, *]; done) | (simp [go_sem]; omega) | rfl) rfl)))
   | false =>
    cases b2 with
    | true =>
     rw [if_pos (by simp)] at g2
     subst g2
     repeat' (first | ((first | refine AW.sreg rfl fun K hK => ?_ | refine run_call _ _ _ ((hin).pure rfl rfl _ _) rfl rfl (dstOk_of rfl) rfl rfl rfl ?_ | refine run_call _ _ _ ((hau).pure rfl rfl _ _) rfl rfl (dstOk_of rfl) rfl rfl rfl ?_); simp only [go_sem, ↓reduceIte, hgc, List.length_map]) | (refine AW.seq_k fun K hK => ?_) | (refine AW.block ?_) | (refine AW.skip ?_; simp only [Then, InBlock]) | (refine AW.cT ?_) | (refine hK _ ?_; clear hK K) | (with_reducible refine andI ?_) | (refine AW.ret (Fin.data rfl (by first | (simp only [go_sem]; done) | (simp [go_sem, *]; done) | (simp [go_sem]; omega) | rfl) rfl)))
    | false =>
     rw [if_neg (by simp)] at g2
     repeat' (first | ((first | refine AW.sreg rfl fun K hK => ?_ | refine AW.reg rfl ?_ | refine run_call _ _ _ ((hin).pure rfl rfl _ _) rfl rfl (dstOk_of rfl) rfl rfl rfl ?_ | refine run_call _ _ _ ((hau).pure rfl rfl _ _) rfl rfl (dstOk_of rfl) rfl rfl rfl ?_); simp only [go_sem, ↓reduceIte, hgc, List.length_map]) | (refine AW.seq_k fun K hK => ?_) | (refine AW.block ?_) | (refine AW.skip ?_; simp only [Then, InBlock]) | (refine AW.cT ?_) | (refine AW.cF ?_) | (refine hK _ ?_; clear hK K) | (with_reducible refine andI ?_))
     exact ⟨j + 1, ⟨hj, g2⟩, by omega, (Weak.aC hcx (by refine ⟨?_, ?_, ?_⟩ <;> simp [go_sem, gL, kL, renOf, V.obj, Nat.blt, Nat.ble, List.map_append, dv_push]))⟩
  ·obtain rfl : j = x.pairs.length := by omega
   simp only [List.drop_length, cfF] at g2
   subst g2
   have hc20 : decide ((20 : Int) < (x.chairs.length : Int)) = false := by simp; omega
   repeat' (first | ((first | refine AW.sreg rfl fun K hK => ?_ | refine run_call _ _ _ ((hri).pure rfl rfl _ _) rfl rfl (dstOk_of rfl) rfl rfl rfl ?_ | refine run_call _ _ _ ((hd1).pure rfl rfl _ _) rfl rfl (dstOk_of rfl) rfl rfl rfl ?_ | refine run_call _ _ _ ((hd2).pure rfl rfl _ _) rfl rfl (dstOk_of rfl) rfl rfl rfl ?_); simp only [go_sem, ↓reduceIte, List.length_map, hc20]) | (refine AW.seq_k fun K hK => ?_) | (refine AW.skip ?_; simp only [Then, InBlock]) | (refine AW.exit ?_; simp only [go_sem, ↓reduceIte]) | (refine AW.cF ?_) | (refine hK _ ?_; clear hK K) | (clear hK K; refine hK _ ?_; clear hK K) | (refine AW.ret (Fin.data rfl (by first | (simp only [go_sem]; done) | (simp [go_sem, *]; done) | (simp [go_sem]; omega) | rfl) rfl)))
end Go.AX

namespace Go.AX
open Go Go.Proofs Go.RowKit
theorem pairOf_any (r : Rv) : Does Tryz.prog 103 [.d (rvD r)] [] (.d (prD (r.2.2.1, r.2.2.2.1))) [] := by
 refine Does.of_AW (n := 8) Tryz.func103 rfl rfl rfl fun cx hcx => ?_
 repeat' (first | (refine AW.sreg rfl fun K hK => ?_; simp only [go_sem, ↓reduceIte]) | (refine hK _ ?_; clear hK K) | (refine AW.ret (Fin.data rfl (by first | (simp only [go_sem]; done) | (simp [go_sem, *]; done) | (simp [go_sem]; omega) | rfl) rfl)))
/-- Bounds of a review. -/
structure RvB (r : Rv) : Prop where
 by_ : r.2.2.2.2.1.length ≤ 1000
 al : r.2.2.2.2.2.2.length ≤ 30
 an : ∀ a ∈ r.2.2.2.2.2.2, AnB a
/-- Whether the moment is ahead of the last one. -/
def lateF (bs : List Rv) (at_ : Int) : Bool := match bs.getLast? with
 | none => false
 | some q => decide (at_ < q.2.1)
/-- The fault of a review behind others. -/
def rvF (x : Su) (bs : List Rv) (r : Rv) : Int :=
 if (r.1 == ((bs.length : Nat) : Int) + 1 && momB r.2.1) = false then 1
 else if lateF bs r.2.1 = true then 7
 else if decide ((r.2.2.1, r.2.2.2.1) ∈ x.pairs) = false then 8
 else if (!(r.2.2.2.2.1 == []) && !keyB r.2.2.2.2.1) = true then 5
 else if (r.2.2.2.2.1 == r.2.2.2.1) = true then 14
 else if asF x.sheet (-1) r.2.2.2.2.2.2 ≠ 0 then asF x.sheet (-1) r.2.2.2.2.2.2
 else if (r.2.2.2.2.2.1 && decide (0 < (miF x.sheet r.2.2.2.2.2.2).length)) = true then 3 else 0
theorem reviewFault_any {x : Su} (h : SuR x) (hr : RiseP x.pairs) (bs : List Rv) (hbl : bs.length ≤ 1000) {r : Rv} (hb : RvB r) :
  Does Tryz.prog 50 [.d (suD x), .d (.sl (bs.map rvD)), .d (rvD r)] [] (I (rvF x bs r)) [] := by
 have hm := isMoment_any r.2.1
 have hp := pairOf_any r
 have hin := isIn_any x.pairs (by have := h.qlen; omega) hr (r.2.2.1, r.2.2.2.1)
 have hk := isKey_any r.2.2.2.2.1 (by have := hb.by_; omega)
 have has_ := answersFault_any h.sheet r.2.2.2.2.2.2 hb.al hb.an
 have hmi := missing_any x.sheet (by have := h.sheet.len; omega) r.2.2.2.2.2.2 (by have := hb.al; omega)
 refine Does.of_AW (n := 79) Tryz.func50 rfl rfl rfl fun cx hcx => ?_
 generalize hR : rvF x bs r = R
 have hL : (lateF bs r.2.1 = true ∧ ∃ q, 0 < bs.length ∧ (bs.map rvD)[(((bs.length : Nat) : Int) - 1).toNat]? = some (rvD q) ∧ r.2.1 < q.2.1) ∨ (lateF bs r.2.1 = false ∧ bs.length = 0) ∨ (lateF bs r.2.1 = false ∧ ∃ q, 0 < bs.length ∧ (bs.map rvD)[(((bs.length : Nat) : Int) - 1).toNat]? = some (rvD q) ∧ ¬ r.2.1 < q.2.1) := by
  cases hg : bs.getLast? with
  | none =>
   rw [List.getLast?_eq_none_iff] at hg
   subst hg
   exact .inr (.inl ⟨rfl, rfl⟩)
  | some q =>
   have hpos : 0 < bs.length := by
    rcases Nat.eq_zero_or_pos bs.length with e | e
    ·rw [List.eq_nil_of_length_eq_zero e] at hg; cases hg
    ·exact e
   have hq : (bs.map rvD)[(((bs.length : Nat) : Int) - 1).toNat]? = some (rvD q) := by
    rw [show (((bs.length : Nat) : Int) - 1).toNat = bs.length - 1 by omega, List.getElem?_map, ← List.getLast?_eq_getElem?, hg]
    rfl
   have e : lateF bs r.2.1 = decide (r.2.1 < q.2.1) := by unfold lateF; rw [hg]
   by_cases hlt : r.2.1 < q.2.1
   ·exact .inl ⟨by rw [e]; exact decide_eq_true hlt, q, hpos, hq, hlt⟩
   ·exact .inr (.inr ⟨by rw [e]; exact decide_eq_false hlt, q, hpos, hq, hlt⟩)
 obtain ⟨rn, ra, rp, rq, rb, rd, rl⟩ := r
 unfold rvF at hR
 dsimp only at hR hm hp hin hk has_ hmi hL
 change Does Tryz.prog 63 [I ra] [] (B (momB ra)) [] at hm
 by_cases c1 : (rn == ((bs.length : Nat) : Int) + 1 && momB ra) = false
 ·rw [if_pos c1] at hR
  subst hR
  generalize momB ra = m at hm c1
  by_cases c0 : rn = (bs.length : Int) + 1
  ·have c2 : m = false := by simpa [c0] using c1
   subst c2
   repeat' (first | ((first | refine AW.sreg rfl fun K hK => ?_ | refine run_call _ _ _ ((hm).pure rfl rfl _ _) rfl rfl (dstOk_of rfl) rfl rfl rfl ?_); simp only [go_sem, ↓reduceIte, List.length_map, c0]) | (refine AW.seq_k fun K hK => ?_) | (refine AW.block ?_) | (refine AW.cT ?_) | (refine hK _ ?_; clear hK K) | (with_reducible refine andI ?_) | (refine AW.ret (Fin.data rfl (by first | (simp only [go_sem]; done) | (simp [go_sem, *]; done) | (simp [go_sem]; omega) | rfl) rfl)))
  ·have c2 : (rn != (bs.length : Int) + 1) = true := by simpa using c0
   repeat' (first | (refine AW.sreg rfl fun K hK => ?_; simp only [go_sem, ↓reduceIte, List.length_map, c2]) | (refine AW.seq_k fun K hK => ?_) | (refine AW.block ?_) | (refine AW.cT ?_) | (refine hK _ ?_; clear hK K) | (with_reducible refine andI ?_) | (refine AW.ret (Fin.data rfl (by first | (simp only [go_sem]; done) | (simp [go_sem, *]; done) | (simp [go_sem]; omega) | rfl) rfl)))
 rw [if_neg c1] at hR
 have c1 : rn = (bs.length : Int) + 1 ∧ momB ra = true := by simpa using c1
 obtain ⟨rfl, c2⟩ := c1
 rw [c2] at hm
 rcases hL with ⟨hl, q, h0, hq, hlt⟩ | hL
 ·rw [if_pos hl] at hR
  subst hR
  have hn : decide ((0 : Int) < (bs.length : Int)) = true := decide_eq_true (by omega)
  repeat' (first | ((first | refine AW.sreg rfl fun K hK => ?_ | refine AW.sregD hmix rfl fun K hK => ?_ | refine run_call _ _ _ ((hm).pure rfl rfl _ _) rfl rfl (dstOk_of rfl) rfl rfl rfl ?_); simp only [go_sem, ↓reduceIte, List.length_map, hn, hq, hlt, Int.lt_irrefl, bne_self_eq_false]) | (refine AW.seq_k fun K hK => ?_) | (refine AW.block ?_) | (refine AW.cT ?_) | (refine AW.cF ?_) | (refine hK _ ?_; clear hK K) | (with_reducible refine And.intro (?_ : regOk _ _ = true) ?_; kernel_rfl) | (with_reducible refine andI ?_) | (refine AW.ret (Fin.data rfl (by first | (simp only [go_sem]; done) | (simp [go_sem, *]; done) | (simp [go_sem]; omega) | rfl) rfl)))
 have hl : lateF bs ra = false := by rcases hL with h | h <;> exact h.1
 rw [if_neg (by simp [hl])] at hR
 have hL2 : bs.length = 0 ∨ ∃ q, 0 < bs.length ∧ (bs.map rvD)[(((bs.length : Nat) : Int) - 1).toNat]? = some (rvD q) ∧ ¬ ra < q.2.1 := by
  rcases hL with ⟨-, h0⟩ | ⟨-, q, h0⟩
  ·exact .inl h0
  ·exact .inr ⟨q, h0⟩
 clear hL hl
 generalize decide ((rp, rq) ∈ x.pairs) = b1 at hin hR
 cases b1 with
 | false =>
  rw [if_pos rfl] at hR
  subst hR
  rcases hL2 with h0 | ⟨q, h0, hq, hlt⟩
  ·have hn : decide ((0 : Int) < (bs.length : Int)) = false := decide_eq_false (by omega)
   repeat' (first | ((first | refine AW.sreg rfl fun K hK => ?_ | refine AW.sregD hmix rfl fun K hK => ?_ | refine run_call _ _ _ ((hm).pure rfl rfl _ _) rfl rfl (dstOk_of rfl) rfl rfl rfl ?_ | refine runT_call _ _ [] (fun hv _ => (hp).pure rfl rfl hv _) rfl rfl (dstOk_of rfl) rfl rfl ?_ | refine runT_call _ _ [] (fun hv _ => (hin).pure rfl rfl hv _) rfl rfl (dstOk_of rfl) rfl rfl ?_); simp only [go_sem, ↓reduceIte, List.length_map, hn, bne_self_eq_false, Bool.not_false]) | (refine AW.seq_k fun K hK => ?_) | (refine AW.block ?_) | (refine AW.cT ?_) | (refine AW.cF ?_) | (refine hK _ ?_; clear hK K) | (with_reducible refine And.intro (?_ : regOk _ _ = true) ?_; kernel_rfl) | (with_reducible refine andI ?_) | (refine AW.ret (Fin.data rfl (by first | (simp only [go_sem]; done) | (simp [go_sem, *]; done) | (simp [go_sem]; omega) | rfl) rfl)))
  ·have hn : decide ((0 : Int) < (bs.length : Int)) = true := decide_eq_true (by omega)
   have hlt2 : decide (ra < q.2.1) = false := decide_eq_false hlt
   repeat' (first | ((first | refine AW.sreg rfl fun K hK => ?_ | refine AW.sregD hmix rfl fun K hK => ?_ | refine run_call _ _ _ ((hm).pure rfl rfl _ _) rfl rfl (dstOk_of rfl) rfl rfl rfl ?_ | refine runT_call _ _ [] (fun hv _ => (hp).pure rfl rfl hv _) rfl rfl (dstOk_of rfl) rfl rfl ?_ | refine runT_call _ _ [] (fun hv _ => (hin).pure rfl rfl hv _) rfl rfl (dstOk_of rfl) rfl rfl ?_); simp only [go_sem, ↓reduceIte, List.length_map, hn, hq, hlt2, bne_self_eq_false, Bool.not_false]) | (refine AW.seq_k fun K hK => ?_) | (refine AW.block ?_) | (refine AW.cT ?_) | (refine AW.cF ?_) | (refine hK _ ?_; clear hK K) | (with_reducible refine And.intro (?_ : regOk _ _ = true) ?_; kernel_rfl) | (with_reducible refine andI ?_) | (refine AW.ret (Fin.data rfl (by first | (simp only [go_sem]; done) | (simp [go_sem, *]; done) | (simp [go_sem]; omega) | rfl) rfl)))
 | true =>
 rw [if_neg (by simp)] at hR
 generalize asF x.sheet (-1) rl = ae at hR has_
 generalize (miF x.sheet rl) = ml at hR hmi
 generalize keyB rb = kb at hR hk
 have hbk : (rb ≠ [] ∧ kb = false) ∨ (rb = []) ∨ (rb ≠ [] ∧ kb = true) := by
  by_cases e : rb = []
  ·exact .inr (.inl e)
  ·cases kb
   ·exact .inl ⟨e, rfl⟩
   ·exact .inr (.inr ⟨e, rfl⟩)
 rcases hbk with ⟨e1, rfl⟩ | hbk
 ·have e2 : (rb == ([] : Str)) = false := by simpa using e1
  rw [if_pos (by simp [e2])] at hR
  subst hR
  rcases hL2 with h0 | ⟨q, h0, hq, hlt⟩
  ·have hn : decide ((0 : Int) < (bs.length : Int)) = false := decide_eq_false (by omega)
   repeat' (first | ((first | refine AW.sreg rfl fun K hK => ?_ | refine AW.sregD hmix rfl fun K hK => ?_ | refine run_call _ _ _ ((hm).pure rfl rfl _ _) rfl rfl (dstOk_of rfl) rfl rfl rfl ?_ | refine runT_call _ _ [] (fun hv _ => (hp).pure rfl rfl hv _) rfl rfl (dstOk_of rfl) rfl rfl ?_ | refine runT_call _ _ [] (fun hv _ => (hin).pure rfl rfl hv _) rfl rfl (dstOk_of rfl) rfl rfl ?_ | refine run_call _ _ _ ((hk).pure rfl rfl _ _) rfl rfl (dstOk_of rfl) rfl rfl rfl ?_); simp only [go_sem, ↓reduceIte, List.length_map, hn, bne_self_eq_false, bne, e2]) | (refine AW.seq_k fun K hK => ?_) | (refine AW.block ?_) | (refine AW.cT ?_) | (refine AW.cF ?_) | (refine hK _ ?_; clear hK K) | (with_reducible refine And.intro (?_ : regOk _ _ = true) ?_; kernel_rfl) | (with_reducible refine andI ?_) | (refine AW.ret (Fin.data rfl (by first | (simp only [go_sem]; done) | (simp [go_sem, *]; done) | (simp [go_sem]; omega) | rfl) rfl)))
  ·have hn : decide ((0 : Int) < (bs.length : Int)) = true := decide_eq_true (by omega)
   have hlt2 : decide (ra < q.2.1) = false := decide_eq_false hlt
   repeat' (first | ((first | refine AW.sreg rfl fun K hK => ?_ | refine AW.sregD hmix rfl fun K hK => ?_ | refine run_call _ _ _ ((hm).pure rfl rfl _ _) rfl rfl (dstOk_of rfl) rfl rfl rfl ?_ | refine runT_call _ _ [] (fun hv _ => (hp).pure rfl rfl hv _) rfl rfl (dstOk_of rfl) rfl rfl ?_ | refine runT_call _ _ [] (fun hv _ => (hin).pure rfl rfl hv _) rfl rfl (dstOk_of rfl) rfl rfl ?_ | refine run_call _ _ _ ((hk).pure rfl rfl _ _) rfl rfl (dstOk_of rfl) rfl rfl rfl ?_); simp only [go_sem, ↓reduceIte, List.length_map, hn, hq, hlt2, bne_self_eq_false, bne, e2]) | (refine AW.seq_k fun K hK => ?_) | (refine AW.block ?_) | (refine AW.cT ?_) | (refine AW.cF ?_) | (refine hK _ ?_; clear hK K) | (with_reducible refine And.intro (?_ : regOk _ _ = true) ?_; kernel_rfl) | (with_reducible refine andI ?_) | (refine AW.ret (Fin.data rfl (by first | (simp only [go_sem]; done) | (simp [go_sem, *]; done) | (simp [go_sem]; omega) | rfl) rfl)))
 rw [if_neg (by rcases hbk with rfl | ⟨-, rfl⟩ <;> simp)] at hR
 cases e3 : (rb == rq) with
 | true =>
  rw [e3, if_pos rfl] at hR
  subst hR
  rcases hbk with rfl | ⟨e1, rfl⟩
  ·have e2 : (([] : Str) == ([] : Str)) = true := rfl
   rcases hL2 with h0 | ⟨q, h0, hq, hlt⟩
   ·have hn : decide ((0 : Int) < (bs.length : Int)) = false := decide_eq_false (by omega)
    repeat' (first | ((first | refine AW.sreg rfl fun K hK => ?_ | refine AW.sregD hmix rfl fun K hK => ?_ | refine run_call _ _ _ ((hm).pure rfl rfl _ _) rfl rfl (dstOk_of rfl) rfl rfl rfl ?_ | refine runT_call _ _ [] (fun hv _ => (hp).pure rfl rfl hv _) rfl rfl (dstOk_of rfl) rfl rfl ?_ | refine runT_call _ _ [] (fun hv _ => (hin).pure rfl rfl hv _) rfl rfl (dstOk_of rfl) rfl rfl ?_); simp only [go_sem, ↓reduceIte, List.length_map, hn, bne_self_eq_false, bne, e2, e3]) | (refine AW.seq_k fun K hK => ?_) | (refine AW.block ?_) | (refine AW.cT ?_) | (refine AW.cF ?_) | (refine hK _ ?_; clear hK K) | (with_reducible refine And.intro (?_ : regOk _ _ = true) ?_; kernel_rfl) | (with_reducible refine andI ?_) | (refine AW.ret (Fin.data rfl (by first | (simp only [go_sem]; done) | (simp [go_sem, *]; done) | (simp [go_sem]; omega) | rfl) rfl)))
   ·have hn : decide ((0 : Int) < (bs.length : Int)) = true := decide_eq_true (by omega)
    have hlt2 : decide (ra < q.2.1) = false := decide_eq_false hlt
    repeat' (first | ((first | refine AW.sreg rfl fun K hK => ?_ | refine AW.sregD hmix rfl fun K hK => ?_ | refine run_call _ _ _ ((hm).pure rfl rfl _ _) rfl rfl (dstOk_of rfl) rfl rfl rfl ?_ | refine runT_call _ _ [] (fun hv _ => (hp).pure rfl rfl hv _) rfl rfl (dstOk_of rfl) rfl rfl ?_ | refine runT_call _ _ [] (fun hv _ => (hin).pure rfl rfl hv _) rfl rfl (dstOk_of rfl) rfl rfl ?_); simp only [go_sem, ↓reduceIte, List.length_map, hn, hq, hlt2, bne_self_eq_false, bne, e2, e3]) | (refine AW.seq_k fun K hK => ?_) | (refine AW.block ?_) | (refine AW.cT ?_) | (refine AW.cF ?_) | (refine hK _ ?_; clear hK K) | (with_reducible refine And.intro (?_ : regOk _ _ = true) ?_; kernel_rfl) | (with_reducible refine andI ?_) | (refine AW.ret (Fin.data rfl (by first | (simp only [go_sem]; done) | (simp [go_sem, *]; done) | (simp [go_sem]; omega) | rfl) rfl)))
  ·have e2 : (rb == ([] : Str)) = false := by simpa using e1
   rcases hL2 with h0 | ⟨q, h0, hq, hlt⟩
   ·have hn : decide ((0 : Int) < (bs.length : Int)) = false := decide_eq_false (by omega)
    repeat' (first | ((first | refine AW.sreg rfl fun K hK => ?_ | refine AW.sregD hmix rfl fun K hK => ?_ | refine run_call _ _ _ ((hm).pure rfl rfl _ _) rfl rfl (dstOk_of rfl) rfl rfl rfl ?_ | refine runT_call _ _ [] (fun hv _ => (hp).pure rfl rfl hv _) rfl rfl (dstOk_of rfl) rfl rfl ?_ | refine runT_call _ _ [] (fun hv _ => (hin).pure rfl rfl hv _) rfl rfl (dstOk_of rfl) rfl rfl ?_ | refine run_call _ _ _ ((hk).pure rfl rfl _ _) rfl rfl (dstOk_of rfl) rfl rfl rfl ?_); simp only [go_sem, ↓reduceIte, List.length_map, hn, bne_self_eq_false, bne, e2, e3]) | (refine AW.seq_k fun K hK => ?_) | (refine AW.block ?_) | (refine AW.cT ?_) | (refine AW.cF ?_) | (refine hK _ ?_; clear hK K) | (with_reducible refine And.intro (?_ : regOk _ _ = true) ?_; kernel_rfl) | (with_reducible refine andI ?_) | (refine AW.ret (Fin.data rfl (by first | (simp only [go_sem]; done) | (simp [go_sem, *]; done) | (simp [go_sem]; omega) | rfl) rfl)))
   ·have hn : decide ((0 : Int) < (bs.length : Int)) = true := decide_eq_true (by omega)
    have hlt2 : decide (ra < q.2.1) = false := decide_eq_false hlt
    repeat' (first | ((first | refine AW.sreg rfl fun K hK => ?_ | refine AW.sregD hmix rfl fun K hK => ?_ | refine run_call _ _ _ ((hm).pure rfl rfl _ _) rfl rfl (dstOk_of rfl) rfl rfl rfl ?_ | refine runT_call _ _ [] (fun hv _ => (hp).pure rfl rfl hv _) rfl rfl (dstOk_of rfl) rfl rfl ?_ | refine runT_call _ _ [] (fun hv _ => (hin).pure rfl rfl hv _) rfl rfl (dstOk_of rfl) rfl rfl ?_ | refine run_call _ _ _ ((hk).pure rfl rfl _ _) rfl rfl (dstOk_of rfl) rfl rfl rfl ?_); simp only [go_sem, ↓reduceIte, List.length_map, hn, hq, hlt2, bne_self_eq_false, bne, e2, e3]) | (refine AW.seq_k fun K hK => ?_) | (refine AW.block ?_) | (refine AW.cT ?_) | (refine AW.cF ?_) | (refine hK _ ?_; clear hK K) | (with_reducible refine And.intro (?_ : regOk _ _ = true) ?_; kernel_rfl) | (with_reducible refine andI ?_) | (refine AW.ret (Fin.data rfl (by first | (simp only [go_sem]; done) | (simp [go_sem, *]; done) | (simp [go_sem]; omega) | rfl) rfl)))
 | false =>
 rw [e3, if_neg (by simp)] at hR
 by_cases c5 : ae = 0
 rotate_left
 ·rw [if_pos c5] at hR
  subst hR
  have e5 : (ae == 0) = false := by simpa using c5
  rcases hbk with rfl | ⟨e1, rfl⟩
  ·have e2 : (([] : Str) == ([] : Str)) = true := rfl
   rcases hL2 with h0 | ⟨q, h0, hq, hlt⟩
   ·have hn : decide ((0 : Int) < (bs.length : Int)) = false := decide_eq_false (by omega)
    repeat' (first | ((first | refine AW.sreg rfl fun K hK => ?_ | refine AW.sregD hmix rfl fun K hK => ?_ | refine run_call _ _ _ ((hm).pure rfl rfl _ _) rfl rfl (dstOk_of rfl) rfl rfl rfl ?_ | refine runT_call _ _ [] (fun hv _ => (hp).pure rfl rfl hv _) rfl rfl (dstOk_of rfl) rfl rfl ?_ | refine runT_call _ _ [] (fun hv _ => (hin).pure rfl rfl hv _) rfl rfl (dstOk_of rfl) rfl rfl ?_ | refine run_call _ _ _ ((has_).pure rfl rfl _ _) rfl rfl (dstOk_of rfl) rfl rfl rfl ?_); simp only [go_sem, ↓reduceIte, List.length_map, hn, bne_self_eq_false, bne, e2, e3, e5]) | (refine AW.seq_k fun K hK => ?_) | (refine AW.block ?_) | (refine AW.skip ?_; simp only [Then, InBlock]) | (refine AW.cT ?_) | (refine AW.cF ?_) | (refine hK _ ?_; clear hK K) | (with_reducible refine And.intro (?_ : regOk _ _ = true) ?_; kernel_rfl) | (with_reducible refine andI ?_) | (refine AW.ret (Fin.data rfl (by first | (simp only [go_sem]; done) | (simp [go_sem, *]; done) | (simp [go_sem]; omega) | rfl) rfl)))
   ·have hn : decide ((0 : Int) < (bs.length : Int)) = true := decide_eq_true (by omega)
    have hlt2 : decide (ra < q.2.1) = false := decide_eq_false hlt
    repeat' (first | ((first | refine AW.sreg rfl fun K hK => ?_ | refine AW.sregD hmix rfl fun K hK => ?_ | refine run_call _ _ _ ((hm).pure rfl rfl _ _) rfl rfl (dstOk_of rfl) rfl rfl rfl ?_ | refine runT_call _ _ [] (fun hv _ => (hp).pure rfl rfl hv _) rfl rfl (dstOk_of rfl) rfl rfl ?_ | refine runT_call _ _ [] (fun hv _ => (hin).pure rfl rfl hv _) rfl rfl (dstOk_of rfl) rfl rfl ?_ | refine run_call _ _ _ ((has_).pure rfl rfl _ _) rfl rfl (dstOk_of rfl) rfl rfl rfl ?_); simp only [go_sem, ↓reduceIte, List.length_map, hn, hq, hlt2, bne_self_eq_false, bne, e2, e3, e5]) | (refine AW.seq_k fun K hK => ?_) | (refine AW.block ?_) | (refine AW.skip ?_; simp only [Then, InBlock]) | (refine AW.cT ?_) | (refine AW.cF ?_) | (refine hK _ ?_; clear hK K) | (with_reducible refine And.intro (?_ : regOk _ _ = true) ?_; kernel_rfl) | (with_reducible refine andI ?_) | (refine AW.ret (Fin.data rfl (by first | (simp only [go_sem]; done) | (simp [go_sem, *]; done) | (simp [go_sem]; omega) | rfl) rfl)))
  ·have e2 : (rb == ([] : Str)) = false := by simpa using e1
   rcases hL2 with h0 | ⟨q, h0, hq, hlt⟩
   ·have hn : decide ((0 : Int) < (bs.length : Int)) = false := decide_eq_false (by omega)
    repeat' (first | ((first | refine AW.sreg rfl fun K hK => ?_ | refine AW.sregD hmix rfl fun K hK => ?_ | refine run_call _ _ _ ((hm).pure rfl rfl _ _) rfl rfl (dstOk_of rfl) rfl rfl rfl ?_ | refine runT_call _ _ [] (fun hv _ => (hp).pure rfl rfl hv _) rfl rfl (dstOk_of rfl) rfl rfl ?_ | refine runT_call _ _ [] (fun hv _ => (hin).pure rfl rfl hv _) rfl rfl (dstOk_of rfl) rfl rfl ?_ | refine run_call _ _ _ ((has_).pure rfl rfl _ _) rfl rfl (dstOk_of rfl) rfl rfl rfl ?_ | refine run_call _ _ _ ((hk).pure rfl rfl _ _) rfl rfl (dstOk_of rfl) rfl rfl rfl ?_); simp only [go_sem, ↓reduceIte, List.length_map, hn, bne_self_eq_false, bne, e2, e3, e5]) | (refine AW.seq_k fun K hK => ?_) | (refine AW.block ?_) | (refine AW.skip ?_; simp only [Then, InBlock]) | (refine AW.cT ?_) | (refine AW.cF ?_) | (refine hK _ ?_; clear hK K) | (with_reducible refine And.intro (?_ : regOk _ _ = true) ?_; kernel_rfl) | (with_reducible refine andI ?_) | (refine AW.ret (Fin.data rfl (by first | (simp only [go_sem]; done) | (simp [go_sem, *]; done) | (simp [go_sem]; omega) | rfl) rfl)))
   ·have hn : decide ((0 : Int) < (bs.length : Int)) = true := decide_eq_true (by omega)
    have hlt2 : decide (ra < q.2.1) = false := decide_eq_false hlt
    repeat' (first | ((first | refine AW.sreg rfl fun K hK => ?_ | refine AW.sregD hmix rfl fun K hK => ?_ | refine run_call _ _ _ ((hm).pure rfl rfl _ _) rfl rfl (dstOk_of rfl) rfl rfl rfl ?_ | refine runT_call _ _ [] (fun hv _ => (hp).pure rfl rfl hv _) rfl rfl (dstOk_of rfl) rfl rfl ?_ | refine runT_call _ _ [] (fun hv _ => (hin).pure rfl rfl hv _) rfl rfl (dstOk_of rfl) rfl rfl ?_ | refine run_call _ _ _ ((has_).pure rfl rfl _ _) rfl rfl (dstOk_of rfl) rfl rfl rfl ?_ | refine run_call _ _ _ ((hk).pure rfl rfl _ _) rfl rfl (dstOk_of rfl) rfl rfl rfl ?_); simp only [go_sem, ↓reduceIte, List.length_map, hn, hq, hlt2, bne_self_eq_false, bne, e2, e3, e5]) | (refine AW.seq_k fun K hK => ?_) | (refine AW.block ?_) | (refine AW.skip ?_; simp only [Then, InBlock]) | (refine AW.cT ?_) | (refine AW.cF ?_) | (refine hK _ ?_; clear hK K) | (with_reducible refine And.intro (?_ : regOk _ _ = true) ?_; kernel_rfl) | (with_reducible refine andI ?_) | (refine AW.ret (Fin.data rfl (by first | (simp only [go_sem]; done) | (simp [go_sem, *]; done) | (simp [go_sem]; omega) | rfl) rfl)))
 subst c5
 rw [if_neg (by simp)] at hR
 cases rd with
 | false =>
  rw [Bool.false_and, if_neg (by simp)] at hR
  subst hR
  rcases hbk with rfl | ⟨e1, rfl⟩
  ·have e2 : (([] : Str) == ([] : Str)) = true := rfl
   rcases hL2 with h0 | ⟨q, h0, hq, hlt⟩
   ·have hn : decide ((0 : Int) < (bs.length : Int)) = false := decide_eq_false (by omega)
    repeat' (first | ((first | refine AW.sreg rfl fun K hK => ?_ | refine AW.sregD hmix rfl fun K hK => ?_ | refine run_call _ _ _ ((hm).pure rfl rfl _ _) rfl rfl (dstOk_of rfl) rfl rfl rfl ?_ | refine runT_call _ _ [] (fun hv _ => (hp).pure rfl rfl hv _) rfl rfl (dstOk_of rfl) rfl rfl ?_ | refine runT_call _ _ [] (fun hv _ => (hin).pure rfl rfl hv _) rfl rfl (dstOk_of rfl) rfl rfl ?_ | refine run_call _ _ _ ((has_).pure rfl rfl _ _) rfl rfl (dstOk_of rfl) rfl rfl rfl ?_); simp only [go_sem, ↓reduceIte, List.length_map, hn, bne_self_eq_false, bne, e2, e3]) | (refine AW.seq_k fun K hK => ?_) | (refine AW.block ?_) | (refine AW.skip ?_; simp only [Then, InBlock]) | (refine AW.cF ?_) | (refine hK _ ?_; clear hK K) | (with_reducible refine And.intro (?_ : regOk _ _ = true) ?_; kernel_rfl) | (with_reducible refine andI ?_) | (refine AW.ret (Fin.data rfl (by first | (simp only [go_sem]; done) | (simp [go_sem, *]; done) | (simp [go_sem]; omega) | rfl) rfl)))
   ·have hn : decide ((0 : Int) < (bs.length : Int)) = true := decide_eq_true (by omega)
    have hlt2 : decide (ra < q.2.1) = false := decide_eq_false hlt
    repeat' (first | ((first | refine AW.sreg rfl fun K hK => ?_ | refine AW.sregD hmix rfl fun K hK => ?_ | refine run_call _ _ _ ((hm).pure rfl rfl _ _) rfl rfl (dstOk_of rfl) rfl rfl rfl ?_ | refine runT_call _ _ [] (fun hv _ => (hp).pure rfl rfl hv _) rfl rfl (dstOk_of rfl) rfl rfl ?_ | refine runT_call _ _ [] (fun hv _ => (hin).pure rfl rfl hv _) rfl rfl (dstOk_of rfl) rfl rfl ?_ | refine run_call _ _ _ ((has_).pure rfl rfl _ _) rfl rfl (dstOk_of rfl) rfl rfl rfl ?_); simp only [go_sem, ↓reduceIte, List.length_map, hn, hq, hlt2, bne_self_eq_false, bne, e2, e3]) | (refine AW.seq_k fun K hK => ?_) | (refine AW.block ?_) | (refine AW.skip ?_; simp only [Then, InBlock]) | (refine AW.cF ?_) | (refine hK _ ?_; clear hK K) | (with_reducible refine And.intro (?_ : regOk _ _ = true) ?_; kernel_rfl) | (with_reducible refine andI ?_) | (refine AW.ret (Fin.data rfl (by first | (simp only [go_sem]; done) | (simp [go_sem, *]; done) | (simp [go_sem]; omega) | rfl) rfl)))
  ·have e2 : (rb == ([] : Str)) = false := by simpa using e1
   rcases hL2 with h0 | ⟨q, h0, hq, hlt⟩
   ·have hn : decide ((0 : Int) < (bs.length : Int)) = false := decide_eq_false (by omega)
    repeat' (first | ((first | refine AW.sreg rfl fun K hK => ?_ | refine AW.sregD hmix rfl fun K hK => ?_ | refine run_call _ _ _ ((hm).pure rfl rfl _ _) rfl rfl (dstOk_of rfl) rfl rfl rfl ?_ | refine runT_call _ _ [] (fun hv _ => (hp).pure rfl rfl hv _) rfl rfl (dstOk_of rfl) rfl rfl ?_ | refine runT_call _ _ [] (fun hv _ => (hin).pure rfl rfl hv _) rfl rfl (dstOk_of rfl) rfl rfl ?_ | refine run_call _ _ _ ((has_).pure rfl rfl _ _) rfl rfl (dstOk_of rfl) rfl rfl rfl ?_ | refine run_call _ _ _ ((hk).pure rfl rfl _ _) rfl rfl (dstOk_of rfl) rfl rfl rfl ?_); simp only [go_sem, ↓reduceIte, List.length_map, hn, bne_self_eq_false, bne, e2, e3]) | (refine AW.seq_k fun K hK => ?_) | (refine AW.block ?_) | (refine AW.skip ?_; simp only [Then, InBlock]) | (refine AW.cF ?_) | (refine hK _ ?_; clear hK K) | (with_reducible refine And.intro (?_ : regOk _ _ = true) ?_; kernel_rfl) | (with_reducible refine andI ?_) | (refine AW.ret (Fin.data rfl (by first | (simp only [go_sem]; done) | (simp [go_sem, *]; done) | (simp [go_sem]; omega) | rfl) rfl)))
   ·have hn : decide ((0 : Int) < (bs.length : Int)) = true := decide_eq_true (by omega)
    have hlt2 : decide (ra < q.2.1) = false := decide_eq_false hlt
    repeat' (first | ((first | refine AW.sreg rfl fun K hK => ?_ | refine AW.sregD hmix rfl fun K hK => ?_ | refine run_call _ _ _ ((hm).pure rfl rfl _ _) rfl rfl (dstOk_of rfl) rfl rfl rfl ?_ | refine runT_call _ _ [] (fun hv _ => (hp).pure rfl rfl hv _) rfl rfl (dstOk_of rfl) rfl rfl ?_ | refine runT_call _ _ [] (fun hv _ => (hin).pure rfl rfl hv _) rfl rfl (dstOk_of rfl) rfl rfl ?_ | refine run_call _ _ _ ((has_).pure rfl rfl _ _) rfl rfl (dstOk_of rfl) rfl rfl rfl ?_ | refine run_call _ _ _ ((hk).pure rfl rfl _ _) rfl rfl (dstOk_of rfl) rfl rfl rfl ?_); simp only [go_sem, ↓reduceIte, List.length_map, hn, hq, hlt2, bne_self_eq_false, bne, e2, e3]) | (refine AW.seq_k fun K hK => ?_) | (refine AW.block ?_) | (refine AW.skip ?_; simp only [Then, InBlock]) | (refine AW.cF ?_) | (refine hK _ ?_; clear hK K) | (with_reducible refine And.intro (?_ : regOk _ _ = true) ?_; kernel_rfl) | (with_reducible refine andI ?_) | (refine AW.ret (Fin.data rfl (by first | (simp only [go_sem]; done) | (simp [go_sem, *]; done) | (simp [go_sem]; omega) | rfl) rfl)))
 | true =>
  rw [Bool.true_and] at hR
  have e6 : decide ((0 : Int) < (ml.length : Int)) = decide (0 < ml.length) := decide_eq_decide.2 (by omega)
  generalize decide (0 < ml.length) = b6 at hR e6
  cases b6 with
  | true =>
   rw [if_pos rfl] at hR
   subst hR
   rcases hbk with rfl | ⟨e1, rfl⟩
   ·have e2 : (([] : Str) == ([] : Str)) = true := rfl
    rcases hL2 with h0 | ⟨q, h0, hq, hlt⟩
    ·have hn : decide ((0 : Int) < (bs.length : Int)) = false := decide_eq_false (by omega)
     repeat' (first | ((first | refine AW.sreg rfl fun K hK => ?_ | refine AW.sregD hmix rfl fun K hK => ?_ | refine run_call _ _ _ ((hm).pure rfl rfl _ _) rfl rfl (dstOk_of rfl) rfl rfl rfl ?_ | refine runT_call _ _ [] (fun hv _ => (hp).pure rfl rfl hv _) rfl rfl (dstOk_of rfl) rfl rfl ?_ | refine runT_call _ _ [] (fun hv _ => (hin).pure rfl rfl hv _) rfl rfl (dstOk_of rfl) rfl rfl ?_ | refine run_call _ _ _ ((has_).pure rfl rfl _ _) rfl rfl (dstOk_of rfl) rfl rfl rfl ?_ | refine run_call _ _ _ ((hmi).pure rfl rfl _ _) rfl rfl (dstOk_of rfl) rfl rfl rfl ?_); simp only [go_sem, ↓reduceIte, List.length_map, hn, bne_self_eq_false, bne, e2, e3, e6]) | (refine AW.seq_k fun K hK => ?_) | (refine AW.block ?_) | (refine AW.skip ?_; simp only [Then, InBlock]) | (refine AW.cT ?_) | (refine AW.cF ?_) | (refine hK _ ?_; clear hK K) | (with_reducible refine And.intro (?_ : regOk _ _ = true) ?_; kernel_rfl) | (with_reducible refine andI ?_) | (refine AW.ret (Fin.data rfl (by first | (simp only [go_sem]; done) | (simp [go_sem, *]; done) | (simp [go_sem]; omega) | rfl) rfl)))
    ·have hn : decide ((0 : Int) < (bs.length : Int)) = true := decide_eq_true (by omega)
     have hlt2 : decide (ra < q.2.1) = false := decide_eq_false hlt
     repeat' (first | ((first | refine AW.sreg rfl fun K hK => ?_ | refine AW.sregD hmix rfl fun K hK => ?_ | refine run_call _ _ _ ((hm).pure rfl rfl _ _) rfl rfl (dstOk_of rfl) rfl rfl rfl ?_ | refine runT_call _ _ [] (fun hv _ => (hp).pure rfl rfl hv _) rfl rfl (dstOk_of rfl) rfl rfl ?_ | refine runT_call _ _ [] (fun hv _ => (hin).pure rfl rfl hv _) rfl rfl (dstOk_of rfl) rfl rfl ?_ | refine run_call _ _ _ ((has_).pure rfl rfl _ _) rfl rfl (dstOk_of rfl) rfl rfl rfl ?_ | refine run_call _ _ _ ((hmi).pure rfl rfl _ _) rfl rfl (dstOk_of rfl) rfl rfl rfl ?_); simp only [go_sem, ↓reduceIte, List.length_map, hn, hq, hlt2, bne_self_eq_false, bne, e2, e3, e6]) | (refine AW.seq_k fun K hK => ?_) | (refine AW.block ?_) | (refine AW.skip ?_; simp only [Then, InBlock]) | (refine AW.cT ?_) | (refine AW.cF ?_) | (refine hK _ ?_; clear hK K) | (with_reducible refine And.intro (?_ : regOk _ _ = true) ?_; kernel_rfl) | (with_reducible refine andI ?_) | (refine AW.ret (Fin.data rfl (by first | (simp only [go_sem]; done) | (simp [go_sem, *]; done) | (simp [go_sem]; omega) | rfl) rfl)))
   ·have e2 : (rb == ([] : Str)) = false := by simpa using e1
    rcases hL2 with h0 | ⟨q, h0, hq, hlt⟩
    ·have hn : decide ((0 : Int) < (bs.length : Int)) = false := decide_eq_false (by omega)
     repeat' (first | ((first | refine AW.sreg rfl fun K hK => ?_ | refine AW.sregD hmix rfl fun K hK => ?_ | refine run_call _ _ _ ((hm).pure rfl rfl _ _) rfl rfl (dstOk_of rfl) rfl rfl rfl ?_ | refine runT_call _ _ [] (fun hv _ => (hp).pure rfl rfl hv _) rfl rfl (dstOk_of rfl) rfl rfl ?_ | refine runT_call _ _ [] (fun hv _ => (hin).pure rfl rfl hv _) rfl rfl (dstOk_of rfl) rfl rfl ?_ | refine run_call _ _ _ ((has_).pure rfl rfl _ _) rfl rfl (dstOk_of rfl) rfl rfl rfl ?_ | refine run_call _ _ _ ((hmi).pure rfl rfl _ _) rfl rfl (dstOk_of rfl) rfl rfl rfl ?_ | refine run_call _ _ _ ((hk).pure rfl rfl _ _) rfl rfl (dstOk_of rfl) rfl rfl rfl ?_); simp only [go_sem, ↓reduceIte, List.length_map, hn, bne_self_eq_false, bne, e2, e3, e6]) | (refine AW.seq_k fun K hK => ?_) | (refine AW.block ?_) | (refine AW.skip ?_; simp only [Then, InBlock]) | (refine AW.cT ?_) | (refine AW.cF ?_) | (refine hK _ ?_; clear hK K) | (with_reducible refine And.intro (?_ : regOk _ _ = true) ?_; kernel_rfl) | (with_reducible refine andI ?_) | (refine AW.ret (Fin.data rfl (by first | (simp only [go_sem]; done) | (simp [go_sem, *]; done) | (simp [go_sem]; omega) | rfl) rfl)))
    ·have hn : decide ((0 : Int) < (bs.length : Int)) = true := decide_eq_true (by omega)
     have hlt2 : decide (ra < q.2.1) = false := decide_eq_false hlt
     repeat' (first | ((first | refine AW.sreg rfl fun K hK => ?_ | refine AW.sregD hmix rfl fun K hK => ?_ | refine run_call _ _ _ ((hm).pure rfl rfl _ _) rfl rfl (dstOk_of rfl) rfl rfl rfl ?_ | refine runT_call _ _ [] (fun hv _ => (hp).pure rfl rfl hv _) rfl rfl (dstOk_of rfl) rfl rfl ?_ | refine runT_call _ _ [] (fun hv _ => (hin).pure rfl rfl hv _) rfl rfl (dstOk_of rfl) rfl rfl ?_ | refine run_call _ _ _ ((has_).pure rfl rfl _ _) rfl rfl (dstOk_of rfl) rfl rfl rfl ?_ | refine run_call _ _ _ ((hmi).pure rfl rfl _ _) rfl rfl (dstOk_of rfl) rfl rfl rfl ?_ | refine run_call _ _ _ ((hk).pure rfl rfl _ _) rfl rfl (dstOk_of rfl) rfl rfl rfl ?_); simp only [go_sem, ↓reduceIte, List.length_map, hn, hq, hlt2, bne_self_eq_false, bne, e2, e3, e6]) | (refine AW.seq_k fun K hK => ?_) | (refine AW.block ?_) | (refine AW.skip ?_; simp only [Then, InBlock]) | (refine AW.cT ?_) | (refine AW.cF ?_) | (refine hK _ ?_; clear hK K) | (with_reducible refine And.intro (?_ : regOk _ _ = true) ?_; kernel_rfl) | (with_reducible refine andI ?_) | (refine AW.ret (Fin.data rfl (by first | (simp only [go_sem]; done) | (simp [go_sem, *]; done) | (simp [go_sem]; omega) | rfl) rfl)))
  | false =>
   rw [if_neg (by simp)] at hR
   subst hR
   rcases hbk with rfl | ⟨e1, rfl⟩
   ·have e2 : (([] : Str) == ([] : Str)) = true := rfl
    rcases hL2 with h0 | ⟨q, h0, hq, hlt⟩
    ·have hn : decide ((0 : Int) < (bs.length : Int)) = false := decide_eq_false (by omega)
     repeat' (first | ((first | refine AW.sreg rfl fun K hK => ?_ | refine AW.sregD hmix rfl fun K hK => ?_ | refine run_call _ _ _ ((hm).pure rfl rfl _ _) rfl rfl (dstOk_of rfl) rfl rfl rfl ?_ | refine runT_call _ _ [] (fun hv _ => (hp).pure rfl rfl hv _) rfl rfl (dstOk_of rfl) rfl rfl ?_ | refine runT_call _ _ [] (fun hv _ => (hin).pure rfl rfl hv _) rfl rfl (dstOk_of rfl) rfl rfl ?_ | refine run_call _ _ _ ((has_).pure rfl rfl _ _) rfl rfl (dstOk_of rfl) rfl rfl rfl ?_ | refine run_call _ _ _ ((hmi).pure rfl rfl _ _) rfl rfl (dstOk_of rfl) rfl rfl rfl ?_); simp only [go_sem, ↓reduceIte, List.length_map, hn, bne_self_eq_false, bne, e2, e3, e6]) | (refine AW.seq_k fun K hK => ?_) | (refine AW.block ?_) | (refine AW.skip ?_; simp only [Then, InBlock]) | (refine AW.cF ?_) | (refine hK _ ?_; clear hK K) | (with_reducible refine And.intro (?_ : regOk _ _ = true) ?_; kernel_rfl) | (with_reducible refine andI ?_) | (refine AW.ret (Fin.data rfl (by first | (simp only [go_sem]; done) | (simp [go_sem, *]; done) | (simp [go_sem]; omega) | rfl) rfl)))
    ·have hn : decide ((0 : Int) < (bs.length : Int)) = true := decide_eq_true (by omega)
     have hlt2 : decide (ra < q.2.1) = false := decide_eq_false hlt
     repeat' (first | ((first | refine AW.sreg rfl fun K hK => ?_ | refine AW.sregD hmix rfl fun K hK => ?_ | refine run_call _ _ _ ((hm).pure rfl rfl _ _) rfl rfl (dstOk_of rfl) rfl rfl rfl ?_ | refine runT_call _ _ [] (fun hv _ => (hp).pure rfl rfl hv _) rfl rfl (dstOk_of rfl) rfl rfl ?_ | refine runT_call _ _ [] (fun hv _ => (hin).pure rfl rfl hv _) rfl rfl (dstOk_of rfl) rfl rfl ?_ | refine run_call _ _ _ ((has_).pure rfl rfl _ _) rfl rfl (dstOk_of rfl) rfl rfl rfl ?_ | refine run_call _ _ _ ((hmi).pure rfl rfl _ _) rfl rfl (dstOk_of rfl) rfl rfl rfl ?_); simp only [go_sem, ↓reduceIte, List.length_map, hn, hq, hlt2, bne_self_eq_false, bne, e2, e3, e6]) | (refine AW.seq_k fun K hK => ?_) | (refine AW.block ?_) | (refine AW.skip ?_; simp only [Then, InBlock]) | (refine AW.cF ?_) | (refine hK _ ?_; clear hK K) | (with_reducible refine And.intro (?_ : regOk _ _ = true) ?_; kernel_rfl) | (with_reducible refine andI ?_) | (refine AW.ret (Fin.data rfl (by first | (simp only [go_sem]; done) | (simp [go_sem, *]; done) | (simp [go_sem]; omega) | rfl) rfl)))
   ·have e2 : (rb == ([] : Str)) = false := by simpa using e1
    rcases hL2 with h0 | ⟨q, h0, hq, hlt⟩
    ·have hn : decide ((0 : Int) < (bs.length : Int)) = false := decide_eq_false (by omega)
     repeat' (first | ((first | refine AW.sreg rfl fun K hK => ?_ | refine AW.sregD hmix rfl fun K hK => ?_ | refine run_call _ _ _ ((hm).pure rfl rfl _ _) rfl rfl (dstOk_of rfl) rfl rfl rfl ?_ | refine runT_call _ _ [] (fun hv _ => (hp).pure rfl rfl hv _) rfl rfl (dstOk_of rfl) rfl rfl ?_ | refine runT_call _ _ [] (fun hv _ => (hin).pure rfl rfl hv _) rfl rfl (dstOk_of rfl) rfl rfl ?_ | refine run_call _ _ _ ((has_).pure rfl rfl _ _) rfl rfl (dstOk_of rfl) rfl rfl rfl ?_ | refine run_call _ _ _ ((hmi).pure rfl rfl _ _) rfl rfl (dstOk_of rfl) rfl rfl rfl ?_ | refine run_call _ _ _ ((hk).pure rfl rfl _ _) rfl rfl (dstOk_of rfl) rfl rfl rfl ?_); simp only [go_sem, ↓reduceIte, List.length_map, hn, bne_self_eq_false, bne, e2, e3, e6]) | (refine AW.seq_k fun K hK => ?_) | (refine AW.block ?_) | (refine AW.skip ?_; simp only [Then, InBlock]) | (refine AW.cF ?_) | (refine hK _ ?_; clear hK K) | (with_reducible refine And.intro (?_ : regOk _ _ = true) ?_; kernel_rfl) | (with_reducible refine andI ?_) | (refine AW.ret (Fin.data rfl (by first | (simp only [go_sem]; done) | (simp [go_sem, *]; done) | (simp [go_sem]; omega) | rfl) rfl)))
    ·have hn : decide ((0 : Int) < (bs.length : Int)) = true := decide_eq_true (by omega)
     have hlt2 : decide (ra < q.2.1) = false := decide_eq_false hlt
     repeat' (first | ((first | refine AW.sreg rfl fun K hK => ?_ | refine AW.sregD hmix rfl fun K hK => ?_ | refine run_call _ _ _ ((hm).pure rfl rfl _ _) rfl rfl (dstOk_of rfl) rfl rfl rfl ?_ | refine runT_call _ _ [] (fun hv _ => (hp).pure rfl rfl hv _) rfl rfl (dstOk_of rfl) rfl rfl ?_ | refine runT_call _ _ [] (fun hv _ => (hin).pure rfl rfl hv _) rfl rfl (dstOk_of rfl) rfl rfl ?_ | refine run_call _ _ _ ((has_).pure rfl rfl _ _) rfl rfl (dstOk_of rfl) rfl rfl rfl ?_ | refine run_call _ _ _ ((hmi).pure rfl rfl _ _) rfl rfl (dstOk_of rfl) rfl rfl rfl ?_ | refine run_call _ _ _ ((hk).pure rfl rfl _ _) rfl rfl (dstOk_of rfl) rfl rfl rfl ?_); simp only [go_sem, ↓reduceIte, List.length_map, hn, hq, hlt2, bne_self_eq_false, bne, e2, e3, e6]) | (refine AW.seq_k fun K hK => ?_) | (refine AW.block ?_) | (refine AW.skip ?_; simp only [Then, InBlock]) | (refine AW.cF ?_) | (refine hK _ ?_; clear hK K) | (with_reducible refine And.intro (?_ : regOk _ _ = true) ?_; kernel_rfl) | (with_reducible refine andI ?_) | (refine AW.ret (Fin.data rfl (by first | (simp only [go_sem]; done) | (simp [go_sem, *]; done) | (simp [go_sem]; omega) | rfl) rfl)))
/-- The fault of reviews. -/
def chF (x : Su) (l : List Rv) : Int := if csF x ≠ 0 then csF x else goF (rvF x) [] l
theorem csF_rise {x : Su} (h : csF x = 0) : RisPa x.papers ∧ RiseP x.pairs ∧ RiseP x.barred := by
 unfold csF at h
 by_cases h0 : goF pasF [] x.papers = 0
 rotate_left
 ·rw [if_pos h0] at h; exact absurd h h0
 rw [if_neg (by simpa using h0), csL] at h
 by_cases h1 : prsF none x.pairs = 0
 rotate_left
 ·rw [if_pos h1] at h; exact absurd h h1
 rw [if_neg (by simpa using h1)] at h
 by_cases h2 : prOk x.papers x.pairs = 0
 rotate_left
 ·rw [if_pos h2] at h; exact absurd h h2
 rw [if_neg (by simpa using h2), csL] at h
 by_cases h3 : prsF none x.barred = 0
 rotate_left
 ·rw [if_pos h3] at h; exact absurd h h3
 exact ⟨risPa_of h0, (prsF_zero x.pairs none h1).2.1, (prsF_zero x.barred none h3).2.1⟩
theorem check_any {x : Su} (h : SuR x) (l : List Rv) (hl : l.length ≤ 1000) (hb : ∀ r ∈ l, RvB r) : Does Tryz.prog 14 [.d (suD x), .d (.sl (l.map rvD))] [] (I (chF x l)) [] := by
 have hs := checkSetup_any h
 refine Does.of_AW (n := 34) Tryz.func14 rfl rfl rfl fun cx hcx => ?_
 generalize hR : chF x l = R
 unfold chF at hR
 by_cases h0 : csF x = 0
 rotate_left
 ·rw [if_pos h0] at hR
  subst hR
  have e0 : (csF x != 0) = true := by simpa using h0
  repeat' (first | ((first | refine AW.sreg rfl fun K hK => ?_ | refine run_call _ _ _ ((hs).pure rfl rfl _ _) rfl rfl (dstOk_of rfl) rfl rfl rfl ?_); simp only [go_sem, ↓reduceIte, e0]) | (refine AW.seq_k fun K hK => ?_) | (refine AW.cT ?_) | (refine hK _ ?_; clear hK K) | (refine AW.ret (Fin.data rfl (by first | (simp only [go_sem]; done) | (simp [go_sem, *]; done) | (simp [go_sem]; omega) | rfl) rfl)))
 rw [if_neg (by simpa using h0)] at hR
 have hrise := (csF_rise h0).2.1
 rw [h0] at hs
 have h3000 : decide ((3000 : Int) < (l.length : Int)) = false := decide_eq_false (by omega)
 have hel : (l.map rvD).all (elemOkD 7) = true := by rw [List.all_map]; exact List.all_eq_true.2 fun _ _ => rfl
 repeat' (first | ((first | refine AW.sreg rfl fun K hK => ?_ | refine run_call _ _ _ ((hs).pure rfl rfl _ _) rfl rfl (dstOk_of rfl) rfl rfl rfl ?_); simp only [go_sem, ↓reduceIte, List.length_map, h3000]) | (refine AW.seq_k fun K hK => ?_) | (refine AW.block ?_) | (refine AW.skip ?_; simp only [Then, InBlock]) | (refine AW.cF ?_) | (refine hK _ ?_; clear hK K))
 refine AW.loopF (ι := Nat) [1, 2, 17, 18] (fun p => [(19, I p)]) (fun p => [(0, some (O.box 31 (suV x)))]) 40 (fun p => p ≤ l.length ∧ goF (rvF x) (l.take p) (l.drop p) = R) (fun p => l.length - p) 0 ⟨by simp, hR⟩ (Weak.aC hcx (by refine ⟨?_, ?_, ?_⟩ <;> simp [go_sem, gL, kL, renOf, V.obj, Nat.blt, Nat.ble, List.map_append, dv_push])) ?_; simp only [St.at_nil, St.at_cons, lk, Nat.reduceEqDiff, ↓reduceIte, Option.getD_some, Option.getD_none, List.cons_append, List.nil_append, List.append_nil]
 rintro i ⟨h1, h2⟩
 by_cases hi : i < l.length
 ·obtain ⟨r, hr, hrm, -⟩ := get_some hi
  have hget : (l.map rvD)[i]? = some (rvD r) := by simp only [List.getElem?_map, hr, Option.map_some]
  have hf := reviewFault_any h hrise (l.take i) (by simp; omega) (hb r hrm)
  have hsub : List.take (i - 0) (l.map rvD) = (l.take i).map rvD := by simp
  rw [goF_step (rvF x) hr] at h2
  generalize rvF x (l.take i) r = F at h2 hf
  by_cases hF : F = 0
  ·subst hF
   rw [if_neg (by simp)] at h2
   repeat' (first | ((first | refine AW.sreg rfl fun K hK => ?_ | refine AW.sregD hmix rfl fun K hK => ?_ | refine AW.reg rfl ?_ | refine runT_call _ _ [] (fun hv _ => (hf).pure rfl rfl hv _) rfl rfl (dstOk_of rfl) rfl rfl ?_); simp only [go_sem, ↓reduceIte, List.length_map, hget, hsub, hel, List.drop_zero]) | (refine AW.seq_k fun K hK => ?_) | (refine AW.block ?_) | (refine AW.skip ?_; simp only [Then, InBlock]) | (refine AW.cT ?_) | (refine AW.cF ?_) | (refine hK _ ?_; clear hK K) | (with_reducible refine And.intro (?_ : regOk _ _ = true) ?_; kernel_rfl) | (with_reducible refine andI ?_))
   exact ⟨i + 1, ⟨hi, h2⟩, by omega, (Weak.aC hcx (by refine ⟨?_, ?_, ?_⟩ <;> simp [go_sem, gL, kL, renOf, V.obj, Nat.blt, Nat.ble, List.map_append, dv_push]))⟩
  ·rw [if_pos hF] at h2
   subst h2
   have e1 : (F != 0) = true := by simpa using hF
   repeat' (first | ((first | refine AW.sreg rfl fun K hK => ?_ | refine AW.sregD hmix rfl fun K hK => ?_ | refine runT_call _ _ [] (fun hv _ => (hf).pure rfl rfl hv _) rfl rfl (dstOk_of rfl) rfl rfl ?_); simp only [go_sem, ↓reduceIte, List.length_map, hget, hsub, hel, List.drop_zero, e1]) | (refine AW.seq_k fun K hK => ?_) | (refine AW.block ?_) | (refine AW.skip ?_; simp only [Then, InBlock]) | (refine AW.cT ?_) | (refine hK _ ?_; clear hK K) | (with_reducible refine And.intro (?_ : regOk _ _ = true) ?_; kernel_rfl) | (with_reducible refine andI ?_) | (refine AW.ret (Fin.data rfl (by first | (simp only [go_sem]; done) | (simp [go_sem, *]; done) | (simp [go_sem]; omega) | rfl) rfl)))
 ·obtain rfl : i = l.length := by omega
  simp only [List.drop_length, goF] at h2
  subst h2
  repeat' (first | (refine AW.sreg rfl fun K hK => ?_; simp only [go_sem, ↓reduceIte, List.length_map]) | (refine AW.seq_k fun K hK => ?_) | (refine AW.exit ?_; simp only [go_sem, ↓reduceIte]) | (refine AW.cF ?_) | (refine hK _ ?_; clear hK K) | (clear hK K; refine hK _ ?_; clear hK K) | (refine AW.ret (Fin.data rfl (by first | (simp only [go_sem]; done) | (simp [go_sem, *]; done) | (simp [go_sem]; omega) | rfl) rfl)))
end Go.AX
