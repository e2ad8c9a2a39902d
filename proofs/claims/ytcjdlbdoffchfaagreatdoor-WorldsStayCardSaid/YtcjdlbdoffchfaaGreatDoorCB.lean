/- People, places, works: the plain law. -/
import Derived.Test.YtcjdlbdoffchfaaGreatDoorCA
import Derived.Test.YtcjdlbdoffchfaaGreatDoorAx36
import Derived.Test.YtcjdlbdoffchfaaGreatDoorAx38
import Derived.Test.YtcjdlbdoffchfaaGreatDoorAx39
set_option linter.unusedSimpArgs false
set_option linter.unusedVariables false
set_option linter.unnecessarySimpa false
set_option maxRecDepth 1000000
set_option maxHeartbeats 4000000
namespace Go.AX
open Go Go.Proofs Go.RowKit
abbrev Pl := Str × Str
abbrev plD (p : Pl) : D := .agg [.str p.1, .str p.2]
abbrev Nm := Str × Int
abbrev nmD (n : Nm) : D := .agg [.str n.1, .int .i64 n.2]
abbrev Hm := Str × Int × Int
abbrev hmD (h : Hm) : D := .agg [.str h.1, .int .i64 h.2.1, .int .i64 h.2.2]
/-- A person: key, names, homes, mails, advisers. -/
structure Pe where
  key : Str
  names : List Nm
  homes : List Hm
  mails : List Str
  advs : List Str
abbrev peD (p : Pe) : D := .agg [.str p.key, .sl (p.names.map nmD), .sl (p.homes.map hmD), .sl (p.mails.map D.str), .sl (p.advs.map D.str)]
abbrev Wk := Int × List Str
abbrev wkD (w : Wk) : D := .agg [.int .i64 w.1, .sl (w.2.map D.str)]
abbrev Bo := Str × Str
abbrev boD (b : Bo) : D := .agg [.str b.1, .str b.2]
structure Wo where
  pls : List Pl
  pes : List Pe
  wks : List Wk
  bos : List Bo
abbrev woD (w : Wo) : D := .agg [.sl (w.pls.map plD), .sl (w.pes.map peD), .sl (w.wks.map wkD), .sl (w.bos.map boD)]
/-! places -/
/-- The place above one, or none. -/
def par (ps : List Pl) (k : Str) : Str := match ps.find? (fun p => p.1 == k) with
  | some p => p.2
  | none => []
/-- Places have ranks: there are no circles. -/
def Acy (ps : List Pl) : Prop := ∃ r : Str → Nat, (∀ k, r k ≤ 1000) ∧ ∀ p ∈ ps, p.2 ≠ [] → r p.1 < r p.2
def abvN (ps : List Pl) : Nat → Str → List Str
  | 0, _ => []
  | n + 1, k => if par ps k = [] then [] else par ps k :: abvN ps n (par ps k)
theorem par_mem {ps : List Pl} {k : Str} (h : par ps k ≠ []) : (k, par ps k) ∈ ps := by
  unfold par at h ⊢
  cases hx : ps.find? (fun p => p.1 == k) with
  | none => rw [hx] at h; exact absurd rfl h
  | some p =>
    have h1 := List.find?_some hx
    have h2 := List.mem_of_find?_eq_some hx
    simp only [beq_iff_eq] at h1
    rw [← h1]
    exact h2
/-- All reasons of one list are in another one. -/
def SubI (a b : List Int) : Prop := ∀ x ∈ a, x ∈ b
theorem SubI.app {a b c d : List Int} (h1 : SubI a b) (h2 : SubI c d) : SubI (a ++ c) (b ++ d) := fun x hx => by
  rcases List.mem_append.1 hx with hx | hx
  · exact List.mem_append_left _ (h1 x hx)
  · exact List.mem_append_right _ (h2 x hx)
end Go.AX

namespace Go.AX
open Go Go.Proofs Go.RowKit
theorem par_of {ps : List Pl} (hn : (ps.map (·.1)).Nodup) {p : Pl} (hp : p ∈ ps) : par ps p.1 = p.2 := by
  unfold par
  induction ps with
  | nil => simp at hp
  | cons q r ih =>
    simp only [List.map_cons, List.nodup_cons] at hn
    rcases List.mem_cons.1 hp with rfl | hp
    · simp
    · have hne : q.1 ≠ p.1 := fun e => hn.1 (by rw [e]; exact List.mem_map_of_mem hp)
      simp only [List.find?_cons, beq_eq_false_iff_ne.2 hne]
      exact ih hn.2 hp
theorem par_none {ps : List Pl} {k : Str} (h : k ∉ ps.map (·.1)) : par ps k = [] := by
  unfold par
  cases hx : ps.find? (fun p => p.1 == k) with
  | none => rfl
  | some p =>
    have h1 := List.find?_some hx
    simp only [beq_iff_eq] at h1
    exact absurd (List.mem_map.2 ⟨p, List.mem_of_find?_eq_some hx, h1⟩) h
/-- A place is another one, or below it. -/
inductive Ins (ps : List Pl) : Str → Str → Prop
  | refl (a : Str) : Ins ps a a
  | step {a b : Str} (h : par ps a ≠ []) (t : Ins ps (par ps a) b) : Ins ps a b
theorem Ins.trans {ps : List Pl} {a b c : Str} (h : Ins ps a b) (h2 : Ins ps b c) : Ins ps a c := by
  induction h with
  | refl => exact h2
  | step h _ ih => exact .step h (ih h2)
section
variable {ps : List Pl} {into fr : Str}
end
end Go.AX

namespace Go.AX
open Go Go.Proofs Go.RowKit
theorem frz_mprD {hv : Nat → Option O} {keep : Nat → Bool} {id : Nat} {ks vs : List D} (hk : keep id = false) (h : hv id = some (.map ks (dv vs))) : frz hv keep (.mpr id) = .d (.map ks vs) := by
  have h1 : toD hv keep 8 (.mpr id) = some (.map ks vs) := by
    rw [toD]
    simp only [hk, Bool.false_eq_true, if_false, h]
    rw [toDL_dv hv keep 6 vs]
  simp only [frz, hk, Bool.false_eq_true, if_false, h1]
/-- The map of the places above. -/
abbrev upD (ps : List Pl) : D := .map (ps.map fun p => D.str p.1) (ps.map fun p => D.str p.2)
theorem fnd_up (ps : List Pl) (k : Str) : fndK (.str k) (ps.map fun p => D.str p.1) = some ((ps.map (·.1)).findIdx? fun x => k == x) := by
  rw [← fndK_str, List.map_map]
  rfl
theorem up_find {ps : List Pl} (hn : (ps.map (·.1)).Nodup) (k : Str) : (k ∉ ps.map (·.1) ∧ fndK (.str k) (ps.map fun p => D.str p.1) = some none ∧ par ps k = []) ∨ ∃ j, k ∈ ps.map (·.1) ∧ fndK (.str k) (ps.map fun p => D.str p.1) = some (some j) ∧ (dv (ps.map fun p => D.str p.2))[j]? = some (.d (.str (par ps k))) := by
  by_cases h : k ∈ ps.map (·.1)
  · obtain ⟨j, hj⟩ := List.getElem?_of_mem h
    refine .inr ⟨j, h, by rw [fnd_up, findIdx_at hn hj], ?_⟩
    rw [List.getElem?_map] at hj
    obtain ⟨p, hp, rfl⟩ := Option.map_eq_some_iff.1 hj
    rw [par_of hn (List.mem_of_getElem? hp)]
    simp [dv, hp]
  · exact .inl ⟨h, by rw [fnd_up, findIdx_none h], par_none h⟩
theorem rise_nd {α : Type} {f : α → Str} {l : List α} (h : l.Pairwise fun a b => ltS (f a) (f b) = true) : (l.map f).Nodup := by
  have h1 : (l.map f).Pairwise fun a b => ltS a b = true := List.pairwise_map.2 h
  exact List.Pairwise.imp (fun h => ltS_ne h) h1
theorem parentsOf_any (ps : List Pl) (hl : ps.length ≤ 1000) (hn : (ps.map (·.1)).Nodup) : Does Tryz.prog 61 [.d (.sl (ps.map plD))] [] (.d (upD ps)) [] := by
  refine Does.of_AW (n := 20) Tryz.func61 rfl rfl rfl fun cx hcx => ?_
  repeat' (first | (refine AW.sreg rfl fun K hK => ?_; simp only [go_sem, ↓reduceIte, List.length_map]) | (refine AW.seq_k fun K hK => ?_) | (refine AW.block ?_) | (refine hK _ ?_; clear hK K))
  refine AW.loopF (ι := Nat) [3, 7, 8] (fun p => [(9, I p)]) (fun p => [(64, some (O.map ((ps.take p).map fun p => D.str p.1) (dv ((ps.take p).map fun p => D.str p.2))))]) 20 (fun p => p ≤ ps.length) (fun p => ps.length - p) 0 (Nat.zero_le _) (Weak.aC hcx (by refine ⟨?_, ?_, ?_⟩ <;> simp [go_sem, gL, kL, renOf, V.obj, Nat.blt, Nat.ble, List.map_append, dv_push])) ?_; simp only [St.at_nil, St.at_cons, lk, Nat.reduceEqDiff, ↓reduceIte, Option.getD_some, Option.getD_none, List.cons_append, List.nil_append, List.append_nil]
  intro i h1
  by_cases hi : i < ps.length
  · obtain ⟨x, hx, hxm, hxd⟩ := get_some hi
    have hget : (ps.map plD)[i]? = some (plD x) := by simp [hx]
    have htk : ps.take (i + 1) = ps.take i ++ [x] := by rw [List.take_add_one, hx]; rfl
    have hf : fndK (.str x.1) ((ps.take i).map fun p => D.str p.1) = some none := by
      rw [fnd_up, findIdx_none]
      intro hm
      have hn2 : ((ps.take (i + 1)).map (·.1)).Nodup := by
        rw [List.map_take]
        exact hn.sublist (List.take_sublist _ _)
      rw [htk, List.map_append, List.nodup_append] at hn2
      exact hn2.2.2 _ hm x.1 (by simp) rfl
    repeat' (first | ((first | refine AW.sreg rfl fun K hK => ?_ | refine AW.reg rfl ?_); simp only [go_sem, ↓reduceIte, List.length_map, hget, hf]) | (refine AW.seq_k fun K hK => ?_) | (refine AW.block ?_) | (refine AW.skip ?_; simp only [Then, InBlock]) | (refine AW.cT ?_) | (refine hK _ ?_; clear hK K) | (with_reducible refine andI ?_))
    all_goals first | exact ⟨i + 1, hi, by omega, (Weak.aC hcx (by refine ⟨?_, ?_, ?_⟩ <;> simp [go_sem, gL, kL, renOf, V.obj, Nat.blt, Nat.ble, List.map_append, dv_push, htk]))⟩ | trace_state
  · obtain rfl : i = ps.length := by omega
    rw [List.take_length]
    repeat' (first | (refine AW.sreg rfl fun K hK => ?_; simp only [go_sem, ↓reduceIte, List.length_map]) | (refine AW.seq_k fun K hK => ?_) | (refine AW.exit ?_; simp only [go_sem, ↓reduceIte]) | (refine AW.cF ?_) | (refine hK _ ?_; clear hK K) | (clear hK K; refine hK _ ?_; clear hK K))
    exact AW.ret (Fin.data rfl (frz_mprD rfl rfl) rfl)
theorem has_any {ps : List Pl} (hn : (ps.map (·.1)).Nodup) (k : Str) : Does Tryz.prog 62 [.d (upD ps), S k] [] (B (decide (k ∈ ps.map (·.1)))) [] := by
  have hu := up_find hn k
  refine Does.of_AW (n := 14) Tryz.func62 rfl rfl rfl fun cx hcx => ?_
  rcases hu with ⟨h1, h2, -⟩ | ⟨j, h1, h2, h3⟩
  · rw [decide_eq_false h1]
    repeat' (first | (refine AW.sreg rfl fun K hK => ?_; simp only [go_sem, ↓reduceIte, h2]) | (refine hK _ ?_; clear hK K) | (refine AW.ret (Fin.data rfl (by first | (simp only [go_sem]; done) | (simp [go_sem, *]; done) | (simp [go_sem]; omega) | rfl) rfl)))
  · rw [decide_eq_true h1]
    simp only [dv] at h3
    repeat' (first | (refine AW.sreg rfl fun K hK => ?_; simp only [go_sem, ↓reduceIte, h2, h3]) | (refine hK _ ?_; clear hK K) | (refine AW.ret (Fin.data rfl (by first | (simp only [go_sem]; done) | (simp [go_sem, *]; done) | (simp [go_sem]; omega) | rfl) rfl)))
/-- Places that are right. -/
structure OkPl (ps : List Pl) : Prop where
  len : ps.length ≤ 200
  ris : ps.Pairwise fun a b => ltS a.1 b.1 = true
  key : ∀ p ∈ ps, keyB p.1 = true ∧ p.1.length ≤ 1000
  par : ∀ p ∈ ps, p.2 = [] ∨ p.2 ∈ ps.map (·.1)
  acy : Acy ps
theorem OkPl.nd {ps : List Pl} (h : OkPl ps) : (ps.map (·.1)).Nodup := rise_nd h.ris
theorem OkPl.pk {ps : List Pl} (h : OkPl ps) {p : Pl} (hp : p ∈ ps) (hne : p.2 ≠ []) : keyB p.2 = true ∧ p.2.length ≤ 1000 := by
  rcases h.par p hp with e | e
  · exact absurd e hne
  · obtain ⟨q, hq, e⟩ := List.mem_map.1 e
    rw [← e]
    exact h.key q hq
theorem rise_at2 {α : Type} {f : α → Str} {l : List α} (h : l.Pairwise fun a b => ltS (f a) (f b) = true) {i j : Nat} {x y : α} (hi : l[i]? = some x) (hj : l[j]? = some y) (hij : i < j) : (Op.bytesLess (f y) (f x) || f y == f x) = false := by
  rw [List.pairwise_iff_getElem] at h
  obtain ⟨a, rfl⟩ := List.getElem?_eq_some_iff.1 hi
  obtain ⟨b, rfl⟩ := List.getElem?_eq_some_iff.1 hj
  have h1 := h i j a b hij
  have h2 : Op.bytesLess (f l[j]) (f l[i]) = false := ltS_asymm h1
  have h3 : (f l[j] == f l[i]) = false := by
    have := ltS_ne h1
    simpa using fun e => this e.symm
  rw [h2, h3]
  rfl
theorem placesFault_ok {ps : List Pl} (h : OkPl ps) : Does Tryz.prog 101 [.d (.sl (ps.map plD))] [] (I 0) [] := by
  have hl := h.len
  have hpo := parentsOf_any ps (by omega) h.nd
  refine Does.of_AW (n := 88) Tryz.func101 rfl rfl rfl fun cx hcx => ?_
  repeat' (first | (refine AW.sreg rfl fun K hK => ?_; simp only [go_sem, ↓reduceIte, List.length_map]) | (refine AW.seq_k fun K hK => ?_) | (refine AW.block ?_) | (refine AW.skip ?_; simp only [Then, InBlock]) | (refine AW.cF ?_) | (refine hK _ ?_; clear hK K))
  refine AW.loopF (ι := Nat) [0, 14, 15] (fun p => [(16, I p)]) (fun p => []) 20 (fun p => p ≤ ps.length) (fun p => ps.length - p) 0 (Nat.zero_le _) (Weak.aC hcx (by refine ⟨?_, ?_, ?_⟩ <;> simp [go_sem, gL, kL, renOf, V.obj, Nat.blt, Nat.ble, List.map_append, dv_push])) ?_; simp only [St.at_nil, St.at_cons, lk, Nat.reduceEqDiff, ↓reduceIte, Option.getD_some, Option.getD_none, List.cons_append, List.nil_append, List.append_nil]
  intro i h1
  by_cases hi : i < ps.length
  · obtain ⟨x, hx, hxm, hxd⟩ := get_some hi
    have hget : (ps.map plD)[i]? = some (plD x) := by simp [hx]
    obtain ⟨k1, k2⟩ := h.key x hxm
    have hk := isKey_any x.1 (by omega)
    rw [k1] at hk
    by_cases hp : x.2 = []
    · have e0 : (x.2 == []) = true := by simp [hp]
      rcases i with _ | j
      · repeat' (first | ((first | refine AW.sreg rfl fun K hK => ?_ | refine AW.sregD hmix rfl fun K hK => ?_ | refine AW.reg rfl ?_ | refine run_call _ _ _ ((hk).pure rfl rfl _ _) rfl rfl (dstOk_of rfl) rfl rfl rfl ?_); simp only [go_sem, ↓reduceIte, List.length_map, hget, e0]) | (refine AW.seq_k fun K hK => ?_) | (refine AW.block ?_) | (refine AW.skip ?_; simp only [Then, InBlock]) | (refine AW.cT ?_) | (refine AW.cF ?_) | (refine hK _ ?_; clear hK K) | (refine stepBT_split (fun h => ?_) (fun h => ?_) <;> (have hb0 := h) <;> (try simp only [Bool.not_eq_true', Bool.not_eq_false'] at hb0) <;> (try simp only [decide_eq_true_eq, decide_eq_false_iff_not, Bool.not_eq_true', Bool.not_eq_false', Bool.not_eq_eq_eq_not, Bool.not_true, Bool.not_false, beq_iff_eq, bne_iff_ne, beq_eq_false_iff_ne, ne_eq, Bool.and_eq_true, Bool.or_eq_true, Bool.or_eq_false_iff] at h) <;> simp only [go_sem, ↓reduceIte, hb0, h, decide_true, decide_false, List.length_map, hget, e0] <;> (try clear hb0)) | (with_reducible refine And.intro (?_ : regOk _ _ = true) ?_; kernel_rfl) | (with_reducible refine andI ?_) | (exfalso; omega))
        all_goals first | (exfalso; omega) | exact ⟨_ + 1, hi, by omega, (Weak.aC hcx (by refine ⟨?_, ?_, ?_⟩ <;> simp [go_sem, gL, kL, renOf, V.obj, Nat.blt, Nat.ble, List.map_append, dv_push]))⟩ | trace_state
      · obtain ⟨y, hy, hym, hyd⟩ := get_some (show j < ps.length by omega)
        have hget2 : (ps.map plD)[(((j + 1 : Nat) : Int) - 1).toNat]? = some (plD y) := by
          rw [show (((j + 1 : Nat) : Int) - 1).toNat = j by omega]; simp [hy]
        have hlt := rise_at2 h.ris hy hx (Nat.lt_succ_self j)
        repeat' (first | ((first | refine AW.sreg rfl fun K hK => ?_ | refine AW.sregD hmix rfl fun K hK => ?_ | refine AW.reg rfl ?_ | refine run_call _ _ _ ((hk).pure rfl rfl _ _) rfl rfl (dstOk_of rfl) rfl rfl rfl ?_); simp only [go_sem, ↓reduceIte, List.length_map, hget, hget2, hlt, e0]) | (refine AW.seq_k fun K hK => ?_) | (refine AW.block ?_) | (refine AW.skip ?_; simp only [Then, InBlock]) | (refine AW.cT ?_) | (refine AW.cF ?_) | (refine hK _ ?_; clear hK K) | (refine stepBT_split (fun h => ?_) (fun h => ?_) <;> (have hb0 := h) <;> (try simp only [Bool.not_eq_true', Bool.not_eq_false'] at hb0) <;> (try simp only [decide_eq_true_eq, decide_eq_false_iff_not, Bool.not_eq_true', Bool.not_eq_false', Bool.not_eq_eq_eq_not, Bool.not_true, Bool.not_false, beq_iff_eq, bne_iff_ne, beq_eq_false_iff_ne, ne_eq, Bool.and_eq_true, Bool.or_eq_true, Bool.or_eq_false_iff] at h) <;> simp only [go_sem, ↓reduceIte, hb0, h, decide_true, decide_false, List.length_map, hget, hget2, hlt, e0] <;> (try clear hb0)) | (with_reducible refine And.intro (?_ : regOk _ _ = true) ?_; kernel_rfl) | (with_reducible refine andI ?_) | (exfalso; omega))
        all_goals first | (exfalso; omega) | exact ⟨_ + 1, hi, by omega, (Weak.aC hcx (by refine ⟨?_, ?_, ?_⟩ <;> simp [go_sem, gL, kL, renOf, V.obj, Nat.blt, Nat.ble, List.map_append, dv_push]))⟩ | trace_state
    · have e0 : (x.2 == []) = false := by simp [hp]
      obtain ⟨k3, k4⟩ := h.pk hxm hp
      have hk2 := isKey_any x.2 (by omega)
      rw [k3] at hk2
      rcases i with _ | j
      · repeat' (first | ((first | refine AW.sreg rfl fun K hK => ?_ | refine AW.sregD hmix rfl fun K hK => ?_ | refine AW.reg rfl ?_ | refine run_call _ _ _ ((hk).pure rfl rfl _ _) rfl rfl (dstOk_of rfl) rfl rfl rfl ?_ | refine run_call _ _ _ ((hk2).pure rfl rfl _ _) rfl rfl (dstOk_of rfl) rfl rfl rfl ?_); simp only [go_sem, ↓reduceIte, List.length_map, hget, e0]) | (refine AW.seq_k fun K hK => ?_) | (refine AW.block ?_) | (refine AW.skip ?_; simp only [Then, InBlock]) | (refine AW.cT ?_) | (refine AW.cF ?_) | (refine hK _ ?_; clear hK K) | (refine stepBT_split (fun h => ?_) (fun h => ?_) <;> (have hb0 := h) <;> (try simp only [Bool.not_eq_true', Bool.not_eq_false'] at hb0) <;> (try simp only [decide_eq_true_eq, decide_eq_false_iff_not, Bool.not_eq_true', Bool.not_eq_false', Bool.not_eq_eq_eq_not, Bool.not_true, Bool.not_false, beq_iff_eq, bne_iff_ne, beq_eq_false_iff_ne, ne_eq, Bool.and_eq_true, Bool.or_eq_true, Bool.or_eq_false_iff] at h) <;> simp only [go_sem, ↓reduceIte, hb0, h, decide_true, decide_false, List.length_map, hget, e0] <;> (try clear hb0)) | (with_reducible refine And.intro (?_ : regOk _ _ = true) ?_; kernel_rfl) | (with_reducible refine andI ?_) | (exfalso; omega))
        all_goals first | (exfalso; omega) | exact ⟨_ + 1, hi, by omega, (Weak.aC hcx (by refine ⟨?_, ?_, ?_⟩ <;> simp [go_sem, gL, kL, renOf, V.obj, Nat.blt, Nat.ble, List.map_append, dv_push]))⟩ | trace_state
      · obtain ⟨y, hy, hym, hyd⟩ := get_some (show j < ps.length by omega)
        have hget2 : (ps.map plD)[(((j + 1 : Nat) : Int) - 1).toNat]? = some (plD y) := by
          rw [show (((j + 1 : Nat) : Int) - 1).toNat = j by omega]; simp [hy]
        have hlt := rise_at2 h.ris hy hx (Nat.lt_succ_self j)
        repeat' (first | ((first | refine AW.sreg rfl fun K hK => ?_ | refine AW.sregD hmix rfl fun K hK => ?_ | refine AW.reg rfl ?_ | refine run_call _ _ _ ((hk).pure rfl rfl _ _) rfl rfl (dstOk_of rfl) rfl rfl rfl ?_ | refine run_call _ _ _ ((hk2).pure rfl rfl _ _) rfl rfl (dstOk_of rfl) rfl rfl rfl ?_); simp only [go_sem, ↓reduceIte, List.length_map, hget, hget2, hlt, e0]) | (refine AW.seq_k fun K hK => ?_) | (refine AW.block ?_) | (refine AW.skip ?_; simp only [Then, InBlock]) | (refine AW.cT ?_) | (refine AW.cF ?_) | (refine hK _ ?_; clear hK K) | (refine stepBT_split (fun h => ?_) (fun h => ?_) <;> (have hb0 := h) <;> (try simp only [Bool.not_eq_true', Bool.not_eq_false'] at hb0) <;> (try simp only [decide_eq_true_eq, decide_eq_false_iff_not, Bool.not_eq_true', Bool.not_eq_false', Bool.not_eq_eq_eq_not, Bool.not_true, Bool.not_false, beq_iff_eq, bne_iff_ne, beq_eq_false_iff_ne, ne_eq, Bool.and_eq_true, Bool.or_eq_true, Bool.or_eq_false_iff] at h) <;> simp only [go_sem, ↓reduceIte, hb0, h, decide_true, decide_false, List.length_map, hget, hget2, hlt, e0] <;> (try clear hb0)) | (with_reducible refine And.intro (?_ : regOk _ _ = true) ?_; kernel_rfl) | (with_reducible refine andI ?_) | (exfalso; omega))
        all_goals first | (exfalso; omega) | exact ⟨_ + 1, hi, by omega, (Weak.aC hcx (by refine ⟨?_, ?_, ?_⟩ <;> simp [go_sem, gL, kL, renOf, V.obj, Nat.blt, Nat.ble, List.map_append, dv_push]))⟩ | trace_state
  · obtain rfl : i = ps.length := by omega
    repeat' (first | ((first | refine AW.sreg rfl fun K hK => ?_ | refine run_call _ _ _ ((hpo).pure rfl rfl _ _) rfl rfl (dstOk_of rfl) rfl rfl rfl ?_); simp only [go_sem, ↓reduceIte, List.length_map]) | (refine AW.seq_k fun K hK => ?_) | (refine AW.block ?_) | (refine AW.exit ?_; simp only [go_sem, ↓reduceIte]) | (refine AW.cF ?_) | (refine hK _ ?_; clear hK K) | (clear hK K; refine hK _ ?_; clear hK K))
    refine AW.loopF (ι := Nat) [0, 5, 50, 51] (fun p => [(52, I p)]) (fun p => []) 40 (fun p => p ≤ ps.length) (fun p => ps.length - p) 0 (Nat.zero_le _) (Weak.aC hcx (by refine ⟨?_, ?_, ?_⟩ <;> simp [go_sem, gL, kL, renOf, V.obj, Nat.blt, Nat.ble, List.map_append, dv_push])) ?_; simp only [St.at_nil, St.at_cons, lk, Nat.reduceEqDiff, ↓reduceIte, Option.getD_some, Option.getD_none, List.cons_append, List.nil_append, List.append_nil]
    intro i h1
    by_cases hi : i < ps.length
    · obtain ⟨x, hx, hxm, hxd⟩ := get_some hi
      have hget : (ps.map plD)[i]? = some (plD x) := by simp [hx]
      have hha := has_any h.nd x.2
      by_cases hp : x.2 = []
      · have e0 : (x.2 == []) = true := by simp [hp]
        repeat' (first | ((first | refine AW.sreg rfl fun K hK => ?_ | refine AW.reg rfl ?_); simp only [go_sem, ↓reduceIte, List.length_map, hget, e0]) | (refine AW.seq_k fun K hK => ?_) | (refine AW.block ?_) | (refine AW.skip ?_; simp only [Then, InBlock]) | (refine AW.cT ?_) | (refine AW.cF ?_) | (refine hK _ ?_; clear hK K) | (with_reducible refine andI ?_))
        all_goals first | (exfalso; omega) | exact ⟨_ + 1, hi, by omega, (Weak.aC hcx (by refine ⟨?_, ?_, ?_⟩ <;> simp [go_sem, gL, kL, renOf, V.obj, Nat.blt, Nat.ble, List.map_append, dv_push]))⟩ | trace_state
      · have e0 : (x.2 == []) = false := by simp [hp]
        have hin : x.2 ∈ ps.map (·.1) := (h.par x hxm).resolve_left hp
        rw [decide_eq_true hin] at hha
        repeat' (first | ((first | refine AW.sreg rfl fun K hK => ?_ | refine AW.reg rfl ?_ | refine run_call _ _ _ ((hha).pure rfl rfl _ _) rfl rfl (dstOk_of rfl) rfl rfl rfl ?_); simp only [go_sem, ↓reduceIte, List.length_map, hget, e0]) | (refine AW.seq_k fun K hK => ?_) | (refine AW.block ?_) | (refine AW.skip ?_; simp only [Then, InBlock]) | (refine AW.cT ?_) | (refine AW.cF ?_) | (refine hK _ ?_; clear hK K) | (with_reducible refine andI ?_))
        all_goals first | (exfalso; omega) | exact ⟨_ + 1, hi, by omega, (Weak.aC hcx (by refine ⟨?_, ?_, ?_⟩ <;> simp [go_sem, gL, kL, renOf, V.obj, Nat.blt, Nat.ble, List.map_append, dv_push]))⟩ | trace_state
    · obtain rfl : i = ps.length := by omega
      repeat' (first | (refine AW.sreg rfl fun K hK => ?_; simp only [go_sem, ↓reduceIte, List.length_map]) | (refine AW.seq_k fun K hK => ?_) | (refine AW.block ?_) | (refine AW.exit ?_; simp only [go_sem, ↓reduceIte]) | (refine AW.cF ?_) | (refine hK _ ?_; clear hK K) | (clear hK K; refine hK _ ?_; clear hK K))
      refine AW.loopF (ι := Nat) [0, 5, 67, 68] (fun p => [(69, I p)]) (fun p => []) 60 (fun p => p ≤ ps.length) (fun p => ps.length - p) 0 (Nat.zero_le _) (Weak.aC hcx (by refine ⟨?_, ?_, ?_⟩ <;> simp [go_sem, gL, kL, renOf, V.obj, Nat.blt, Nat.ble, List.map_append, dv_push])) ?_; simp only [St.at_nil, St.at_cons, lk, Nat.reduceEqDiff, ↓reduceIte, Option.getD_some, Option.getD_none, List.cons_append, List.nil_append, List.append_nil]
      intro i h1
      by_cases hi : i < ps.length
      · obtain ⟨x, hx, hxm, hxd⟩ := get_some hi
        have hget : (ps.map plD)[i]? = some (plD x) := by simp [hx]
        obtain ⟨r, hr, hrp⟩ := h.acy
        have hkn : x.1 ≠ [] := by
          intro e
          have := (h.key x hxm).1
          rw [e] at this
          cases this
        repeat' (first | (refine AW.sreg rfl fun K hK => ?_; simp only [go_sem, ↓reduceIte, List.length_map, hget]) | (refine AW.seq_k fun K hK => ?_) | (refine AW.block ?_) | (refine AW.skip ?_; simp only [Then, InBlock]) | (refine AW.cT ?_) | (refine hK _ ?_; clear hK K) | (with_reducible refine andI ?_))
        have h0 : (([] : Str) = [] ∨ r x.1 < r []) := .inl rfl
        have hi0 : x.2 = [] ∨ r x.1 < r x.2 := by
          by_cases e : x.2 = []
          · exact .inl e
          · exact .inr (hrp x hxm e)
        refine AW.loopF (ι := Nat × Str) [0, 5, 9, 67, 68, 69, 76] (fun p => [(10, S p.2), (77, I p.1)]) (fun p => [(4032, some (O.box 60 [S x.1, S x.2]))]) 80 (fun p => p.1 ≤ ps.length ∧ (p.2 = [] ∨ r x.1 < r p.2)) (fun p => ps.length - p.1) (0, x.2) ⟨Nat.zero_le _, hi0⟩ (Weak.aC hcx (by refine ⟨?_, ?_, ?_⟩ <;> simp [go_sem, gL, kL, renOf, V.obj, Nat.blt, Nat.ble, List.map_append, dv_push])) ?_; simp only [St.at_nil, St.at_cons, lk, Nat.reduceEqDiff, ↓reduceIte, Option.getD_some, Option.getD_none, List.cons_append, List.nil_append, List.append_nil]
        rintro ⟨k, a⟩ ⟨g1, g2⟩
        dsimp only at g1 g2 ⊢
        by_cases hk : k < ps.length
        · have e1 : (a == x.1) = false := by
            rw [beq_eq_false_iff_ne]
            rintro rfl
            rcases g2 with e | e
            · exact hkn e
            · omega
          rcases up_find h.nd a with ⟨u1, u2, u3⟩ | ⟨j, u1, u2, u3⟩
          · repeat' (first | ((first | refine AW.sreg rfl fun K hK => ?_ | refine AW.reg rfl ?_); simp only [go_sem, ↓reduceIte, List.length_map, e1, u2]) | (refine AW.seq_k fun K hK => ?_) | (refine AW.block ?_) | (refine AW.skip ?_; simp only [Then, InBlock]) | (refine AW.cT ?_) | (refine AW.cF ?_) | (refine hK _ ?_; clear hK K) | (with_reducible refine andI ?_))
            all_goals first | (exfalso; omega) | exact ⟨(k + 1, []), ⟨hk, .inl rfl⟩, by simp only; omega, (Weak.aC hcx (by refine ⟨?_, ?_, ?_⟩ <;> simp [go_sem, gL, kL, renOf, V.obj, Nat.blt, Nat.ble, List.map_append, dv_push]))⟩ | trace_state
          · simp only [dv] at u3
            have g3 : par ps a = [] ∨ r x.1 < r (par ps a) := by
              by_cases e : par ps a = []
              · exact .inl e
              · have h2 := hrp _ (par_mem e) e
                simp only at h2
                rcases g2 with e2 | e2
                · exfalso
                  subst e2
                  obtain ⟨q, hq, e3⟩ := List.mem_map.1 u1
                  have := (h.key q hq).1
                  rw [e3] at this
                  cases this
                · exact .inr (by omega)
            repeat' (first | ((first | refine AW.sreg rfl fun K hK => ?_ | refine AW.reg rfl ?_); simp only [go_sem, ↓reduceIte, List.length_map, e1, u2, u3]) | (refine AW.seq_k fun K hK => ?_) | (refine AW.block ?_) | (refine AW.skip ?_; simp only [Then, InBlock]) | (refine AW.cT ?_) | (refine AW.cF ?_) | (refine hK _ ?_; clear hK K) | (with_reducible refine andI ?_))
            all_goals first | (exfalso; omega) | exact ⟨(k + 1, par ps a), ⟨hk, g3⟩, by simp only; omega, (Weak.aC hcx (by refine ⟨?_, ?_, ?_⟩ <;> simp [go_sem, gL, kL, renOf, V.obj, Nat.blt, Nat.ble, List.map_append, dv_push]))⟩ | trace_state
        · obtain rfl : k = ps.length := by omega
          repeat' (first | ((first | refine AW.sreg rfl fun K hK => ?_ | refine AW.reg rfl ?_); simp only [go_sem, ↓reduceIte, List.length_map]) | (refine AW.seq_k fun K hK => ?_) | (refine AW.exit ?_; simp only [go_sem, ↓reduceIte]) | (refine AW.cF ?_) | (refine hK _ ?_; clear hK K) | (clear hK K; refine hK _ ?_; clear hK K) | (with_reducible refine andI ?_))
          exact ⟨i + 1, hi, by omega, (Weak.aC hcx (by refine ⟨?_, ?_, ?_⟩ <;> simp [go_sem, gL, kL, renOf, V.obj, Nat.blt, Nat.ble, List.map_append, dv_push]))⟩
      · obtain rfl : i = ps.length := by omega
        repeat' (first | (refine AW.sreg rfl fun K hK => ?_; simp only [go_sem, ↓reduceIte, List.length_map]) | (refine AW.seq_k fun K hK => ?_) | (refine AW.exit ?_; simp only [go_sem, ↓reduceIte]) | (refine AW.cF ?_) | (refine hK _ ?_; clear hK K) | (clear hK K; refine hK _ ?_; clear hK K) | (refine AW.ret (Fin.data rfl (by first | (simp only [go_sem]; done) | (simp [go_sem, *]; done) | (simp [go_sem]; omega) | rfl) rfl)))
end Go.AX

namespace Go.AX
open Go Go.Proofs Go.RowKit
def EZ : Str := [195, 137, 109, 105, 108, 101, 32, 90, 111, 108]
def tblP : List (Nat × List V × V) := [(316, [.d (.str EZ)], .d (.bool true))]
theorem tblP_ok : TblOk Tryz.prog tblP := by
  intro e he
  simp only [tblP, List.mem_cons, List.not_mem_nil, or_false] at he
  subst he
  exact ⟨(show Lib.validD EZ = true from by kernel_rfl) ▸ valid_any _ (by simp [EZ]), rfl, rfl⟩
def SP (P : Program) : Orc := orc2 (tblT tblP) (SO P)
theorem SP_ok : OrcOk Tryz.prog (SP Tryz.prog) := orc2_ok (tblT_ok tblP_ok) SO_ok
def CP (P : Program) : Orc := evF P (SP P) (fun _ => false) 10000 30
theorem CP_ok : OrcOk Tryz.prog (CP Tryz.prog) := evF_ok SP_ok hmix 30
/-- Names that are right. -/
def NG : List Str := [[65, 110, 110, 32, 76, 101, 101], [66, 111, 98, 32, 66, 46, 32, 82, 97, 121], [67, 105, 100, 32, 77, 111, 101], [65, 110, 110, 32, 82, 111, 101], [97, 110, 110, 32, 108, 101, 101], [68, 101, 101, 44, 32, 68, 46], [69, 118, 101, 32, 118, 97, 110, 32, 82, 97, 121], [74, 101, 97, 110, 45, 76, 117, 99, 32, 100, 101, 32, 108, 97, 32, 67, 114, 117, 122], [80, 108, 97, 116, 111], EZ, List.replicate 100 110]
theorem plainG : ∀ s ∈ NG, Does Tryz.prog 285 [S s] [] (B true) [] := by
  have h : NG.all (fun s => evalsTo Tryz.prog (CP Tryz.prog) 285 [S s] (B true)) = true := by kernel_rfl
  intro s hs
  exact evalsTo_ok CP_ok hmix (List.all_eq_true.1 h s hs)
theorem NG_len : ∀ s ∈ NG, s ≠ [] ∧ s.length ≤ 100 := by decide
def K7 : List Str := [[97, 110, 110], [98, 111, 98], [99, 105, 100], [100, 101, 101], [101, 118, 101], [102, 97, 121], [103, 117, 115]]
theorem K7_key : ∀ s ∈ K7, keyB s = true ∧ s.length ≤ 1000 := by decide
def ZS : Str := [122, 64, 115, 104, 97, 114, 101, 100]
/-- Mails that are right. -/
def MG : List Str := (K7.map fun k => k ++ [64, 120]) ++ [ZS]
theorem mailG : ∀ s ∈ MG, Does Tryz.prog 286 [S s] [] (B true) [] := by
  have h : MG.all (fun s => evalsTo Tryz.prog (CP Tryz.prog) 286 [S s] (B true)) = true := by kernel_rfl
  intro s hs
  exact evalsTo_ok CP_ok hmix (List.all_eq_true.1 h s hs)
def cpH (a b : Hm) : Int := orI [cmpI a.2.1 b.2.1, Lib.compareBytes a.1 b.1, cmpI a.2.2 b.2.2]
theorem compareHomes_any (a b : Hm) : Does Tryz.prog 135 [.d (hmD a), .d (hmD b)] [] (I (cpH a b)) [] := by
  have hor := cmpOr_any [cmpI a.2.1 b.2.1, Lib.compareBytes a.1 b.1, cmpI a.2.2 b.2.2] (by simp)
  obtain ⟨ap, af, at_⟩ := a
  obtain ⟨bp, bf, bt⟩ := b
  unfold cpH
  generalize orI _ = v at *
  refine Does.of_AW (n := 22) Tryz.func135 rfl rfl rfl fun cx hcx => ?_
  repeat' (first | ((first | refine AW.sreg rfl fun K hK => ?_ | refine AW.sregD hmix rfl fun K hK => ?_ | refine runT_call _ _ [] (fun hv _ => (compareStr_any _ _).pure rfl rfl hv _) rfl rfl (dstOk_of rfl) rfl rfl ?_ | refine runT_call _ _ [] (fun hv _ => (compare_int _ _).pure rfl rfl hv _) rfl rfl (dstOk_of rfl) rfl rfl ?_ | refine runT_call _ _ [1152] (fun hv hag => (hor).lend (by repeat' (first | exact frzL_nil | refine frzL_cons (by first | exact frz_d | exact frz_slr rfl ((hag 1152 (by simp)).trans rfl) (by first | (simp; done) | (simp; omega) | (simp [*]; done) | fail) | rfl) ?_)) rfl rfl rfl) rfl rfl (dstOk_of rfl) rfl rfl ?_); simp only [go_sem, ↓reduceIte]) | (refine hK _ ?_; clear hK K) | (with_reducible refine And.intro (?_ : regOk _ _ = true) ?_; kernel_rfl))
  all_goals first | exact AW.ret (Fin.data rfl (by simp [go_sem]) rfl) | trace_state
def cpB (a b : Bo) : Int := orI [Lib.compareBytes a.1 b.1, Lib.compareBytes a.2 b.2]
theorem compareBonds_any (a b : Bo) : Does Tryz.prog 146 [.d (boD a), .d (boD b)] [] (I (cpB a b)) [] := by
  have hor := cmpOr_any [Lib.compareBytes a.1 b.1, Lib.compareBytes a.2 b.2] (by simp)
  obtain ⟨a1, a2⟩ := a
  obtain ⟨b1, b2⟩ := b
  unfold cpB
  generalize orI _ = v at *
  refine Does.of_AW (n := 17) Tryz.func146 rfl rfl rfl fun cx hcx => ?_
  repeat' (first | ((first | refine AW.sreg rfl fun K hK => ?_ | refine AW.sregD hmix rfl fun K hK => ?_ | refine runT_call _ _ [] (fun hv _ => (compareStr_any _ _).pure rfl rfl hv _) rfl rfl (dstOk_of rfl) rfl rfl ?_ | refine runT_call _ _ [832] (fun hv hag => (hor).lend (by repeat' (first | exact frzL_nil | refine frzL_cons (by first | exact frz_d | exact frz_slr rfl ((hag 832 (by simp)).trans rfl) (by first | (simp; done) | (simp; omega) | (simp [*]; done) | fail) | rfl) ?_)) rfl rfl rfl) rfl rfl (dstOk_of rfl) rfl rfl ?_); simp only [go_sem, ↓reduceIte]) | (refine hK _ ?_; clear hK K) | (with_reducible refine And.intro (?_ : regOk _ _ = true) ?_; kernel_rfl))
  all_goals first | exact AW.ret (Fin.data rfl (by simp [go_sem]) rfl) | trace_state
theorem isNaN_str (x : Str) : Does Tryz.prog 227 [S x] [] (B false) [] := by
  refine Does.of_AW (n := 6) Tryz.func227 rfl rfl rfl fun cx hcx => ?_
  repeat' (first | (refine AW.sreg rfl fun K hK => ?_; simp only [go_sem, ↓reduceIte]) | (refine hK _ ?_; clear hK K) | (refine AW.ret (Fin.data rfl (by first | (simp only [go_sem]; done) | (simp [go_sem, *]; done) | (simp [go_sem]; omega) | rfl) rfl)))
theorem compare_str (x y : Str) : Does Tryz.prog 173 [S x, S y] [] (I (Lib.compareBytes x y)) [] := by
  have hl : ∀ a b, Op.bytesLess a b = ltS a b := fun _ _ => rfl
  rcases cmpB_cases x y with ⟨h1, h2, h3⟩ | ⟨h1, h2, h3⟩ | ⟨h2, h3⟩
  · rw [h3]
    refine Does.of_AW (n := 20) Tryz.func173 rfl rfl rfl fun cx hcx => ?_
    repeat' (first | ((first | refine AW.sreg rfl fun K hK => ?_ | refine run_call _ _ _ ((isNaN_str _).pure rfl rfl _ _) rfl rfl (dstOk_of rfl) rfl rfl rfl ?_); simp only [go_sem, ↓reduceIte, hl, h1, h2]) | (refine AW.seq_k fun K hK => ?_) | (refine AW.skip ?_; simp only [Then, InBlock]) | (refine AW.cT ?_) | (refine AW.cF ?_) | (refine hK _ ?_; clear hK K) | (refine AW.ret (Fin.data rfl (by first | (simp only [go_sem]; done) | (simp [go_sem, *]; done) | (simp [go_sem]; omega) | rfl) rfl)))
  · rw [h3]
    refine Does.of_AW (n := 20) Tryz.func173 rfl rfl rfl fun cx hcx => ?_
    repeat' (first | ((first | refine AW.sreg rfl fun K hK => ?_ | refine run_call _ _ _ ((isNaN_str _).pure rfl rfl _ _) rfl rfl (dstOk_of rfl) rfl rfl rfl ?_); simp only [go_sem, ↓reduceIte, hl, h1, h2, Bool.or_false]) | (refine AW.seq_k fun K hK => ?_) | (refine AW.skip ?_; simp only [Then, InBlock]) | (refine AW.cT ?_) | (refine AW.cF ?_) | (refine hK _ ?_; clear hK K) | (refine AW.ret (Fin.data rfl (by first | (simp only [go_sem]; done) | (simp [go_sem, *]; done) | (simp [go_sem]; omega) | rfl) rfl)))
  · rw [h3]
    subst h2
    refine Does.of_AW (n := 20) Tryz.func173 rfl rfl rfl fun cx hcx => ?_
    repeat' (first | ((first | refine AW.sreg rfl fun K hK => ?_ | refine run_call _ _ _ ((isNaN_str _).pure rfl rfl _ _) rfl rfl (dstOk_of rfl) rfl rfl rfl ?_); simp only [go_sem, ↓reduceIte, hl, ltS_irrefl, Bool.or_true]) | (refine AW.seq_k fun K hK => ?_) | (refine AW.skip ?_; simp only [Then, InBlock]) | (refine AW.cF ?_) | (refine hK _ ?_; clear hK K) | (refine AW.ret (Fin.data rfl (by first | (simp only [go_sem]; done) | (simp [go_sem, *]; done) | (simp [go_sem]; omega) | rfl) rfl)))
def cmpL : List Str → List Str → Int
  | [], [] => 0
  | [], _ :: _ => -1
  | _ :: _, [] => 1
  | a :: x, b :: y => if Lib.compareBytes a b ≠ 0 then Lib.compareBytes a b else cmpL x y
theorem compareL_any (xs ys : List Str) (hx : xs.length ≤ 1000) (hy : ys.length ≤ 1000) : Does Tryz.prog 99 [.d (.sl (xs.map D.str)), .d (.sl (ys.map D.str))] [] (I (cmpL xs ys)) [] := by
  generalize hR : cmpL xs ys = R
  refine Does.of_AW (n := 36) Tryz.func99 rfl rfl rfl fun cx hcx => ?_
  repeat' (first | (refine AW.sreg rfl fun K hK => ?_; simp only [go_sem, ↓reduceIte, List.length_map]) | (refine AW.seq_k fun K hK => ?_) | (refine AW.block ?_) | (refine hK _ ?_; clear hK K))
  refine AW.loopF (ι := Nat) [0, 1, 9, 10] (fun p => [(11, I p)]) (fun p => []) 20 (fun p => p ≤ xs.length ∧ cmpL (xs.drop p) (ys.drop p) = R ∧ p ≤ ys.length) (fun p => xs.length - p) 0 ⟨Nat.zero_le _, hR, Nat.zero_le _⟩ (Weak.aC hcx (by refine ⟨?_, ?_, ?_⟩ <;> simp [go_sem, gL, kL, renOf, V.obj, Nat.blt, Nat.ble, List.map_append, dv_push])) ?_; simp only [St.at_nil, St.at_cons, lk, Nat.reduceEqDiff, ↓reduceIte, Option.getD_some, Option.getD_none, List.cons_append, List.nil_append, List.append_nil]
  rintro i ⟨h1, h2, h3⟩
  by_cases hi : i < xs.length
  · obtain ⟨x, hxx, hxm, hxd⟩ := get_some hi
    have hget : (xs.map D.str)[i]? = some (.str x) := by simp [hxx]
    rw [hxd] at h2
    by_cases hj : i < ys.length
    · obtain ⟨y, hyy, hym, hyd⟩ := get_some hj
      have hget2 : (ys.map D.str)[i]? = some (.str y) := by simp [hyy]
      rw [hyd, cmpL] at h2
      have hc := compare_str x y
      by_cases h0 : Lib.compareBytes x y = 0
      · rw [if_neg (by simp [h0])] at h2
        rw [h0] at hc
        repeat' (first | ((first | refine AW.sreg rfl fun K hK => ?_ | refine AW.reg rfl ?_ | refine run_call _ _ _ ((hc).pure rfl rfl _ _) rfl rfl (dstOk_of rfl) rfl rfl rfl ?_); simp only [go_sem, ↓reduceIte, List.length_map, hget, hget2]) | (refine AW.seq_k fun K hK => ?_) | (refine AW.block ?_) | (refine AW.skip ?_; simp only [Then, InBlock]) | (refine AW.cT ?_) | (refine AW.cF ?_) | (refine hK _ ?_; clear hK K) | (with_reducible refine andI ?_))
        all_goals first | (exfalso; omega) | exact ⟨i + 1, ⟨hi, h2, hj⟩, by omega, (Weak.aC hcx (by refine ⟨?_, ?_, ?_⟩ <;> simp [go_sem, gL, kL, renOf, V.obj, Nat.blt, Nat.ble, List.map_append, dv_push]))⟩ | trace_state
      · rw [if_pos h0] at h2
        subst h2
        generalize Lib.compareBytes x y = c at *
        repeat' (first | ((first | refine AW.sreg rfl fun K hK => ?_ | refine run_call _ _ _ ((hc).pure rfl rfl _ _) rfl rfl (dstOk_of rfl) rfl rfl rfl ?_); simp only [go_sem, ↓reduceIte, List.length_map, hget, hget2, h0]) | (refine AW.seq_k fun K hK => ?_) | (refine AW.block ?_) | (refine AW.skip ?_; simp only [Then, InBlock]) | (refine AW.cT ?_) | (refine AW.cF ?_) | (refine hK _ ?_; clear hK K) | (with_reducible refine andI ?_))
        all_goals first | (exfalso; omega) | exact AW.ret (Fin.data rfl (by simp [go_sem]) rfl) | trace_state
    · rw [show ys.drop i = [] from List.drop_eq_nil_of_le (by omega), cmpL] at h2
      subst h2
      repeat' (first | (refine AW.sreg rfl fun K hK => ?_; simp only [go_sem, ↓reduceIte, List.length_map, hget]) | (refine AW.seq_k fun K hK => ?_) | (refine AW.block ?_) | (refine AW.skip ?_; simp only [Then, InBlock]) | (refine AW.cT ?_) | (refine hK _ ?_; clear hK K) | (with_reducible refine andI ?_))
      all_goals first | (exfalso; omega) | exact AW.ret (Fin.data rfl (by simp [go_sem]) rfl) | trace_state
  · obtain rfl : i = xs.length := by omega
    rw [List.drop_length] at h2
    by_cases hj : xs.length < ys.length
    · obtain ⟨y, hyy, hym, hyd⟩ := get_some hj
      rw [hyd, cmpL] at h2
      subst h2
      repeat' (first | (refine AW.sreg rfl fun K hK => ?_; simp only [go_sem, ↓reduceIte, List.length_map]) | (refine AW.seq_k fun K hK => ?_) | (refine AW.exit ?_; simp only [go_sem, ↓reduceIte]) | (refine AW.cT ?_) | (refine AW.cF ?_) | (refine hK _ ?_; clear hK K) | (clear hK K; refine hK _ ?_; clear hK K))
      all_goals first | (exfalso; omega) | exact AW.ret (Fin.data rfl (by simp [go_sem]) rfl) | trace_state
    · rw [show ys.drop xs.length = [] from List.drop_eq_nil_of_le (by omega), cmpL] at h2
      subst h2
      repeat' (first | (refine AW.sreg rfl fun K hK => ?_; simp only [go_sem, ↓reduceIte, List.length_map]) | (refine AW.seq_k fun K hK => ?_) | (refine AW.skip ?_; simp only [Then, InBlock]) | (refine AW.exit ?_; simp only [go_sem, ↓reduceIte]) | (refine AW.cF ?_) | (refine hK _ ?_; clear hK K) | (clear hK K; refine hK _ ?_; clear hK K))
      all_goals first | (exfalso; omega) | exact AW.ret (Fin.data rfl (by simp [go_sem]) rfl) | trace_state
def cpW (a b : Wk) : Int := orI [cmpI a.1 b.1, cmpL a.2 b.2]
theorem compareWorks_any (a b : Wk) (ha : a.2.length ≤ 1000) (hb : b.2.length ≤ 1000) : Does Tryz.prog 79 [.d (wkD a), .d (wkD b)] [] (I (cpW a b)) [] := by
  have hor := cmpOr_any [cmpI a.1 b.1, cmpL a.2 b.2] (by simp)
  have hcl := compareL_any a.2 b.2 ha hb
  obtain ⟨a1, a2⟩ := a
  obtain ⟨b1, b2⟩ := b
  unfold cpW
  simp only at hcl hor ⊢
  generalize orI _ = v at *
  generalize cmpL _ _ = cl at *
  refine Does.of_AW (n := 17) Tryz.func79 rfl rfl rfl fun cx hcx => ?_
  repeat' (first | ((first | refine AW.sreg rfl fun K hK => ?_ | refine AW.sregD hmix rfl fun K hK => ?_ | refine runT_call _ _ [] (fun hv _ => (hcl).pure rfl rfl hv _) rfl rfl (dstOk_of rfl) rfl rfl ?_ | refine runT_call _ _ [] (fun hv _ => (compare_int _ _).pure rfl rfl hv _) rfl rfl (dstOk_of rfl) rfl rfl ?_ | refine runT_call _ _ [832] (fun hv hag => (hor).lend (by repeat' (first | exact frzL_nil | refine frzL_cons (by first | exact frz_d | exact frz_slr rfl ((hag 832 (by simp)).trans rfl) (by first | (simp; done) | (simp; omega) | (simp [*]; done) | fail) | rfl) ?_)) rfl rfl rfl) rfl rfl (dstOk_of rfl) rfl rfl ?_); simp only [go_sem, ↓reduceIte]) | (refine hK _ ?_; clear hK K) | (with_reducible refine And.intro (?_ : regOk _ _ = true) ?_; kernel_rfl))
  all_goals first | exact AW.ret (Fin.data rfl (by simp [go_sem]) rfl) | trace_state
end Go.AX

namespace Go.AX
open Go Go.Proofs Go.RowKit
/-- The days that are drawn. -/
abbrev DY : List Int := [0, 1, 20, 30, 31, 50, 51, 70, 80, 100, 101, 120, 130, 150, 200, 201, 220, 250, 300, 3000, 3030, 3050, 3100, 3200]
structure OkNm (l : List Nm) : Prop where
  pos : l ≠ []
  len : l.length ≤ 10
  nm : ∀ n ∈ l, n.1 ∈ NG ∧ n.2 ≤ 4000 ∧ n.2 ∈ DY
  fst : ∀ n, l[0]? = some n → n.2 = 0
  ris : l.Pairwise fun a b => a.2 < b.2
structure OkHm (ps : List Pl) (l : List Hm) : Prop where
  len : l.length ≤ 20
  hm : ∀ h ∈ l, h.1 ∈ ps.map (·.1) ∧ 0 ≤ h.2.1 ∧ h.2.1 < h.2.2 ∧ h.2.2 ≤ 4001 ∧ h.2.1 ∈ DY ∧ h.2.2 ∈ DY
  ris : l.Pairwise fun a b => cpH a b < 0
structure OkMl (l : List Str) : Prop where
  len : l.length ≤ 10
  ml : ∀ m ∈ l, m ∈ MG
  ris : l.Pairwise fun a b => ltS a b = true
structure OkAd (key : Str) (l : List Str) : Prop where
  len : l.length ≤ 10
  ky : ∀ a ∈ l, a ∈ K7 ∧ a ≠ key
  ris : l.Pairwise fun a b => ltS a b = true
theorem pw_at {α : Type} {R : α → α → Prop} {xs : List α} (h : xs.Pairwise R) {i j : Nat} {x y : α} (hi : xs[i]? = some x) (hj : xs[j]? = some y) (hij : i < j) : R x y := by
  rw [List.pairwise_iff_getElem] at h
  obtain ⟨a, rfl⟩ := List.getElem?_eq_some_iff.1 hi
  obtain ⟨b, rfl⟩ := List.getElem?_eq_some_iff.1 hj
  exact h i j a b hij
theorem riseS_at2 {l : List Str} (h : l.Pairwise fun a b => ltS a b = true) {i j : Nat} {x y : Str} (hi : l[i]? = some x) (hj : l[j]? = some y) (hij : i < j) : (Op.bytesLess y x || y == x) = false := rise_at2 (f := fun x => x) h hi hj hij
theorem namesFault_ok {l : List Nm} (ho : OkNm l) : Does Tryz.prog 231 [.d (.sl (l.map nmD))] [] (I 0) [] := by
  have hl := ho.len
  have hpos : 0 < l.length := List.length_pos_iff.2 ho.pos
  refine Does.of_AW (n := 62) Tryz.func231 rfl rfl rfl fun cx hcx => ?_
  repeat' (first | (refine AW.sreg rfl fun K hK => ?_; simp only [go_sem, ↓reduceIte, List.length_map]) | (refine AW.seq_k fun K hK => ?_) | (refine AW.block ?_) | (refine AW.skip ?_; simp only [Then, InBlock]) | (refine AW.cF ?_) | (refine AW.cond rfl (fun h => ?_) (fun h => ?_) <;> (try simp only [decide_eq_true_eq, decide_eq_false_iff_not, Bool.not_eq_true', Bool.not_eq_false', Bool.not_eq_eq_eq_not, Bool.not_true, Bool.not_false, beq_iff_eq, bne_iff_ne, beq_eq_false_iff_ne, ne_eq, Bool.and_eq_true, Bool.or_eq_true, Bool.or_eq_false_iff] at h)) | (refine hK _ ?_; clear hK K) | (exfalso; omega))
  refine AW.loopF (ι := Nat) [0, 11, 12] (fun p => [(13, I p)]) (fun p => []) 20 (fun p => p ≤ l.length) (fun p => l.length - p) 0 (Nat.zero_le _) (Weak.aC hcx (by refine ⟨?_, ?_, ?_⟩ <;> simp [go_sem, gL, kL, renOf, V.obj, Nat.blt, Nat.ble, List.map_append, dv_push])) ?_; simp only [St.at_nil, St.at_cons, lk, Nat.reduceEqDiff, ↓reduceIte, Option.getD_some, Option.getD_none, List.cons_append, List.nil_append, List.append_nil]
  intro i h1
  by_cases hi : i < l.length
  · obtain ⟨x, hx, hxm, hxd⟩ := get_some hi
    have hget : (l.map nmD)[i]? = some (nmD x) := by simp [hx]
    obtain ⟨k1, k2⟩ := ho.nm x hxm
    have hp := plainG x.1 k1
    obtain ⟨k3, k4⟩ := NG_len x.1 k1
    have e0 : (x.1 == []) = false := by simp [k3]
    rcases i with _ | j
    · have e1 := ho.fst x hx
      repeat' (first | ((first | refine AW.sreg rfl fun K hK => ?_ | refine AW.sregD hmix rfl fun K hK => ?_ | refine AW.reg rfl ?_ | refine run_call _ _ _ ((hp).pure rfl rfl _ _) rfl rfl (dstOk_of rfl) rfl rfl rfl ?_); simp only [go_sem, ↓reduceIte, List.length_map, hget, e0, e1]) | (refine AW.seq_k fun K hK => ?_) | (refine AW.block ?_) | (refine AW.skip ?_; simp only [Then, InBlock]) | (refine AW.cT ?_) | (refine AW.cF ?_) | (refine hK _ ?_; clear hK K) | (refine stepBT_split (fun h => ?_) (fun h => ?_) <;> (have hb0 := h) <;> (try simp only [Bool.not_eq_true', Bool.not_eq_false'] at hb0) <;> (try simp only [decide_eq_true_eq, decide_eq_false_iff_not, Bool.not_eq_true', Bool.not_eq_false', Bool.not_eq_eq_eq_not, Bool.not_true, Bool.not_false, beq_iff_eq, bne_iff_ne, beq_eq_false_iff_ne, ne_eq, Bool.and_eq_true, Bool.or_eq_true, Bool.or_eq_false_iff] at h) <;> simp only [go_sem, ↓reduceIte, hb0, h, decide_true, decide_false, List.length_map, hget, e0, e1] <;> (try clear hb0)) | (with_reducible refine And.intro (?_ : regOk _ _ = true) ?_; kernel_rfl) | (with_reducible refine andI ?_) | (exfalso; omega))
      all_goals first | (exfalso; omega) | exact ⟨_ + 1, hi, by omega, (Weak.aC hcx (by refine ⟨?_, ?_, ?_⟩ <;> simp [go_sem, gL, kL, renOf, V.obj, Nat.blt, Nat.ble, List.map_append, dv_push]))⟩ | trace_state
    · obtain ⟨y, hy, hym, hyd⟩ := get_some (show j < l.length by omega)
      have hget2 : (l.map nmD)[(((j + 1 : Nat) : Int) - 1).toNat]? = some (nmD y) := by
        rw [show (((j + 1 : Nat) : Int) - 1).toNat = j by omega]; simp [hy]
      have hlt := pw_at ho.ris hy hx (Nat.lt_succ_self j)
      repeat' (first | ((first | refine AW.sreg rfl fun K hK => ?_ | refine AW.sregD hmix rfl fun K hK => ?_ | refine AW.reg rfl ?_ | refine run_call _ _ _ ((hp).pure rfl rfl _ _) rfl rfl (dstOk_of rfl) rfl rfl rfl ?_); simp only [go_sem, ↓reduceIte, List.length_map, hget, hget2, e0]) | (refine AW.seq_k fun K hK => ?_) | (refine AW.block ?_) | (refine AW.skip ?_; simp only [Then, InBlock]) | (refine AW.cT ?_) | (refine AW.cF ?_) | (refine hK _ ?_; clear hK K) | (refine stepBT_split (fun h => ?_) (fun h => ?_) <;> (have hb0 := h) <;> (try simp only [Bool.not_eq_true', Bool.not_eq_false'] at hb0) <;> (try simp only [decide_eq_true_eq, decide_eq_false_iff_not, Bool.not_eq_true', Bool.not_eq_false', Bool.not_eq_eq_eq_not, Bool.not_true, Bool.not_false, beq_iff_eq, bne_iff_ne, beq_eq_false_iff_ne, ne_eq, Bool.and_eq_true, Bool.or_eq_true, Bool.or_eq_false_iff] at h) <;> simp only [go_sem, ↓reduceIte, hb0, h, decide_true, decide_false, List.length_map, hget, hget2, e0] <;> (try clear hb0)) | (with_reducible refine And.intro (?_ : regOk _ _ = true) ?_; kernel_rfl) | (with_reducible refine andI ?_) | (exfalso; omega))
      all_goals first | (exfalso; omega) | exact ⟨_ + 1, hi, by omega, (Weak.aC hcx (by refine ⟨?_, ?_, ?_⟩ <;> simp [go_sem, gL, kL, renOf, V.obj, Nat.blt, Nat.ble, List.map_append, dv_push]))⟩ | trace_state
  · obtain rfl : i = l.length := by omega
    repeat' (first | (refine AW.sreg rfl fun K hK => ?_; simp only [go_sem, ↓reduceIte, List.length_map]) | (refine AW.seq_k fun K hK => ?_) | (refine AW.exit ?_; simp only [go_sem, ↓reduceIte]) | (refine AW.cF ?_) | (refine hK _ ?_; clear hK K) | (clear hK K; refine hK _ ?_; clear hK K) | (refine AW.ret (Fin.data rfl (by first | (simp only [go_sem]; done) | (simp [go_sem, *]; done) | (simp [go_sem]; omega) | rfl) rfl)))
theorem homesFault_ok {ps : List Pl} (hn : (ps.map (·.1)).Nodup) {l : List Hm} (h : OkHm ps l) : Does Tryz.prog 232 [.d (.sl (l.map hmD)), .d (upD ps)] [] (I 0) [] := by
  have hl := h.len
  refine Does.of_AW (n := 53) Tryz.func232 rfl rfl rfl fun cx hcx => ?_
  repeat' (first | (refine AW.sreg rfl fun K hK => ?_; simp only [go_sem, ↓reduceIte, List.length_map]) | (refine AW.seq_k fun K hK => ?_) | (refine AW.block ?_) | (refine AW.skip ?_; simp only [Then, InBlock]) | (refine AW.cF ?_) | (refine hK _ ?_; clear hK K))
  refine AW.loopF (ι := Nat) [0, 1, 10, 11] (fun p => [(12, I p)]) (fun p => []) 20 (fun p => p ≤ l.length) (fun p => l.length - p) 0 (Nat.zero_le _) (Weak.aC hcx (by refine ⟨?_, ?_, ?_⟩ <;> simp [go_sem, gL, kL, renOf, V.obj, Nat.blt, Nat.ble, List.map_append, dv_push])) ?_; simp only [St.at_nil, St.at_cons, lk, Nat.reduceEqDiff, ↓reduceIte, Option.getD_some, Option.getD_none, List.cons_append, List.nil_append, List.append_nil]
  intro i h1
  by_cases hi : i < l.length
  · obtain ⟨x, hx, hxm, hxd⟩ := get_some hi
    have hget : (l.map hmD)[i]? = some (hmD x) := by simp [hx]
    obtain ⟨k1, k2, k3, k4⟩ := h.hm x hxm
    have hh := has_any hn x.1
    rw [decide_eq_true k1] at hh
    rcases i with _ | j
    · repeat' (first | ((first | refine AW.sreg rfl fun K hK => ?_ | refine AW.sregD hmix rfl fun K hK => ?_ | refine AW.reg rfl ?_ | refine run_call _ _ _ ((hh).pure rfl rfl _ _) rfl rfl (dstOk_of rfl) rfl rfl rfl ?_); simp only [go_sem, ↓reduceIte, List.length_map, hget]) | (refine AW.seq_k fun K hK => ?_) | (refine AW.block ?_) | (refine AW.skip ?_; simp only [Then, InBlock]) | (refine AW.cT ?_) | (refine AW.cF ?_) | (refine hK _ ?_; clear hK K) | (refine stepB_split (fun h => ?_) (fun h => ?_) <;> (have hb0 := h) <;> (try simp only [Bool.not_eq_true', Bool.not_eq_false'] at hb0) <;> (try simp only [decide_eq_true_eq, decide_eq_false_iff_not, Bool.not_eq_true', Bool.not_eq_false', Bool.not_eq_eq_eq_not, Bool.not_true, Bool.not_false, beq_iff_eq, bne_iff_ne, beq_eq_false_iff_ne, ne_eq, Bool.and_eq_true, Bool.or_eq_true, Bool.or_eq_false_iff] at h) <;> simp only [go_sem, ↓reduceIte, hb0, h, decide_true, decide_false, List.length_map, hget] <;> (try clear hb0)) | (refine stepBT_split (fun h => ?_) (fun h => ?_) <;> (have hb0 := h) <;> (try simp only [Bool.not_eq_true', Bool.not_eq_false'] at hb0) <;> (try simp only [decide_eq_true_eq, decide_eq_false_iff_not, Bool.not_eq_true', Bool.not_eq_false', Bool.not_eq_eq_eq_not, Bool.not_true, Bool.not_false, beq_iff_eq, bne_iff_ne, beq_eq_false_iff_ne, ne_eq, Bool.and_eq_true, Bool.or_eq_true, Bool.or_eq_false_iff] at h) <;> simp only [go_sem, ↓reduceIte, hb0, h, decide_true, decide_false, List.length_map, hget] <;> (try clear hb0)) | (with_reducible refine And.intro (?_ : regOk _ _ = true) ?_; kernel_rfl) | (with_reducible refine andI ?_) | (exfalso; omega))
      all_goals first | (exfalso; omega) | exact ⟨_ + 1, hi, by omega, (Weak.aC hcx (by refine ⟨?_, ?_, ?_⟩ <;> simp [go_sem, gL, kL, renOf, V.obj, Nat.blt, Nat.ble, List.map_append, dv_push]))⟩ | trace_state
    · obtain ⟨y, hy, hym, hyd⟩ := get_some (show j < l.length by omega)
      have hget2 : (l.map hmD)[(((j + 1 : Nat) : Int) - 1).toNat]? = some (hmD y) := by
        rw [show (((j + 1 : Nat) : Int) - 1).toNat = j by omega]; simp [hy]
      have hlt := pw_at h.ris hy hx (Nat.lt_succ_self j)
      have hch := compareHomes_any y x
      repeat' (first | ((first | refine AW.sreg rfl fun K hK => ?_ | refine AW.sregD hmix rfl fun K hK => ?_ | refine AW.reg rfl ?_ | refine run_call _ _ _ ((hh).pure rfl rfl _ _) rfl rfl (dstOk_of rfl) rfl rfl rfl ?_ | refine runT_call _ _ [] (fun hv _ => (hch).pure rfl rfl hv _) rfl rfl (dstOk_of rfl) rfl rfl ?_); simp only [go_sem, ↓reduceIte, List.length_map, hget, hget2]) | (refine AW.seq_k fun K hK => ?_) | (refine AW.block ?_) | (refine AW.skip ?_; simp only [Then, InBlock]) | (refine AW.cT ?_) | (refine AW.cF ?_) | (refine hK _ ?_; clear hK K) | (refine stepB_split (fun h => ?_) (fun h => ?_) <;> (have hb0 := h) <;> (try simp only [Bool.not_eq_true', Bool.not_eq_false'] at hb0) <;> (try simp only [decide_eq_true_eq, decide_eq_false_iff_not, Bool.not_eq_true', Bool.not_eq_false', Bool.not_eq_eq_eq_not, Bool.not_true, Bool.not_false, beq_iff_eq, bne_iff_ne, beq_eq_false_iff_ne, ne_eq, Bool.and_eq_true, Bool.or_eq_true, Bool.or_eq_false_iff] at h) <;> simp only [go_sem, ↓reduceIte, hb0, h, decide_true, decide_false, List.length_map, hget, hget2] <;> (try clear hb0)) | (refine stepBT_split (fun h => ?_) (fun h => ?_) <;> (have hb0 := h) <;> (try simp only [Bool.not_eq_true', Bool.not_eq_false'] at hb0) <;> (try simp only [decide_eq_true_eq, decide_eq_false_iff_not, Bool.not_eq_true', Bool.not_eq_false', Bool.not_eq_eq_eq_not, Bool.not_true, Bool.not_false, beq_iff_eq, bne_iff_ne, beq_eq_false_iff_ne, ne_eq, Bool.and_eq_true, Bool.or_eq_true, Bool.or_eq_false_iff] at h) <;> simp only [go_sem, ↓reduceIte, hb0, h, decide_true, decide_false, List.length_map, hget, hget2] <;> (try clear hb0)) | (with_reducible refine And.intro (?_ : regOk _ _ = true) ?_; kernel_rfl) | (with_reducible refine andI ?_) | (exfalso; omega))
      all_goals first | (exfalso; omega) | exact ⟨_ + 1, hi, by omega, (Weak.aC hcx (by refine ⟨?_, ?_, ?_⟩ <;> simp [go_sem, gL, kL, renOf, V.obj, Nat.blt, Nat.ble, List.map_append, dv_push]))⟩ | trace_state
  · obtain rfl : i = l.length := by omega
    repeat' (first | (refine AW.sreg rfl fun K hK => ?_; simp only [go_sem, ↓reduceIte, List.length_map]) | (refine AW.seq_k fun K hK => ?_) | (refine AW.exit ?_; simp only [go_sem, ↓reduceIte]) | (refine AW.cF ?_) | (refine hK _ ?_; clear hK K) | (clear hK K; refine hK _ ?_; clear hK K) | (refine AW.ret (Fin.data rfl (by first | (simp only [go_sem]; done) | (simp [go_sem, *]; done) | (simp [go_sem]; omega) | rfl) rfl)))
theorem mailsFault_ok {l : List Str} (h : OkMl l) : Does Tryz.prog 233 [.d (.sl (l.map D.str))] [] (I 0) [] := by
  have hl := h.len
  refine Does.of_AW (n := 30) Tryz.func233 rfl rfl rfl fun cx hcx => ?_
  repeat' (first | (refine AW.sreg rfl fun K hK => ?_; simp only [go_sem, ↓reduceIte, List.length_map]) | (refine AW.seq_k fun K hK => ?_) | (refine AW.block ?_) | (refine AW.skip ?_; simp only [Then, InBlock]) | (refine AW.cF ?_) | (refine hK _ ?_; clear hK K))
  refine AW.loopF (ι := Nat) [0, 8, 9] (fun p => [(10, I p)]) (fun p => []) 20 (fun p => p ≤ l.length) (fun p => l.length - p) 0 (Nat.zero_le _) (Weak.aC hcx (by refine ⟨?_, ?_, ?_⟩ <;> simp [go_sem, gL, kL, renOf, V.obj, Nat.blt, Nat.ble, List.map_append, dv_push])) ?_; simp only [St.at_nil, St.at_cons, lk, Nat.reduceEqDiff, ↓reduceIte, Option.getD_some, Option.getD_none, List.cons_append, List.nil_append, List.append_nil]
  intro i h1
  by_cases hi : i < l.length
  · obtain ⟨x, hx, hxm, hxd⟩ := get_some hi
    have hget : (l.map D.str)[i]? = some (.str x) := by simp [hx]
    have hp := mailG x (h.ml x hxm)
    rcases i with _ | j
    · repeat' (first | ((first | refine AW.sreg rfl fun K hK => ?_ | refine AW.reg rfl ?_ | refine run_call _ _ _ ((hp).pure rfl rfl _ _) rfl rfl (dstOk_of rfl) rfl rfl rfl ?_); simp only [go_sem, ↓reduceIte, List.length_map, hget]) | (refine AW.seq_k fun K hK => ?_) | (refine AW.block ?_) | (refine AW.skip ?_; simp only [Then, InBlock]) | (refine AW.cT ?_) | (refine AW.cF ?_) | (refine hK _ ?_; clear hK K) | (refine stepB_split (fun h => ?_) (fun h => ?_) <;> (have hb0 := h) <;> (try simp only [Bool.not_eq_true', Bool.not_eq_false'] at hb0) <;> (try simp only [decide_eq_true_eq, decide_eq_false_iff_not, Bool.not_eq_true', Bool.not_eq_false', Bool.not_eq_eq_eq_not, Bool.not_true, Bool.not_false, beq_iff_eq, bne_iff_ne, beq_eq_false_iff_ne, ne_eq, Bool.and_eq_true, Bool.or_eq_true, Bool.or_eq_false_iff] at h) <;> simp only [go_sem, ↓reduceIte, hb0, h, decide_true, decide_false, List.length_map, hget] <;> (try clear hb0)) | (with_reducible refine andI ?_) | (exfalso; omega))
      all_goals first | (exfalso; omega) | exact ⟨_ + 1, hi, by omega, (Weak.aC hcx (by refine ⟨?_, ?_, ?_⟩ <;> simp [go_sem, gL, kL, renOf, V.obj, Nat.blt, Nat.ble, List.map_append, dv_push]))⟩ | trace_state
    · obtain ⟨y, hy, hym, hyd⟩ := get_some (show j < l.length by omega)
      have hget2 : (l.map D.str)[(((j + 1 : Nat) : Int) - 1).toNat]? = some (.str y) := by
        rw [show (((j + 1 : Nat) : Int) - 1).toNat = j by omega]; simp [hy]
      have hlt := riseS_at2 h.ris hy hx (Nat.lt_succ_self j)
      repeat' (first | ((first | refine AW.sreg rfl fun K hK => ?_ | refine AW.reg rfl ?_ | refine run_call _ _ _ ((hp).pure rfl rfl _ _) rfl rfl (dstOk_of rfl) rfl rfl rfl ?_); simp only [go_sem, ↓reduceIte, List.length_map, hget, hget2, hlt]) | (refine AW.seq_k fun K hK => ?_) | (refine AW.block ?_) | (refine AW.skip ?_; simp only [Then, InBlock]) | (refine AW.cT ?_) | (refine AW.cF ?_) | (refine hK _ ?_; clear hK K) | (refine stepB_split (fun h => ?_) (fun h => ?_) <;> (have hb0 := h) <;> (try simp only [Bool.not_eq_true', Bool.not_eq_false'] at hb0) <;> (try simp only [decide_eq_true_eq, decide_eq_false_iff_not, Bool.not_eq_true', Bool.not_eq_false', Bool.not_eq_eq_eq_not, Bool.not_true, Bool.not_false, beq_iff_eq, bne_iff_ne, beq_eq_false_iff_ne, ne_eq, Bool.and_eq_true, Bool.or_eq_true, Bool.or_eq_false_iff] at h) <;> simp only [go_sem, ↓reduceIte, hb0, h, decide_true, decide_false, List.length_map, hget, hget2, hlt] <;> (try clear hb0)) | (with_reducible refine andI ?_) | (exfalso; omega))
      all_goals first | (exfalso; omega) | exact ⟨_ + 1, hi, by omega, (Weak.aC hcx (by refine ⟨?_, ?_, ?_⟩ <;> simp [go_sem, gL, kL, renOf, V.obj, Nat.blt, Nat.ble, List.map_append, dv_push]))⟩ | trace_state
  · obtain rfl : i = l.length := by omega
    repeat' (first | (refine AW.sreg rfl fun K hK => ?_; simp only [go_sem, ↓reduceIte, List.length_map]) | (refine AW.seq_k fun K hK => ?_) | (refine AW.exit ?_; simp only [go_sem, ↓reduceIte]) | (refine AW.cF ?_) | (refine hK _ ?_; clear hK K) | (clear hK K; refine hK _ ?_; clear hK K) | (refine AW.ret (Fin.data rfl (by first | (simp only [go_sem]; done) | (simp [go_sem, *]; done) | (simp [go_sem]; omega) | rfl) rfl)))
theorem advisersFault_ok {p : Pe} (h : OkAd p.key p.advs) : Does Tryz.prog 234 [.d (peD p)] [] (I 0) [] := by
  have hl := h.len
  obtain ⟨key, names, homes, mails, l⟩ := p
  simp only at h hl
  refine Does.of_AW (n := 40) Tryz.func234 rfl rfl rfl fun cx hcx => ?_
  repeat' (first | (refine AW.sreg rfl fun K hK => ?_; simp only [go_sem, ↓reduceIte, List.length_map]) | (refine AW.seq_k fun K hK => ?_) | (refine AW.block ?_) | (refine AW.skip ?_; simp only [Then, InBlock]) | (refine AW.cF ?_) | (refine hK _ ?_; clear hK K))
  refine AW.loopF (ι := Nat) [1, 10, 11] (fun p => [(12, I p)]) (fun p => [(0, some (O.box 50 [S key, .d (.sl (names.map nmD)), .d (.sl (homes.map hmD)), .d (.sl (mails.map D.str)), .d (.sl (l.map D.str))]))]) 20 (fun p => p ≤ l.length) (fun p => l.length - p) 0 (Nat.zero_le _) (Weak.aC hcx (by refine ⟨?_, ?_, ?_⟩ <;> simp [go_sem, gL, kL, renOf, V.obj, Nat.blt, Nat.ble, List.map_append, dv_push])) ?_; simp only [St.at_nil, St.at_cons, lk, Nat.reduceEqDiff, ↓reduceIte, Option.getD_some, Option.getD_none, List.cons_append, List.nil_append, List.append_nil]
  intro i h1
  by_cases hi : i < l.length
  · obtain ⟨x, hx, hxm, hxd⟩ := get_some hi
    have hget : (l.map D.str)[i]? = some (.str x) := by simp [hx]
    obtain ⟨k1, k2⟩ := h.ky x hxm
    obtain ⟨k3, k4⟩ := K7_key x k1
    have hk := isKey_any x (by omega)
    rw [k3] at hk
    have e0 : (x == key) = false := by simp [k2]
    rcases i with _ | j
    · repeat' (first | ((first | refine AW.sreg rfl fun K hK => ?_ | refine AW.reg rfl ?_ | refine run_call _ _ _ ((hk).pure rfl rfl _ _) rfl rfl (dstOk_of rfl) rfl rfl rfl ?_); simp only [go_sem, ↓reduceIte, List.length_map, hget, e0]) | (refine AW.seq_k fun K hK => ?_) | (refine AW.block ?_) | (refine AW.skip ?_; simp only [Then, InBlock]) | (refine AW.cT ?_) | (refine AW.cF ?_) | (refine hK _ ?_; clear hK K) | (refine stepB_split (fun h => ?_) (fun h => ?_) <;> (have hb0 := h) <;> (try simp only [Bool.not_eq_true', Bool.not_eq_false'] at hb0) <;> (try simp only [decide_eq_true_eq, decide_eq_false_iff_not, Bool.not_eq_true', Bool.not_eq_false', Bool.not_eq_eq_eq_not, Bool.not_true, Bool.not_false, beq_iff_eq, bne_iff_ne, beq_eq_false_iff_ne, ne_eq, Bool.and_eq_true, Bool.or_eq_true, Bool.or_eq_false_iff] at h) <;> simp only [go_sem, ↓reduceIte, hb0, h, decide_true, decide_false, List.length_map, hget, e0] <;> (try clear hb0)) | (with_reducible refine andI ?_) | (exfalso; omega))
      all_goals first | (exfalso; omega) | exact ⟨_ + 1, hi, by omega, (Weak.aC hcx (by refine ⟨?_, ?_, ?_⟩ <;> simp [go_sem, gL, kL, renOf, V.obj, Nat.blt, Nat.ble, List.map_append, dv_push]))⟩ | trace_state
    · obtain ⟨y, hy, hym, hyd⟩ := get_some (show j < l.length by omega)
      have hget2 : (l.map D.str)[(((j + 1 : Nat) : Int) - 1).toNat]? = some (.str y) := by
        rw [show (((j + 1 : Nat) : Int) - 1).toNat = j by omega]; simp [hy]
      have hlt := riseS_at2 h.ris hy hx (Nat.lt_succ_self j)
      repeat' (first | ((first | refine AW.sreg rfl fun K hK => ?_ | refine AW.reg rfl ?_ | refine run_call _ _ _ ((hk).pure rfl rfl _ _) rfl rfl (dstOk_of rfl) rfl rfl rfl ?_); simp only [go_sem, ↓reduceIte, List.length_map, hget, hget2, hlt, e0]) | (refine AW.seq_k fun K hK => ?_) | (refine AW.block ?_) | (refine AW.skip ?_; simp only [Then, InBlock]) | (refine AW.cT ?_) | (refine AW.cF ?_) | (refine hK _ ?_; clear hK K) | (refine stepB_split (fun h => ?_) (fun h => ?_) <;> (have hb0 := h) <;> (try simp only [Bool.not_eq_true', Bool.not_eq_false'] at hb0) <;> (try simp only [decide_eq_true_eq, decide_eq_false_iff_not, Bool.not_eq_true', Bool.not_eq_false', Bool.not_eq_eq_eq_not, Bool.not_true, Bool.not_false, beq_iff_eq, bne_iff_ne, beq_eq_false_iff_ne, ne_eq, Bool.and_eq_true, Bool.or_eq_true, Bool.or_eq_false_iff] at h) <;> simp only [go_sem, ↓reduceIte, hb0, h, decide_true, decide_false, List.length_map, hget, hget2, hlt, e0] <;> (try clear hb0)) | (with_reducible refine andI ?_) | (exfalso; omega))
      all_goals first | (exfalso; omega) | exact ⟨_ + 1, hi, by omega, (Weak.aC hcx (by refine ⟨?_, ?_, ?_⟩ <;> simp [go_sem, gL, kL, renOf, V.obj, Nat.blt, Nat.ble, List.map_append, dv_push]))⟩ | trace_state
  · obtain rfl : i = l.length := by omega
    repeat' (first | (refine AW.sreg rfl fun K hK => ?_; simp only [go_sem, ↓reduceIte, List.length_map]) | (refine AW.seq_k fun K hK => ?_) | (refine AW.exit ?_; simp only [go_sem, ↓reduceIte]) | (refine AW.cF ?_) | (refine hK _ ?_; clear hK K) | (clear hK K; refine hK _ ?_; clear hK K) | (refine AW.ret (Fin.data rfl (by first | (simp only [go_sem]; done) | (simp [go_sem, *]; done) | (simp [go_sem]; omega) | rfl) rfl)))
structure OkPe (ps : List Pl) (p : Pe) : Prop where
  nm : OkNm p.names
  hm : OkHm ps p.homes
  ml : OkMl p.mails
  ad : OkAd p.key p.advs
theorem personFault_ok {ps : List Pl} (hn : (ps.map (·.1)).Nodup) {p : Pe} (h : OkPe ps p) : Does Tryz.prog 183 [.d (peD p), .d (upD ps)] [] (I 0) [] := by
  have h1 := namesFault_ok h.nm
  have h2 := homesFault_ok hn h.hm
  have h3 := mailsFault_ok h.ml
  have h4 := advisersFault_ok h.ad
  obtain ⟨key, names, homes, mails, advs⟩ := p
  simp only at h1 h2 h3 h4
  refine Does.of_AW (n := 27) Tryz.func183 rfl rfl rfl fun cx hcx => ?_
  repeat' (first | ((first | refine AW.sreg rfl fun K hK => ?_ | refine AW.sregD hmix rfl fun K hK => ?_ | refine AW.reg rfl ?_ | refine runT_call _ _ [] (fun hv _ => (h1).pure rfl rfl hv _) rfl rfl (dstOk_of rfl) rfl rfl ?_ | refine runT_call _ _ [] (fun hv _ => (h2).pure rfl rfl hv _) rfl rfl (dstOk_of rfl) rfl rfl ?_ | refine runT_call _ _ [] (fun hv _ => (h3).pure rfl rfl hv _) rfl rfl (dstOk_of rfl) rfl rfl ?_ | refine runT_call _ _ [] (fun hv _ => (h4).pure rfl rfl hv _) rfl rfl (dstOk_of rfl) rfl rfl ?_); simp only [go_sem, ↓reduceIte, Int.zero_add, Int.reduceAdd]) | (refine AW.seq_k fun K hK => ?_) | (refine AW.block ?_) | (refine AW.skip ?_; simp only [Then, InBlock]) | (refine AW.exit ?_; simp only [go_sem, ↓reduceIte]) | (refine AW.cT ?_) | (refine AW.cF ?_) | (refine hK _ ?_; clear hK K) | (clear hK K; refine hK _ ?_; clear hK K) | (with_reducible refine And.intro (?_ : regOk _ _ = true) ?_; kernel_rfl) | (refine AW.unroll 5 ?_; simp only [AWr]) | (with_reducible refine andI ?_))
  all_goals first | exact AW.ret (Fin.data rfl (by simp [go_sem]) rfl) | trace_state
end Go.AX

namespace Go.AX
open Go Go.Proofs Go.RowKit
/-- The numbers of persons by their keys. -/
abbrev kyD (pes : List Pe) : D := .map (pes.map fun p => D.str p.key) ((List.range pes.length).map fun i : Nat => D.int .i64 (i : Int))
theorem fnd_ky (pes : List Pe) (k : Str) : fndK (.str k) (pes.map fun p => D.str p.key) = some ((pes.map (·.key)).findIdx? fun x => k == x) := by
  rw [← fndK_str, List.map_map]
  rfl
theorem ky_find {pes : List Pe} (hn : (pes.map (·.key)).Nodup) (k : Str) : (k ∉ pes.map (·.key) ∧ fndK (.str k) (pes.map fun p => D.str p.key) = some none) ∨ ∃ (j : Nat) (p : Pe), pes[j]? = some p ∧ p.key = k ∧ fndK (.str k) (pes.map fun p => D.str p.key) = some (some j) ∧ (((List.range pes.length).map fun i : Nat => D.int .i64 (i : Int)).map V.d)[j]? = some (.d (.int .i64 (j : Int))) := by
  by_cases h : k ∈ pes.map (·.key)
  · obtain ⟨j, hj⟩ := List.getElem?_of_mem h
    have hj0 := hj
    rw [List.getElem?_map] at hj
    obtain ⟨p, hp, e⟩ := Option.map_eq_some_iff.1 hj
    have hl : j < pes.length := (List.getElem?_eq_some_iff.1 hp).1
    refine .inr ⟨j, p, hp, e, by rw [fnd_ky, findIdx_at hn hj0], ?_⟩
    rw [List.getElem?_map, List.getElem?_map, List.getElem?_range hl]
    rfl
  · exact .inl ⟨h, by rw [fnd_ky, findIdx_none h]⟩
theorem keysOf_any (w : Wo) (hl : w.pes.length ≤ 1000) (hn : (w.pes.map (·.key)).Nodup) : Does Tryz.prog 70 [.d (woD w)] [] (.d (kyD w.pes)) [] := by
  obtain ⟨pls, ps, wks, bos⟩ := w
  simp only at hl hn ⊢
  refine Does.of_AW (n := 21) Tryz.func70 rfl rfl rfl fun cx hcx => ?_
  repeat' (first | (refine AW.sreg rfl fun K hK => ?_; simp only [go_sem, ↓reduceIte, List.length_map]) | (refine AW.seq_k fun K hK => ?_) | (refine AW.block ?_) | (refine hK _ ?_; clear hK K))
  refine AW.loopF (ι := Nat) [3, 8, 9] (fun p => [(10, I p)]) (fun p => [(128, some (O.map ((ps.take p).map fun p => D.str p.key) (dv ((List.range p).map fun i : Nat => D.int .i64 (i : Int)))))]) 20 (fun p => p ≤ ps.length) (fun p => ps.length - p) 0 (Nat.zero_le _) (Weak.aC hcx (by refine ⟨?_, ?_, ?_⟩ <;> simp [go_sem, gL, kL, renOf, V.obj, Nat.blt, Nat.ble, List.map_append, dv_push])) ?_; simp only [St.at_nil, St.at_cons, lk, Nat.reduceEqDiff, ↓reduceIte, Option.getD_some, Option.getD_none, List.cons_append, List.nil_append, List.append_nil]
  intro i h1
  by_cases hi : i < ps.length
  · obtain ⟨x, hx, hxm, hxd⟩ := get_some hi
    have hget : (ps.map peD)[i]? = some (peD x) := by simp [hx]
    have htk : ps.take (i + 1) = ps.take i ++ [x] := by rw [List.take_add_one, hx]; rfl
    have hf : fndK (.str x.key) ((ps.take i).map fun p => D.str p.key) = some none := by
      rw [fnd_ky, findIdx_none]
      intro hm
      have hn2 : ((ps.take (i + 1)).map (·.key)).Nodup := by
        rw [List.map_take]
        exact hn.sublist (List.take_sublist _ _)
      rw [htk, List.map_append, List.nodup_append] at hn2
      exact hn2.2.2 _ hm x.key (by simp) rfl
    repeat' (first | ((first | refine AW.sreg rfl fun K hK => ?_ | refine AW.reg rfl ?_); simp only [go_sem, ↓reduceIte, List.length_map, hget, hf]) | (refine AW.seq_k fun K hK => ?_) | (refine AW.block ?_) | (refine AW.skip ?_; simp only [Then, InBlock]) | (refine AW.cT ?_) | (refine hK _ ?_; clear hK K) | (with_reducible refine andI ?_))
    all_goals first | exact ⟨i + 1, hi, by omega, (Weak.aC hcx (by refine ⟨?_, ?_, ?_⟩ <;> simp [go_sem, gL, kL, renOf, V.obj, Nat.blt, Nat.ble, List.map_append, dv_push, htk, List.range_succ]))⟩ | trace_state
  · obtain rfl : i = ps.length := by omega
    rw [List.take_length]
    repeat' (first | (refine AW.sreg rfl fun K hK => ?_; simp only [go_sem, ↓reduceIte, List.length_map]) | (refine AW.seq_k fun K hK => ?_) | (refine AW.exit ?_; simp only [go_sem, ↓reduceIte]) | (refine AW.cF ?_) | (refine hK _ ?_; clear hK K) | (clear hK K; refine hK _ ?_; clear hK K))
    exact AW.ret (Fin.data rfl (frz_mprD rfl rfl) rfl)
theorem isDay_any (n : Int) (h : 0 ≤ n ∧ n ≤ 4000) : Does Tryz.prog 119 [I n] [] (B true) [] := by
  refine Does.of_AW (n := 9) Tryz.func119 rfl rfl rfl fun cx hcx => ?_
  repeat' (first | (refine AW.sreg rfl fun K hK => ?_; simp only [go_sem, ↓reduceIte]) | (refine hK _ ?_; clear hK K) | (refine stepB_split (fun h => ?_) (fun h => ?_) <;> (have hb0 := h) <;> (try simp only [Bool.not_eq_true', Bool.not_eq_false'] at hb0) <;> (try simp only [decide_eq_true_eq, decide_eq_false_iff_not, Bool.not_eq_true', Bool.not_eq_false', Bool.not_eq_eq_eq_not, Bool.not_true, Bool.not_false, beq_iff_eq, bne_iff_ne, beq_eq_false_iff_ne, ne_eq, Bool.and_eq_true, Bool.or_eq_true, Bool.or_eq_false_iff] at h) <;> simp only [go_sem, ↓reduceIte, hb0, h, decide_true, decide_false] <;> (try clear hb0)) | (exfalso; omega))
  all_goals first | (exfalso; omega) | exact AW.ret (Fin.data rfl (by simp [go_sem]; omega) rfl) | trace_state
structure OkWk (kys : List Str) (x : Wk) : Prop where
  day : 0 ≤ x.1 ∧ x.1 ≤ 4000
  dy : x.1 ∈ DY
  len : 2 ≤ x.2.length ∧ x.2.length ≤ 20
  ky : ∀ a ∈ x.2, a ∈ kys
  ris : x.2.Pairwise fun a b => ltS a b = true
structure OkWs (kys : List Str) (ws : List Wk) : Prop where
  len : ws.length ≤ 1000
  wk : ∀ x ∈ ws, OkWk kys x
  ris : ws.Pairwise fun a b => cpW a b < 0
structure OkBs (kys : List Str) (bs : List Bo) : Prop where
  len : bs.length ≤ 1000
  bo : ∀ b ∈ bs, b.1 ∈ kys ∧ b.2 ∈ kys ∧ ltS b.1 b.2 = true
  ris : bs.Pairwise fun a b => cpB a b < 0
structure OkW (w : Wo) : Prop where
  pl : OkPl w.pls
  len : w.pes.length ≤ 300
  ris : w.pes.Pairwise fun a b => ltS a.key b.key = true
  key : ∀ p ∈ w.pes, p.key ∈ K7
  pe : ∀ p ∈ w.pes, OkPe w.pls p
  adv : ∀ p ∈ w.pes, ∀ a ∈ p.advs, a ∈ w.pes.map (·.key)
  wk : OkWs (w.pes.map (·.key)) w.wks
  bo : OkBs (w.pes.map (·.key)) w.bos
theorem OkW.nd {w : Wo} (h : OkW w) : (w.pes.map (·.key)).Nodup := rise_nd h.ris
theorem peopleFault_ok {w : Wo} (ho : OkW w) : Does Tryz.prog 102 [.d (woD w)] [] (I 0) [] := by
  have hl := ho.len
  have hpo := parentsOf_any w.pls (by have := ho.pl.len; omega) ho.pl.nd
  have hko := keysOf_any w (by omega) ho.nd
  have hpf : ∀ p ∈ w.pes, _ := fun p hp => personFault_ok ho.pl.nd (ho.pe p hp)
  have hnd := ho.nd
  have hky := ho.key
  have hris := ho.ris
  have hadv := ho.adv
  have hadl : ∀ p ∈ w.pes, p.advs.length ≤ 10 := fun p hp => (ho.pe p hp).ad.len
  clear ho
  obtain ⟨pls, ps, wks, bos⟩ := w
  simp only at hl hpo hko hpf hnd hky hris hadv hadl
  refine Does.of_AW (n := 80) Tryz.func102 rfl rfl rfl fun cx hcx => ?_
  repeat' (first | ((first | refine AW.sreg rfl fun K hK => ?_ | refine run_call _ _ _ ((hpo).pure rfl rfl _ _) rfl rfl (dstOk_of rfl) rfl rfl rfl ?_); simp only [go_sem, ↓reduceIte, List.length_map]) | (refine AW.seq_k fun K hK => ?_) | (refine AW.block ?_) | (refine AW.skip ?_; simp only [Then, InBlock]) | (refine AW.cF ?_) | (refine hK _ ?_; clear hK K))
  refine AW.loopF (ι := Nat) [1, 3, 22, 23] (fun p => [(24, I p)]) (fun p => [(0, some (O.box 31 [.d (.sl (pls.map plD)), .d (.sl (ps.map peD)), .d (.sl (wks.map wkD)), .d (.sl (bos.map boD))]))]) 40 (fun p => p ≤ ps.length) (fun p => ps.length - p) 0 (Nat.zero_le _) (Weak.aC hcx (by refine ⟨?_, ?_, ?_⟩ <;> simp [go_sem, gL, kL, renOf, V.obj, Nat.blt, Nat.ble, List.map_append, dv_push])) ?_; simp only [St.at_nil, St.at_cons, lk, Nat.reduceEqDiff, ↓reduceIte, Option.getD_some, Option.getD_none, List.cons_append, List.nil_append, List.append_nil]
  intro i h1
  by_cases hi : i < ps.length
  · obtain ⟨x, hx, hxm, hxd⟩ := get_some hi
    have hget : (ps.map peD)[i]? = some (peD x) := by simp [hx]
    obtain ⟨k1, k2⟩ := K7_key _ (hky x hxm)
    have hk := isKey_any x.key (by omega)
    rw [k1] at hk
    have hp := hpf x hxm
    rcases i with _ | j
    · repeat' (first | ((first | refine AW.sreg rfl fun K hK => ?_ | refine AW.sregD hmix rfl fun K hK => ?_ | refine AW.reg rfl ?_ | refine run_call _ _ _ ((hk).pure rfl rfl _ _) rfl rfl (dstOk_of rfl) rfl rfl rfl ?_ | refine run_call _ _ _ ((hp).pure rfl rfl _ _) rfl rfl (dstOk_of rfl) rfl rfl rfl ?_); simp only [go_sem, ↓reduceIte, List.length_map, hget]) | (refine AW.seq_k fun K hK => ?_) | (refine AW.block ?_) | (refine AW.skip ?_; simp only [Then, InBlock]) | (refine AW.cT ?_) | (refine AW.cF ?_) | (refine hK _ ?_; clear hK K) | (refine stepBT_split (fun h => ?_) (fun h => ?_) <;> (have hb0 := h) <;> (try simp only [Bool.not_eq_true', Bool.not_eq_false'] at hb0) <;> (try simp only [decide_eq_true_eq, decide_eq_false_iff_not, Bool.not_eq_true', Bool.not_eq_false', Bool.not_eq_eq_eq_not, Bool.not_true, Bool.not_false, beq_iff_eq, bne_iff_ne, beq_eq_false_iff_ne, ne_eq, Bool.and_eq_true, Bool.or_eq_true, Bool.or_eq_false_iff] at h) <;> simp only [go_sem, ↓reduceIte, hb0, h, decide_true, decide_false, List.length_map, hget] <;> (try clear hb0)) | (with_reducible refine And.intro (?_ : regOk _ _ = true) ?_; kernel_rfl) | (with_reducible refine andI ?_) | (exfalso; omega))
      all_goals first | (exfalso; omega) | exact ⟨_ + 1, hi, by omega, (Weak.aC hcx (by refine ⟨?_, ?_, ?_⟩ <;> simp [go_sem, gL, kL, renOf, V.obj, Nat.blt, Nat.ble, List.map_append, dv_push]))⟩ | trace_state
    · obtain ⟨y, hy, hym, hyd⟩ := get_some (show j < ps.length by omega)
      have hget2 : (ps.map peD)[(((j + 1 : Nat) : Int) - 1).toNat]? = some (peD y) := by
        rw [show (((j + 1 : Nat) : Int) - 1).toNat = j by omega]; simp [hy]
      have hlt := rise_at2 hris hy hx (Nat.lt_succ_self j)
      repeat' (first | ((first | refine AW.sreg rfl fun K hK => ?_ | refine AW.sregD hmix rfl fun K hK => ?_ | refine AW.reg rfl ?_ | refine run_call _ _ _ ((hk).pure rfl rfl _ _) rfl rfl (dstOk_of rfl) rfl rfl rfl ?_ | refine run_call _ _ _ ((hp).pure rfl rfl _ _) rfl rfl (dstOk_of rfl) rfl rfl rfl ?_); simp only [go_sem, ↓reduceIte, List.length_map, hget, hget2, hlt]) | (refine AW.seq_k fun K hK => ?_) | (refine AW.block ?_) | (refine AW.skip ?_; simp only [Then, InBlock]) | (refine AW.cT ?_) | (refine AW.cF ?_) | (refine hK _ ?_; clear hK K) | (refine stepBT_split (fun h => ?_) (fun h => ?_) <;> (have hb0 := h) <;> (try simp only [Bool.not_eq_true', Bool.not_eq_false'] at hb0) <;> (try simp only [decide_eq_true_eq, decide_eq_false_iff_not, Bool.not_eq_true', Bool.not_eq_false', Bool.not_eq_eq_eq_not, Bool.not_true, Bool.not_false, beq_iff_eq, bne_iff_ne, beq_eq_false_iff_ne, ne_eq, Bool.and_eq_true, Bool.or_eq_true, Bool.or_eq_false_iff] at h) <;> simp only [go_sem, ↓reduceIte, hb0, h, decide_true, decide_false, List.length_map, hget, hget2, hlt] <;> (try clear hb0)) | (with_reducible refine And.intro (?_ : regOk _ _ = true) ?_; kernel_rfl) | (with_reducible refine andI ?_) | (exfalso; omega))
      all_goals first | (exfalso; omega) | exact ⟨_ + 1, hi, by omega, (Weak.aC hcx (by refine ⟨?_, ?_, ?_⟩ <;> simp [go_sem, gL, kL, renOf, V.obj, Nat.blt, Nat.ble, List.map_append, dv_push]))⟩ | trace_state
  · obtain rfl : i = ps.length := by omega
    repeat' (first | ((first | refine AW.sreg rfl fun K hK => ?_ | refine run_call _ _ _ ((hko).pure rfl rfl _ _) rfl rfl (dstOk_of rfl) rfl rfl rfl ?_); simp only [go_sem, ↓reduceIte, List.length_map]) | (refine AW.seq_k fun K hK => ?_) | (refine AW.block ?_) | (refine AW.exit ?_; simp only [go_sem, ↓reduceIte]) | (refine AW.cF ?_) | (refine hK _ ?_; clear hK K) | (clear hK K; refine hK _ ?_; clear hK K))
    refine AW.loopF (ι := Nat) [7, 57, 58] (fun p => [(59, I p)]) (fun p => []) 80 (fun p => p ≤ ps.length) (fun p => ps.length - p) 0 (Nat.zero_le _) (Weak.aC hcx (by refine ⟨?_, ?_, ?_⟩ <;> simp [go_sem, gL, kL, renOf, V.obj, Nat.blt, Nat.ble, List.map_append, dv_push])) ?_; simp only [St.at_nil, St.at_cons, lk, Nat.reduceEqDiff, ↓reduceIte, Option.getD_some, Option.getD_none, List.cons_append, List.nil_append, List.append_nil]
    intro i h1
    by_cases hi : i < ps.length
    · obtain ⟨x, hx, hxm, hxd⟩ := get_some hi
      have hget : (ps.map peD)[i]? = some (peD x) := by simp [hx]
      have ha10 := hadl x hxm
      repeat' (first | (refine AW.sreg rfl fun K hK => ?_; simp only [go_sem, ↓reduceIte, List.length_map, hget]) | (refine AW.seq_k fun K hK => ?_) | (refine AW.block ?_) | (refine AW.skip ?_; simp only [Then, InBlock]) | (refine AW.cT ?_) | (refine hK _ ?_; clear hK K) | (with_reducible refine andI ?_))
      refine AW.loopF (ι := Nat) [7, 57, 58, 59, 64, 65] (fun p => [(66, I p)]) (fun p => []) 120 (fun p => p ≤ x.advs.length) (fun p => x.advs.length - p) 0 (Nat.zero_le _) (Weak.aC hcx (by refine ⟨?_, ?_, ?_⟩ <;> simp [go_sem, gL, kL, renOf, V.obj, Nat.blt, Nat.ble, List.map_append, dv_push])) ?_; simp only [St.at_nil, St.at_cons, lk, Nat.reduceEqDiff, ↓reduceIte, Option.getD_some, Option.getD_none, List.cons_append, List.nil_append, List.append_nil]
      intro k g1
      by_cases hk : k < x.advs.length
      · obtain ⟨a, hax, ham, had⟩ := get_some hk
        have hgeta : (x.advs.map D.str)[k]? = some (.str a) := by simp [hax]
        rcases ky_find hnd a with ⟨u1, u2⟩ | ⟨j, p, u1, u2, u3, u4⟩
        · exact absurd (hadv x hxm a ham) u1
        · repeat' (first | ((first | refine AW.sreg rfl fun K hK => ?_ | refine AW.reg rfl ?_); simp only [go_sem, ↓reduceIte, List.length_map, hgeta, u3, u4]) | (refine AW.seq_k fun K hK => ?_) | (refine AW.block ?_) | (refine AW.skip ?_; simp only [Then, InBlock]) | (refine AW.cT ?_) | (refine AW.cF ?_) | (refine hK _ ?_; clear hK K) | (with_reducible refine andI ?_))
          all_goals first | (exfalso; omega) | exact ⟨k + 1, hk, by omega, (Weak.aC hcx (by refine ⟨?_, ?_, ?_⟩ <;> simp [go_sem, gL, kL, renOf, V.obj, Nat.blt, Nat.ble, List.map_append, dv_push]))⟩ | trace_state
      · obtain rfl : k = x.advs.length := by omega
        repeat' (first | ((first | refine AW.sreg rfl fun K hK => ?_ | refine AW.reg rfl ?_); simp only [go_sem, ↓reduceIte, List.length_map]) | (refine AW.seq_k fun K hK => ?_) | (refine AW.exit ?_; simp only [go_sem, ↓reduceIte]) | (refine AW.cF ?_) | (refine hK _ ?_; clear hK K) | (clear hK K; refine hK _ ?_; clear hK K) | (with_reducible refine andI ?_))
        exact ⟨i + 1, hi, by omega, (Weak.aC hcx (by refine ⟨?_, ?_, ?_⟩ <;> simp [go_sem, gL, kL, renOf, V.obj, Nat.blt, Nat.ble, List.map_append, dv_push]))⟩
    · obtain rfl : i = ps.length := by omega
      repeat' (first | (refine AW.sreg rfl fun K hK => ?_; simp only [go_sem, ↓reduceIte, List.length_map]) | (refine AW.seq_k fun K hK => ?_) | (refine AW.exit ?_; simp only [go_sem, ↓reduceIte]) | (refine AW.cF ?_) | (refine hK _ ?_; clear hK K) | (clear hK K; refine hK _ ?_; clear hK K) | (refine AW.ret (Fin.data rfl (by first | (simp only [go_sem]; done) | (simp [go_sem, *]; done) | (simp [go_sem]; omega) | rfl) rfl)))
theorem worksFault_ok {pes : List Pe} (hnd : (pes.map (·.key)).Nodup) {ws : List Wk} (ho : OkWs (pes.map (·.key)) ws) : Does Tryz.prog 103 [.d (.sl (ws.map wkD)), .d (kyD pes)] [] (I 0) [] := by
  have hl := ho.len
  refine Does.of_AW (n := 78) Tryz.func103 rfl rfl rfl fun cx hcx => ?_
  repeat' (first | (refine AW.sreg rfl fun K hK => ?_; simp only [go_sem, ↓reduceIte, List.length_map]) | (refine AW.seq_k fun K hK => ?_) | (refine AW.block ?_) | (refine AW.skip ?_; simp only [Then, InBlock]) | (refine AW.cF ?_) | (refine hK _ ?_; clear hK K))
  refine AW.loopF (ι := Nat) [0, 1, 14, 15] (fun p => [(16, I p)]) (fun p => []) 20 (fun p => p ≤ ws.length) (fun p => ws.length - p) 0 (Nat.zero_le _) (Weak.aC hcx (by refine ⟨?_, ?_, ?_⟩ <;> simp [go_sem, gL, kL, renOf, V.obj, Nat.blt, Nat.ble, List.map_append, dv_push])) ?_; simp only [St.at_nil, St.at_cons, lk, Nat.reduceEqDiff, ↓reduceIte, Option.getD_some, Option.getD_none, List.cons_append, List.nil_append, List.append_nil]
  intro i h1
  by_cases hi : i < ws.length
  · obtain ⟨x, hx, hxm, hxd⟩ := get_some hi
    have hget : (ws.map wkD)[i]? = some (wkD x) := by simp [hx]
    have hok := ho.wk x hxm
    have hd := isDay_any x.1 hok.day
    obtain ⟨l1, l2⟩ := hok.len
    repeat' (first | ((first | refine AW.sreg rfl fun K hK => ?_ | refine run_call _ _ _ ((hd).pure rfl rfl _ _) rfl rfl (dstOk_of rfl) rfl rfl rfl ?_); simp only [go_sem, ↓reduceIte, List.length_map, hget]) | (refine AW.seq_k fun K hK => ?_) | (refine AW.block ?_) | (refine AW.skip ?_; simp only [Then, InBlock]) | (refine AW.cT ?_) | (refine AW.cF ?_) | (refine hK _ ?_; clear hK K) | (with_reducible refine andI ?_))
    refine AW.loopF (ι := Nat) [0, 1, 5, 6, 14, 15, 16, 37, 38] (fun p => [(39, I p)]) (fun p => [(1536, some (O.box 68 [I x.1, .d (.sl (x.2.map D.str))]))]) 80 (fun p => p ≤ x.2.length) (fun p => x.2.length - p) 0 (Nat.zero_le _) (Weak.aC hcx (by refine ⟨?_, ?_, ?_⟩ <;> simp [go_sem, gL, kL, renOf, V.obj, Nat.blt, Nat.ble, List.map_append, dv_push])) ?_; simp only [St.at_nil, St.at_cons, lk, Nat.reduceEqDiff, ↓reduceIte, Option.getD_some, Option.getD_none, List.cons_append, List.nil_append, List.append_nil]
    intro k g1
    by_cases hk : k < x.2.length
    · obtain ⟨a, hax, ham, had⟩ := get_some hk
      have hgeta : (x.2.map D.str)[k]? = some (.str a) := by simp [hax]
      rcases ky_find hnd a with ⟨u1, u2⟩ | ⟨j, p, u1, u2, u3, u4⟩
      · exact absurd (hok.ky a ham) u1
      · rcases k with _ | q
        · repeat' (first | ((first | refine AW.sreg rfl fun K hK => ?_ | refine AW.reg rfl ?_); simp only [go_sem, ↓reduceIte, List.length_map, hgeta, u3, u4]) | (refine AW.seq_k fun K hK => ?_) | (refine AW.block ?_) | (refine AW.skip ?_; simp only [Then, InBlock]) | (refine AW.cT ?_) | (refine AW.cF ?_) | (refine hK _ ?_; clear hK K) | (refine stepB_split (fun h => ?_) (fun h => ?_) <;> (have hb0 := h) <;> (try simp only [Bool.not_eq_true', Bool.not_eq_false'] at hb0) <;> (try simp only [decide_eq_true_eq, decide_eq_false_iff_not, Bool.not_eq_true', Bool.not_eq_false', Bool.not_eq_eq_eq_not, Bool.not_true, Bool.not_false, beq_iff_eq, bne_iff_ne, beq_eq_false_iff_ne, ne_eq, Bool.and_eq_true, Bool.or_eq_true, Bool.or_eq_false_iff] at h) <;> simp only [go_sem, ↓reduceIte, hb0, h, decide_true, decide_false, List.length_map, hgeta, u3, u4] <;> (try clear hb0)) | (with_reducible refine andI ?_) | (exfalso; omega))
          all_goals first | (exfalso; omega) | exact ⟨_ + 1, hk, by omega, (Weak.aC hcx (by refine ⟨?_, ?_, ?_⟩ <;> simp [go_sem, gL, kL, renOf, V.obj, Nat.blt, Nat.ble, List.map_append, dv_push]))⟩ | trace_state
        · obtain ⟨y, hy, hym, hyd⟩ := get_some (show q < x.2.length by omega)
          have hget2 : (x.2.map D.str)[(((q + 1 : Nat) : Int) - 1).toNat]? = some (.str y) := by
            rw [show (((q + 1 : Nat) : Int) - 1).toNat = q by omega]; simp [hy]
          have hlt := riseS_at2 hok.ris hy hax (Nat.lt_succ_self q)
          repeat' (first | ((first | refine AW.sreg rfl fun K hK => ?_ | refine AW.reg rfl ?_); simp only [go_sem, ↓reduceIte, List.length_map, hgeta, hget2, hlt, u3, u4]) | (refine AW.seq_k fun K hK => ?_) | (refine AW.block ?_) | (refine AW.skip ?_; simp only [Then, InBlock]) | (refine AW.cT ?_) | (refine AW.cF ?_) | (refine hK _ ?_; clear hK K) | (refine stepB_split (fun h => ?_) (fun h => ?_) <;> (have hb0 := h) <;> (try simp only [Bool.not_eq_true', Bool.not_eq_false'] at hb0) <;> (try simp only [decide_eq_true_eq, decide_eq_false_iff_not, Bool.not_eq_true', Bool.not_eq_false', Bool.not_eq_eq_eq_not, Bool.not_true, Bool.not_false, beq_iff_eq, bne_iff_ne, beq_eq_false_iff_ne, ne_eq, Bool.and_eq_true, Bool.or_eq_true, Bool.or_eq_false_iff] at h) <;> simp only [go_sem, ↓reduceIte, hb0, h, decide_true, decide_false, List.length_map, hgeta, hget2, hlt, u3, u4] <;> (try clear hb0)) | (with_reducible refine andI ?_) | (exfalso; omega))
          all_goals first | (exfalso; omega) | exact ⟨_ + 1, hk, by omega, (Weak.aC hcx (by refine ⟨?_, ?_, ?_⟩ <;> simp [go_sem, gL, kL, renOf, V.obj, Nat.blt, Nat.ble, List.map_append, dv_push]))⟩ | trace_state
    · obtain rfl : k = x.2.length := by omega
      rcases i with _ | j
      · repeat' (first | ((first | refine AW.sreg rfl fun K hK => ?_ | refine AW.sregD hmix rfl fun K hK => ?_ | refine AW.reg rfl ?_); simp only [go_sem, ↓reduceIte, List.length_map]) | (refine AW.seq_k fun K hK => ?_) | (refine AW.skip ?_; simp only [Then, InBlock]) | (refine AW.exit ?_; simp only [go_sem, ↓reduceIte]) | (refine AW.cF ?_) | (refine hK _ ?_; clear hK K) | (clear hK K; refine hK _ ?_; clear hK K) | (refine stepBT_split (fun h => ?_) (fun h => ?_) <;> (have hb0 := h) <;> (try simp only [Bool.not_eq_true', Bool.not_eq_false'] at hb0) <;> (try simp only [decide_eq_true_eq, decide_eq_false_iff_not, Bool.not_eq_true', Bool.not_eq_false', Bool.not_eq_eq_eq_not, Bool.not_true, Bool.not_false, beq_iff_eq, bne_iff_ne, beq_eq_false_iff_ne, ne_eq, Bool.and_eq_true, Bool.or_eq_true, Bool.or_eq_false_iff] at h) <;> simp only [go_sem, ↓reduceIte, hb0, h, decide_true, decide_false, List.length_map] <;> (try clear hb0)) | (with_reducible refine And.intro (?_ : regOk _ _ = true) ?_; kernel_rfl) | (with_reducible refine andI ?_) | (exfalso; omega))
        all_goals first | (exfalso; omega) | exact ⟨_ + 1, hi, by omega, (Weak.aC hcx (by refine ⟨?_, ?_, ?_⟩ <;> simp [go_sem, gL, kL, renOf, V.obj, Nat.blt, Nat.ble, List.map_append, dv_push]))⟩ | trace_state
      · obtain ⟨y, hy, hym, hyd⟩ := get_some (show j < ws.length by omega)
        have hget2 : (ws.map wkD)[(((j + 1 : Nat) : Int) - 1).toNat]? = some (wkD y) := by
          rw [show (((j + 1 : Nat) : Int) - 1).toNat = j by omega]; simp [hy]
        have hlt := pw_at ho.ris hy hx (Nat.lt_succ_self j)
        have hch := compareWorks_any y x (by have := (ho.wk y hym).len.2; omega) (by omega)
        repeat' (first | ((first | refine AW.sreg rfl fun K hK => ?_ | refine AW.sregD hmix rfl fun K hK => ?_ | refine AW.reg rfl ?_ | refine runT_call _ _ [] (fun hv _ => (hch).pure rfl rfl hv _) rfl rfl (dstOk_of rfl) rfl rfl ?_); simp only [go_sem, ↓reduceIte, List.length_map, hget2]) | (refine AW.seq_k fun K hK => ?_) | (refine AW.skip ?_; simp only [Then, InBlock]) | (refine AW.exit ?_; simp only [go_sem, ↓reduceIte]) | (refine AW.cT ?_) | (refine AW.cF ?_) | (refine hK _ ?_; clear hK K) | (clear hK K; refine hK _ ?_; clear hK K) | (refine stepBT_split (fun h => ?_) (fun h => ?_) <;> (have hb0 := h) <;> (try simp only [Bool.not_eq_true', Bool.not_eq_false'] at hb0) <;> (try simp only [decide_eq_true_eq, decide_eq_false_iff_not, Bool.not_eq_true', Bool.not_eq_false', Bool.not_eq_eq_eq_not, Bool.not_true, Bool.not_false, beq_iff_eq, bne_iff_ne, beq_eq_false_iff_ne, ne_eq, Bool.and_eq_true, Bool.or_eq_true, Bool.or_eq_false_iff] at h) <;> simp only [go_sem, ↓reduceIte, hb0, h, decide_true, decide_false, List.length_map, hget2] <;> (try clear hb0)) | (with_reducible refine And.intro (?_ : regOk _ _ = true) ?_; kernel_rfl) | (with_reducible refine andI ?_) | (exfalso; omega))
        all_goals first | (exfalso; omega) | exact ⟨_ + 1, hi, by omega, (Weak.aC hcx (by refine ⟨?_, ?_, ?_⟩ <;> simp [go_sem, gL, kL, renOf, V.obj, Nat.blt, Nat.ble, List.map_append, dv_push]))⟩ | trace_state
  · obtain rfl : i = ws.length := by omega
    repeat' (first | (refine AW.sreg rfl fun K hK => ?_; simp only [go_sem, ↓reduceIte, List.length_map]) | (refine AW.seq_k fun K hK => ?_) | (refine AW.exit ?_; simp only [go_sem, ↓reduceIte]) | (refine AW.cF ?_) | (refine hK _ ?_; clear hK K) | (clear hK K; refine hK _ ?_; clear hK K) | (refine AW.ret (Fin.data rfl (by first | (simp only [go_sem]; done) | (simp [go_sem, *]; done) | (simp [go_sem]; omega) | rfl) rfl)))
theorem bondsFault_ok {pes : List Pe} (hnd : (pes.map (·.key)).Nodup) {bs : List Bo} (ho : OkBs (pes.map (·.key)) bs) : Does Tryz.prog 104 [.d (.sl (bs.map boD)), .d (kyD pes)] [] (I 0) [] := by
  have hl := ho.len
  refine Does.of_AW (n := 61) Tryz.func104 rfl rfl rfl fun cx hcx => ?_
  repeat' (first | (refine AW.sreg rfl fun K hK => ?_; simp only [go_sem, ↓reduceIte, List.length_map]) | (refine AW.seq_k fun K hK => ?_) | (refine AW.block ?_) | (refine AW.skip ?_; simp only [Then, InBlock]) | (refine AW.cF ?_) | (refine hK _ ?_; clear hK K))
  refine AW.loopF (ι := Nat) [0, 1, 14, 15] (fun p => [(16, I p)]) (fun p => []) 20 (fun p => p ≤ bs.length) (fun p => bs.length - p) 0 (Nat.zero_le _) (Weak.aC hcx (by refine ⟨?_, ?_, ?_⟩ <;> simp [go_sem, gL, kL, renOf, V.obj, Nat.blt, Nat.ble, List.map_append, dv_push])) ?_; simp only [St.at_nil, St.at_cons, lk, Nat.reduceEqDiff, ↓reduceIte, Option.getD_some, Option.getD_none, List.cons_append, List.nil_append, List.append_nil]
  intro i h1
  by_cases hi : i < bs.length
  · obtain ⟨x, hx, hxm, hxd⟩ := get_some hi
    have hget : (bs.map boD)[i]? = some (boD x) := by simp [hx]
    obtain ⟨b1, b2, b3⟩ := ho.bo x hxm
    have e0 : (Op.bytesLess x.2 x.1 || x.2 == x.1) = false := by
      have h2 : Op.bytesLess x.2 x.1 = false := ltS_asymm b3
      have h3 : (x.2 == x.1) = false := by
        have := ltS_ne b3
        simpa using fun e => this e.symm
      rw [h2, h3]
      rfl
    rcases ky_find hnd x.1 with ⟨u1, u2⟩ | ⟨j1, p1, u1, u2, u3, u4⟩
    · exact absurd b1 u1
    rcases ky_find hnd x.2 with ⟨v1, v2⟩ | ⟨j2, p2, v1, v2, v3, v4⟩
    · exact absurd b2 v1
    rcases i with _ | j
    · repeat' (first | ((first | refine AW.sreg rfl fun K hK => ?_ | refine AW.sregD hmix rfl fun K hK => ?_ | refine AW.reg rfl ?_); simp only [go_sem, ↓reduceIte, List.length_map, hget, u3, u4, v3, v4, e0]) | (refine AW.seq_k fun K hK => ?_) | (refine AW.block ?_) | (refine AW.skip ?_; simp only [Then, InBlock]) | (refine AW.cT ?_) | (refine AW.cF ?_) | (refine hK _ ?_; clear hK K) | (refine stepBT_split (fun h => ?_) (fun h => ?_) <;> (have hb0 := h) <;> (try simp only [Bool.not_eq_true', Bool.not_eq_false'] at hb0) <;> (try simp only [decide_eq_true_eq, decide_eq_false_iff_not, Bool.not_eq_true', Bool.not_eq_false', Bool.not_eq_eq_eq_not, Bool.not_true, Bool.not_false, beq_iff_eq, bne_iff_ne, beq_eq_false_iff_ne, ne_eq, Bool.and_eq_true, Bool.or_eq_true, Bool.or_eq_false_iff] at h) <;> simp only [go_sem, ↓reduceIte, hb0, h, decide_true, decide_false, List.length_map, hget, u3, u4, v3, v4, e0] <;> (try clear hb0)) | (with_reducible refine And.intro (?_ : regOk _ _ = true) ?_; kernel_rfl) | (with_reducible refine andI ?_) | (exfalso; omega))
      all_goals first | (exfalso; omega) | exact ⟨_ + 1, hi, by omega, (Weak.aC hcx (by refine ⟨?_, ?_, ?_⟩ <;> simp [go_sem, gL, kL, renOf, V.obj, Nat.blt, Nat.ble, List.map_append, dv_push]))⟩ | trace_state
    · obtain ⟨y, hy, hym, hyd⟩ := get_some (show j < bs.length by omega)
      have hget2 : (bs.map boD)[(((j + 1 : Nat) : Int) - 1).toNat]? = some (boD y) := by
        rw [show (((j + 1 : Nat) : Int) - 1).toNat = j by omega]; simp [hy]
      have hlt := pw_at ho.ris hy hx (Nat.lt_succ_self j)
      have hch := compareBonds_any y x
      repeat' (first | ((first | refine AW.sreg rfl fun K hK => ?_ | refine AW.sregD hmix rfl fun K hK => ?_ | refine AW.reg rfl ?_ | refine runT_call _ _ [] (fun hv _ => (hch).pure rfl rfl hv _) rfl rfl (dstOk_of rfl) rfl rfl ?_); simp only [go_sem, ↓reduceIte, List.length_map, hget, hget2, u3, u4, v3, v4, e0]) | (refine AW.seq_k fun K hK => ?_) | (refine AW.block ?_) | (refine AW.skip ?_; simp only [Then, InBlock]) | (refine AW.cT ?_) | (refine AW.cF ?_) | (refine hK _ ?_; clear hK K) | (refine stepBT_split (fun h => ?_) (fun h => ?_) <;> (have hb0 := h) <;> (try simp only [Bool.not_eq_true', Bool.not_eq_false'] at hb0) <;> (try simp only [decide_eq_true_eq, decide_eq_false_iff_not, Bool.not_eq_true', Bool.not_eq_false', Bool.not_eq_eq_eq_not, Bool.not_true, Bool.not_false, beq_iff_eq, bne_iff_ne, beq_eq_false_iff_ne, ne_eq, Bool.and_eq_true, Bool.or_eq_true, Bool.or_eq_false_iff] at h) <;> simp only [go_sem, ↓reduceIte, hb0, h, decide_true, decide_false, List.length_map, hget, hget2, u3, u4, v3, v4, e0] <;> (try clear hb0)) | (with_reducible refine And.intro (?_ : regOk _ _ = true) ?_; kernel_rfl) | (with_reducible refine andI ?_) | (exfalso; omega))
      all_goals first | (exfalso; omega) | exact ⟨_ + 1, hi, by omega, (Weak.aC hcx (by refine ⟨?_, ?_, ?_⟩ <;> simp [go_sem, gL, kL, renOf, V.obj, Nat.blt, Nat.ble, List.map_append, dv_push]))⟩ | trace_state
  · obtain rfl : i = bs.length := by omega
    repeat' (first | (refine AW.sreg rfl fun K hK => ?_; simp only [go_sem, ↓reduceIte, List.length_map]) | (refine AW.seq_k fun K hK => ?_) | (refine AW.exit ?_; simp only [go_sem, ↓reduceIte]) | (refine AW.cF ?_) | (refine hK _ ?_; clear hK K) | (clear hK K; refine hK _ ?_; clear hK K) | (refine AW.ret (Fin.data rfl (by first | (simp only [go_sem]; done) | (simp [go_sem, *]; done) | (simp [go_sem]; omega) | rfl) rfl)))
theorem check_ok {w : Wo} (ho : OkW w) : Does Tryz.prog 35 [.d (woD w)] [] (I 0) [] := by
  have h1 := placesFault_ok ho.pl
  have h2 := peopleFault_ok ho
  have h3 := keysOf_any w (by have := ho.len; omega) ho.nd
  have h4 := worksFault_ok ho.nd ho.wk
  have h5 := bondsFault_ok ho.nd ho.bo
  obtain ⟨pls, ps, wks, bos⟩ := w
  simp only at h1 h2 h3 h4 h5
  refine Does.of_AW (n := 31) Tryz.func35 rfl rfl rfl fun cx hcx => ?_
  repeat' (first | ((first | refine AW.sreg rfl fun K hK => ?_ | refine run_call _ _ _ ((h1).pure rfl rfl _ _) rfl rfl (dstOk_of rfl) rfl rfl rfl ?_ | refine run_call _ _ _ ((h2).pure rfl rfl _ _) rfl rfl (dstOk_of rfl) rfl rfl rfl ?_ | refine run_call _ _ _ ((h3).pure rfl rfl _ _) rfl rfl (dstOk_of rfl) rfl rfl rfl ?_ | refine run_call _ _ _ ((h4).pure rfl rfl _ _) rfl rfl (dstOk_of rfl) rfl rfl rfl ?_ | refine run_call _ _ _ ((h5).pure rfl rfl _ _) rfl rfl (dstOk_of rfl) rfl rfl rfl ?_); simp only [go_sem, ↓reduceIte]) | (refine AW.seq_k fun K hK => ?_) | (refine AW.skip ?_; simp only [Then, InBlock]) | (refine AW.cF ?_) | (refine hK _ ?_; clear hK K) | (refine AW.ret (Fin.data rfl (by first | (simp only [go_sem]; done) | (simp [go_sem, *]; done) | (simp [go_sem]; omega) | rfl) rfl)))
end Go.AX

namespace Go.AX
open Go Go.Proofs Go.RowKit
theorem dv_takeP (q : List D) (r : List D) : (dv (q ++ r)).take q.length = dv q := by simp [dv]
theorem frz_slrP {hv : Nat → Option O} {keep : Nat → Bool} {id e s n : Nat} {xs ys : List D} (hk : keep id = false) (h : hv id = some (.vec e s (dv (xs ++ ys)))) (hn : n = xs.length) : frz hv keep (.slr id 0 n) = .d (.sl xs) := by
  subst hn
  have hle : xs.length ≤ xs.length + ys.length := Nat.le_add_right _ _
  have e : toD hv keep 8 (.slr id 0 xs.length) = some (.sl xs) := by
    rw [toD]
    simp only [hk, Bool.false_eq_true, if_false, h, dv_length, List.length_append, Nat.zero_add, hle, if_true, List.drop_zero]
    rw [dv_takeP, show toDL (toD hv keep 7) (dv xs) = some xs from toDL_dv hv keep 6 xs]
  simp only [frz, hk, Bool.false_eq_true, if_false, e]
theorem Cp.comap {α β : Type} {c : β → β → Int} (h : Cp c) (f : α → β) (hf : ∀ a b, f a = f b → a = b) : Cp (fun a b => c (f a) (f b)) where
  eq a b := ⟨fun e => hf _ _ ((h.eq _ _).1 e), fun e => by rw [e]; exact (h.eq _ _).2 rfl⟩
  sy a b := h.sy _ _
  tr a b d := h.tr _ _ _
theorem cpH_lex (a b : Hm) : cpH a b = lexC cmpZ (lexC Lib.compareBytes cmpZ) (a.2.1, a.1, a.2.2) (b.2.1, b.1, b.2.2) := by
  have hz : ∀ x y, cmpI x y = cmpZ x y := fun _ _ => rfl
  simp only [orI, cpH, lexC, hz]
  repeat' split
  all_goals first | rfl | simp_all
theorem cp_home : Cp cpH := by
  have h := Cp.comap (cp_int.lex (cp_str.lex cp_int)) (fun a : Hm => (a.2.1, a.1, a.2.2)) (by
    rintro ⟨a1, a2, a3⟩ ⟨b1, b2, b3⟩ e
    simp only [Prod.mk.injEq] at e ⊢
    exact ⟨e.2.1, e.1, e.2.2⟩)
  have e : cpH = fun a b : Hm => lexC cmpZ (lexC Lib.compareBytes cmpZ) (a.2.1, a.1, a.2.2) (b.2.1, b.1, b.2.2) := funext fun a => funext fun b => cpH_lex a b
  rw [e]
  exact h
theorem cpB_lex (a b : Bo) : cpB a b = lexC Lib.compareBytes Lib.compareBytes a b := by
  simp only [orI, cpB, lexC]
  repeat' split
  all_goals first | rfl | simp_all
theorem cp_bond : Cp cpB := by
  have e : cpB = lexC Lib.compareBytes Lib.compareBytes := funext fun a => funext fun b => cpB_lex a b
  rw [e]
  exact cp_str.lex cp_str
theorem cp_list : Cp cmpL where
  eq := by
    intro a
    induction a with
    | nil => intro b; cases b <;> simp [cmpL]
    | cons x xs ih =>
      intro b
      cases b with
      | nil => simp [cmpL]
      | cons y ys =>
        have e := cp_str.eq x y
        rw [cmpL]
        split
        · rename_i hn
          constructor
          · intro h; exact absurd h hn
          · intro h; cases h; exact absurd (e.2 rfl) hn
        · rename_i hn
          simp only [ne_eq, Decidable.not_not] at hn
          obtain rfl := e.1 hn
          rw [ih]
          simp
  sy := by
    intro a
    induction a with
    | nil => intro b; cases b <;> simp [cmpL]
    | cons x xs ih =>
      intro b
      cases b with
      | nil => simp [cmpL]
      | cons y ys =>
        have e := cp_str.eq x y
        have e' := cp_str.eq y x
        have s := cp_str.sy x y
        rw [cmpL, cmpL]
        by_cases hx : x = y
        · rw [if_neg (by simp [e.2 hx]), if_neg (by simp [e'.2 hx.symm])]
          exact ih ys
        · rw [if_pos (fun h0 => hx (e.1 h0)), if_pos (fun h0 => hx (e'.1 h0).symm)]
          exact s
  tr := by
    intro a
    induction a with
    | nil =>
      intro b d h1 h2
      cases b with
      | nil => simp [cmpL] at h1
      | cons y ys =>
        cases d with
        | nil => simp [cmpL] at h2
        | cons z zs => simp [cmpL]
    | cons x xs ih =>
      intro b d h1 h2
      cases b with
      | nil => simp [cmpL] at h1
      | cons y ys =>
        cases d with
        | nil => simp [cmpL] at h2
        | cons z zs =>
          rw [cmpL] at h1 h2 ⊢
          by_cases hx : x = y
          · by_cases hy : y = z
            · rw [if_neg (by simp [(cp_str.eq _ _).2 hx])] at h1
              rw [if_neg (by simp [(cp_str.eq _ _).2 hy])] at h2
              rw [if_neg (by simp [(cp_str.eq _ _).2 (hx.trans hy)])]
              exact ih _ _ h1 h2
            · rw [if_pos (fun h0 => hy ((cp_str.eq _ _).1 h0))] at h2
              rw [hx, if_pos (fun h0 => hy ((cp_str.eq _ _).1 h0))]
              exact h2
          · rw [if_pos (fun h0 => hx ((cp_str.eq _ _).1 h0))] at h1
            by_cases hy : y = z
            · rw [← hy, if_pos (fun h0 => hx ((cp_str.eq _ _).1 h0))]
              exact h1
            · rw [if_pos (fun h0 => hy ((cp_str.eq _ _).1 h0))] at h2
              have h3 := cp_str.tr _ _ _ h1 h2
              rw [if_pos (by omega)]
              exact h3
theorem cpW_lex (a b : Wk) : cpW a b = lexC cmpZ cmpL a b := by
  have hz : ∀ x y, cmpI x y = cmpZ x y := fun _ _ => rfl
  simp only [orI, cpW, lexC, hz]
  repeat' split
  all_goals first | rfl | simp_all
theorem cp_work : Cp cpW := by
  have e : cpW = lexC cmpZ cmpL := funext fun a => funext fun b => cpW_lex a b
  rw [e]
  exact cp_int.lex cp_list
/-- Sorted, each once. -/
def srtC {α : Type} [BEq α] (c : α → α → Int) (l : List α) : List α := compactM (isort (fun a b => decide (c a b < 0)) l)
theorem srtC_rise {α : Type} [BEq α] [LawfulBEq α] {c : α → α → Int} (h : Cp c) (l : List α) : (srtC c l).Pairwise fun a b => c a b < 0 :=
  List.Pairwise.imp (fun h => of_decide_eq_true h) (compactM_rise (lt := ltC c) h.tot h.trs _ (isort_sorted h.asy h.ntr l))
theorem srtC_mem {α : Type} [BEq α] [LawfulBEq α] (c : α → α → Int) (l : List α) (x : α) : x ∈ srtC c l ↔ x ∈ l := by
  rw [srtC, compactM_mem, (isort_perm _ _).mem_iff]
theorem srtC_len {α : Type} [BEq α] (c : α → α → Int) (l : List α) : (srtC c l).length ≤ l.length := by
  have h1 := compactM_len (isort (fun a b => decide (c a b < 0)) l)
  have h2 := (isort_perm (fun a b => decide (c a b < 0)) l).length_eq
  unfold srtC
  omega
end Go.AX

namespace Go.AX
open Go Go.Proofs Go.RowKit
def K4 : List Str := [[100, 101, 112, 116], [105, 110, 115, 116], [108, 97, 98], [117, 110, 105]]
structure PlR (i : Nat) (ps : List Pl) : Prop where
  len : ps.length ≤ i
  key : ∀ p ∈ ps, p.1 ∈ K4.take i
  par : ∀ p ∈ ps, p.2 = [] ∨ (p.2 ∈ K4 ∧ ltS p.1 p.2 = true)
  ris : ps.Pairwise fun a b => ltS a.1 b.1 = true
theorem PlR.skip {i : Nat} {ps : List Pl} (h : PlR i ps) : PlR (i + 1) ps where
  len := by have := h.len; omega
  key p hp := by
    have := h.key p hp
    rw [List.take_add_one]
    exact List.mem_append_left _ this
  par := h.par
  ris := h.ris
theorem K4_ris : K4.Pairwise fun a b => ltS a b = true := by decide
theorem K4_lt {i : Nat} {k x : Str} (hi : K4[i]? = some k) (hx : x ∈ K4.take i) : ltS x k = true := by
  obtain ⟨j, hj⟩ := List.getElem?_of_mem hx
  have hji : j < i := by
    have := (List.getElem?_eq_some_iff.1 hj).1
    simp at this
    omega
  rw [List.getElem?_take_of_lt hji] at hj
  exact pw_at K4_ris hj hi hji
theorem PlR.app {i : Nat} {ps : List Pl} (h : PlR i ps) {k q : Str} (hi : K4[i]? = some k) (hq : q = [] ∨ (q ∈ K4 ∧ ltS k q = true)) : PlR (i + 1) (ps ++ [(k, q)]) where
  len := by have := h.len; simp; omega
  key p hp := by
    rw [List.take_add_one, hi]
    rcases List.mem_append.1 hp with hp | hp
    · exact List.mem_append_left _ (h.key p hp)
    · obtain rfl := List.mem_singleton.1 hp
      simp
  par p hp := by
    rcases List.mem_append.1 hp with hp | hp
    · exact h.par p hp
    · obtain rfl := List.mem_singleton.1 hp
      exact hq
  ris := by
    rw [List.pairwise_append]
    refine ⟨h.ris, List.pairwise_singleton _ _, ?_⟩
    intro a ha b hb
    obtain rfl := List.mem_singleton.1 hb
    exact K4_lt hi (h.key a ha)
/-- A place without a place above that is not there. -/
def cln (ks : List Str) (p : Pl) : Pl := if p.2 ∈ ks then p else (p.1, [])
theorem cln_key (ks : List Str) (p : Pl) : (cln ks p).1 = p.1 := by unfold cln; split <;> rfl
theorem cln_keys (ks : List Str) (ps : List Pl) : (ps.map (cln ks)).map (·.1) = ps.map (·.1) := by
  rw [List.map_map]
  exact List.map_congr_left fun p _ => cln_key ks p
def rk4 (k : Str) : Nat := K4.findIdx (fun x => x == k)
theorem rk4_lt : ∀ a ∈ K4, ∀ b ∈ K4, ltS a b = true → rk4 a < rk4 b := by decide
theorem K4_key : ∀ s ∈ K4, keyB s = true ∧ s.length ≤ 1000 := by decide
theorem rk4_le (k : Str) : rk4 k ≤ 1000 := by
  have : rk4 k ≤ K4.length := List.findIdx_le_length
  simp [K4] at this
  omega
theorem cln_ok {ps : List Pl} (h : PlR 4 ps) : OkPl (ps.map (cln (ps.map (·.1)))) := by
  have hk4 : ∀ p ∈ ps, p.1 ∈ K4 := fun p hp => List.mem_of_mem_take (h.key p hp)
  constructor
  · have := h.len; simp; omega
  · rw [List.pairwise_map]
    exact h.ris.imp (by intro a b h; rw [cln_key, cln_key]; exact h)
  · intro p hp
    obtain ⟨q, hq, rfl⟩ := List.mem_map.1 hp
    rw [cln_key]
    exact K4_key _ (hk4 q hq)
  · intro p hp
    rw [cln_keys]
    obtain ⟨q, hq, rfl⟩ := List.mem_map.1 hp
    unfold cln
    split
    · rename_i hm; exact .inr hm
    · exact .inl rfl
  · refine ⟨rk4, rk4_le, ?_⟩
    intro p hp hne
    obtain ⟨q, hq, rfl⟩ := List.mem_map.1 hp
    unfold cln at hne ⊢
    split
    · rename_i hm
      rw [if_pos hm] at hne
      rcases h.par q hq with e | ⟨e1, e2⟩
      · exact absurd e hne
      · exact rk4_lt _ (hk4 q hq) _ e1 e2
    · rename_i hm
      rw [if_neg hm] at hne
      exact absurd rfl hne
end Go.AX

namespace Go.AX
open Go Go.Proofs Go.RowKit
end Go.AX
