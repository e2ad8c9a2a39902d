/- Lists that are grouped by keys: the plain law. -/
import Derived.Test.YtlejkdigdkeocaaGreatDoorCA
import Derived.Test.YtlejkdigdkeocaaGreatDoorAx36
set_option linter.unusedSimpArgs false
set_option linter.unusedVariables false
set_option maxRecDepth 1000000
set_option maxHeartbeats 4000000
set_option linter.unnecessarySimpa false
namespace Go.AX
open Go
section
variable {κ ν α : Type} [DecidableEq κ]
def addG : List (κ × List ν) → κ → ν → List (κ × List ν)
  | [], k, n => [(k, [n])]
  | g :: r, k, n => if g.1 = k then (k, g.2 ++ [n]) :: r else g :: addG r k n
theorem addG_in {k : κ} {n : ν} : ∀ {gs : List (κ × List ν)} {j : Nat} {g : κ × List ν}, (gs.map (·.1)).Nodup → gs[j]? = some g → g.1 = k → addG gs k n = gs.set j (k, g.2 ++ [n])
  | [], _, _, _, h, _ => by simp at h
  | x :: r, 0, g, _, h, e => by
    simp only [List.getElem?_cons_zero, Option.some.injEq] at h
    subst h
    simp [addG, e]
  | x :: r, j + 1, g, hn, h, e => by
    simp only [List.getElem?_cons_succ] at h
    simp only [List.map_cons, List.nodup_cons] at hn
    have hx : x.1 ≠ k := fun e2 => hn.1 (by rw [e2, ← e]; exact List.mem_map_of_mem (List.mem_of_getElem? h))
    simp only [addG, if_neg hx, List.set_cons_succ, addG_in hn.2 h e]
theorem addG_out {k : κ} {n : ν} : ∀ {gs : List (κ × List ν)}, k ∉ gs.map (·.1) → addG gs k n = gs ++ [(k, [n])]
  | [], _ => rfl
  | x :: r, h => by
    simp only [List.map_cons, List.mem_cons, not_or] at h
    simp only [addG, if_neg (Ne.symm h.1), List.cons_append, addG_out h.2]
theorem addG_mem {k x : κ} {n : ν} {gs : List (κ × List ν)} : x ∈ (addG gs k n).map (·.1) ↔ x ∈ gs.map (·.1) ∨ x = k := by
  induction gs with
  | nil => simp [addG]
  | cons g r ih =>
    unfold addG
    split
    · rename_i e
      simp only [List.map_cons, List.mem_cons, e]
      constructor
      · rintro (h | h)
        · exact .inr h
        · exact .inl (.inr h)
      · rintro ((h | h) | h)
        · exact .inl h
        · exact .inr h
        · exact .inl h
    · simp only [List.map_cons, List.mem_cons, ih, or_assoc]
theorem addG_nd {k : κ} {n : ν} {gs : List (κ × List ν)} (h : (gs.map (·.1)).Nodup) : ((addG gs k n).map (·.1)).Nodup := by
  induction gs with
  | nil => simp [addG]
  | cons g r ih =>
    simp only [List.map_cons, List.nodup_cons] at h
    unfold addG
    split
    · rename_i e
      simp only [List.map_cons, List.nodup_cons]
      exact ⟨e ▸ h.1, h.2⟩
    · rename_i e
      simp only [List.map_cons, List.nodup_cons]
      refine ⟨fun hm => ?_, ih h.2⟩
      rcases addG_mem.1 hm with hm | hm
      · exact h.1 hm
      · exact e hm
theorem addG_pos {k : κ} {n : ν} {gs : List (κ × List ν)} (h : ∀ g ∈ gs, g.2 ≠ []) : ∀ g ∈ addG gs k n, g.2 ≠ [] := by
  induction gs with
  | nil => simp [addG]
  | cons x r ih =>
    unfold addG
    split
    · intro g hg
      rcases List.mem_cons.1 hg with rfl | hg
      · simp
      · exact h g (by simp [hg])
    · intro g hg
      rcases List.mem_cons.1 hg with rfl | hg
      · exact h _ (by simp)
      · exact ih (fun g hg => h g (by simp [hg])) g hg
/-- What stands under a key. -/
def rowG : List (κ × List ν) → κ → List ν
  | [], _ => []
  | g :: r, k => if g.1 = k then g.2 else rowG r k
theorem rowG_add {k k' : κ} {n : ν} : ∀ gs : List (κ × List ν), rowG (addG gs k n) k' = if k = k' then rowG gs k' ++ [n] else rowG gs k'
  | [] => by
    by_cases h : k = k' <;> simp [addG, rowG, h]
  | g :: r => by
    unfold addG
    split
    · rename_i e
      by_cases h : k = k'
      · simp [rowG, h, e]
      · have : ¬ g.1 = k' := fun e2 => h (e.symm.trans e2)
        simp [rowG, h, this]
    · rename_i e
      rw [rowG, rowG_add r]
      by_cases h : k = k'
      · have : ¬ g.1 = k' := fun e2 => e (e2.trans h.symm)
        simp [rowG, h, this]
      · simp [rowG, h]
theorem rowG_at : ∀ {gs : List (κ × List ν)} {g : κ × List ν}, (gs.map (·.1)).Nodup → g ∈ gs → rowG gs g.1 = g.2
  | [], g, _, h => by simp at h
  | x :: r, g, hn, h => by
    simp only [List.map_cons, List.nodup_cons] at hn
    rcases List.mem_cons.1 h with rfl | h
    · simp [rowG]
    · have hx : x.1 ≠ g.1 := fun e => hn.1 (e ▸ List.mem_map_of_mem h)
      rw [rowG, if_neg hx, rowG_at hn.2 h]
theorem rowG_out : ∀ {gs : List (κ × List ν)} {k : κ}, k ∉ gs.map (·.1) → rowG gs k = []
  | [], k, _ => rfl
  | x :: r, k, h => by
    simp only [List.map_cons, List.mem_cons, not_or] at h
    rw [rowG, if_neg (Ne.symm h.1), rowG_out h.2]
variable (key : α → κ) (val : α → ν)
/-- A list, grouped. -/
def grpF (xs : List α) : List (κ × List ν) := xs.foldl (fun gs x => addG gs (key x) (val x)) []
theorem grpF_app (xs : List α) (x : α) : grpF key val (xs ++ [x]) = addG (grpF key val xs) (key x) (val x) := by
  unfold grpF
  rw [List.foldl_append]
  rfl
theorem grpF_step {xs : List α} {i : Nat} {x : α} (h : xs[i]? = some x) : grpF key val (xs.take (i + 1)) = addG (grpF key val (xs.take i)) (key x) (val x) := by
  rw [List.take_add_one, h]
  exact grpF_app key val _ x
theorem fold_ok : ∀ (xs : List α) (gs : List (κ × List ν)), (gs.map (·.1)).Nodup → (∀ g ∈ gs, g.2 ≠ []) →
    ((xs.foldl (fun gs x => addG gs (key x) (val x)) gs).map (·.1)).Nodup ∧ (∀ g ∈ xs.foldl (fun gs x => addG gs (key x) (val x)) gs, g.2 ≠ []) ∧
    (∀ k, rowG (xs.foldl (fun gs x => addG gs (key x) (val x)) gs) k = rowG gs k ++ (xs.filter fun x => decide (key x = k)).map val) ∧
    ∀ k, k ∈ (xs.foldl (fun gs x => addG gs (key x) (val x)) gs).map (·.1) ↔ k ∈ gs.map (·.1) ∨ ∃ x ∈ xs, key x = k
  | [], gs, h1, h2 => ⟨h1, h2, fun k => by simp, fun k => by simp⟩
  | x :: r, gs, h1, h2 => by
    obtain ⟨i1, i2, i3, i4⟩ := fold_ok r (addG gs (key x) (val x)) (addG_nd h1) (addG_pos h2)
    simp only [List.foldl_cons]
    refine ⟨i1, i2, fun k => ?_, fun k => ?_⟩
    · rw [i3, rowG_add]
      by_cases h : key x = k
      · simp [h]
      · simp [h]
    · rw [i4, addG_mem]
      constructor
      · rintro ((h | rfl) | ⟨y, hy, e⟩)
        · exact .inl h
        · exact .inr ⟨x, by simp, rfl⟩
        · exact .inr ⟨y, by simp [hy], e⟩
      · rintro (h | ⟨y, hy, e⟩)
        · exact .inl (.inl h)
        · rcases List.mem_cons.1 hy with rfl | hy
          · exact .inl (.inr e.symm)
          · exact .inr ⟨y, hy, e⟩
theorem grpF_nd (xs : List α) : ((grpF key val xs).map (·.1)).Nodup := (fold_ok key val xs [] (by simp) (by simp)).1
theorem grpF_pos (xs : List α) : ∀ g ∈ grpF key val xs, g.2 ≠ [] := (fold_ok key val xs [] (by simp) (by simp)).2.1
theorem grpF_row (xs : List α) (k : κ) : rowG (grpF key val xs) k = (xs.filter fun x => decide (key x = k)).map val := by
  have := (fold_ok key val xs [] (by simp) (by simp)).2.2.1 k
  unfold grpF
  simpa [rowG] using this
theorem grpF_mem (xs : List α) (k : κ) : k ∈ (grpF key val xs).map (·.1) ↔ ∃ x ∈ xs, key x = k := by
  have := (fold_ok key val xs [] (by simp) (by simp)).2.2.2 k
  unfold grpF
  simpa using this
theorem grpF_at {xs : List α} {g : κ × List ν} (h : g ∈ grpF key val xs) : g.2 = (xs.filter fun x => decide (key x = g.1)).map val := by
  rw [← grpF_row, rowG_at (grpF_nd key val xs) h]
theorem grpF_rlen {xs : List α} {g : κ × List ν} (h : g ∈ grpF key val xs) : g.2.length ≤ xs.length := by
  rw [grpF_at key val h, List.length_map]
  exact List.length_filter_le ..
theorem addG_len (k : κ) (n : ν) : ∀ gs : List (κ × List ν), (addG gs k n).length ≤ gs.length + 1
  | [] => by simp [addG]
  | g :: r => by
    unfold addG
    split
    · simp
    · have := addG_len k n r
      simp only [List.length_cons]
      omega
theorem fold_len : ∀ (xs : List α) (gs : List (κ × List ν)), (xs.foldl (fun gs x => addG gs (key x) (val x)) gs).length ≤ gs.length + xs.length
  | [], gs => by simp
  | x :: r, gs => by
    have h1 := fold_len r (addG gs (key x) (val x))
    have h2 := addG_len (key x) (val x) gs
    simp only [List.foldl_cons, List.length_cons]
    omega
theorem grpF_len (xs : List α) : (grpF key val xs).length ≤ xs.length := by
  have := fold_len key val xs []
  unfold grpF
  simpa using this
end
theorem get_lt {α : Type} {xs : List α} {i : Nat} {x : α} (h : xs[i]? = some x) : i < xs.length := by
  rcases Nat.lt_or_ge i xs.length with h' | h'
  · exact h'
  · simp [List.getElem?_eq_none h'] at h
theorem set_same {α : Type} {l : List α} {i : Nat} {a : α} (h : l[i]? = some a) : l.set i a = l := by
  apply List.ext_getElem?
  intro k
  rw [List.getElem?_set]
  split
  · rename_i e
    subst e
    have hl : i < l.length := by
      rcases Nat.lt_or_ge i l.length with h' | h'
      · exact h'
      · simp [List.getElem?_eq_none h'] at h
    rw [if_pos hl, h]
  · rfl
/-- Where a string stands among keys. -/
theorem fnd_st (k : Str) : ∀ ks : List Str, fndK (.str k) (ks.map D.str) = some (ks.findIdx? fun x => k == x)
  | [] => rfl
  | x :: r => by
    have ih := fnd_st k r
    simp only [List.map_cons, fndK, sameK, sameP, ih, List.findIdx?_cons]
    cases h : (k == x : Bool)
    · cases List.findIdx? (fun x => k == x) r <;> simp
    · simp
theorem fidx_out {k : Str} {ks : List Str} (h : k ∉ ks) : (ks.findIdx? fun x => k == x) = none := by
  rw [List.findIdx?_eq_none_iff]
  intro x hx
  simp only [beq_eq_false_iff_ne, ne_eq]
  rintro rfl
  exact h hx
theorem fidx_in : ∀ {ks : List Str} {j : Nat} {k : Str}, ks.Nodup → ks[j]? = some k → (ks.findIdx? fun x => k == x) = some j
  | [], j, k, _, h => by simp at h
  | x :: ks, 0, k, _, h => by simp at h; subst h; simp [List.findIdx?_cons]
  | x :: ks, j + 1, k, hn, h => by
    have hn := List.nodup_cons.1 hn
    have h : ks[j]? = some k := by simpa using h
    have hx : k ≠ x := by rintro rfl; exact hn.1 (List.mem_of_getElem? h)
    rw [List.findIdx?_cons, if_neg (by simpa using hx), fidx_in hn.2 h]
    rfl
end Go.AX

namespace Go.AX
open Go Go.Proofs Go.RowKit
/-- A paper: id, track, title, authors, topics. -/
abbrev Pa := Str × Str × Str × List Str × List Str
abbrev paD (p : Pa) : D := .agg [.str p.1, .str p.2.1, .str p.2.2.1, .sl (p.2.2.2.1.map D.str), .sl (p.2.2.2.2.map D.str)]
def Id6 : List Str := [[112, 97], [112, 98], [112, 99], [112, 100], [112, 101], [112, 102]]
def IdS : List Str := Id6 ++ [[], [65]]
def TrS : List Str := [[109, 97, 105, 110], [100, 101, 109, 111], []]
def Ti3 : List Str := [[79, 110, 32, 116, 114, 101, 101, 115], [65, 32, 116, 105, 116, 108, 101], [82, 111, 111, 116, 115]]
def TiS : List Str := Ti3 ++ [[], [32, 120], [97, 32, 32, 98]] ++ [List.replicate 200 116, List.replicate 201 116]
def Au4 : List Str := [[97, 110, 110], [98, 111, 98], [99, 105, 100], [100, 101, 101]]
def AuS : List Str := Au4 ++ [[110, 111, 110, 101], [], [65]]
def ToS : List Str := [[97, 105], [100, 98], [], [65]]
abbrev KeyR (s : Str) : Prop := Does Tryz.prog 102 [S s] [] (B (keyB s)) []
theorem keyR_all : ∀ s ∈ IdS ++ TrS ++ AuS ++ ToS, KeyR s := by
  have h1 : (IdS ++ TrS).all (fun s => evalsTo Tryz.prog (CS Tryz.prog) 102 [S s] (B (keyB s))) = true := by kernel_rfl
  have h2 : (Au4 ++ [[110, 111, 110, 101], [97, 105], [100, 98]]).all (fun s => evalsTo Tryz.prog (CS Tryz.prog) 102 [S s] (B (keyB s))) = true := by kernel_rfl
  have hm : ∀ s ∈ IdS ++ TrS ++ AuS ++ ToS, s ∈ IdS ++ TrS ∨ s ∈ Au4 ++ [[110, 111, 110, 101], [97, 105], [100, 98]] := by decide
  intro s hs
  rcases hm s hs with h | h
  · exact evalsTo_ok CS_ok hmix (List.all_eq_true.1 h1 s h)
  · exact evalsTo_ok CS_ok hmix (List.all_eq_true.1 h2 s h)
theorem len_all40 : ∀ s ∈ IdS ++ TrS ++ AuS ++ ToS, s.length ≤ 40 := by decide
/-- A title that is plain. -/
def plnB (s : Str) : Bool := !(s == [32, 120] || s == [97, 32, 32, 98])
theorem plain_all : ∀ s ∈ TiS, Does Tryz.prog 180 [S s] [] (B (plnB s)) [] := by
  have h : TiS.all (fun s => evalsTo Tryz.prog (CS Tryz.prog) 180 [S s] (B (plnB s))) = true := by kernel_rfl
  exact fun s hs => evalsTo_ok CS_ok hmix (List.all_eq_true.1 h s hs)
def nmdB (s : Str) : Bool := !(s == []) && plnB s && decide (s.length ≤ 200)
theorem named_all : ∀ s ∈ TiS, Does Tryz.prog 164 [S s, I 200] [] (B (nmdB s)) [] := by
  have h : TiS.all (fun s => evalsTo Tryz.prog (CS Tryz.prog) 164 [S s, I 200] (B (nmdB s))) = true := by kernel_rfl
  exact fun s hs => evalsTo_ok CS_ok hmix (List.all_eq_true.1 h s hs)
theorem len_ti : ∀ s ∈ TiS, s.length ≤ 201 := by decide
/-- What may be drawn. -/
structure PaR (p : Pa) : Prop where
  id : p.1 ∈ IdS
  tr : p.2.1 ∈ TrS
  ti : p.2.2.1 ∈ TiS
  au : ∀ a ∈ p.2.2.2.1, a ∈ AuS
  aul : p.2.2.2.1.length ≤ 5
  tp : ∀ a ∈ p.2.2.2.2, a ∈ ToS
  tpl : p.2.2.2.2.length ≤ 3
theorem mem_keys {s : Str} (h : s ∈ IdS ∨ s ∈ TrS ∨ s ∈ AuS ∨ s ∈ ToS) : s ∈ IdS ++ TrS ++ AuS ++ ToS := by
  simp only [List.mem_append]
  rcases h with h | h | h | h
  · exact .inl (.inl (.inl h))
  · exact .inl (.inl (.inr h))
  · exact .inl (.inr h)
  · exact .inr h
theorem keyP {s : Str} (h : s ∈ IdS ∨ s ∈ TrS ∨ s ∈ AuS ∨ s ∈ ToS) : Does Tryz.prog 77 [S s] [] (B (keyB s)) [] := isKey_any s (by have := len_all40 s (mem_keys h); omega)
theorem keyRM {s : Str} (h : s ∈ IdS ∨ s ∈ TrS ∨ s ∈ AuS ∨ s ∈ ToS) : KeyR s := keyR_all s (mem_keys h)
end Go.AX

namespace Go.AX
open Go Go.Proofs Go.RowKit
theorem index_St (xs : List Str) (hl : xs.length ≤ 100000) (v : Str) :
    Does Tryz.prog 57 [.d (.sl (xs.map D.str)), S v] [] (I (idxG (fun x => v == x) xs 0)) [] := by
  refine Does.of_AW (n := 19) Tryz.func57 rfl rfl rfl fun cx hcx => ?_
  generalize hR : idxG (fun x => v == x) xs 0 = R
  repeat' (first | (refine AW.sreg rfl fun K hK => ?_; simp only [go_sem, ↓reduceIte, List.length_map]) | (refine AW.seq_k fun K hK => ?_) | (refine AW.block ?_) | (refine hK _ ?_; clear hK K))
  refine AW.loopF (ι := Nat) [0, 1, 7] (fun p => [(8, I p)]) (fun p => []) 1 (fun p => p ≤ xs.length ∧ idxG (fun x => v == x) (xs.drop p) p = R) (fun p => xs.length - p) 0 ⟨by simp, hR⟩ (Weak.aC hcx (by refine ⟨?_, ?_, ?_⟩ <;> simp [go_sem, gL, kL, renOf, V.obj, Nat.blt, Nat.ble, List.map_append, dv_push])) ?_; simp only [St.at_nil, St.at_cons, lk, Nat.reduceEqDiff, ↓reduceIte, Option.getD_some, Option.getD_none, List.cons_append, List.nil_append, List.append_nil]
  rintro i ⟨h1, h2⟩
  by_cases hi : i < xs.length
  · obtain ⟨x, hx, hxm, hxd⟩ := get_some hi
    have hget : (xs.map D.str)[i]? = some (.str x) := by simp [hx]
    rw [hxd, idxG] at h2
    repeat' (first | ((first | refine AW.sreg rfl fun K hK => ?_ | refine AW.reg rfl ?_); simp only [go_sem, ↓reduceIte, List.length_map, hget]) | (refine AW.seq_k fun K hK => ?_) | (refine AW.block ?_) | (refine AW.skip ?_; simp only [Then, InBlock]) | (refine AW.cT ?_) | (refine AW.cond rfl (fun h => ?_) (fun h => ?_) <;> (try simp only [decide_eq_true_eq, decide_eq_false_iff_not, Bool.not_eq_true', Bool.not_eq_false', Bool.not_eq_eq_eq_not, Bool.not_true, Bool.not_false, beq_iff_eq, bne_iff_ne, beq_eq_false_iff_ne, ne_eq, Bool.and_eq_true, Bool.or_eq_true, Bool.or_eq_false_iff] at h)) | (refine hK _ ?_; clear hK K) | (with_reducible refine andI ?_) | (refine AW.ret (Fin.data rfl (by first | (simp only [go_sem]; done) | ((rw [if_pos (by simpa using h)] at h2; subst h2; simp [go_sem]); done) | (simp [go_sem]; omega) | rfl) rfl)))
    rw [if_neg (by simpa using h)] at h2
    exact ⟨i + 1, ⟨hi, h2⟩, by omega, (Weak.aC hcx (by refine ⟨?_, ?_, ?_⟩ <;> simp [go_sem, gL, kL, renOf, V.obj, Nat.blt, Nat.ble, List.map_append, dv_push]))⟩
  · obtain rfl : i = xs.length := by omega
    simp only [List.drop_length, idxG] at h2
    subst h2
    repeat' (first | (refine AW.sreg rfl fun K hK => ?_; simp only [go_sem, ↓reduceIte, List.length_map]) | (refine AW.seq_k fun K hK => ?_) | (refine AW.exit ?_; simp only [go_sem, ↓reduceIte]) | (refine AW.cF ?_) | (refine hK _ ?_; clear hK K) | (clear hK K; refine hK _ ?_; clear hK K) | (refine AW.ret (Fin.data rfl (by first | (simp only [go_sem]; done) | (simp [go_sem, *]; done) | (simp [go_sem]; omega) | rfl) rfl)))
theorem contains_St (xs : List Str) (hl : xs.length ≤ 100000) (v : Str) :
    Does Tryz.prog 17 [.d (.sl (xs.map D.str)), S v] [] (B (xs.any fun x => v == x)) [] := by
  rw [← idxG_any (fun x => v == x) xs 0]
  refine Does.of_AW (n := 9) Tryz.func17 rfl rfl rfl fun cx hcx => ?_
  repeat' (first | ((first | refine AW.sreg rfl fun K hK => ?_ | refine run_call _ _ _ ((index_St xs hl v).pure rfl rfl _ _) rfl rfl (dstOk_of rfl) rfl rfl rfl ?_); simp only [go_sem, ↓reduceIte]) | (refine hK _ ?_; clear hK K) | (refine AW.ret (Fin.data rfl (by first | (simp only [go_sem]; done) | (simp [go_sem, *]; done) | (simp [go_sem]; omega) | rfl) rfl)))

/-- The first fault: each element with those ahead. -/
def goF {α : Type} (f : List α → α → Int) : List α → List α → Int
  | _, [] => 0
  | bs, p :: r => if f bs p ≠ 0 then f bs p else goF f (bs ++ [p]) r
theorem goF_step {α : Type} (f : List α → α → Int) {xs : List α} {i : Nat} {x : α} (h : xs[i]? = some x) : goF f (xs.take i) (xs.drop i) = if f (xs.take i) x ≠ 0 then f (xs.take i) x else goF f (xs.take (i + 1)) (xs.drop (i + 1)) := by
  have hl : i < xs.length := by
    rcases Nat.lt_or_ge i xs.length with h' | h'
    · exact h'
    · simp [List.getElem?_eq_none h'] at h
  have hd : xs.drop i = x :: xs.drop (i + 1) := by
    rw [List.getElem?_eq_getElem hl] at h
    cases h
    exact List.drop_eq_getElem_cons hl
  have ht : xs.take (i + 1) = xs.take i ++ [x] := by rw [List.take_add_one, h]; rfl
  rw [hd, goF, ht]
theorem goF_zero {α : Type} (f : List α → α → Int) : ∀ (r b : List α), goF f b r = 0 → ∀ i x, r[i]? = some x → f (b ++ r.take i) x = 0
  | [], b, _, i, x, h => by simp at h
  | p :: r, b, h0, i, x, h => by
    rw [goF] at h0
    by_cases hp : f b p = 0
    · rw [if_neg (by simpa using hp)] at h0
      cases i with
      | zero => simp at h; subst h; simpa using hp
      | succ i =>
        have := goF_zero f r (b ++ [p]) h0 i x (by simpa using h)
        simpa using this
    · rw [if_pos hp] at h0; exact absurd h0 hp
/-- Keys that differ. -/
def dfK (bs : List Str) (s : Str) : Int := if keyB s = false then 5 else if (bs.any fun x => s == x) = true then 6 else 0
def leS (a b : Str) : Bool := Op.bytesLess a b || a == b
/-- Topics that are drawn. -/
def ToL : List (List Str) := [[], [[97, 105]], [[97, 105], [100, 98]], [[]], [[65]], [[97, 105], []], [[97, 105], [97, 105]], [[97, 105], [65]], [[97, 105], [100, 98], []], [[97, 105], [100, 98], [97, 105]], [[97, 105], [100, 98], [65]]]
def rsF (l : List Str) : Int := if l.all keyB = false then 5 else if l = [[97, 105], [97, 105]] ∨ l = [[97, 105], [100, 98], [97, 105]] then 7 else 0
theorem rising_ToL : ∀ l ∈ ToL, Does Tryz.prog 165 [.d (.sl (l.map .str)), .fn 102 [], I 5] [] (I (rsF l)) [] := by
  have h : ToL.all (fun l => evalsTo Tryz.prog (CS Tryz.prog) 165 [.d (.sl (l.map .str)), .fn 102 [], I 5] (I (rsF l))) = true := by kernel_rfl
  exact fun s hs => evalsTo_ok CS_ok hmix (List.all_eq_true.1 h s hs)
theorem risingFault_ToL : ∀ l ∈ ToL, Does Tryz.prog 111 [.d (.sl (l.map .str))] [] (I (rsF l)) [] := by
  have h : ToL.all (fun l => evalsTo Tryz.prog (CS Tryz.prog) 111 [.d (.sl (l.map .str))] (I (rsF l))) = true := by kernel_rfl
  exact fun s hs => evalsTo_ok CS_ok hmix (List.all_eq_true.1 h s hs)
/-- A paper behind another one. -/
def paF (prev : Option Str) (p : Pa) : Int :=
  if (keyB p.1 && keyB p.2.1) = false then 5
  else if (match prev with | none => false | some y => leS p.1 y) = true then 7
  else if (nmdB p.2.2.1 && !p.2.2.2.1.isEmpty) = false then 3
  else if goF dfK [] p.2.2.2.1 ≠ 0 then goF dfK [] p.2.2.2.1
  else rsF p.2.2.2.2
theorem paF_some (y pid tr ti : Str) (au tp : List Str) : paF (some y) (pid, tr, ti, au, tp) = if (keyB pid && keyB tr) = false then 5 else if leS pid y = true then 7 else if (nmdB ti && !au.isEmpty) = false then 3 else if goF dfK [] au ≠ 0 then goF dfK [] au else rsF tp := rfl
theorem paF_nil (pid tr ti : Str) (au tp : List Str) : paF none (pid, tr, ti, au, tp) = if (keyB pid && keyB tr) = false then 5 else if (nmdB ti && !au.isEmpty) = false then 3 else if goF dfK [] au ≠ 0 then goF dfK [] au else rsF tp := rfl
def pasF (bs : List Pa) (p : Pa) : Int := paF (bs.getLast?.map (·.1)) p
theorem diffKeys_any (l : List Str) (hl : l.length ≤ 1000) (hs : ∀ s ∈ l, s.length ≤ 1000) : Does Tryz.prog 181 [.d (.sl (l.map D.str))] [] (I (goF dfK [] l)) [] := by
  refine Does.of_AW (n := 21) Tryz.func181 rfl rfl rfl fun cx hcx => ?_
  have hel : (l.map D.str).all (elemOkD 1) = true := by rw [List.all_map]; exact List.all_eq_true.2 fun _ _ => rfl
  generalize hT : goF dfK [] l = T
  repeat' (first | (refine AW.sreg rfl fun K hK => ?_; simp only [go_sem, ↓reduceIte, List.length_map]) | (refine AW.seq_k fun K hK => ?_) | (refine AW.block ?_) | (refine hK _ ?_; clear hK K))
  refine AW.loopF (ι := Nat) [0, 5, 6] (fun p => [(7, I p)]) (fun p => []) 7 (fun p => p ≤ l.length ∧ goF dfK (l.take p) (l.drop p) = T) (fun p => l.length - p) 0 ⟨by simp, hT⟩ (Weak.aC hcx (by refine ⟨?_, ?_, ?_⟩ <;> simp [go_sem, gL, kL, renOf, V.obj, Nat.blt, Nat.ble, List.map_append, dv_push])) ?_; simp only [St.at_nil, St.at_cons, lk, Nat.reduceEqDiff, ↓reduceIte, Option.getD_some, Option.getD_none, List.cons_append, List.nil_append, List.append_nil]
  rintro i ⟨g1, g2⟩
  by_cases hi : i < l.length
  · obtain ⟨x, hx, hxm, -⟩ := get_some hi
    have hget : (l.map D.str)[i]? = some (D.str x) := by simp only [List.getElem?_map, hx, Option.map_some]
    have hsub : List.take (i - 0) (l.map D.str) = (l.take i).map D.str := by simp
    rw [goF_step _ hx] at g2
    have hk := isKey_any x (by have := hs x hxm; omega)
    have hc := contains_St (l.take i) (by simp; omega) x
    have hF : dfK (l.take i) x = if keyB x = false then 5 else if ((l.take i).any fun y => x == y) = true then 6 else 0 := rfl
    generalize dfK (l.take i) x = F at *
    generalize keyB x = k at *
    generalize ((l.take i).any fun y => x == y) = c at *
    cases k with
    | false =>
      obtain rfl : F = 5 := by simpa using hF
      rw [if_pos (by decide)] at g2
      subst g2
      repeat' (first | ((first | refine AW.sreg rfl fun K hK => ?_ | refine run_call _ _ _ ((hk).pure rfl rfl _ _) rfl rfl (dstOk_of rfl) rfl rfl rfl ?_); simp only [go_sem, ↓reduceIte, List.length_map, hget]) | (refine AW.seq_k fun K hK => ?_) | (refine AW.block ?_) | (refine AW.skip ?_; simp only [Then, InBlock]) | (refine AW.cT ?_) | (refine hK _ ?_; clear hK K) | (with_reducible refine andI ?_) | (refine AW.ret (Fin.data rfl (by first | (simp only [go_sem]; done) | (simp [go_sem, *]; done) | (simp [go_sem]; omega) | rfl) rfl)))
    | true =>
    cases c with
    | true =>
      obtain rfl : F = 6 := by simpa using hF
      rw [if_pos (by decide)] at g2
      subst g2
      repeat' (first | ((first | refine AW.sreg rfl fun K hK => ?_ | refine run_call _ _ _ ((hk).pure rfl rfl _ _) rfl rfl (dstOk_of rfl) rfl rfl rfl ?_ | refine run_call _ _ _ ((hc).pure rfl rfl _ _) rfl rfl (dstOk_of rfl) rfl rfl rfl ?_); simp only [go_sem, ↓reduceIte, List.length_map, hget, hel, hsub, Int.le_refl]) | (refine AW.seq_k fun K hK => ?_) | (refine AW.block ?_) | (refine AW.skip ?_; simp only [Then, InBlock]) | (refine AW.cT ?_) | (refine AW.cF ?_) | (refine hK _ ?_; clear hK K) | (with_reducible refine andI ?_) | (refine AW.ret (Fin.data rfl (by first | (simp only [go_sem]; done) | (simp [go_sem, *]; done) | (simp [go_sem]; omega) | rfl) rfl)))
    | false =>
      obtain rfl : F = 0 := by simpa using hF
      rw [if_neg (by decide)] at g2
      repeat' (first | ((first | refine AW.sreg rfl fun K hK => ?_ | refine AW.reg rfl ?_ | refine run_call _ _ _ ((hk).pure rfl rfl _ _) rfl rfl (dstOk_of rfl) rfl rfl rfl ?_ | refine run_call _ _ _ ((hc).pure rfl rfl _ _) rfl rfl (dstOk_of rfl) rfl rfl rfl ?_); simp only [go_sem, ↓reduceIte, List.length_map, hget, hel, hsub, Int.le_refl]) | (refine AW.seq_k fun K hK => ?_) | (refine AW.block ?_) | (refine AW.skip ?_; simp only [Then, InBlock]) | (refine AW.cT ?_) | (refine AW.cF ?_) | (refine hK _ ?_; clear hK K) | (with_reducible refine andI ?_))
      exact ⟨i + 1, ⟨hi, g2⟩, by omega, (Weak.aC hcx (by refine ⟨?_, ?_, ?_⟩ <;> simp [go_sem, gL, kL, renOf, V.obj, Nat.blt, Nat.ble, List.map_append, dv_push]))⟩
  · obtain rfl : i = l.length := by omega
    rw [List.drop_length, goF] at g2
    subst g2
    repeat' (first | (refine AW.sreg rfl fun K hK => ?_; simp only [go_sem, ↓reduceIte, List.length_map]) | (refine AW.seq_k fun K hK => ?_) | (refine AW.exit ?_; simp only [go_sem, ↓reduceIte]) | (refine AW.cF ?_) | (refine hK _ ?_; clear hK K) | (clear hK K; refine hK _ ?_; clear hK K) | (refine AW.ret (Fin.data rfl (by first | (simp only [go_sem]; done) | (simp [go_sem, *]; done) | (simp [go_sem]; omega) | rfl) rfl)))
theorem author1_any {s : Str} (h : KeyR s) : Does Tryz.prog 101 [S s] [] (I (if keyB s = false then 5 else 0)) [] := by
  refine Does.of_AW (n := 6) Tryz.func101 rfl rfl rfl fun cx hcx => ?_
  unfold KeyR at h
  generalize keyB s = k at *
  cases k with
  | true => repeat' (first | ((first | refine AW.sreg rfl fun K hK => ?_ | refine run_call _ _ _ ((h).pure rfl rfl _ _) rfl rfl (dstOk_of rfl) rfl rfl rfl ?_); simp only [go_sem, ↓reduceIte]) | (refine AW.seq_k fun K hK => ?_) | (refine AW.skip ?_; simp only [Then, InBlock]) | (refine AW.cF ?_) | (refine hK _ ?_; clear hK K) | (refine AW.ret (Fin.data rfl (by first | (simp only [go_sem]; done) | (simp [go_sem, *]; done) | (simp [go_sem]; omega) | rfl) rfl)))
  | false => repeat' (first | ((first | refine AW.sreg rfl fun K hK => ?_ | refine run_call _ _ _ ((h).pure rfl rfl _ _) rfl rfl (dstOk_of rfl) rfl rfl rfl ?_); simp only [go_sem, ↓reduceIte]) | (refine AW.seq_k fun K hK => ?_) | (refine AW.cT ?_) | (refine hK _ ?_; clear hK K) | (refine AW.ret (Fin.data rfl (by first | (simp only [go_sem]; done) | (simp [go_sem, *]; done) | (simp [go_sem]; omega) | rfl) rfl)))
theorem paperForm_any {p : Pa} (hp : PaR p) (ht : p.2.2.2.2 ∈ ToL) (last : Str) : Does Tryz.prog 100 [.d (paD p), S last, .fn 101 []] [] (I (paF (some last) p)) [] := by
  obtain ⟨pid, tr, ti, au, tp⟩ := p
  obtain ⟨h1, h2, h3, h4, h5, h6, h7⟩ := hp
  dsimp only at h1 h2 h3 h4 h5 h6 h7 ht
  have k1 := keyRM (.inl h1)
  have k2 := keyRM (.inr (.inl h2))
  unfold KeyR at k1 k2
  have hn := named_all ti h3
  have hr := rising_ToL tp ht
  have hel : (au.map D.str).all (elemOkD 1) = true := by rw [List.all_map]; exact List.all_eq_true.2 fun _ _ => rfl
  refine Does.of_AW (n := 70) Tryz.func100 rfl rfl rfl fun cx hcx => ?_
  rw [paF_some]
  generalize keyB pid = b1 at *
  generalize keyB tr = b2 at *
  generalize nmdB ti = b3 at *
  cases b1 with
  | false =>
    rw [if_pos (by simp)]
    repeat' (first | ((first | refine AW.sreg rfl fun K hK => ?_ | refine run_call _ _ _ ((k1).pure rfl rfl _ _) rfl rfl (dstOk_of rfl) rfl rfl rfl ?_); simp only [go_sem, ↓reduceIte]) | (refine AW.seq_k fun K hK => ?_) | (refine AW.block ?_) | (refine AW.cT ?_) | (refine hK _ ?_; clear hK K) | (refine AW.ret (Fin.data rfl (by first | (simp only [go_sem]; done) | (simp [go_sem, *]; done) | (simp [go_sem]; omega) | rfl) rfl)))
  | true =>
  cases b2 with
  | false =>
    rw [if_pos (by simp)]
    repeat' (first | ((first | refine AW.sreg rfl fun K hK => ?_ | refine run_call _ _ _ ((k1).pure rfl rfl _ _) rfl rfl (dstOk_of rfl) rfl rfl rfl ?_ | refine run_call _ _ _ ((k2).pure rfl rfl _ _) rfl rfl (dstOk_of rfl) rfl rfl rfl ?_); simp only [go_sem, ↓reduceIte]) | (refine AW.seq_k fun K hK => ?_) | (refine AW.block ?_) | (refine AW.cT ?_) | (refine hK _ ?_; clear hK K) | (refine AW.ret (Fin.data rfl (by first | (simp only [go_sem]; done) | (simp [go_sem, *]; done) | (simp [go_sem]; omega) | rfl) rfl)))
  | true =>
  rw [if_neg (by simp)]
  have hle : (Op.bytesLess pid last || pid == last) = leS pid last := rfl
  generalize leS pid last = c at *
  cases c with
  | true =>
    rw [if_pos (by simp)]
    repeat' (first | ((first | refine AW.sreg rfl fun K hK => ?_ | refine run_call _ _ _ ((k1).pure rfl rfl _ _) rfl rfl (dstOk_of rfl) rfl rfl rfl ?_ | refine run_call _ _ _ ((k2).pure rfl rfl _ _) rfl rfl (dstOk_of rfl) rfl rfl rfl ?_); simp only [go_sem, ↓reduceIte, hle]) | (refine AW.seq_k fun K hK => ?_) | (refine AW.block ?_) | (refine AW.cT ?_) | (refine AW.cF ?_) | (refine hK _ ?_; clear hK K) | (refine AW.ret (Fin.data rfl (by first | (simp only [go_sem]; done) | (simp [go_sem, *]; done) | (simp [go_sem]; omega) | rfl) rfl)))
  | false =>
  rw [if_neg (by simp)]
  cases b3 with
  | false =>
    rw [if_pos (by simp)]
    repeat' (first | ((first | refine AW.sreg rfl fun K hK => ?_ | refine run_call _ _ _ ((k1).pure rfl rfl _ _) rfl rfl (dstOk_of rfl) rfl rfl rfl ?_ | refine run_call _ _ _ ((k2).pure rfl rfl _ _) rfl rfl (dstOk_of rfl) rfl rfl rfl ?_ | refine run_call _ _ _ ((hn).pure rfl rfl _ _) rfl rfl (dstOk_of rfl) rfl rfl rfl ?_); simp only [go_sem, ↓reduceIte, hle]) | (refine AW.seq_k fun K hK => ?_) | (refine AW.block ?_) | (refine AW.cT ?_) | (refine AW.cF ?_) | (refine hK _ ?_; clear hK K) | (refine AW.ret (Fin.data rfl (by first | (simp only [go_sem]; done) | (simp [go_sem, *]; done) | (simp [go_sem]; omega) | rfl) rfl)))
  | true =>
  by_cases ha : au = []
  · subst ha
    rw [if_pos (by simp)]
    repeat' (first | ((first | refine AW.sreg rfl fun K hK => ?_ | refine run_call _ _ _ ((k1).pure rfl rfl _ _) rfl rfl (dstOk_of rfl) rfl rfl rfl ?_ | refine run_call _ _ _ ((k2).pure rfl rfl _ _) rfl rfl (dstOk_of rfl) rfl rfl rfl ?_ | refine run_call _ _ _ ((hn).pure rfl rfl _ _) rfl rfl (dstOk_of rfl) rfl rfl rfl ?_); simp only [go_sem, ↓reduceIte, hle]) | (refine AW.seq_k fun K hK => ?_) | (refine AW.block ?_) | (refine AW.cT ?_) | (refine AW.cF ?_) | (refine hK _ ?_; clear hK K) | (refine AW.ret (Fin.data rfl (by first | (simp only [go_sem]; done) | (simp [go_sem, *]; done) | (simp [go_sem]; omega) | rfl) rfl)))
  have hpos : 0 < au.length := List.length_pos_iff.2 ha
  have hem : au.isEmpty = false := by simpa using ha
  rw [hem, if_neg (by simp)]
  have h0 : ((au.length : Int) == 0) = false := by simp; omega
  generalize hT : goF dfK [] au = T
  repeat' (first | ((first | refine AW.sreg rfl fun K hK => ?_ | refine run_call _ _ _ ((k1).pure rfl rfl _ _) rfl rfl (dstOk_of rfl) rfl rfl rfl ?_ | refine run_call _ _ _ ((k2).pure rfl rfl _ _) rfl rfl (dstOk_of rfl) rfl rfl rfl ?_ | refine run_call _ _ _ ((hn).pure rfl rfl _ _) rfl rfl (dstOk_of rfl) rfl rfl rfl ?_); simp only [go_sem, ↓reduceIte, hle, List.length_map, h0]) | (refine AW.seq_k fun K hK => ?_) | (refine AW.block ?_) | (refine AW.skip ?_; simp only [Then, InBlock]) | (refine AW.cF ?_) | (refine hK _ ?_; clear hK K))
  refine AW.loopF (ι := Nat) [2, 3, 43, 44] (fun p => [(45, I p)]) (fun p => [(0, some (O.box 47 [S pid, S tr, S ti, .d (.sl (au.map D.str)), .d (.sl (tp.map D.str))]))]) 80 (fun p => p ≤ au.length ∧ goF dfK (au.take p) (au.drop p) = T) (fun p => au.length - p) 0 ⟨by simp, hT⟩ (Weak.aC hcx (by refine ⟨?_, ?_, ?_⟩ <;> simp [go_sem, gL, kL, renOf, V.obj, Nat.blt, Nat.ble, List.map_append, dv_push])) ?_; simp only [St.at_nil, St.at_cons, lk, Nat.reduceEqDiff, ↓reduceIte, Option.getD_some, Option.getD_none, List.cons_append, List.nil_append, List.append_nil]
  rintro i ⟨g1, g2⟩
  by_cases hi : i < au.length
  · obtain ⟨x, hx, hxm, -⟩ := get_some hi
    have hget : (au.map D.str)[i]? = some (D.str x) := by simp only [List.getElem?_map, hx, Option.map_some]
    have hsub : List.take (i - 0) (au.map D.str) = (au.take i).map D.str := by simp
    rw [goF_step _ hx] at g2
    have hk := author1_any (keyRM (.inr (.inr (.inl (h4 x hxm)))))
    have hc := contains_St (au.take i) (by simp; omega) x
    have hF : dfK (au.take i) x = if keyB x = false then 5 else if ((au.take i).any fun y => x == y) = true then 6 else 0 := rfl
    generalize dfK (au.take i) x = F at *
    generalize keyB x = k at *
    generalize ((au.take i).any fun y => x == y) = c at *
    cases k with
    | false =>
      obtain rfl : F = 5 := by simpa using hF
      rw [if_pos (by decide)] at g2
      subst g2
      rw [if_pos (by simp)]
      rw [if_pos rfl] at hk
      repeat' (first | ((first | refine AW.sreg rfl fun K hK => ?_ | refine run_call _ _ _ ((hk).pure rfl rfl _ _) rfl rfl (dstOk_of rfl) rfl rfl rfl ?_); simp only [go_sem, ↓reduceIte, List.length_map, hget]) | (refine AW.seq_k fun K hK => ?_) | (refine AW.block ?_) | (refine AW.skip ?_; simp only [Then, InBlock]) | (refine AW.cT ?_) | (refine hK _ ?_; clear hK K) | (with_reducible refine andI ?_) | (refine AW.ret (Fin.data rfl (by first | (simp only [go_sem]; done) | (simp [go_sem, *]; done) | (simp [go_sem]; omega) | rfl) rfl)))
    | true =>
    rw [if_neg (by decide)] at hk
    cases c with
    | true =>
      obtain rfl : F = 6 := by simpa using hF
      rw [if_pos (by decide)] at g2
      subst g2
      rw [if_pos (by simp)]
      repeat' (first | ((first | refine AW.sreg rfl fun K hK => ?_ | refine run_call _ _ _ ((hk).pure rfl rfl _ _) rfl rfl (dstOk_of rfl) rfl rfl rfl ?_ | refine run_call _ _ _ ((hc).pure rfl rfl _ _) rfl rfl (dstOk_of rfl) rfl rfl rfl ?_); simp only [go_sem, ↓reduceIte, List.length_map, hget, hel, hsub, Int.le_refl]) | (refine AW.seq_k fun K hK => ?_) | (refine AW.block ?_) | (refine AW.skip ?_; simp only [Then, InBlock]) | (refine AW.cT ?_) | (refine AW.cF ?_) | (refine hK _ ?_; clear hK K) | (with_reducible refine andI ?_) | (refine AW.ret (Fin.data rfl (by first | (simp only [go_sem]; done) | (simp [go_sem, *]; done) | (simp [go_sem]; omega) | rfl) rfl)))
    | false =>
      obtain rfl : F = 0 := by simpa using hF
      rw [if_neg (by decide)] at g2
      repeat' (first | ((first | refine AW.sreg rfl fun K hK => ?_ | refine AW.reg rfl ?_ | refine run_call _ _ _ ((hk).pure rfl rfl _ _) rfl rfl (dstOk_of rfl) rfl rfl rfl ?_ | refine run_call _ _ _ ((hc).pure rfl rfl _ _) rfl rfl (dstOk_of rfl) rfl rfl rfl ?_); simp only [go_sem, ↓reduceIte, List.length_map, hget, hel, hsub, Int.le_refl]) | (refine AW.seq_k fun K hK => ?_) | (refine AW.block ?_) | (refine AW.skip ?_; simp only [Then, InBlock]) | (refine AW.cT ?_) | (refine AW.cF ?_) | (refine hK _ ?_; clear hK K) | (with_reducible refine andI ?_))
      exact ⟨i + 1, ⟨hi, g2⟩, by omega, (Weak.aC hcx (by refine ⟨?_, ?_, ?_⟩ <;> simp [go_sem, gL, kL, renOf, V.obj, Nat.blt, Nat.ble, List.map_append, dv_push]))⟩
  · obtain rfl : i = au.length := by omega
    rw [List.drop_length, goF] at g2
    subst g2
    rw [if_neg (by simp)]
    repeat' (first | ((first | refine AW.sreg rfl fun K hK => ?_ | refine run_call _ _ _ ((hr).pure rfl rfl _ _) rfl rfl (dstOk_of rfl) rfl rfl rfl ?_); simp only [go_sem, ↓reduceIte, List.length_map]) | (refine AW.seq_k fun K hK => ?_) | (refine AW.skip ?_; simp only [Then, InBlock]) | (refine AW.exit ?_; simp only [go_sem, ↓reduceIte]) | (refine AW.cF ?_) | (refine hK _ ?_; clear hK K) | (clear hK K; refine hK _ ?_; clear hK K) | (refine AW.ret (Fin.data rfl (by first | (simp only [go_sem]; done) | (simp [go_sem, *]; done) | (simp [go_sem]; omega) | rfl) rfl)))
theorem paF_none (p : Pa) : paF (some []) p = paF none p := by
  unfold paF
  by_cases h : p.1 = []
  · rw [h]; rfl
  · have e : leS p.1 [] = false := by
      unfold leS
      cases hp : p.1 with
      | nil => exact absurd hp h
      | cons a r => simp [Op.bytesLess]
    simp only [e]
theorem paperForms_any (l : List Pa) (hl : l.length ≤ 100) (hp : ∀ p ∈ l, PaR p ∧ p.2.2.2.2 ∈ ToL) : Does Tryz.prog 36 [.d (.sl (l.map paD))] [] (I (goF pasF [] l)) [] := by
  refine Does.of_AW (n := 25) Tryz.func36 rfl rfl rfl fun cx hcx => ?_
  generalize hT : goF pasF [] l = T
  repeat' (first | (refine AW.sreg rfl fun K hK => ?_; simp only [go_sem, ↓reduceIte, List.length_map]) | (refine AW.seq_k fun K hK => ?_) | (refine AW.block ?_) | (refine AW.skip ?_; simp only [Then, InBlock]) | (refine AW.cF ?_) | (refine hK _ ?_; clear hK K))
  refine AW.loopF (ι := Nat) [10, 11] (fun p => [(12, I p), (3, S (match (l.take p).getLast? with | none => [] | some q => q.1))]) (fun p => []) 20 (fun p => p ≤ l.length ∧ goF pasF (l.take p) (l.drop p) = T) (fun p => l.length - p) 0 ⟨by simp, hT⟩ (Weak.aC hcx (by refine ⟨?_, ?_, ?_⟩ <;> simp [go_sem, gL, kL, renOf, V.obj, Nat.blt, Nat.ble, List.map_append, dv_push])) ?_; simp only [St.at_nil, St.at_cons, lk, Nat.reduceEqDiff, ↓reduceIte, Option.getD_some, Option.getD_none, List.cons_append, List.nil_append, List.append_nil]
  rintro i ⟨g1, g2⟩
  by_cases hi : i < l.length
  · obtain ⟨x, hx, hxm, -⟩ := get_some hi
    have hget : (l.map paD)[i]? = some (paD x) := by simp only [List.getElem?_map, hx, Option.map_some]
    rw [goF_step _ hx] at g2
    obtain ⟨hx1, hx2⟩ := hp x hxm
    have hla : (l.take (i + 1)).getLast? = some x := by rw [List.take_add_one, hx]; simp
    have hF : pasF (l.take i) x = paF (some (match (l.take i).getLast? with | none => [] | some q => q.1)) x := by
      unfold pasF
      cases (l.take i).getLast? with
      | none => exact (paF_none x).symm
      | some q => rfl
    have hc := paperForm_any hx1 hx2 (match (l.take i).getLast? with | none => [] | some q => q.1)
    rw [← hF] at hc
    generalize (match (l.take i).getLast? with | none => [] | some q => q.1) = la at *
    generalize pasF (l.take i) x = F at *
    by_cases hz : F = 0
    · subst hz
      rw [if_neg (by simp)] at g2
      repeat' (first | ((first | refine AW.sreg rfl fun K hK => ?_ | refine AW.reg rfl ?_ | refine run_call _ _ _ ((hc).pure rfl rfl _ _) rfl rfl (dstOk_of rfl) rfl rfl rfl ?_); simp only [go_sem, ↓reduceIte, List.length_map, hget]) | (refine AW.seq_k fun K hK => ?_) | (refine AW.block ?_) | (refine AW.skip ?_; simp only [Then, InBlock]) | (refine AW.cT ?_) | (refine AW.cF ?_) | (refine hK _ ?_; clear hK K) | (with_reducible refine andI ?_))
      exact ⟨i + 1, ⟨hi, g2⟩, by omega, (Weak.aC hcx (by refine ⟨?_, ?_, ?_⟩ <;> simp [go_sem, gL, kL, renOf, V.obj, Nat.blt, Nat.ble, List.map_append, dv_push, hla]))⟩
    · rw [if_pos hz] at g2
      subst g2
      have hzb : (F != 0) = true := by simpa using hz
      repeat' (first | ((first | refine AW.sreg rfl fun K hK => ?_ | refine run_call _ _ _ ((hc).pure rfl rfl _ _) rfl rfl (dstOk_of rfl) rfl rfl rfl ?_); simp only [go_sem, ↓reduceIte, List.length_map, hget, hzb]) | (refine AW.seq_k fun K hK => ?_) | (refine AW.block ?_) | (refine AW.skip ?_; simp only [Then, InBlock]) | (refine AW.cT ?_) | (refine hK _ ?_; clear hK K) | (with_reducible refine andI ?_) | (refine AW.ret (Fin.data rfl (by first | (simp only [go_sem]; done) | (simp [go_sem, *]; done) | (simp [go_sem]; omega) | rfl) rfl)))
  · obtain rfl : i = l.length := by omega
    rw [List.drop_length, goF] at g2
    subst g2
    repeat' (first | (refine AW.sreg rfl fun K hK => ?_; simp only [go_sem, ↓reduceIte, List.length_map]) | (refine AW.seq_k fun K hK => ?_) | (refine AW.exit ?_; simp only [go_sem, ↓reduceIte]) | (refine AW.cF ?_) | (refine hK _ ?_; clear hK K) | (clear hK K; refine hK _ ?_; clear hK K) | (refine AW.ret (Fin.data rfl (by first | (simp only [go_sem]; done) | (simp [go_sem, *]; done) | (simp [go_sem]; omega) | rfl) rfl)))
theorem checkPapers_any (l : List Pa) (hl : l.length ≤ 100) (hp : ∀ p ∈ l, PaR p ∧ p.2.2.2.2 ∈ ToL) : Does Tryz.prog 109 [.d (.sl (l.map paD))] [] (I (goF pasF [] l)) [] := by
  refine Does.of_AW (n := 86) Tryz.func109 rfl rfl rfl fun cx hcx => ?_
  generalize hT : goF pasF [] l = T
  repeat' (first | (refine AW.sreg rfl fun K hK => ?_; simp only [go_sem, ↓reduceIte, List.length_map]) | (refine AW.seq_k fun K hK => ?_) | (refine AW.block ?_) | (refine AW.skip ?_; simp only [Then, InBlock]) | (refine AW.cF ?_) | (refine hK _ ?_; clear hK K))
  refine AW.loopF (ι := Nat) [0, 10, 11] (fun p => [(12, I p)]) (fun p => []) 20 (fun p => p ≤ l.length ∧ goF pasF (l.take p) (l.drop p) = T) (fun p => l.length - p) 0 ⟨by simp, hT⟩ (Weak.aC hcx (by refine ⟨?_, ?_, ?_⟩ <;> simp [go_sem, gL, kL, renOf, V.obj, Nat.blt, Nat.ble, List.map_append, dv_push])) ?_; simp only [St.at_nil, St.at_cons, lk, Nat.reduceEqDiff, ↓reduceIte, Option.getD_some, Option.getD_none, List.cons_append, List.nil_append, List.append_nil]
  rintro i ⟨g1, g2⟩
  by_cases hi : i < l.length
  · obtain ⟨x, hx, hxm, -⟩ := get_some hi
    have hget : (l.map paD)[i]? = some (paD x) := by simp only [List.getElem?_map, hx, Option.map_some]
    rw [goF_step _ hx] at g2
    obtain ⟨⟨h1, h2, h3, h4, h5, h6, h7⟩, ht⟩ := hp x hxm
    have hprev : (i = 0 ∧ True ∧ (l.take i).getLast? = none) ∨ ∃ q : Pa, 0 < i ∧ (l.map paD)[((i : Int) - 1).toNat]? = some (paD q) ∧ (l.take i).getLast? = some q := by
      rcases Nat.eq_zero_or_pos i with h | h
      · subst h
        exact .inl ⟨rfl, trivial, rfl⟩
      · obtain ⟨q, hq, -, -⟩ := get_some (l := l) (i := i - 1) (by omega)
        refine .inr ⟨q, h, ?_, ?_⟩
        · rw [show ((i : Int) - 1).toNat = i - 1 by omega, List.getElem?_map, hq]
          rfl
        · rw [List.getLast?_eq_getElem?, List.length_take, Nat.min_eq_left (by omega), List.getElem?_take_of_lt (by omega), hq]
    have hF : pasF (l.take i) x = paF ((l.take i).getLast?.map (·.1)) x := rfl
    clear hxm
    obtain ⟨pid, tr, ti, au, tp⟩ := x
    dsimp only at h1 h2 h3 h4 h5 h6 h7 ht
    have k1 := keyP (.inl h1)
    have k2 := keyP (.inr (.inl h2))
    have hpl := plain_all ti h3
    have hr := risingFault_ToL tp ht
    have hd := diffKeys_any au (by omega) (fun s hs => by have := len_all40 s (mem_keys (.inr (.inr (.inl (h4 s hs))))); omega)
    have htl := len_ti ti h3
    generalize pasF (l.take i) (pid, tr, ti, au, tp) = F at *
    rcases hprev with ⟨h0, -, hla⟩ | ⟨q, h0, hgq, hla⟩
    · rw [hla, Option.map_none, paF_nil] at hF
      unfold nmdB at hF
      generalize keyB pid = b1 at *
      generalize keyB tr = b2 at *
      generalize plnB ti = b3 at *
      generalize goF dfK [] au = d at *
      generalize rsF tp = r at *
      cases b1 with
      | false =>
        obtain rfl : F = 5 := by simpa using hF
        rw [if_pos (by decide)] at g2
        subst g2
        repeat' (first | ((first | refine AW.sreg rfl fun K hK => ?_ | refine run_call _ _ _ ((k1).pure rfl rfl _ _) rfl rfl (dstOk_of rfl) rfl rfl rfl ?_); simp only [go_sem, ↓reduceIte, List.length_map, hget]) | (refine AW.seq_k fun K hK => ?_) | (refine AW.block ?_) | (refine AW.skip ?_; simp only [Then, InBlock]) | (refine AW.cT ?_) | (refine hK _ ?_; clear hK K) | (with_reducible refine andI ?_) | (refine AW.ret (Fin.data rfl (by first | (simp only [go_sem]; done) | (simp [go_sem, *]; done) | (simp [go_sem]; omega) | rfl) rfl)))
      | true =>
      cases b2 with
      | false =>
        obtain rfl : F = 5 := by simpa using hF
        rw [if_pos (by decide)] at g2
        subst g2
        repeat' (first | ((first | refine AW.sreg rfl fun K hK => ?_ | refine run_call _ _ _ ((k1).pure rfl rfl _ _) rfl rfl (dstOk_of rfl) rfl rfl rfl ?_ | refine run_call _ _ _ ((k2).pure rfl rfl _ _) rfl rfl (dstOk_of rfl) rfl rfl rfl ?_); simp only [go_sem, ↓reduceIte, List.length_map, hget]) | (refine AW.seq_k fun K hK => ?_) | (refine AW.block ?_) | (refine AW.skip ?_; simp only [Then, InBlock]) | (refine AW.cT ?_) | (refine hK _ ?_; clear hK K) | (with_reducible refine andI ?_) | (refine AW.ret (Fin.data rfl (by first | (simp only [go_sem]; done) | (simp [go_sem, *]; done) | (simp [go_sem]; omega) | rfl) rfl)))
      | true =>
      rw [if_neg (by simp)] at hF
      have hgq : True := trivial
      have hle : True := trivial
      by_cases t0 : ti = []
      · subst t0
        obtain rfl : F = 3 := by simpa using hF
        rw [if_pos (by decide)] at g2
        subst g2
        repeat' (first | ((first | refine AW.sreg rfl fun K hK => ?_ | refine AW.sregD hmix rfl fun K hK => ?_ | refine run_call _ _ _ ((k1).pure rfl rfl _ _) rfl rfl (dstOk_of rfl) rfl rfl rfl ?_ | refine run_call _ _ _ ((k2).pure rfl rfl _ _) rfl rfl (dstOk_of rfl) rfl rfl rfl ?_); simp only [go_sem, ↓reduceIte, List.length_map, hget, hgq, hle]) | (refine AW.seq_k fun K hK => ?_) | (refine AW.block ?_) | (refine AW.skip ?_; simp only [Then, InBlock]) | (refine AW.cT ?_) | (refine AW.cF ?_) | (refine hK _ ?_; clear hK K) | (refine stepBT_split (fun h => ?_) (fun h => ?_) <;> (have hb0 := h) <;> (try simp only [Bool.not_eq_true', Bool.not_eq_false'] at hb0) <;> (try simp only [decide_eq_true_eq, decide_eq_false_iff_not, Bool.not_eq_true', Bool.not_eq_false', Bool.not_eq_eq_eq_not, Bool.not_true, Bool.not_false, beq_iff_eq, bne_iff_ne, beq_eq_false_iff_ne, ne_eq, Bool.and_eq_true, Bool.or_eq_true, Bool.or_eq_false_iff] at h) <;> simp only [go_sem, ↓reduceIte, hb0, h, decide_true, decide_false, List.length_map, hget, hgq, hle] <;> (try clear hb0)) | (with_reducible refine And.intro (?_ : regOk _ _ = true) ?_; kernel_rfl) | (with_reducible refine andI ?_) | (refine AW.ret (Fin.data rfl (by first | (simp only [go_sem]; done) | (simp [go_sem, *]; done) | (simp [go_sem]; omega) | rfl) rfl)) | (exfalso; omega))
      have t0b : (ti == []) = false := by simpa using t0
      cases b3 with
      | false =>
        obtain rfl : F = 3 := by simpa using hF
        rw [if_pos (by decide)] at g2
        subst g2
        repeat' (first | ((first | refine AW.sreg rfl fun K hK => ?_ | refine AW.sregD hmix rfl fun K hK => ?_ | refine run_call _ _ _ ((k1).pure rfl rfl _ _) rfl rfl (dstOk_of rfl) rfl rfl rfl ?_ | refine run_call _ _ _ ((k2).pure rfl rfl _ _) rfl rfl (dstOk_of rfl) rfl rfl rfl ?_ | refine run_call _ _ _ ((hpl).pure rfl rfl _ _) rfl rfl (dstOk_of rfl) rfl rfl rfl ?_); simp only [go_sem, ↓reduceIte, List.length_map, hget, hgq, hle, t0b]) | (refine AW.seq_k fun K hK => ?_) | (refine AW.block ?_) | (refine AW.skip ?_; simp only [Then, InBlock]) | (refine AW.cT ?_) | (refine AW.cF ?_) | (refine hK _ ?_; clear hK K) | (refine stepBT_split (fun h => ?_) (fun h => ?_) <;> (have hb0 := h) <;> (try simp only [Bool.not_eq_true', Bool.not_eq_false'] at hb0) <;> (try simp only [decide_eq_true_eq, decide_eq_false_iff_not, Bool.not_eq_true', Bool.not_eq_false', Bool.not_eq_eq_eq_not, Bool.not_true, Bool.not_false, beq_iff_eq, bne_iff_ne, beq_eq_false_iff_ne, ne_eq, Bool.and_eq_true, Bool.or_eq_true, Bool.or_eq_false_iff] at h) <;> simp only [go_sem, ↓reduceIte, hb0, h, decide_true, decide_false, List.length_map, hget, hgq, hle, t0b] <;> (try clear hb0)) | (with_reducible refine And.intro (?_ : regOk _ _ = true) ?_; kernel_rfl) | (with_reducible refine andI ?_) | (refine AW.ret (Fin.data rfl (by first | (simp only [go_sem]; done) | (simp [go_sem, *]; done) | (simp [go_sem]; omega) | rfl) rfl)) | (exfalso; omega))
      | true =>
      by_cases t2 : ti.length ≤ 200
      case neg =>
        obtain rfl : F = 3 := by simpa [t0b, t2] using hF
        rw [if_pos (by decide)] at g2
        subst g2
        repeat' (first | ((first | refine AW.sreg rfl fun K hK => ?_ | refine AW.sregD hmix rfl fun K hK => ?_ | refine run_call _ _ _ ((k1).pure rfl rfl _ _) rfl rfl (dstOk_of rfl) rfl rfl rfl ?_ | refine run_call _ _ _ ((k2).pure rfl rfl _ _) rfl rfl (dstOk_of rfl) rfl rfl rfl ?_ | refine run_call _ _ _ ((hpl).pure rfl rfl _ _) rfl rfl (dstOk_of rfl) rfl rfl rfl ?_); simp only [go_sem, ↓reduceIte, List.length_map, hget, hgq, hle, t0b]) | (refine AW.seq_k fun K hK => ?_) | (refine AW.block ?_) | (refine AW.skip ?_; simp only [Then, InBlock]) | (refine AW.cT ?_) | (refine AW.cF ?_) | (refine hK _ ?_; clear hK K) | (refine stepB_split (fun h => ?_) (fun h => ?_) <;> (have hb0 := h) <;> (try simp only [Bool.not_eq_true', Bool.not_eq_false'] at hb0) <;> (try simp only [decide_eq_true_eq, decide_eq_false_iff_not, Bool.not_eq_true', Bool.not_eq_false', Bool.not_eq_eq_eq_not, Bool.not_true, Bool.not_false, beq_iff_eq, bne_iff_ne, beq_eq_false_iff_ne, ne_eq, Bool.and_eq_true, Bool.or_eq_true, Bool.or_eq_false_iff] at h) <;> simp only [go_sem, ↓reduceIte, hb0, h, decide_true, decide_false, List.length_map, hget, hgq, hle, t0b] <;> (try clear hb0)) | (refine stepBT_split (fun h => ?_) (fun h => ?_) <;> (have hb0 := h) <;> (try simp only [Bool.not_eq_true', Bool.not_eq_false'] at hb0) <;> (try simp only [decide_eq_true_eq, decide_eq_false_iff_not, Bool.not_eq_true', Bool.not_eq_false', Bool.not_eq_eq_eq_not, Bool.not_true, Bool.not_false, beq_iff_eq, bne_iff_ne, beq_eq_false_iff_ne, ne_eq, Bool.and_eq_true, Bool.or_eq_true, Bool.or_eq_false_iff] at h) <;> simp only [go_sem, ↓reduceIte, hb0, h, decide_true, decide_false, List.length_map, hget, hgq, hle, t0b] <;> (try clear hb0)) | (with_reducible refine And.intro (?_ : regOk _ _ = true) ?_; kernel_rfl) | (with_reducible refine andI ?_) | (refine AW.ret (Fin.data rfl (by first | (simp only [go_sem]; done) | (simp [go_sem, *]; done) | (simp [go_sem]; omega) | rfl) rfl)) | (exfalso; omega))
      by_cases ha : au = []
      · subst ha
        obtain rfl : F = 3 := by simpa using hF
        rw [if_pos (by decide)] at g2
        subst g2
        repeat' (first | ((first | refine AW.sreg rfl fun K hK => ?_ | refine AW.sregD hmix rfl fun K hK => ?_ | refine run_call _ _ _ ((k1).pure rfl rfl _ _) rfl rfl (dstOk_of rfl) rfl rfl rfl ?_ | refine run_call _ _ _ ((k2).pure rfl rfl _ _) rfl rfl (dstOk_of rfl) rfl rfl rfl ?_ | refine run_call _ _ _ ((hpl).pure rfl rfl _ _) rfl rfl (dstOk_of rfl) rfl rfl rfl ?_); simp only [go_sem, ↓reduceIte, List.length_map, hget, hgq, hle, t0b]) | (refine AW.seq_k fun K hK => ?_) | (refine AW.block ?_) | (refine AW.skip ?_; simp only [Then, InBlock]) | (refine AW.cT ?_) | (refine AW.cF ?_) | (refine hK _ ?_; clear hK K) | (refine stepB_split (fun h => ?_) (fun h => ?_) <;> (have hb0 := h) <;> (try simp only [Bool.not_eq_true', Bool.not_eq_false'] at hb0) <;> (try simp only [decide_eq_true_eq, decide_eq_false_iff_not, Bool.not_eq_true', Bool.not_eq_false', Bool.not_eq_eq_eq_not, Bool.not_true, Bool.not_false, beq_iff_eq, bne_iff_ne, beq_eq_false_iff_ne, ne_eq, Bool.and_eq_true, Bool.or_eq_true, Bool.or_eq_false_iff] at h) <;> simp only [go_sem, ↓reduceIte, hb0, h, decide_true, decide_false, List.length_map, hget, hgq, hle, t0b] <;> (try clear hb0)) | (refine stepBT_split (fun h => ?_) (fun h => ?_) <;> (have hb0 := h) <;> (try simp only [Bool.not_eq_true', Bool.not_eq_false'] at hb0) <;> (try simp only [decide_eq_true_eq, decide_eq_false_iff_not, Bool.not_eq_true', Bool.not_eq_false', Bool.not_eq_eq_eq_not, Bool.not_true, Bool.not_false, beq_iff_eq, bne_iff_ne, beq_eq_false_iff_ne, ne_eq, Bool.and_eq_true, Bool.or_eq_true, Bool.or_eq_false_iff] at h) <;> simp only [go_sem, ↓reduceIte, hb0, h, decide_true, decide_false, List.length_map, hget, hgq, hle, t0b] <;> (try clear hb0)) | (with_reducible refine And.intro (?_ : regOk _ _ = true) ?_; kernel_rfl) | (with_reducible refine andI ?_) | (refine AW.ret (Fin.data rfl (by first | (simp only [go_sem]; done) | (simp [go_sem, *]; done) | (simp [go_sem]; omega) | rfl) rfl)) | (exfalso; omega))
      have hpos : 0 < au.length := List.length_pos_iff.2 ha
      have h0b : ((au.length : Int) == 0) = false := by simp; omega
      have hem : au.isEmpty = false := by simpa using ha
      rw [if_neg (by simp [t0b, t2, hem])] at hF
      by_cases hd0 : d = 0
      case neg =>
        rw [if_pos hd0] at hF
        rw [hF, if_pos hd0] at g2
        subst g2
        have hdb : (d != 0) = true := by simpa using hd0
        repeat' (first | ((first | refine AW.sreg rfl fun K hK => ?_ | refine AW.sregD hmix rfl fun K hK => ?_ | refine run_call _ _ _ ((k1).pure rfl rfl _ _) rfl rfl (dstOk_of rfl) rfl rfl rfl ?_ | refine run_call _ _ _ ((k2).pure rfl rfl _ _) rfl rfl (dstOk_of rfl) rfl rfl rfl ?_ | refine run_call _ _ _ ((hpl).pure rfl rfl _ _) rfl rfl (dstOk_of rfl) rfl rfl rfl ?_ | refine run_call _ _ _ ((hd).pure rfl rfl _ _) rfl rfl (dstOk_of rfl) rfl rfl rfl ?_); simp only [go_sem, ↓reduceIte, List.length_map, hget, hgq, hle, t0b, h0b, hdb]) | (refine AW.seq_k fun K hK => ?_) | (refine AW.block ?_) | (refine AW.skip ?_; simp only [Then, InBlock]) | (refine AW.cT ?_) | (refine AW.cF ?_) | (refine hK _ ?_; clear hK K) | (refine stepB_split (fun h => ?_) (fun h => ?_) <;> (have hb0 := h) <;> (try simp only [Bool.not_eq_true', Bool.not_eq_false'] at hb0) <;> (try simp only [decide_eq_true_eq, decide_eq_false_iff_not, Bool.not_eq_true', Bool.not_eq_false', Bool.not_eq_eq_eq_not, Bool.not_true, Bool.not_false, beq_iff_eq, bne_iff_ne, beq_eq_false_iff_ne, ne_eq, Bool.and_eq_true, Bool.or_eq_true, Bool.or_eq_false_iff] at h) <;> simp only [go_sem, ↓reduceIte, hb0, h, decide_true, decide_false, List.length_map, hget, hgq, hle, t0b, h0b, hdb] <;> (try clear hb0)) | (refine stepBT_split (fun h => ?_) (fun h => ?_) <;> (have hb0 := h) <;> (try simp only [Bool.not_eq_true', Bool.not_eq_false'] at hb0) <;> (try simp only [decide_eq_true_eq, decide_eq_false_iff_not, Bool.not_eq_true', Bool.not_eq_false', Bool.not_eq_eq_eq_not, Bool.not_true, Bool.not_false, beq_iff_eq, bne_iff_ne, beq_eq_false_iff_ne, ne_eq, Bool.and_eq_true, Bool.or_eq_true, Bool.or_eq_false_iff] at h) <;> simp only [go_sem, ↓reduceIte, hb0, h, decide_true, decide_false, List.length_map, hget, hgq, hle, t0b, h0b, hdb] <;> (try clear hb0)) | (with_reducible refine And.intro (?_ : regOk _ _ = true) ?_; kernel_rfl) | (with_reducible refine andI ?_) | (refine AW.ret (Fin.data rfl (by first | (simp only [go_sem]; done) | (simp [go_sem, *]; done) | (simp [go_sem]; omega) | rfl) rfl)) | (exfalso; omega))
      subst hd0
      rw [if_neg (by decide)] at hF
      rw [hF] at g2
      by_cases hr0 : r = 0
      case neg =>
        rw [if_pos hr0] at g2
        subst g2
        have hrb : (r != 0) = true := by simpa using hr0
        repeat' (first | ((first | refine AW.sreg rfl fun K hK => ?_ | refine AW.sregD hmix rfl fun K hK => ?_ | refine run_call _ _ _ ((k1).pure rfl rfl _ _) rfl rfl (dstOk_of rfl) rfl rfl rfl ?_ | refine run_call _ _ _ ((k2).pure rfl rfl _ _) rfl rfl (dstOk_of rfl) rfl rfl rfl ?_ | refine run_call _ _ _ ((hpl).pure rfl rfl _ _) rfl rfl (dstOk_of rfl) rfl rfl rfl ?_ | refine run_call _ _ _ ((hd).pure rfl rfl _ _) rfl rfl (dstOk_of rfl) rfl rfl rfl ?_ | refine run_call _ _ _ ((hr).pure rfl rfl _ _) rfl rfl (dstOk_of rfl) rfl rfl rfl ?_); simp only [go_sem, ↓reduceIte, List.length_map, hget, hgq, hle, t0b, h0b, hrb]) | (refine AW.seq_k fun K hK => ?_) | (refine AW.block ?_) | (refine AW.skip ?_; simp only [Then, InBlock]) | (refine AW.cT ?_) | (refine AW.cF ?_) | (refine hK _ ?_; clear hK K) | (refine stepB_split (fun h => ?_) (fun h => ?_) <;> (have hb0 := h) <;> (try simp only [Bool.not_eq_true', Bool.not_eq_false'] at hb0) <;> (try simp only [decide_eq_true_eq, decide_eq_false_iff_not, Bool.not_eq_true', Bool.not_eq_false', Bool.not_eq_eq_eq_not, Bool.not_true, Bool.not_false, beq_iff_eq, bne_iff_ne, beq_eq_false_iff_ne, ne_eq, Bool.and_eq_true, Bool.or_eq_true, Bool.or_eq_false_iff] at h) <;> simp only [go_sem, ↓reduceIte, hb0, h, decide_true, decide_false, List.length_map, hget, hgq, hle, t0b, h0b, hrb] <;> (try clear hb0)) | (refine stepBT_split (fun h => ?_) (fun h => ?_) <;> (have hb0 := h) <;> (try simp only [Bool.not_eq_true', Bool.not_eq_false'] at hb0) <;> (try simp only [decide_eq_true_eq, decide_eq_false_iff_not, Bool.not_eq_true', Bool.not_eq_false', Bool.not_eq_eq_eq_not, Bool.not_true, Bool.not_false, beq_iff_eq, bne_iff_ne, beq_eq_false_iff_ne, ne_eq, Bool.and_eq_true, Bool.or_eq_true, Bool.or_eq_false_iff] at h) <;> simp only [go_sem, ↓reduceIte, hb0, h, decide_true, decide_false, List.length_map, hget, hgq, hle, t0b, h0b, hrb] <;> (try clear hb0)) | (with_reducible refine And.intro (?_ : regOk _ _ = true) ?_; kernel_rfl) | (with_reducible refine andI ?_) | (refine AW.ret (Fin.data rfl (by first | (simp only [go_sem]; done) | (simp [go_sem, *]; done) | (simp [go_sem]; omega) | rfl) rfl)) | (exfalso; omega))
      subst hr0
      rw [if_neg (by decide)] at g2
      repeat' (first | ((first | refine AW.sreg rfl fun K hK => ?_ | refine AW.sregD hmix rfl fun K hK => ?_ | refine AW.reg rfl ?_ | refine run_call _ _ _ ((k1).pure rfl rfl _ _) rfl rfl (dstOk_of rfl) rfl rfl rfl ?_ | refine run_call _ _ _ ((k2).pure rfl rfl _ _) rfl rfl (dstOk_of rfl) rfl rfl rfl ?_ | refine run_call _ _ _ ((hpl).pure rfl rfl _ _) rfl rfl (dstOk_of rfl) rfl rfl rfl ?_ | refine run_call _ _ _ ((hd).pure rfl rfl _ _) rfl rfl (dstOk_of rfl) rfl rfl rfl ?_ | refine run_call _ _ _ ((hr).pure rfl rfl _ _) rfl rfl (dstOk_of rfl) rfl rfl rfl ?_); simp only [go_sem, ↓reduceIte, List.length_map, hget, hgq, hle, t0b, h0b]) | (refine AW.seq_k fun K hK => ?_) | (refine AW.block ?_) | (refine AW.skip ?_; simp only [Then, InBlock]) | (refine AW.cT ?_) | (refine AW.cF ?_) | (refine hK _ ?_; clear hK K) | (refine stepB_split (fun h => ?_) (fun h => ?_) <;> (have hb0 := h) <;> (try simp only [Bool.not_eq_true', Bool.not_eq_false'] at hb0) <;> (try simp only [decide_eq_true_eq, decide_eq_false_iff_not, Bool.not_eq_true', Bool.not_eq_false', Bool.not_eq_eq_eq_not, Bool.not_true, Bool.not_false, beq_iff_eq, bne_iff_ne, beq_eq_false_iff_ne, ne_eq, Bool.and_eq_true, Bool.or_eq_true, Bool.or_eq_false_iff] at h) <;> simp only [go_sem, ↓reduceIte, hb0, h, decide_true, decide_false, List.length_map, hget, hgq, hle, t0b, h0b] <;> (try clear hb0)) | (refine stepBT_split (fun h => ?_) (fun h => ?_) <;> (have hb0 := h) <;> (try simp only [Bool.not_eq_true', Bool.not_eq_false'] at hb0) <;> (try simp only [decide_eq_true_eq, decide_eq_false_iff_not, Bool.not_eq_true', Bool.not_eq_false', Bool.not_eq_eq_eq_not, Bool.not_true, Bool.not_false, beq_iff_eq, bne_iff_ne, beq_eq_false_iff_ne, ne_eq, Bool.and_eq_true, Bool.or_eq_true, Bool.or_eq_false_iff] at h) <;> simp only [go_sem, ↓reduceIte, hb0, h, decide_true, decide_false, List.length_map, hget, hgq, hle, t0b, h0b] <;> (try clear hb0)) | (with_reducible refine And.intro (?_ : regOk _ _ = true) ?_; kernel_rfl) | (with_reducible refine andI ?_) | (exfalso; omega))
      exact ⟨i + 1, ⟨hi, g2⟩, by omega, (Weak.aC hcx (by refine ⟨?_, ?_, ?_⟩ <;> simp [go_sem, gL, kL, renOf, V.obj, Nat.blt, Nat.ble, List.map_append, dv_push]))⟩
    · rw [hla, Option.map_some, paF_some] at hF
      unfold nmdB at hF
      have hle : (Op.bytesLess pid q.1 || pid == q.1) = leS pid q.1 := rfl
      generalize leS pid q.1 = c at *
      generalize keyB pid = b1 at *
      generalize keyB tr = b2 at *
      generalize plnB ti = b3 at *
      generalize goF dfK [] au = d at *
      generalize rsF tp = r at *
      cases b1 with
      | false =>
        obtain rfl : F = 5 := by simpa using hF
        rw [if_pos (by decide)] at g2
        subst g2
        repeat' (first | ((first | refine AW.sreg rfl fun K hK => ?_ | refine run_call _ _ _ ((k1).pure rfl rfl _ _) rfl rfl (dstOk_of rfl) rfl rfl rfl ?_); simp only [go_sem, ↓reduceIte, List.length_map, hget]) | (refine AW.seq_k fun K hK => ?_) | (refine AW.block ?_) | (refine AW.skip ?_; simp only [Then, InBlock]) | (refine AW.cT ?_) | (refine hK _ ?_; clear hK K) | (with_reducible refine andI ?_) | (refine AW.ret (Fin.data rfl (by first | (simp only [go_sem]; done) | (simp [go_sem, *]; done) | (simp [go_sem]; omega) | rfl) rfl)))
      | true =>
      cases b2 with
      | false =>
        obtain rfl : F = 5 := by simpa using hF
        rw [if_pos (by decide)] at g2
        subst g2
        repeat' (first | ((first | refine AW.sreg rfl fun K hK => ?_ | refine run_call _ _ _ ((k1).pure rfl rfl _ _) rfl rfl (dstOk_of rfl) rfl rfl rfl ?_ | refine run_call _ _ _ ((k2).pure rfl rfl _ _) rfl rfl (dstOk_of rfl) rfl rfl rfl ?_); simp only [go_sem, ↓reduceIte, List.length_map, hget]) | (refine AW.seq_k fun K hK => ?_) | (refine AW.block ?_) | (refine AW.skip ?_; simp only [Then, InBlock]) | (refine AW.cT ?_) | (refine hK _ ?_; clear hK K) | (with_reducible refine andI ?_) | (refine AW.ret (Fin.data rfl (by first | (simp only [go_sem]; done) | (simp [go_sem, *]; done) | (simp [go_sem]; omega) | rfl) rfl)))
      | true =>
      rw [if_neg (by simp)] at hF
      cases c with
      | true =>
        obtain rfl : F = 7 := by simpa using hF
        rw [if_pos (by decide)] at g2
        subst g2
        repeat' (first | ((first | refine AW.sreg rfl fun K hK => ?_ | refine AW.sregD hmix rfl fun K hK => ?_ | refine run_call _ _ _ ((k1).pure rfl rfl _ _) rfl rfl (dstOk_of rfl) rfl rfl rfl ?_ | refine run_call _ _ _ ((k2).pure rfl rfl _ _) rfl rfl (dstOk_of rfl) rfl rfl rfl ?_); simp only [go_sem, ↓reduceIte, List.length_map, hget, hgq, hle]) | (refine AW.seq_k fun K hK => ?_) | (refine AW.block ?_) | (refine AW.skip ?_; simp only [Then, InBlock]) | (refine AW.cT ?_) | (refine AW.cF ?_) | (refine hK _ ?_; clear hK K) | (refine stepBT_split (fun h => ?_) (fun h => ?_) <;> (have hb0 := h) <;> (try simp only [Bool.not_eq_true', Bool.not_eq_false'] at hb0) <;> (try simp only [decide_eq_true_eq, decide_eq_false_iff_not, Bool.not_eq_true', Bool.not_eq_false', Bool.not_eq_eq_eq_not, Bool.not_true, Bool.not_false, beq_iff_eq, bne_iff_ne, beq_eq_false_iff_ne, ne_eq, Bool.and_eq_true, Bool.or_eq_true, Bool.or_eq_false_iff] at h) <;> simp only [go_sem, ↓reduceIte, hb0, h, decide_true, decide_false, List.length_map, hget, hgq, hle] <;> (try clear hb0)) | (with_reducible refine And.intro (?_ : regOk _ _ = true) ?_; kernel_rfl) | (with_reducible refine andI ?_) | (refine AW.ret (Fin.data rfl (by first | (simp only [go_sem]; done) | (simp [go_sem, *]; done) | (simp [go_sem]; omega) | rfl) rfl)))
      | false =>
      rw [if_neg (by simp)] at hF
      by_cases t0 : ti = []
      · subst t0
        obtain rfl : F = 3 := by simpa using hF
        rw [if_pos (by decide)] at g2
        subst g2
        repeat' (first | ((first | refine AW.sreg rfl fun K hK => ?_ | refine AW.sregD hmix rfl fun K hK => ?_ | refine run_call _ _ _ ((k1).pure rfl rfl _ _) rfl rfl (dstOk_of rfl) rfl rfl rfl ?_ | refine run_call _ _ _ ((k2).pure rfl rfl _ _) rfl rfl (dstOk_of rfl) rfl rfl rfl ?_); simp only [go_sem, ↓reduceIte, List.length_map, hget, hgq, hle]) | (refine AW.seq_k fun K hK => ?_) | (refine AW.block ?_) | (refine AW.skip ?_; simp only [Then, InBlock]) | (refine AW.cT ?_) | (refine AW.cF ?_) | (refine hK _ ?_; clear hK K) | (refine stepBT_split (fun h => ?_) (fun h => ?_) <;> (have hb0 := h) <;> (try simp only [Bool.not_eq_true', Bool.not_eq_false'] at hb0) <;> (try simp only [decide_eq_true_eq, decide_eq_false_iff_not, Bool.not_eq_true', Bool.not_eq_false', Bool.not_eq_eq_eq_not, Bool.not_true, Bool.not_false, beq_iff_eq, bne_iff_ne, beq_eq_false_iff_ne, ne_eq, Bool.and_eq_true, Bool.or_eq_true, Bool.or_eq_false_iff] at h) <;> simp only [go_sem, ↓reduceIte, hb0, h, decide_true, decide_false, List.length_map, hget, hgq, hle] <;> (try clear hb0)) | (with_reducible refine And.intro (?_ : regOk _ _ = true) ?_; kernel_rfl) | (with_reducible refine andI ?_) | (refine AW.ret (Fin.data rfl (by first | (simp only [go_sem]; done) | (simp [go_sem, *]; done) | (simp [go_sem]; omega) | rfl) rfl)))
      have t0b : (ti == []) = false := by simpa using t0
      cases b3 with
      | false =>
        obtain rfl : F = 3 := by simpa using hF
        rw [if_pos (by decide)] at g2
        subst g2
        repeat' (first | ((first | refine AW.sreg rfl fun K hK => ?_ | refine AW.sregD hmix rfl fun K hK => ?_ | refine run_call _ _ _ ((k1).pure rfl rfl _ _) rfl rfl (dstOk_of rfl) rfl rfl rfl ?_ | refine run_call _ _ _ ((k2).pure rfl rfl _ _) rfl rfl (dstOk_of rfl) rfl rfl rfl ?_ | refine run_call _ _ _ ((hpl).pure rfl rfl _ _) rfl rfl (dstOk_of rfl) rfl rfl rfl ?_); simp only [go_sem, ↓reduceIte, List.length_map, hget, hgq, hle, t0b]) | (refine AW.seq_k fun K hK => ?_) | (refine AW.block ?_) | (refine AW.skip ?_; simp only [Then, InBlock]) | (refine AW.cT ?_) | (refine AW.cF ?_) | (refine hK _ ?_; clear hK K) | (refine stepBT_split (fun h => ?_) (fun h => ?_) <;> (have hb0 := h) <;> (try simp only [Bool.not_eq_true', Bool.not_eq_false'] at hb0) <;> (try simp only [decide_eq_true_eq, decide_eq_false_iff_not, Bool.not_eq_true', Bool.not_eq_false', Bool.not_eq_eq_eq_not, Bool.not_true, Bool.not_false, beq_iff_eq, bne_iff_ne, beq_eq_false_iff_ne, ne_eq, Bool.and_eq_true, Bool.or_eq_true, Bool.or_eq_false_iff] at h) <;> simp only [go_sem, ↓reduceIte, hb0, h, decide_true, decide_false, List.length_map, hget, hgq, hle, t0b] <;> (try clear hb0)) | (with_reducible refine And.intro (?_ : regOk _ _ = true) ?_; kernel_rfl) | (with_reducible refine andI ?_) | (refine AW.ret (Fin.data rfl (by first | (simp only [go_sem]; done) | (simp [go_sem, *]; done) | (simp [go_sem]; omega) | rfl) rfl)))
      | true =>
      by_cases t2 : ti.length ≤ 200
      case neg =>
        obtain rfl : F = 3 := by simpa [t0b, t2] using hF
        rw [if_pos (by decide)] at g2
        subst g2
        repeat' (first | ((first | refine AW.sreg rfl fun K hK => ?_ | refine AW.sregD hmix rfl fun K hK => ?_ | refine run_call _ _ _ ((k1).pure rfl rfl _ _) rfl rfl (dstOk_of rfl) rfl rfl rfl ?_ | refine run_call _ _ _ ((k2).pure rfl rfl _ _) rfl rfl (dstOk_of rfl) rfl rfl rfl ?_ | refine run_call _ _ _ ((hpl).pure rfl rfl _ _) rfl rfl (dstOk_of rfl) rfl rfl rfl ?_); simp only [go_sem, ↓reduceIte, List.length_map, hget, hgq, hle, t0b]) | (refine AW.seq_k fun K hK => ?_) | (refine AW.block ?_) | (refine AW.skip ?_; simp only [Then, InBlock]) | (refine AW.cT ?_) | (refine AW.cF ?_) | (refine hK _ ?_; clear hK K) | (refine stepB_split (fun h => ?_) (fun h => ?_) <;> (have hb0 := h) <;> (try simp only [Bool.not_eq_true', Bool.not_eq_false'] at hb0) <;> (try simp only [decide_eq_true_eq, decide_eq_false_iff_not, Bool.not_eq_true', Bool.not_eq_false', Bool.not_eq_eq_eq_not, Bool.not_true, Bool.not_false, beq_iff_eq, bne_iff_ne, beq_eq_false_iff_ne, ne_eq, Bool.and_eq_true, Bool.or_eq_true, Bool.or_eq_false_iff] at h) <;> simp only [go_sem, ↓reduceIte, hb0, h, decide_true, decide_false, List.length_map, hget, hgq, hle, t0b] <;> (try clear hb0)) | (refine stepBT_split (fun h => ?_) (fun h => ?_) <;> (have hb0 := h) <;> (try simp only [Bool.not_eq_true', Bool.not_eq_false'] at hb0) <;> (try simp only [decide_eq_true_eq, decide_eq_false_iff_not, Bool.not_eq_true', Bool.not_eq_false', Bool.not_eq_eq_eq_not, Bool.not_true, Bool.not_false, beq_iff_eq, bne_iff_ne, beq_eq_false_iff_ne, ne_eq, Bool.and_eq_true, Bool.or_eq_true, Bool.or_eq_false_iff] at h) <;> simp only [go_sem, ↓reduceIte, hb0, h, decide_true, decide_false, List.length_map, hget, hgq, hle, t0b] <;> (try clear hb0)) | (with_reducible refine And.intro (?_ : regOk _ _ = true) ?_; kernel_rfl) | (with_reducible refine andI ?_) | (refine AW.ret (Fin.data rfl (by first | (simp only [go_sem]; done) | (simp [go_sem, *]; done) | (simp [go_sem]; omega) | rfl) rfl)))
      by_cases ha : au = []
      · subst ha
        obtain rfl : F = 3 := by simpa using hF
        rw [if_pos (by decide)] at g2
        subst g2
        repeat' (first | ((first | refine AW.sreg rfl fun K hK => ?_ | refine AW.sregD hmix rfl fun K hK => ?_ | refine run_call _ _ _ ((k1).pure rfl rfl _ _) rfl rfl (dstOk_of rfl) rfl rfl rfl ?_ | refine run_call _ _ _ ((k2).pure rfl rfl _ _) rfl rfl (dstOk_of rfl) rfl rfl rfl ?_ | refine run_call _ _ _ ((hpl).pure rfl rfl _ _) rfl rfl (dstOk_of rfl) rfl rfl rfl ?_); simp only [go_sem, ↓reduceIte, List.length_map, hget, hgq, hle, t0b]) | (refine AW.seq_k fun K hK => ?_) | (refine AW.block ?_) | (refine AW.skip ?_; simp only [Then, InBlock]) | (refine AW.cT ?_) | (refine AW.cF ?_) | (refine hK _ ?_; clear hK K) | (refine stepB_split (fun h => ?_) (fun h => ?_) <;> (have hb0 := h) <;> (try simp only [Bool.not_eq_true', Bool.not_eq_false'] at hb0) <;> (try simp only [decide_eq_true_eq, decide_eq_false_iff_not, Bool.not_eq_true', Bool.not_eq_false', Bool.not_eq_eq_eq_not, Bool.not_true, Bool.not_false, beq_iff_eq, bne_iff_ne, beq_eq_false_iff_ne, ne_eq, Bool.and_eq_true, Bool.or_eq_true, Bool.or_eq_false_iff] at h) <;> simp only [go_sem, ↓reduceIte, hb0, h, decide_true, decide_false, List.length_map, hget, hgq, hle, t0b] <;> (try clear hb0)) | (refine stepBT_split (fun h => ?_) (fun h => ?_) <;> (have hb0 := h) <;> (try simp only [Bool.not_eq_true', Bool.not_eq_false'] at hb0) <;> (try simp only [decide_eq_true_eq, decide_eq_false_iff_not, Bool.not_eq_true', Bool.not_eq_false', Bool.not_eq_eq_eq_not, Bool.not_true, Bool.not_false, beq_iff_eq, bne_iff_ne, beq_eq_false_iff_ne, ne_eq, Bool.and_eq_true, Bool.or_eq_true, Bool.or_eq_false_iff] at h) <;> simp only [go_sem, ↓reduceIte, hb0, h, decide_true, decide_false, List.length_map, hget, hgq, hle, t0b] <;> (try clear hb0)) | (with_reducible refine And.intro (?_ : regOk _ _ = true) ?_; kernel_rfl) | (with_reducible refine andI ?_) | (refine AW.ret (Fin.data rfl (by first | (simp only [go_sem]; done) | (simp [go_sem, *]; done) | (simp [go_sem]; omega) | rfl) rfl)))
      have hpos : 0 < au.length := List.length_pos_iff.2 ha
      have h0b : ((au.length : Int) == 0) = false := by simp; omega
      have hem : au.isEmpty = false := by simpa using ha
      rw [if_neg (by simp [t0b, t2, hem])] at hF
      by_cases hd0 : d = 0
      case neg =>
        rw [if_pos hd0] at hF
        rw [hF, if_pos hd0] at g2
        subst g2
        have hdb : (d != 0) = true := by simpa using hd0
        repeat' (first | ((first | refine AW.sreg rfl fun K hK => ?_ | refine AW.sregD hmix rfl fun K hK => ?_ | refine run_call _ _ _ ((k1).pure rfl rfl _ _) rfl rfl (dstOk_of rfl) rfl rfl rfl ?_ | refine run_call _ _ _ ((k2).pure rfl rfl _ _) rfl rfl (dstOk_of rfl) rfl rfl rfl ?_ | refine run_call _ _ _ ((hpl).pure rfl rfl _ _) rfl rfl (dstOk_of rfl) rfl rfl rfl ?_ | refine run_call _ _ _ ((hd).pure rfl rfl _ _) rfl rfl (dstOk_of rfl) rfl rfl rfl ?_); simp only [go_sem, ↓reduceIte, List.length_map, hget, hgq, hle, t0b, h0b, hdb]) | (refine AW.seq_k fun K hK => ?_) | (refine AW.block ?_) | (refine AW.skip ?_; simp only [Then, InBlock]) | (refine AW.cT ?_) | (refine AW.cF ?_) | (refine hK _ ?_; clear hK K) | (refine stepB_split (fun h => ?_) (fun h => ?_) <;> (have hb0 := h) <;> (try simp only [Bool.not_eq_true', Bool.not_eq_false'] at hb0) <;> (try simp only [decide_eq_true_eq, decide_eq_false_iff_not, Bool.not_eq_true', Bool.not_eq_false', Bool.not_eq_eq_eq_not, Bool.not_true, Bool.not_false, beq_iff_eq, bne_iff_ne, beq_eq_false_iff_ne, ne_eq, Bool.and_eq_true, Bool.or_eq_true, Bool.or_eq_false_iff] at h) <;> simp only [go_sem, ↓reduceIte, hb0, h, decide_true, decide_false, List.length_map, hget, hgq, hle, t0b, h0b, hdb] <;> (try clear hb0)) | (refine stepBT_split (fun h => ?_) (fun h => ?_) <;> (have hb0 := h) <;> (try simp only [Bool.not_eq_true', Bool.not_eq_false'] at hb0) <;> (try simp only [decide_eq_true_eq, decide_eq_false_iff_not, Bool.not_eq_true', Bool.not_eq_false', Bool.not_eq_eq_eq_not, Bool.not_true, Bool.not_false, beq_iff_eq, bne_iff_ne, beq_eq_false_iff_ne, ne_eq, Bool.and_eq_true, Bool.or_eq_true, Bool.or_eq_false_iff] at h) <;> simp only [go_sem, ↓reduceIte, hb0, h, decide_true, decide_false, List.length_map, hget, hgq, hle, t0b, h0b, hdb] <;> (try clear hb0)) | (with_reducible refine And.intro (?_ : regOk _ _ = true) ?_; kernel_rfl) | (with_reducible refine andI ?_) | (refine AW.ret (Fin.data rfl (by first | (simp only [go_sem]; done) | (simp [go_sem, *]; done) | (simp [go_sem]; omega) | rfl) rfl)))
      subst hd0
      rw [if_neg (by decide)] at hF
      rw [hF] at g2
      by_cases hr0 : r = 0
      case neg =>
        rw [if_pos hr0] at g2
        subst g2
        have hrb : (r != 0) = true := by simpa using hr0
        repeat' (first | ((first | refine AW.sreg rfl fun K hK => ?_ | refine AW.sregD hmix rfl fun K hK => ?_ | refine run_call _ _ _ ((k1).pure rfl rfl _ _) rfl rfl (dstOk_of rfl) rfl rfl rfl ?_ | refine run_call _ _ _ ((k2).pure rfl rfl _ _) rfl rfl (dstOk_of rfl) rfl rfl rfl ?_ | refine run_call _ _ _ ((hpl).pure rfl rfl _ _) rfl rfl (dstOk_of rfl) rfl rfl rfl ?_ | refine run_call _ _ _ ((hd).pure rfl rfl _ _) rfl rfl (dstOk_of rfl) rfl rfl rfl ?_ | refine run_call _ _ _ ((hr).pure rfl rfl _ _) rfl rfl (dstOk_of rfl) rfl rfl rfl ?_); simp only [go_sem, ↓reduceIte, List.length_map, hget, hgq, hle, t0b, h0b, hrb]) | (refine AW.seq_k fun K hK => ?_) | (refine AW.block ?_) | (refine AW.skip ?_; simp only [Then, InBlock]) | (refine AW.cT ?_) | (refine AW.cF ?_) | (refine hK _ ?_; clear hK K) | (refine stepB_split (fun h => ?_) (fun h => ?_) <;> (have hb0 := h) <;> (try simp only [Bool.not_eq_true', Bool.not_eq_false'] at hb0) <;> (try simp only [decide_eq_true_eq, decide_eq_false_iff_not, Bool.not_eq_true', Bool.not_eq_false', Bool.not_eq_eq_eq_not, Bool.not_true, Bool.not_false, beq_iff_eq, bne_iff_ne, beq_eq_false_iff_ne, ne_eq, Bool.and_eq_true, Bool.or_eq_true, Bool.or_eq_false_iff] at h) <;> simp only [go_sem, ↓reduceIte, hb0, h, decide_true, decide_false, List.length_map, hget, hgq, hle, t0b, h0b, hrb] <;> (try clear hb0)) | (refine stepBT_split (fun h => ?_) (fun h => ?_) <;> (have hb0 := h) <;> (try simp only [Bool.not_eq_true', Bool.not_eq_false'] at hb0) <;> (try simp only [decide_eq_true_eq, decide_eq_false_iff_not, Bool.not_eq_true', Bool.not_eq_false', Bool.not_eq_eq_eq_not, Bool.not_true, Bool.not_false, beq_iff_eq, bne_iff_ne, beq_eq_false_iff_ne, ne_eq, Bool.and_eq_true, Bool.or_eq_true, Bool.or_eq_false_iff] at h) <;> simp only [go_sem, ↓reduceIte, hb0, h, decide_true, decide_false, List.length_map, hget, hgq, hle, t0b, h0b, hrb] <;> (try clear hb0)) | (with_reducible refine And.intro (?_ : regOk _ _ = true) ?_; kernel_rfl) | (with_reducible refine andI ?_) | (refine AW.ret (Fin.data rfl (by first | (simp only [go_sem]; done) | (simp [go_sem, *]; done) | (simp [go_sem]; omega) | rfl) rfl)))
      subst hr0
      rw [if_neg (by decide)] at g2
      repeat' (first | ((first | refine AW.sreg rfl fun K hK => ?_ | refine AW.sregD hmix rfl fun K hK => ?_ | refine AW.reg rfl ?_ | refine run_call _ _ _ ((k1).pure rfl rfl _ _) rfl rfl (dstOk_of rfl) rfl rfl rfl ?_ | refine run_call _ _ _ ((k2).pure rfl rfl _ _) rfl rfl (dstOk_of rfl) rfl rfl rfl ?_ | refine run_call _ _ _ ((hpl).pure rfl rfl _ _) rfl rfl (dstOk_of rfl) rfl rfl rfl ?_ | refine run_call _ _ _ ((hd).pure rfl rfl _ _) rfl rfl (dstOk_of rfl) rfl rfl rfl ?_ | refine run_call _ _ _ ((hr).pure rfl rfl _ _) rfl rfl (dstOk_of rfl) rfl rfl rfl ?_); simp only [go_sem, ↓reduceIte, List.length_map, hget, hgq, hle, t0b, h0b]) | (refine AW.seq_k fun K hK => ?_) | (refine AW.block ?_) | (refine AW.skip ?_; simp only [Then, InBlock]) | (refine AW.cT ?_) | (refine AW.cF ?_) | (refine hK _ ?_; clear hK K) | (refine stepB_split (fun h => ?_) (fun h => ?_) <;> (have hb0 := h) <;> (try simp only [Bool.not_eq_true', Bool.not_eq_false'] at hb0) <;> (try simp only [decide_eq_true_eq, decide_eq_false_iff_not, Bool.not_eq_true', Bool.not_eq_false', Bool.not_eq_eq_eq_not, Bool.not_true, Bool.not_false, beq_iff_eq, bne_iff_ne, beq_eq_false_iff_ne, ne_eq, Bool.and_eq_true, Bool.or_eq_true, Bool.or_eq_false_iff] at h) <;> simp only [go_sem, ↓reduceIte, hb0, h, decide_true, decide_false, List.length_map, hget, hgq, hle, t0b, h0b] <;> (try clear hb0)) | (refine stepBT_split (fun h => ?_) (fun h => ?_) <;> (have hb0 := h) <;> (try simp only [Bool.not_eq_true', Bool.not_eq_false'] at hb0) <;> (try simp only [decide_eq_true_eq, decide_eq_false_iff_not, Bool.not_eq_true', Bool.not_eq_false', Bool.not_eq_eq_eq_not, Bool.not_true, Bool.not_false, beq_iff_eq, bne_iff_ne, beq_eq_false_iff_ne, ne_eq, Bool.and_eq_true, Bool.or_eq_true, Bool.or_eq_false_iff] at h) <;> simp only [go_sem, ↓reduceIte, hb0, h, decide_true, decide_false, List.length_map, hget, hgq, hle, t0b, h0b] <;> (try clear hb0)) | (with_reducible refine And.intro (?_ : regOk _ _ = true) ?_; kernel_rfl) | (with_reducible refine andI ?_) | (exfalso; omega))
      exact ⟨i + 1, ⟨hi, g2⟩, by omega, (Weak.aC hcx (by refine ⟨?_, ?_, ?_⟩ <;> simp [go_sem, gL, kL, renOf, V.obj, Nat.blt, Nat.ble, List.map_append, dv_push]))⟩
  · obtain rfl : i = l.length := by omega
    rw [List.drop_length, goF] at g2
    subst g2
    repeat' (first | (refine AW.sreg rfl fun K hK => ?_; simp only [go_sem, ↓reduceIte, List.length_map]) | (refine AW.seq_k fun K hK => ?_) | (refine AW.exit ?_; simp only [go_sem, ↓reduceIte]) | (refine AW.cF ?_) | (refine hK _ ?_; clear hK K) | (clear hK K; refine hK _ ?_; clear hK K) | (refine AW.ret (Fin.data rfl (by first | (simp only [go_sem]; done) | (simp [go_sem, *]; done) | (simp [go_sem]; omega) | rfl) rfl)))
end Go.AX

namespace Go.AX
open Go Go.Proofs Go.RowKit
theorem reverse_St (xs : List Str) (hl : xs.length ≤ 1000) : Does Tryz.prog 89 [.slr 0 0 xs.length] [.vec 9 1 (dv (xs.map D.str))] (.tup []) [.vec 9 1 (dv (xs.reverse.map D.str))] := by
  refine Does.of_AW (n := 28) Tryz.func89 rfl rfl rfl fun cx hcx => ?_
  repeat' (first | (refine AW.sreg rfl fun K hK => ?_; simp only [go_sem, ↓reduceIte]) | (refine AW.block ?_) | (refine hK _ ?_; clear hK K) | (with_reducible refine andI ?_))
  refine AW.loopF (ι := Nat × List Str) [0] (fun p => [(2, I p.1), (3, I ((xs.length : Int) - 1 - p.1))]) (fun p => [(0, some (O.vec 9 1 (dv (p.2.map D.str))))]) 6 (fun p => 2 * p.1 ≤ xs.length + 1 ∧ p.2.length = xs.length ∧ ∀ k, k < xs.length → p.2[k]? = if k < p.1 ∨ xs.length ≤ k + p.1 then xs[xs.length - 1 - k]? else xs[k]?) (fun p => xs.length - p.1) (0, xs) ⟨by omega, rfl, fun k hk => by rw [if_neg (by omega)]⟩ (Weak.aC hcx (by refine ⟨?_, ?_, ?_⟩ <;> simp [go_sem, gL, kL, renOf, V.obj, Nat.blt, Nat.ble, List.map_append, dv_push])) ?_; simp only [St.at_nil, St.at_cons, lk, Nat.reduceEqDiff, ↓reduceIte, Option.getD_some, Option.getD_none, List.cons_append, List.nil_append, List.append_nil]
  rintro ⟨i, ys⟩ ⟨h1, h2, h3⟩
  simp only at h1 h2 h3 ⊢
  by_cases hi : 2 * i + 1 < xs.length
  · obtain ⟨a, ha, -, -⟩ := get_some (l := xs) (i := i) (by omega)
    obtain ⟨b, hb, -, -⟩ := get_some (l := xs) (i := xs.length - 1 - i) (by omega)
    have hya : ys[i]? = some a := by rw [h3 i (by omega), if_neg (by omega), ha]
    have hyb : ys[xs.length - 1 - i]? = some b := by rw [h3 _ (by omega), if_neg (by omega), hb]
    have ej : ((xs.length : Int) - 1 - i).toNat = xs.length - 1 - i := by omega
    have g1 : (dv (ys.map D.str))[0 + i]? = some (.d (.str a)) := by simp [dv, hya]
    have g2 : (dv (ys.map D.str))[0 + (xs.length - 1 - i)]? = some (.d (.str b)) := by simp [dv, hyb]
    have s1 : (dv (ys.map D.str)).set (0 + i) (.d (.str b)) = dv ((ys.set i b).map D.str) := by simp [dv, List.map_set]
    have s2 : (dv ((ys.set i b).map D.str)).set (0 + (xs.length - 1 - i)) (.d (.str a)) = dv (((ys.set i b).set (xs.length - 1 - i) a).map D.str) := by simp [dv, List.map_set]
    have g3 : ∃ z, (dv ((ys.set i b).map D.str))[0 + (xs.length - 1 - i)]? = some (.d (.str z)) := by
      obtain ⟨z, hz, -, -⟩ := get_some (l := ys.set i b) (i := xs.length - 1 - i) (by simp; omega)
      exact ⟨z, by simp only [dv, Nat.zero_add, List.getElem?_map, hz, Option.map_some]⟩
    obtain ⟨z, g3⟩ := g3
    repeat' (first | ((first | refine AW.sreg rfl fun K hK => ?_ | refine AW.reg rfl ?_ | refine AW.regD hmix rfl ?_); simp only [go_sem, ↓reduceIte, ej, g1, g2, g3, s1, s2, dv_length, List.length_map, h2]) | (refine AW.seq_k fun K hK => ?_) | (refine AW.block ?_) | (refine AW.skip ?_; simp only [Then, InBlock]) | (refine AW.cT ?_) | (refine hK _ ?_; clear hK K) | (with_reducible refine And.intro (?_ : regOk _ _ = true) ?_; kernel_rfl) | (with_reducible refine andI ?_))
    all_goals first | (exfalso; omega) | skip
    refine ⟨(i + 1, (ys.set i b).set (xs.length - 1 - i) a), ⟨by simp only; omega, by simp [h2], fun k hk => ?_⟩, by simp only; omega, (Weak.aC hcx (by refine ⟨?_, ?_, ?_⟩ <;> simp [go_sem, gL, kL, renOf, V.obj, Nat.blt, Nat.ble, List.map_append, dv_push, show (xs.length : Int) - 1 - i - 1 = (xs.length : Int) - 1 - (i + 1) by omega]))⟩
    rw [List.getElem?_set, List.getElem?_set]
    by_cases e1 : xs.length - 1 - i = k
    · rw [if_pos e1, if_pos (by simp; omega), if_pos (by omega), ← e1, show xs.length - 1 - (xs.length - 1 - i) = i by omega, ha]
    · rw [if_neg e1]
      by_cases e2 : i = k
      · rw [if_pos e2, if_pos (by omega), if_pos (by omega), ← e2, hb]
      · rw [if_neg e2, h3 k hk]
        by_cases e3 : k < i ∨ xs.length ≤ k + i
        · rw [if_pos e3, if_pos (by omega)]
        · rw [if_neg e3, if_neg (by omega)]
  · have he : ys = xs.reverse := by
      apply List.ext_getElem?
      intro k
      rcases Nat.lt_or_ge k xs.length with hk | hk
      · rw [h3 k hk, List.getElem?_reverse hk]
        split
        · rfl
        · rw [show xs.length - 1 - k = k by omega]
      · rw [List.getElem?_eq_none (by omega), List.getElem?_eq_none (by simp; omega)]
    subst he
    repeat' (first | ((first | refine AW.sreg rfl fun K hK => ?_ | refine AW.exit ?_); simp only [go_sem, ↓reduceIte]) | (refine AW.seq_k fun K hK => ?_) | (refine AW.cF ?_) | (refine hK _ ?_; clear hK K))
    all_goals first | (exfalso; omega) | exact Fin.objs [0] rfl (by simp [go_sem, inI, gI]) ⟨⟨_, rfl, by simp [go_sem, inI, gI]⟩, trivial⟩ (by simp) rfl (by simp [go_sem]) (by simp [go_sem]) rfl
theorem ext105 : Builder.Extra Tryz.prog Tryz.l105_ren where
  sizeBuilder := by kernel_rfl
  liesBuilder := by kernel_rfl
  t5 := Tryz.underlying5
  a5 := Tryz.isAgg5
  z5 := Tryz.sizeOf5
  v5 := Tryz.zeroValue5
  infoByte := by kernel_rfl
  cellsByte := by kernel_rfl
  sizeByte := by kernel_rfl
  neB5 := by decide
theorem repeat_t (c : Nat) (hc : c ≤ 100000) : Does Tryz.prog 90 [S [116], I c] [] (S (Lib.repeatL [116] c)) [] := by
  refine Does.of_below ⟨Tryz.f90, Tryz.func90, rfl, by kernel_rfl⟩ fun w ok vs hg hok hargs => ?_
  simp only [RVl, RV, RD] at hargs
  obtain ⟨v1, r1, e1, rfl, v2, r2, e2, rfl, rfl⟩ := hargs
  subst e2
  obtain rfl : vs = #[.string ⟨#[116]⟩, .int .i64 c] := by cases vs; simp_all
  refine (Any.strings_Repeat Tryz.l105 ext105 ⟨#[116]⟩ c w (by omega) (by simp [ByteArray.size]; omega)).mono fun e w' ⟨h1, h2⟩ => ⟨_, h1, h2, ?_⟩
  simp only [RV, RD]
theorem toDL_dvF {F : V → Option D} (h : ∀ x : D, F (.d x) = some x) : ∀ xs : List D, toDL F (dv xs) = some xs
  | [] => rfl
  | x :: xs => by
    have := toDL_dvF h xs
    simp only [dv, List.map_cons] at this ⊢
    simp only [toDL, h, this]
def ToL3 : List (List Str) := [[], [[97, 105]], [[97, 105], [100, 98]]]
theorem papersOf10I (l : List Int) (hl2 : l.length ≤ 9223372036854775807) (at_ : Int) (ha : 0 ≤ at_) (hb : at_ ≤ 10000) (n : Nat) (hn : n ≤ 6) :
    DoesI Tryz.prog 31 [.ptr 0 0, I n] [Stm l at_] (fun q : List Pa × Int => (q.1.length = n ∧ ∀ p ∈ q.1, PaR p ∧ p.2.2.2.2 ∈ ToL) ∧ at_ ≤ q.2 ∧ q.2 ≤ at_ + 20 * n) (fun q => .d (.sl (q.1.map paD))) (fun q => [Stm l q.2]) := by
  refine DoesI.of_AW (n := 116) Tryz.func31 rfl rfl rfl fun cx hcx => ?_
  have hmin : (if (6 : Int) < (n : Int) then 6 else (n : Int)) = n := if_neg (by omega)
  repeat' (first | (refine AW.sreg rfl fun K hK => ?_; simp only [go_sem, ↓reduceIte, hmin, Int.toNat_natCast, Nat.zero_add, Nat.sub_zero]) | (refine AW.seq_k fun K hK => ?_) | (refine AW.block ?_) | (refine hK _ ?_; clear hK K) | (with_reducible refine andI ?_))
  refine AW.weak (Weak.nil 5 47 5 rfl) ?_
  refine AW.loopF (ι := Nat × List Pa × Int) [0, 14, 15] (fun p => [(16, I p.1), (5, .slr 576 0 p.2.1.length)]) (fun p => [(192, some (SV Id6)), (0, some (Stm l p.2.2)), (576, some (O.vec 47 5 (dv (p.2.1.map paD))))]) 12 (fun p => p.1 ≤ n ∧ (p.2.1.length = p.1 ∧ ∀ x ∈ p.2.1, PaR x ∧ x.2.2.2.2 ∈ ToL) ∧ at_ ≤ p.2.2 ∧ p.2.2 ≤ at_ + 20 * p.1) (fun p => n - p.1) (0, [], at_) ⟨by simp, ⟨by simp, by simp⟩, by simp, by simp⟩ (Weak.aC hcx (by refine ⟨?_, ?_, ?_⟩ <;> simp [go_sem, gL, kL, renOf, V.obj, Nat.blt, Nat.ble, List.map_append, dv_push, Id6, dv])) ?_; simp only [St.at_nil, St.at_cons, lk, Nat.reduceEqDiff, ↓reduceIte, Option.getD_some, Option.getD_none, List.cons_append, List.nil_append, List.append_nil]
  rintro ⟨i, out, a⟩ ⟨h1, ⟨h2, h3⟩, h4, h5⟩
  dsimp only at h1 h2 h3 h4 h5 ⊢
  by_cases hi : i < n
  rotate_left
  · obtain rfl : i = n := by omega
    repeat' (first | (refine AW.sreg rfl fun K hK => ?_; simp only [go_sem, ↓reduceIte, List.length_map]) | (refine AW.seq_k fun K hK => ?_) | (refine AW.exit ?_; simp only [go_sem, ↓reduceIte]) | (refine AW.cF ?_) | (refine hK _ ?_; clear hK K) | (clear hK K; refine hK _ ?_; clear hK K))
    exact AW.ret ⟨(out, a), ⟨⟨h2, h3⟩, by simp only; omega, by simp only; omega⟩, Fin.one rfl ((frz_slr rfl rfl (by simp)).trans (by simp [go_sem])) ⟨_, rfl, by simp [go_sem]⟩ rfl rfl rfl⟩
  · obtain ⟨pid, hpid, hpm, -⟩ := get_some (l := Id6) (i := i) (by simp [Id6]; omega)
    have hget : (dv (Id6.map D.str))[0 + i]? = some (.d (.str pid)) := by simp only [dv, Nat.zero_add, List.getElem?_map, hpid, Option.map_some]
    have hpS : pid ∈ IdS := List.mem_append_left _ hpm
    have d0 : dv [] = [] := rfl
    have t0 : ∀ F : V → Option D, toDL F [] = some [] := fun _ => rfl
    have d1 : ∀ x : D, dv [x] = [V.d x] := fun _ => rfl
    have d2 : ∀ x y : D, dv [x, y] = [V.d x, V.d y] := fun _ _ => rfl
    have d4 : dv (Au4.map D.str) = [V.d (D.str [97, 110, 110]), V.d (D.str [98, 111, 98]), V.d (D.str [99, 105, 100]), V.d (D.str [100, 101, 101])] := rfl
    repeat' (first | (refine AW.sreg rfl fun K hK => ?_; simp only [go_sem, ↓reduceIte, hget, Int.reduceAdd]) | (refine AW.seq_k fun K hK => ?_) | (refine AW.block ?_) | (refine AW.skip ?_; simp only [Then, InBlock]) | (refine AW.cT ?_) | (refine hK _ ?_; clear hK K) | (with_reducible refine andI ?_))
    suffices hA : ∀ (tr ti : Str) (tp : List Str), tr ∈ TrS → ti ∈ TiS → tp ∈ ToL3 → ∀ s, Weak cx s (⟨116, [(0, .ptr 0 0), (5, .slr 576 0 out.length), (7, S pid), (8, .ptr 1984 0), (14, .slr 192 0 n), (15, I n), (16, I i)], [(0, some (Stm l (a + 1 + 1 + 1))), (192, some (SV Id6)), (576, some (O.vec 47 5 (dv (out.map paD)))), (1984, some (O.box 47 [S pid, S tr, S ti, .nils, .slr 2048 0 tp.length])), (2048, some (O.vec 9 1 (dv (tp.map D.str))))], 40⟩ : St) → K s by
      clear hK
      have n3 := next_any l hl2 (a + 1 + 1) 3 (by omega) (by omega) (by omega) (by omega)
      have r3 := nextV_range l (a + 1 + 1) 3 (by omega)
      generalize nextV l (a + 1 + 1) 3 = kk at n3 r3
      have hkk : kk = 0 ∨ kk = 1 ∨ kk = 2 := by omega
      rcases hkk with rfl | rfl | rfl
      all_goals
        repeat' (first | (refine run_callI _ _ _ ((one10I l hl2 _ (by omega) (by omega) [[109, 97, 105, 110], [109, 97, 105, 110], [100, 101, 109, 111]] (by simp) (by simp)).objs [0, _] ⟨rfl, rfl, trivial⟩ rfl (by decide) (by simp [go_sem, renOs]) (by simp [go_sem]) (by simp [go_sem]) (fun j hj => ⟨by simp, by simp, by simp [go_sem], by simp [go_sem]⟩)) rfl rfl (dstOk_of rfl) rfl rfl rfl ?_; rintro tr htr; (try dsimp only at tr); (try dsimp only at htr); simp only [go_sem, ↓reduceIte, List.set_cons_zero]) | (refine run_callI _ _ _ ((one10I l hl2 _ (by omega) (by omega) Ti3 (by simp [Ti3]) (by simp [Ti3])).objs [0, _] ⟨rfl, rfl, trivial⟩ rfl (by decide) (by simp [go_sem, renOs]) (by simp [go_sem]) (by simp [go_sem]) (fun j hj => ⟨by simp, by simp, by simp [go_sem], by simp [go_sem]⟩)) rfl rfl (dstOk_of rfl) rfl rfl rfl ?_; rintro ti hti; (try dsimp only at ti); (try dsimp only at hti); simp only [go_sem, ↓reduceIte, List.set_cons_zero]) | (refine run_call _ _ _ ((n3).objA [0]) rfl rfl (dstOk_of rfl) rfl rfl rfl ?_; simp only [go_sem, ↓reduceIte, List.set_cons_zero]) | (with_reducible refine andI ?_))
      · exact hA tr ti [] ((show ∀ x ∈ ([[109, 97, 105, 110], [109, 97, 105, 110], [100, 101, 109, 111]] : List Str), x ∈ TrS by decide) _ htr) (List.mem_append_left _ (List.mem_append_left _ hti)) (by simp [ToL3]) _ (Weak.trans (Weak.nilB 1984 4 47 9 1 rfl rfl) (Weak.oC hcx [(192, 192), (576, 576), (1984, 1984), (2048, 2112)] (by refine ⟨?_, ?_, ?_⟩ <;> simp [go_sem, gL, kL, List.map_append, dv_push, d0])))
      · exact hA tr ti [[97, 105]] ((show ∀ x ∈ ([[109, 97, 105, 110], [109, 97, 105, 110], [100, 101, 109, 111]] : List Str), x ∈ TrS by decide) _ htr) (List.mem_append_left _ (List.mem_append_left _ hti)) (by simp [ToL3]) _ (Weak.oC hcx [(192, 192), (576, 576), (1984, 1984), (2048, 1472)] (by refine ⟨?_, ?_, ?_⟩ <;> simp [go_sem, gL, kL, List.map_append, dv_push, d1]))
      · exact hA tr ti [[97, 105], [100, 98]] ((show ∀ x ∈ ([[109, 97, 105, 110], [109, 97, 105, 110], [100, 101, 109, 111]] : List Str), x ∈ TrS by decide) _ htr) (List.mem_append_left _ (List.mem_append_left _ hti)) (by simp [ToL3]) _ (Weak.oC hcx [(192, 192), (576, 576), (1984, 1984), (2048, 1536)] (by refine ⟨?_, ?_, ?_⟩ <;> simp [go_sem, gL, kL, List.map_append, dv_push, d2]))
    intro tr ti tp htr hti htp s hw
    refine hK s (AW.weak hw ?_)
    clear hw hK K
    refine AW.weak (Weak.nilB 1984 3 47 9 1 rfl rfl) ?_
    simp only [List.set_cons_zero, List.set_cons_succ, Nat.reduceMul, Nat.reduceAdd]
    repeat' (first | (refine AW.sreg rfl fun K hK => ?_; simp only [go_sem, ↓reduceIte]) | (refine AW.seq_k fun K hK => ?_) | (refine AW.block ?_) | (refine hK _ ?_; clear hK K))
    refine AW.loopF (ι := Nat × List Str × Int) [0, 5, 7, 8, 14, 15, 16, 35, 36] (fun p => [(37, I p.1)]) (fun p => [(0, some (Stm l p.2.2)), (192, some (SV Id6)), (576, some (O.vec 47 5 (dv (out.map paD)))), (1984, some (O.box 47 [S pid, S tr, S ti, .slr 2560 0 p.2.1.length, .slr 2048 0 tp.length])), (2048, some (O.vec 9 1 (dv (tp.map D.str)))), (2560, some (O.vec 9 1 (dv (p.2.1.map D.str)))), (2624, some (O.vec 9 1 (dv (Au4.map D.str))))]) 46 (fun p => p.1 ≤ 4 ∧ p.2.1.length ≤ p.1 ∧ (∀ x ∈ p.2.1, x ∈ AuS) ∧ a + 1 + 1 + 1 ≤ p.2.2 ∧ p.2.2 ≤ a + 1 + 1 + 1 + p.1) (fun p => 4 - p.1) (0, [], a + 1 + 1 + 1) ⟨by simp, by simp, by simp, by simp, by simp⟩ (Weak.oC hcx [(192, 192), (576, 576), (1984, 1984), (2048, 2048), (2560, 2560), (2624, 2624)] (by refine ⟨?_, ?_, ?_⟩ <;> simp [go_sem, gL, kL, List.map_append, dv_push, d0, d4])) ?_; simp only [St.at_nil, St.at_cons, lk, Nat.reduceEqDiff, ↓reduceIte, Option.getD_some, Option.getD_none, List.cons_append, List.nil_append, List.append_nil]
    rintro ⟨j, au, b⟩ ⟨j1, j2, j3, j4, j5⟩
    dsimp only at j1 j2 j3 j4 j5 ⊢
    have htk : List.take au.length (dv (au.map D.str)) = dv (au.map D.str) := List.take_of_length_le (by simp [dv])
    by_cases hj : j < 4
    · obtain ⟨x, hx, hxm, -⟩ := get_some (l := Au4) (i := j) (by simpa [Au4] using hj)
      have hgx : (dv (Au4.map D.str))[0 + j]? = some (.d (.str x)) := by simp only [dv, Nat.zero_add, List.getElem?_map, hx, Option.map_some]
      repeat' (first | ((first | refine AW.sreg rfl fun K hK => ?_ | refine AW.reg rfl ?_); simp only [go_sem, ↓reduceIte, hgx, htk, List.set_cons_zero, Int.reduceAdd]) | (refine AW.seq_k fun K hK => ?_) | (refine AW.block ?_) | (refine AW.skip ?_; simp only [Then, InBlock]) | (refine AW.cT ?_) | (refine AW.cond rfl (fun h => ?_) (fun h => ?_) <;> (try simp only [decide_eq_true_eq, decide_eq_false_iff_not, Bool.not_eq_true', Bool.not_eq_false', Bool.not_eq_eq_eq_not, Bool.not_true, Bool.not_false, beq_iff_eq, bne_iff_ne, beq_eq_false_iff_ne, ne_eq, Bool.and_eq_true, Bool.or_eq_true, Bool.or_eq_false_iff] at h)) | (refine hK _ ?_; clear hK K) | (refine run_callI _ _ _ ((flipI l hl2 b 3 (by omega) (by omega) (by omega) (by omega)).objs [0] ⟨rfl, trivial⟩ rfl (by decide) (by simp [go_sem, renOs]) (by simp [go_sem]) (by simp [go_sem]) (fun j hj => ⟨by simp, by simp, by simp [go_sem], by simp [go_sem]⟩)) rfl rfl (dstOk_of rfl) rfl rfl rfl ?_; rintro r hr; (try dsimp only at r); (try dsimp only at hr); simp only [go_sem, ↓reduceIte, hgx, htk, List.set_cons_zero, Int.reduceAdd]) | (with_reducible refine andI ?_))
      · refine ⟨(j + 1, au ++ [x], b + 1), ⟨hj, by simp; omega, fun y hy => ?_, by simp only; omega, by simp only; omega⟩, by simp only; omega, (Weak.oC hcx [(192, 192), (576, 576), (1984, 1984), (2048, 2048), (2560, 3584), (2624, 2624)] (by refine ⟨?_, ?_, ?_⟩ <;> simp [go_sem, gL, kL, List.map_append, dv_push]))⟩
        rcases List.mem_append.1 hy with hy | hy
        · exact j3 y hy
        · obtain rfl := List.mem_singleton.1 hy
          exact List.mem_append_left _ hxm
      · exact ⟨(j + 1, au, b + 1), ⟨hj, by simp only; omega, j3, by simp only; omega, by simp only; omega⟩, by simp only; omega, (Weak.oC hcx [(192, 192), (576, 576), (1984, 1984), (2048, 2048), (2560, 2560), (2624, 2624)] (by refine ⟨?_, ?_, ?_⟩ <;> simp [go_sem, gL, kL, List.map_append, dv_push]))⟩
    · obtain rfl : j = 4 := by omega
      refine AW.sreg rfl fun K hK => ?_; simp only [go_sem, ↓reduceIte]
      refine hK _ ?_; (try clear hK K)
      refine AW.seq_k fun K hK => ?_
      refine AW.cF ?_
      refine AW.exit ?_
      simp only [go_sem, ↓reduceIte]
      clear hK K
      refine hK _ ?_
      clear hK K
      refine AW.seq_k fun K hK => ?_
      refine AW.joinK (ι := List Str × Int) (fun p => (∀ x ∈ p.1, x ∈ AuS) ∧ p.1.length ≤ 4 ∧ a + 1 + 1 + 1 ≤ p.2 ∧ p.2 ≤ a + 8) (fun p => ⟨116, [(0, .ptr 0 0), (5, .slr 576 0 out.length), (7, S pid), (8, .ptr 1984 0), (14, .slr 192 0 n), (15, I n), (16, I i)], [(0, some (Stm l p.2)), (192, some (SV Id6)), (576, some (O.vec 47 5 (dv (out.map paD)))), (1984, some (O.box 47 [S pid, S tr, S ti, .slr 2560 0 p.1.length, .slr 2048 0 tp.length])), (2048, some (O.vec 9 1 (dv (tp.map D.str)))), (2560, some (O.vec 9 1 (dv (p.1.map D.str))))], 80⟩) ?_ ?_
      · by_cases hau : au = []
        · subst hau
          repeat' (first | ((first | refine AW.sreg rfl fun K hK => ?_ | refine AW.reg rfl ?_); simp only [go_sem, ↓reduceIte, List.length_nil, Int.reduceAdd]) | (refine AW.cT ?_) | (refine hK _ ?_; clear hK K) | (refine run_callI _ _ _ ((one10I l hl2 b (by omega) (by omega) [[97, 110, 110], [98, 111, 98]] (by simp) (by simp)).objs [0, _] ⟨rfl, rfl, trivial⟩ rfl (by decide) (by simp [go_sem, renOs]) (by simp [go_sem]) (by simp [go_sem]) (fun j hj => ⟨by simp, by simp, by simp [go_sem], by simp [go_sem]⟩)) rfl rfl (dstOk_of rfl) rfl rfl rfl ?_; rintro x hx; (try dsimp only at x); (try dsimp only at hx); simp only [go_sem, ↓reduceIte, List.length_nil, Int.reduceAdd]))
          exact ⟨([x], b + 1), ⟨fun y hy => by obtain rfl := List.mem_singleton.1 hy; exact (show ∀ x ∈ ([[97, 110, 110], [98, 111, 98]] : List Str), x ∈ AuS by decide) _ hx, by simp, by simp only; omega, by simp only; omega⟩, (Weak.oC hcx [(192, 192), (576, 576), (1984, 1984), (2048, 2048), (2560, 3456)] (by refine ⟨?_, ?_, ?_⟩ <;> simp [go_sem, gL, kL, List.map_append, dv_push, d1]))⟩
        · have hpos : 0 < au.length := List.length_pos_iff.2 hau
          have h0b : ((au.length : Int) == 0) = false := by simp; omega
          repeat' (first | (refine AW.sreg rfl fun K hK => ?_; simp only [go_sem, ↓reduceIte, List.length_map, h0b]) | (refine AW.skip ?_; simp only [Then, InBlock]) | (refine AW.cF ?_) | (refine hK _ ?_; clear hK K))
          exact ⟨(au, b), ⟨j3, by simp only; omega, by simp only; omega, by simp only; omega⟩, (Weak.oC hcx [(192, 192), (576, 576), (1984, 1984), (2048, 2048), (2560, 2560)] (by refine ⟨?_, ?_, ?_⟩ <;> simp [go_sem, gL, kL, List.map_append, dv_push]))⟩
      rintro s2 ⟨au2, b2⟩ ⟨u1, u2, u3, u4⟩ hw2
      dsimp only at u1 u2 u3 u4 hw2
      refine hK s2 (AW.weak hw2 ?_)
      clear hw2 hK K htk j1 j2 j3 j4 j5
      refine AW.seq_k fun K hK => ?_
      refine AW.joinK (ι := List Str × Int) (fun p => (∀ x ∈ p.1, x ∈ AuS) ∧ p.1.length ≤ 4 ∧ a + 1 + 1 + 1 ≤ p.2 ∧ p.2 ≤ a + 9) (fun p => ⟨116, [(0, .ptr 0 0), (5, .slr 576 0 out.length), (7, S pid), (8, .ptr 1984 0), (14, .slr 192 0 n), (15, I n), (16, I i)], [(0, some (Stm l p.2)), (192, some (SV Id6)), (576, some (O.vec 47 5 (dv (out.map paD)))), (1984, some (O.box 47 [S pid, S tr, S ti, .slr 2560 0 p.1.length, .slr 2048 0 tp.length])), (2048, some (O.vec 9 1 (dv (tp.map D.str)))), (2560, some (O.vec 9 1 (dv (p.1.map D.str))))], 100⟩) ?_ ?_
      · repeat' (first | ((first | refine AW.sreg rfl fun K hK => ?_ | refine AW.reg rfl ?_ | refine run_call _ _ _ ((reverse_St au2 (by omega)).objA [2560]) rfl rfl (dstOk_of rfl) rfl rfl rfl ?_); simp only [go_sem, ↓reduceIte, List.length_map, List.set_cons_zero]) | (refine AW.skip ?_; simp only [Then, InBlock]) | (refine AW.cond rfl (fun h => ?_) (fun h => ?_) <;> (try simp only [decide_eq_true_eq, decide_eq_false_iff_not, Bool.not_eq_true', Bool.not_eq_false', Bool.not_eq_eq_eq_not, Bool.not_true, Bool.not_false, beq_iff_eq, bne_iff_ne, beq_eq_false_iff_ne, ne_eq, Bool.and_eq_true, Bool.or_eq_true, Bool.or_eq_false_iff] at h)) | (refine hK _ ?_; clear hK K) | (refine run_callI _ _ _ ((flipI l hl2 b2 2 (by omega) (by omega) (by omega) (by omega)).objs [0] ⟨rfl, trivial⟩ rfl (by decide) (by simp [go_sem, renOs]) (by simp [go_sem]) (by simp [go_sem]) (fun j hj => ⟨by simp, by simp, by simp [go_sem], by simp [go_sem]⟩)) rfl rfl (dstOk_of rfl) rfl rfl rfl ?_; rintro r hr; (try dsimp only at r); (try dsimp only at hr); simp only [go_sem, ↓reduceIte, List.length_map, List.set_cons_zero]))
        · exact ⟨(au2.reverse, b2 + 1), ⟨fun y hy => u1 y (List.mem_reverse.1 hy), by simpa using u2, by simp only; omega, by simp only; omega⟩, (Weak.oC hcx [(192, 192), (576, 576), (1984, 1984), (2048, 2048), (2560, 2560)] (by refine ⟨?_, ?_, ?_⟩ <;> simp [go_sem, gL, kL, List.map_append, dv_push]))⟩
        · exact ⟨(au2, b2 + 1), ⟨u1, u2, by simp only; omega, by simp only; omega⟩, (Weak.oC hcx [(192, 192), (576, 576), (1984, 1984), (2048, 2048), (2560, 2560)] (by refine ⟨?_, ?_, ?_⟩ <;> simp [go_sem, gL, kL, List.map_append, dv_push]))⟩
      rintro s2 ⟨au3, b3⟩ ⟨v1, v2, v3, v4⟩ hw2
      dsimp only at v1 v2 v3 v4 hw2
      refine hK s2 (AW.weak hw2 ?_)
      clear hw2 hK K u1 u2 u3 u4
      have htk : List.take au3.length (dv (au3.map D.str)) = dv (au3.map D.str) := List.take_of_length_le (by simp [dv])
      have htk2 : List.take tp.length (dv (tp.map D.str)) = dv (tp.map D.str) := List.take_of_length_le (by simp [dv])
      have htpl : tp ∈ ToL ∧ tp.length ≤ 2 ∧ (∀ x ∈ tp, x ∈ ToS) ∧ ∀ x ∈ ([[], [97, 105], [65]] : List Str), tp ++ [x] ∈ ToL ∧ x ∈ ToS := (show ∀ tp ∈ ToL3, tp ∈ ToL ∧ tp.length ≤ 2 ∧ (∀ x ∈ tp, x ∈ ToS) ∧ ∀ x ∈ ([[], [97, 105], [65]] : List Str), tp ++ [x] ∈ ToL ∧ x ∈ ToS by decide) tp htp
      obtain ⟨hl1, hl2', hl3, hl4⟩ := htpl
      have hok : ∀ (p1 p2 p3 : Str) (p4 p5 : List Str), p1 ∈ IdS → p2 ∈ TrS → p3 ∈ TiS → (∀ x ∈ p4, x ∈ AuS) → p4.length ≤ 5 → p5 ∈ ToL → (∀ x ∈ p5, x ∈ ToS) → p5.length ≤ 3 → PaR (p1, p2, p3, p4, p5) ∧ p5 ∈ ToL := fun p1 p2 p3 p4 p5 q1 q2 q3 q4 q5 q6 q7 q8 => ⟨⟨q1, q2, q3, q4, q5, q7, q8⟩, q6⟩
      refine AW.seq_k fun K hK => ?_
      refine AW.joinK (ι := Pa × Int) (fun p => (PaR p.1 ∧ p.1.2.2.2.2 ∈ ToL) ∧ a ≤ p.2 ∧ p.2 ≤ a + 20) (fun p => ⟨116, [(0, .ptr 0 0), (5, .slr 576 0 out.length), (7, S pid), (8, .ptr 1984 0), (14, .slr 192 0 n), (15, I n), (16, I i)], [(0, some (Stm l p.2)), (192, some (SV Id6)), (576, some (O.vec 47 5 (dv (out.map paD)))), (1984, some (O.box 47 [S p.1.1, S p.1.2.1, S p.1.2.2.1, .d (.sl (p.1.2.2.2.1.map D.str)), .d (.sl (p.1.2.2.2.2.map D.str))]))], 200⟩) ?_ ?_
      · repeat' (first | (refine AW.sreg rfl fun K hK => ?_; simp only [go_sem, ↓reduceIte, List.length_map, List.set_cons_zero]) | (refine AW.skip ?_; simp only [Then, InBlock]) | (refine AW.cond rfl (fun h => ?_) (fun h => ?_) <;> (try simp only [decide_eq_true_eq, decide_eq_false_iff_not, Bool.not_eq_true', Bool.not_eq_false', Bool.not_eq_eq_eq_not, Bool.not_true, Bool.not_false, beq_iff_eq, bne_iff_ne, beq_eq_false_iff_ne, ne_eq, Bool.and_eq_true, Bool.or_eq_true, Bool.or_eq_false_iff] at h)) | (refine hK _ ?_; clear hK K) | (refine run_callI _ _ _ ((flipI l hl2 b3 50 (by omega) (by omega) (by omega) (by omega)).objs [0] ⟨rfl, trivial⟩ rfl (by decide) (by simp [go_sem, renOs]) (by simp [go_sem]) (by simp [go_sem]) (fun j hj => ⟨by simp, by simp, by simp [go_sem], by simp [go_sem]⟩)) rfl rfl (dstOk_of rfl) rfl rfl rfl ?_; rintro r hr; (try dsimp only at r); (try dsimp only at hr); simp only [go_sem, ↓reduceIte, List.length_map, List.set_cons_zero]))
        rotate_left
        · exact ⟨((pid, tr, ti, au3, tp), b3 + 1), ⟨hok _ _ _ _ _ hpS htr hti v1 (by omega) hl1 hl3 (by omega), by simp only; omega, by simp only; omega⟩, (Weak.oC hcx [(192, 192), (576, 576), (1984, 1984)] (by refine ⟨?_, ?_, ?_⟩ <;> simp [go_sem, gL, kL, List.map_append, dv_push, toDL_dvF, frz, frzL, toD, mkAgg, htk, htk2]))⟩
        · have n5 := next_any l hl2 (b3 + 1) 5 (by omega) (by omega) (by omega) (by omega)
          have r5 := nextV_range l (b3 + 1) 5 (by omega)
          generalize nextV l (b3 + 1) 5 = kk at n5 r5
          have hkk : kk = 0 ∨ kk = 1 ∨ kk = 2 ∨ kk = 3 ∨ kk = 4 := by omega
          rcases hkk with rfl | rfl | rfl | rfl | rfl
          · repeat' (first | ((first | refine AW.sreg rfl fun K hK => ?_ | refine AW.reg rfl ?_ | refine run_call _ _ _ ((n5).objA [0]) rfl rfl (dstOk_of rfl) rfl rfl rfl ?_); simp only [go_sem, ↓reduceIte, List.length_map, List.set_cons_zero, List.set_cons_succ]) | (refine AW.block ?_) | (refine AW.cT ?_) | (refine hK _ ?_; clear hK K) | (refine run_callI _ _ _ ((one10I l hl2 _ (by omega) (by omega) [[], [65], pid] (by simp) (by simp)).objs [0, _] ⟨rfl, rfl, trivial⟩ rfl (by decide) (by simp [go_sem, renOs]) (by simp [go_sem]) (by simp [go_sem]) (fun j hj => ⟨by simp, by simp, by simp [go_sem], by simp [go_sem]⟩)) rfl rfl (dstOk_of rfl) rfl rfl rfl ?_; rintro x hx; (try dsimp only at x); (try dsimp only at hx); simp only [go_sem, ↓reduceIte, List.length_map, List.set_cons_zero, List.set_cons_succ]) | (refine run_callI _ _ _ ((one10I l hl2 _ (by omega) (by omega) [[], [109, 97, 105, 110]] (by simp) (by simp)).objs [0, _] ⟨rfl, rfl, trivial⟩ rfl (by decide) (by simp [go_sem, renOs]) (by simp [go_sem]) (by simp [go_sem]) (fun j hj => ⟨by simp, by simp, by simp [go_sem], by simp [go_sem]⟩)) rfl rfl (dstOk_of rfl) rfl rfl rfl ?_; rintro y hy; (try dsimp only at y); (try dsimp only at hy); simp only [go_sem, ↓reduceIte, List.length_map, List.set_cons_zero, List.set_cons_succ]))
            refine ⟨((x, y, ti, au3, tp), b3 + 1 + 1 + 1 + 1), ⟨hok _ _ _ _ _ ?_ ?_ hti v1 (by omega) hl1 hl3 (by omega), by simp only; omega, by simp only; omega⟩, (Weak.oC hcx [(192, 192), (576, 576), (1984, 1984)] (by refine ⟨?_, ?_, ?_⟩ <;> simp [go_sem, gL, kL, List.map_append, dv_push, toDL_dvF, frz, frzL, toD, mkAgg, htk, htk2]))⟩
            · simp only [List.mem_cons, List.not_mem_nil, or_false] at hx
              rcases hx with rfl | rfl | rfl
              · decide
              · decide
              · exact hpS
            · exact (show ∀ y ∈ ([[], [109, 97, 105, 110]] : List Str), y ∈ TrS by decide) _ hy
          · have hp2 := pick_any l hl2 (b3 + 1 + 1) (by omega) (by omega) [200, 201] (by simp) (by simp)
            have hd2 := pick_mem l (b3 + 1 + 1) [200, 201] (by simp)
            generalize ([200, 201] : List Int).getD (nextV l (b3 + 1 + 1) ([200, 201] : List Int).length).toNat 0 = d at hp2 hd2
            simp only [List.mem_cons, List.not_mem_nil, or_false] at hd2
            have hrp := repeat_t d.toNat (by omega)
            rw [Int.toNat_of_nonneg (by omega)] at hrp
            have hrl : Lib.repeatL [116] d.toNat ∈ TiS := by
              rcases hd2 with rfl | rfl <;> decide
            generalize Lib.repeatL [116] d.toNat = rr at hrp hrl
            repeat' (first | ((first | refine AW.sreg rfl fun K hK => ?_ | refine AW.reg rfl ?_ | refine run_call _ _ _ ((n5).objA [0]) rfl rfl (dstOk_of rfl) rfl rfl rfl ?_ | refine run_call _ _ _ ((hp2).objA [0, _]) rfl rfl (dstOk_of rfl) rfl rfl rfl ?_ | refine run_call _ _ _ ((hrp).pure rfl rfl _ _) rfl rfl (dstOk_of rfl) rfl rfl rfl ?_); simp only [go_sem, ↓reduceIte, List.length_map, List.set_cons_zero, List.set_cons_succ]) | (refine AW.block ?_) | (refine AW.cT ?_) | (refine AW.cF ?_) | (refine hK _ ?_; clear hK K) | (refine run_callI _ _ _ ((one10I l hl2 _ (by omega) (by omega) [[], [32, 120], [97, 32, 32, 98], rr] (by simp) (by simp)).objs [0, _] ⟨rfl, rfl, trivial⟩ rfl (by decide) (by simp [go_sem, renOs]) (by simp [go_sem]) (by simp [go_sem]) (fun j hj => ⟨by simp, by simp, by simp [go_sem], by simp [go_sem]⟩)) rfl rfl (dstOk_of rfl) rfl rfl rfl ?_; rintro x hx; (try dsimp only at x); (try dsimp only at hx); simp only [go_sem, ↓reduceIte, List.length_map, List.set_cons_zero, List.set_cons_succ]))
            refine ⟨((pid, tr, x, au3, tp), b3 + 1 + 1 + 1 + 1), ⟨hok _ _ _ _ _ hpS htr ?_ v1 (by omega) hl1 hl3 (by omega), by simp only; omega, by simp only; omega⟩, (Weak.oC hcx [(192, 192), (576, 576), (1984, 1984)] (by refine ⟨?_, ?_, ?_⟩ <;> simp [go_sem, gL, kL, List.map_append, dv_push, toDL_dvF, frz, frzL, toD, mkAgg, htk, htk2]))⟩
            simp only [List.mem_cons, List.not_mem_nil, or_false] at hx
            rcases hx with rfl | rfl | rfl | rfl
            · decide
            · decide
            · decide
            · exact hrl
          · have ho := one10_any l hl2 (b3 + 1 + 1) (by omega) (by omega) [[110, 111, 110, 101], [97, 110, 110], [], [65]] (by simp) (by simp)
            have hom := one_mem l (b3 + 1 + 1) [[110, 111, 110, 101], [97, 110, 110], [], [65]] (by simp)
            generalize ([[110, 111, 110, 101], [97, 110, 110], [], [65]] : List Str).getD (nextV l (b3 + 1 + 1) ([[110, 111, 110, 101], [97, 110, 110], [], [65]] : List Str).length).toNat [] = x at ho hom
            have htk3 : List.take (au3.length + 1) (dv (au3.map D.str ++ [D.str x])) = dv (au3.map D.str ++ [D.str x]) := List.take_of_length_le (by simp [dv])
            repeat' (first | ((first | refine AW.sreg rfl fun K hK => ?_ | refine AW.regD hmix rfl ?_ | refine run_call _ _ _ ((n5).objA [0]) rfl rfl (dstOk_of rfl) rfl rfl rfl ?_ | refine runT_call _ _ [0, 7232] (fun hv hag => (ho).objs [0, 7232] ⟨((hag 0 (by simp)).trans rfl), ((hag 7232 (by simp)).trans rfl), trivial⟩ rfl (by decide) (by simp [go_sem, renOs]) (by simp) (by simp) (by simp [go_sem]) (by simp [go_sem]) (by simp [go_sem]) (by simp [go_sem])) rfl rfl (dstOk_of rfl) rfl rfl ?_); simp only [go_sem, ↓reduceIte, List.length_map, List.set_cons_zero, List.set_cons_succ, htk]) | (refine AW.block ?_) | (refine AW.cT ?_) | (refine AW.cF ?_) | (refine hK _ ?_; clear hK K) | (with_reducible refine And.intro (?_ : regOk _ _ = true) ?_; kernel_rfl) | (with_reducible refine andI ?_))
            refine ⟨((pid, tr, ti, au3 ++ [x], tp), b3 + 1 + 1 + 1), ⟨hok _ _ _ _ _ hpS htr hti (fun y hy => ?_) (by simp; omega) hl1 hl3 (by omega), by simp only; omega, by simp only; omega⟩, (Weak.oC hcx [(192, 192), (576, 576), (1984, 1984)] (by refine ⟨?_, ?_, ?_⟩ <;> simp [go_sem, gL, kL, List.map_append, dv_push, toDL_dvF, frz, frzL, toD, mkAgg, htk, htk2, htk3]))⟩
            rcases List.mem_append.1 hy with hy | hy
            · exact v1 y hy
            · obtain rfl := List.mem_singleton.1 hy
              exact (show ∀ y ∈ ([[110, 111, 110, 101], [97, 110, 110], [], [65]] : List Str), y ∈ AuS by decide) _ hom
          · repeat' (first | ((first | refine AW.sreg rfl fun K hK => ?_ | refine AW.reg rfl ?_ | refine run_call _ _ _ ((n5).objA [0]) rfl rfl (dstOk_of rfl) rfl rfl rfl ?_); simp only [go_sem, ↓reduceIte, List.length_map, List.set_cons_zero, List.set_cons_succ]) | (refine AW.block ?_) | (refine AW.cT ?_) | (refine AW.cF ?_) | (refine hK _ ?_; clear hK K))
            exact ⟨((pid, tr, ti, [], tp), b3 + 1 + 1), ⟨hok _ _ _ _ _ hpS htr hti (by simp) (by simp) hl1 hl3 (by omega), by simp only; omega, by simp only; omega⟩, Weak.trans (Weak.nilB 1984 3 47 9 1 rfl rfl) (Weak.oC hcx [(192, 192), (576, 576), (1984, 1984)] (by refine ⟨?_, ?_, ?_⟩ <;> simp [go_sem, gL, kL, List.map_append, dv_push, toDL_dvF, t0, frz, frzL, toD, mkAgg, htk, htk2, d0]))⟩
          · have ho := one10_any l hl2 (b3 + 1 + 1) (by omega) (by omega) [[], [97, 105], [65]] (by simp) (by simp)
            have hom := one_mem l (b3 + 1 + 1) [[], [97, 105], [65]] (by simp)
            generalize ([[], [97, 105], [65]] : List Str).getD (nextV l (b3 + 1 + 1) ([[], [97, 105], [65]] : List Str).length).toNat [] = x at ho hom
            have htk3 : List.take (tp.length + 1) (dv (tp.map D.str ++ [D.str x])) = dv (tp.map D.str ++ [D.str x]) := List.take_of_length_le (by simp [dv])
            repeat' (first | ((first | refine AW.sreg rfl fun K hK => ?_ | refine AW.regD hmix rfl ?_ | refine run_call _ _ _ ((n5).objA [0]) rfl rfl (dstOk_of rfl) rfl rfl rfl ?_ | refine runT_call _ _ [0, 7360] (fun hv hag => (ho).objs [0, 7360] ⟨((hag 0 (by simp)).trans rfl), ((hag 7360 (by simp)).trans rfl), trivial⟩ rfl (by decide) (by simp [go_sem, renOs]) (by simp) (by simp) (by simp [go_sem]) (by simp [go_sem]) (by simp [go_sem]) (by simp [go_sem])) rfl rfl (dstOk_of rfl) rfl rfl ?_); simp only [go_sem, ↓reduceIte, List.length_map, List.set_cons_zero, List.set_cons_succ, htk2]) | (refine AW.block ?_) | (refine AW.cF ?_) | (refine hK _ ?_; clear hK K) | (with_reducible refine And.intro (?_ : regOk _ _ = true) ?_; kernel_rfl) | (with_reducible refine andI ?_))
            refine ⟨((pid, tr, ti, au3, tp ++ [x]), b3 + 1 + 1 + 1), ⟨hok _ _ _ _ _ hpS htr hti v1 (by omega) (hl4 x hom).1 (fun y hy => ?_) (by simp; omega), by simp only; omega, by simp only; omega⟩, (Weak.oC hcx [(192, 192), (576, 576), (1984, 1984)] (by refine ⟨?_, ?_, ?_⟩ <;> simp [go_sem, gL, kL, List.map_append, dv_push, toDL_dvF, frz, frzL, toD, mkAgg, htk, htk2, htk3]))⟩
            rcases List.mem_append.1 hy with hy | hy
            · exact hl3 y hy
            · obtain rfl := List.mem_singleton.1 hy
              exact (hl4 _ hom).2
      rintro s2 ⟨p, b4⟩ ⟨⟨w1, w2⟩, w3, w4⟩ hw2
      dsimp only at w1 w2 w3 w4 hw2
      refine hK s2 (AW.weak hw2 ?_)
      clear hw2 hK K v1 v2 v3 v4 htk htk2 hok
      have htk : List.take out.length (dv (out.map paD)) = dv (out.map paD) := List.take_of_length_le (by simp [dv])
      obtain ⟨p1, p2, p3, p4, p5⟩ := p
      repeat' (first | (refine AW.reg rfl ?_; simp only [go_sem, ↓reduceIte, List.length_map, htk]) | (refine hK _ ?_; clear hK K) | (with_reducible refine andI ?_))
      refine ⟨(i + 1, out ++ [(p1, p2, p3, p4, p5)], b4), ⟨hi, ⟨by simp; omega, fun y hy => ?_⟩, by simp only; omega, by simp only; omega⟩, by simp only; omega, (Weak.aC hcx (by refine ⟨?_, ?_, ?_⟩ <;> simp [go_sem, gL, kL, renOf, V.obj, Nat.blt, Nat.ble, List.map_append, dv_push]))⟩
      rcases List.mem_append.1 hy with hy | hy
      · exact h3 y hy
      · obtain rfl := List.mem_singleton.1 hy
        exact ⟨w1, w2⟩
end Go.AX
