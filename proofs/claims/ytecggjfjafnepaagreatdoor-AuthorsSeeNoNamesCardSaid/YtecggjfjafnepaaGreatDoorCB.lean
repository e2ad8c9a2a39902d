/- Lists that are grouped by keys: the plain law. -/
import Derived.Test.YtecggjfjafnepaaGreatDoorCA
set_option linter.unusedSimpArgs false
set_option linter.unusedVariables false
set_option maxRecDepth 1000000
set_option maxHeartbeats 4000000
set_option linter.unnecessarySimpa false
namespace Go.AX
open Go
section
variable {κ ν α : Type} [DecidableEq κ]
def addG : List (κ × List ν) → κ → ν → List (κ × List ν)
 | [], k, n => [(k, [n])]
 | g :: r, k, n => if g.1 = k then (k, g.2 ++ [n]) :: r else g :: addG r k n
theorem addG_in {k : κ} {n : ν} : ∀ {gs : List (κ × List ν)} {j : Nat} {g : κ × List ν}, (gs.map (·.1)).Nodup → gs[j]? = some g → g.1 = k → addG gs k n = gs.set j (k, g.2 ++ [n])
 | [], _, _, _, h, _ => by simp at h
 | x :: r, 0, g, _, h, e => by
  simp only [List.getElem?_cons_zero, Option.some.injEq] at h
  subst h
  simp [addG, e]
 | x :: r, j + 1, g, hn, h, e => by
  simp only [List.getElem?_cons_succ] at h
  simp only [List.map_cons, List.nodup_cons] at hn
  have hx : x.1 ≠ k := fun e2 => hn.1 (by rw [e2, ← e]; exact List.mem_map_of_mem (List.mem_of_getElem? h))
  simp only [addG, if_neg hx, List.set_cons_succ, addG_in hn.2 h e]
theorem addG_out {k : κ} {n : ν} : ∀ {gs : List (κ × List ν)}, k ∉ gs.map (·.1) → addG gs k n = gs ++ [(k, [n])]
 | [], _ => rfl
 | x :: r, h => by
  simp only [List.map_cons, List.mem_cons, not_or] at h
  simp only [addG, if_neg (Ne.symm h.1), List.cons_append, addG_out h.2]
theorem addG_mem {k x : κ} {n : ν} {gs : List (κ × List ν)} : x ∈ (addG gs k n).map (·.1) ↔ x ∈ gs.map (·.1) ∨ x = k := by
 induction gs with
 | nil => simp [addG]
 | cons g r ih =>
  unfold addG
  split
  ·rename_i e
   simp only [List.map_cons, List.mem_cons, e]
   constructor
   ·rintro (h | h)
    ·exact .inr h
    ·exact .inl (.inr h)
   ·rintro ((h | h) | h)
    ·exact .inl h
    ·exact .inr h
    ·exact .inl h
  ·simp only [List.map_cons, List.mem_cons, ih, or_assoc]
theorem addG_nd {k : κ} {n : ν} {gs : List (κ × List ν)} (h : (gs.map (·.1)).Nodup) : ((addG gs k n).map (·.1)).Nodup := by
 induction gs with
 | nil => simp [addG]
 | cons g r ih =>
  simp only [List.map_cons, List.nodup_cons] at h
  unfold addG
  split
  ·rename_i e
   simp only [List.map_cons, List.nodup_cons]
   exact ⟨e ▸ h.1, h.2⟩
  ·rename_i e
   simp only [List.map_cons, List.nodup_cons]
   refine ⟨fun hm => ?_, ih h.2⟩
   rcases addG_mem.1 hm with hm | hm
   ·exact h.1 hm
   ·exact e hm
theorem addG_pos {k : κ} {n : ν} {gs : List (κ × List ν)} (h : ∀ g ∈ gs, g.2 ≠ []) : ∀ g ∈ addG gs k n, g.2 ≠ [] := by
 induction gs with
 | nil => simp [addG]
 | cons x r ih =>
  unfold addG
  split
  ·intro g hg
   rcases List.mem_cons.1 hg with rfl | hg
   ·simp
   ·exact h g (by simp [hg])
  ·intro g hg
   rcases List.mem_cons.1 hg with rfl | hg
   ·exact h _ (by simp)
   ·exact ih (fun g hg => h g (by simp [hg])) g hg
/-- What stands under a key. -/
def rowG : List (κ × List ν) → κ → List ν
 | [], _ => []
 | g :: r, k => if g.1 = k then g.2 else rowG r k
theorem rowG_add {k k' : κ} {n : ν} : ∀ gs : List (κ × List ν), rowG (addG gs k n) k' = if k = k' then rowG gs k' ++ [n] else rowG gs k'
 | [] => by
  by_cases h : k = k' <;> simp [addG, rowG, h]
 | g :: r => by
  unfold addG
  split
  ·rename_i e
   by_cases h : k = k'
   ·simp [rowG, h, e]
   ·have : ¬ g.1 = k' := fun e2 => h (e.symm.trans e2)
    simp [rowG, h, this]
  ·rename_i e
   rw [rowG, rowG_add r]
   by_cases h : k = k'
   ·have : ¬ g.1 = k' := fun e2 => e (e2.trans h.symm)
    simp [rowG, h, this]
   ·simp [rowG, h]
theorem rowG_at : ∀ {gs : List (κ × List ν)} {g : κ × List ν}, (gs.map (·.1)).Nodup → g ∈ gs → rowG gs g.1 = g.2
 | [], g, _, h => by simp at h
 | x :: r, g, hn, h => by
  simp only [List.map_cons, List.nodup_cons] at hn
  rcases List.mem_cons.1 h with rfl | h
  ·simp [rowG]
  ·have hx : x.1 ≠ g.1 := fun e => hn.1 (e ▸ List.mem_map_of_mem h)
   rw [rowG, if_neg hx, rowG_at hn.2 h]
variable (key : α → κ) (val : α → ν)
/-- A list, grouped. -/
def grpF (xs : List α) : List (κ × List ν) := xs.foldl (fun gs x => addG gs (key x) (val x)) []
theorem grpF_app (xs : List α) (x : α) : grpF key val (xs ++ [x]) = addG (grpF key val xs) (key x) (val x) := by
 unfold grpF
 rw [List.foldl_append]
 rfl
theorem grpF_step {xs : List α} {i : Nat} {x : α} (h : xs[i]? = some x) : grpF key val (xs.take (i + 1)) = addG (grpF key val (xs.take i)) (key x) (val x) := by
 rw [List.take_add_one, h]
 exact grpF_app key val _ x
theorem fold_ok : ∀ (xs : List α) (gs : List (κ × List ν)), (gs.map (·.1)).Nodup → (∀ g ∈ gs, g.2 ≠ []) →
  ((xs.foldl (fun gs x => addG gs (key x) (val x)) gs).map (·.1)).Nodup ∧ (∀ g ∈ xs.foldl (fun gs x => addG gs (key x) (val x)) gs, g.2 ≠ []) ∧
  (∀ k, rowG (xs.foldl (fun gs x => addG gs (key x) (val x)) gs) k = rowG gs k ++ (xs.filter fun x => decide (key x = k)).map val) ∧
  ∀ k, k ∈ (xs.foldl (fun gs x => addG gs (key x) (val x)) gs).map (·.1) ↔ k ∈ gs.map (·.1) ∨ ∃ x ∈ xs, key x = k
 | [], gs, h1, h2 => ⟨h1, h2, fun k => by simp, fun k => by simp⟩
 | x :: r, gs, h1, h2 => by
  obtain ⟨i1, i2, i3, i4⟩ := fold_ok r (addG gs (key x) (val x)) (addG_nd h1) (addG_pos h2)
  simp only [List.foldl_cons]
  refine ⟨i1, i2, fun k => ?_, fun k => ?_⟩
  ·rw [i3, rowG_add]
   by_cases h : key x = k
   ·simp [h]
   ·simp [h]
  ·rw [i4, addG_mem]
   constructor
   ·rintro ((h | rfl) | ⟨y, hy, e⟩)
    ·exact .inl h
    ·exact .inr ⟨x, by simp, rfl⟩
    ·exact .inr ⟨y, by simp [hy], e⟩
   ·rintro (h | ⟨y, hy, e⟩)
    ·exact .inl (.inl h)
    ·rcases List.mem_cons.1 hy with rfl | hy
     ·exact .inl (.inr e.symm)
     ·exact .inr ⟨y, hy, e⟩
theorem grpF_nd (xs : List α) : ((grpF key val xs).map (·.1)).Nodup := (fold_ok key val xs [] (by simp) (by simp)).1
theorem grpF_pos (xs : List α) : ∀ g ∈ grpF key val xs, g.2 ≠ [] := (fold_ok key val xs [] (by simp) (by simp)).2.1
theorem grpF_row (xs : List α) (k : κ) : rowG (grpF key val xs) k = (xs.filter fun x => decide (key x = k)).map val := by
 have := (fold_ok key val xs [] (by simp) (by simp)).2.2.1 k
 unfold grpF
 simpa [rowG] using this
theorem grpF_at {xs : List α} {g : κ × List ν} (h : g ∈ grpF key val xs) : g.2 = (xs.filter fun x => decide (key x = g.1)).map val := by
 rw [← grpF_row, rowG_at (grpF_nd key val xs) h]
theorem grpF_rlen {xs : List α} {g : κ × List ν} (h : g ∈ grpF key val xs) : g.2.length ≤ xs.length := by
 rw [grpF_at key val h, List.length_map]
 exact List.length_filter_le ..
theorem addG_len (k : κ) (n : ν) : ∀ gs : List (κ × List ν), (addG gs k n).length ≤ gs.length + 1
 | [] => by simp [addG]
 | g :: r => by
  unfold addG
  split
  ·simp
  ·have := addG_len k n r
   simp only [List.length_cons]
   omega
theorem fold_len : ∀ (xs : List α) (gs : List (κ × List ν)), (xs.foldl (fun gs x => addG gs (key x) (val x)) gs).length ≤ gs.length + xs.length
 | [], gs => by simp
 | x :: r, gs => by
  have h1 := fold_len r (addG gs (key x) (val x))
  have h2 := addG_len (key x) (val x) gs
  simp only [List.foldl_cons, List.length_cons]
  omega
theorem grpF_len (xs : List α) : (grpF key val xs).length ≤ xs.length := by
 have := fold_len key val xs []
 unfold grpF
 simpa using this
end
theorem get_lt {α : Type} {xs : List α} {i : Nat} {x : α} (h : xs[i]? = some x) : i < xs.length := by
 rcases Nat.lt_or_ge i xs.length with h' | h'
 ·exact h'
 ·simp [List.getElem?_eq_none h'] at h
theorem set_same {α : Type} {l : List α} {i : Nat} {a : α} (h : l[i]? = some a) : l.set i a = l := by
 apply List.ext_getElem?
 intro k
 rw [List.getElem?_set]
 split
 ·rename_i e
  subst e
  have hl : i < l.length := by
   rcases Nat.lt_or_ge i l.length with h' | h'
   ·exact h'
   ·simp [List.getElem?_eq_none h'] at h
  rw [if_pos hl, h]
 ·rfl
end Go.AX

namespace Go.AX
open Go Go.Proofs Go.RowKit
/-- A paper: id, track, title, authors, topics. -/
abbrev Pa := Str × Str × Str × List Str × List Str
abbrev paD (p : Pa) : D := .agg [.str p.1, .str p.2.1, .str p.2.2.1, .sl (p.2.2.2.1.map D.str), .sl (p.2.2.2.2.map D.str)]
def Id6 : List Str := [[112, 97], [112, 98], [112, 99], [112, 100], [112, 101], [112, 102]]
def IdS : List Str := Id6 ++ [[], [65]]
def TrS : List Str := [[109, 97, 105, 110], [100, 101, 109, 111], []]
def Ti3 : List Str := [[79, 110, 32, 116, 114, 101, 101, 115], [65, 32, 116, 105, 116, 108, 101], [82, 111, 111, 116, 115]]
def TiS : List Str := Ti3 ++ [[], [32, 120], [97, 32, 32, 98]] ++ [List.replicate 200 116, List.replicate 201 116]
def Au4 : List Str := [[97, 110, 110], [98, 111, 98], [99, 105, 100], [100, 101, 101]]
def AuS : List Str := Au4 ++ [[110, 111, 110, 101], [], [65]]
def ToS : List Str := [[97, 105], [100, 98], [], [65]]
abbrev KeyR (s : Str) : Prop := Does Tryz.prog 81 [S s] [] (B (keyB s)) []
theorem keyR_all : ∀ s ∈ IdS ++ TrS ++ AuS ++ ToS, KeyR s := by
 have h1 : (IdS ++ TrS).all (fun s => evalsTo Tryz.prog (CS Tryz.prog) 81 [S s] (B (keyB s))) = true := by kernel_rfl
 have h2 : (Au4 ++ [[110, 111, 110, 101], [97, 105], [100, 98]]).all (fun s => evalsTo Tryz.prog (CS Tryz.prog) 81 [S s] (B (keyB s))) = true := by kernel_rfl
 have hm : ∀ s ∈ IdS ++ TrS ++ AuS ++ ToS, s ∈ IdS ++ TrS ∨ s ∈ Au4 ++ [[110, 111, 110, 101], [97, 105], [100, 98]] := by decide
 intro s hs
 rcases hm s hs with h | h
 ·exact evalsTo_ok CS_ok hmix (List.all_eq_true.1 h1 s h)
 ·exact evalsTo_ok CS_ok hmix (List.all_eq_true.1 h2 s h)
theorem len_all40 : ∀ s ∈ IdS ++ TrS ++ AuS ++ ToS, s.length ≤ 40 := by decide
/-- A title that is plain. -/
def plnB (s : Str) : Bool := !(s == [32, 120] || s == [97, 32, 32, 98])
theorem plain_all : ∀ s ∈ TiS, Does Tryz.prog 153 [S s] [] (B (plnB s)) [] := by
 have h : TiS.all (fun s => evalsTo Tryz.prog (CS Tryz.prog) 153 [S s] (B (plnB s))) = true := by kernel_rfl
 exact fun s hs => evalsTo_ok CS_ok hmix (List.all_eq_true.1 h s hs)
def nmdB (s : Str) : Bool := !(s == []) && plnB s && decide (s.length ≤ 200)
theorem named_all : ∀ s ∈ TiS, Does Tryz.prog 133 [S s, I 200] [] (B (nmdB s)) [] := by
 have h : TiS.all (fun s => evalsTo Tryz.prog (CS Tryz.prog) 133 [S s, I 200] (B (nmdB s))) = true := by kernel_rfl
 exact fun s hs => evalsTo_ok CS_ok hmix (List.all_eq_true.1 h s hs)
theorem len_ti : ∀ s ∈ TiS, s.length ≤ 201 := by decide
/-- What may be drawn. -/
structure PaR (p : Pa) : Prop where
 id : p.1 ∈ IdS
 tr : p.2.1 ∈ TrS
 ti : p.2.2.1 ∈ TiS
 au : ∀ a ∈ p.2.2.2.1, a ∈ AuS
 aul : p.2.2.2.1.length ≤ 5
 tp : ∀ a ∈ p.2.2.2.2, a ∈ ToS
 tpl : p.2.2.2.2.length ≤ 3
theorem mem_keys {s : Str} (h : s ∈ IdS ∨ s ∈ TrS ∨ s ∈ AuS ∨ s ∈ ToS) : s ∈ IdS ++ TrS ++ AuS ++ ToS := by
 simp only [List.mem_append]
 rcases h with h | h | h | h
 ·exact .inl (.inl (.inl h))
 ·exact .inl (.inl (.inr h))
 ·exact .inl (.inr h)
 ·exact .inr h
theorem keyP {s : Str} (h : s ∈ IdS ∨ s ∈ TrS ∨ s ∈ AuS ∨ s ∈ ToS) : Does Tryz.prog 61 [S s] [] (B (keyB s)) [] := isKey_any s (by have := len_all40 s (mem_keys h); omega)
theorem keyRM {s : Str} (h : s ∈ IdS ∨ s ∈ TrS ∨ s ∈ AuS ∨ s ∈ ToS) : KeyR s := keyR_all s (mem_keys h)
end Go.AX

namespace Go.AX
open Go Go.Proofs Go.RowKit
theorem index_St (xs : List Str) (hl : xs.length ≤ 100000) (v : Str) :
  Does Tryz.prog 82 [.d (.sl (xs.map D.str)), S v] [] (I (idxG (fun x => v == x) xs 0)) [] := by
 refine Does.of_AW (n := 19) Tryz.func82 rfl rfl rfl fun cx hcx => ?_
 generalize hR : idxG (fun x => v == x) xs 0 = R
 repeat' (first | (refine AW.sreg rfl fun K hK => ?_; simp only [go_sem, ↓reduceIte, List.length_map]) | (refine AW.seq_k fun K hK => ?_) | (refine AW.block ?_) | (refine hK _ ?_; clear hK K))
 refine AW.loopF (ι := Nat) [0, 1, 7] (fun p => [(8, I p)]) (fun p => []) 1 (fun p => p ≤ xs.length ∧ idxG (fun x => v == x) (xs.drop p) p = R) (fun p => xs.length - p) 0 ⟨by simp, hR⟩ (Weak.aC hcx (by refine ⟨?_, ?_, ?_⟩ <;> simp [go_sem, gL, kL, renOf, V.obj, Nat.blt, Nat.ble, List.map_append, dv_push])) ?_; simp only [St.at_nil, St.at_cons, lk, Nat.reduceEqDiff, ↓reduceIte, Option.getD_some, Option.getD_none, List.cons_append, List.nil_append, List.append_nil]
 rintro i ⟨h1, h2⟩
 by_cases hi : i < xs.length
 ·obtain ⟨x, hx, hxm, hxd⟩ := get_some hi
  have hget : (xs.map D.str)[i]? = some (.str x) := by simp [hx]
  rw [hxd, idxG] at h2
  repeat' (first | ((first | refine AW.sreg rfl fun K hK => ?_ | refine AW.reg rfl ?_); simp only [go_sem, ↓reduceIte, List.length_map, hget]) | (refine AW.seq_k fun K hK => ?_) | (refine AW.block ?_) | (refine AW.skip ?_; simp only [Then, InBlock]) | (refine AW.cT ?_) | (refine AW.cond rfl (fun h => ?_) (fun h => ?_) <;> (try simp only [decide_eq_true_eq, decide_eq_false_iff_not, Bool.not_eq_true', Bool.not_eq_false', Bool.not_eq_eq_eq_not, Bool.not_true, Bool.not_false, beq_iff_eq, bne_iff_ne, beq_eq_false_iff_ne, ne_eq, Bool.and_eq_true, Bool.or_eq_true, Bool.or_eq_false_iff] at h)) | (refine hK _ ?_; clear hK K) | (with_reducible refine andI ?_) | (refine AW.ret (Fin.data rfl (by first | (simp only [go_sem]; done) | ((rw [if_pos (by simpa using h)] at h2; subst h2; simp [go_sem]); done) | (simp [go_sem]; omega) | rfl) rfl)))
  rw [if_neg (by simpa using h)] at h2
  exact ⟨i + 1, ⟨hi, h2⟩, by omega, (Weak.aC hcx (by refine ⟨?_, ?_, ?_⟩ <;> simp [go_sem, gL, kL, renOf, V.obj, Nat.blt, Nat.ble, List.map_append, dv_push]))⟩
 ·obtain rfl : i = xs.length := by omega
  simp only [List.drop_length, idxG] at h2
  subst h2
  repeat' (first | (refine AW.sreg rfl fun K hK => ?_; simp only [go_sem, ↓reduceIte, List.length_map]) | (refine AW.seq_k fun K hK => ?_) | (refine AW.exit ?_; simp only [go_sem, ↓reduceIte]) | (refine AW.cF ?_) | (refine hK _ ?_; clear hK K) | (clear hK K; refine hK _ ?_; clear hK K) | (refine AW.ret (Fin.data rfl (by first | (simp only [go_sem]; done) | (simp [go_sem, *]; done) | (simp [go_sem]; omega) | rfl) rfl)))
theorem contains_St (xs : List Str) (hl : xs.length ≤ 100000) (v : Str) :
  Does Tryz.prog 31 [.d (.sl (xs.map D.str)), S v] [] (B (xs.any fun x => v == x)) [] := by
 rw [← idxG_any (fun x => v == x) xs 0]
 refine Does.of_AW (n := 9) Tryz.func31 rfl rfl rfl fun cx hcx => ?_
 repeat' (first | ((first | refine AW.sreg rfl fun K hK => ?_ | refine run_call _ _ _ ((index_St xs hl v).pure rfl rfl _ _) rfl rfl (dstOk_of rfl) rfl rfl rfl ?_); simp only [go_sem, ↓reduceIte]) | (refine hK _ ?_; clear hK K) | (refine AW.ret (Fin.data rfl (by first | (simp only [go_sem]; done) | (simp [go_sem, *]; done) | (simp [go_sem]; omega) | rfl) rfl)))

/-- The first fault: each element with those ahead. -/
def goF {α : Type} (f : List α → α → Int) : List α → List α → Int
 | _, [] => 0
 | bs, p :: r => if f bs p ≠ 0 then f bs p else goF f (bs ++ [p]) r
theorem goF_step {α : Type} (f : List α → α → Int) {xs : List α} {i : Nat} {x : α} (h : xs[i]? = some x) : goF f (xs.take i) (xs.drop i) = if f (xs.take i) x ≠ 0 then f (xs.take i) x else goF f (xs.take (i + 1)) (xs.drop (i + 1)) := by
 have hl : i < xs.length := by
  rcases Nat.lt_or_ge i xs.length with h' | h'
  ·exact h'
  ·simp [List.getElem?_eq_none h'] at h
 have hd : xs.drop i = x :: xs.drop (i + 1) := by
  rw [List.getElem?_eq_getElem hl] at h
  cases h
  exact List.drop_eq_getElem_cons hl
 have ht : xs.take (i + 1) = xs.take i ++ [x] := by rw [List.take_add_one, h]; rfl
 rw [hd, goF, ht]
/-- Keys that differ. -/
def dfK (bs : List Str) (s : Str) : Int := if keyB s = false then 5 else if (bs.any fun x => s == x) = true then 6 else 0
def leS (a b : Str) : Bool := Op.bytesLess a b || a == b
/-- Topics that are drawn. -/
def ToL : List (List Str) := [[], [[97, 105]], [[97, 105], [100, 98]], [[]], [[65]], [[97, 105], []], [[97, 105], [97, 105]], [[97, 105], [65]], [[97, 105], [100, 98], []], [[97, 105], [100, 98], [97, 105]], [[97, 105], [100, 98], [65]]]
def rsF (l : List Str) : Int := if l.all keyB = false then 5 else if l = [[97, 105], [97, 105]] ∨ l = [[97, 105], [100, 98], [97, 105]] then 7 else 0
theorem rising_ToL : ∀ l ∈ ToL, Does Tryz.prog 134 [.d (.sl (l.map .str)), .fn 81 [], I 5] [] (I (rsF l)) [] := by
 have h : ToL.all (fun l => evalsTo Tryz.prog (CS Tryz.prog) 134 [.d (.sl (l.map .str)), .fn 81 [], I 5] (I (rsF l))) = true := by kernel_rfl
 exact fun s hs => evalsTo_ok CS_ok hmix (List.all_eq_true.1 h s hs)
theorem risingFault_ToL : ∀ l ∈ ToL, Does Tryz.prog 101 [.d (.sl (l.map .str))] [] (I (rsF l)) [] := by
 have h : ToL.all (fun l => evalsTo Tryz.prog (CS Tryz.prog) 101 [.d (.sl (l.map .str))] (I (rsF l))) = true := by kernel_rfl
 exact fun s hs => evalsTo_ok CS_ok hmix (List.all_eq_true.1 h s hs)
/-- A paper behind another one. -/
def paF (prev : Option Str) (p : Pa) : Int :=
 if (keyB p.1 && keyB p.2.1) = false then 5
 else if (match prev with | none => false | some y => leS p.1 y) = true then 7
 else if (nmdB p.2.2.1 && !p.2.2.2.1.isEmpty) = false then 3
 else if goF dfK [] p.2.2.2.1 ≠ 0 then goF dfK [] p.2.2.2.1
 else rsF p.2.2.2.2
theorem paF_some (y pid tr ti : Str) (au tp : List Str) : paF (some y) (pid, tr, ti, au, tp) = if (keyB pid && keyB tr) = false then 5 else if leS pid y = true then 7 else if (nmdB ti && !au.isEmpty) = false then 3 else if goF dfK [] au ≠ 0 then goF dfK [] au else rsF tp := rfl
theorem paF_nil (pid tr ti : Str) (au tp : List Str) : paF none (pid, tr, ti, au, tp) = if (keyB pid && keyB tr) = false then 5 else if (nmdB ti && !au.isEmpty) = false then 3 else if goF dfK [] au ≠ 0 then goF dfK [] au else rsF tp := rfl
def pasF (bs : List Pa) (p : Pa) : Int := paF (bs.getLast?.map (·.1)) p
theorem diffKeys_any (l : List Str) (hl : l.length ≤ 1000) (hs : ∀ s ∈ l, s.length ≤ 1000) : Does Tryz.prog 138 [.d (.sl (l.map D.str))] [] (I (goF dfK [] l)) [] := by
 refine Does.of_AW (n := 21) Tryz.func138 rfl rfl rfl fun cx hcx => ?_
 have hel : (l.map D.str).all (elemOkD 1) = true := by rw [List.all_map]; exact List.all_eq_true.2 fun _ _ => rfl
 generalize hT : goF dfK [] l = T
 repeat' (first | (refine AW.sreg rfl fun K hK => ?_; simp only [go_sem, ↓reduceIte, List.length_map]) | (refine AW.seq_k fun K hK => ?_) | (refine AW.block ?_) | (refine hK _ ?_; clear hK K))
 refine AW.loopF (ι := Nat) [0, 5, 6] (fun p => [(7, I p)]) (fun p => []) 7 (fun p => p ≤ l.length ∧ goF dfK (l.take p) (l.drop p) = T) (fun p => l.length - p) 0 ⟨by simp, hT⟩ (Weak.aC hcx (by refine ⟨?_, ?_, ?_⟩ <;> simp [go_sem, gL, kL, renOf, V.obj, Nat.blt, Nat.ble, List.map_append, dv_push])) ?_; simp only [St.at_nil, St.at_cons, lk, Nat.reduceEqDiff, ↓reduceIte, Option.getD_some, Option.getD_none, List.cons_append, List.nil_append, List.append_nil]
 rintro i ⟨g1, g2⟩
 by_cases hi : i < l.length
 ·obtain ⟨x, hx, hxm, -⟩ := get_some hi
  have hget : (l.map D.str)[i]? = some (D.str x) := by simp only [List.getElem?_map, hx, Option.map_some]
  have hsub : List.take (i - 0) (l.map D.str) = (l.take i).map D.str := by simp
  rw [goF_step _ hx] at g2
  have hk := isKey_any x (by have := hs x hxm; omega)
  have hc := contains_St (l.take i) (by simp; omega) x
  have hF : dfK (l.take i) x = if keyB x = false then 5 else if ((l.take i).any fun y => x == y) = true then 6 else 0 := rfl
  generalize dfK (l.take i) x = F at *
  generalize keyB x = k at *
  generalize ((l.take i).any fun y => x == y) = c at *
  cases k with
  | false =>
   obtain rfl : F = 5 := by simpa using hF
   rw [if_pos (by decide)] at g2
   subst g2
   repeat' (first | ((first | refine AW.sreg rfl fun K hK => ?_ | refine run_call _ _ _ ((hk).pure rfl rfl _ _) rfl rfl (dstOk_of rfl) rfl rfl rfl ?_); simp only [go_sem, ↓reduceIte, List.length_map, hget]) | (refine AW.seq_k fun K hK => ?_) | (refine AW.block ?_) | (refine AW.skip ?_; simp only [Then, InBlock]) | (refine AW.cT ?_) | (refine hK _ ?_; clear hK K) | (with_reducible refine andI ?_) | (refine AW.ret (Fin.data rfl (by first | (simp only [go_sem]; done) | (simp [go_sem, *]; done) | (simp [go_sem]; omega) | rfl) rfl)))
  | true =>
  cases c with
  | true =>
   obtain rfl : F = 6 := by simpa using hF
   rw [if_pos (by decide)] at g2
   subst g2
   repeat' (first | ((first | refine AW.sreg rfl fun K hK => ?_ | refine run_call _ _ _ ((hk).pure rfl rfl _ _) rfl rfl (dstOk_of rfl) rfl rfl rfl ?_ | refine run_call _ _ _ ((hc).pure rfl rfl _ _) rfl rfl (dstOk_of rfl) rfl rfl rfl ?_); simp only [go_sem, ↓reduceIte, List.length_map, hget, hel, hsub, Int.le_refl]) | (refine AW.seq_k fun K hK => ?_) | (refine AW.block ?_) | (refine AW.skip ?_; simp only [Then, InBlock]) | (refine AW.cT ?_) | (refine AW.cF ?_) | (refine hK _ ?_; clear hK K) | (with_reducible refine andI ?_) | (refine AW.ret (Fin.data rfl (by first | (simp only [go_sem]; done) | (simp [go_sem, *]; done) | (simp [go_sem]; omega) | rfl) rfl)))
  | false =>
   obtain rfl : F = 0 := by simpa using hF
   rw [if_neg (by decide)] at g2
   repeat' (first | ((first | refine AW.sreg rfl fun K hK => ?_ | refine AW.reg rfl ?_ | refine run_call _ _ _ ((hk).pure rfl rfl _ _) rfl rfl (dstOk_of rfl) rfl rfl rfl ?_ | refine run_call _ _ _ ((hc).pure rfl rfl _ _) rfl rfl (dstOk_of rfl) rfl rfl rfl ?_); simp only [go_sem, ↓reduceIte, List.length_map, hget, hel, hsub, Int.le_refl]) | (refine AW.seq_k fun K hK => ?_) | (refine AW.block ?_) | (refine AW.skip ?_; simp only [Then, InBlock]) | (refine AW.cT ?_) | (refine AW.cF ?_) | (refine hK _ ?_; clear hK K) | (with_reducible refine andI ?_))
   exact ⟨i + 1, ⟨hi, g2⟩, by omega, (Weak.aC hcx (by refine ⟨?_, ?_, ?_⟩ <;> simp [go_sem, gL, kL, renOf, V.obj, Nat.blt, Nat.ble, List.map_append, dv_push]))⟩
 ·obtain rfl : i = l.length := by omega
  rw [List.drop_length, goF] at g2
  subst g2
  repeat' (first | (refine AW.sreg rfl fun K hK => ?_; simp only [go_sem, ↓reduceIte, List.length_map]) | (refine AW.seq_k fun K hK => ?_) | (refine AW.exit ?_; simp only [go_sem, ↓reduceIte]) | (refine AW.cF ?_) | (refine hK _ ?_; clear hK K) | (clear hK K; refine hK _ ?_; clear hK K) | (refine AW.ret (Fin.data rfl (by first | (simp only [go_sem]; done) | (simp [go_sem, *]; done) | (simp [go_sem]; omega) | rfl) rfl)))
theorem author1_any {s : Str} (h : KeyR s) : Does Tryz.prog 80 [S s] [] (I (if keyB s = false then 5 else 0)) [] := by
 refine Does.of_AW (n := 6) Tryz.func80 rfl rfl rfl fun cx hcx => ?_
 unfold KeyR at h
 generalize keyB s = k at *
 cases k with
 | true => repeat' (first | ((first | refine AW.sreg rfl fun K hK => ?_ | refine run_call _ _ _ ((h).pure rfl rfl _ _) rfl rfl (dstOk_of rfl) rfl rfl rfl ?_); simp only [go_sem, ↓reduceIte]) | (refine AW.seq_k fun K hK => ?_) | (refine AW.skip ?_; simp only [Then, InBlock]) | (refine AW.cF ?_) | (refine hK _ ?_; clear hK K) | (refine AW.ret (Fin.data rfl (by first | (simp only [go_sem]; done) | (simp [go_sem, *]; done) | (simp [go_sem]; omega) | rfl) rfl)))
 | false => repeat' (first | ((first | refine AW.sreg rfl fun K hK => ?_ | refine run_call _ _ _ ((h).pure rfl rfl _ _) rfl rfl (dstOk_of rfl) rfl rfl rfl ?_); simp only [go_sem, ↓reduceIte]) | (refine AW.seq_k fun K hK => ?_) | (refine AW.cT ?_) | (refine hK _ ?_; clear hK K) | (refine AW.ret (Fin.data rfl (by first | (simp only [go_sem]; done) | (simp [go_sem, *]; done) | (simp [go_sem]; omega) | rfl) rfl)))
theorem paperForm_any {p : Pa} (hp : PaR p) (ht : p.2.2.2.2 ∈ ToL) (last : Str) : Does Tryz.prog 79 [.d (paD p), S last, .fn 80 []] [] (I (paF (some last) p)) [] := by
 obtain ⟨pid, tr, ti, au, tp⟩ := p
 obtain ⟨h1, h2, h3, h4, h5, h6, h7⟩ := hp
 dsimp only at h1 h2 h3 h4 h5 h6 h7 ht
 have k1 := keyRM (.inl h1)
 have k2 := keyRM (.inr (.inl h2))
 unfold KeyR at k1 k2
 have hn := named_all ti h3
 have hr := rising_ToL tp ht
 have hel : (au.map D.str).all (elemOkD 1) = true := by rw [List.all_map]; exact List.all_eq_true.2 fun _ _ => rfl
 refine Does.of_AW (n := 70) Tryz.func79 rfl rfl rfl fun cx hcx => ?_
 rw [paF_some]
 generalize keyB pid = b1 at *
 generalize keyB tr = b2 at *
 generalize nmdB ti = b3 at *
 cases b1 with
 | false =>
  rw [if_pos (by simp)]
  repeat' (first | ((first | refine AW.sreg rfl fun K hK => ?_ | refine run_call _ _ _ ((k1).pure rfl rfl _ _) rfl rfl (dstOk_of rfl) rfl rfl rfl ?_); simp only [go_sem, ↓reduceIte]) | (refine AW.seq_k fun K hK => ?_) | (refine AW.block ?_) | (refine AW.cT ?_) | (refine hK _ ?_; clear hK K) | (refine AW.ret (Fin.data rfl (by first | (simp only [go_sem]; done) | (simp [go_sem, *]; done) | (simp [go_sem]; omega) | rfl) rfl)))
 | true =>
 cases b2 with
 | false =>
  rw [if_pos (by simp)]
  repeat' (first | ((first | refine AW.sreg rfl fun K hK => ?_ | refine run_call _ _ _ ((k1).pure rfl rfl _ _) rfl rfl (dstOk_of rfl) rfl rfl rfl ?_ | refine run_call _ _ _ ((k2).pure rfl rfl _ _) rfl rfl (dstOk_of rfl) rfl rfl rfl ?_); simp only [go_sem, ↓reduceIte]) | (refine AW.seq_k fun K hK => ?_) | (refine AW.block ?_) | (refine AW.cT ?_) | (refine hK _ ?_; clear hK K) | (refine AW.ret (Fin.data rfl (by first | (simp only [go_sem]; done) | (simp [go_sem, *]; done) | (simp [go_sem]; omega) | rfl) rfl)))
 | true =>
 rw [if_neg (by simp)]
 have hle : (Op.bytesLess pid last || pid == last) = leS pid last := rfl
 generalize leS pid last = c at *
 cases c with
 | true =>
  rw [if_pos (by simp)]
  repeat' (first | ((first | refine AW.sreg rfl fun K hK => ?_ | refine run_call _ _ _ ((k1).pure rfl rfl _ _) rfl rfl (dstOk_of rfl) rfl rfl rfl ?_ | refine run_call _ _ _ ((k2).pure rfl rfl _ _) rfl rfl (dstOk_of rfl) rfl rfl rfl ?_); simp only [go_sem, ↓reduceIte, hle]) | (refine AW.seq_k fun K hK => ?_) | (refine AW.block ?_) | (refine AW.cT ?_) | (refine AW.cF ?_) | (refine hK _ ?_; clear hK K) | (refine AW.ret (Fin.data rfl (by first | (simp only [go_sem]; done) | (simp [go_sem, *]; done) | (simp [go_sem]; omega) | rfl) rfl)))
 | false =>
 rw [if_neg (by simp)]
 cases b3 with
 | false =>
  rw [if_pos (by simp)]
  repeat' (first | ((first | refine AW.sreg rfl fun K hK => ?_ | refine run_call _ _ _ ((k1).pure rfl rfl _ _) rfl rfl (dstOk_of rfl) rfl rfl rfl ?_ | refine run_call _ _ _ ((k2).pure rfl rfl _ _) rfl rfl (dstOk_of rfl) rfl rfl rfl ?_ | refine run_call _ _ _ ((hn).pure rfl rfl _ _) rfl rfl (dstOk_of rfl) rfl rfl rfl ?_); simp only [go_sem, ↓reduceIte, hle]) | (refine AW.seq_k fun K hK => ?_) | (refine AW.block ?_) | (refine AW.cT ?_) | (refine AW.cF ?_) | (refine hK _ ?_; clear hK K) | (refine AW.ret (Fin.data rfl (by first | (simp only [go_sem]; done) | (simp [go_sem, *]; done) | (simp [go_sem]; omega) | rfl) rfl)))
 | true =>
 by_cases ha : au = []
 ·subst ha
  rw [if_pos (by simp)]
  repeat' (first | ((first | refine AW.sreg rfl fun K hK => ?_ | refine run_call _ _ _ ((k1).pure rfl rfl _ _) rfl rfl (dstOk_of rfl) rfl rfl rfl ?_ | refine run_call _ _ _ ((k2).pure rfl rfl _ _) rfl rfl (dstOk_of rfl) rfl rfl rfl ?_ | refine run_call _ _ _ ((hn).pure rfl rfl _ _) rfl rfl (dstOk_of rfl) rfl rfl rfl ?_); simp only [go_sem, ↓reduceIte, hle]) | (refine AW.seq_k fun K hK => ?_) | (refine AW.block ?_) | (refine AW.cT ?_) | (refine AW.cF ?_) | (refine hK _ ?_; clear hK K) | (refine AW.ret (Fin.data rfl (by first | (simp only [go_sem]; done) | (simp [go_sem, *]; done) | (simp [go_sem]; omega) | rfl) rfl)))
 have hpos : 0 < au.length := List.length_pos_iff.2 ha
 have hem : au.isEmpty = false := by simpa using ha
 rw [hem, if_neg (by simp)]
 have h0 : ((au.length : Int) == 0) = false := by simp; omega
 generalize hT : goF dfK [] au = T
 repeat' (first | ((first | refine AW.sreg rfl fun K hK => ?_ | refine run_call _ _ _ ((k1).pure rfl rfl _ _) rfl rfl (dstOk_of rfl) rfl rfl rfl ?_ | refine run_call _ _ _ ((k2).pure rfl rfl _ _) rfl rfl (dstOk_of rfl) rfl rfl rfl ?_ | refine run_call _ _ _ ((hn).pure rfl rfl _ _) rfl rfl (dstOk_of rfl) rfl rfl rfl ?_); simp only [go_sem, ↓reduceIte, hle, List.length_map, h0]) | (refine AW.seq_k fun K hK => ?_) | (refine AW.block ?_) | (refine AW.skip ?_; simp only [Then, InBlock]) | (refine AW.cF ?_) | (refine hK _ ?_; clear hK K))
 refine AW.loopF (ι := Nat) [2, 3, 43, 44] (fun p => [(45, I p)]) (fun p => [(0, some (O.box 56 [S pid, S tr, S ti, .d (.sl (au.map D.str)), .d (.sl (tp.map D.str))]))]) 80 (fun p => p ≤ au.length ∧ goF dfK (au.take p) (au.drop p) = T) (fun p => au.length - p) 0 ⟨by simp, hT⟩ (Weak.aC hcx (by refine ⟨?_, ?_, ?_⟩ <;> simp [go_sem, gL, kL, renOf, V.obj, Nat.blt, Nat.ble, List.map_append, dv_push])) ?_; simp only [St.at_nil, St.at_cons, lk, Nat.reduceEqDiff, ↓reduceIte, Option.getD_some, Option.getD_none, List.cons_append, List.nil_append, List.append_nil]
 rintro i ⟨g1, g2⟩
 by_cases hi : i < au.length
 ·obtain ⟨x, hx, hxm, -⟩ := get_some hi
  have hget : (au.map D.str)[i]? = some (D.str x) := by simp only [List.getElem?_map, hx, Option.map_some]
  have hsub : List.take (i - 0) (au.map D.str) = (au.take i).map D.str := by simp
  rw [goF_step _ hx] at g2
  have hk := author1_any (keyRM (.inr (.inr (.inl (h4 x hxm)))))
  have hc := contains_St (au.take i) (by simp; omega) x
  have hF : dfK (au.take i) x = if keyB x = false then 5 else if ((au.take i).any fun y => x == y) = true then 6 else 0 := rfl
  generalize dfK (au.take i) x = F at *
  generalize keyB x = k at *
  generalize ((au.take i).any fun y => x == y) = c at *
  cases k with
  | false =>
   obtain rfl : F = 5 := by simpa using hF
   rw [if_pos (by decide)] at g2
   subst g2
   rw [if_pos (by simp)]
   rw [if_pos rfl] at hk
   repeat' (first | ((first | refine AW.sreg rfl fun K hK => ?_ | refine run_call _ _ _ ((hk).pure rfl rfl _ _) rfl rfl (dstOk_of rfl) rfl rfl rfl ?_); simp only [go_sem, ↓reduceIte, List.length_map, hget]) | (refine AW.seq_k fun K hK => ?_) | (refine AW.block ?_) | (refine AW.skip ?_; simp only [Then, InBlock]) | (refine AW.cT ?_) | (refine hK _ ?_; clear hK K) | (with_reducible refine andI ?_) | (refine AW.ret (Fin.data rfl (by first | (simp only [go_sem]; done) | (simp [go_sem, *]; done) | (simp [go_sem]; omega) | rfl) rfl)))
  | true =>
  rw [if_neg (by decide)] at hk
  cases c with
  | true =>
   obtain rfl : F = 6 := by simpa using hF
   rw [if_pos (by decide)] at g2
   subst g2
   rw [if_pos (by simp)]
   repeat' (first | ((first | refine AW.sreg rfl fun K hK => ?_ | refine run_call _ _ _ ((hk).pure rfl rfl _ _) rfl rfl (dstOk_of rfl) rfl rfl rfl ?_ | refine run_call _ _ _ ((hc).pure rfl rfl _ _) rfl rfl (dstOk_of rfl) rfl rfl rfl ?_); simp only [go_sem, ↓reduceIte, List.length_map, hget, hel, hsub, Int.le_refl]) | (refine AW.seq_k fun K hK => ?_) | (refine AW.block ?_) | (refine AW.skip ?_; simp only [Then, InBlock]) | (refine AW.cT ?_) | (refine AW.cF ?_) | (refine hK _ ?_; clear hK K) | (with_reducible refine andI ?_) | (refine AW.ret (Fin.data rfl (by first | (simp only [go_sem]; done) | (simp [go_sem, *]; done) | (simp [go_sem]; omega) | rfl) rfl)))
  | false =>
   obtain rfl : F = 0 := by simpa using hF
   rw [if_neg (by decide)] at g2
   repeat' (first | ((first | refine AW.sreg rfl fun K hK => ?_ | refine AW.reg rfl ?_ | refine run_call _ _ _ ((hk).pure rfl rfl _ _) rfl rfl (dstOk_of rfl) rfl rfl rfl ?_ | refine run_call _ _ _ ((hc).pure rfl rfl _ _) rfl rfl (dstOk_of rfl) rfl rfl rfl ?_); simp only [go_sem, ↓reduceIte, List.length_map, hget, hel, hsub, Int.le_refl]) | (refine AW.seq_k fun K hK => ?_) | (refine AW.block ?_) | (refine AW.skip ?_; simp only [Then, InBlock]) | (refine AW.cT ?_) | (refine AW.cF ?_) | (refine hK _ ?_; clear hK K) | (with_reducible refine andI ?_))
   exact ⟨i + 1, ⟨hi, g2⟩, by omega, (Weak.aC hcx (by refine ⟨?_, ?_, ?_⟩ <;> simp [go_sem, gL, kL, renOf, V.obj, Nat.blt, Nat.ble, List.map_append, dv_push]))⟩
 ·obtain rfl : i = au.length := by omega
  rw [List.drop_length, goF] at g2
  subst g2
  rw [if_neg (by simp)]
  repeat' (first | ((first | refine AW.sreg rfl fun K hK => ?_ | refine run_call _ _ _ ((hr).pure rfl rfl _ _) rfl rfl (dstOk_of rfl) rfl rfl rfl ?_); simp only [go_sem, ↓reduceIte, List.length_map]) | (refine AW.seq_k fun K hK => ?_) | (refine AW.skip ?_; simp only [Then, InBlock]) | (refine AW.exit ?_; simp only [go_sem, ↓reduceIte]) | (refine AW.cF ?_) | (refine hK _ ?_; clear hK K) | (clear hK K; refine hK _ ?_; clear hK K) | (refine AW.ret (Fin.data rfl (by first | (simp only [go_sem]; done) | (simp [go_sem, *]; done) | (simp [go_sem]; omega) | rfl) rfl)))
theorem paF_none (p : Pa) : paF (some []) p = paF none p := by
 unfold paF
 by_cases h : p.1 = []
 ·rw [h]; rfl
 ·have e : leS p.1 [] = false := by
   unfold leS
   cases hp : p.1 with
   | nil => exact absurd hp h
   | cons a r => simp [Op.bytesLess]
  simp only [e]
theorem paperForms_any (l : List Pa) (hl : l.length ≤ 100) (hp : ∀ p ∈ l, PaR p ∧ p.2.2.2.2 ∈ ToL) : Does Tryz.prog 30 [.d (.sl (l.map paD))] [] (I (goF pasF [] l)) [] := by
 refine Does.of_AW (n := 25) Tryz.func30 rfl rfl rfl fun cx hcx => ?_
 generalize hT : goF pasF [] l = T
 repeat' (first | (refine AW.sreg rfl fun K hK => ?_; simp only [go_sem, ↓reduceIte, List.length_map]) | (refine AW.seq_k fun K hK => ?_) | (refine AW.block ?_) | (refine AW.skip ?_; simp only [Then, InBlock]) | (refine AW.cF ?_) | (refine hK _ ?_; clear hK K))
 refine AW.loopF (ι := Nat) [10, 11] (fun p => [(12, I p), (3, S (match (l.take p).getLast? with | none => [] | some q => q.1))]) (fun p => []) 20 (fun p => p ≤ l.length ∧ goF pasF (l.take p) (l.drop p) = T) (fun p => l.length - p) 0 ⟨by simp, hT⟩ (Weak.aC hcx (by refine ⟨?_, ?_, ?_⟩ <;> simp [go_sem, gL, kL, renOf, V.obj, Nat.blt, Nat.ble, List.map_append, dv_push])) ?_; simp only [St.at_nil, St.at_cons, lk, Nat.reduceEqDiff, ↓reduceIte, Option.getD_some, Option.getD_none, List.cons_append, List.nil_append, List.append_nil]
 rintro i ⟨g1, g2⟩
 by_cases hi : i < l.length
 ·obtain ⟨x, hx, hxm, -⟩ := get_some hi
  have hget : (l.map paD)[i]? = some (paD x) := by simp only [List.getElem?_map, hx, Option.map_some]
  rw [goF_step _ hx] at g2
  obtain ⟨hx1, hx2⟩ := hp x hxm
  have hla : (l.take (i + 1)).getLast? = some x := by rw [List.take_add_one, hx]; simp
  have hF : pasF (l.take i) x = paF (some (match (l.take i).getLast? with | none => [] | some q => q.1)) x := by
   unfold pasF
   cases (l.take i).getLast? with
   | none => exact (paF_none x).symm
   | some q => rfl
  have hc := paperForm_any hx1 hx2 (match (l.take i).getLast? with | none => [] | some q => q.1)
  rw [← hF] at hc
  generalize (match (l.take i).getLast? with | none => [] | some q => q.1) = la at *
  generalize pasF (l.take i) x = F at *
  by_cases hz : F = 0
  ·subst hz
   rw [if_neg (by simp)] at g2
   repeat' (first | ((first | refine AW.sreg rfl fun K hK => ?_ | refine AW.reg rfl ?_ | refine run_call _ _ _ ((hc).pure rfl rfl _ _) rfl rfl (dstOk_of rfl) rfl rfl rfl ?_); simp only [go_sem, ↓reduceIte, List.length_map, hget]) | (refine AW.seq_k fun K hK => ?_) | (refine AW.block ?_) | (refine AW.skip ?_; simp only [Then, InBlock]) | (refine AW.cT ?_) | (refine AW.cF ?_) | (refine hK _ ?_; clear hK K) | (with_reducible refine andI ?_))
   exact ⟨i + 1, ⟨hi, g2⟩, by omega, (Weak.aC hcx (by refine ⟨?_, ?_, ?_⟩ <;> simp [go_sem, gL, kL, renOf, V.obj, Nat.blt, Nat.ble, List.map_append, dv_push, hla]))⟩
  ·rw [if_pos hz] at g2
   subst g2
   have hzb : (F != 0) = true := by simpa using hz
   repeat' (first | ((first | refine AW.sreg rfl fun K hK => ?_ | refine run_call _ _ _ ((hc).pure rfl rfl _ _) rfl rfl (dstOk_of rfl) rfl rfl rfl ?_); simp only [go_sem, ↓reduceIte, List.length_map, hget, hzb]) | (refine AW.seq_k fun K hK => ?_) | (refine AW.block ?_) | (refine AW.skip ?_; simp only [Then, InBlock]) | (refine AW.cT ?_) | (refine hK _ ?_; clear hK K) | (with_reducible refine andI ?_) | (refine AW.ret (Fin.data rfl (by first | (simp only [go_sem]; done) | (simp [go_sem, *]; done) | (simp [go_sem]; omega) | rfl) rfl)))
 ·obtain rfl : i = l.length := by omega
  rw [List.drop_length, goF] at g2
  subst g2
  repeat' (first | (refine AW.sreg rfl fun K hK => ?_; simp only [go_sem, ↓reduceIte, List.length_map]) | (refine AW.seq_k fun K hK => ?_) | (refine AW.exit ?_; simp only [go_sem, ↓reduceIte]) | (refine AW.cF ?_) | (refine hK _ ?_; clear hK K) | (clear hK K; refine hK _ ?_; clear hK K) | (refine AW.ret (Fin.data rfl (by first | (simp only [go_sem]; done) | (simp [go_sem, *]; done) | (simp [go_sem]; omega) | rfl) rfl)))
theorem checkPapers_any (l : List Pa) (hl : l.length ≤ 100) (hp : ∀ p ∈ l, PaR p ∧ p.2.2.2.2 ∈ ToL) : Does Tryz.prog 99 [.d (.sl (l.map paD))] [] (I (goF pasF [] l)) [] := by
 refine Does.of_AW (n := 86) Tryz.func99 rfl rfl rfl fun cx hcx => ?_
 generalize hT : goF pasF [] l = T
 repeat' (first | (refine AW.sreg rfl fun K hK => ?_; simp only [go_sem, ↓reduceIte, List.length_map]) | (refine AW.seq_k fun K hK => ?_) | (refine AW.block ?_) | (refine AW.skip ?_; simp only [Then, InBlock]) | (refine AW.cF ?_) | (refine hK _ ?_; clear hK K))
 refine AW.loopF (ι := Nat) [0, 10, 11] (fun p => [(12, I p)]) (fun p => []) 20 (fun p => p ≤ l.length ∧ goF pasF (l.take p) (l.drop p) = T) (fun p => l.length - p) 0 ⟨by simp, hT⟩ (Weak.aC hcx (by refine ⟨?_, ?_, ?_⟩ <;> simp [go_sem, gL, kL, renOf, V.obj, Nat.blt, Nat.ble, List.map_append, dv_push])) ?_; simp only [St.at_nil, St.at_cons, lk, Nat.reduceEqDiff, ↓reduceIte, Option.getD_some, Option.getD_none, List.cons_append, List.nil_append, List.append_nil]
 rintro i ⟨g1, g2⟩
 by_cases hi : i < l.length
 ·obtain ⟨x, hx, hxm, -⟩ := get_some hi
  have hget : (l.map paD)[i]? = some (paD x) := by simp only [List.getElem?_map, hx, Option.map_some]
  rw [goF_step _ hx] at g2
  obtain ⟨⟨h1, h2, h3, h4, h5, h6, h7⟩, ht⟩ := hp x hxm
  have hprev : (i = 0 ∧ True ∧ (l.take i).getLast? = none) ∨ ∃ q : Pa, 0 < i ∧ (l.map paD)[((i : Int) - 1).toNat]? = some (paD q) ∧ (l.take i).getLast? = some q := by
   rcases Nat.eq_zero_or_pos i with h | h
   ·subst h
    exact .inl ⟨rfl, trivial, rfl⟩
   ·obtain ⟨q, hq, -, -⟩ := get_some (l := l) (i := i - 1) (by omega)
    refine .inr ⟨q, h, ?_, ?_⟩
    ·rw [show ((i : Int) - 1).toNat = i - 1 by omega, List.getElem?_map, hq]
     rfl
    ·rw [List.getLast?_eq_getElem?, List.length_take, Nat.min_eq_left (by omega), List.getElem?_take_of_lt (by omega), hq]
  have hF : pasF (l.take i) x = paF ((l.take i).getLast?.map (·.1)) x := rfl
  clear hxm
  obtain ⟨pid, tr, ti, au, tp⟩ := x
  dsimp only at h1 h2 h3 h4 h5 h6 h7 ht
  have k1 := keyP (.inl h1)
  have k2 := keyP (.inr (.inl h2))
  have hpl := plain_all ti h3
  have hr := risingFault_ToL tp ht
  have hd := diffKeys_any au (by omega) (fun s hs => by have := len_all40 s (mem_keys (.inr (.inr (.inl (h4 s hs))))); omega)
  have htl := len_ti ti h3
  generalize pasF (l.take i) (pid, tr, ti, au, tp) = F at *
  rcases hprev with ⟨h0, -, hla⟩ | ⟨q, h0, hgq, hla⟩
  ·rw [hla, Option.map_none, paF_nil] at hF
   unfold nmdB at hF
   generalize keyB pid = b1 at *
   generalize keyB tr = b2 at *
   generalize plnB ti = b3 at *
   generalize goF dfK [] au = d at *
   generalize rsF tp = r at *
   cases b1 with
   | false =>
    obtain rfl : F = 5 := by simpa using hF
    rw [if_pos (by decide)] at g2
    subst g2
    repeat' (first | ((first | refine AW.sreg rfl fun K hK => ?_ | refine run_call _ _ _ ((k1).pure rfl rfl _ _) rfl rfl (dstOk_of rfl) rfl rfl rfl ?_); simp only [go_sem, ↓reduceIte, List.length_map, hget]) | (refine AW.seq_k fun K hK => ?_) | (refine AW.block ?_) | (refine AW.skip ?_; simp only [Then, InBlock]) | (refine AW.cT ?_) | (refine hK _ ?_; clear hK K) | (with_reducible refine andI ?_) | (refine AW.ret (Fin.data rfl (by first | (simp only [go_sem]; done) | (simp [go_sem, *]; done) | (simp [go_sem]; omega) | rfl) rfl)))
   | true =>
   cases b2 with
   | false =>
    obtain rfl : F = 5 := by simpa using hF
    rw [if_pos (by decide)] at g2
    subst g2
    repeat' (first | ((first | refine AW.sreg rfl fun K hK => ?_ | refine run_call _ _ _ ((k1).pure rfl rfl _ _) rfl rfl (dstOk_of rfl) rfl rfl rfl ?_ | refine run_call _ _ _ ((k2).pure rfl rfl _ _) rfl rfl (dstOk_of rfl) rfl rfl rfl ?_); simp only [go_sem, ↓reduceIte, List.length_map, hget]) | (refine AW.seq_k fun K hK => ?_) | (refine AW.block ?_) | (refine AW.skip ?_; simp only [Then, InBlock]) | (refine AW.cT ?_) | (refine hK _ ?_; clear hK K) | (with_reducible refine andI ?_) | (refine AW.ret (Fin.data rfl (by first | (simp only [go_sem]; done) | (simp [go_sem, *]; done) | (simp [go_sem]; omega) | rfl) rfl)))
   | true =>
   rw [if_neg (by simp)] at hF
   have hgq : True := trivial
   have hle : True := trivial
   by_cases t0 : ti = []
   ·subst t0
    obtain rfl : F = 3 := by simpa using hF
    rw [if_pos (by decide)] at g2
    subst g2
    repeat' (first | ((first | refine AW.sreg rfl fun K hK => ?_ | refine AW.sregD hmix rfl fun K hK => ?_ | refine run_call _ _ _ ((k1).pure rfl rfl _ _) rfl rfl (dstOk_of rfl) rfl rfl rfl ?_ | refine run_call _ _ _ ((k2).pure rfl rfl _ _) rfl rfl (dstOk_of rfl) rfl rfl rfl ?_); simp only [go_sem, ↓reduceIte, List.length_map, hget, hgq, hle]) | (refine AW.seq_k fun K hK => ?_) | (refine AW.block ?_) | (refine AW.skip ?_; simp only [Then, InBlock]) | (refine AW.cT ?_) | (refine AW.cF ?_) | (refine hK _ ?_; clear hK K) | (refine stepBT_split (fun h => ?_) (fun h => ?_) <;> (have hb0 := h) <;> (try simp only [Bool.not_eq_true', Bool.not_eq_false'] at hb0) <;> (try simp only [decide_eq_true_eq, decide_eq_false_iff_not, Bool.not_eq_true', Bool.not_eq_false', Bool.not_eq_eq_eq_not, Bool.not_true, Bool.not_false, beq_iff_eq, bne_iff_ne, beq_eq_false_iff_ne, ne_eq, Bool.and_eq_true, Bool.or_eq_true, Bool.or_eq_false_iff] at h) <;> simp only [go_sem, ↓reduceIte, hb0, h, decide_true, decide_false, List.length_map, hget, hgq, hle] <;> (try clear hb0)) | (with_reducible refine And.intro (?_ : regOk _ _ = true) ?_; kernel_rfl) | (with_reducible refine andI ?_) | (refine AW.ret (Fin.data rfl (by first | (simp only [go_sem]; done) | (simp [go_sem, *]; done) | (simp [go_sem]; omega) | rfl) rfl)) | (exfalso; omega))
   have t0b : (ti == []) = false := by simpa using t0
   cases b3 with
   | false =>
    obtain rfl : F = 3 := by simpa using hF
    rw [if_pos (by decide)] at g2
    subst g2
    repeat' (first | ((first | refine AW.sreg rfl fun K hK => ?_ | refine AW.sregD hmix rfl fun K hK => ?_ | refine run_call _ _ _ ((k1).pure rfl rfl _ _) rfl rfl (dstOk_of rfl) rfl rfl rfl ?_ | refine run_call _ _ _ ((k2).pure rfl rfl _ _) rfl rfl (dstOk_of rfl) rfl rfl rfl ?_ | refine run_call _ _ _ ((hpl).pure rfl rfl _ _) rfl rfl (dstOk_of rfl) rfl rfl rfl ?_); simp only [go_sem, ↓reduceIte, List.length_map, hget, hgq, hle, t0b]) | (refine AW.seq_k fun K hK => ?_) | (refine AW.block ?_) | (refine AW.skip ?_; simp only [Then, InBlock]) | (refine AW.cT ?_) | (refine AW.cF ?_) | (refine hK _ ?_; clear hK K) | (refine stepBT_split (fun h => ?_) (fun h => ?_) <;> (have hb0 := h) <;> (try simp only [Bool.not_eq_true', Bool.not_eq_false'] at hb0) <;> (try simp only [decide_eq_true_eq, decide_eq_false_iff_not, Bool.not_eq_true', Bool.not_eq_false', Bool.not_eq_eq_eq_not, Bool.not_true, Bool.not_false, beq_iff_eq, bne_iff_ne, beq_eq_false_iff_ne, ne_eq, Bool.and_eq_true, Bool.or_eq_true, Bool.or_eq_false_iff] at h) <;> simp only [go_sem, ↓reduceIte, hb0, h, decide_true, decide_false, List.length_map, hget, hgq, hle, t0b] <;> (try clear hb0)) | (with_reducible refine And.intro (?_ : regOk _ _ = true) ?_; kernel_rfl) | (with_reducible refine andI ?_) | (refine AW.ret (Fin.data rfl (by first | (simp only [go_sem]; done) | (simp [go_sem, *]; done) | (simp [go_sem]; omega) | rfl) rfl)) | (exfalso; omega))
   | true =>
   by_cases t2 : ti.length ≤ 200
   case neg =>
    obtain rfl : F = 3 := by simpa [t0b, t2] using hF
    rw [if_pos (by decide)] at g2
    subst g2
    repeat' (first | ((first | refine AW.sreg rfl fun K hK => ?_ | refine AW.sregD hmix rfl fun K hK => ?_ | refine run_call _ _ _ ((k1).pure rfl rfl _ _) rfl rfl (dstOk_of rfl) rfl rfl rfl ?_ | refine run_call _ _ _ ((k2).pure rfl rfl _ _) rfl rfl (dstOk_of rfl) rfl rfl rfl ?_ | refine run_call _ _ _ ((hpl).pure rfl rfl _ _) rfl rfl (dstOk_of rfl) rfl rfl rfl ?_); simp only [go_sem, ↓reduceIte, List.length_map, hget, hgq, hle, t0b]) | (refine AW.seq_k fun K hK => ?_) | (refine AW.block ?_) | (refine AW.skip ?_; simp only [Then, InBlock]) | (refine AW.cT ?_) | (refine AW.cF ?_) | (refine hK _ ?_; clear hK K) | (refine stepB_split (fun h => ?_) (fun h => ?_) <;> (have hb0 := h) <;> (try simp only [Bool.not_eq_true', Bool.not_eq_false'] at hb0) <;> (try simp only [decide_eq_true_eq, decide_eq_false_iff_not, Bool.not_eq_true', Bool.not_eq_false', Bool.not_eq_eq_eq_not, Bool.not_true, Bool.not_false, beq_iff_eq, bne_iff_ne, beq_eq_false_iff_ne, ne_eq, Bool.and_eq_true, Bool.or_eq_true, Bool.or_eq_false_iff] at h) <;> simp only [go_sem, ↓reduceIte, hb0, h, decide_true, decide_false, List.length_map, hget, hgq, hle, t0b] <;> (try clear hb0)) | (refine stepBT_split (fun h => ?_) (fun h => ?_) <;> (have hb0 := h) <;> (try simp only [Bool.not_eq_true', Bool.not_eq_false'] at hb0) <;> (try simp only [decide_eq_true_eq, decide_eq_false_iff_not, Bool.not_eq_true', Bool.not_eq_false', Bool.not_eq_eq_eq_not, Bool.not_true, Bool.not_false, beq_iff_eq, bne_iff_ne, beq_eq_false_iff_ne, ne_eq, Bool.and_eq_true, Bool.or_eq_true, Bool.or_eq_false_iff] at h) <;> simp only [go_sem, ↓reduceIte, hb0, h, decide_true, decide_false, List.length_map, hget, hgq, hle, t0b] <;> (try clear hb0)) | (with_reducible refine And.intro (?_ : regOk _ _ = true) ?_; kernel_rfl) | (with_reducible refine andI ?_) | (refine AW.ret (Fin.data rfl (by first | (simp only [go_sem]; done) | (simp [go_sem, *]; done) | (simp [go_sem]; omega) | rfl) rfl)) | (exfalso; omega))
   by_cases ha : au = []
   ·subst ha
    obtain rfl : F = 3 := by simpa using hF
    rw [if_pos (by decide)] at g2
    subst g2
    repeat' (first | ((first | refine AW.sreg rfl fun K hK => ?_ | refine AW.sregD hmix rfl fun K hK => ?_ | refine run_call _ _ _ ((k1).pure rfl rfl _ _) rfl rfl (dstOk_of rfl) rfl rfl rfl ?_ | refine run_call _ _ _ ((k2).pure rfl rfl _ _) rfl rfl (dstOk_of rfl) rfl rfl rfl ?_ | refine run_call _ _ _ ((hpl).pure rfl rfl _ _) rfl rfl (dstOk_of rfl) rfl rfl rfl ?_); simp only [go_sem, ↓reduceIte, List.length_map, hget, hgq, hle, t0b]) | (refine AW.seq_k fun K hK => ?_) | (refine AW.block ?_) | (refine AW.skip ?_; simp only [Then, InBlock]) | (refine AW.cT ?_) | (refine AW.cF ?_) | (refine hK _ ?_; clear hK K) | (refine stepB_split (fun h => ?_) (fun h => ?_) <;> (have hb0 := h) <;> (try simp only [Bool.not_eq_true', Bool.not_eq_false'] at hb0) <;> (try simp only [decide_eq_true_eq, decide_eq_false_iff_not, Bool.not_eq_true', Bool.not_eq_false', Bool.not_eq_eq_eq_not, Bool.not_true, Bool.not_false, beq_iff_eq, bne_iff_ne, beq_eq_false_iff_ne, ne_eq, Bool.and_eq_true, Bool.or_eq_true, Bool.or_eq_false_iff] at h) <;> simp only [go_sem, ↓reduceIte, hb0, h, decide_true, decide_false, List.length_map, hget, hgq, hle, t0b] <;> (try clear hb0)) | (refine stepBT_split (fun h => ?_) (fun h => ?_) <;> (have hb0 := h) <;> (try simp only [Bool.not_eq_true', Bool.not_eq_false'] at hb0) <;> (try simp only [decide_eq_true_eq, decide_eq_false_iff_not, Bool.not_eq_true', Bool.not_eq_false', Bool.not_eq_eq_eq_not, Bool.not_true, Bool.not_false, beq_iff_eq, bne_iff_ne, beq_eq_false_iff_ne, ne_eq, Bool.and_eq_true, Bool.or_eq_true, Bool.or_eq_false_iff] at h) <;> simp only [go_sem, ↓reduceIte, hb0, h, decide_true, decide_false, List.length_map, hget, hgq, hle, t0b] <;> (try clear hb0)) | (with_reducible refine And.intro (?_ : regOk _ _ = true) ?_; kernel_rfl) | (with_reducible refine andI ?_) | (refine AW.ret (Fin.data rfl (by first | (simp only [go_sem]; done) | (simp [go_sem, *]; done) | (simp [go_sem]; omega) | rfl) rfl)) | (exfalso; omega))
   have hpos : 0 < au.length := List.length_pos_iff.2 ha
   have h0b : ((au.length : Int) == 0) = false := by simp; omega
   have hem : au.isEmpty = false := by simpa using ha
   rw [if_neg (by simp [t0b, t2, hem])] at hF
   by_cases hd0 : d = 0
   case neg =>
    rw [if_pos hd0] at hF
    rw [hF, if_pos hd0] at g2
    subst g2
    have hdb : (d != 0) = true := by simpa using hd0
    repeat' (first | ((first | refine AW.sreg rfl fun K hK => ?_ | refine AW.sregD hmix rfl fun K hK => ?_ | refine run_call _ _ _ ((k1).pure rfl rfl _ _) rfl rfl (dstOk_of rfl) rfl rfl rfl ?_ | refine run_call _ _ _ ((k2).pure rfl rfl _ _) rfl rfl (dstOk_of rfl) rfl rfl rfl ?_ | refine run_call _ _ _ ((hpl).pure rfl rfl _ _) rfl rfl (dstOk_of rfl) rfl rfl rfl ?_ | refine run_call _ _ _ ((hd).pure rfl rfl _ _) rfl rfl (dstOk_of rfl) rfl rfl rfl ?_); simp only [go_sem, ↓reduceIte, List.length_map, hget, hgq, hle, t0b, h0b, hdb]) | (refine AW.seq_k fun K hK => ?_) | (refine AW.block ?_) | (refine AW.skip ?_; simp only [Then, InBlock]) | (refine AW.cT ?_) | (refine AW.cF ?_) | (refine hK _ ?_; clear hK K) | (refine stepB_split (fun h => ?_) (fun h => ?_) <;> (have hb0 := h) <;> (try simp only [Bool.not_eq_true', Bool.not_eq_false'] at hb0) <;> (try simp only [decide_eq_true_eq, decide_eq_false_iff_not, Bool.not_eq_true', Bool.not_eq_false', Bool.not_eq_eq_eq_not, Bool.not_true, Bool.not_false, beq_iff_eq, bne_iff_ne, beq_eq_false_iff_ne, ne_eq, Bool.and_eq_true, Bool.or_eq_true, Bool.or_eq_false_iff] at h) <;> simp only [go_sem, ↓reduceIte, hb0, h, decide_true, decide_false, List.length_map, hget, hgq, hle, t0b, h0b, hdb] <;> (try clear hb0)) | (refine stepBT_split (fun h => ?_) (fun h => ?_) <;> (have hb0 := h) <;> (try simp only [Bool.not_eq_true', Bool.not_eq_false'] at hb0) <;> (try simp only [decide_eq_true_eq, decide_eq_false_iff_not, Bool.not_eq_true', Bool.not_eq_false', Bool.not_eq_eq_eq_not, Bool.not_true, Bool.not_false, beq_iff_eq, bne_iff_ne, beq_eq_false_iff_ne, ne_eq, Bool.and_eq_true, Bool.or_eq_true, Bool.or_eq_false_iff] at h) <;> simp only [go_sem, ↓reduceIte, hb0, h, decide_true, decide_false, List.length_map, hget, hgq, hle, t0b, h0b, hdb] <;> (try clear hb0)) | (with_reducible refine And.intro (?_ : regOk _ _ = true) ?_; kernel_rfl) | (with_reducible refine andI ?_) | (refine AW.ret (Fin.data rfl (by first | (simp only [go_sem]; done) | (simp [go_sem, *]; done) | (simp [go_sem]; omega) | rfl) rfl)) | (exfalso; omega))
   subst hd0
   rw [if_neg (by decide)] at hF
   rw [hF] at g2
   by_cases hr0 : r = 0
   case neg =>
    rw [if_pos hr0] at g2
    subst g2
    have hrb : (r != 0) = true := by simpa using hr0
    repeat' (first | ((first | refine AW.sreg rfl fun K hK => ?_ | refine AW.sregD hmix rfl fun K hK => ?_ | refine run_call _ _ _ ((k1).pure rfl rfl _ _) rfl rfl (dstOk_of rfl) rfl rfl rfl ?_ | refine run_call _ _ _ ((k2).pure rfl rfl _ _) rfl rfl (dstOk_of rfl) rfl rfl rfl ?_ | refine run_call _ _ _ ((hpl).pure rfl rfl _ _) rfl rfl (dstOk_of rfl) rfl rfl rfl ?_ | refine run_call _ _ _ ((hd).pure rfl rfl _ _) rfl rfl (dstOk_of rfl) rfl rfl rfl ?_ | refine run_call _ _ _ ((hr).pure rfl rfl _ _) rfl rfl (dstOk_of rfl) rfl rfl rfl ?_); simp only [go_sem, ↓reduceIte, List.length_map, hget, hgq, hle, t0b, h0b, hrb]) | (refine AW.seq_k fun K hK => ?_) | (refine AW.block ?_) | (refine AW.skip ?_; simp only [Then, InBlock]) | (refine AW.cT ?_) | (refine AW.cF ?_) | (refine hK _ ?_; clear hK K) | (refine stepB_split (fun h => ?_) (fun h => ?_) <;> (have hb0 := h) <;> (try simp only [Bool.not_eq_true', Bool.not_eq_false'] at hb0) <;> (try simp only [decide_eq_true_eq, decide_eq_false_iff_not, Bool.not_eq_true', Bool.not_eq_false', Bool.not_eq_eq_eq_not, Bool.not_true, Bool.not_false, beq_iff_eq, bne_iff_ne, beq_eq_false_iff_ne, ne_eq, Bool.and_eq_true, Bool.or_eq_true, Bool.or_eq_false_iff] at h) <;> simp only [go_sem, ↓reduceIte, hb0, h, decide_true, decide_false, List.length_map, hget, hgq, hle, t0b, h0b, hrb] <;> (try clear hb0)) | (refine stepBT_split (fun h => ?_) (fun h => ?_) <;> (have hb0 := h) <;> (try simp only [Bool.not_eq_true', Bool.not_eq_false'] at hb0) <;> (try simp only [decide_eq_true_eq, decide_eq_false_iff_not, Bool.not_eq_true', Bool.not_eq_false', Bool.not_eq_eq_eq_not, Bool.not_true, Bool.not_false, beq_iff_eq, bne_iff_ne, beq_eq_false_iff_ne, ne_eq, Bool.and_eq_true, Bool.or_eq_true, Bool.or_eq_false_iff] at h) <;> simp only [go_sem, ↓reduceIte, hb0, h, decide_true, decide_false, List.length_map, hget, hgq, hle, t0b, h0b, hrb] <;> (try clear hb0)) | (with_reducible refine And.intro (?_ : regOk _ _ = true) ?_; kernel_rfl) | (with_reducible refine andI ?_) | (refine AW.ret (Fin.data rfl (by first | (simp only [go_sem]; done) | (simp [go_sem, *]; done) | (simp [go_sem]; omega) | rfl) rfl)) | (exfalso; omega))
   subst hr0
   rw [if_neg (by decide)] at g2
   repeat' (first | ((first | refine AW.sreg rfl fun K hK => ?_ | refine AW.sregD hmix rfl fun K hK => ?_ | refine AW.reg rfl ?_ | refine run_call _ _ _ ((k1).pure rfl rfl _ _) rfl rfl (dstOk_of rfl) rfl rfl rfl ?_ | refine run_call _ _ _ ((k2).pure rfl rfl _ _) rfl rfl (dstOk_of rfl) rfl rfl rfl ?_ | refine run_call _ _ _ ((hpl).pure rfl rfl _ _) rfl rfl (dstOk_of rfl) rfl rfl rfl ?_ | refine run_call _ _ _ ((hd).pure rfl rfl _ _) rfl rfl (dstOk_of rfl) rfl rfl rfl ?_ | refine run_call _ _ _ ((hr).pure rfl rfl _ _) rfl rfl (dstOk_of rfl) rfl rfl rfl ?_); simp only [go_sem, ↓reduceIte, List.length_map, hget, hgq, hle, t0b, h0b]) | (refine AW.seq_k fun K hK => ?_) | (refine AW.block ?_) | (refine AW.skip ?_; simp only [Then, InBlock]) | (refine AW.cT ?_) | (refine AW.cF ?_) | (refine hK _ ?_; clear hK K) | (refine stepB_split (fun h => ?_) (fun h => ?_) <;> (have hb0 := h) <;> (try simp only [Bool.not_eq_true', Bool.not_eq_false'] at hb0) <;> (try simp only [decide_eq_true_eq, decide_eq_false_iff_not, Bool.not_eq_true', Bool.not_eq_false', Bool.not_eq_eq_eq_not, Bool.not_true, Bool.not_false, beq_iff_eq, bne_iff_ne, beq_eq_false_iff_ne, ne_eq, Bool.and_eq_true, Bool.or_eq_true, Bool.or_eq_false_iff] at h) <;> simp only [go_sem, ↓reduceIte, hb0, h, decide_true, decide_false, List.length_map, hget, hgq, hle, t0b, h0b] <;> (try clear hb0)) | (refine stepBT_split (fun h => ?_) (fun h => ?_) <;> (have hb0 := h) <;> (try simp only [Bool.not_eq_true', Bool.not_eq_false'] at hb0) <;> (try simp only [decide_eq_true_eq, decide_eq_false_iff_not, Bool.not_eq_true', Bool.not_eq_false', Bool.not_eq_eq_eq_not, Bool.not_true, Bool.not_false, beq_iff_eq, bne_iff_ne, beq_eq_false_iff_ne, ne_eq, Bool.and_eq_true, Bool.or_eq_true, Bool.or_eq_false_iff] at h) <;> simp only [go_sem, ↓reduceIte, hb0, h, decide_true, decide_false, List.length_map, hget, hgq, hle, t0b, h0b] <;> (try clear hb0)) | (with_reducible refine And.intro (?_ : regOk _ _ = true) ?_; kernel_rfl) | (with_reducible refine andI ?_) | (exfalso; omega))
   exact ⟨i + 1, ⟨hi, g2⟩, by omega, (Weak.aC hcx (by refine ⟨?_, ?_, ?_⟩ <;> simp [go_sem, gL, kL, renOf, V.obj, Nat.blt, Nat.ble, List.map_append, dv_push]))⟩
  ·rw [hla, Option.map_some, paF_some] at hF
   unfold nmdB at hF
   have hle : (Op.bytesLess pid q.1 || pid == q.1) = leS pid q.1 := rfl
   generalize leS pid q.1 = c at *
   generalize keyB pid = b1 at *
   generalize keyB tr = b2 at *
   generalize plnB ti = b3 at *
   generalize goF dfK [] au = d at *
   generalize rsF tp = r at *
   cases b1 with
   | false =>
    obtain rfl : F = 5 := by simpa using hF
    rw [if_pos (by decide)] at g2
    subst g2
    repeat' (first | ((first | refine AW.sreg rfl fun K hK => ?_ | refine run_call _ _ _ ((k1).pure rfl rfl _ _) rfl rfl (dstOk_of rfl) rfl rfl rfl ?_); simp only [go_sem, ↓reduceIte, List.length_map, hget]) | (refine AW.seq_k fun K hK => ?_) | (refine AW.block ?_) | (refine AW.skip ?_; simp only [Then, InBlock]) | (refine AW.cT ?_) | (refine hK _ ?_; clear hK K) | (with_reducible refine andI ?_) | (refine AW.ret (Fin.data rfl (by first | (simp only [go_sem]; done) | (simp [go_sem, *]; done) | (simp [go_sem]; omega) | rfl) rfl)))
   | true =>
   cases b2 with
   | false =>
    obtain rfl : F = 5 := by simpa using hF
    rw [if_pos (by decide)] at g2
    subst g2
    repeat' (first | ((first | refine AW.sreg rfl fun K hK => ?_ | refine run_call _ _ _ ((k1).pure rfl rfl _ _) rfl rfl (dstOk_of rfl) rfl rfl rfl ?_ | refine run_call _ _ _ ((k2).pure rfl rfl _ _) rfl rfl (dstOk_of rfl) rfl rfl rfl ?_); simp only [go_sem, ↓reduceIte, List.length_map, hget]) | (refine AW.seq_k fun K hK => ?_) | (refine AW.block ?_) | (refine AW.skip ?_; simp only [Then, InBlock]) | (refine AW.cT ?_) | (refine hK _ ?_; clear hK K) | (with_reducible refine andI ?_) | (refine AW.ret (Fin.data rfl (by first | (simp only [go_sem]; done) | (simp [go_sem, *]; done) | (simp [go_sem]; omega) | rfl) rfl)))
   | true =>
   rw [if_neg (by simp)] at hF
   cases c with
   | true =>
    obtain rfl : F = 7 := by simpa using hF
    rw [if_pos (by decide)] at g2
    subst g2
    repeat' (first | ((first | refine AW.sreg rfl fun K hK => ?_ | refine AW.sregD hmix rfl fun K hK => ?_ | refine run_call _ _ _ ((k1).pure rfl rfl _ _) rfl rfl (dstOk_of rfl) rfl rfl rfl ?_ | refine run_call _ _ _ ((k2).pure rfl rfl _ _) rfl rfl (dstOk_of rfl) rfl rfl rfl ?_); simp only [go_sem, ↓reduceIte, List.length_map, hget, hgq, hle]) | (refine AW.seq_k fun K hK => ?_) | (refine AW.block ?_) | (refine AW.skip ?_; simp only [Then, InBlock]) | (refine AW.cT ?_) | (refine AW.cF ?_) | (refine hK _ ?_; clear hK K) | (refine stepBT_split (fun h => ?_) (fun h => ?_) <;> (have hb0 := h) <;> (try simp only [Bool.not_eq_true', Bool.not_eq_false'] at hb0) <;> (try simp only [decide_eq_true_eq, decide_eq_false_iff_not, Bool.not_eq_true', Bool.not_eq_false', Bool.not_eq_eq_eq_not, Bool.not_true, Bool.not_false, beq_iff_eq, bne_iff_ne, beq_eq_false_iff_ne, ne_eq, Bool.and_eq_true, Bool.or_eq_true, Bool.or_eq_false_iff] at h) <;> simp only [go_sem, ↓reduceIte, hb0, h, decide_true, decide_false, List.length_map, hget, hgq, hle] <;> (try clear hb0)) | (with_reducible refine And.intro (?_ : regOk _ _ = true) ?_; kernel_rfl) | (with_reducible refine andI ?_) | (refine AW.ret (Fin.data rfl (by first | (simp only [go_sem]; done) | (simp [go_sem, *]; done) | (simp [go_sem]; omega) | rfl) rfl)))
   | false =>
   rw [if_neg (by simp)] at hF
   by_cases t0 : ti = []
   ·subst t0
    obtain rfl : F = 3 := by simpa using hF
    rw [if_pos (by decide)] at g2
    subst g2
    repeat' (first | ((first | refine AW.sreg rfl fun K hK => ?_ | refine AW.sregD hmix rfl fun K hK => ?_ | refine run_call _ _ _ ((k1).pure rfl rfl _ _) rfl rfl (dstOk_of rfl) rfl rfl rfl ?_ | refine run_call _ _ _ ((k2).pure rfl rfl _ _) rfl rfl (dstOk_of rfl) rfl rfl rfl ?_); simp only [go_sem, ↓reduceIte, List.length_map, hget, hgq, hle]) | (refine AW.seq_k fun K hK => ?_) | (refine AW.block ?_) | (refine AW.skip ?_; simp only [Then, InBlock]) | (refine AW.cT ?_) | (refine AW.cF ?_) | (refine hK _ ?_; clear hK K) | (refine stepBT_split (fun h => ?_) (fun h => ?_) <;> (have hb0 := h) <;> (try simp only [Bool.not_eq_true', Bool.not_eq_false'] at hb0) <;> (try simp only [decide_eq_true_eq, decide_eq_false_iff_not, Bool.not_eq_true', Bool.not_eq_false', Bool.not_eq_eq_eq_not, Bool.not_true, Bool.not_false, beq_iff_eq, bne_iff_ne, beq_eq_false_iff_ne, ne_eq, Bool.and_eq_true, Bool.or_eq_true, Bool.or_eq_false_iff] at h) <;> simp only [go_sem, ↓reduceIte, hb0, h, decide_true, decide_false, List.length_map, hget, hgq, hle] <;> (try clear hb0)) | (with_reducible refine And.intro (?_ : regOk _ _ = true) ?_; kernel_rfl) | (with_reducible refine andI ?_) | (refine AW.ret (Fin.data rfl (by first | (simp only [go_sem]; done) | (simp [go_sem, *]; done) | (simp [go_sem]; omega) | rfl) rfl)))
   have t0b : (ti == []) = false := by simpa using t0
   cases b3 with
   | false =>
    obtain rfl : F = 3 := by simpa using hF
    rw [if_pos (by decide)] at g2
    subst g2
    repeat' (first | ((first | refine AW.sreg rfl fun K hK => ?_ | refine AW.sregD hmix rfl fun K hK => ?_ | refine run_call _ _ _ ((k1).pure rfl rfl _ _) rfl rfl (dstOk_of rfl) rfl rfl rfl ?_ | refine run_call _ _ _ ((k2).pure rfl rfl _ _) rfl rfl (dstOk_of rfl) rfl rfl rfl ?_ | refine run_call _ _ _ ((hpl).pure rfl rfl _ _) rfl rfl (dstOk_of rfl) rfl rfl rfl ?_); simp only [go_sem, ↓reduceIte, List.length_map, hget, hgq, hle, t0b]) | (refine AW.seq_k fun K hK => ?_) | (refine AW.block ?_) | (refine AW.skip ?_; simp only [Then, InBlock]) | (refine AW.cT ?_) | (refine AW.cF ?_) | (refine hK _ ?_; clear hK K) | (refine stepBT_split (fun h => ?_) (fun h => ?_) <;> (have hb0 := h) <;> (try simp only [Bool.not_eq_true', Bool.not_eq_false'] at hb0) <;> (try simp only [decide_eq_true_eq, decide_eq_false_iff_not, Bool.not_eq_true', Bool.not_eq_false', Bool.not_eq_eq_eq_not, Bool.not_true, Bool.not_false, beq_iff_eq, bne_iff_ne, beq_eq_false_iff_ne, ne_eq, Bool.and_eq_true, Bool.or_eq_true, Bool.or_eq_false_iff] at h) <;> simp only [go_sem, ↓reduceIte, hb0, h, decide_true, decide_false, List.length_map, hget, hgq, hle, t0b] <;> (try clear hb0)) | (with_reducible refine And.intro (?_ : regOk _ _ = true) ?_; kernel_rfl) | (with_reducible refine andI ?_) | (refine AW.ret (Fin.data rfl (by first | (simp only [go_sem]; done) | (simp [go_sem, *]; done) | (simp [go_sem]; omega) | rfl) rfl)))
   | true =>
   by_cases t2 : ti.length ≤ 200
   case neg =>
    obtain rfl : F = 3 := by simpa [t0b, t2] using hF
    rw [if_pos (by decide)] at g2
    subst g2
    repeat' (first | ((first | refine AW.sreg rfl fun K hK => ?_ | refine AW.sregD hmix rfl fun K hK => ?_ | refine run_call _ _ _ ((k1).pure rfl rfl _ _) rfl rfl (dstOk_of rfl) rfl rfl rfl ?_ | refine run_call _ _ _ ((k2).pure rfl rfl _ _) rfl rfl (dstOk_of rfl) rfl rfl rfl ?_ | refine run_call _ _ _ ((hpl).pure rfl rfl _ _) rfl rfl (dstOk_of rfl) rfl rfl rfl ?_); simp only [go_sem, ↓reduceIte, List.length_map, hget, hgq, hle, t0b]) | (refine AW.seq_k fun K hK => ?_) | (refine AW.block ?_) | (refine AW.skip ?_; simp only [Then, InBlock]) | (refine AW.cT ?_) | (refine AW.cF ?_) | (refine hK _ ?_; clear hK K) | (refine stepB_split (fun h => ?_) (fun h => ?_) <;> (have hb0 := h) <;> (try simp only [Bool.not_eq_true', Bool.not_eq_false'] at hb0) <;> (try simp only [decide_eq_true_eq, decide_eq_false_iff_not, Bool.not_eq_true', Bool.not_eq_false', Bool.not_eq_eq_eq_not, Bool.not_true, Bool.not_false, beq_iff_eq, bne_iff_ne, beq_eq_false_iff_ne, ne_eq, Bool.and_eq_true, Bool.or_eq_true, Bool.or_eq_false_iff] at h) <;> simp only [go_sem, ↓reduceIte, hb0, h, decide_true, decide_false, List.length_map, hget, hgq, hle, t0b] <;> (try clear hb0)) | (refine stepBT_split (fun h => ?_) (fun h => ?_) <;> (have hb0 := h) <;> (try simp only [Bool.not_eq_true', Bool.not_eq_false'] at hb0) <;> (try simp only [decide_eq_true_eq, decide_eq_false_iff_not, Bool.not_eq_true', Bool.not_eq_false', Bool.not_eq_eq_eq_not, Bool.not_true, Bool.not_false, beq_iff_eq, bne_iff_ne, beq_eq_false_iff_ne, ne_eq, Bool.and_eq_true, Bool.or_eq_true, Bool.or_eq_false_iff] at h) <;> simp only [go_sem, ↓reduceIte, hb0, h, decide_true, decide_false, List.length_map, hget, hgq, hle, t0b] <;> (try clear hb0)) | (with_reducible refine And.intro (?_ : regOk _ _ = true) ?_; kernel_rfl) | (with_reducible refine andI ?_) | (refine AW.ret (Fin.data rfl (by first | (simp only [go_sem]; done) | (simp [go_sem, *]; done) | (simp [go_sem]; omega) | rfl) rfl)))
   by_cases ha : au = []
   ·subst ha
    obtain rfl : F = 3 := by simpa using hF
    rw [if_pos (by decide)] at g2
    subst g2
    repeat' (first | ((first | refine AW.sreg rfl fun K hK => ?_ | refine AW.sregD hmix rfl fun K hK => ?_ | refine run_call _ _ _ ((k1).pure rfl rfl _ _) rfl rfl (dstOk_of rfl) rfl rfl rfl ?_ | refine run_call _ _ _ ((k2).pure rfl rfl _ _) rfl rfl (dstOk_of rfl) rfl rfl rfl ?_ | refine run_call _ _ _ ((hpl).pure rfl rfl _ _) rfl rfl (dstOk_of rfl) rfl rfl rfl ?_); simp only [go_sem, ↓reduceIte, List.length_map, hget, hgq, hle, t0b]) | (refine AW.seq_k fun K hK => ?_) | (refine AW.block ?_) | (refine AW.skip ?_; simp only [Then, InBlock]) | (refine AW.cT ?_) | (refine AW.cF ?_) | (refine hK _ ?_; clear hK K) | (refine stepB_split (fun h => ?_) (fun h => ?_) <;> (have hb0 := h) <;> (try simp only [Bool.not_eq_true', Bool.not_eq_false'] at hb0) <;> (try simp only [decide_eq_true_eq, decide_eq_false_iff_not, Bool.not_eq_true', Bool.not_eq_false', Bool.not_eq_eq_eq_not, Bool.not_true, Bool.not_false, beq_iff_eq, bne_iff_ne, beq_eq_false_iff_ne, ne_eq, Bool.and_eq_true, Bool.or_eq_true, Bool.or_eq_false_iff] at h) <;> simp only [go_sem, ↓reduceIte, hb0, h, decide_true, decide_false, List.length_map, hget, hgq, hle, t0b] <;> (try clear hb0)) | (refine stepBT_split (fun h => ?_) (fun h => ?_) <;> (have hb0 := h) <;> (try simp only [Bool.not_eq_true', Bool.not_eq_false'] at hb0) <;> (try simp only [decide_eq_true_eq, decide_eq_false_iff_not, Bool.not_eq_true', Bool.not_eq_false', Bool.not_eq_eq_eq_not, Bool.not_true, Bool.not_false, beq_iff_eq, bne_iff_ne, beq_eq_false_iff_ne, ne_eq, Bool.and_eq_true, Bool.or_eq_true, Bool.or_eq_false_iff] at h) <;> simp only [go_sem, ↓reduceIte, hb0, h, decide_true, decide_false, List.length_map, hget, hgq, hle, t0b] <;> (try clear hb0)) | (with_reducible refine And.intro (?_ : regOk _ _ = true) ?_; kernel_rfl) | (with_reducible refine andI ?_) | (refine AW.ret (Fin.data rfl (by first | (simp only [go_sem]; done) | (simp [go_sem, *]; done) | (simp [go_sem]; omega) | rfl) rfl)))
   have hpos : 0 < au.length := List.length_pos_iff.2 ha
   have h0b : ((au.length : Int) == 0) = false := by simp; omega
   have hem : au.isEmpty = false := by simpa using ha
   rw [if_neg (by simp [t0b, t2, hem])] at hF
   by_cases hd0 : d = 0
   case neg =>
    rw [if_pos hd0] at hF
    rw [hF, if_pos hd0] at g2
    subst g2
    have hdb : (d != 0) = true := by simpa using hd0
    repeat' (first | ((first | refine AW.sreg rfl fun K hK => ?_ | refine AW.sregD hmix rfl fun K hK => ?_ | refine run_call _ _ _ ((k1).pure rfl rfl _ _) rfl rfl (dstOk_of rfl) rfl rfl rfl ?_ | refine run_call _ _ _ ((k2).pure rfl rfl _ _) rfl rfl (dstOk_of rfl) rfl rfl rfl ?_ | refine run_call _ _ _ ((hpl).pure rfl rfl _ _) rfl rfl (dstOk_of rfl) rfl rfl rfl ?_ | refine run_call _ _ _ ((hd).pure rfl rfl _ _) rfl rfl (dstOk_of rfl) rfl rfl rfl ?_); simp only [go_sem, ↓reduceIte, List.length_map, hget, hgq, hle, t0b, h0b, hdb]) | (refine AW.seq_k fun K hK => ?_) | (refine AW.block ?_) | (refine AW.skip ?_; simp only [Then, InBlock]) | (refine AW.cT ?_) | (refine AW.cF ?_) | (refine hK _ ?_; clear hK K) | (refine stepB_split (fun h => ?_) (fun h => ?_) <;> (have hb0 := h) <;> (try simp only [Bool.not_eq_true', Bool.not_eq_false'] at hb0) <;> (try simp only [decide_eq_true_eq, decide_eq_false_iff_not, Bool.not_eq_true', Bool.not_eq_false', Bool.not_eq_eq_eq_not, Bool.not_true, Bool.not_false, beq_iff_eq, bne_iff_ne, beq_eq_false_iff_ne, ne_eq, Bool.and_eq_true, Bool.or_eq_true, Bool.or_eq_false_iff] at h) <;> simp only [go_sem, ↓reduceIte, hb0, h, decide_true, decide_false, List.length_map, hget, hgq, hle, t0b, h0b, hdb] <;> (try clear hb0)) | (refine stepBT_split (fun h => ?_) (fun h => ?_) <;> (have hb0 := h) <;> (try simp only [Bool.not_eq_true', Bool.not_eq_false'] at hb0) <;> (try simp only [decide_eq_true_eq, decide_eq_false_iff_not, Bool.not_eq_true', Bool.not_eq_false', Bool.not_eq_eq_eq_not, Bool.not_true, Bool.not_false, beq_iff_eq, bne_iff_ne, beq_eq_false_iff_ne, ne_eq, Bool.and_eq_true, Bool.or_eq_true, Bool.or_eq_false_iff] at h) <;> simp only [go_sem, ↓reduceIte, hb0, h, decide_true, decide_false, List.length_map, hget, hgq, hle, t0b, h0b, hdb] <;> (try clear hb0)) | (with_reducible refine And.intro (?_ : regOk _ _ = true) ?_; kernel_rfl) | (with_reducible refine andI ?_) | (refine AW.ret (Fin.data rfl (by first | (simp only [go_sem]; done) | (simp [go_sem, *]; done) | (simp [go_sem]; omega) | rfl) rfl)))
   subst hd0
   rw [if_neg (by decide)] at hF
   rw [hF] at g2
   by_cases hr0 : r = 0
   case neg =>
    rw [if_pos hr0] at g2
    subst g2
    have hrb : (r != 0) = true := by simpa using hr0
    repeat' (first | ((first | refine AW.sreg rfl fun K hK => ?_ | refine AW.sregD hmix rfl fun K hK => ?_ | refine run_call _ _ _ ((k1).pure rfl rfl _ _) rfl rfl (dstOk_of rfl) rfl rfl rfl ?_ | refine run_call _ _ _ ((k2).pure rfl rfl _ _) rfl rfl (dstOk_of rfl) rfl rfl rfl ?_ | refine run_call _ _ _ ((hpl).pure rfl rfl _ _) rfl rfl (dstOk_of rfl) rfl rfl rfl ?_ | refine run_call _ _ _ ((hd).pure rfl rfl _ _) rfl rfl (dstOk_of rfl) rfl rfl rfl ?_ | refine run_call _ _ _ ((hr).pure rfl rfl _ _) rfl rfl (dstOk_of rfl) rfl rfl rfl ?_); simp only [go_sem, ↓reduceIte, List.length_map, hget, hgq, hle, t0b, h0b, hrb]) | (refine AW.seq_k fun K hK => ?_) | (refine AW.block ?_) | (refine AW.skip ?_; simp only [Then, InBlock]) | (refine AW.cT ?_) | (refine AW.cF ?_) | (refine hK _ ?_; clear hK K) | (refine stepB_split (fun h => ?_) (fun h => ?_) <;> (have hb0 := h) <;> (try simp only [Bool.not_eq_true', Bool.not_eq_false'] at hb0) <;> (try simp only [decide_eq_true_eq, decide_eq_false_iff_not, Bool.not_eq_true', Bool.not_eq_false', Bool.not_eq_eq_eq_not, Bool.not_true, Bool.not_false, beq_iff_eq, bne_iff_ne, beq_eq_false_iff_ne, ne_eq, Bool.and_eq_true, Bool.or_eq_true, Bool.or_eq_false_iff] at h) <;> simp only [go_sem, ↓reduceIte, hb0, h, decide_true, decide_false, List.length_map, hget, hgq, hle, t0b, h0b, hrb] <;> (try clear hb0)) | (refine stepBT_split (fun h => ?_) (fun h => ?_) <;> (have hb0 := h) <;> (try simp only [Bool.not_eq_true', Bool.not_eq_false'] at hb0) <;> (try simp only [decide_eq_true_eq, decide_eq_false_iff_not, Bool.not_eq_true', Bool.not_eq_false', Bool.not_eq_eq_eq_not, Bool.not_true, Bool.not_false, beq_iff_eq, bne_iff_ne, beq_eq_false_iff_ne, ne_eq, Bool.and_eq_true, Bool.or_eq_true, Bool.or_eq_false_iff] at h) <;> simp only [go_sem, ↓reduceIte, hb0, h, decide_true, decide_false, List.length_map, hget, hgq, hle, t0b, h0b, hrb] <;> (try clear hb0)) | (with_reducible refine And.intro (?_ : regOk _ _ = true) ?_; kernel_rfl) | (with_reducible refine andI ?_) | (refine AW.ret (Fin.data rfl (by first | (simp only [go_sem]; done) | (simp [go_sem, *]; done) | (simp [go_sem]; omega) | rfl) rfl)))
   subst hr0
   rw [if_neg (by decide)] at g2
   repeat' (first | ((first | refine AW.sreg rfl fun K hK => ?_ | refine AW.sregD hmix rfl fun K hK => ?_ | refine AW.reg rfl ?_ | refine run_call _ _ _ ((k1).pure rfl rfl _ _) rfl rfl (dstOk_of rfl) rfl rfl rfl ?_ | refine run_call _ _ _ ((k2).pure rfl rfl _ _) rfl rfl (dstOk_of rfl) rfl rfl rfl ?_ | refine run_call _ _ _ ((hpl).pure rfl rfl _ _) rfl rfl (dstOk_of rfl) rfl rfl rfl ?_ | refine run_call _ _ _ ((hd).pure rfl rfl _ _) rfl rfl (dstOk_of rfl) rfl rfl rfl ?_ | refine run_call _ _ _ ((hr).pure rfl rfl _ _) rfl rfl (dstOk_of rfl) rfl rfl rfl ?_); simp only [go_sem, ↓reduceIte, List.length_map, hget, hgq, hle, t0b, h0b]) | (refine AW.seq_k fun K hK => ?_) | (refine AW.block ?_) | (refine AW.skip ?_; simp only [Then, InBlock]) | (refine AW.cT ?_) | (refine AW.cF ?_) | (refine hK _ ?_; clear hK K) | (refine stepB_split (fun h => ?_) (fun h => ?_) <;> (have hb0 := h) <;> (try simp only [Bool.not_eq_true', Bool.not_eq_false'] at hb0) <;> (try simp only [decide_eq_true_eq, decide_eq_false_iff_not, Bool.not_eq_true', Bool.not_eq_false', Bool.not_eq_eq_eq_not, Bool.not_true, Bool.not_false, beq_iff_eq, bne_iff_ne, beq_eq_false_iff_ne, ne_eq, Bool.and_eq_true, Bool.or_eq_true, Bool.or_eq_false_iff] at h) <;> simp only [go_sem, ↓reduceIte, hb0, h, decide_true, decide_false, List.length_map, hget, hgq, hle, t0b, h0b] <;> (try clear hb0)) | (refine stepBT_split (fun h => ?_) (fun h => ?_) <;> (have hb0 := h) <;> (try simp only [Bool.not_eq_true', Bool.not_eq_false'] at hb0) <;> (try simp only [decide_eq_true_eq, decide_eq_false_iff_not, Bool.not_eq_true', Bool.not_eq_false', Bool.not_eq_eq_eq_not, Bool.not_true, Bool.not_false, beq_iff_eq, bne_iff_ne, beq_eq_false_iff_ne, ne_eq, Bool.and_eq_true, Bool.or_eq_true, Bool.or_eq_false_iff] at h) <;> simp only [go_sem, ↓reduceIte, hb0, h, decide_true, decide_false, List.length_map, hget, hgq, hle, t0b, h0b] <;> (try clear hb0)) | (with_reducible refine And.intro (?_ : regOk _ _ = true) ?_; kernel_rfl) | (with_reducible refine andI ?_) | (exfalso; omega))
   exact ⟨i + 1, ⟨hi, g2⟩, by omega, (Weak.aC hcx (by refine ⟨?_, ?_, ?_⟩ <;> simp [go_sem, gL, kL, renOf, V.obj, Nat.blt, Nat.ble, List.map_append, dv_push]))⟩
 ·obtain rfl : i = l.length := by omega
  rw [List.drop_length, goF] at g2
  subst g2
  repeat' (first | (refine AW.sreg rfl fun K hK => ?_; simp only [go_sem, ↓reduceIte, List.length_map]) | (refine AW.seq_k fun K hK => ?_) | (refine AW.exit ?_; simp only [go_sem, ↓reduceIte]) | (refine AW.cF ?_) | (refine hK _ ?_; clear hK K) | (clear hK K; refine hK _ ?_; clear hK K) | (refine AW.ret (Fin.data rfl (by first | (simp only [go_sem]; done) | (simp [go_sem, *]; done) | (simp [go_sem]; omega) | rfl) rfl)))
end Go.AX
