/- slices.Backward over reviews. -/
import Derived.Test.YtecggjfjafnepaaGreatDoorTk
import Derived.RangeFuncNested
import Derived.RangeFuncBox
import Derived.RangeFuncLeaves
import Derived.Shelf.Abstract
import Derived.WalkKit
import Derived.OwnWalkIn
import Derived.TacticsInMore
import Derived.LoopNIn
import Derived.LoopIn
set_option linter.unusedSimpArgs false
set_option linter.unusedVariables false
set_option maxRecDepth 100000
set_option maxHeartbeats 2000000
namespace Go.AX
open Go Go.Proofs Go.RowKit Go.Shelf
attribute [local go_sem] Oper.semAt_some
/-- A review as it lies: its moment, whether it is done, the other cells. -/
structure Rw where
 no : Int
 at_ : Int
 pa : List UInt8
 pe : List UInt8
 by_ : List UInt8
 dn : Bool
 ad : Option Addr
 al : Nat
 ac : Nat
def Rw.z : Rw := ⟨0, 0, [], [], [], false, none, 0, 0⟩
abbrev rwV (t : Rw) : Value := .agg #[.int .i64 t.no, .int .i64 t.at_, .string ⟨t.pa.toArray⟩, .string ⟨t.pe.toArray⟩, .string ⟨t.by_.toArray⟩, .bool t.dn, .slice t.ad t.al t.ac]
def upR (ts : List Rw) (k : Nat) : List (Nat × Rw) := (List.range k).map fun j => (ts.length - 1 - j, ts.getD (ts.length - 1 - j) Rw.z)
theorem upR_succ (ts : List Rw) (k : Nat) : upR ts (k + 1) = upR ts k ++ [(ts.length - 1 - k, ts.getD (ts.length - 1 - k) Rw.z)] := by simp [upR, List.range_succ]
theorem upR_length (ts : List Rw) (k : Nat) : (upR ts k).length = k := by simp [upR]
/-- The cells of turns. -/
def RwAt (W : World) (b off : Nat) (ts : List Rw) : Prop := ∀ j t, ts[j]? = some t → W.cell? ⟨b, off + j * 7, none⟩ = some (.int .i64 t.no) ∧ W.cell? ⟨b, off + j * 7 + 1, none⟩ = some (.int .i64 t.at_) ∧ W.cell? ⟨b, off + j * 7 + 2, none⟩ = some (.string ⟨t.pa.toArray⟩) ∧ W.cell? ⟨b, off + j * 7 + 3, none⟩ = some (.string ⟨t.pe.toArray⟩) ∧ W.cell? ⟨b, off + j * 7 + 4, none⟩ = some (.string ⟨t.by_.toArray⟩) ∧ W.cell? ⟨b, off + j * 7 + 5, none⟩ = some (.bool t.dn) ∧ W.cell? ⟨b, off + j * 7 + 6, none⟩ = some (.slice t.ad t.al t.ac)
theorem rb_in (F : Fence) (n : Nat) (hf : F.fn 123) (hro : F.round = none) (a : Option Addr) (len cap : Nat) (w : World) :
  CallsIn F n Tryz.prog 123 #[.slice a len cap] w fun e w' => e = .returned (.func (.func 173) #[] #[.pointer (some ⟨w.heap.size, 0, none⟩)]) ∧ w' = w.alloc (.cells #[.slice a len cap] 39) := by
 refine callsIn_of_wp Tryz.func123 rfl hf ?_ hro
 simp only [Tryz.ntmps123, List.size_toArray, List.length_cons, List.length_nil, Nat.reduceAdd, Nat.reduceSub, Array.replicate_succ, Array.replicate_zero, List.push_toArray, List.append_toArray, List.nil_append, List.cons_append]
 gi_wp2
 go_ret
 exact ⟨rfl, rfl⟩
theorem rb1_in (F : Fence) (n : Nat) (h8 : F.fn 173) (hro : F.round = none) (hn : 1 ≤ n) (l Bs n₀ b off cap : Nat) (ts : List Rw) (hl : ts.length ≤ 1000000) (hb : b < n₀) (hBn : Bs < n₀) (J Jx : List (Nat × Rw) → World → Prop)
  (hY : ∀ pre x W, J pre W → pre.length < ts.length → YieldAt F (n - 1) Tryz.prog l #[.int .i64 (x.1 : Int), rwV x.2] W fun e W' =>
   (e = .returned (.bool true) ∧ J (pre ++ [x]) W' ∧ Below n₀ W W') ∨ (e = .returned (.bool false) ∧ Jx (pre ++ [x]) W'))
  (W : World) (hBs : W.cell? ⟨Bs, 0, none⟩ = some (.slice (some ⟨b, off, none⟩) ts.length cap)) (hc : RwAt W b off ts) (h0 : J [] W) :
  CallsIn F n Tryz.prog 173 #[.func (.yield l) #[] #[], .pointer (some ⟨Bs, 0, none⟩)] W fun e W' => (∃ v, e = .returned v) ∧
   ((∃ ys, ys = upR ts ts.length ∧ J ys W') ∨ (∃ pre, (∃ k, k ≤ ts.length ∧ pre = upR ts k) ∧ Jx pre W')) := by
 refine callsIn_of_wp Tryz.func173 rfl h8 ?_ hro
 simp only [Tryz.ntmps173, List.size_toArray, List.length_cons, List.length_nil, Nat.reduceAdd, Nat.reduceSub, Array.replicate_succ, Array.replicate_zero, List.push_toArray, List.append_toArray, List.nil_append, List.cons_append]
 gi_wp2
 gi_loopw [3] (fun i wr => ∃ k : Nat, k ≤ ts.length ∧ i = .int .i64 ((ts.length : Int) - 1 - k) ∧ J (upR ts k) wr ∧ Below n₀ W wr)
  (fun i _ => (intOf i + 1).toNat)
 case atStart => exact ⟨0, Nat.zero_le _, by simp, h0, Below.refl _ _⟩
 case round =>
  obtain ⟨k, hk, rfl, hJs, hnx⟩ := hrel
  have dB := (hnx.cell (p := ⟨Bs, 0, none⟩) hBn).trans hBs
  by_cases hlt : k < ts.length
  ·have hj : ts[ts.length - 1 - k]? = some (ts.getD (ts.length - 1 - k) Rw.z) := by
    rw [List.getElem?_eq_getElem (by omega)]; simp [List.getD_eq_getElem?_getD, List.getElem?_eq_getElem (show ts.length - 1 - k < ts.length by omega)]
   obtain ⟨c0, c1, c2, c3, c4, c5, c6⟩ := hc _ _ hj
   have d0 := (hnx.cell (p := ⟨b, off + (ts.length - 1 - k) * 7, none⟩) hb).trans c0
   have d1 := (hnx.cell (p := ⟨b, off + (ts.length - 1 - k) * 7 + 1, none⟩) hb).trans c1
   have d2 := (hnx.cell (p := ⟨b, off + (ts.length - 1 - k) * 7 + 2, none⟩) hb).trans c2
   have d3 := (hnx.cell (p := ⟨b, off + (ts.length - 1 - k) * 7 + 3, none⟩) hb).trans c3
   have d4 := (hnx.cell (p := ⟨b, off + (ts.length - 1 - k) * 7 + 4, none⟩) hb).trans c4
   have d5 := (hnx.cell (p := ⟨b, off + (ts.length - 1 - k) * 7 + 5, none⟩) hb).trans c5
   have d6 := (hnx.cell (p := ⟨b, off + (ts.length - 1 - k) * 7 + 6, none⟩) hb).trans c6
   obtain ⟨fn, tmps, assign, body, hy, hR⟩ := hY _ (ts.length - 1 - k, ts.getD (ts.length - 1 - k) Rw.z) wr hJs (by rw [upR_length]; exact hlt)
   dsimp only at hy
   have hki : (ts.length : Int) - 1 - k = ((ts.length - 1 - k : Nat) : Int) := by omega
   have hlk : ts.length - 1 - k < ts.length := by omega
   have hup := upR_succ ts k
   rw [hki]
   generalize hm : ts.length - 1 - k = m at *
   generalize ts.getD m Rw.z = t at *
   obtain ⟨tn, ta, tp, tq, tb, td, tx, ty, tz⟩ := t
   (try dsimp only at d0 d1 d2 d3 d4 d5 d6)
   gi_wp2
   refine hR.mono ?_
   rintro e W3 (⟨rfl, hJ3, hk3⟩ | ⟨rfl, hJx3⟩)
   ·gi_wp2
    go_roundw
    case rel => exact ⟨k + 1, by omega, by simp; omega, by rw [hup]; exact hJ3, hnx.trans hk3⟩
    case measure => (simp [intOf]; try omega)
   ·gi_wp2
    refine bodyPost_ret (results_none rfl _ _ _) rfl ?_
    exact ⟨⟨_, rfl⟩, .inr ⟨_, ⟨k + 1, by omega, hup.symm⟩, hJx3⟩⟩
  ·obtain rfl : k = ts.length := by omega
   gi_wp2
   go_end0
   exact ⟨⟨_, rfl⟩, .inl ⟨_, rfl, hJs⟩⟩
theorem rb1_nil_in (F : Fence) (n : Nat) (h8 : F.fn 173) (hro : F.round = none) (l Bs cap : Nat) (a : Option Addr) (J : List (Nat × Rw) → World → Prop) (W : World) (hBs : W.cell? ⟨Bs, 0, none⟩ = some (.slice a 0 cap)) (h0 : J [] W) :
  CallsIn F n Tryz.prog 173 #[.func (.yield l) #[] #[], .pointer (some ⟨Bs, 0, none⟩)] W fun e W' => (∃ v, e = .returned v) ∧ J [] W' := by
 refine callsIn_of_wp Tryz.func173 rfl h8 ?_ hro
 simp only [Tryz.ntmps173, List.size_toArray, List.length_cons, List.length_nil, Nat.reduceAdd, Nat.reduceSub, Array.replicate_succ, Array.replicate_zero, List.push_toArray, List.append_toArray, List.nil_append, List.cons_append]
 gi_wp2
 gi_loopw [3] (fun i wr => i = .int .i64 (-1) ∧ J [] wr) (fun _ _ => 0)
 case atStart => exact ⟨rfl, h0⟩
 case round =>
  obtain ⟨rfl, hJs⟩ := hrel
  gi_wp2
  go_end0
  exact ⟨⟨_, rfl⟩, hJs⟩
/-- The slice value holds the turns, in a block below n₀. -/
def RwSl (n₀ : Nat) (W : World) (sv : Value) (ts : List Rw) : Prop :=
 (∃ a cap, sv = .slice a 0 cap ∧ ts = []) ∨ ∃ b off cap, sv = .slice (some ⟨b, off, none⟩) ts.length cap ∧ b < n₀ ∧ RwAt W b off ts
theorem RwSl.below {n₀ : Nat} {A B : World} (h : Below n₀ A B) {sv : Value} {ts : List Rw} : RwSl n₀ A sv ts → RwSl n₀ B sv ts
 | .inl e => .inl e
 | .inr ⟨b, off, cap, e, hb, hc⟩ => .inr ⟨b, off, cap, e, hb, fun j t ht => by
  obtain ⟨c0, c1, c2, c3, c4, c5, c6⟩ := hc j t ht
  exact ⟨(h.cell (p := ⟨b, off + j * 7, none⟩) hb).trans c0, (h.cell (p := ⟨b, off + j * 7 + 1, none⟩) hb).trans c1, (h.cell (p := ⟨b, off + j * 7 + 2, none⟩) hb).trans c2, (h.cell (p := ⟨b, off + j * 7 + 3, none⟩) hb).trans c3, (h.cell (p := ⟨b, off + j * 7 + 4, none⟩) hb).trans c4, (h.cell (p := ⟨b, off + j * 7 + 5, none⟩) hb).trans c5, (h.cell (p := ⟨b, off + j * 7 + 6, none⟩) hb).trans c6⟩⟩
theorem RwSl.mono {n m : Nat} (h : n ≤ m) {W : World} {sv : Value} {ts : List Rw} : RwSl n W sv ts → RwSl m W sv ts
 | .inl e => .inl e
 | .inr ⟨b, off, cap, e, hb, hc⟩ => .inr ⟨b, off, cap, e, Nat.lt_of_lt_of_le hb h, hc⟩
theorem rb_stops (F : Fence) (n : Nat) (h8 : F.fn 173) (hro : F.round = none) (hn : 1 ≤ n) (Bs n₀ : Nat) (sv : Value) (ts : List Rw) (hl : ts.length ≤ 1000000) (w : World) (hBs : Bs < w.heap.size) (hn₀ : n₀ ≤ w.heap.size) (hBn : Bs < n₀)
  (hc : w.cell? ⟨Bs, 0, none⟩ = some sv) (hI : RwSl n₀ w sv ts) :
  SeqStopsK F n Tryz.prog 173 #[.pointer (some ⟨Bs, 0, none⟩)] (fun x : Nat × Rw => #[Value.int .i64 (x.1 : Int), rwV x.2]) (Below n₀) (fun ys => ys = upR ts ts.length)
   (fun pre => ∃ k, k ≤ ts.length ∧ pre = upR ts k) ts.length w := fun l J Jx W hW _ _ hY h0 => by
 have hc' := (hW.cell (p := ⟨Bs, 0, none⟩) hBs).trans hc
 rcases hI.below (hW.mono hn₀) with ⟨a, cap, rfl, rfl⟩ | ⟨b, off, cap, rfl, hb, hcs⟩
 ·exact (rb1_nil_in F n h8 hro l Bs cap a J W hc' h0).mono fun e W' ⟨he, hj⟩ => ⟨he, .inl ⟨_, rfl, hj⟩⟩
 ·exact rb1_in F n h8 hro hn l Bs n₀ b off cap ts hl hb hBn J Jx hY W hc' hcs h0
end Go.AX
