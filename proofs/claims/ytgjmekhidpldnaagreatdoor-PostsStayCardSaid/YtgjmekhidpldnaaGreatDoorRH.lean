/- Splitting strings at a byte: plain laws. -/
import Derived.Lib.Bytealg
import Derived.Test.YtgjmekhidpldnaaGreatDoorRB
import Derived.Lib.SplitLaws
import Derived.Lib.IndexBytes
import Derived.Lib.AppendIntMem
import Derived.Test.YtgjmekhidpldnaaGreatDoorRF
set_option linter.unusedSimpArgs false
set_option linter.unusedVariables false
set_option linter.unnecessarySimpa false
set_option maxRecDepth 1000000
set_option maxHeartbeats 4000000
namespace Go.AX
open Go
def splitB (c : UInt8) : List UInt8 → List (List UInt8)
  | [] => [[]]
  | x :: r => if x = c then [] :: splitB c r else match splitB c r with
    | [] => [[x]]
    | w :: ws => (x :: w) :: ws
theorem splitB_ne (c : UInt8) : ∀ s, splitB c s ≠ []
  | [] => by simp [splitB]
  | x :: r => by
    simp only [splitB]
    split
    · simp
    · split <;> simp
theorem splitB_none (c : UInt8) : ∀ s : List UInt8, c ∉ s → splitB c s = [s]
  | [], _ => rfl
  | x :: r, h => by
    have h1 : x ≠ c := fun e => h (by simp [e])
    have h2 : c ∉ r := fun e => h (by simp [e])
    simp only [splitB, if_neg h1, splitB_none c r h2]
theorem splitB_app (c : UInt8) : ∀ (a b : List UInt8), c ∉ a → splitB c (a ++ c :: b) = a :: splitB c b
  | [], b, _ => by simp [splitB]
  | x :: a, b, h => by
    have h1 : x ≠ c := fun e => h (by simp [e])
    have h2 : c ∉ a := fun e => h (by simp [e])
    simp only [List.cons_append, splitB, if_neg h1, splitB_app c a b h2]
theorem splitB_length (c : UInt8) : ∀ s : List UInt8, (splitB c s).length = s.count c + 1
  | [] => rfl
  | x :: r => by
    have ih := splitB_length c r
    simp only [splitB]
    by_cases h : x = c
    · subst h; simp [ih]
    · rw [if_neg h, List.count_cons_of_ne (by simpa using h)]
      split
      · rename_i e; exact absurd e (splitB_ne c r)
      · rename_i w ws e; rw [e] at ih; simpa using ih
theorem indexByte_split (c : UInt8) : ∀ s : List UInt8, 0 < s.count c → ∃ m : Nat, Lib.indexByte s c = m ∧ m < s.length ∧ c ∉ s.take m ∧ s = s.take m ++ c :: s.drop (m + 1)
  | [], h => by simp at h
  | x :: r, h => by
    by_cases hx : x = c
    · subst hx
      exact ⟨0, by simp [Lib.indexByte], by simp, by simp, by simp⟩
    · rw [List.count_cons_of_ne (by simpa using hx)] at h
      obtain ⟨m, h1, h2, h3, h4⟩ := indexByte_split c r h
      refine ⟨m + 1, ?_, by simp; omega, ?_, ?_⟩
      · simp only [Lib.indexByte]
        rw [if_neg (by simpa using hx), h1, if_neg (by simp)]
        omega
      · simp only [List.take_succ_cons, List.mem_cons, not_or]
        exact ⟨fun e => hx e.symm, h3⟩
      · simp only [List.take_succ_cons, List.drop_succ_cons, List.cons_append]
        exact congrArg (x :: ·) h4
theorem splitB_index (c : UInt8) (s : List UInt8) (h : 0 < s.count c) : ∃ m : Nat, Lib.indexByte s c = m ∧ m < s.length ∧ splitB c s = s.take m :: splitB c (s.drop (m + 1)) ∧ s.count c = (s.drop (m + 1)).count c + 1 := by
  obtain ⟨m, h1, h2, h3, h4⟩ := indexByte_split c s h
  have e1 : splitB c s = s.take m :: splitB c (s.drop (m + 1)) := by
    conv => lhs; rw [h4]
    exact splitB_app c _ _ h3
  refine ⟨m, h1, h2, e1, ?_⟩
  have l1 := splitB_length c s
  have l2 := splitB_length c (s.drop (m + 1))
  rw [e1, List.length_cons, l2] at l1
  omega
/-- Lines, each ended by a byte. -/
theorem splitB_lines (c : UInt8) : ∀ ls : List (List UInt8), (∀ l ∈ ls, c ∉ l) → splitB c (ls.flatMap (· ++ [c])) = ls ++ [[]]
  | [], _ => rfl
  | l :: ls, h => by
    rw [List.flatMap_cons, List.append_assoc, List.singleton_append, splitB_app c l _ (h l (by simp)), splitB_lines c ls fun x hx => h x (by simp [hx])]
    rfl
theorem splitB_two (c : UInt8) (a b : List UInt8) (ha : c ∉ a) (hb : c ∉ b) : splitB c (a ++ c :: b) = [a, b] := by rw [splitB_app c a b ha, splitB_none c b hb]
end Go.AX

namespace Go.AX
open Go Go.Proofs Go.RowKit
theorem RDels_strs {w : World} {ok : Nat → Prop} : ∀ (bs : List ByteArray) (pre : List Value), RDels w ok (pre ++ bs.map Value.string).toArray 1 pre.length (bs.map fun b => D.str b.data.toList)
  | [], pre => by simp [RDels]
  | b :: r, pre => by
    have := RDels_strs (w := w) (ok := ok) r (pre ++ [.string b])
    simp only [List.length_append, List.length_cons, List.length_nil, List.append_assoc, List.singleton_append, List.cons_append, List.nil_append] at this
    simp only [List.map_cons, RDels]
    exact ⟨⟨.string b, ⟨rfl, by simp⟩, rfl⟩, this⟩
theorem alloc_lt (w : World) (o : Obj) : w.heap.size < (w.alloc o).heap.size := by
  show w.heap.size < (w.heap.push o).size
  rw [Array.size_push]; exact Nat.lt_succ_self _
theorem alloc_get (w : World) (o : Obj) : (w.alloc o).heap[w.heap.size]? = some o := by
  show (w.heap.push o)[w.heap.size]? = some o
  exact Array.getElem?_push_size
theorem split_does (s : Str) (c : UInt8) (h : s.length ≤ 1000000) : Does Tryz.prog 58 [S s, S [c]] [] (.d (.sl ((Lib.split s [c]).map D.str))) [] := by
  refine Does.of_below ⟨Tryz.f58, Tryz.func58, rfl, by kernel_rfl⟩ fun w ok vs hg hok hargs => ?_
  simp only [RVl, RV, RD] at hargs
  obtain ⟨v1, r1, e1, rfl, v2, r2, e2, rfl, rfl⟩ := hargs
  subst e2
  obtain rfl : vs = #[.string ⟨s.toArray⟩, .string ⟨#[c]⟩] := by cases vs; simp_all
  obtain ⟨m, hm⟩ := hg.max (g := 2) (by kernel_rfl)
  refine (Any.strings_Split Tryz.l146 (by kernel_rfl) ⟨s.toArray⟩ ⟨#[c]⟩ m w (by simp [ByteArray.size]; omega) hm (by simp [ByteArray.size])).mono fun e w' ⟨h1, h2⟩ => ?_
  have hd := Lib.splitB_data ⟨#[c]⟩ 0 (Lib.countB ⟨s.toArray⟩ ⟨#[c]⟩) ⟨s.toArray⟩
  have hlen := Lib.splitB_all ⟨#[c]⟩ (by simp [ByteArray.size]) 0 _ ⟨s.toArray⟩ rfl
  subst h2
  refine ⟨_, h1, ?_, ?_⟩
  · exact (Below.refl _ _).alloc (Nat.le_refl _) _
  · have hq : (Lib.split s [c]).map D.str = (Lib.splitB ⟨#[c]⟩ 0 (Lib.countB ⟨s.toArray⟩ ⟨#[c]⟩) ⟨s.toArray⟩).map (fun b => D.str b.data.toList) := by
      have e3 : Lib.countB ⟨s.toArray⟩ ⟨#[c]⟩ = Lib.count s [c] := rfl
      rw [Lib.split, ← e3]
      have := congrArg (List.map D.str) hd
      rw [List.map_map] at this
      exact this.symm
    rw [hq]
    simp only [RV, RD]
    refine ⟨_, _, _, rfl, ?_, Nat.le_refl _, .inr ⟨w.heap.size, 0, _, _, _, 1, rfl, .inr ⟨Nat.le_refl _, alloc_lt _ _⟩, alloc_get _ _, ?_⟩⟩
    · rw [List.length_map, hlen]
    · exact RDels_strs _ []
theorem splitK_one (c : UInt8) : ∀ (k : Nat) (s : List UInt8), s.count c = k → Lib.splitK [c] 0 k s = splitB c s
  | 0, s, h => by
    have hc : c ∉ s := by rw [← List.count_eq_zero]; exact h
    rw [splitB_none c s hc]; rfl
  | k + 1, s, h => by
    obtain ⟨m, h1, h2, h3, h4⟩ := splitB_index c s (by omega)
    have hi : Lib.index s [c] = m := by rw [Lib.index_one, h1]
    have hm : ¬ (Lib.index s [c] == -1) = true := fun e => by have := beq_iff_eq.1 e; omega
    unfold Lib.splitK
    rw [if_neg hm, hi, h3]
    simp only [Int.toNat_natCast, Nat.add_zero, List.length_cons, List.length_nil, Nat.zero_add]
    rw [splitK_one c k (s.drop (m + 1)) (by omega)]
theorem split_one (s : List UInt8) (c : UInt8) : Lib.split s [c] = splitB c s := by
  rw [Lib.split, Lib.count_one]
  exact splitK_one c _ s rfl
theorem split_any (s : Str) (c : UInt8) (h : s.length ≤ 1000000) : Does Tryz.prog 58 [S s, S [c]] [] (.d (.sl ((splitB c s).map D.str))) [] := split_one s c ▸ split_does s c h
/-- A text of which every line is ended. -/
theorem lines_any (s : Str) (h : s.length ≤ 1000000) (ls : List Str) (hs : splitB 10 s = ls ++ [[]]) (hl : ls.length ≤ 1000000) : Does Tryz.prog 29 [S s] [] (.tup [.d (.sl (ls.map D.str)), B true]) [] := by
  have hsp := split_any s 10 h
  rw [hs, List.map_append] at hsp
  have hget : (ls.map D.str ++ [D.str []])[ls.length]? = some (D.str []) := by
    rw [List.getElem?_append_right (by simp)]; simp
  refine Does.of_AW (n := 19) Tryz.func29 rfl rfl rfl fun cx hcx => ?_
  have hn : ((ls.length + 1 : Nat) : Int) - 1 = (ls.length : Int) := by omega
  have htk : (ls.map D.str ++ [D.str []]).take ls.length = ls.map D.str := List.take_left' (by simp)
  have hall : (ls.map D.str ++ [D.str []]).all (elemOkD 1) = true := by simp [elemOkD, D.cells, D.single]
  repeat' (first | ((first | refine AW.sreg rfl fun K hK => ?_ | refine run_call _ _ _ ((hsp).pure rfl rfl _ _) rfl rfl (dstOk_of rfl) rfl rfl rfl ?_); simp only [go_sem, Nat.reduceAdd, Nat.reduceMul, Int.reduceToNat, Nat.reduceLT, Nat.reduceLeDiff, Nat.le_refl, Nat.reduceEqDiff, ↓reduceIte, beq_self_eq_true, bne_self_eq_false, Int.reduceBEq, Int.reduceBNe, or_self, true_or, or_true, Option.map_some, Option.map_none, List.length_map, List.length_append, hn, Int.toNat_natCast, hget, htk, hall, Nat.sub_zero, and_true]) | (refine AW.seq_k fun K hK => ?_) | (refine AW.condT rfl (by first | rfl | (simp; omega) | (simp [*]; done) | fail) ?_) | (refine hK _ ?_; clear hK K) | (with_reducible refine And.intro ?_ ?_; first | omega | assumption | (focus (decide)) | (focus (simp; done)) | (focus (simp; omega)) | (focus (constructor <;> omega)) | fail))
  all_goals first | exact AW.ret (Fin.data rfl (by simp [go_sem]) rfl) | trace_state
def itT : List Str := [[48], [49], [50], [51], [52], [53], [54], [55], [56], [57], [49, 48], [49, 49], [49, 50], [49, 51], [49, 52], [49, 53], [49, 54], [49, 55], [49, 56], [49, 57], [50, 48], [50, 49], [50, 50], [50, 51], [50, 52], [50, 53], [50, 54], [50, 55], [50, 56], [50, 57], [51, 48], [51, 49], [51, 50], [51, 51], [51, 52], [51, 53], [51, 54], [51, 55], [51, 56], [51, 57], [52, 48], [52, 49], [52, 50], [52, 51], [52, 52], [52, 53], [52, 54], [52, 55], [52, 56], [52, 57], [53, 48], [53, 49], [53, 50], [53, 51], [53, 52], [53, 53], [53, 54], [53, 55], [53, 56], [53, 57], [54, 48], [54, 49], [54, 50], [54, 51], [54, 52], [54, 53], [54, 54], [54, 55], [54, 56], [54, 57], [55, 48], [55, 49], [55, 50], [55, 51], [55, 52], [55, 53], [55, 54], [55, 55], [55, 56], [55, 57], [56, 48], [56, 49], [56, 50], [56, 51], [56, 52], [56, 53], [56, 54], [56, 55], [56, 56], [56, 57], [57, 48], [57, 49], [57, 50], [57, 51], [57, 52], [57, 53], [57, 54], [57, 55], [57, 56], [57, 57], [49, 48, 48], [49, 48, 49]]
def itS (n : Int) : Str := itT.getD n.toNat []
theorem itT_itoa : (List.range 102).all (fun n => Lib.itoa (n : Int) == itT.getD n []) = true := by kernel_rfl
theorem itS_eq (n : Int) (h0 : 0 ≤ n) (h1 : n ≤ 101) : Lib.itoa n = itS n := by
  obtain ⟨k, rfl⟩ := Int.eq_ofNat_of_zero_le h0
  have := List.all_eq_true.1 itT_itoa k (List.mem_range.2 (by omega))
  unfold itS
  rw [Int.toNat_natCast]
  simpa using this
theorem itoa_any (n : Int) (h0 : 0 ≤ n) (h1 : n ≤ 101) : Does Tryz.prog 32 [I n] [] (S (itS n)) [] := by
  rw [← itS_eq n h0 h1]
  refine Does.of_int1 (y := .string ⟨(Lib.itoa n).toArray⟩) ⟨Tryz.f32, Tryz.func32, rfl, by kernel_rfl⟩ (fun w ok => by simp [RV, RD]) fun w hg => ?_
  have ht := hg.tab (g := 3) (by kernel_rfl) (by kernel_rfl)
  rw [show pow10Z = Lib.pow10Tab by kernel_rfl] at ht
  refine (Any.strconv_Itoa Tryz.l171 n (by omega) (by omega) w ht).mono fun e w' ⟨h1, k, os, h2⟩ => ⟨h1, ?_⟩
  rw [h2]
  exact Lib.below_grow _ _ (Nat.le_refl _) _ _
theorem small_all : ((List.range 102).all fun n => evalsTo Tryz.prog (CS Tryz.prog) 114 [S (itT.getD n [])] (.tup [I n, B true])) = true := by kernel_rfl
theorem small_any (n : Int) (h0 : 0 ≤ n) (h1 : n ≤ 101) : Does Tryz.prog 114 [S (itS n)] [] (.tup [I n, B true]) [] := by
  obtain ⟨k, rfl⟩ := Int.eq_ofNat_of_zero_le h0
  have := evalsTo_ok CS_ok hmix (List.all_eq_true.1 small_all k (List.mem_range.2 (by omega)))
  unfold itS
  rwa [Int.toNat_natCast]
theorem itT_plain : itT.all (fun s => !(s == []) && (!(s.contains 32) && (!(s.contains 10) && decide (s.length ≤ 3)))) = true := by decide
theorem itS_plain (n : Int) (h0 : 0 ≤ n) (h1 : n ≤ 101) : itS n ≠ [] ∧ (32 : UInt8) ∉ itS n ∧ (10 : UInt8) ∉ itS n ∧ (itS n).length ≤ 3 := by
  have hl : itT.length = 102 := rfl
  have hm : itS n ∈ itT := by
    unfold itS
    rw [List.getD_eq_getElem?_getD, List.getElem?_eq_getElem (by omega)]
    exact List.getElem_mem _
  have := List.all_eq_true.1 itT_plain _ hm
  simpa using this
theorem numbers4 (a b c d : Int) (ha : 0 ≤ a ∧ a ≤ 101) (hb : 0 ≤ b ∧ b ≤ 101) (hc : 0 ≤ c ∧ c ≤ 101) (hd : 0 ≤ d ∧ d ≤ 101) :
    Does Tryz.prog 78 [.d (.sl [.str (itS a), .str (itS b), .str (itS c), .str (itS d)])] [] (.tup [.d (.sl [.int .i64 a, .int .i64 b, .int .i64 c, .int .i64 d]), B true]) [] := by
  have c1 := small_any a ha.1 ha.2
  have c2 := small_any b hb.1 hb.2
  have c3 := small_any c hc.1 hc.2
  have c4 := small_any d hd.1 hd.2
  generalize itS a = sa at *
  generalize itS b = sb at *
  generalize itS c = sc at *
  generalize itS d = sd at *
  refine Does.of_AW (n := 28) Tryz.func78 rfl rfl rfl fun cx hcx => ?_
  repeat' (first | ((first | refine AW.sreg rfl fun K hK => ?_ | refine AW.reg rfl ?_ | refine run_call _ _ _ ((c1).pure rfl rfl _ _) rfl rfl (dstOk_of rfl) rfl rfl rfl ?_ | refine run_call _ _ _ ((c2).pure rfl rfl _ _) rfl rfl (dstOk_of rfl) rfl rfl rfl ?_ | refine run_call _ _ _ ((c3).pure rfl rfl _ _) rfl rfl (dstOk_of rfl) rfl rfl rfl ?_ | refine run_call _ _ _ ((c4).pure rfl rfl _ _) rfl rfl (dstOk_of rfl) rfl rfl rfl ?_); simp only [go_sem, Nat.reduceAdd, Nat.reduceMul, Int.reduceToNat, Nat.reduceLT, Nat.reduceLeDiff, Nat.le_refl, Nat.reduceEqDiff, ↓reduceIte, beq_self_eq_true, bne_self_eq_false, Int.reduceBEq, Int.reduceBNe, or_self, true_or, or_true, Option.map_some, Option.map_none, Int.zero_add, Int.reduceAdd]) | (refine AW.seq_k fun K hK => ?_) | (refine AW.block ?_) | (refine AW.skip ?_; simp only [Then, InBlock]) | (refine AW.exit ?_; simp only [go_sem, ↓reduceIte]) | (refine AW.condT rfl (by first | rfl | (simp; omega) | (simp [*]; done) | fail) ?_) | (refine AW.condF rfl (by first | rfl | (simp; omega) | (simp [*]; done) | fail) ?_) | (refine hK _ ?_; clear hK K) | (clear hK K; refine hK _ ?_; clear hK K) | (refine AW.unroll 5 ?_; simp only [AWr]) | (with_reducible refine And.intro ?_ ?_; first | omega | assumption | (focus (decide)) | (focus (simp; done)) | (focus (simp; omega)) | (focus (constructor <;> omega)) | fail))
  exact AW.ret (Fin.data rfl (by simp [go_sem]) rfl)
theorem ext156 : Builder.Extra Tryz.prog Tryz.l156_ren where
  sizeBuilder := by kernel_rfl
  liesBuilder := by kernel_rfl
  t5 := Tryz.underlying5
  a5 := Tryz.isAgg5
  z5 := Tryz.sizeOf5
  v5 := Tryz.zeroValue5
  infoByte := by kernel_rfl
  cellsByte := by kernel_rfl
  sizeByte := by kernel_rfl
  neB5 := by decide
theorem join_any (ws : List Str) (h0 : 0 < ws.length) (hl : ws.length ≤ 1000) (hj : (Lib.join ws [32]).length ≤ 1000000) :
    Does Tryz.prog 31 [.d (.sl (ws.map .str)), S [32]] [] (S (Lib.join ws [32])) [] := by
  refine Does.of_below ⟨Tryz.f31, Tryz.func31, rfl, by kernel_rfl⟩ fun w ok vs hg hok hargs => ?_
  simp only [RVl, RV] at hargs
  obtain ⟨v1, r1, e1, h1, v2, r2, e2, h2, rfl⟩ := hargs
  subst e2
  simp only [RD] at h1 h2
  subst h2
  obtain ⟨a, n, cap, rfl, hn, hcap, hx⟩ := h1
  simp only [List.length_map] at hn
  subst hn
  rcases hx with hx | ⟨b, off, c, e, fr, s, rfl, hb, hh, hr⟩
  · have : ws = [] := by simpa using hx
    subst this
    exact absurd h0 (by simp)
  · obtain rfl : vs = #[.slice (some ⟨b, off, none⟩) ws.length cap, .string ⟨#[32]⟩] := by cases vs; simp_all
    have e1 : (ws.map fun s => ByteArray.mk s.toArray).map (·.data.toList) = ws := by
      rw [List.map_map]
      conv => rhs; rw [← List.map_id ws]
      exact List.map_congr_left fun _ _ => by simp
    have hc : ∀ (j : Nat) x, (ws.map fun s => ByteArray.mk s.toArray)[j]? = some x → w.cell? ⟨b, off + j, none⟩ = some (.string x) := by
      intro j x hx
      rw [List.getElem?_map] at hx
      obtain ⟨s0, hs, rfl⟩ := Option.map_eq_some_iff.1 hx
      obtain ⟨v, hv, hrd⟩ := RDels_get hr (i := j) (x := .str s0) (by rw [List.getElem?_map, hs]; rfl)
      simp only [RD] at hrd
      subst hrd
      simp only [ElemAt] at hv
      obtain ⟨rfl, hv⟩ := hv
      rw [Nat.mul_one] at hv
      simp only [World.cell?, hh]
      exact hv
    have := Any.strings_Join Tryz.l156 ext156 b off cap (ws.map fun s => ByteArray.mk s.toArray) ⟨#[32]⟩ w hc (hok b hb) (by simp; omega) (by simpa using hcap) (by rw [e1]; exact Nat.le_trans hj (by omega))
    rw [e1, List.length_map] at this
    refine this.mono fun e w' ⟨h1, h2⟩ => ⟨_, h1, h2, ?_⟩
    simp only [RV, RD]
theorem cutPrefix_any (s : Str) (hl : s.length ≤ 1000000) : Does Tryz.prog 40 [S (124 :: s), S [124]] [] (.tup [S s, B true]) [] := by
  have h1 : Does Tryz.prog 90 [S (124 :: s), S [124]] [] (B true) [] := by
    have e1 : List.take 1 (124 :: s) = [124] := rfl
    refine Does.of_AW (n := 18) Tryz.func90 rfl rfl rfl fun cx hcx => ?_
    repeat' (first | (refine AW.sreg rfl fun K hK => ?_; simp only [go_sem, Nat.reduceAdd, Nat.reduceMul, Int.reduceToNat, Nat.reduceLT, Nat.reduceLeDiff, Nat.le_refl, Nat.reduceEqDiff, ↓reduceIte, beq_self_eq_true, bne_self_eq_false, Int.reduceBEq, Int.reduceBNe, or_self, true_or, or_true, Option.map_some, Option.map_none, List.length_cons, List.length_nil, e1]) | (refine hK _ ?_; clear hK K) | (refine stepB_split (fun h => ?_) (fun h => ?_) <;> (have hb0 := h) <;> (try simp only [Bool.not_eq_true', Bool.not_eq_false'] at hb0) <;> (try simp only [decide_eq_true_eq, decide_eq_false_iff_not, Bool.not_eq_true', Bool.not_eq_false', Bool.not_eq_eq_eq_not, Bool.not_true, Bool.not_false, beq_iff_eq, bne_iff_ne, beq_eq_false_iff_ne, ne_eq, Bool.and_eq_true, Bool.or_eq_true, Bool.or_eq_false_iff] at h) <;> simp only [go_sem, Nat.reduceAdd, Nat.reduceMul, Int.reduceToNat, Nat.reduceLT, Nat.reduceLeDiff, Nat.le_refl, Nat.reduceEqDiff, ↓reduceIte, beq_self_eq_true, bne_self_eq_false, Int.reduceBEq, Int.reduceBNe, or_self, true_or, or_true, Option.map_some, Option.map_none, hb0, h, decide_true, decide_false, List.length_cons, List.length_nil, e1] <;> (try clear hb0)) | (with_reducible refine And.intro ?_ ?_; first | omega | assumption | (focus (decide)) | (focus (simp; done)) | (focus (simp; omega)) | (focus (constructor <;> omega)) | fail) | (exfalso; omega))
    all_goals exact AW.ret (Fin.data rfl (by simp [go_sem]) rfl)
  have h2 : Does Tryz.prog 76 [S (124 :: s), S [124]] [] (.tup [S s, B true]) [] := by
    have e1 : List.drop 1 (124 :: s) = s := rfl
    refine Does.of_AW (n := 15) Tryz.func76 rfl rfl rfl fun cx hcx => ?_
    repeat' (first | ((first | refine AW.sreg rfl fun K hK => ?_ | refine run_call _ _ _ ((h1).pure rfl rfl _ _) rfl rfl (dstOk_of rfl) rfl rfl rfl ?_); simp only [go_sem, Nat.reduceAdd, Nat.reduceMul, Int.reduceToNat, Nat.reduceLT, Nat.reduceLeDiff, Nat.le_refl, Nat.reduceEqDiff, ↓reduceIte, beq_self_eq_true, bne_self_eq_false, Int.reduceBEq, Int.reduceBNe, or_self, true_or, or_true, Option.map_some, Option.map_none, List.length_cons, List.length_nil, e1]) | (refine AW.seq_k fun K hK => ?_) | (refine AW.skip ?_; simp only [Then, InBlock]) | (refine AW.condF rfl (by first | rfl | (simp; omega) | (simp [*]; done) | fail) ?_) | (refine hK _ ?_; clear hK K) | (with_reducible refine And.intro ?_ ?_; first | omega | assumption | (focus (decide)) | (focus (simp; done)) | (focus (simp; omega)) | (focus (constructor <;> omega)) | fail))
    all_goals exact AW.ret (Fin.data rfl (by simp [go_sem]) rfl)
  refine Does.of_AW (n := 11) Tryz.func40 rfl rfl rfl fun cx hcx => ?_
  repeat' (first | ((first | refine AW.sreg rfl fun K hK => ?_ | refine run_call _ _ _ ((h2).pure rfl rfl _ _) rfl rfl (dstOk_of rfl) rfl rfl rfl ?_); simp only [go_sem, Nat.reduceAdd, Nat.reduceMul, Int.reduceToNat, Nat.reduceLT, Nat.reduceLeDiff, Nat.le_refl, Nat.reduceEqDiff, ↓reduceIte, beq_self_eq_true, bne_self_eq_false, Int.reduceBEq, Int.reduceBNe, or_self, true_or, or_true, Option.map_some, Option.map_none]) | (refine hK _ ?_; clear hK K))
  all_goals exact AW.ret (Fin.data rfl (by simp [go_sem]) rfl)
end Go.AX

namespace Go.AX
open Go Go.Proofs
theorem keyR_mem : ∀ (s : Str) (i : Nat), keyR i s = true → ∀ c ∈ s, c ≠ 32 ∧ c ≠ 10
  | [], _, _, c, h => by simp at h
  | x :: r, i, h, c, hc => by
    simp only [keyR] at h
    split at h
    · rename_i hx
      rcases List.mem_cons.1 hc with rfl | hc
      · constructor
        · rintro rfl; simp [okC] at hx
        · rintro rfl; simp [okC] at hx
      · exact keyR_mem r (i + 1) h c hc
    · cases h
theorem keyB_plain {s : Str} (h : keyB s = true) : s ≠ [] ∧ (32 : UInt8) ∉ s ∧ (10 : UInt8) ∉ s := by
  simp only [keyB, Bool.and_eq_true, Bool.not_eq_true', beq_eq_false_iff_ne] at h
  exact ⟨h.2.1, fun hc => (keyR_mem s 0 h.1 _ hc).1 rfl, fun hc => (keyR_mem s 0 h.1 _ hc).2 rfl⟩
theorem words_any (s : Str) (h : s.length ≤ 1000000) (ws : List Str) (hs : splitB 32 s = ws) (hne : ∀ x ∈ ws, x ≠ []) (hl : ws.length ≤ 1000) : Does Tryz.prog 77 [S s] [] (.tup [.d (.sl (ws.map .str)), B true]) [] := by
  have hsp := split_any s 32 h
  rw [hs] at hsp
  have hc := contains_St ws hl []
  rw [show (ws.any fun x => [] == x) = false by
    rw [Bool.eq_false_iff]
    intro h
    obtain ⟨x, hx, he⟩ := List.any_eq_true.1 h
    exact hne x hx (by simpa using he : [] = x).symm] at hc
  refine Does.of_AW (n := 11) Tryz.func77 rfl rfl rfl fun cx hcx => ?_
  repeat' (first | ((first | refine AW.sreg rfl fun K hK => ?_ | refine run_call _ _ _ ((hsp).pure rfl rfl _ _) rfl rfl (dstOk_of rfl) rfl rfl rfl ?_ | refine run_call _ _ _ ((hc).pure rfl rfl _ _) rfl rfl (dstOk_of rfl) rfl rfl rfl ?_); simp only [go_sem, Nat.reduceAdd, Nat.reduceMul, Int.reduceToNat, Nat.reduceLT, Nat.reduceLeDiff, Nat.le_refl, Nat.reduceEqDiff, ↓reduceIte, beq_self_eq_true, bne_self_eq_false, Int.reduceBEq, Int.reduceBNe, or_self, true_or, or_true, Option.map_some, Option.map_none]) | (refine hK _ ?_; clear hK K))
  exact AW.ret (Fin.data rfl (by simp [go_sem]) rfl)
def joinW (ls : List Str) : Str := ls.flatMap (· ++ [10])
/-- Words of one or two lines. -/
def WoK (w : Str) (ls : List Str) : Prop := w = joinW ls ∧ (∀ x ∈ ls, (10 : UInt8) ∉ x) ∧ 1 ≤ ls.length ∧ ls.length ≤ 2 ∧ w.length ≤ 4000
theorem WoK.split {w : Str} {ls : List Str} (h : WoK w ls) : splitB 10 w = ls ++ [[]] := by
  rw [h.1]
  exact splitB_lines 10 ls h.2.1
def lnW (w : Str) : List Str := (splitB 10 w).dropLast
theorem WoK.eqn {w : Str} {ls : List Str} (h : WoK w ls) : lnW w = ls := by
  unfold Go.AX.lnW
  rw [h.split]
  simp
theorem repW_plain : ∀ n, (10 : UInt8) ∉ Lib.repeatL [119] n
  | 0 => by simp [Lib.repeatL]
  | n + 1 => by
    have := repW_plain n
    simp only [Lib.repeatL]
    simp [this]
/-- A post that is right behind n others. -/
structure GPo (n : Nat) (p : Po) : Prop where
  no : p.1 = (n : Int) + 1
  at_ : 0 ≤ p.2.1 ∧ p.2.1 ≤ 101
  pa : keyB p.2.2.1 = true ∧ p.2.2.1.length ≤ 4
  pe : keyB p.2.2.2.1 = true ∧ p.2.2.2.1.length ≤ 4
  tt : 0 ≤ p.2.2.2.2.1 ∧ p.2.2.2.2.1 ≤ n
  wo : WoK p.2.2.2.2.2 (lnW p.2.2.2.2.2)
theorem wo_ok (p : Po) (h : FinPo p) (h1 : p.2.2.2.2.2 ≠ []) (h2 : textB p.2.2.2.2.2 = true) (h3 : p.2.2.2.2.2.length ≤ 4000) : WoK p.2.2.2.2.2 (lnW p.2.2.2.2.2) := by
  suffices h' : ∃ ls, WoK p.2.2.2.2.2 ls by
    obtain ⟨ls, h'⟩ := h'
    rw [h'.eqn]
    exact h'
  rcases h.wo with e | e | e | e | e
  · simp only [List.mem_cons, List.not_mem_nil, or_false] at e
    rcases e with e | e | e
    · exact ⟨[[97]], by rw [e]; rfl, by decide, by decide, by decide, h3⟩
    · exact ⟨[[111, 110, 101], [116, 119, 111]], by rw [e]; rfl, by decide, by decide, by decide, h3⟩
    · exact ⟨[[]], by rw [e]; rfl, by decide, by decide, by decide, h3⟩
  · exact absurd e h1
  · rw [e] at h2
    have : textB [120] = false := by kernel_rfl
    rw [this] at h2
    cases h2
  · refine ⟨[Lib.repeatL [119] 3999], ?_, ?_, by simp, by simp, h3⟩
    · rw [e]
      simp [woL, joinW]
    · intro x hx
      obtain rfl := List.mem_singleton.1 hx
      exact repW_plain _
  · have := woL_len 4000 (by omega)
    rw [e] at h3
    omega
theorem pF_zero {b : Bd} {bs : List Po} {p : Po} (hf : FinPo p) (h : pF (mayP b) textB bs p = 0) : GPo bs.length p := by
  obtain ⟨no, at_, pa, pe, tt, wo⟩ := p
  simp only [pF] at h
  split at h
  · cases h
  rename_i c1
  split at h
  · cases h
  simp only [pT] at h
  split at h
  · cases h
  rename_i c2
  split at h
  · cases h
  split at h
  · cases h
  rename_i c3
  split at h
  · cases h
  rename_i c4
  split at h
  · cases h
  rename_i c5
  simp only [not_or, Decidable.not_not, Bool.not_eq_false] at c1
  simp only [Bool.or_eq_true, Bool.not_eq_true', not_or, Bool.not_eq_false] at c2
  have c4' : wo ≠ [] ∧ textB wo = true := by
    simp only [Bool.or_eq_true, Bool.not_eq_true', not_or, Bool.not_eq_false, beq_iff_eq] at c4
    exact c4
  refine ⟨c1.1, ⟨?_, hf.at_.2 c1.2⟩, ⟨c2.1, lenPaS _ hf.pa⟩, ⟨c2.2, lenPeS _ hf.pe⟩, ?_, wo_ok _ hf c4'.1 c4'.2 (by simp only; omega)⟩
  · have := c1.2
    simp only [momB, Bool.and_eq_true, decide_eq_true_eq] at this
    exact this.1
  · simp only [pA] at c3
    simp only
    by_cases h0 : tt = 0
    · subst h0
      omega
    · have h0b : (tt == 0) = false := by simpa using h0
      rw [h0b] at c3
      simp only [Bool.not_false, Bool.true_and, Bool.or_eq_true, not_or, decide_eq_true_eq] at c3
      omega
theorem cpF_zero {b : Bd} {ps : List Po} (hf : ∀ p ∈ ps, FinPo p) (h : cpF b ps = 0) : ∀ i p, ps[i]? = some p → GPo i p := by
  intro i p hp
  unfold cpF at h
  split at h
  · rename_i h1; exact absurd h h1
  · have := goF_zero _ ps [] h i p hp
    rw [List.nil_append] at this
    have g := pF_zero (hf p (List.mem_of_getElem? hp)) this
    have hl := get_lt hp
    rwa [List.length_take, Nat.min_eq_left (by omega)] at g
def ws7 (p : Po) : List Str := [[112, 111, 115, 116], itS p.1, itS p.2.1, p.2.2.1, p.2.2.2.1, itS p.2.2.2.2.1, itS ((lnW p.2.2.2.2.2).length : Nat)]
def hdP (p : Po) : Str := Lib.join (ws7 p) [32]
theorem join7 (a b c d e f g : Str) : Lib.join [a, b, c, d, e, f, g] [32] = a ++ 32 :: (b ++ 32 :: (c ++ 32 :: (d ++ 32 :: (e ++ 32 :: (f ++ 32 :: g))))) := by
  simp [Lib.join, List.intercalate, List.intersperse]
theorem split7 (a b c d e f g : Str) (ha : (32 : UInt8) ∉ a) (hb : (32 : UInt8) ∉ b) (hc : (32 : UInt8) ∉ c) (hd : (32 : UInt8) ∉ d) (he : (32 : UInt8) ∉ e) (hf : (32 : UInt8) ∉ f) (hg : (32 : UInt8) ∉ g) :
    splitB 32 (Lib.join [a, b, c, d, e, f, g] [32]) = [a, b, c, d, e, f, g] := by
  rw [join7, splitB_app 32 _ _ ha, splitB_app 32 _ _ hb, splitB_app 32 _ _ hc, splitB_app 32 _ _ hd, splitB_app 32 _ _ he, splitB_app 32 _ _ hf, splitB_none 32 _ hg]
theorem ws7_plain {n : Nat} {p : Po} (hn : n ≤ 100) (h : GPo n p) : ∀ x ∈ ws7 p, x ≠ [] ∧ (32 : UInt8) ∉ x ∧ (10 : UInt8) ∉ x ∧ x.length ≤ 4 := by
  have p1 := itS_plain p.1 (by rw [h.no]; omega) (by rw [h.no]; omega)
  have p2 := itS_plain p.2.1 h.at_.1 h.at_.2
  have p3 := keyB_plain h.pa.1
  have p4 := keyB_plain h.pe.1
  have p5 := itS_plain p.2.2.2.2.1 h.tt.1 (by have := h.tt.2; omega)
  have p6 := itS_plain ((lnW p.2.2.2.2.2).length : Nat) (by omega) (by have := h.wo.2.2.2.1; omega)
  intro x hx
  simp only [ws7, List.mem_cons, List.not_mem_nil, or_false] at hx
  rcases hx with rfl | rfl | rfl | rfl | rfl | rfl | rfl
  · decide
  · exact ⟨p1.1, p1.2.1, p1.2.2.1, by omega⟩
  · exact ⟨p2.1, p2.2.1, p2.2.2.1, by omega⟩
  · exact ⟨p3.1, p3.2.1, p3.2.2, h.pa.2⟩
  · exact ⟨p4.1, p4.2.1, p4.2.2, h.pe.2⟩
  · exact ⟨p5.1, p5.2.1, p5.2.2.1, by omega⟩
  · exact ⟨p6.1, p6.2.1, p6.2.2.1, by omega⟩
theorem hdP_ok {n : Nat} {p : Po} (hn : n ≤ 100) (h : GPo n p) : splitB 32 (hdP p) = ws7 p ∧ (10 : UInt8) ∉ hdP p ∧ (hdP p).length ≤ 40 ∧ 0 < (hdP p).length := by
  have hp := ws7_plain hn h
  unfold hdP
  obtain ⟨a, b, c, d, e, f, g, hw⟩ : ∃ a b c d e f g, ws7 p = [a, b, c, d, e, f, g] := ⟨_, _, _, _, _, _, _, rfl⟩
  rw [hw] at hp ⊢
  obtain ⟨-, a1, a2, a3⟩ := hp a (by simp)
  obtain ⟨-, b1, b2, b3⟩ := hp b (by simp)
  obtain ⟨-, c1, c2, c3⟩ := hp c (by simp)
  obtain ⟨-, d1, d2, d3⟩ := hp d (by simp)
  obtain ⟨-, e1, e2, e3⟩ := hp e (by simp)
  obtain ⟨-, f1, f2, f3⟩ := hp f (by simp)
  obtain ⟨-, g1, g2, g3⟩ := hp g (by simp)
  refine ⟨split7 _ _ _ _ _ _ _ a1 b1 c1 d1 e1 f1 g1, ?_, ?_, ?_⟩
  · rw [join7]
    simp [a2, b2, c2, d2, e2, f2, g2]
  · rw [join7]
    simp only [List.length_append, List.length_cons]
    omega
  · rw [join7]
    simp only [List.length_append, List.length_cons]
    omega
/-! the text -/
def lnX (x : Str) : Str := 124 :: x
def txL (ls : List Str) : Str := ls.flatMap fun x => 124 :: (x ++ [10])
def txQ (p : Po) : Str := hdP p ++ [10] ++ txL (lnW p.2.2.2.2.2)
def txQs (ps : List Po) : Str := ps.flatMap txQ
def linesQ (p : Po) : List Str := hdP p :: (lnW p.2.2.2.2.2).map lnX
def linesQs (ps : List Po) : List Str := ps.flatMap linesQ
theorem flat_len {α : Type} (t : α → Str) (n : Nat) : ∀ (xs : List α), (∀ x ∈ xs, (t x).length ≤ n) → (xs.flatMap t).length ≤ n * xs.length
  | [], _ => by simp
  | x :: r, h => by
    have h1 := h x (by simp)
    have h2 := flat_len t n r fun y hy => h y (by simp [hy])
    simp only [List.flatMap_cons, List.length_append, List.length_cons, Nat.mul_succ]
    omega
theorem flat_take {α : Type} (t : α → Str) {xs : List α} {i : Nat} {x : α} (hx : xs[i]? = some x) : (xs.take (i + 1)).flatMap t = (xs.take i).flatMap t ++ t x := by
  rw [List.take_add_one, hx]; simp
theorem flat_take_len {α : Type} (t : α → Str) (xs : List α) (i : Nat) : ((xs.take i).flatMap t).length ≤ (xs.flatMap t).length := by
  have : xs.flatMap t = (xs.take i).flatMap t ++ (xs.drop i).flatMap t := by rw [← List.flatMap_append, List.take_append_drop]
  rw [this, List.length_append]; omega
theorem joinW_mem : ∀ (ls : List Str) (x : Str), x ∈ ls → x.length ≤ (joinW ls).length
  | y :: r, x, h => by
    simp only [joinW, List.flatMap_cons, List.length_append, List.length_cons, List.length_nil]
    rcases List.mem_cons.1 h with rfl | h
    · omega
    · have := joinW_mem r x h
      simp only [joinW] at this
      omega
theorem WoK.len {w : Str} {ls : List Str} (h : WoK w ls) : ∀ x ∈ ls, x.length ≤ 4000 := by
  intro x hx
  have := joinW_mem ls x hx
  rw [← h.1] at this
  have := h.2.2.2.2
  omega
theorem txL_len {w : Str} {ls : List Str} (h : WoK w ls) : (txL ls).length ≤ 8004 := by
  have h2 := h.2.2.2.1
  have := flat_len (fun x : Str => 124 :: (x ++ [10])) 4002 ls fun x hx => by
    have := h.len x hx
    simp only [List.length_cons, List.length_append, List.length_nil]
    omega
  unfold txL
  omega
theorem txQ_len {n : Nat} {p : Po} (hn : n ≤ 100) (h : GPo n p) : (txQ p).length ≤ 8100 := by
  have h1 := (hdP_ok hn h).2.2.1
  have h2 := txL_len h.wo
  simp only [txQ, List.length_append, List.length_cons, List.length_nil]
  omega
theorem gpo_mem {ps : List Po} (hl : ps.length ≤ 8) (h : ∀ i p, ps[i]? = some p → GPo i p) : ∀ p ∈ ps, ∃ n, n ≤ 100 ∧ GPo n p := by
  intro p hp
  obtain ⟨i, hi⟩ := List.getElem?_of_mem hp
  have := get_lt hi
  exact ⟨i, by omega, h i p hi⟩
theorem txQs_len {ps : List Po} (hl : ps.length ≤ 8) (h : ∀ i p, ps[i]? = some p → GPo i p) : (txQs ps).length ≤ 64800 := by
  have := flat_len txQ 8100 ps fun p hp => by
    obtain ⟨n, hn, g⟩ := gpo_mem hl h p hp
    exact txQ_len hn g
  unfold txQs
  omega
theorem txL_lines : ∀ ls : List Str, txL ls = (ls.map lnX).flatMap (· ++ [10])
  | [] => rfl
  | x :: r => by
    have := txL_lines r
    simp only [txL] at this
    simp [txL, lnX, this]
theorem txQ_lines (p : Po) : txQ p = (linesQ p).flatMap (· ++ [10]) := by
  simp only [txQ, linesQ, List.flatMap_cons, txL_lines]
theorem txQs_lines : ∀ ps : List Po, txQs ps = (linesQs ps).flatMap (· ++ [10])
  | [] => rfl
  | p :: r => by
    have := txQs_lines r
    simp only [txQs, linesQs] at this
    simp only [txQs, linesQs, List.flatMap_cons, List.flatMap_append, this, txQ_lines]
theorem linesQ_nl {n : Nat} {p : Po} (hn : n ≤ 100) (h : GPo n p) : ∀ l ∈ linesQ p, (10 : UInt8) ∉ l := by
  intro l hl
  simp only [linesQ, List.mem_cons, List.mem_map] at hl
  rcases hl with rfl | ⟨x, hx, rfl⟩
  · exact (hdP_ok hn h).2.1
  · have := h.wo.2.1 x hx
    simp [lnX, this]
theorem linesQs_nl {ps : List Po} (hl : ps.length ≤ 8) (h : ∀ i p, ps[i]? = some p → GPo i p) : ∀ l ∈ linesQs ps, (10 : UInt8) ∉ l := by
  intro l hlm
  obtain ⟨p, hp, hlp⟩ := List.mem_flatMap.1 hlm
  obtain ⟨n, hn, g⟩ := gpo_mem hl h p hp
  exact linesQ_nl hn g l hlp
def nL (p : Po) : Nat := (lnW p.2.2.2.2.2).length
def off (ps : List Po) (i : Nat) : Nat := (linesQs (ps.take i)).length
theorem linesQ_len (p : Po) : (linesQ p).length = 1 + nL p := by simp [linesQ, nL]; omega
theorem off_succ {ps : List Po} {i : Nat} {p : Po} (h : ps[i]? = some p) : off ps (i + 1) = off ps i + 1 + nL p := by
  have e : ps.take (i + 1) = ps.take i ++ [p] := by rw [List.take_add_one, h]; rfl
  simp only [off, linesQs, e, List.flatMap_append, List.length_append, List.flatMap_cons, List.flatMap_nil, List.append_nil, linesQ_len]
  omega
theorem off_all (ps : List Po) : off ps ps.length = (linesQs ps).length := by simp [off]
theorem line_at {ps : List Po} {i k : Nat} {p : Po} (h : ps[i]? = some p) (hk : k < 1 + nL p) : (linesQs ps)[off ps i + k]? = (linesQ p)[k]? := by
  have hil := get_lt h
  have hd : ps.drop i = p :: ps.drop (i + 1) := by
    rw [List.drop_eq_getElem_cons hil]
    rw [List.getElem?_eq_getElem hil] at h
    cases h; rfl
  have e : linesQs ps = linesQs (ps.take i) ++ (linesQ p ++ linesQs (ps.drop (i + 1))) := by
    conv => lhs; rw [← List.take_append_drop i ps]
    simp only [linesQs, List.flatMap_append, hd, List.flatMap_cons]
  rw [e, off, List.getElem?_append_right (by omega), Nat.add_sub_cancel_left, List.getElem?_append_left (by rw [linesQ_len]; exact hk)]
theorem line_lt {ps : List Po} {i k : Nat} {p : Po} (h : ps[i]? = some p) (hk : k < 1 + nL p) : off ps i + k < (linesQs ps).length := by
  rcases Nat.lt_or_ge (off ps i + k) (linesQs ps).length with h' | h'
  · exact h'
  · have := line_at h hk
    rw [List.getElem?_eq_none h', List.getElem?_eq_getElem (by rw [linesQ_len]; exact hk)] at this
    cases this
/-- A post of which k lines are read. -/
def part (p : Po) (k : Nat) : Po := (p.1, p.2.1, p.2.2.1, p.2.2.2.1, p.2.2.2.2.1, joinW ((lnW p.2.2.2.2.2).take k))
theorem part_all {p : Po} (h : WoK p.2.2.2.2.2 (lnW p.2.2.2.2.2)) : part p (nL p) = p := by
  unfold part nL
  rw [List.take_length, ← h.1]
theorem part_succ {p : Po} {k : Nat} {x : Str} (h : (lnW p.2.2.2.2.2)[k]? = some x) : (part p (k + 1)).2.2.2.2.2 = (part p k).2.2.2.2.2 ++ (x ++ [10]) := by
  simp only [part, joinW]
  rw [List.take_add_one, h]
  simp
end Go.AX

namespace Go.AX
open Go Go.Proofs Go.RowKit
def finOD (hv : Nat → Option O) (g : Nat → Nat) : List Nat → List O → Prop
  | [], [] => True
  | j :: js, o :: os => (o = .dead ∨ ∃ o', hv j = some o' ∧ o'.frz hv (fun _ => true) = o.ren g) ∧ finOD hv g js os
  | _, _ => False
theorem finOD_get {hv : Nat → Option O} {g : Nat → Nat} : ∀ {js : List Nat} {os : List O} {i : Nat} {o : O}, finOD hv g js os → os[i]? = some o → o ≠ .dead → ∃ j, js[i]? = some j ∧ ∃ o', hv j = some o' ∧ o'.frz hv (fun _ => true) = o.ren g
  | [], [], _, _, _, h, _ => by simp at h
  | [], _ :: _, _, _, h, _, _ => h.elim
  | _ :: _, [], _, _, h, _, _ => h.elim
  | j :: js, o :: os, i, q, h, hq, hd => by
    cases i with
    | zero => simp at hq; subst hq; exact ⟨j, rfl, h.1.resolve_left hd⟩
    | succ i =>
      obtain ⟨j', h1, h2⟩ := finOD_get h.2 (i := i) (by simpa using hq) hd
      exact ⟨j', by simpa using h1, h2⟩
theorem finOD_len {hv : Nat → Option O} {g : Nat → Nat} : ∀ {js : List Nat} {os : List O}, finOD hv g js os → js.length = os.length
  | [], [], _ => rfl
  | [], _ :: _, h => h.elim
  | _ :: _, [], h => h.elim
  | _ :: js, _ :: os, h => by simp [finOD_len h.2]
/-- The end of a function of which some objects are gone. -/
theorem Fin.objsD (ids : List Nat) {P : Program} {fn : Func} {k : Nat} {st : St} {x : V} {os : List O} {l : List V} (hl : resL P st.hv st.ev fn.results.toList = some l) (hx : frz st.hv (fun _ => true) (resV l) = x.ren (gI ids))
    (ho : finOD st.hv (gI ids) ids os) (hnd : ids.Nodup) (hk : ids.take k = List.range k) (hb : x.bel os.length = true) (hbo : os.all (O.bel os.length) = true) : Fin P fn k x os st := by
  have hlen := finOD_len ho
  have hkl : k ≤ ids.length := by
    have := congrArg List.length hk
    simp only [List.length_take, List.length_range] at this
    omega
  have hgi : ∀ i, i < k → gI ids i = i := by
    intro i hi
    have e : (ids.take k)[i]? = some i := by rw [hk]; simp [hi]
    rw [List.getElem?_take] at e
    simp only [hi, if_true] at e
    simp [gI, e]
  refine ⟨gI ids, fun _ => true, l, hl, hx, ?_, .inr fun _ => rfl, ?_, hgi, by omega, hb, hbo⟩
  · intro i q hq
    obtain ⟨hq, hd⟩ := hvL_get hq
    obtain ⟨j, hj, h2⟩ := finOD_get ho hq hd
    have e : gI ids i = j := by simp [gI, hj]
    rw [e]
    exact ⟨rfl, h2⟩
  · intro i j hi hj e
    have hi' : i < ids.length := by omega
    have hj' : j < ids.length := by omega
    simp only [gI, List.getElem?_eq_getElem hi', List.getElem?_eq_getElem hj'] at e
    exact (List.getElem_inj hnd).1 e
theorem dv_app (xs ys : List D) : dv xs ++ dv ys = dv (xs ++ ys) := by simp [dv]
abbrev BU (p b : V) : O := .box 75 [p, b]
abbrev BY (s : Str) : O := .vec 5 1 (dv (bytesD s))
theorem bytesD_length (s : Str) : (bytesD s).length = s.length := by simp [bytesD]
theorem noEsc_ext (id j : Nat) (hv : Nat → Option O) (n : Nat) : CallStep Tryz.prog hv n 104 [.ptr id j] (.ptr id j) [] :=
  extT_ok _ _ hv n _ _ [] (by kernel_rfl) hv (fun _ h => by cases h)
theorem copy0 : Does Tryz.prog 59 [.ptr 0 0] [BU (.d .nilp) .nils] (.tup []) [BU (.ptr 0 0) .nils] := by
  refine Does.of_AW (n := 20) Tryz.func59 rfl rfl rfl fun cx hcx => ?_
  repeat' (first | ((first | refine AW.sreg rfl fun K hK => ?_ | refine AW.reg rfl ?_); simp only [go_sem, Nat.reduceAdd, Nat.reduceMul, Int.reduceToNat, Nat.reduceLT, Nat.reduceLeDiff, Nat.le_refl, Nat.reduceEqDiff, ↓reduceIte, beq_self_eq_true, bne_self_eq_false, Int.reduceBEq, Int.reduceBNe, or_self, true_or, or_true, Option.map_some, Option.map_none]) | (refine AW.condT rfl (by first | rfl | (simp; omega) | (simp [*]; done) | fail) ?_) | (refine hK _ ?_; clear hK K))
  simp only [go_sem, Nat.reduceAdd, Nat.reduceMul, Int.reduceToNat, Nat.reduceLT, Nat.reduceLeDiff, Nat.le_refl, Nat.reduceEqDiff, ↓reduceIte, beq_self_eq_true, bne_self_eq_false, Int.reduceBEq, Int.reduceBNe, or_self, true_or, or_true, Option.map_some, Option.map_none, ne_eq, not_false_eq_true]
  repeat' (first | (refine run_call _ _ _ (noEsc_ext 0 0 _ _) rfl rfl (dstOk_of rfl) rfl rfl rfl ?_; simp only [go_sem, Nat.reduceAdd, Nat.reduceMul, Int.reduceToNat, Nat.reduceLT, Nat.reduceLeDiff, Nat.le_refl, Nat.reduceEqDiff, ↓reduceIte, beq_self_eq_true, bne_self_eq_false, Int.reduceBEq, Int.reduceBNe, or_self, true_or, or_true, Option.map_some, Option.map_none]))
  have hl : liesAt Tryz.prog Tryz.prog.depth 75 (2 / Tryz.prog.cellsOf 75) 0 75 1 = true := by kernel_rfl
  simp only [go_sem, Nat.reduceAdd, Nat.reduceMul, Int.reduceToNat, Nat.reduceLT, Nat.reduceLeDiff, Nat.le_refl, Nat.reduceEqDiff, ↓reduceIte, beq_self_eq_true, bne_self_eq_false, Int.reduceBEq, Int.reduceBNe, or_self, true_or, or_true, Option.map_some, Option.map_none, hl]
  repeat' (first | fail)
  exact Fin.objs [0] rfl (by simp [go_sem, inI, gI]) ⟨⟨_, rfl, by simp [go_sem, inI, gI]⟩, trivial⟩ (by simp) rfl (by simp [go_sem]) (by simp [go_sem]) rfl
theorem copy1 (n : Nat) (bs : Str) : Does Tryz.prog 59 [.ptr 0 0] [BU (.ptr 0 0) (.slr 1 0 n), BY bs] (.tup []) [BU (.ptr 0 0) (.slr 1 0 n), BY bs] := by
  refine Does.of_AW (n := 20) Tryz.func59 rfl rfl rfl fun cx hcx => ?_
  repeat' (first | (refine AW.sreg rfl fun K hK => ?_; simp only [go_sem, Nat.reduceAdd, Nat.reduceMul, Int.reduceToNat, Nat.reduceLT, Nat.reduceLeDiff, Nat.le_refl, Nat.reduceEqDiff, ↓reduceIte, beq_self_eq_true, bne_self_eq_false, Int.reduceBEq, Int.reduceBNe, or_self, true_or, or_true, Option.map_some, Option.map_none]) | (refine AW.condF rfl (by first | rfl | (simp; omega) | (simp [*]; done) | fail) ?_) | (refine hK _ ?_; clear hK K))
  refine AW.skip ?_
  exact Fin.objs [0, 1] rfl (by simp [go_sem, inI, gI]) ⟨⟨_, rfl, by simp [go_sem, inI, gI]⟩, ⟨_, rfl, by simp [go_sem, inI, gI]⟩, trivial⟩ (by simp) rfl (by simp [go_sem]) (by simp [go_sem]) rfl
theorem ws0 (s : Str) (h : s.length ≤ 1000000) : Does Tryz.prog 30 [.ptr 0 0, S s] [BU (.d .nilp) .nils] (.tup [I s.length, .d .nili]) [BU (.ptr 0 0) (.slr 1 0 s.length), BY s] := by
  refine Does.of_AW (n := 19) Tryz.func30 rfl rfl rfl fun cx hcx => ?_
  repeat' (first | ((first | refine AW.sreg rfl fun K hK => ?_ | refine run_call _ _ _ ((copy0).robjs [0] ⟨(by first | rfl | (simp [go_sem]; done) | (simp [go_sem]; rfl)), trivial⟩ rfl (by decide) (by simp) (by simp) (by simp [go_sem]) (by simp [go_sem]) (by simp [go_sem]) (by simp [go_sem])) rfl rfl (dstOk_of rfl) rfl rfl rfl ?_); simp only [go_sem, Nat.reduceAdd, Nat.reduceMul, Int.reduceToNat, Nat.reduceLT, Nat.reduceLeDiff, Nat.le_refl, Nat.reduceEqDiff, ↓reduceIte, beq_self_eq_true, bne_self_eq_false, Int.reduceBEq, Int.reduceBNe, or_self, true_or, or_true, Option.map_some, Option.map_none, bytesD_length, dv_length, List.length_map]) | (refine hK _ ?_; clear hK K) | (with_reducible refine And.intro ?_ ?_; first | omega | assumption | (focus (decide)) | (focus (simp; done)) | (focus (simp; omega)) | (focus (constructor <;> omega)) | fail))
  exact AW.ret (Fin.objs [0, 704] rfl (by simp [go_sem, inI, gI]) ⟨⟨_, rfl, by simp [go_sem, inI, gI]⟩, ⟨_, rfl, by simp [go_sem, inI, gI]⟩, trivial⟩ (by simp) rfl (by simp [go_sem]) (by simp [go_sem]) rfl)
theorem ws1 (s bs : Str) (h : s.length ≤ 1000000) (h2 : bs.length ≤ 1000000) : Does Tryz.prog 30 [.ptr 0 0, S s] [BU (.ptr 0 0) (.slr 1 0 bs.length), BY bs] (.tup [I s.length, .d .nili]) [BU (.ptr 0 0) (.slr 2 0 (bs.length + s.length)), .dead, BY (bs ++ s)] := by
  refine Does.of_AW (n := 19) Tryz.func30 rfl rfl rfl fun cx hcx => ?_
  repeat' (first | ((first | refine AW.sreg rfl fun K hK => ?_ | refine run_call _ _ _ ((copy1 bs.length bs).robjs [0, 1] ⟨(by first | rfl | (simp [go_sem]; done) | (simp [go_sem]; rfl)), (by first | rfl | (simp [go_sem]; done) | (simp [go_sem]; rfl)), trivial⟩ rfl (by decide) (by simp) (by simp) (by simp [go_sem]) (by simp [go_sem]) (by simp [go_sem]) (by simp [go_sem])) rfl rfl (dstOk_of rfl) rfl rfl rfl ?_); simp only [go_sem, Nat.reduceAdd, Nat.reduceMul, Int.reduceToNat, Nat.reduceLT, Nat.reduceLeDiff, Nat.le_refl, Nat.reduceEqDiff, ↓reduceIte, beq_self_eq_true, bne_self_eq_false, Int.reduceBEq, Int.reduceBNe, or_self, true_or, or_true, Option.map_some, Option.map_none, bytesD_length, dv_length, List.length_map]) | (refine hK _ ?_; clear hK K) | (with_reducible refine And.intro ?_ ?_; first | omega | assumption | (focus (decide)) | (focus (simp; done)) | (focus (simp; omega)) | (focus (constructor <;> omega)) | fail))
  exact AW.ret (Fin.objsD [0, 1, 768] rfl (by simp [go_sem, gI]) ⟨Or.inr ⟨_, rfl, by simp [go_sem, gI]⟩, Or.inl rfl, Or.inr ⟨_, rfl, by simp only [List.map_append, bytesD, dv_app]; simp [go_sem, gI]⟩, trivial⟩ (by simp) rfl (by simp [go_sem]) (by simp [go_sem]))
theorem len0 : Does Tryz.prog 33 [.ptr 0 0] [BU (.d .nilp) .nils] (I 0) [BU (.d .nilp) .nils] := by
  refine Does.of_AW (n := 8) Tryz.func33 rfl rfl rfl fun cx hcx => ?_
  repeat' (first | (refine AW.sreg rfl fun K hK => ?_; simp only [go_sem, Nat.reduceAdd, Nat.reduceMul, Int.reduceToNat, Nat.reduceLT, Nat.reduceLeDiff, Nat.le_refl, Nat.reduceEqDiff, ↓reduceIte, beq_self_eq_true, bne_self_eq_false, Int.reduceBEq, Int.reduceBNe, or_self, true_or, or_true, Option.map_some, Option.map_none]) | (refine hK _ ?_; clear hK K))
  exact AW.ret (Fin.objs [0] rfl (by simp [go_sem, inI, gI]) ⟨⟨_, rfl, by simp [go_sem, inI, gI]⟩, trivial⟩ (by simp) rfl (by simp [go_sem]) (by simp [go_sem]) rfl)
theorem len1 (n : Nat) (bs : Str) : Does Tryz.prog 33 [.ptr 0 0] [BU (.ptr 0 0) (.slr 1 0 n), BY bs] (I n) [BU (.ptr 0 0) (.slr 1 0 n), BY bs] := by
  refine Does.of_AW (n := 8) Tryz.func33 rfl rfl rfl fun cx hcx => ?_
  repeat' (first | (refine AW.sreg rfl fun K hK => ?_; simp only [go_sem, Nat.reduceAdd, Nat.reduceMul, Int.reduceToNat, Nat.reduceLT, Nat.reduceLeDiff, Nat.le_refl, Nat.reduceEqDiff, ↓reduceIte, beq_self_eq_true, bne_self_eq_false, Int.reduceBEq, Int.reduceBNe, or_self, true_or, or_true, Option.map_some, Option.map_none]) | (refine hK _ ?_; clear hK K))
  exact AW.ret (Fin.objs [0, 1] rfl (by simp [go_sem, inI, gI]) ⟨⟨_, rfl, by simp [go_sem, inI, gI]⟩, ⟨_, rfl, by simp [go_sem, inI, gI]⟩, trivial⟩ (by simp) rfl (by simp [go_sem]) (by simp [go_sem]) rfl)
theorem str0 : Does Tryz.prog 34 [.ptr 0 0] [BU (.d .nilp) .nils] (S []) [BU (.d .nilp) .nils] := by
  refine Does.of_AW (n := 14) Tryz.func34 rfl rfl rfl fun cx hcx => ?_
  repeat' (first | ((first | refine AW.sreg rfl fun K hK => ?_ | refine AW.sregD hmix rfl fun K hK => ?_); simp only [go_sem, Nat.reduceAdd, Nat.reduceMul, Int.reduceToNat, Nat.reduceLT, Nat.reduceLeDiff, Nat.le_refl, Nat.reduceEqDiff, ↓reduceIte, beq_self_eq_true, bne_self_eq_false, Int.reduceBEq, Int.reduceBNe, or_self, true_or, or_true, Option.map_some, Option.map_none]) | (refine hK _ ?_; clear hK K) | (with_reducible refine And.intro (?_ : regOk _ _ = true) ?_; kernel_rfl))
  exact AW.ret (Fin.objs [0] rfl (by simp [go_sem, inI, gI]) ⟨⟨_, rfl, by simp [go_sem, inI, gI]⟩, trivial⟩ (by simp) rfl (by simp [go_sem]) (by simp [go_sem]) rfl)
theorem strOfR_bytes : ∀ s : Str, strOfR (dv (bytesD s)) = some s
  | [] => rfl
  | b :: s => by
    have := strOfR_bytes s
    have hb : b.toNat < 256 := UInt8.toNat_lt b
    simp only [bytesD, dv, List.map_cons] at this ⊢
    simp only [strOfR, this]
    rw [if_pos ⟨by omega, by omega⟩]
    simp
theorem str1 (bs : Str) (h0 : 0 < bs.length) (h : bs.length ≤ 1000000) : Does Tryz.prog 34 [.ptr 0 0] [BU (.ptr 0 0) (.slr 1 0 bs.length), BY bs] (S bs) [BU (.ptr 0 0) (.slr 1 0 bs.length), .dead] := by
  refine Does.of_AW (n := 14) Tryz.func34 rfl rfl rfl fun cx hcx => ?_
  have h1 := strOfR_bytes bs
  have h2 : (dv (bytesD bs)).take bs.length = dv (bytesD bs) := List.take_of_length_le (by simp [dv, bytesD])
  simp only [bytesD] at h1 h2
  have h3 : (0 : Int) < (bs.length : Int) := by omega
  have h4 : (bs.length : Int) ≤ 281474976710656 := by omega
  have h5 : Tryz.prog.cellsOf 5 = 1 := by kernel_rfl
  repeat' (first | ((first | refine AW.sreg rfl fun K hK => ?_ | refine AW.sregD hmix rfl fun K hK => ?_); simp only [go_sem, Nat.reduceAdd, Nat.reduceMul, Int.reduceToNat, Nat.reduceLT, Nat.reduceLeDiff, Nat.le_refl, Nat.reduceEqDiff, ↓reduceIte, beq_self_eq_true, bne_self_eq_false, Int.reduceBEq, Int.reduceBNe, or_self, true_or, or_true, Option.map_some, Option.map_none, h5, h0, h3, h4, and_self, and_true, true_and, Int.toNat_natCast, h1, h2, dv_length, List.length_map]) | (refine hK _ ?_; clear hK K) | (with_reducible refine And.intro (?_ : regOk _ _ = true) ?_; kernel_rfl) | (with_reducible refine And.intro ?_ ?_; first | omega | assumption | (focus (decide)) | (focus (simp; done)) | (focus (simp; omega)) | (focus (constructor <;> omega)) | fail))
  exact AW.ret (Fin.objsD [0, 1] rfl (by simp [go_sem, gI]) ⟨Or.inr ⟨_, rfl, by simp [go_sem, gI]⟩, Or.inl rfl, trivial⟩ (by simp) rfl (by simp [go_sem]) (by simp [go_sem]))
end Go.AX

namespace Go.AX
open Go Go.Proofs Go.RowKit
theorem text_bad (b : Bd) (hb : BdS b) (hp : BdP b) (ps : List Po) (hl : ps.length ≤ 8) (hf : ∀ p ∈ ps, FinPo p) (hz : cpF b ps ≠ 0) : Does Tryz.prog 8 [.d (bdD b), .d (.sl (ps.map poD))] [] (.tup [S [], I (cpF b ps)]) [] := by
  have h := checkPo b hb hp ps hl hf
  generalize cpF b ps = e at *
  have hzb : (e != 0) = true := by simpa using hz
  refine Does.of_AW (n := 67) Tryz.func8 rfl rfl rfl fun cx hcx => ?_
  repeat' (first | ((first | refine AW.sreg rfl fun K hK => ?_ | refine run_call _ _ _ ((h).pure rfl rfl _ _) rfl rfl (dstOk_of rfl) rfl rfl rfl ?_); simp only [go_sem, Nat.reduceAdd, Nat.reduceMul, Int.reduceToNat, Nat.reduceLT, Nat.reduceLeDiff, Nat.le_refl, Nat.reduceEqDiff, ↓reduceIte, beq_self_eq_true, bne_self_eq_false, Int.reduceBEq, Int.reduceBNe, or_self, true_or, or_true, Option.map_some, Option.map_none, hzb]) | (refine AW.seq_k fun K hK => ?_) | (refine AW.condT rfl (by first | rfl | (simp; omega) | (simp [*]; done) | fail) ?_) | (refine hK _ ?_; clear hK K) | (refine AW.ret (Fin.data rfl (by first | (simp only [go_sem]; done) | (simp [go_sem, *]; done) | (simp [go_sem]; omega) | rfl) rfl)))
def hsT (ps : List Po) (b v : Nat) : Nat → List (Nat × Option O)
  | 0 => [(b, some (BU (.d .nilp) .nils))]
  | n + 1 => [(b, some (BU (.ptr b 0) (.slr v 0 (txQs (ps.take (n + 1))).length))), (v, some (BY (txQs (ps.take (n + 1)))))]
theorem text_ok (b : Bd) (hb : BdS b) (hp : BdP b) (ps : List Po) (hl : ps.length ≤ 8) (hf : ∀ p ∈ ps, FinPo p) (hz : cpF b ps = 0) : Does Tryz.prog 8 [.d (bdD b), .d (.sl (ps.map poD))] [] (.tup [S (txQs ps), I 0]) [] := by
  have hck := checkPo b hb hp ps hl hf
  have hg := cpF_zero hf hz
  rw [hz] at hck
  have hlen := txQs_len hl hg
  refine Does.of_AW (n := 67) Tryz.func8 rfl rfl rfl fun cx hcx => ?_
  repeat' (first | ((first | refine AW.sreg rfl fun K hK => ?_ | refine run_call _ _ _ ((hck).pure rfl rfl _ _) rfl rfl (dstOk_of rfl) rfl rfl rfl ?_); simp only [go_sem, Nat.reduceAdd, Nat.reduceMul, Int.reduceToNat, Nat.reduceLT, Nat.reduceLeDiff, Nat.le_refl, Nat.reduceEqDiff, ↓reduceIte, beq_self_eq_true, bne_self_eq_false, Int.reduceBEq, Int.reduceBNe, or_self, true_or, or_true, Option.map_some, Option.map_none, List.length_map]) | (refine AW.seq_k fun K hK => ?_) | (refine AW.block ?_) | (refine AW.skip ?_; simp only [Then, InBlock]) | (refine AW.condF rfl (by first | rfl | (simp; omega) | (simp [*]; done) | fail) ?_) | (refine hK _ ?_; clear hK K))
  clear hck hz
  refine AW.loopF (ι := Nat) [7, 20, 21] (fun p => [(22, I p)]) (fun p => hsT ps 576 640 p) 13 (fun p => p ≤ ps.length) (fun p => ps.length - p) 0 (Nat.zero_le _) (Weak.auto hcx rfl rfl (Nat.le_of_ble_eq_true rfl) (by simp [go_sem, gL, kL, renOf, V.obj, lk, Nat.blt, Nat.ble, List.map_append, dv_push, hsT]) (by simp [go_sem, gL, kL, renOf, V.obj, lk, Nat.blt, Nat.ble, List.map_append, dv_push, hsT]) (by first | (intro i hi; exact absurd hi (Nat.not_lt_zero _)) | (intro i0 hi0; match i0, hi0 with | 0, _ => exact ⟨_, rfl⟩ | n0+1, h0 => exact absurd h0 (Nat.not_lt.2 (Nat.le_add_left 1 n0))) | (intro i0 hi0; match i0, hi0 with | 0, _ => exact ⟨_, rfl⟩ | 1, _ => exact ⟨_, rfl⟩ | n0+2, h0 => exact absurd h0 (Nat.not_lt.2 (Nat.le_add_left 2 n0))) | (intro i0 hi0; match i0, hi0 with | 0, _ => exact ⟨_, rfl⟩ | 1, _ => exact ⟨_, rfl⟩ | 2, _ => exact ⟨_, rfl⟩ | n0+3, h0 => exact absurd h0 (Nat.not_lt.2 (Nat.le_add_left 3 n0))) | (intro i0 hi0; match i0, hi0 with | 0, _ => exact ⟨_, rfl⟩ | 1, _ => exact ⟨_, rfl⟩ | 2, _ => exact ⟨_, rfl⟩ | 3, _ => exact ⟨_, rfl⟩ | n0+4, h0 => exact absurd h0 (Nat.not_lt.2 (Nat.le_add_left 4 n0)))) (by simp [go_sem, gL, kL, lk, renOf, V.obj, Nat.blt, Nat.ble, hsT])) ?_; simp only [St.at_nil, St.at_cons, lk, Nat.reduceEqDiff, ↓reduceIte, Option.getD_some, Option.getD_none, List.cons_append, List.nil_append, List.append_nil]
  intro i h1
  by_cases hi : i < ps.length
  · obtain ⟨x, hx, hxm, hxd⟩ := get_some hi
    have hget : (ps.map poD)[i]? = some (poD x) := by simp only [List.getElem?_map, hx, Option.map_some]
    have hF := hg i x hx
    have hh := hdP_ok (by omega) hF
    have hfx := (hf x hxm).short
    have i1 := itoa_any x.1 (by rw [hF.no]; omega) (by rw [hF.no]; omega)
    have i2 := itoa_any x.2.1 hF.at_.1 hF.at_.2
    have i3 := itoa_any x.2.2.2.2.1 hF.tt.1 (by have := hF.tt.2; omega)
    have i4 := itoa_any ((lnW x.2.2.2.2.2).length : Nat) (by omega) (by have := hF.wo.2.2.2.1; omega)
    have hjn := join_any (ws7 x) (by simp [ws7]) (by simp [ws7]) (show (hdP x).length ≤ 1000000 by omega)
    have hln := lines_any x.2.2.2.2.2 hfx.2.2 (lnW x.2.2.2.2.2) hF.wo.split (by have := hF.wo.2.2.2.1; omega)
    have hTl := txL_len hF.wo
    have htk : txQs (ps.take (i + 1)) = txQs (ps.take i) ++ txQ x := flat_take txQ hx
    have htl := flat_take_len txQ ps i
    have hl2 := hF.wo.2.2.2.1
    have hwl := hF.wo.len
    simp only [ws7, List.map_cons, List.map_nil] at hjn
    have hU : hdP x ++ [10] = Lib.join [[112, 111, 115, 116], itS x.1, itS x.2.1, x.2.2.1, x.2.2.2.1, itS x.2.2.2.2.1, itS ((lnW x.2.2.2.2.2).length : Nat)] [32] ++ [10] := rfl
    have htq : txQ x = hdP x ++ [10] ++ txL (lnW x.2.2.2.2.2) := rfl
    have hjl : (Lib.join [[112, 111, 115, 116], itS x.1, itS x.2.1, x.2.2.1, x.2.2.2.1, itS x.2.2.2.2.1, itS ((lnW x.2.2.2.2.2).length : Nat)] [32]).length ≤ 40 := hh.2.2.1
    cases i with
    | zero =>
      simp only [hsT]
      have hw := ws0 (hdP x ++ [10]) (by simp only [List.length_append, List.length_cons, List.length_nil]; omega)
      rw [hU] at hw
      generalize hls : lnW x.2.2.2.2.2 = ls at *
      repeat' (first | ((first | refine AW.sreg rfl fun K hK => ?_ | refine AW.sregD hmix rfl fun K hK => ?_ | refine run_call _ _ _ ((hln).pure rfl rfl _ _) rfl rfl (dstOk_of rfl) rfl rfl rfl ?_ | refine runT_call _ _ [] (fun hv _ => (i1).pure rfl rfl hv _) rfl rfl (dstOk_of rfl) rfl rfl ?_ | refine runT_call _ _ [] (fun hv _ => (i2).pure rfl rfl hv _) rfl rfl (dstOk_of rfl) rfl rfl ?_ | refine runT_call _ _ [] (fun hv _ => (i3).pure rfl rfl hv _) rfl rfl (dstOk_of rfl) rfl rfl ?_ | refine runT_call _ _ [] (fun hv _ => (i4).pure rfl rfl hv _) rfl rfl (dstOk_of rfl) rfl rfl ?_ | refine runT_call _ _ [2688] (fun hv hag => (hjn).lend (by repeat' (first | exact frzL_nil | refine frzL_cons (by first | exact frz_d | exact frz_slr rfl ((hag 2688 (by simp)).trans rfl) (by first | (simp; done) | (simp; omega) | (simp [*]; done) | fail) | rfl) ?_)) rfl rfl rfl) rfl rfl (dstOk_of rfl) rfl rfl ?_ | refine runT_call _ _ [576] (fun hv hag => (hw).robjs [576] ⟨((hag 576 (by simp)).trans (by first | rfl | (simp [go_sem]; done) | (simp [go_sem]; rfl))), trivial⟩ rfl (by decide) (by simp) (by simp) (by simp [go_sem]) (by simp [go_sem]) (by simp [go_sem]) (by simp [go_sem])) rfl rfl (dstOk_of rfl) rfl rfl ?_); simp only [go_sem, Nat.reduceAdd, Nat.reduceMul, Int.reduceToNat, Nat.reduceLT, Nat.reduceLeDiff, Nat.le_refl, Nat.reduceEqDiff, ↓reduceIte, beq_self_eq_true, bne_self_eq_false, Int.reduceBEq, Int.reduceBNe, or_self, true_or, or_true, Option.map_some, Option.map_none, List.length_map, hget, Nat.reduceSub, Nat.add_zero]) | (refine AW.seq_k fun K hK => ?_) | (refine AW.block ?_) | (refine AW.skip ?_; simp only [Then, InBlock]) | (refine AW.condT rfl (by first | rfl | (simp; omega) | (simp [*]; done) | fail) ?_) | (refine hK _ ?_; clear hK K) | (with_reducible refine And.intro (?_ : regOk _ _ = true) ?_; kernel_rfl) | (with_reducible refine And.intro ?_ ?_; first | omega | assumption | (focus (decide)) | (focus (simp; done)) | (focus (simp; omega)) | (focus (constructor <;> omega)) | fail))
      obtain ⟨T, hT⟩ : ∃ T, hdP x ++ [10] = T := ⟨_, rfl⟩
      have hTl2 : T.length ≤ 66000 := by rw [← hT]; simp only [List.length_append, List.length_cons, List.length_nil]; omega
      rw [← hU, hT]
      refine AW.loopF (ι := Nat) [7, 20, 21, 22, 52, 53] (fun q => [(54, I q)]) (fun q => [(576, some (BU (.ptr 576 0) (.slr 640 0 (T ++ txL (ls.take q)).length))), (640, some (BY (T ++ txL (ls.take q))))]) 13 (fun q => q ≤ ls.length) (fun q => ls.length - q) 0 (Nat.zero_le _) (Weak.objs hcx [(576, 576), (640, 2880)] rfl rfl (Nat.le_of_ble_eq_true rfl) (by simp [go_sem, gL, kL, List.map_append, dv_push, ← hT, txL, bytesD]) (by simp [go_sem, gL, kL, List.map_append, dv_push, ← hT, txL, bytesD]) (by first | (intro i hi; exact absurd hi (Nat.not_lt_zero _)) | (intro i0 hi0; match i0, hi0 with | 0, _ => exact ⟨_, rfl⟩ | n0+1, h0 => exact absurd h0 (Nat.not_lt.2 (Nat.le_add_left 1 n0))) | (intro i0 hi0; match i0, hi0 with | 0, _ => exact ⟨_, rfl⟩ | 1, _ => exact ⟨_, rfl⟩ | n0+2, h0 => exact absurd h0 (Nat.not_lt.2 (Nat.le_add_left 2 n0))) | (intro i0 hi0; match i0, hi0 with | 0, _ => exact ⟨_, rfl⟩ | 1, _ => exact ⟨_, rfl⟩ | 2, _ => exact ⟨_, rfl⟩ | n0+3, h0 => exact absurd h0 (Nat.not_lt.2 (Nat.le_add_left 3 n0))) | (intro i0 hi0; match i0, hi0 with | 0, _ => exact ⟨_, rfl⟩ | 1, _ => exact ⟨_, rfl⟩ | 2, _ => exact ⟨_, rfl⟩ | 3, _ => exact ⟨_, rfl⟩ | n0+4, h0 => exact absurd h0 (Nat.not_lt.2 (Nat.le_add_left 4 n0)))) (by simp [gL, lk, ← hT, txL, bytesD])) ?_; simp only [St.at_nil, St.at_cons, lk, Nat.reduceEqDiff, ↓reduceIte, Option.getD_some, Option.getD_none, List.cons_append, List.nil_append, List.append_nil]
      intro q hq1
      have htl2 := flat_take_len (fun x : Str => 124 :: (x ++ [10])) ls q
      have hTb : T ++ txL (ls.take ls.length) = txQs (ps.take (0 + 1)) := by
        rw [htk, List.take_length, ← hT, htq]; simp [txQs]
      by_cases hq : q < ls.length
      · obtain ⟨c, hc, hcm, -⟩ := get_some hq
        have hget2 : (ls.map D.str)[q]? = some (.str c) := by simp [hc]
        have hcl := hwl c hcm
        have htk2 : txL (ls.take (q + 1)) = txL (ls.take q) ++ 124 :: (c ++ [10]) := flat_take (fun x : Str => 124 :: (x ++ [10])) hc
        have hw2 := ws1 (124 :: (c ++ [10])) (T ++ txL (ls.take q)) (by simp only [List.length_append, List.length_cons, List.length_nil]; omega) (by simp only [txL, List.length_append] at *; omega)
        have hU2 : T ++ txL (ls.take (q + 1)) = (T ++ txL (ls.take q)) ++ 124 :: (c ++ [10]) := by rw [htk2, List.append_assoc]
        generalize T ++ txL (ls.take q) = U at *
        repeat' (first | ((first | refine AW.sreg rfl fun K hK => ?_ | refine AW.reg rfl ?_ | refine run_call _ _ _ ((hw2).robjs [576, 640] ⟨(by first | rfl | (simp [go_sem]; done) | (simp [go_sem]; rfl)), (by first | rfl | (simp [go_sem]; done) | (simp [go_sem]; rfl)), trivial⟩ rfl (by decide) (by simp) (by simp) (by simp [go_sem]) (by simp [go_sem]) (by simp [go_sem]) (by simp [go_sem])) rfl rfl (dstOk_of rfl) rfl rfl rfl ?_); simp only [go_sem, Nat.reduceAdd, Nat.reduceMul, Int.reduceToNat, Nat.reduceLT, Nat.reduceLeDiff, Nat.le_refl, Nat.reduceEqDiff, ↓reduceIte, beq_self_eq_true, bne_self_eq_false, Int.reduceBEq, Int.reduceBNe, or_self, true_or, or_true, Option.map_some, Option.map_none, List.length_map, hget2, Nat.reduceSub, Nat.add_zero]) | (refine AW.seq_k fun K hK => ?_) | (refine AW.block ?_) | (refine AW.skip ?_; simp only [Then, InBlock]) | (refine AW.condT rfl (by first | rfl | (simp; omega) | (simp [*]; done) | fail) ?_) | (refine hK _ ?_; clear hK K) | (with_reducible refine And.intro ?_ ?_; first | omega | assumption | (focus (decide)) | (focus (simp; done)) | (focus (simp; omega)) | (focus (constructor <;> omega)) | fail))
        refine ⟨q + 1, hq, by omega, ?_⟩
        rw [hU2]
        exact (Weak.objs hcx [(576, 576), (640, 1280)] rfl rfl (Nat.le_of_ble_eq_true rfl) (by simp [go_sem, gL, kL, List.map_append, dv_push, bytesD]) (by simp [go_sem, gL, kL, List.map_append, dv_push, bytesD]) (by first | (intro i hi; exact absurd hi (Nat.not_lt_zero _)) | (intro i0 hi0; match i0, hi0 with | 0, _ => exact ⟨_, rfl⟩ | n0+1, h0 => exact absurd h0 (Nat.not_lt.2 (Nat.le_add_left 1 n0))) | (intro i0 hi0; match i0, hi0 with | 0, _ => exact ⟨_, rfl⟩ | 1, _ => exact ⟨_, rfl⟩ | n0+2, h0 => exact absurd h0 (Nat.not_lt.2 (Nat.le_add_left 2 n0))) | (intro i0 hi0; match i0, hi0 with | 0, _ => exact ⟨_, rfl⟩ | 1, _ => exact ⟨_, rfl⟩ | 2, _ => exact ⟨_, rfl⟩ | n0+3, h0 => exact absurd h0 (Nat.not_lt.2 (Nat.le_add_left 3 n0))) | (intro i0 hi0; match i0, hi0 with | 0, _ => exact ⟨_, rfl⟩ | 1, _ => exact ⟨_, rfl⟩ | 2, _ => exact ⟨_, rfl⟩ | 3, _ => exact ⟨_, rfl⟩ | n0+4, h0 => exact absurd h0 (Nat.not_lt.2 (Nat.le_add_left 4 n0)))) (by simp [gL, lk, bytesD]))
      · obtain rfl : q = ls.length := by omega
        rw [hTb]
        repeat' (first | ((first | refine AW.sreg rfl fun K hK => ?_ | refine AW.reg rfl ?_); simp only [go_sem, Nat.reduceAdd, Nat.reduceMul, Int.reduceToNat, Nat.reduceLT, Nat.reduceLeDiff, Nat.le_refl, Nat.reduceEqDiff, ↓reduceIte, beq_self_eq_true, bne_self_eq_false, Int.reduceBEq, Int.reduceBNe, or_self, true_or, or_true, Option.map_some, Option.map_none, List.length_map]) | (refine AW.seq_k fun K hK => ?_) | (refine AW.exit ?_; simp only [go_sem, ↓reduceIte]) | (refine AW.condF rfl (by first | rfl | (simp; omega) | (simp [*]; done) | fail) ?_) | (refine hK _ ?_; clear hK K) | (clear hK K; refine hK _ ?_; clear hK K) | (with_reducible refine And.intro ?_ ?_; first | omega | assumption | (focus (decide)) | (focus (simp; done)) | (focus (simp; omega)) | (focus (constructor <;> omega)) | fail))
        exact ⟨Nat.succ 0, by omega, by omega, (Weak.objs hcx [(576, 576), (640, 640)] rfl rfl (Nat.le_of_ble_eq_true rfl) (by simp [go_sem, gL, kL, List.map_append, dv_push, hsT]) (by simp [go_sem, gL, kL, List.map_append, dv_push, hsT]) (by first | (intro i hi; exact absurd hi (Nat.not_lt_zero _)) | (intro i0 hi0; match i0, hi0 with | 0, _ => exact ⟨_, rfl⟩ | n0+1, h0 => exact absurd h0 (Nat.not_lt.2 (Nat.le_add_left 1 n0))) | (intro i0 hi0; match i0, hi0 with | 0, _ => exact ⟨_, rfl⟩ | 1, _ => exact ⟨_, rfl⟩ | n0+2, h0 => exact absurd h0 (Nat.not_lt.2 (Nat.le_add_left 2 n0))) | (intro i0 hi0; match i0, hi0 with | 0, _ => exact ⟨_, rfl⟩ | 1, _ => exact ⟨_, rfl⟩ | 2, _ => exact ⟨_, rfl⟩ | n0+3, h0 => exact absurd h0 (Nat.not_lt.2 (Nat.le_add_left 3 n0))) | (intro i0 hi0; match i0, hi0 with | 0, _ => exact ⟨_, rfl⟩ | 1, _ => exact ⟨_, rfl⟩ | 2, _ => exact ⟨_, rfl⟩ | 3, _ => exact ⟨_, rfl⟩ | n0+4, h0 => exact absurd h0 (Nat.not_lt.2 (Nat.le_add_left 4 n0)))) (by simp [gL, lk, hsT]))⟩
    | succ n =>
      simp only [hsT]
      have hUl : (txQs (ps.take (n + 1))).length ≤ 64800 := by simp only [txQs] at *; omega
      have hw := ws1 (hdP x ++ [10]) (txQs (ps.take (n + 1))) (by simp only [List.length_append, List.length_cons, List.length_nil]; omega) (by omega)
      rw [hU] at hw
      generalize hls : lnW x.2.2.2.2.2 = ls at *
      repeat' (first | ((first | refine AW.sreg rfl fun K hK => ?_ | refine AW.sregD hmix rfl fun K hK => ?_ | refine run_call _ _ _ ((hln).pure rfl rfl _ _) rfl rfl (dstOk_of rfl) rfl rfl rfl ?_ | refine runT_call _ _ [] (fun hv _ => (i1).pure rfl rfl hv _) rfl rfl (dstOk_of rfl) rfl rfl ?_ | refine runT_call _ _ [] (fun hv _ => (i2).pure rfl rfl hv _) rfl rfl (dstOk_of rfl) rfl rfl ?_ | refine runT_call _ _ [] (fun hv _ => (i3).pure rfl rfl hv _) rfl rfl (dstOk_of rfl) rfl rfl ?_ | refine runT_call _ _ [] (fun hv _ => (i4).pure rfl rfl hv _) rfl rfl (dstOk_of rfl) rfl rfl ?_ | refine runT_call _ _ [2688] (fun hv hag => (hjn).lend (by repeat' (first | exact frzL_nil | refine frzL_cons (by first | exact frz_d | exact frz_slr rfl ((hag 2688 (by simp)).trans rfl) (by first | (simp; done) | (simp; omega) | (simp [*]; done) | fail) | rfl) ?_)) rfl rfl rfl) rfl rfl (dstOk_of rfl) rfl rfl ?_ | refine runT_call _ _ [576, 640] (fun hv hag => (hw).robjs [576, 640] ⟨((hag 576 (by simp)).trans (by first | rfl | (simp [go_sem]; done) | (simp [go_sem]; rfl))), ((hag 640 (by simp)).trans (by first | rfl | (simp [go_sem]; done) | (simp [go_sem]; rfl))), trivial⟩ rfl (by decide) (by simp) (by simp) (by simp [go_sem]) (by simp [go_sem]) (by simp [go_sem]) (by simp [go_sem])) rfl rfl (dstOk_of rfl) rfl rfl ?_); simp only [go_sem, Nat.reduceAdd, Nat.reduceMul, Int.reduceToNat, Nat.reduceLT, Nat.reduceLeDiff, Nat.le_refl, Nat.reduceEqDiff, ↓reduceIte, beq_self_eq_true, bne_self_eq_false, Int.reduceBEq, Int.reduceBNe, or_self, true_or, or_true, Option.map_some, Option.map_none, List.length_map, hget, Nat.reduceSub, Nat.add_zero]) | (refine AW.seq_k fun K hK => ?_) | (refine AW.block ?_) | (refine AW.skip ?_; simp only [Then, InBlock]) | (refine AW.condT rfl (by first | rfl | (simp; omega) | (simp [*]; done) | fail) ?_) | (refine hK _ ?_; clear hK K) | (with_reducible refine And.intro (?_ : regOk _ _ = true) ?_; kernel_rfl) | (with_reducible refine And.intro ?_ ?_; first | omega | assumption | (focus (decide)) | (focus (simp; done)) | (focus (simp; omega)) | (focus (constructor <;> omega)) | fail))
      obtain ⟨T, hT⟩ : ∃ T, txQs (ps.take (n + 1)) ++ (hdP x ++ [10]) = T := ⟨_, rfl⟩
      have hTl2 : T.length ≤ 66000 := by rw [← hT]; simp only [List.length_append, List.length_cons, List.length_nil]; omega
      rw [← hU, hT]
      refine AW.loopF (ι := Nat) [7, 20, 21, 22, 52, 53] (fun q => [(54, I q)]) (fun q => [(576, some (BU (.ptr 576 0) (.slr 640 0 (T ++ txL (ls.take q)).length))), (640, some (BY (T ++ txL (ls.take q))))]) 13 (fun q => q ≤ ls.length) (fun q => ls.length - q) 0 (Nat.zero_le _) (Weak.objs hcx [(576, 576), (640, 2880)] rfl rfl (Nat.le_of_ble_eq_true rfl) (by simp [go_sem, gL, kL, List.map_append, dv_push, ← hT, txL, bytesD]) (by simp [go_sem, gL, kL, List.map_append, dv_push, ← hT, txL, bytesD]) (by first | (intro i hi; exact absurd hi (Nat.not_lt_zero _)) | (intro i0 hi0; match i0, hi0 with | 0, _ => exact ⟨_, rfl⟩ | n0+1, h0 => exact absurd h0 (Nat.not_lt.2 (Nat.le_add_left 1 n0))) | (intro i0 hi0; match i0, hi0 with | 0, _ => exact ⟨_, rfl⟩ | 1, _ => exact ⟨_, rfl⟩ | n0+2, h0 => exact absurd h0 (Nat.not_lt.2 (Nat.le_add_left 2 n0))) | (intro i0 hi0; match i0, hi0 with | 0, _ => exact ⟨_, rfl⟩ | 1, _ => exact ⟨_, rfl⟩ | 2, _ => exact ⟨_, rfl⟩ | n0+3, h0 => exact absurd h0 (Nat.not_lt.2 (Nat.le_add_left 3 n0))) | (intro i0 hi0; match i0, hi0 with | 0, _ => exact ⟨_, rfl⟩ | 1, _ => exact ⟨_, rfl⟩ | 2, _ => exact ⟨_, rfl⟩ | 3, _ => exact ⟨_, rfl⟩ | n0+4, h0 => exact absurd h0 (Nat.not_lt.2 (Nat.le_add_left 4 n0)))) (by simp [gL, lk, ← hT, txL, bytesD])) ?_; simp only [St.at_nil, St.at_cons, lk, Nat.reduceEqDiff, ↓reduceIte, Option.getD_some, Option.getD_none, List.cons_append, List.nil_append, List.append_nil]
      intro q hq1
      have htl2 := flat_take_len (fun x : Str => 124 :: (x ++ [10])) ls q
      have hTb : T ++ txL (ls.take ls.length) = txQs (ps.take ((n + 1) + 1)) := by
        rw [htk, List.take_length, ← hT, htq]; simp
      by_cases hq : q < ls.length
      · obtain ⟨c, hc, hcm, -⟩ := get_some hq
        have hget2 : (ls.map D.str)[q]? = some (.str c) := by simp [hc]
        have hcl := hwl c hcm
        have htk2 : txL (ls.take (q + 1)) = txL (ls.take q) ++ 124 :: (c ++ [10]) := flat_take (fun x : Str => 124 :: (x ++ [10])) hc
        have hw2 := ws1 (124 :: (c ++ [10])) (T ++ txL (ls.take q)) (by simp only [List.length_append, List.length_cons, List.length_nil]; omega) (by simp only [txL, List.length_append] at *; omega)
        have hU2 : T ++ txL (ls.take (q + 1)) = (T ++ txL (ls.take q)) ++ 124 :: (c ++ [10]) := by rw [htk2, List.append_assoc]
        generalize T ++ txL (ls.take q) = U at *
        repeat' (first | ((first | refine AW.sreg rfl fun K hK => ?_ | refine AW.reg rfl ?_ | refine run_call _ _ _ ((hw2).robjs [576, 640] ⟨(by first | rfl | (simp [go_sem]; done) | (simp [go_sem]; rfl)), (by first | rfl | (simp [go_sem]; done) | (simp [go_sem]; rfl)), trivial⟩ rfl (by decide) (by simp) (by simp) (by simp [go_sem]) (by simp [go_sem]) (by simp [go_sem]) (by simp [go_sem])) rfl rfl (dstOk_of rfl) rfl rfl rfl ?_); simp only [go_sem, Nat.reduceAdd, Nat.reduceMul, Int.reduceToNat, Nat.reduceLT, Nat.reduceLeDiff, Nat.le_refl, Nat.reduceEqDiff, ↓reduceIte, beq_self_eq_true, bne_self_eq_false, Int.reduceBEq, Int.reduceBNe, or_self, true_or, or_true, Option.map_some, Option.map_none, List.length_map, hget2, Nat.reduceSub, Nat.add_zero]) | (refine AW.seq_k fun K hK => ?_) | (refine AW.block ?_) | (refine AW.skip ?_; simp only [Then, InBlock]) | (refine AW.condT rfl (by first | rfl | (simp; omega) | (simp [*]; done) | fail) ?_) | (refine hK _ ?_; clear hK K) | (with_reducible refine And.intro ?_ ?_; first | omega | assumption | (focus (decide)) | (focus (simp; done)) | (focus (simp; omega)) | (focus (constructor <;> omega)) | fail))
        refine ⟨q + 1, hq, by omega, ?_⟩
        rw [hU2]
        exact (Weak.objs hcx [(576, 576), (640, 1280)] rfl rfl (Nat.le_of_ble_eq_true rfl) (by simp [go_sem, gL, kL, List.map_append, dv_push, bytesD]) (by simp [go_sem, gL, kL, List.map_append, dv_push, bytesD]) (by first | (intro i hi; exact absurd hi (Nat.not_lt_zero _)) | (intro i0 hi0; match i0, hi0 with | 0, _ => exact ⟨_, rfl⟩ | n0+1, h0 => exact absurd h0 (Nat.not_lt.2 (Nat.le_add_left 1 n0))) | (intro i0 hi0; match i0, hi0 with | 0, _ => exact ⟨_, rfl⟩ | 1, _ => exact ⟨_, rfl⟩ | n0+2, h0 => exact absurd h0 (Nat.not_lt.2 (Nat.le_add_left 2 n0))) | (intro i0 hi0; match i0, hi0 with | 0, _ => exact ⟨_, rfl⟩ | 1, _ => exact ⟨_, rfl⟩ | 2, _ => exact ⟨_, rfl⟩ | n0+3, h0 => exact absurd h0 (Nat.not_lt.2 (Nat.le_add_left 3 n0))) | (intro i0 hi0; match i0, hi0 with | 0, _ => exact ⟨_, rfl⟩ | 1, _ => exact ⟨_, rfl⟩ | 2, _ => exact ⟨_, rfl⟩ | 3, _ => exact ⟨_, rfl⟩ | n0+4, h0 => exact absurd h0 (Nat.not_lt.2 (Nat.le_add_left 4 n0)))) (by simp [gL, lk, bytesD]))
      · obtain rfl : q = ls.length := by omega
        rw [hTb]
        repeat' (first | ((first | refine AW.sreg rfl fun K hK => ?_ | refine AW.reg rfl ?_); simp only [go_sem, Nat.reduceAdd, Nat.reduceMul, Int.reduceToNat, Nat.reduceLT, Nat.reduceLeDiff, Nat.le_refl, Nat.reduceEqDiff, ↓reduceIte, beq_self_eq_true, bne_self_eq_false, Int.reduceBEq, Int.reduceBNe, or_self, true_or, or_true, Option.map_some, Option.map_none, List.length_map]) | (refine AW.seq_k fun K hK => ?_) | (refine AW.exit ?_; simp only [go_sem, ↓reduceIte]) | (refine AW.condF rfl (by first | rfl | (simp; omega) | (simp [*]; done) | fail) ?_) | (refine hK _ ?_; clear hK K) | (clear hK K; refine hK _ ?_; clear hK K) | (with_reducible refine And.intro ?_ ?_; first | omega | assumption | (focus (decide)) | (focus (simp; done)) | (focus (simp; omega)) | (focus (constructor <;> omega)) | fail))
        exact ⟨Nat.succ (n + 1), by omega, by omega, (Weak.objs hcx [(576, 576), (640, 640)] rfl rfl (Nat.le_of_ble_eq_true rfl) (by simp [go_sem, gL, kL, List.map_append, dv_push, hsT]) (by simp [go_sem, gL, kL, List.map_append, dv_push, hsT]) (by first | (intro i hi; exact absurd hi (Nat.not_lt_zero _)) | (intro i0 hi0; match i0, hi0 with | 0, _ => exact ⟨_, rfl⟩ | n0+1, h0 => exact absurd h0 (Nat.not_lt.2 (Nat.le_add_left 1 n0))) | (intro i0 hi0; match i0, hi0 with | 0, _ => exact ⟨_, rfl⟩ | 1, _ => exact ⟨_, rfl⟩ | n0+2, h0 => exact absurd h0 (Nat.not_lt.2 (Nat.le_add_left 2 n0))) | (intro i0 hi0; match i0, hi0 with | 0, _ => exact ⟨_, rfl⟩ | 1, _ => exact ⟨_, rfl⟩ | 2, _ => exact ⟨_, rfl⟩ | n0+3, h0 => exact absurd h0 (Nat.not_lt.2 (Nat.le_add_left 3 n0))) | (intro i0 hi0; match i0, hi0 with | 0, _ => exact ⟨_, rfl⟩ | 1, _ => exact ⟨_, rfl⟩ | 2, _ => exact ⟨_, rfl⟩ | 3, _ => exact ⟨_, rfl⟩ | n0+4, h0 => exact absurd h0 (Nat.not_lt.2 (Nat.le_add_left 4 n0)))) (by simp [gL, lk, hsT]))⟩
  · obtain rfl : i = ps.length := by omega
    cases ps with
    | nil =>
      simp only [List.length_nil, hsT]
      repeat' (first | ((first | refine AW.sreg rfl fun K hK => ?_ | refine run_call _ _ _ ((len0).objs [576] ⟨rfl, trivial⟩ rfl (by decide) (by simp [go_sem, renOs]) (by simp) (by simp) (by simp [go_sem]) (by simp [go_sem]) (by simp [go_sem]) (by simp [go_sem])) rfl rfl (dstOk_of rfl) rfl rfl rfl ?_ | refine run_call _ _ _ ((str0).objs [576] ⟨rfl, trivial⟩ rfl (by decide) (by simp [go_sem, renOs]) (by simp) (by simp) (by simp [go_sem]) (by simp [go_sem]) (by simp [go_sem]) (by simp [go_sem])) rfl rfl (dstOk_of rfl) rfl rfl rfl ?_); simp only [go_sem, Nat.reduceAdd, Nat.reduceMul, Int.reduceToNat, Nat.reduceLT, Nat.reduceLeDiff, Nat.le_refl, Nat.reduceEqDiff, ↓reduceIte, beq_self_eq_true, bne_self_eq_false, Int.reduceBEq, Int.reduceBNe, or_self, true_or, or_true, Option.map_some, Option.map_none, List.length_nil]) | (refine AW.seq_k fun K hK => ?_) | (refine AW.skip ?_; simp only [Then, InBlock]) | (refine AW.exit ?_; simp only [go_sem, ↓reduceIte]) | (refine AW.condF rfl (by first | rfl | (simp; omega) | (simp [*]; done) | fail) ?_) | (refine hK _ ?_; clear hK K) | (clear hK K; refine hK _ ?_; clear hK K))
      exact AW.ret (Fin.data rfl (by simp [go_sem, txQs]) rfl)
    | cons y r =>
      have htk : (y :: r).take (r.length + 1) = y :: r := List.take_of_length_le (by simp)
      simp only [List.length_cons, hsT, htk] at hlen ⊢
      have hpos : 0 < (txQs (y :: r)).length := by simp [txQs, txQ]; omega
      have hle := len1 (txQs (y :: r)).length (txQs (y :: r))
      have hst := str1 (txQs (y :: r)) hpos (by omega)
      generalize txQs (y :: r) = T at *
      repeat' (first | ((first | refine AW.sreg rfl fun K hK => ?_ | refine run_call _ _ _ ((hle).robjs [576, 640] ⟨(by first | rfl | (simp [go_sem]; done) | (simp [go_sem]; rfl)), (by first | rfl | (simp [go_sem]; done) | (simp [go_sem]; rfl)), trivial⟩ rfl (by decide) (by simp) (by simp) (by simp [go_sem]) (by simp [go_sem]) (by simp [go_sem]) (by simp [go_sem])) rfl rfl (dstOk_of rfl) rfl rfl rfl ?_ | refine run_call _ _ _ ((hst).robjs [576, 640] ⟨(by first | rfl | (simp [go_sem]; done) | (simp [go_sem]; rfl)), (by first | rfl | (simp [go_sem]; done) | (simp [go_sem]; rfl)), trivial⟩ rfl (by decide) (by simp) (by simp) (by simp [go_sem]) (by simp [go_sem]) (by simp [go_sem]) (by simp [go_sem])) rfl rfl (dstOk_of rfl) rfl rfl rfl ?_); simp only [go_sem, Nat.reduceAdd, Nat.reduceMul, Int.reduceToNat, Nat.reduceLT, Nat.reduceLeDiff, Nat.le_refl, Nat.reduceEqDiff, ↓reduceIte, beq_self_eq_true, bne_self_eq_false, Int.reduceBEq, Int.reduceBNe, or_self, true_or, or_true, Option.map_some, Option.map_none, List.length_cons]) | (refine AW.seq_k fun K hK => ?_) | (refine AW.skip ?_; simp only [Then, InBlock]) | (refine AW.exit ?_; simp only [go_sem, ↓reduceIte]) | (refine AW.condF rfl (by first | rfl | (simp; omega) | (simp [*]; done) | fail) ?_) | (refine hK _ ?_; clear hK K) | (clear hK K; refine hK _ ?_; clear hK K))
      exact AW.ret (Fin.data rfl (by simp [go_sem]) rfl)
end Go.AX

namespace Go.AX
open Go Go.Proofs Go.RowKit
theorem numbersO (a b c d : Int) (ha : 0 ≤ a ∧ a ≤ 101) (hb : 0 ≤ b ∧ b ≤ 101) (hc : 0 ≤ c ∧ c ≤ 101) (hd : 0 ≤ d ∧ d ≤ 101) :
    Does Tryz.prog 78 [.slr 0 0 4] [.vec 9 1 [S (itS a), S (itS b), S (itS c), S (itS d)]] (.tup [.d (.sl [.int .i64 a, .int .i64 b, .int .i64 c, .int .i64 d]), B true]) [.vec 9 1 [S (itS a), S (itS b), S (itS c), S (itS d)]] := by
  have c1 := small_any a ha.1 ha.2
  have c2 := small_any b hb.1 hb.2
  have c3 := small_any c hc.1 hc.2
  have c4 := small_any d hd.1 hd.2
  generalize itS a = sa at *
  generalize itS b = sb at *
  generalize itS c = sc at *
  generalize itS d = sd at *
  refine Does.of_AW (n := 28) Tryz.func78 rfl rfl rfl fun cx hcx => ?_
  repeat' (first | ((first | refine AW.sreg rfl fun K hK => ?_ | refine AW.reg rfl ?_ | refine run_call _ _ _ ((c1).pure rfl rfl _ _) rfl rfl (dstOk_of rfl) rfl rfl rfl ?_ | refine run_call _ _ _ ((c2).pure rfl rfl _ _) rfl rfl (dstOk_of rfl) rfl rfl rfl ?_ | refine run_call _ _ _ ((c3).pure rfl rfl _ _) rfl rfl (dstOk_of rfl) rfl rfl rfl ?_ | refine run_call _ _ _ ((c4).pure rfl rfl _ _) rfl rfl (dstOk_of rfl) rfl rfl rfl ?_); simp only [go_sem, Nat.reduceAdd, Nat.reduceMul, Int.reduceToNat, Nat.reduceLT, Nat.reduceLeDiff, Nat.le_refl, Nat.reduceEqDiff, ↓reduceIte, beq_self_eq_true, bne_self_eq_false, Int.reduceBEq, Int.reduceBNe, or_self, true_or, or_true, Option.map_some, Option.map_none, Int.zero_add, Int.reduceAdd]) | (refine AW.seq_k fun K hK => ?_) | (refine AW.block ?_) | (refine AW.skip ?_; simp only [Then, InBlock]) | (refine AW.exit ?_; simp only [go_sem, ↓reduceIte]) | (refine AW.condT rfl (by first | rfl | (simp; omega) | (simp [*]; done) | fail) ?_) | (refine AW.condF rfl (by first | rfl | (simp; omega) | (simp [*]; done) | fail) ?_) | (refine hK _ ?_; clear hK K) | (clear hK K; refine hK _ ?_; clear hK K) | (refine AW.unroll 5 ?_; simp only [AWr]) | (with_reducible refine And.intro ?_ ?_; first | omega | assumption | (focus (decide)) | (focus (simp; done)) | (focus (simp; omega)) | (focus (constructor <;> omega)) | fail))
  exact AW.ret (Fin.one rfl (by simp [go_sem]) ⟨_, rfl, by simp [go_sem]⟩ rfl rfl rfl)
theorem hdP_read {n : Nat} {p : Po} (hn : n ≤ 100) (h : GPo n p) : Does Tryz.prog 41 [S (hdP p)] [] (.tup [.d (poD (part p 0)), I (nL p), B true]) [] := by
  have h1 := hdP_ok hn h
  have hw := words_any (hdP p) (by omega) (ws7 p) h1.1 (fun x hx => (ws7_plain hn h x hx).1) (by simp [ws7])
  have hq := numbersO p.1 p.2.1 p.2.2.2.2.1 ((lnW p.2.2.2.2.2).length : Nat) (by rw [h.no]; omega) h.at_ (by have := h.tt; omega) (by have := h.wo.2.2.2.1; omega)
  have hlo : (0 : Int) ≤ ((lnW p.2.2.2.2.2).length : Nat) := by omega
  simp only [ws7, List.map_cons, List.map_nil] at hw
  unfold part nL
  simp only [List.take_zero, joinW, List.flatMap_nil]
  generalize hdP p = L at *
  generalize itS ((lnW p.2.2.2.2.2).length : Nat) = s4 at *
  generalize (lnW p.2.2.2.2.2).length = k at *
  generalize itS p.1 = s1 at *
  generalize itS p.2.1 = s2 at *
  generalize itS p.2.2.2.2.1 = s3 at *
  have hgg : ¬ ((k : Nat) : Int) < 0 := by omega
  refine Does.of_AW (n := 71) Tryz.func41 rfl rfl rfl fun cx hcx => ?_
  repeat' (first | ((first | refine AW.sreg rfl fun K hK => ?_ | refine AW.sregD hmix rfl fun K hK => ?_ | refine run_call _ _ _ ((hw).pure rfl rfl _ _) rfl rfl (dstOk_of rfl) rfl rfl rfl ?_ | refine runT_call _ _ [2240] (fun hv hag => (hq).objs [2240] ⟨((hag 2240 (by simp)).trans rfl), trivial⟩ rfl (by decide) (by simp [go_sem, renOs]) (by simp) (by simp) (by simp [go_sem]) (by simp [go_sem]) (by simp [go_sem]) (by simp [go_sem])) rfl rfl (dstOk_of rfl) rfl rfl ?_); simp only [go_sem, Nat.reduceAdd, Nat.reduceMul, Int.reduceToNat, Nat.reduceLT, Nat.reduceLeDiff, Nat.le_refl, Nat.reduceEqDiff, ↓reduceIte, beq_self_eq_true, bne_self_eq_false, Int.reduceBEq, Int.reduceBNe, or_self, true_or, or_true, Option.map_some, Option.map_none, hgg]) | (refine AW.seq_k fun K hK => ?_) | (refine AW.skip ?_; simp only [Then, InBlock]) | (refine AW.condT rfl (by first | rfl | (simp; omega) | (simp [*]; done) | fail) ?_) | (refine AW.condF rfl (by first | rfl | (simp; omega) | (simp [*]; done) | fail) ?_) | (refine hK _ ?_; clear hK K) | (refine stepB_split (fun h => ?_) (fun h => ?_) <;> (have hb0 := h) <;> (try simp only [Bool.not_eq_true', Bool.not_eq_false'] at hb0) <;> (try simp only [decide_eq_true_eq, decide_eq_false_iff_not, Bool.not_eq_true', Bool.not_eq_false', Bool.not_eq_eq_eq_not, Bool.not_true, Bool.not_false, beq_iff_eq, bne_iff_ne, beq_eq_false_iff_ne, ne_eq, Bool.and_eq_true, Bool.or_eq_true, Bool.or_eq_false_iff] at h) <;> simp only [go_sem, Nat.reduceAdd, Nat.reduceMul, Int.reduceToNat, Nat.reduceLT, Nat.reduceLeDiff, Nat.le_refl, Nat.reduceEqDiff, ↓reduceIte, beq_self_eq_true, bne_self_eq_false, Int.reduceBEq, Int.reduceBNe, or_self, true_or, or_true, Option.map_some, Option.map_none, hb0, h, decide_true, decide_false, hgg] <;> (try clear hb0)) | (with_reducible refine And.intro (?_ : regOk _ _ = true) ?_; kernel_rfl) | (with_reducible refine And.intro ?_ ?_; first | omega | assumption | (focus (decide)) | (focus (simp; done)) | (focus (simp; omega)) | (focus (constructor <;> omega)) | fail) | (exfalso; omega))
  all_goals exact AW.ret (Fin.data rfl (by simp [go_sem, po_size]) rfl)
def misL (q : Po) : Nat → Int
  | 0 => 0
  | r + 1 => (nL q : Int) - r
def outL (ps : List Po) (i : Nat) (q : Po) : Nat → List Po
  | 0 => ps.take i
  | r + 1 => ps.take i ++ [part q r]
theorem read_ok (b : Bd) (hb : BdS b) (hp : BdP b) (ps : List Po) (hl : ps.length ≤ 8) (hf : ∀ p ∈ ps, FinPo p) (hz : cpF b ps = 0) : Does Tryz.prog 11 [.d (bdD b), S (txQs ps)] [] (.tup [.d (.sl (ps.map poD)), I 0, I 0]) [] := by
  have hck := checkPo b hb hp ps hl hf
  have hg := cpF_zero hf hz
  have hcb := checkBoard_any b hb hp
  have hb0 : bfR b = 0 := by
    unfold cpF at hz
    split at hz
    · rename_i h; exact absurd hz h
    · rename_i h; simpa using h
  rw [hz] at hck
  rw [hb0] at hcb
  clear hz hb0
  have hlen := txQs_len hl hg
  have hsp : splitB 10 (txQs ps) = linesQs ps ++ [[]] := by
    rw [txQs_lines]
    exact splitB_lines 10 _ (linesQs_nl hl hg)
  have hll : (linesQs ps).length ≤ 64800 := by
    have h : ∀ ls : List Str, ls.length ≤ (ls.flatMap (· ++ [10])).length := by
      intro ls
      induction ls with
      | nil => simp
      | cons x r ih => simp only [List.flatMap_cons, List.length_append, List.length_cons, List.length_nil]; omega
    have := h (linesQs ps)
    rw [← txQs_lines] at this
    omega
  have hln := lines_any (txQs ps) (by omega) (linesQs ps) hsp (by omega)
  generalize txQs ps = T at *
  refine Does.of_AW (n := 101) Tryz.func11 rfl rfl rfl fun cx hcx => ?_
  repeat' (first | ((first | refine AW.sreg rfl fun K hK => ?_ | refine run_call _ _ _ ((hcb).pure rfl rfl _ _) rfl rfl (dstOk_of rfl) rfl rfl rfl ?_ | refine run_call _ _ _ ((hln).pure rfl rfl _ _) rfl rfl (dstOk_of rfl) rfl rfl rfl ?_); simp only [go_sem, Nat.reduceAdd, Nat.reduceMul, Int.reduceToNat, Nat.reduceLT, Nat.reduceLeDiff, Nat.le_refl, Nat.reduceEqDiff, ↓reduceIte, beq_self_eq_true, bne_self_eq_false, Int.reduceBEq, Int.reduceBNe, or_self, true_or, or_true, Option.map_some, Option.map_none, List.length_map]) | (refine AW.seq_k fun K hK => ?_) | (refine AW.block ?_) | (refine AW.skip ?_; simp only [Then, InBlock]) | (refine AW.condF rfl (by first | rfl | (simp; omega) | (simp [*]; done) | fail) ?_) | (refine hK _ ?_; clear hK K))
  refine AW.weak (Weak.nil 10 44 6 rfl) ?_
  refine AW.loopF (ι := Nat × Nat × Po) [2, 8, 9, 34, 35] (fun p => [(10, .slr 640 0 (outL ps p.1 p.2.2 p.2.1).length), (11, I (misL p.2.2 p.2.1)), (36, I ((off ps p.1 + p.2.1 : Nat) : Int))]) (fun p => [(0, some (O.box 30 (bdV b))), (640, some (O.vec 44 6 (dv ((outL ps p.1 p.2.2 p.2.1).map poD))))]) 24 (fun p => p.1 ≤ ps.length ∧ (p.2.1 = 0 ∨ (ps[p.1]? = some p.2.2 ∧ p.2.1 ≤ nL p.2.2))) (fun p => (linesQs ps).length - (off ps p.1 + p.2.1)) (0, 0, ((0, 0, [], [], 0, []) : Po)) ⟨Nat.zero_le _, .inl rfl⟩ (Weak.auto hcx rfl rfl (Nat.le_of_ble_eq_true rfl) (by simp [go_sem, gL, kL, renOf, V.obj, lk, Nat.blt, Nat.ble, List.map_append, dv_push, outL, misL, off, linesQs, dvz, List.take_zero, List.flatMap_nil, List.length_nil, List.map_nil]) (by simp [go_sem, gL, kL, renOf, V.obj, lk, Nat.blt, Nat.ble, List.map_append, dv_push, outL, misL, off, linesQs, dvz, List.take_zero, List.flatMap_nil, List.length_nil, List.map_nil]) (by first | (intro i hi; exact absurd hi (Nat.not_lt_zero _)) | (intro i0 hi0; match i0, hi0 with | 0, _ => exact ⟨_, rfl⟩ | n0+1, h0 => exact absurd h0 (Nat.not_lt.2 (Nat.le_add_left 1 n0))) | (intro i0 hi0; match i0, hi0 with | 0, _ => exact ⟨_, rfl⟩ | 1, _ => exact ⟨_, rfl⟩ | n0+2, h0 => exact absurd h0 (Nat.not_lt.2 (Nat.le_add_left 2 n0))) | (intro i0 hi0; match i0, hi0 with | 0, _ => exact ⟨_, rfl⟩ | 1, _ => exact ⟨_, rfl⟩ | 2, _ => exact ⟨_, rfl⟩ | n0+3, h0 => exact absurd h0 (Nat.not_lt.2 (Nat.le_add_left 3 n0))) | (intro i0 hi0; match i0, hi0 with | 0, _ => exact ⟨_, rfl⟩ | 1, _ => exact ⟨_, rfl⟩ | 2, _ => exact ⟨_, rfl⟩ | 3, _ => exact ⟨_, rfl⟩ | n0+4, h0 => exact absurd h0 (Nat.not_lt.2 (Nat.le_add_left 4 n0)))) (by simp [go_sem, gL, kL, lk, renOf, V.obj, Nat.blt, Nat.ble, outL, misL, off, linesQs, dvz, List.take_zero, List.flatMap_nil, List.length_nil, List.map_nil])) ?_; simp only [St.at_nil, St.at_cons, lk, Nat.reduceEqDiff, ↓reduceIte, Option.getD_some, Option.getD_none, List.cons_append, List.nil_append, List.append_nil]
  rintro ⟨i, k, q⟩ ⟨h1, h2⟩
  simp only at h1 h2 ⊢
  by_cases hi : i < ps.length
  · obtain ⟨g, hgi, hgm, -⟩ := get_some hi
    have hG := hg i g hgi
    have hos := off_succ hgi
    have hA : (ps.take i).length = i := by simp; omega
    have hn1 : 1 ≤ nL g := hG.wo.2.2.1
    have hn2 : nL g ≤ 2 := hG.wo.2.2.2.1
    have htk : ps.take (i + 1) = ps.take i ++ [g] := by rw [List.take_add_one, hgi]; rfl
    have hat : ∀ k, k < 1 + nL g → ((linesQs ps).map D.str)[off ps i + k]? = ((linesQ g)[k]?).map D.str := by
      intro k hk; rw [List.getElem?_map, line_at hgi hk]
    have hltl : ∀ k, k < 1 + nL g → off ps i + k < (linesQs ps).length := fun k hk => line_lt hgi hk
    rcases k with _ | r
    · -- the head
      have hget := hat 0 (by omega)
      have hlt := hltl 0 (by omega)
      simp only [linesQ, List.getElem?_cons_zero, Option.map_some, Nat.add_zero] at hget hlt
      have hrd := hdP_read (by omega) hG
      have hms : misL g 1 = (nL g : Int) := by simp [misL]
      obtain ⟨A, hAe⟩ : ∃ A, ps.take i = A := ⟨_, rfl⟩
      obtain ⟨y, hye⟩ : ∃ y, part g 0 = y := ⟨_, rfl⟩
      have hou : outL ps i g 1 = A ++ [y] := by rw [← hAe, ← hye]; rfl
      rw [hye] at hrd
      have ho0 : outL ps i q 0 = A := hAe
      have hm0 : misL q 0 = 0 := rfl
      simp only [ho0, hm0, Nat.add_zero]
      have htd : List.take A.length (dv (A.map poD)) = dv (A.map poD) := List.take_of_length_le (by simp [dv])
      rw [hAe] at hA
      clear hAe hye
      repeat' (first | ((first | refine AW.sreg rfl fun K hK => ?_ | refine AW.reg rfl ?_ | refine run_call _ _ _ ((hrd).pure rfl rfl _ _) rfl rfl (dstOk_of rfl) rfl rfl rfl ?_); simp only [go_sem, Nat.reduceAdd, Nat.reduceMul, Int.reduceToNat, Nat.reduceLT, Nat.reduceLeDiff, Nat.le_refl, Nat.reduceEqDiff, ↓reduceIte, beq_self_eq_true, bne_self_eq_false, Int.reduceBEq, Int.reduceBNe, or_self, true_or, or_true, Option.map_some, Option.map_none, List.length_map, hget, htd, dv_length]) | (refine AW.seq_k fun K hK => ?_) | (refine AW.block ?_) | (refine AW.skip ?_; simp only [Then, InBlock]) | (refine AW.condT rfl (by first | rfl | (simp; omega) | (simp [*]; done) | fail) ?_) | (refine AW.condF rfl (by first | rfl | (simp; omega) | (simp [*]; done) | fail) ?_) | (refine hK _ ?_; clear hK K) | (with_reducible refine And.intro ?_ ?_; first | omega | assumption | (focus (decide)) | (focus (simp; done)) | (focus (simp; omega)) | (focus (constructor <;> omega)) | fail))
      exact ⟨(i, 1, g), ⟨h1, .inr ⟨hgi, by simp only; omega⟩⟩, by simp only; omega, (Weak.auto hcx rfl rfl (Nat.le_of_ble_eq_true rfl) (by simp [go_sem, gL, kL, renOf, V.obj, lk, Nat.blt, Nat.ble, List.map_append, dv_push, hms, hou]) (by simp [go_sem, gL, kL, renOf, V.obj, lk, Nat.blt, Nat.ble, List.map_append, dv_push, hms, hou]) (by first | (intro i hi; exact absurd hi (Nat.not_lt_zero _)) | (intro i0 hi0; match i0, hi0 with | 0, _ => exact ⟨_, rfl⟩ | n0+1, h0 => exact absurd h0 (Nat.not_lt.2 (Nat.le_add_left 1 n0))) | (intro i0 hi0; match i0, hi0 with | 0, _ => exact ⟨_, rfl⟩ | 1, _ => exact ⟨_, rfl⟩ | n0+2, h0 => exact absurd h0 (Nat.not_lt.2 (Nat.le_add_left 2 n0))) | (intro i0 hi0; match i0, hi0 with | 0, _ => exact ⟨_, rfl⟩ | 1, _ => exact ⟨_, rfl⟩ | 2, _ => exact ⟨_, rfl⟩ | n0+3, h0 => exact absurd h0 (Nat.not_lt.2 (Nat.le_add_left 3 n0))) | (intro i0 hi0; match i0, hi0 with | 0, _ => exact ⟨_, rfl⟩ | 1, _ => exact ⟨_, rfl⟩ | 2, _ => exact ⟨_, rfl⟩ | 3, _ => exact ⟨_, rfl⟩ | n0+4, h0 => exact absurd h0 (Nat.not_lt.2 (Nat.le_add_left 4 n0)))) (by simp [go_sem, gL, kL, lk, renOf, V.obj, Nat.blt, Nat.ble, hms, hou]))⟩
    · -- a line
      obtain ⟨hqg, hk⟩ : q = g ∧ r + 1 ≤ nL q := by
        rcases h2 with h2 | ⟨h2, h3⟩
        · cases h2
        · rw [hgi] at h2
          cases h2
          exact ⟨rfl, h3⟩
      subst hqg
      obtain ⟨x, hx, hxm, -⟩ := get_some (l := lnW q.2.2.2.2.2) (i := r) hk
      have hget := hat (r + 1) (by omega)
      have hlt := hltl (r + 1) (by omega)
      rw [show (linesQ q)[r + 1]? = some (lnX x) by simp [linesQ, hx], Option.map_some] at hget
      obtain ⟨J, hJ⟩ : ∃ J, off ps i + (r + 1) = J := ⟨_, rfl⟩
      rw [hJ] at hget hlt
      have hcp := cutPrefix_any x (by have := hG.wo.len x hxm; omega)
      have hm0 : (0 : Int) < (nL q : Int) - (r : Int) := by omega
      have hps : part q (r + 1) = (q.1, q.2.1, q.2.2.1, q.2.2.2.1, q.2.2.2.2.1, (part q r).2.2.2.2.2 ++ (x ++ [10])) := by
        rw [← part_succ hx]; rfl
      have hpr : part q r = (q.1, q.2.1, q.2.2.1, q.2.2.2.1, q.2.2.2.2.1, (part q r).2.2.2.2.2) := rfl
      have hpa := part_all hG.wo
      have hms : misL q (r + 2) = (nL q : Int) - (r : Int) - 1 := by simp only [misL]; omega
      have hou : outL ps i q (r + 2) = ps.take i ++ [part q (r + 1)] := rfl
      have hou2 : outL ps (i + 1) q 0 = ps.take i ++ [q] := by rw [← htk]; rfl
      have hpw : (part q r).2.2.2.2.2.length ≤ 1000000 := by
        have h3 : ((lnW q.2.2.2.2.2).take r).length ≤ 2 := by simp only [List.length_take]; unfold nL at hn2; omega
        have := flat_len (fun x : Str => x ++ [10]) 4001 ((lnW q.2.2.2.2.2).take r) fun y hy => by
          have := hG.wo.len y (List.mem_of_mem_take hy)
          simp only [List.length_append, List.length_cons, List.length_nil]; omega
        simp only [part, joinW]
        omega
      have hxl := hG.wo.len x hxm
      obtain ⟨A, hAe⟩ : ∃ A, ps.take i = A := ⟨_, rfl⟩
      obtain ⟨W, hWe⟩ : ∃ W, (part q r).2.2.2.2.2 = W := ⟨_, rfl⟩
      rw [hWe] at hps hpr hpw
      rw [hps, hAe] at hou
      rw [hAe] at hou2
      have ho0 : outL ps i q (r + 1) = A ++ [part q r] := by rw [← hAe]; rfl
      have hm1 : misL q (r + 1) = (nL q : Int) - (r : Int) := rfl
      simp only [ho0, hm1, hJ]
      rw [hpr]
      rw [hAe] at hA
      clear hAe hWe
      have hidx : (((A.length + 1 : Nat) : Int) - 1).toNat = A.length := by omega
      have hgl : ∀ v : D, (dv (A.map poD ++ [v]))[0 + A.length]? = some (.d v) := by intro v; simp [dv]
      have hst : ∀ v v' : D, (dv (A.map poD ++ [v])).set (0 + A.length) (.d v') = dv (A.map poD ++ [v']) := by intro v v'; simp [dv]
      have hla : (A ++ [(q.1, q.2.1, q.2.2.1, q.2.2.2.1, q.2.2.2.2.1, W)] : List Po).length = A.length + 1 := by simp
      simp only [List.map_append, List.map_cons, List.map_nil, hla]
      simp only [lnX] at hget
      by_cases hr : r + 1 = nL q
      · rw [hr, hpa] at hps
        have hou3 : outL ps (i + 1) q 0 = A ++ [(q.1, q.2.1, q.2.2.1, q.2.2.2.1, q.2.2.2.2.1, W ++ (x ++ [10]))] := hou2.trans (congrArg (fun z => A ++ [z]) hps)
        have hms2 : misL q 0 = (nL q : Int) - (r : Int) - 1 := by simp only [misL]; omega
        have hJ2 : off ps (i + 1) = J + 1 := by omega
        repeat' (first | ((first | refine AW.sreg rfl fun K hK => ?_ | refine AW.reg rfl ?_ | refine run_call _ _ _ ((hcp).pure rfl rfl _ _) rfl rfl (dstOk_of rfl) rfl rfl rfl ?_); simp only [go_sem, Nat.reduceAdd, Nat.reduceMul, Int.reduceToNat, Nat.reduceLT, Nat.reduceLeDiff, Nat.le_refl, Nat.reduceEqDiff, ↓reduceIte, beq_self_eq_true, bne_self_eq_false, Int.reduceBEq, Int.reduceBNe, or_self, true_or, or_true, Option.map_some, Option.map_none, List.length_map, hget, hidx, hgl, hst, hm0, dv_length]) | (refine AW.seq_k fun K hK => ?_) | (refine AW.block ?_) | (refine AW.skip ?_; simp only [Then, InBlock]) | (refine AW.condT rfl (by first | rfl | (simp; omega) | (simp [*]; done) | fail) ?_) | (refine AW.condF rfl (by first | rfl | (simp; omega) | (simp [*]; done) | fail) ?_) | (refine hK _ ?_; clear hK K) | (with_reducible refine And.intro ?_ ?_; first | omega | assumption | (focus (decide)) | (focus (simp; done)) | (focus (simp; omega)) | (focus (constructor <;> omega)) | fail))
        exact ⟨(i + 1, 0, q), ⟨hi, .inl rfl⟩, by simp only; omega, (Weak.auto hcx rfl rfl (Nat.le_of_ble_eq_true rfl) (by simp [go_sem, gL, kL, renOf, V.obj, lk, Nat.blt, Nat.ble, List.map_append, dv_push, hou3, hms2, hJ2]) (by simp [go_sem, gL, kL, renOf, V.obj, lk, Nat.blt, Nat.ble, List.map_append, dv_push, hou3, hms2, hJ2]) (by first | (intro i hi; exact absurd hi (Nat.not_lt_zero _)) | (intro i0 hi0; match i0, hi0 with | 0, _ => exact ⟨_, rfl⟩ | n0+1, h0 => exact absurd h0 (Nat.not_lt.2 (Nat.le_add_left 1 n0))) | (intro i0 hi0; match i0, hi0 with | 0, _ => exact ⟨_, rfl⟩ | 1, _ => exact ⟨_, rfl⟩ | n0+2, h0 => exact absurd h0 (Nat.not_lt.2 (Nat.le_add_left 2 n0))) | (intro i0 hi0; match i0, hi0 with | 0, _ => exact ⟨_, rfl⟩ | 1, _ => exact ⟨_, rfl⟩ | 2, _ => exact ⟨_, rfl⟩ | n0+3, h0 => exact absurd h0 (Nat.not_lt.2 (Nat.le_add_left 3 n0))) | (intro i0 hi0; match i0, hi0 with | 0, _ => exact ⟨_, rfl⟩ | 1, _ => exact ⟨_, rfl⟩ | 2, _ => exact ⟨_, rfl⟩ | 3, _ => exact ⟨_, rfl⟩ | n0+4, h0 => exact absurd h0 (Nat.not_lt.2 (Nat.le_add_left 4 n0)))) (by simp [go_sem, gL, kL, lk, renOf, V.obj, Nat.blt, Nat.ble, hou3, hms2, hJ2]))⟩
      · have hJ2 : off ps i + (r + 2) = J + 1 := by omega
        repeat' (first | ((first | refine AW.sreg rfl fun K hK => ?_ | refine AW.reg rfl ?_ | refine run_call _ _ _ ((hcp).pure rfl rfl _ _) rfl rfl (dstOk_of rfl) rfl rfl rfl ?_); simp only [go_sem, Nat.reduceAdd, Nat.reduceMul, Int.reduceToNat, Nat.reduceLT, Nat.reduceLeDiff, Nat.le_refl, Nat.reduceEqDiff, ↓reduceIte, beq_self_eq_true, bne_self_eq_false, Int.reduceBEq, Int.reduceBNe, or_self, true_or, or_true, Option.map_some, Option.map_none, List.length_map, hget, hidx, hgl, hst, hm0, dv_length]) | (refine AW.seq_k fun K hK => ?_) | (refine AW.block ?_) | (refine AW.skip ?_; simp only [Then, InBlock]) | (refine AW.condT rfl (by first | rfl | (simp; omega) | (simp [*]; done) | fail) ?_) | (refine AW.condF rfl (by first | rfl | (simp; omega) | (simp [*]; done) | fail) ?_) | (refine hK _ ?_; clear hK K) | (with_reducible refine And.intro ?_ ?_; first | omega | assumption | (focus (decide)) | (focus (simp; done)) | (focus (simp; omega)) | (focus (constructor <;> omega)) | fail))
        exact ⟨(i, r + 2, q), ⟨h1, .inr ⟨hgi, by simp only; omega⟩⟩, by simp only; omega, (Weak.auto hcx rfl rfl (Nat.le_of_ble_eq_true rfl) (by simp [go_sem, gL, kL, renOf, V.obj, lk, Nat.blt, Nat.ble, List.map_append, dv_push, hms, hou, hJ2]) (by simp [go_sem, gL, kL, renOf, V.obj, lk, Nat.blt, Nat.ble, List.map_append, dv_push, hms, hou, hJ2]) (by first | (intro i hi; exact absurd hi (Nat.not_lt_zero _)) | (intro i0 hi0; match i0, hi0 with | 0, _ => exact ⟨_, rfl⟩ | n0+1, h0 => exact absurd h0 (Nat.not_lt.2 (Nat.le_add_left 1 n0))) | (intro i0 hi0; match i0, hi0 with | 0, _ => exact ⟨_, rfl⟩ | 1, _ => exact ⟨_, rfl⟩ | n0+2, h0 => exact absurd h0 (Nat.not_lt.2 (Nat.le_add_left 2 n0))) | (intro i0 hi0; match i0, hi0 with | 0, _ => exact ⟨_, rfl⟩ | 1, _ => exact ⟨_, rfl⟩ | 2, _ => exact ⟨_, rfl⟩ | n0+3, h0 => exact absurd h0 (Nat.not_lt.2 (Nat.le_add_left 3 n0))) | (intro i0 hi0; match i0, hi0 with | 0, _ => exact ⟨_, rfl⟩ | 1, _ => exact ⟨_, rfl⟩ | 2, _ => exact ⟨_, rfl⟩ | 3, _ => exact ⟨_, rfl⟩ | n0+4, h0 => exact absurd h0 (Nat.not_lt.2 (Nat.le_add_left 4 n0)))) (by simp [go_sem, gL, kL, lk, renOf, V.obj, Nat.blt, Nat.ble, hms, hou, hJ2]))⟩
  · obtain rfl : i = ps.length := by omega
    obtain rfl : k = 0 := by
      rcases h2 with h2 | ⟨h2, -⟩
      · exact h2
      · rw [List.getElem?_eq_none (Nat.le_refl _)] at h2; cases h2
    have hoff := off_all ps
    have htk : ps.take ps.length = ps := List.take_length
    have ho0 : outL ps ps.length q 0 = ps := htk
    have hm0 : misL q 0 = 0 := rfl
    simp only [ho0, hm0, Nat.add_zero, hoff]
    repeat' (first | ((first | refine AW.sreg rfl fun K hK => ?_ | refine run_call _ _ _ ((hck).lend (by repeat' (first | exact frzL_nil | refine frzL_cons (by first | exact frz_d | exact frz_slr rfl rfl (by first | (simp; done) | (simp; omega) | (simp [*]; done) | fail) | rfl) ?_)) rfl rfl rfl) rfl rfl (dstOk_of rfl) rfl rfl rfl ?_); simp only [go_sem, Nat.reduceAdd, Nat.reduceMul, Int.reduceToNat, Nat.reduceLT, Nat.reduceLeDiff, Nat.le_refl, Nat.reduceEqDiff, ↓reduceIte, beq_self_eq_true, bne_self_eq_false, Int.reduceBEq, Int.reduceBNe, or_self, true_or, or_true, Option.map_some, Option.map_none, List.length_map]) | (refine AW.seq_k fun K hK => ?_) | (refine AW.skip ?_; simp only [Then, InBlock]) | (refine AW.exit ?_; simp only [go_sem, ↓reduceIte]) | (refine AW.condF rfl (by first | rfl | (simp; omega) | (simp [*]; done) | fail) ?_) | (refine hK _ ?_; clear hK K) | (clear hK K; refine hK _ ?_; clear hK K))
    refine AW.ret (Fin.data rfl ?_ rfl)
    exact congrArg V.tup (frzL_cons (frz_slr (e := 44) (s := 6) (xs := ps.map poD) rfl rfl (by simp)) (frzL_cons frz_d (frzL_cons frz_d frzL_nil)))
end Go.AX

namespace Go.AX
open Go Go.Proofs Go.RowKit
theorem law_ok (l : List Int) (hl : l.length ≤ 9223372036854775807) : Does Tryz.prog 3 [Ls l] [] (B true) [] := by
  have hb := bdF_s l 0
  have hk := bdF_k l 0
  have hp := bdF_p l 0
  have c1 := rightBoard_f l hl 0 (by omega) (by omega)
  have ha := a4F_range l 0
  generalize bdF l 0 = b at *
  generalize a4F l 0 = a at *
  have c2 := range_f l hl a 0 8 (by omega) (by omega) (by omega) (by omega) (by omega)
  have hr := rg_range l a 0 8 (by omega)
  obtain ⟨m, hm⟩ := Int.eq_ofNat_of_zero_le hr.1
  rw [hm] at c2 hr
  have c3 := postsOf_f l hl (a + 1) (by omega) (by omega) b hb hk m (by omega)
  have hat := psF_at l b (a + 1) m
  have hf := psF_fin l b (a + 1) m (by omega)
  generalize psF l b (a + 1) m = z at *
  obtain ⟨ps, x1, x2⟩ := z
  simp only at c3 hat hf
  have hpl : ps.length ≤ 8 := by omega
  have heq := equal_Po ps (by omega)
  have hck := checkPo b hb hp ps hpl hf
  refine Does.of_AW (n := 53) Tryz.func3 rfl rfl rfl fun cx hcx => ?_
  by_cases hz : cpF b ps = 0
  · have ht := text_ok b hb hp ps hpl hf hz
    have hrd := read_ok b hb hp ps hpl hf hz
    repeat' (first | ((first | refine AW.sreg rfl fun K hK => ?_ | refine AW.sregD hmix rfl fun K hK => ?_ | refine run_call _ _ _ ((c1).objs [_] ⟨rfl, trivial⟩ rfl (by decide) (by simp [go_sem, renOs]) (by simp) (by simp) (by simp [go_sem]) (by simp [go_sem]) (by simp [go_sem]) (by simp [go_sem])) rfl rfl (dstOk_of rfl) rfl rfl rfl ?_ | refine runT_call _ _ [192] (fun hv hag => (c2).objs [192] ⟨((hag 192 (by simp)).trans rfl), trivial⟩ rfl (by decide) (by simp [go_sem, renOs]) (by simp) (by simp) (by simp [go_sem]) (by simp [go_sem]) (by simp [go_sem]) (by simp [go_sem])) rfl rfl (dstOk_of rfl) rfl rfl ?_ | refine runT_call _ _ [192] (fun hv hag => (c3).objs [192] ⟨((hag 192 (by simp)).trans rfl), trivial⟩ rfl (by decide) (by simp [go_sem, renOs]) (by simp) (by simp) (by simp [go_sem]) (by simp [go_sem]) (by simp [go_sem]) (by simp [go_sem])) rfl rfl (dstOk_of rfl) rfl rfl ?_ | refine run_call _ _ _ ((ht).pure rfl rfl _ _) rfl rfl (dstOk_of rfl) rfl rfl rfl ?_ | refine run_call _ _ _ ((hrd).pure rfl rfl _ _) rfl rfl (dstOk_of rfl) rfl rfl rfl ?_ | refine run_call _ _ _ ((heq).pure rfl rfl _ _) rfl rfl (dstOk_of rfl) rfl rfl rfl ?_ | refine run_call _ _ _ ((stands_ok).pure rfl rfl _ _) rfl rfl (dstOk_of rfl) rfl rfl rfl ?_); simp only [go_sem, Nat.reduceAdd, Nat.reduceMul, Int.reduceToNat, Nat.reduceLT, Nat.reduceLeDiff, Nat.le_refl, Nat.reduceEqDiff, ↓reduceIte, beq_self_eq_true, bne_self_eq_false, Int.reduceBEq, Int.reduceBNe, or_self, true_or, or_true, Option.map_some, Option.map_none]) | (refine AW.seq_k fun K hK => ?_) | (refine AW.skip ?_; simp only [Then, InBlock]) | (refine AW.condF rfl (by first | rfl | (simp; omega) | (simp [*]; done) | fail) ?_) | (refine hK _ ?_; clear hK K) | (with_reducible refine And.intro (?_ : regOk _ _ = true) ?_; kernel_rfl) | (refine AW.ret (Fin.data rfl (by first | (simp only [go_sem]; done) | (simp [go_sem, *]; done) | (simp [go_sem]; omega) | rfl) rfl)))
  · have ht := text_bad b hb hp ps hpl hf hz
    generalize cpF b ps = e at *
    have hzb : (e != 0) = true := by simpa using hz
    repeat' (first | ((first | refine AW.sreg rfl fun K hK => ?_ | refine AW.sregD hmix rfl fun K hK => ?_ | refine run_call _ _ _ ((c1).objs [_] ⟨rfl, trivial⟩ rfl (by decide) (by simp [go_sem, renOs]) (by simp) (by simp) (by simp [go_sem]) (by simp [go_sem]) (by simp [go_sem]) (by simp [go_sem])) rfl rfl (dstOk_of rfl) rfl rfl rfl ?_ | refine runT_call _ _ [192] (fun hv hag => (c2).objs [192] ⟨((hag 192 (by simp)).trans rfl), trivial⟩ rfl (by decide) (by simp [go_sem, renOs]) (by simp) (by simp) (by simp [go_sem]) (by simp [go_sem]) (by simp [go_sem]) (by simp [go_sem])) rfl rfl (dstOk_of rfl) rfl rfl ?_ | refine runT_call _ _ [192] (fun hv hag => (c3).objs [192] ⟨((hag 192 (by simp)).trans rfl), trivial⟩ rfl (by decide) (by simp [go_sem, renOs]) (by simp) (by simp) (by simp [go_sem]) (by simp [go_sem]) (by simp [go_sem]) (by simp [go_sem])) rfl rfl (dstOk_of rfl) rfl rfl ?_ | refine run_call _ _ _ ((ht).pure rfl rfl _ _) rfl rfl (dstOk_of rfl) rfl rfl rfl ?_ | refine run_call _ _ _ ((hck).pure rfl rfl _ _) rfl rfl (dstOk_of rfl) rfl rfl rfl ?_ | refine run_call _ _ _ ((stands_ok).pure rfl rfl _ _) rfl rfl (dstOk_of rfl) rfl rfl rfl ?_); simp only [go_sem, Nat.reduceAdd, Nat.reduceMul, Int.reduceToNat, Nat.reduceLT, Nat.reduceLeDiff, Nat.le_refl, Nat.reduceEqDiff, ↓reduceIte, beq_self_eq_true, bne_self_eq_false, Int.reduceBEq, Int.reduceBNe, or_self, true_or, or_true, Option.map_some, Option.map_none, hzb]) | (refine AW.seq_k fun K hK => ?_) | (refine AW.condT rfl (by first | rfl | (simp; omega) | (simp [*]; done) | fail) ?_) | (refine hK _ ?_; clear hK K) | (with_reducible refine And.intro (?_ : regOk _ _ = true) ?_; kernel_rfl) | (refine AW.ret (Fin.data rfl (by first | (simp only [go_sem]; done) | (simp [go_sem, *]; done) | (simp [go_sem]; omega) | rfl) rfl)))
end Go.AX
