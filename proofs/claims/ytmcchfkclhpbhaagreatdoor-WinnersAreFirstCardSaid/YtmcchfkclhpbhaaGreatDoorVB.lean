/- slices.Sorted(maps.Keys(m)): the keys of a map, sorted. -/
import Derived.Test.YtmcchfkclhpbhaaGreatDoorSk
import Derived.Test.YtmcchfkclhpbhaaGreatDoorTk
import Derived.Test.YtmcchfkclhpbhaaGreatDoorAx32
import Derived.Sort.KeysCollected
import Derived.WideShapes
import Derived.WideReads
import Derived.Test.YtmcchfkclhpbhaaGreatDoorVA
import Derived.Test.YtmcchfkclhpbhaaGreatDoorAx36
set_option linter.unusedSimpArgs false
set_option linter.unusedVariables false
set_option maxRecDepth 1000000
set_option maxHeartbeats 4000000
set_option linter.unnecessarySimpa false
namespace Go.AX
open Go Go.Proofs Go.RowKit Go.Maps Go.Sort Go.Shelf
open Go.WideElems (rd rg Fit)
open Go.MapKept (Stamped)
/-- How any value reads: the relation that the keys' contract leaves free. -/
def anyR (_ : Value) : Option (DataW Unit × List MemPlace) := some (.lit (.bool true), [])
theorem RDcs_at {w : World} {ok : Nat → Prop} {c : Array Value} : ∀ (xs : List D) (p i : Nat) (x : D), RDcs w ok c p xs → xs[i]? = some x → ∃ v, c[p + i]? = some v ∧ RD w ok x v
  | [], _, i, _, _, h => by simp at h
  | y :: ys, p, i, x, h, hi => by
    simp only [RDcs] at h
    cases i with
    | zero => simp at hi; subst hi; exact h.1
    | succ i =>
      obtain ⟨v, h1, h2⟩ := RDcs_at ys (p + 1) i x h.2 (by simpa using hi)
      exact ⟨v, by rw [← h1]; congr 1; omega, h2⟩
theorem keys_read {w : World} {ok : Nat → Prop} {es : Array MapEntry} {ks : List (List UInt8)} (hs : es.size = ks.length) (h : RDcs w ok (es.map (·.key)) 0 (ks.map D.str)) : es.toList.map (·.key) = ks.map fun s => Value.string ⟨s.toArray⟩ := by
  refine List.ext_getElem? fun i => ?_
  by_cases hi : i < ks.length
  · obtain ⟨v, h1, h2⟩ := RDcs_at (ks.map D.str) 0 i (.str ks[i]) h (by rw [List.getElem?_map, List.getElem?_eq_getElem hi]; rfl)
    simp only [RD] at h2
    subst h2
    rw [Nat.zero_add, Array.getElem?_map] at h1
    rw [List.getElem?_map, List.getElem?_map, List.getElem?_eq_getElem hi, Array.getElem?_toList]
    exact h1
  · rw [List.getElem?_eq_none (by simp; omega), List.getElem?_eq_none (by simp; omega)]
theorem strV_inj {a b : List UInt8} (h : Value.string ⟨a.toArray⟩ = Value.string ⟨b.toArray⟩) : a = b := by
  injection h with h
  injection h with h
  simpa using h
/-- A map that reads so is one of the kit's. -/
theorem own_of {P : Program} {kt : TypeId} (hk : P.underlying kt = some .string) {w : World} {ok : Nat → Prop} {b : Nat} {es : Array MapEntry} {clock : Nat} {ks : List (List UInt8)} (hb : w.heap[b]? = some (.map es clock)) (hB : Births es clock) (hs : es.size = ks.length)
    (hr : RDcs w ok (es.map (·.key)) 0 (ks.map D.str)) (hl : ks.length ≤ 1000) (hkl : ∀ k ∈ ks, k.length ≤ 1000000) (hnd : ks.Nodup) :
    ∃ D0 : DataW Unit, w.ownsMap P kt anyR b ks.length D0 ∧ ks.Perm (strKeys D0) ∧ Maps.size D0 = ks.length := by
  have hkeys := keys_read hs hr
  have hrd : ∀ x ∈ es.toList, ∃ s, s ∈ ks ∧ x.key = .string ⟨s.toArray⟩ ∧ rd P kt anyR x = some (.string s, .lit (.bool true)) := by
    intro x hx
    have : x.key ∈ es.toList.map (·.key) := List.mem_map_of_mem hx
    rw [hkeys] at this
    obtain ⟨s, hsm, he⟩ := List.mem_map.1 this
    have hsl := hkl s hsm
    refine ⟨s, hsm, he.symm, ?_⟩
    have hko : keyOf P kt x.key = some (.string s) := by
      rw [← he]
      simp [keyOf, hk, mapKey, ByteArray.size, maxLen]
      omega
    simp [Go.WideElems.rd, hko, anyR]
  refine ⟨_, ⟨es, clock, hb, ⟨?_, ⟨?_, ?_, ?_⟩, ?_⟩, Nat.le_of_eq hs, rfl⟩, ?_, ?_⟩
  · rw [hs]; simp [maxLen]; omega
  · intro x hx
    obtain ⟨i, hi⟩ := List.mem_iff_getElem?.1 hx
    rw [Array.getElem?_toList] at hi
    have h1 := hB.2 i x hi
    have h2 : i < es.size := by
      rcases Nat.lt_or_ge i es.size with h' | h'
      · exact h'
      · simp [Array.getElem?_eq_none h'] at hi
    rw [h1, hB.1]; exact h2
  · rw [List.nodup_iff_pairwise_ne, List.pairwise_map, List.pairwise_iff_getElem]
    intro i j hi hj hij e
    have h1 := hB.2 i _ (by rw [← Array.getElem?_toList]; exact List.getElem?_eq_getElem hi)
    have h2 := hB.2 j _ (by rw [← Array.getElem?_toList]; exact List.getElem?_eq_getElem hj)
    omega
  · rw [hkeys]
    rw [List.nodup_iff_pairwise_ne, List.pairwise_map]
    exact (List.nodup_iff_pairwise_ne.1 hnd).imp fun h e => h (strV_inj e)
  · intro x hx
    obtain ⟨s, _, _, h⟩ := hrd x hx
    exact ⟨_, h⟩
  · have hperm : ∀ l : List (Lit × DataW Unit), (l.foldr DataW.insert []).Perm l := by
      intro l
      induction l with
      | nil => exact List.Perm.nil
      | cons x r ih => exact (Go.WideShapes.insert_perm x _).trans (List.Perm.cons x ih)
    have hp := (hperm (es.toList.map (rg P kt anyR))).map fun p => Go.strOf p.1
    have e : (es.toList.map (rg P kt anyR)).map (fun p => Go.strOf p.1) = ks := by
      rw [List.map_map]
      have : ks = (es.toList.map (·.key)).map fun v => match v with | .string b => b.data.toList | _ => [] := by
        rw [hkeys, List.map_map]
        simp [Function.comp_def]
      rw [this, List.map_map]
      refine List.map_congr_left fun x hx => ?_
      obtain ⟨s, _, h1, h2⟩ := hrd x hx
      simp only [Function.comp_apply, Go.WideElems.rg, h2, Option.getD_some, Go.strOf, h1]
    rw [e] at hp
    exact hp.symm
  · show ((es.toList.map (rg P kt anyR)).foldr DataW.insert []).length = ks.length
    have : ∀ l : List (Lit × DataW Unit), (l.foldr DataW.insert []).length = l.length := by
      intro l
      induction l with
      | nil => rfl
      | cons x r ih => simp [DataW.length_insert, ih]
    rw [this]
    simp [hs]
/-- slices.Sort's two contracts. -/
theorem sortsIn (m : Nat) : AnyZ.SortsIn Tryz.prog Tryz.sorted76_ren Fence.wide m :=
  ⟨fun blk off cap ss W hH hblk hsz => callsIn_wide.2 (AnyM.slices_Sort_string Tryz.sort99 blk off cap ss W hH hblk hsz),
   fun p cap W => callsIn_wide.2 (AnyM.slices_Sort_string_none Tryz.sort99 p cap W)⟩
/-- The keys of a map, sorted. -/
theorem sortedKeys_does (ks : List (List UInt8)) (ds : List D) (hl : ks.length ≤ 1000) (hkl : ∀ k ∈ ks, k.length ≤ 1000000) (hnd : ks.Nodup) :
    Does Tryz.prog 76 [.fn 100 [.ptr 0 0]] [.box 77 [.d (.map (ks.map D.str) ds)]] (.d (.sl ((ks.mergeSort fun x y => decide (x ≤ y)).map D.str))) [.dead] := by
  refine ⟨⟨Tryz.f76, Tryz.func76, rfl, by kernel_rfl⟩, fun cx σ w vs hgl hr hfr hp1 hp2 hpb hargs => ?_⟩
  have ho := hr.own 0 _ rfl
  obtain ⟨bx, K, s, c, fr, hσ, hbx, -, hvl⟩ := ho
  simp only [RVl, RV, hσ] at hvl hargs
  obtain ⟨mv, us, hc, hmv, hus⟩ := hvl
  obtain ⟨fv, us2, hvs, ⟨c2, rfl, pv, us3, hc2, ⟨b', K', s', hb', rfl⟩, hus3⟩, hus2⟩ := hargs
  cases hb'
  subst hus2 hus3 hus
  obtain rfl : vs = #[.func (.func 100) #[] #[.pointer (some ⟨bx, 0, none⟩)]] := by
    obtain rfl : c2 = #[.pointer (some ⟨bx, 0, none⟩)] := by cases c2; simp_all
    cases vs; simp_all
  have hlt : bx < w.heap.size := by
    rcases Nat.lt_or_ge bx w.heap.size with h' | h'
    · exact h'
    · simp [Array.getElem?_eq_none h'] at hbx
  have hcell : w.cell? ⟨bx, 0, none⟩ = some mv := by
    have : c[0]? = some mv := by
      have := congrArg (·[0]?) hc
      simpa using this
    simpa [World.cell?, hbx] using this
  simp only [RD] at hmv
  have hend : ∀ (e : Ending) (w' : World), (∃ (v : Value) (ss : List (List UInt8)), e = .returned v ∧ ss.Perm ks ∧ w'.ownsRow w.heap.size 9 1 v ss.length ((ss.mergeSort (fun x y => decide (x ≤ y))).map encStr) ∧ Below w.heap.size w w') →
      ∃ v, e = .returned v ∧ ∃ σ', HR cx (hvL [O.dead]) σ' w' ∧ (∀ i l, i < 1 → σ i = some l → σ' i = some l) ∧ (∀ i, 1 ≤ i → σ' i = none) ∧ RV w' (okB cx w' (hvL [O.dead]) σ') σ' (.d (.sl ((ks.mergeSort fun x y => decide (x ≤ y)).map D.str))) v := by
    rintro e w' ⟨v, ss, rfl, hp, hrow, hb⟩
    refine ⟨v, rfl, σ, ?_, fun i l _ h => h, hfr, ?_⟩
    · constructor
      · rw [hb.os]; exact hr.os
      · rw [hb.tape]; exact hr.tape
      · rw [hb.output]; exact hr.output
      · exact Nat.le_trans hr.size hb.size
      · intro b h1 h2; rw [hb.block b (Nat.lt_of_lt_of_le h1 hr.size)]; exact hr.frame b h1 h2
      · intro i o ho
        exfalso
        rcases i with _ | i
        · simp [hvL, O.lv] at ho
        · simp [hvL, O.lv] at ho
      · intro i o b K s ho
        exfalso
        rcases i with _ | i
        · simp [hvL, O.lv] at ho
        · simp [hvL, O.lv] at ho
      · intro i j o o' b K s K' s' ho
        exfalso
        rcases i with _ | i
        · simp [hvL, O.lv] at ho
        · simp [hvL, O.lv] at ho
    · have hms := mergeSort_of_perm hp
      rw [show (ss.mergeSort fun x y => decide (x ≤ y)) = ks.mergeSort fun x y => decide (x ≤ y) from hms] at hrow
      simp only [RV, RD]
      rcases hrow.2 with ⟨rfl, hz⟩ | ⟨g, cap, cur, rfl, hbase, hgb, r1, r2, r3, r4⟩
      · have h0 : ks = [] := by
          have := hp.length_eq
          rw [hz] at this
          exact List.eq_nil_of_length_eq_zero this.symm
        subst h0
        exact ⟨none, 0, 0, rfl, by simp, by omega, .inl (by simp)⟩
      · refine ⟨_, _, _, rfl, by simp [hp.length_eq], r1, .inr ⟨g, 0, cur, _, _, 1, rfl, ⟨.inr (Nat.le_trans hr.size hbase), ?_, ?_⟩, hgb, ?_⟩⟩
        · rcases Nat.lt_or_ge g w'.heap.size with h' | h'
          · exact h'
          · simp [Array.getElem?_eq_none h'] at hgb
        · intro id o K s ho
          rcases id with _ | id
          · simp [hvL, O.lv] at ho
          · simp [hvL, O.lv] at ho
        · have hq : ∀ (zs : List (List UInt8)) (pre : List Value) (cu : Array Value), cu.toList.take (pre.length + zs.length) = pre ++ zs.map encStr → RDels w' (okB cx w' (hvL [O.dead]) σ) cu 1 pre.length (zs.map D.str) := by
            intro zs
            induction zs with
            | nil => intro pre cu _; simp [RDels]
            | cons z zs ih =>
              intro pre cu h
              have h2 := ih (pre ++ [encStr z]) cu (by simpa [Nat.add_assoc, Nat.add_comm 1] using h)
              simp only [List.length_append, List.length_cons, List.length_nil] at h2
              simp only [List.map_cons, RDels]
              refine ⟨⟨encStr z, ?_, by simp only [RD, encStr]⟩, h2⟩
              have h3 : cu[pre.length]? = some (encStr z) := by
                have := congrArg (·[pre.length]?) h
                rw [List.getElem?_take] at this
                simpa using this
              exact ⟨rfl, h3⟩
          have hl2 : (ks.mergeSort fun x y => decide (x ≤ y)).length = ss.length := by rw [List.length_mergeSort, hp.length_eq]
          refine hq _ [] cur ?_
          rw [List.length_nil, Nat.zero_add, hl2]
          simpa using r4
  have hfin : ∀ (S : List (List UInt8) → Prop) (N : Nat), (∀ ss, S ss → ss.Perm ks) → N ≤ maxLen → N * 16 ≤ 140737488355328 → SeqGives Fence.wide 2 Tryz.prog 100 #[.pointer (some ⟨bx, 0, none⟩)] encStr S N w →
      Calls Tryz.prog 76 #[.func (.func 100) #[] #[.pointer (some ⟨bx, 0, none⟩)]] w fun e w' => ∃ v, e = .returned v ∧ ∃ σ', HR cx (hvL [O.dead]) σ' w' ∧ (∀ i l, i < 1 → σ i = some l → σ' i = some l) ∧ (∀ i, 1 ≤ i → σ' i = none) ∧ RV w' (okB cx w' (hvL [O.dead]) σ') σ' (.d (.sl ((ks.mergeSort fun x y => decide (x ≤ y)).map D.str))) v := by
    intro S N hS hN hN2 hseq
    refine (callsIn_wide (n := 5)).1 ?_
    refine (AnyZ.sorted_in Tryz.sorted76 Fence.wide 5 trivial trivial trivial trivial rfl (by omega) (sortsIn _) (enters_of Tryz.func99 (by kernel_rfl) rfl) 100 #[.pointer (some ⟨bx, 0, none⟩)] trivial (enters_of Tryz.func100 (by kernel_rfl) rfl) S N hN hN2 w hseq).mono ?_
    rintro e w' ⟨v, ss, rfl, hSs, hrow, _, hb⟩
    exact hend _ _ ⟨v, ss, rfl, hS _ hSs, hrow, hb⟩
  obtain ⟨r, rfl, hmap⟩ := hmv
  rcases hmap with ⟨rfl, hks, -⟩ | ⟨b, es, clock, rfl, hokb, hbm, hB, hsz, -, hk, -⟩
  · have h0 : ks = [] := by simpa using hks
    subst h0
    refine hfin (fun ss => ss = []) 0 (fun ss h => by rw [h]) (Nat.zero_le _) (by omega) ?_
    exact AnyZ.keys_gives_nil (ρ := Tryz.keys77_ren) { Tryz.keys77 with } Fence.wide _ trivial rfl bx _ hlt hcell
  · obtain ⟨D0, hown, hperm, hsize⟩ := own_of (P := Tryz.prog) (kt := 9) Tryz.underlying9 hbm hB (by simpa using hsz) hk hl hkl hnd
    refine hfin (fun ss => ss.Perm (strKeys D0)) (Maps.size D0) (fun ss h => h.trans hperm.symm) (by rw [hsize]; simp [maxLen]; omega) (by rw [hsize]; omega) ?_
    exact AnyZ.keys_gives (ρ := Tryz.keys77_ren) { Tryz.keys77 with } Fence.wide _ trivial rfl (by omega) bx b ks.length D0 _ hlt hcell hown
theorem mapsKeys_any (ks vs : List D) : Does Tryz.prog 77 [.d (.map ks vs)] [] (.fn 100 [.ptr 0 0]) [.box 77 [.d (.map ks vs)]] := by
  refine Does.of_AW (n := 4) Tryz.func77 rfl rfl rfl fun cx hcx => ?_
  repeat' (first | (refine AW.sreg rfl fun K hK => ?_; simp only [go_sem, Nat.reduceAdd, Nat.reduceMul, Int.reduceToNat, Nat.reduceLT, Nat.reduceLeDiff, Nat.le_refl, Nat.reduceEqDiff, ↓reduceIte, beq_self_eq_true, bne_self_eq_false, Int.reduceBEq, Int.reduceBNe, or_self, true_or, or_true, Option.map_some, Option.map_none]) | (refine hK _ ?_; clear hK K))
  exact AW.ret (Fin.objs [0] rfl (by simp [go_sem, inI, gI]) ⟨⟨_, rfl, by simp [go_sem, inI, gI]⟩, trivial⟩ (by simp) rfl (by simp [go_sem]) (by simp [go_sem]) rfl)
theorem ltS_lt : ∀ {x y : List UInt8}, ltS x y = true → x < y
  | [], [], h => by simp [ltS, Op.bytesLess] at h
  | [], b :: y, _ => List.nil_lt_cons b y
  | a :: x, [], h => by simp [ltS, Op.bytesLess] at h
  | a :: x, b :: y, h => by
    rw [ltS_cons] at h
    rw [List.cons_lt_cons_iff]
    rcases h with h | ⟨rfl, h⟩
    · exact .inl (UInt8.lt_iff_toNat_lt.2 h)
    · exact .inr ⟨rfl, ltS_lt h⟩
/-- What rises is sorted. -/
theorem mergeSort_rise {l : List (List UInt8)} (h : l.Pairwise fun a b => ltS a b = true) : (l.mergeSort fun x y => decide (x ≤ y)) = l :=
  List.mergeSort_of_pairwise (h.imp fun h => decide_eq_true (List.le_of_lt (ltS_lt h)))
end Go.AX

namespace Go.AX
open Go Go.Proofs Go.RowKit
def pk (l : List Int) (a : Int) (ns : List Int) : Int := ns.getD (nextV l a ns.length).toNat 0
def og (l : List Int) (a : Int) (ss : List Str) : Str := ss.getD (nextV l a ss.length).toNat []
def fl (l : List Int) (a n : Int) : Bool := nextV l a n == 0
theorem pk_mem (l : List Int) (a : Int) (ns : List Int) (h : ns ≠ []) : pk l a ns ∈ ns := pick_mem l a ns h
theorem og_mem (l : List Int) (a : Int) (ns : List Str) (h : ns ≠ []) : og l a ns ∈ ns := one_mem l a ns h
theorem pick_f (l : List Int) (hl2 : l.length ≤ 9223372036854775807) (at_ : Int) (ha : 0 ≤ at_) (hb : at_ ≤ 1000000) (ns : List Int) (hs : ns ≠ []) (hs2 : ns.length ≤ 1000000) :
    Does Tryz.prog 29 [.ptr 0 0, .slr 1 0 ns.length] [Stm l at_, IV ns] (I (pk l at_ ns)) [Stm l (at_ + 1), IV ns] := pick_any l hl2 at_ ha hb ns hs hs2
theorem h06_f (l : List Int) (hl2 : l.length ≤ 9223372036854775807) (at_ : Int) (ha : 0 ≤ at_) (hb : at_ ≤ 1000000) (ns : List Str) (hs : ns ≠ []) (hs2 : ns.length ≤ 1000000) :
    Does Tryz.prog 31 [.ptr 0 0, .slr 1 0 ns.length] [Stm l at_, SV ns] (S (og l at_ ns)) [Stm l (at_ + 1), SV ns] := one_any l hl2 at_ ha hb ns hs hs2
theorem flip_f (l : List Int) (hl2 : l.length ≤ 9223372036854775807) (at_ n : Int) (h1 : 1 ≤ n) (h2 : n ≤ 9223372036854775807) (ha : 0 ≤ at_) (hb : at_ ≤ 1000000) :
    Does Tryz.prog 28 [.ptr 0 0, I n] [Stm l at_] (B (fl l at_ n)) [Stm l (at_ + 1)] := flip_any l hl2 at_ n h1 h2 ha hb
def rg (l : List Int) (a lo hi : Int) : Int := lo + nextV l a (hi - lo + 1)
theorem rg_range (l : List Int) (a lo hi : Int) (h : lo ≤ hi) : lo ≤ rg l a lo hi ∧ rg l a lo hi ≤ hi := by
  have := nextV_range l a (hi - lo + 1) (by omega)
  unfold rg
  omega
theorem range_f (l : List Int) (hl2 : l.length ≤ 9223372036854775807) (at_ lo hi : Int) (h1 : lo ≤ hi) (h2 : -1000000000 ≤ lo) (h3 : hi ≤ 1000000000) (ha : 0 ≤ at_) (hb : at_ ≤ 1000000) :
    Does Tryz.prog 19 [.ptr 0 0, I lo, I hi] [Stm l at_] (I (rg l at_ lo hi)) [Stm l (at_ + 1)] := range_any l hl2 at_ lo hi h1 h2 h3 ha hb
theorem toDL_dvF {F : V → Option D} (h : ∀ x : D, F (.d x) = some x) : ∀ xs : List D, toDL F (dv xs) = some xs
  | [] => rfl
  | x :: xs => by
    have := toDL_dvF h xs
    simp only [dv] at this
    simp only [dv, List.map_cons, toDL, this, h]
theorem dvz : dv [] = [] := rfl
theorem get_lt {α : Type} {xs : List α} {i : Nat} {x : α} (h : xs[i]? = some x) : i < xs.length := by
  rcases Nat.lt_or_ge i xs.length with h' | h'
  · exact h'
  · simp [List.getElem?_eq_none h'] at h
/-- A mark: paper, person, score. -/
abbrev Mk := Str × Str × Int
abbrev mkD (m : Mk) : D := .agg [.str m.1, .str m.2.1, .int .i64 m.2.2]
def ltr (k : Nat) : Str := [UInt8.ofNat (97 + k)]
theorem enc_all : ((List.range 8).all fun k => (Utf8.encode (97 + (k : Int))).data.toList == ltr k) = true := by kernel_rfl
theorem enc_ok (k : Nat) (h : k < 8) : (Utf8.encode (97 + (k : Int))).data.toList = ltr k := by
  have := List.all_eq_true.1 enc_all k (List.mem_range.2 h)
  simpa using this
def pN (i : Nat) : Str := [112] ++ ltr i
def hN (k : Nat) : Str := [104] ++ ltr k
/-- The biases that are drawn. -/
def biL (l : List Int) (a : Int) (n : Nat) : List Int := (List.range n).map fun (k : Nat) => rg l (a + (k : Int)) (-2) 2
theorem biL_len (l : List Int) (a : Int) (n : Nat) : (biL l a n).length = n := by simp [biL]
theorem biL_succ (l : List Int) (a : Int) (n : Nat) : biL l a (n + 1) = biL l a n ++ [rg l (a + n) (-2) 2] := by
  unfold biL
  rw [List.range_succ, List.map_append]
  rfl
theorem biL_get (l : List Int) (a : Int) (n k : Nat) (h : k < n) : ∃ v, (biL l a n)[k]? = some v ∧ -2 ≤ v ∧ v ≤ 2 := by
  refine ⟨rg l (a + k) (-2) 2, ?_, rg_range l _ _ _ (by omega)⟩
  unfold biL
  rw [List.getElem?_map, List.getElem?_range h]
  rfl
theorem set_pad (xs : List Int) (m : Nat) (v : Int) : (xs ++ List.replicate (m + 1) 0).set xs.length v = (xs ++ [v]) ++ List.replicate m 0 := by
  induction xs with
  | nil => rfl
  | cons x xs ih => simp only [List.cons_append, List.length_cons, List.set_cons_succ, ih]
def scF (l : List Int) (p lev b : Int) : Int := (fun v => if (10 : Int) < v then 10 else v) ((fun v => if (0 : Int) > v then 0 else v) (lev + b + pk l (p + 1) [0, 0, 0, 1, -1]))
def rwS (l : List Int) (bs : List Int) (lev : Int) (i : Nat) (z : List Mk × Int) (k : Nat) : List Mk × Int :=
  if fl l z.2 3 = true then (z.1, z.2 + 1) else (z.1 ++ [(pN i, hN k, scF l z.2 lev (bs.getD k 0))], z.2 + 1 + 1)
def rwF (l : List Int) (bs : List Int) (lev : Int) (i : Nat) (z : List Mk × Int) : Nat → List Mk × Int
  | 0 => z
  | k + 1 => rwS l bs lev i (rwF l bs lev i z k) k
theorem rwF_succ (l : List Int) (bs : List Int) (lev : Int) (i : Nat) (z : List Mk × Int) (k : Nat) : rwF l bs lev i z (k + 1) = rwS l bs lev i (rwF l bs lev i z k) k := rfl
def mkF (l : List Int) (bs : List Int) (n2 : Nat) (a : Int) : Nat → List Mk × Int
  | 0 => ([], a)
  | i + 1 => rwF l bs (rg l (mkF l bs n2 a i).2 2 8) i ((mkF l bs n2 a i).1, (mkF l bs n2 a i).2 + 1) n2
theorem mkF_succ (l : List Int) (bs : List Int) (n2 : Nat) (a : Int) (i : Nat) : mkF l bs n2 a (i + 1) = rwF l bs (rg l (mkF l bs n2 a i).2 2 8) i ((mkF l bs n2 a i).1, (mkF l bs n2 a i).2 + 1) n2 := rfl
/-- What marks are made of. -/
def FinM (n1 n2 : Nat) (m : Mk) : Prop := (∃ i, i < n1 ∧ m.1 = pN i) ∧ (∃ k, k < n2 ∧ m.2.1 = hN k) ∧ 0 ≤ m.2.2 ∧ m.2.2 ≤ 10
theorem scF_range (l : List Int) (p lev b : Int) : 0 ≤ scF l p lev b ∧ scF l p lev b ≤ 10 := by
  unfold scF
  simp only
  constructor <;> repeat' split
  all_goals omega
theorem rwF_at (l : List Int) (bs : List Int) (lev : Int) (i : Nat) (z : List Mk × Int) : ∀ k : Nat, (rwF l bs lev i z k).1.length ≤ z.1.length + k ∧ z.2 ≤ (rwF l bs lev i z k).2 ∧ (rwF l bs lev i z k).2 ≤ z.2 + 2 * k
  | 0 => by simp [rwF]
  | k + 1 => by
    obtain ⟨h1, h2, h3⟩ := rwF_at l bs lev i z k
    rw [rwF_succ]
    unfold rwS
    split
    · exact ⟨by simp only; omega, by simp only; omega, by simp only; omega⟩
    · exact ⟨by simp only [List.length_append, List.length_cons, List.length_nil]; omega, by simp only; omega, by simp only; omega⟩
theorem rwF_fin (l : List Int) (bs : List Int) (lev : Int) (i : Nat) (z : List Mk × Int) (n1 n2 : Nat) (hi : i < n1) (hz : ∀ m ∈ z.1, FinM n1 n2 m) : ∀ k : Nat, k ≤ n2 → ∀ m ∈ (rwF l bs lev i z k).1, FinM n1 n2 m
  | 0, _ => hz
  | k + 1, hk => by
    have ih := rwF_fin l bs lev i z n1 n2 hi hz k (by omega)
    rw [rwF_succ]
    unfold rwS
    split
    · exact ih
    · intro m hm
      rcases List.mem_append.1 hm with hm | hm
      · exact ih m hm
      · obtain rfl := List.mem_singleton.1 hm
        exact ⟨⟨i, hi, rfl⟩, ⟨k, hk, rfl⟩, scF_range l _ _ _⟩
theorem mkF_at (l : List Int) (bs : List Int) (n2 : Nat) (a : Int) : ∀ i : Nat, (mkF l bs n2 a i).1.length ≤ i * n2 ∧ a ≤ (mkF l bs n2 a i).2 ∧ (mkF l bs n2 a i).2 ≤ a + i * (1 + 2 * n2)
  | 0 => by simp [mkF]
  | i + 1 => by
    obtain ⟨h1, h2, h3⟩ := mkF_at l bs n2 a i
    rw [mkF_succ]
    obtain ⟨g1, g2, g3⟩ := rwF_at l bs (rg l (mkF l bs n2 a i).2 2 8) i ((mkF l bs n2 a i).1, (mkF l bs n2 a i).2 + 1) n2
    simp only at g1 g2 g3
    have e1 : (i + 1) * n2 = i * n2 + n2 := Nat.succ_mul i n2
    have e2 : ((i + 1 : Nat) : Int) * (1 + 2 * n2) = i * (1 + 2 * n2) + (1 + 2 * n2) := by rw [Int.natCast_add, Int.add_mul]; simp
    rw [e2]
    exact ⟨by omega, by omega, by omega⟩
theorem mkF_fin (l : List Int) (bs : List Int) (n1 n2 : Nat) (a : Int) : ∀ i : Nat, i ≤ n1 → ∀ m ∈ (mkF l bs n2 a i).1, FinM n1 n2 m
  | 0, _ => by simp [mkF]
  | i + 1, hi => by
    rw [mkF_succ]
    exact rwF_fin l bs _ i ((mkF l bs n2 a i).1, (mkF l bs n2 a i).2 + 1) n1 n2 hi (mkF_fin l bs n1 n2 a i (by omega)) n2 (Nat.le_refl _)
/-- One mark changed. -/
def chM (l : List Int) (p : Int) (m : Mk) : Mk × Int :=
  if nextV l p 3 = 0 then ((og l (p + 1) [[], [112, 97], [80]], m.2.1, m.2.2), p + 1 + 1)
  else if nextV l p 3 = 1 then ((m.1, og l (p + 1) [[], [104, 97], [72]], m.2.2), p + 1 + 1)
  else ((m.1, m.2.1, pk l (p + 1) [-1, 11]), p + 1 + 1)
def mrZ (l : List Int) (n1 n2 : Nat) (a : Int) : List Mk × Int := mkF l (biL l a n2) n2 (a + n2) n1
def mrF (l : List Int) (n1 n2 : Nat) (a : Int) : List Mk × Int :=
  if (fl l (mrZ l n1 n2 a).2 15 && decide (0 < (mrZ l n1 n2 a).1.length)) = true then
    ((mrZ l n1 n2 a).1.set (nextV l ((mrZ l n1 n2 a).2 + 1) (mrZ l n1 n2 a).1.length).toNat (chM l ((mrZ l n1 n2 a).2 + 1 + 1) ((mrZ l n1 n2 a).1.getD (nextV l ((mrZ l n1 n2 a).2 + 1) (mrZ l n1 n2 a).1.length).toNat ([], [], 0))).1,
      (mrZ l n1 n2 a).2 + 1 + 1 + 1 + 1)
  else ((mrZ l n1 n2 a).1, (mrZ l n1 n2 a).2 + 1)
theorem marks_f (l : List Int) (hl2 : l.length ≤ 9223372036854775807) (n1 n2 : Nat) (h1 : n1 ≤ 7) (h2 : n2 ≤ 7) (a : Int) (ha : 0 ≤ a) (hb : a ≤ 10000) :
    Does Tryz.prog 7 [.ptr 0 0, I n1, I n2] [Stm l a] (.d (.sl ((mrF l n1 n2 a).1.map mkD))) [Stm l (mrF l n1 n2 a).2] := by
  refine Does.of_AW (n := 111) Tryz.func7 rfl rfl rfl fun cx hcx => ?_
  generalize hR : mrF l n1 n2 a = R
  repeat' (first | (refine AW.sreg rfl fun K hK => ?_; simp only [go_sem, Nat.reduceAdd, Nat.reduceMul, Int.reduceToNat, Nat.reduceLT, Nat.reduceLeDiff, Nat.le_refl, Nat.reduceEqDiff, ↓reduceIte, beq_self_eq_true, bne_self_eq_false, Int.reduceBEq, Int.reduceBNe, or_self, true_or, or_true, Option.map_some, Option.map_none]) | (refine AW.seq_k fun K hK => ?_) | (refine AW.block ?_) | (refine hK _ ?_; clear hK K) | (with_reducible refine And.intro ?_ ?_; first | omega | assumption | (focus (decide)) | (focus (simp; done)) | (focus (simp; omega)) | (focus (constructor <;> omega)) | fail))
  have h0 : List.replicate n2 (V.d (D.int .i64 0)) = dv ((biL l a 0 ++ List.replicate (n2 - 0) 0).map (D.int .i64)) := by simp [biL, dv]
  rw [h0]
  refine AW.loopF (ι := Nat) [0, 1, 2, 7, 8, 18] (fun p => [(19, I p)]) (fun p => [(0, some (Stm l (a + p))), (256, some (O.vec 3 1 (dv ((biL l a p ++ List.replicate (n2 - p) 0).map (D.int .i64)))))]) 9 (fun p => p ≤ n2) (fun p => n2 - p) 0 (Nat.zero_le _) (Weak.auto hcx rfl rfl (Nat.le_of_ble_eq_true rfl) (by simp [go_sem, gL, kL, renOf, V.obj, lk, Nat.blt, Nat.ble, List.map_append, dv_push]) (by simp [go_sem, gL, kL, renOf, V.obj, lk, Nat.blt, Nat.ble, List.map_append, dv_push]) (by first | exact pk0 | exact pk1 ⟨_, rfl⟩ | exact pk2 ⟨_, rfl⟩ ⟨_, rfl⟩ | exact pk3 ⟨_, rfl⟩ ⟨_, rfl⟩ ⟨_, rfl⟩ | exact pk4 ⟨_, rfl⟩ ⟨_, rfl⟩ ⟨_, rfl⟩ ⟨_, rfl⟩) (by simp [go_sem, gL, kL, lk, renOf, V.obj, Nat.blt, Nat.ble])) ?_; simp only [St.at_nil, St.at_cons, lk, Nat.reduceEqDiff, ↓reduceIte, Option.getD_some, Option.getD_none, List.cons_append, List.nil_append, List.append_nil]
  intro i g1
  by_cases hi : i < n2
  · have nr := range_f l hl2 (a + i) (-2) 2 (by omega) (by omega) (by omega) (by omega) (by omega)
    have hbl := biL_len l a i
    have hpad := set_pad (biL l a i) (n2 - i - 1) (rg l (a + i) (-2) 2)
    rw [hbl, show n2 - i - 1 + 1 = n2 - i by omega, ← biL_succ, show n2 - i - 1 = n2 - (i + 1) by omega] at hpad
    have hst : (dv ((biL l a i ++ List.replicate (n2 - i) 0).map (D.int .i64))).set (0 + i) (.d (.int .i64 (rg l (a + i) (-2) 2))) = dv ((biL l a (i + 1) ++ List.replicate (n2 - (i + 1)) 0).map (D.int .i64)) := by
      rw [← hpad, Nat.zero_add, dv_set1, List.map_set]
    have hget : (dv ((biL l a i ++ List.replicate (n2 - i) 0).map (D.int .i64)))[0 + i]? = some (.d (.int .i64 0)) := by
      rw [Nat.zero_add, dv_get, List.getElem?_map, List.getElem?_append_right (by omega), hbl, List.getElem?_replicate]
      rw [if_pos (by omega)]
      rfl
    have hpos : a + ((i : Int) + 1) = a + i + 1 := by omega
    have hln : (dv ((biL l a i ++ List.replicate (n2 - i) 0).map (D.int .i64))).length = n2 := by simp [dv, hbl]; omega
    generalize dv ((biL l a i ++ List.replicate (n2 - i) 0).map (D.int .i64)) = X at *
    repeat' (first | ((first | refine AW.sreg rfl fun K hK => ?_ | refine AW.reg rfl ?_ | refine run_call _ _ _ ((nr).objs [0] ⟨rfl, trivial⟩ rfl (by decide) (by simp [go_sem, renOs]) (by simp) (by simp) (by simp [go_sem]) (by simp [go_sem]) (by simp [go_sem]) (by simp [go_sem])) rfl rfl (dstOk_of rfl) rfl rfl rfl ?_); simp only [go_sem, Nat.reduceAdd, Nat.reduceMul, Int.reduceToNat, Nat.reduceLT, Nat.reduceLeDiff, Nat.le_refl, Nat.reduceEqDiff, ↓reduceIte, beq_self_eq_true, bne_self_eq_false, Int.reduceBEq, Int.reduceBNe, or_self, true_or, or_true, Option.map_some, Option.map_none, hget, hst, hln]) | (refine AW.seq_k fun K hK => ?_) | (refine AW.block ?_) | (refine AW.skip ?_; simp only [Then, InBlock]) | (refine AW.condT rfl (by first | rfl | (simp; omega) | (simp [*]; done) | fail) ?_) | (refine hK _ ?_; clear hK K) | (with_reducible refine And.intro ?_ ?_; first | omega | assumption | (focus (decide)) | (focus (simp; done)) | (focus (simp; omega)) | (focus (constructor <;> omega)) | fail))
    exact ⟨i + 1, hi, by omega, (Weak.auto hcx rfl rfl (Nat.le_of_ble_eq_true rfl) (by simp [go_sem, gL, kL, renOf, V.obj, lk, Nat.blt, Nat.ble, List.map_append, dv_push, hpos]) (by simp [go_sem, gL, kL, renOf, V.obj, lk, Nat.blt, Nat.ble, List.map_append, dv_push, hpos]) (by first | exact pk0 | exact pk1 ⟨_, rfl⟩ | exact pk2 ⟨_, rfl⟩ ⟨_, rfl⟩ | exact pk3 ⟨_, rfl⟩ ⟨_, rfl⟩ ⟨_, rfl⟩ | exact pk4 ⟨_, rfl⟩ ⟨_, rfl⟩ ⟨_, rfl⟩ ⟨_, rfl⟩) (by simp [go_sem, gL, kL, lk, renOf, V.obj, Nat.blt, Nat.ble, hpos]))⟩
  · obtain rfl : i = n2 := by omega
    have hb0 : biL l a i ++ List.replicate (i - i) 0 = biL l a i := by simp
    rw [hb0]
    clear h0 hb0
    have hbl := biL_len l a i
    have hbg := biL_get l a i
    unfold mrF mrZ at hR
    generalize biL l a i = bs at *
    repeat' (first | (refine AW.sreg rfl fun K hK => ?_; simp only [go_sem, Nat.reduceAdd, Nat.reduceMul, Int.reduceToNat, Nat.reduceLT, Nat.reduceLeDiff, Nat.le_refl, Nat.reduceEqDiff, ↓reduceIte, beq_self_eq_true, bne_self_eq_false, Int.reduceBEq, Int.reduceBNe, or_self, true_or, or_true, Option.map_some, Option.map_none]) | (refine AW.seq_k fun K hK => ?_) | (refine AW.block ?_) | (refine AW.exit ?_; simp only [go_sem, ↓reduceIte]) | (refine AW.condF rfl (by first | rfl | (simp; omega) | (simp [*]; done) | fail) ?_) | (refine hK _ ?_; clear hK K) | (clear hK K; refine hK _ ?_; clear hK K))
    refine AW.weak (Weak.nil 7 39 3 rfl) ?_
    refine AW.loopF (ι := Nat) [0, 2, 8, 28] (fun p => [(7, .slr 768 0 (mkF l bs i (a + i) p).1.length), (29, I p)]) (fun p => [(0, some (Stm l (mkF l bs i (a + i) p).2)), (256, some (O.vec 3 1 (dv (bs.map (D.int .i64))))), (768, some (O.vec 39 3 (dv ((mkF l bs i (a + i) p).1.map mkD))))]) 13 (fun p => p ≤ n1) (fun p => n1 - p) 0 (Nat.zero_le _) (Weak.auto hcx rfl rfl (Nat.le_of_ble_eq_true rfl) (by simp [go_sem, gL, kL, renOf, V.obj, lk, Nat.blt, Nat.ble, List.map_append, dv_push, mkF]) (by simp [go_sem, gL, kL, renOf, V.obj, lk, Nat.blt, Nat.ble, List.map_append, dv_push, mkF]) (by first | exact pk0 | exact pk1 ⟨_, rfl⟩ | exact pk2 ⟨_, rfl⟩ ⟨_, rfl⟩ | exact pk3 ⟨_, rfl⟩ ⟨_, rfl⟩ ⟨_, rfl⟩ | exact pk4 ⟨_, rfl⟩ ⟨_, rfl⟩ ⟨_, rfl⟩ ⟨_, rfl⟩) (by simp [go_sem, gL, kL, lk, renOf, V.obj, Nat.blt, Nat.ble, mkF])) ?_; simp only [St.at_nil, St.at_cons, lk, Nat.reduceEqDiff, ↓reduceIte, Option.getD_some, Option.getD_none, List.cons_append, List.nil_append, List.append_nil]
    intro j g2
    have hat := mkF_at l bs i (a + i) j
    have hmul : (j : Int) * (1 + 2 * (i : Int)) ≤ 7 * (1 + 2 * 7) := Int.mul_le_mul (by omega) (by omega) (by omega) (by omega)
    have hmul2 : j * i ≤ 7 * 7 := Nat.mul_le_mul (by omega) (by omega)
    by_cases hj : j < n1
    · have hsu := mkF_succ l bs i (a + i) j
      generalize mkF l bs i (a + i) j = z at *
      obtain ⟨ms, po⟩ := z
      simp only at hat hsu ⊢
      obtain ⟨a1, a2, a3⟩ := hat
      have nr := range_f l hl2 po 2 8 (by omega) (by omega) (by omega) (by omega) (by omega)
      have hlv := rg_range l po 2 8 (by omega)
      generalize rg l po 2 8 = lev at *
      repeat' (first | ((first | refine AW.sreg rfl fun K hK => ?_ | refine run_call _ _ _ ((nr).objs [0] ⟨rfl, trivial⟩ rfl (by decide) (by simp [go_sem, renOs]) (by simp) (by simp) (by simp [go_sem]) (by simp [go_sem]) (by simp [go_sem]) (by simp [go_sem])) rfl rfl (dstOk_of rfl) rfl rfl rfl ?_); simp only [go_sem, Nat.reduceAdd, Nat.reduceMul, Int.reduceToNat, Nat.reduceLT, Nat.reduceLeDiff, Nat.le_refl, Nat.reduceEqDiff, ↓reduceIte, beq_self_eq_true, bne_self_eq_false, Int.reduceBEq, Int.reduceBNe, or_self, true_or, or_true, Option.map_some, Option.map_none]) | (refine AW.seq_k fun K hK => ?_) | (refine AW.block ?_) | (refine AW.skip ?_; simp only [Then, InBlock]) | (refine AW.condT rfl (by first | rfl | (simp; omega) | (simp [*]; done) | fail) ?_) | (refine hK _ ?_; clear hK K))
      refine AW.loopF (ι := Nat) [0, 2, 8, 10, 11, 28, 29, 34] (fun p => [(7, .slr 768 0 (rwF l bs lev j (ms, po + 1) p).1.length), (35, I p)]) (fun p => [(0, some (Stm l (rwF l bs lev j (ms, po + 1) p).2)), (256, some (O.vec 3 1 (dv (bs.map (D.int .i64))))), (768, some (O.vec 39 3 (dv ((rwF l bs lev j (ms, po + 1) p).1.map mkD))))]) 21 (fun p => p ≤ i) (fun p => i - p) 0 (Nat.zero_le _) (Weak.auto hcx rfl rfl (Nat.le_of_ble_eq_true rfl) (by simp [go_sem, gL, kL, renOf, V.obj, lk, Nat.blt, Nat.ble, List.map_append, dv_push, rwF]) (by simp [go_sem, gL, kL, renOf, V.obj, lk, Nat.blt, Nat.ble, List.map_append, dv_push, rwF]) (by first | exact pk0 | exact pk1 ⟨_, rfl⟩ | exact pk2 ⟨_, rfl⟩ ⟨_, rfl⟩ | exact pk3 ⟨_, rfl⟩ ⟨_, rfl⟩ ⟨_, rfl⟩ | exact pk4 ⟨_, rfl⟩ ⟨_, rfl⟩ ⟨_, rfl⟩ ⟨_, rfl⟩) (by simp [go_sem, gL, kL, lk, renOf, V.obj, Nat.blt, Nat.ble, rwF])) ?_; simp only [St.at_nil, St.at_cons, lk, Nat.reduceEqDiff, ↓reduceIte, Option.getD_some, Option.getD_none, List.cons_append, List.nil_append, List.append_nil]
      intro k g3
      have hrw := rwF_at l bs lev j (ms, po + 1) k
      by_cases hk : k < i
      · have hs2 := rwF_succ l bs lev j (ms, po + 1) k
        unfold rwS at hs2
        generalize rwF l bs lev j (ms, po + 1) k = y at *
        obtain ⟨ns, po2⟩ := y
        simp only at hrw hs2 ⊢
        obtain ⟨b1, b2, b3⟩ := hrw
        have c1 := flip_f l hl2 po2 3 (by omega) (by omega) (by omega) (by omega)
        have c2 := pick_f l hl2 (po2 + 1) (by omega) (by omega) [0, 0, 0, 1, -1] (by simp) (by simp)
        have hpk := pk_mem l (po2 + 1) [0, 0, 0, 1, -1] (by simp)
        obtain ⟨b, hb1, hb2, hb3⟩ := hbg k hk
        have hbd : bs.getD k 0 = b := by rw [List.getD_eq_getElem?_getD, hb1]; rfl
        rw [hbd] at hs2
        unfold scF at hs2
        generalize pk l (po2 + 1) [0, 0, 0, 1, -1] = q at *
        simp only [List.mem_cons, List.not_mem_nil, or_false] at hpk
        have hbv : (dv (bs.map (D.int .i64)))[0 + k]? = some (.d (.int .i64 b)) := by rw [Nat.zero_add, dv_get, List.getElem?_map, hb1]; rfl
        have e1 := enc_ok j (by omega)
        have e2 := enc_ok k (by omega)
        have l1 : (ltr j).length = 1 := rfl
        have l2 : (ltr k).length = 1 := rfl
        have htl : List.take ns.length (dv (ns.map mkD)) = dv (ns.map mkD) := List.take_of_length_le (by simp [dv])
        cases hf : fl l po2 3 with
        | true =>
          rw [hf] at c1 hs2
          rw [if_pos rfl] at hs2
          repeat' (first | ((first | refine AW.sreg rfl fun K hK => ?_ | refine AW.reg rfl ?_ | refine run_call _ _ _ ((c1).objs [0] ⟨rfl, trivial⟩ rfl (by decide) (by simp [go_sem, renOs]) (by simp) (by simp) (by simp [go_sem]) (by simp [go_sem]) (by simp [go_sem]) (by simp [go_sem])) rfl rfl (dstOk_of rfl) rfl rfl rfl ?_); simp only [go_sem, Nat.reduceAdd, Nat.reduceMul, Int.reduceToNat, Nat.reduceLT, Nat.reduceLeDiff, Nat.le_refl, Nat.reduceEqDiff, ↓reduceIte, beq_self_eq_true, bne_self_eq_false, Int.reduceBEq, Int.reduceBNe, or_self, true_or, or_true, Option.map_some, Option.map_none]) | (refine AW.seq_k fun K hK => ?_) | (refine AW.block ?_) | (refine AW.skip ?_; simp only [Then, InBlock]) | (refine AW.condT rfl (by first | rfl | (simp; omega) | (simp [*]; done) | fail) ?_) | (refine AW.condF rfl (by first | rfl | (simp; omega) | (simp [*]; done) | fail) ?_) | (refine hK _ ?_; clear hK K) | (with_reducible refine And.intro ?_ ?_; first | omega | assumption | (focus (decide)) | (focus (simp; done)) | (focus (simp; omega)) | (focus (constructor <;> omega)) | fail))
          exact ⟨k + 1, hk, by omega, (Weak.auto hcx rfl rfl (Nat.le_of_ble_eq_true rfl) (by simp [go_sem, gL, kL, renOf, V.obj, lk, Nat.blt, Nat.ble, List.map_append, dv_push, hs2]) (by simp [go_sem, gL, kL, renOf, V.obj, lk, Nat.blt, Nat.ble, List.map_append, dv_push, hs2]) (by first | exact pk0 | exact pk1 ⟨_, rfl⟩ | exact pk2 ⟨_, rfl⟩ ⟨_, rfl⟩ | exact pk3 ⟨_, rfl⟩ ⟨_, rfl⟩ ⟨_, rfl⟩ | exact pk4 ⟨_, rfl⟩ ⟨_, rfl⟩ ⟨_, rfl⟩ ⟨_, rfl⟩) (by simp [go_sem, gL, kL, lk, renOf, V.obj, Nat.blt, Nat.ble, hs2]))⟩
        | false =>
          rw [hf] at c1 hs2
          rw [if_neg (by simp)] at hs2
          repeat' (first | ((first | refine AW.sreg rfl fun K hK => ?_ | refine AW.sregD hmix rfl fun K hK => ?_ | refine AW.reg rfl ?_ | refine run_call _ _ _ ((c1).objs [0] ⟨rfl, trivial⟩ rfl (by decide) (by simp [go_sem, renOs]) (by simp) (by simp) (by simp [go_sem]) (by simp [go_sem]) (by simp [go_sem]) (by simp [go_sem])) rfl rfl (dstOk_of rfl) rfl rfl rfl ?_ | refine runT_call _ _ [0, 2176] (fun hv hag => (c2).objs [0, 2176] ⟨((hag 0 (by simp)).trans rfl), ((hag 2176 (by simp)).trans rfl), trivial⟩ rfl (by decide) (by simp [go_sem, renOs]) (by simp) (by simp) (by simp [go_sem]) (by simp [go_sem]) (by simp [go_sem]) (by simp [go_sem])) rfl rfl (dstOk_of rfl) rfl rfl ?_); simp only [go_sem, Nat.reduceAdd, Nat.reduceMul, Int.reduceToNat, Nat.reduceLT, Nat.reduceLeDiff, Nat.le_refl, Nat.reduceEqDiff, ↓reduceIte, beq_self_eq_true, bne_self_eq_false, Int.reduceBEq, Int.reduceBNe, or_self, true_or, or_true, Option.map_some, Option.map_none, hbv, hbl, e1, e2, l1, l2, htl, dv_length, List.length_map]) | (refine AW.seq_k fun K hK => ?_) | (refine AW.block ?_) | (refine AW.skip ?_; simp only [Then, InBlock]) | (refine AW.condT rfl (by first | rfl | (simp; omega) | (simp [*]; done) | fail) ?_) | (refine hK _ ?_; clear hK K) | (with_reducible refine And.intro (?_ : regOk _ _ = true) ?_; kernel_rfl) | (with_reducible refine And.intro ?_ ?_; first | omega | assumption | (focus (decide)) | (focus (simp; done)) | (focus (simp; omega)) | (focus (constructor <;> omega)) | fail))
          exact ⟨k + 1, hk, by omega, (Weak.auto hcx rfl rfl (Nat.le_of_ble_eq_true rfl) (by simp [go_sem, gL, kL, renOf, V.obj, lk, Nat.blt, Nat.ble, List.map_append, dv_push, hs2, pN, hN]) (by simp [go_sem, gL, kL, renOf, V.obj, lk, Nat.blt, Nat.ble, List.map_append, dv_push, hs2, pN, hN]) (by first | exact pk0 | exact pk1 ⟨_, rfl⟩ | exact pk2 ⟨_, rfl⟩ ⟨_, rfl⟩ | exact pk3 ⟨_, rfl⟩ ⟨_, rfl⟩ ⟨_, rfl⟩ | exact pk4 ⟨_, rfl⟩ ⟨_, rfl⟩ ⟨_, rfl⟩ ⟨_, rfl⟩) (by simp [go_sem, gL, kL, lk, renOf, V.obj, Nat.blt, Nat.ble, hs2, pN, hN]))⟩
      · obtain rfl : k = i := by omega
        repeat' (first | ((first | refine AW.sreg rfl fun K hK => ?_ | refine AW.reg rfl ?_); simp only [go_sem, Nat.reduceAdd, Nat.reduceMul, Int.reduceToNat, Nat.reduceLT, Nat.reduceLeDiff, Nat.le_refl, Nat.reduceEqDiff, ↓reduceIte, beq_self_eq_true, bne_self_eq_false, Int.reduceBEq, Int.reduceBNe, or_self, true_or, or_true, Option.map_some, Option.map_none]) | (refine AW.seq_k fun K hK => ?_) | (refine AW.exit ?_; simp only [go_sem, ↓reduceIte]) | (refine AW.condF rfl (by first | rfl | (simp; omega) | (simp [*]; done) | fail) ?_) | (refine hK _ ?_; clear hK K) | (clear hK K; refine hK _ ?_; clear hK K) | (with_reducible refine And.intro ?_ ?_; first | omega | assumption | (focus (decide)) | (focus (simp; done)) | (focus (simp; omega)) | (focus (constructor <;> omega)) | fail))
        exact ⟨j + 1, hj, by omega, (Weak.auto hcx rfl rfl (Nat.le_of_ble_eq_true rfl) (by simp [go_sem, gL, kL, renOf, V.obj, lk, Nat.blt, Nat.ble, List.map_append, dv_push, hsu]) (by simp [go_sem, gL, kL, renOf, V.obj, lk, Nat.blt, Nat.ble, List.map_append, dv_push, hsu]) (by first | exact pk0 | exact pk1 ⟨_, rfl⟩ | exact pk2 ⟨_, rfl⟩ ⟨_, rfl⟩ | exact pk3 ⟨_, rfl⟩ ⟨_, rfl⟩ ⟨_, rfl⟩ | exact pk4 ⟨_, rfl⟩ ⟨_, rfl⟩ ⟨_, rfl⟩ ⟨_, rfl⟩) (by simp [go_sem, gL, kL, lk, renOf, V.obj, Nat.blt, Nat.ble, hsu]))⟩
    · obtain rfl : j = n1 := by omega
      generalize mkF l bs i (a + i) j = z at *
      obtain ⟨ms, po⟩ := z
      simp only at hat hR ⊢
      obtain ⟨a1, a2, a3⟩ := hat
      have c1 := flip_f l hl2 po 15 (by omega) (by omega) (by omega) (by omega)
      cases hf : fl l po 15 with
      | false =>
        rw [hf] at c1 hR
        rw [Bool.false_and, if_neg (by simp)] at hR
        subst hR
        repeat' (first | ((first | refine AW.sreg rfl fun K hK => ?_ | refine run_call _ _ _ ((c1).objs [0] ⟨rfl, trivial⟩ rfl (by decide) (by simp [go_sem, renOs]) (by simp) (by simp) (by simp [go_sem]) (by simp [go_sem]) (by simp [go_sem]) (by simp [go_sem])) rfl rfl (dstOk_of rfl) rfl rfl rfl ?_); simp only [go_sem, Nat.reduceAdd, Nat.reduceMul, Int.reduceToNat, Nat.reduceLT, Nat.reduceLeDiff, Nat.le_refl, Nat.reduceEqDiff, ↓reduceIte, beq_self_eq_true, bne_self_eq_false, Int.reduceBEq, Int.reduceBNe, or_self, true_or, or_true, Option.map_some, Option.map_none]) | (refine AW.seq_k fun K hK => ?_) | (refine AW.skip ?_; simp only [Then, InBlock]) | (refine AW.exit ?_; simp only [go_sem, ↓reduceIte]) | (refine AW.condF rfl (by first | rfl | (simp; omega) | (simp [*]; done) | fail) ?_) | (refine hK _ ?_; clear hK K) | (clear hK K; refine hK _ ?_; clear hK K))
        exact AW.ret (Fin.one rfl ((frz_slr (e := 39) (s := 3) (xs := ms.map mkD) rfl rfl (by simp)).trans (by simp [go_sem])) ⟨_, rfl, by simp [go_sem]⟩ rfl rfl rfl)
      | true =>
      rw [hf] at c1 hR
      by_cases hl0 : 0 < ms.length
      case neg =>
        have hm0 : ms = [] := List.eq_nil_of_length_eq_zero (by omega)
        subst hm0
        rw [if_neg (by simp)] at hR
        subst hR
        repeat' (first | ((first | refine AW.sreg rfl fun K hK => ?_ | refine run_call _ _ _ ((c1).objs [0] ⟨rfl, trivial⟩ rfl (by decide) (by simp [go_sem, renOs]) (by simp) (by simp) (by simp [go_sem]) (by simp [go_sem]) (by simp [go_sem]) (by simp [go_sem])) rfl rfl (dstOk_of rfl) rfl rfl rfl ?_); simp only [go_sem, Nat.reduceAdd, Nat.reduceMul, Int.reduceToNat, Nat.reduceLT, Nat.reduceLeDiff, Nat.le_refl, Nat.reduceEqDiff, ↓reduceIte, beq_self_eq_true, bne_self_eq_false, Int.reduceBEq, Int.reduceBNe, or_self, true_or, or_true, Option.map_some, Option.map_none]) | (refine AW.seq_k fun K hK => ?_) | (refine AW.skip ?_; simp only [Then, InBlock]) | (refine AW.exit ?_; simp only [go_sem, ↓reduceIte]) | (refine AW.condF rfl (by first | rfl | (simp; omega) | (simp [*]; done) | fail) ?_) | (refine hK _ ?_; clear hK K) | (clear hK K; refine hK _ ?_; clear hK K))
        exact AW.ret (Fin.one rfl ((frz_slr (e := 39) (s := 3) (xs := []) rfl rfl (by simp)).trans (by simp [go_sem])) ⟨_, rfl, by simp [go_sem]⟩ rfl rfl rfl)
      rw [if_pos (by simp [hl0])] at hR
      have n1r := nextV_range l (po + 1) ms.length (by omega)
      have n1c := next_any l hl2 (po + 1) ms.length (by omega) (by omega) (by omega) (by omega)
      have n2r := nextV_range l (po + 1 + 1) 3 (by omega)
      have n2c := next_any l hl2 (po + 1 + 1) 3 (by omega) (by omega) (by omega) (by omega)
      generalize nextV l (po + 1) ms.length = v1 at *
      obtain ⟨k1, rfl⟩ := Int.eq_ofNat_of_zero_le n1r.1
      obtain ⟨m, hm, hmm, -⟩ := get_some (l := ms) (i := k1) (by omega)
      have hmd : ms.getD k1 ([], [], 0) = m := by rw [List.getD_eq_getElem?_getD, hm]; rfl
      rw [Int.toNat_natCast, hmd] at hR
      unfold chM at hR
      have hgm : (dv (ms.map mkD))[0 + k1]? = some (.d (mkD m)) := by rw [Nat.zero_add, dv_get, List.getElem?_map, hm]; rfl
      have hsm : ∀ m' : Mk, (dv (ms.map mkD)).set (0 + k1) (.d (mkD m')) = dv ((ms.set k1 m').map mkD) := fun m' => by rw [Nat.zero_add, dv_set1, List.map_set]
      have h3 : nextV l (po + 1 + 1) 3 = 0 ∨ nextV l (po + 1 + 1) 3 = 1 ∨ nextV l (po + 1 + 1) 3 = 2 := by omega
      rcases h3 with h3 | h3 | h3
      · rw [h3] at n2c hR
        rw [if_pos rfl] at hR
        have d1 := h06_f l hl2 (po + 1 + 1 + 1) (by omega) (by omega) [[], [112, 97], [80]] (by simp) (by simp)
        generalize og l (po + 1 + 1 + 1) [[], [112, 97], [80]] = x1 at *
        subst hR
        have hs1 := hsm (x1, m.2.1, m.2.2)
        repeat' (first | ((first | refine AW.sreg rfl fun K hK => ?_ | refine AW.reg rfl ?_ | refine run_call _ _ _ ((c1).objs [0] ⟨rfl, trivial⟩ rfl (by decide) (by simp [go_sem, renOs]) (by simp) (by simp) (by simp [go_sem]) (by simp [go_sem]) (by simp [go_sem]) (by simp [go_sem])) rfl rfl (dstOk_of rfl) rfl rfl rfl ?_ | refine run_call _ _ _ ((n1c).objs [0] ⟨rfl, trivial⟩ rfl (by decide) (by simp [go_sem, renOs]) (by simp) (by simp) (by simp [go_sem]) (by simp [go_sem]) (by simp [go_sem]) (by simp [go_sem])) rfl rfl (dstOk_of rfl) rfl rfl rfl ?_ | refine run_call _ _ _ ((n2c).objs [0] ⟨rfl, trivial⟩ rfl (by decide) (by simp [go_sem, renOs]) (by simp) (by simp) (by simp [go_sem]) (by simp [go_sem]) (by simp [go_sem]) (by simp [go_sem])) rfl rfl (dstOk_of rfl) rfl rfl rfl ?_ | refine run_call _ _ _ ((d1).objs [0, _] ⟨rfl, rfl, trivial⟩ rfl (by decide) (by simp [go_sem, renOs]) (by simp) (by simp) (by simp [go_sem]) (by simp [go_sem]) (by simp [go_sem]) (by simp [go_sem])) rfl rfl (dstOk_of rfl) rfl rfl rfl ?_); simp only [go_sem, Nat.reduceAdd, Nat.reduceMul, Int.reduceToNat, Nat.reduceLT, Nat.reduceLeDiff, Nat.le_refl, Nat.reduceEqDiff, ↓reduceIte, beq_self_eq_true, bne_self_eq_false, Int.reduceBEq, Int.reduceBNe, or_self, true_or, or_true, Option.map_some, Option.map_none, hgm, hs1]) | (refine AW.seq_k fun K hK => ?_) | (refine AW.block ?_) | (refine AW.exit ?_; simp only [go_sem, ↓reduceIte]) | (refine AW.condT rfl (by first | rfl | (simp; omega) | (simp [*]; done) | fail) ?_) | (refine AW.condF rfl (by first | rfl | (simp; omega) | (simp [*]; done) | fail) ?_) | (refine hK _ ?_; clear hK K) | (clear hK K; refine hK _ ?_; clear hK K) | (with_reducible refine And.intro ?_ ?_; first | omega | assumption | (focus (decide)) | (focus (simp; done)) | (focus (simp; omega)) | (focus (constructor <;> omega)) | fail))
        exact AW.ret (Fin.one rfl ((frz_slr (e := 39) (s := 3) (xs := (ms.set k1 (x1, m.2.1, m.2.2)).map mkD) rfl rfl (by simp)).trans (by simp [go_sem])) ⟨_, rfl, by simp [go_sem]⟩ rfl rfl rfl)
      · rw [h3] at n2c hR
        rw [if_neg (by decide), if_pos rfl] at hR
        have d1 := h06_f l hl2 (po + 1 + 1 + 1) (by omega) (by omega) [[], [104, 97], [72]] (by simp) (by simp)
        generalize og l (po + 1 + 1 + 1) [[], [104, 97], [72]] = x1 at *
        subst hR
        have hs1 := hsm (m.1, x1, m.2.2)
        repeat' (first | ((first | refine AW.sreg rfl fun K hK => ?_ | refine AW.reg rfl ?_ | refine run_call _ _ _ ((c1).objs [0] ⟨rfl, trivial⟩ rfl (by decide) (by simp [go_sem, renOs]) (by simp) (by simp) (by simp [go_sem]) (by simp [go_sem]) (by simp [go_sem]) (by simp [go_sem])) rfl rfl (dstOk_of rfl) rfl rfl rfl ?_ | refine run_call _ _ _ ((n1c).objs [0] ⟨rfl, trivial⟩ rfl (by decide) (by simp [go_sem, renOs]) (by simp) (by simp) (by simp [go_sem]) (by simp [go_sem]) (by simp [go_sem]) (by simp [go_sem])) rfl rfl (dstOk_of rfl) rfl rfl rfl ?_ | refine run_call _ _ _ ((n2c).objs [0] ⟨rfl, trivial⟩ rfl (by decide) (by simp [go_sem, renOs]) (by simp) (by simp) (by simp [go_sem]) (by simp [go_sem]) (by simp [go_sem]) (by simp [go_sem])) rfl rfl (dstOk_of rfl) rfl rfl rfl ?_ | refine run_call _ _ _ ((d1).objs [0, _] ⟨rfl, rfl, trivial⟩ rfl (by decide) (by simp [go_sem, renOs]) (by simp) (by simp) (by simp [go_sem]) (by simp [go_sem]) (by simp [go_sem]) (by simp [go_sem])) rfl rfl (dstOk_of rfl) rfl rfl rfl ?_); simp only [go_sem, Nat.reduceAdd, Nat.reduceMul, Int.reduceToNat, Nat.reduceLT, Nat.reduceLeDiff, Nat.le_refl, Nat.reduceEqDiff, ↓reduceIte, beq_self_eq_true, bne_self_eq_false, Int.reduceBEq, Int.reduceBNe, or_self, true_or, or_true, Option.map_some, Option.map_none, hgm, hs1]) | (refine AW.seq_k fun K hK => ?_) | (refine AW.block ?_) | (refine AW.exit ?_; simp only [go_sem, ↓reduceIte]) | (refine AW.condT rfl (by first | rfl | (simp; omega) | (simp [*]; done) | fail) ?_) | (refine AW.condF rfl (by first | rfl | (simp; omega) | (simp [*]; done) | fail) ?_) | (refine hK _ ?_; clear hK K) | (clear hK K; refine hK _ ?_; clear hK K) | (with_reducible refine And.intro ?_ ?_; first | omega | assumption | (focus (decide)) | (focus (simp; done)) | (focus (simp; omega)) | (focus (constructor <;> omega)) | fail))
        exact AW.ret (Fin.one rfl ((frz_slr (e := 39) (s := 3) (xs := (ms.set k1 (m.1, x1, m.2.2)).map mkD) rfl rfl (by simp)).trans (by simp [go_sem])) ⟨_, rfl, by simp [go_sem]⟩ rfl rfl rfl)
      · rw [h3] at n2c hR
        rw [if_neg (by decide), if_neg (by decide)] at hR
        have d1 := pick_f l hl2 (po + 1 + 1 + 1) (by omega) (by omega) [-1, 11] (by simp) (by simp)
        generalize pk l (po + 1 + 1 + 1) [-1, 11] = x1 at *
        subst hR
        have hs1 := hsm (m.1, m.2.1, x1)
        repeat' (first | ((first | refine AW.sreg rfl fun K hK => ?_ | refine AW.reg rfl ?_ | refine run_call _ _ _ ((c1).objs [0] ⟨rfl, trivial⟩ rfl (by decide) (by simp [go_sem, renOs]) (by simp) (by simp) (by simp [go_sem]) (by simp [go_sem]) (by simp [go_sem]) (by simp [go_sem])) rfl rfl (dstOk_of rfl) rfl rfl rfl ?_ | refine run_call _ _ _ ((n1c).objs [0] ⟨rfl, trivial⟩ rfl (by decide) (by simp [go_sem, renOs]) (by simp) (by simp) (by simp [go_sem]) (by simp [go_sem]) (by simp [go_sem]) (by simp [go_sem])) rfl rfl (dstOk_of rfl) rfl rfl rfl ?_ | refine run_call _ _ _ ((n2c).objs [0] ⟨rfl, trivial⟩ rfl (by decide) (by simp [go_sem, renOs]) (by simp) (by simp) (by simp [go_sem]) (by simp [go_sem]) (by simp [go_sem]) (by simp [go_sem])) rfl rfl (dstOk_of rfl) rfl rfl rfl ?_ | refine run_call _ _ _ ((d1).objs [0, _] ⟨rfl, rfl, trivial⟩ rfl (by decide) (by simp [go_sem, renOs]) (by simp) (by simp) (by simp [go_sem]) (by simp [go_sem]) (by simp [go_sem]) (by simp [go_sem])) rfl rfl (dstOk_of rfl) rfl rfl rfl ?_); simp only [go_sem, Nat.reduceAdd, Nat.reduceMul, Int.reduceToNat, Nat.reduceLT, Nat.reduceLeDiff, Nat.le_refl, Nat.reduceEqDiff, ↓reduceIte, beq_self_eq_true, bne_self_eq_false, Int.reduceBEq, Int.reduceBNe, or_self, true_or, or_true, Option.map_some, Option.map_none, hgm, hs1]) | (refine AW.seq_k fun K hK => ?_) | (refine AW.block ?_) | (refine AW.exit ?_; simp only [go_sem, ↓reduceIte]) | (refine AW.condT rfl (by first | rfl | (simp; omega) | (simp [*]; done) | fail) ?_) | (refine AW.condF rfl (by first | rfl | (simp; omega) | (simp [*]; done) | fail) ?_) | (refine hK _ ?_; clear hK K) | (clear hK K; refine hK _ ?_; clear hK K) | (with_reducible refine And.intro ?_ ?_; first | omega | assumption | (focus (decide)) | (focus (simp; done)) | (focus (simp; omega)) | (focus (constructor <;> omega)) | fail))
        exact AW.ret (Fin.one rfl ((frz_slr (e := 39) (s := 3) (xs := (ms.set k1 (m.1, m.2.1, x1)).map mkD) rfl rfl (by simp)).trans (by simp [go_sem])) ⟨_, rfl, by simp [go_sem]⟩ rfl rfl rfl)
/-- What drawn marks are made of. -/
structure FinK (n1 n2 : Nat) (m : Mk) : Prop where
  pa : m.1 ∈ (List.range n1).map pN ++ [[], [112, 97], [80]]
  pe : m.2.1 ∈ (List.range n2).map hN ++ [[], [104, 97], [72]]
  sc : -1 ≤ m.2.2 ∧ m.2.2 ≤ 11
theorem FinM.k {n1 n2 : Nat} {m : Mk} (h : FinM n1 n2 m) : FinK n1 n2 m := by
  obtain ⟨⟨i, hi, e1⟩, ⟨k, hk, e2⟩, h3, h4⟩ := h
  refine ⟨List.mem_append_left _ ?_, List.mem_append_left _ ?_, by omega, by omega⟩
  · rw [e1]; exact List.mem_map_of_mem (List.mem_range.2 hi)
  · rw [e2]; exact List.mem_map_of_mem (List.mem_range.2 hk)
theorem mrZ_fin (l : List Int) (n1 n2 : Nat) (a : Int) : ∀ m ∈ (mrZ l n1 n2 a).1, FinM n1 n2 m := mkF_fin l _ n1 n2 _ n1 (Nat.le_refl _)
theorem mrF_fin (l : List Int) (n1 n2 : Nat) (a : Int) : (mrF l n1 n2 a).1.length ≤ n1 * n2 ∧ ∀ m ∈ (mrF l n1 n2 a).1, FinK n1 n2 m := by
  have h1 := mrZ_fin l n1 n2 a
  have h2 : (mrZ l n1 n2 a).1.length ≤ n1 * n2 := (mkF_at l (biL l a n2) n2 (a + n2) n1).1
  unfold mrF
  generalize mrZ l n1 n2 a = z at *
  split
  · rename_i hc
    simp only [Bool.and_eq_true, decide_eq_true_eq] at hc
    refine ⟨by simp only [List.length_set]; exact h2, fun m hm => ?_⟩
    simp only at hm
    rcases List.mem_or_eq_of_mem_set hm with hm | rfl
    · exact (h1 m hm).k
    · have r := nextV_range l (z.2 + 1) z.1.length (by omega)
      have hd := h1 _ (getD_mem z.1 (nextV l (z.2 + 1) z.1.length).toNat ([], [], 0) (by omega))
      generalize z.1.getD (nextV l (z.2 + 1) z.1.length).toNat ([], [], 0) = q at *
      have hk := hd.k
      unfold chM
      split
      · exact ⟨List.mem_append_right _ (og_mem _ _ _ (by simp)), hk.pe, hk.sc⟩
      · split
        · exact ⟨hk.pa, List.mem_append_right _ (og_mem _ _ _ (by simp)), hk.sc⟩
        · have := pk_mem l (z.2 + 1 + 1 + 1) [-1, 11] (by simp)
          simp only [List.mem_cons, List.not_mem_nil, or_false] at this
          exact ⟨hk.pa, hk.pe, by simp only; omega, by simp only; omega⟩
  · exact ⟨h2, fun m hm => (h1 m hm).k⟩
theorem mrF_at (l : List Int) (n1 n2 : Nat) (a : Int) (h1 : n1 ≤ 7) (h2 : n2 ≤ 7) : a ≤ (mrF l n1 n2 a).2 ∧ (mrF l n1 n2 a).2 ≤ a + 200 := by
  have h := mkF_at l (biL l a n2) n2 (a + n2) n1
  have hmul : (n1 : Int) * (1 + 2 * (n2 : Int)) ≤ 7 * (1 + 2 * 7) := Int.mul_le_mul (by omega) (by omega) (by omega) (by omega)
  have e : mkF l (biL l a n2) n2 (a + n2) n1 = mrZ l n1 n2 a := rfl
  rw [e] at h
  unfold mrF
  split
  · simp only; omega
  · simp only; omega
end Go.AX

namespace Go.AX
open Go Go.Proofs Go.RowKit
/-! maps of numbers -/
abbrev IM := List (Str × Int)
def imI (m : IM) (k : Str) : Option Nat := (m.map (·.1)).findIdx? (fun x => k == x)
def imG (m : IM) (k : Str) : Int := match imI m k with
  | some j => (m.getD j ([], 0)).2
  | none => 0
def imP (m : IM) (k : Str) (v : Int) : IM := match imI m k with
  | some j => m.set j (k, v)
  | none => m ++ [(k, v)]
theorem fnd_im (m : IM) (k : Str) : fndK (.str k) (m.map fun q => D.str q.1) = some (imI m k) := by
  have : (m.map fun q => D.str q.1) = (m.map (·.1)).map D.str := by simp
  rw [this, fndK_str]
  rfl
theorem imI_some {m : IM} {k : Str} {j : Nat} (h : imI m k = some j) : ∃ v, m[j]? = some (k, v) ∧ imG m k = v := by
  have h2 := h
  unfold imI at h
  rw [List.findIdx?_eq_some_iff_getElem] at h
  obtain ⟨hj, hk, -⟩ := h
  simp only [List.length_map] at hj
  have hk : k = (m[j]).1 := by simpa using hk
  refine ⟨(m[j]).2, ?_, ?_⟩
  · rw [List.getElem?_eq_getElem hj, hk]
  · unfold imG
    rw [h2]
    simp [List.getD_eq_getElem?_getD, List.getElem?_eq_getElem hj]
theorem imI_new {m : IM} {k : Str} (v : Int) (h : imI m k = none) : imI (m ++ [(k, v)]) k = some m.length := by
  unfold imI at *
  rw [List.map_append, List.findIdx?_append, h]
  simp
theorem imP_keys {m : IM} {k : Str} {j : Nat} {v : Int} (h : m[j]? = some (k, v)) : (m.map fun q => D.str q.1).set j (.str k) = m.map fun q => D.str q.1 := by
  refine List.ext_getElem? fun i => ?_
  rw [List.getElem?_set]
  split
  · rename_i e
    subst e
    have hl := get_lt h
    rw [List.getElem?_eq_getElem hl] at h
    have h' : m[j] = (k, v) := by simpa using h
    simp [hl, h']
  · rfl
theorem imP_vals (m : IM) (k : Str) (j : Nat) (v : Int) : (dv (m.map fun q => D.int .i64 q.2)).set j (.d (.int .i64 v)) = dv ((m.set j (k, v)).map fun q => D.int .i64 q.2) := by simp [dv, List.map_set]
theorem imP_keys2 {m : IM} {k : Str} {j : Nat} {v v2 : Int} (h : m[j]? = some (k, v)) : ((m.set j (k, v2)).map fun q => D.str q.1) = m.map fun q => D.str q.1 := by
  rw [List.map_set]
  exact imP_keys h
theorem fnd_newI {m : IM} {k : Str} (h : imI m k = none) : fndK (.str k) ((m.map fun q => D.str q.1) ++ [.str k]) = some (some m.length) := by
  have := fnd_im (m ++ [(k, 0)]) k
  rw [imI_new 0 h] at this
  simpa using this
theorem imP_none {m : IM} {k : Str} {v : Int} (h : imI m k = none) : imP m k v = m ++ [(k, v)] := by unfold imP; rw [h]
theorem imP_some {m : IM} {k : Str} {v : Int} {j : Nat} (h : imI m k = some j) : imP m k v = m.set j (k, v) := by unfold imP; rw [h]
theorem imG_none {m : IM} {k : Str} (h : imI m k = none) : imG m k = 0 := by unfold imG; rw [h]
theorem imG_put (m : IM) (k k' : Str) (v : Int) : imG (imP m k v) k' = if k = k' then v else imG m k' := by
  cases ho : imI m k with
  | some j =>
    obtain ⟨v0, hv, hg⟩ := imI_some ho
    have hl := get_lt hv
    have hj : m[j] = (k, v0) := by rw [List.getElem?_eq_getElem hl] at hv; simpa using hv
    have hk : (m.set j (k, v)).map (·.1) = m.map (·.1) := by
      rw [List.map_set]
      refine List.ext_getElem? fun i => ?_
      rw [List.getElem?_set]
      split
      · rename_i e
        subst e
        simp [hl, hj]
      · rfl
    have hi : imI (m.set j (k, v)) k' = imI m k' := by unfold imI; rw [hk]
    rw [imP_some ho]
    by_cases e : k = k'
    · subst e
      rw [if_pos rfl]
      unfold imG
      rw [hi, ho]
      simp [List.getD_eq_getElem?_getD, hl]
    · rw [if_neg e]
      unfold imG
      rw [hi]
      cases h2 : imI m k' with
      | none => rfl
      | some i =>
        obtain ⟨v1, hv1, -⟩ := imI_some h2
        have hne : j ≠ i := by
          rintro rfl
          rw [hv] at hv1
          injection hv1 with h
          injection h with h1
          exact e h1
        simp [List.getD_eq_getElem?_getD, List.getElem?_set, hne]
  | none =>
    rw [imP_none ho]
    by_cases e : k = k'
    · subst e
      rw [if_pos rfl]
      unfold imG
      rw [imI_new v ho]
      simp [List.getD_eq_getElem?_getD]
    · rw [if_neg e]
      cases h2 : imI m k' with
      | none =>
        have h3 : imI (m ++ [(k, v)]) k' = none := by
          unfold imI at *
          rw [List.map_append, List.findIdx?_append, h2]
          simp [Ne.symm e]
        rw [imG_none h3, imG_none h2]
      | some i =>
        have h3 : imI (m ++ [(k, v)]) k' = some i := by
          unfold imI at *
          rw [List.map_append, List.findIdx?_append, h2]
          simp
        obtain ⟨v1, hv1, -⟩ := imI_some h2
        have hl := get_lt hv1
        unfold imG
        rw [h3, h2]
        simp [List.getD_eq_getElem?_getD, List.getElem?_append_left hl]
def goF {α : Type} (f : List α → α → Int) : List α → List α → Int
  | _, [] => 0
  | b, p :: r => if f b p ≠ 0 then f b p else goF f (b ++ [p]) r
theorem goF_step {α : Type} (f : List α → α → Int) {xs : List α} {i : Nat} {x : α} (h : xs[i]? = some x) : goF f (xs.take i) (xs.drop i) = if f (xs.take i) x ≠ 0 then f (xs.take i) x else goF f (xs.take (i + 1)) (xs.drop (i + 1)) := by
  have hl := get_lt h
  rw [List.getElem?_eq_getElem hl] at h
  have hx : xs[i] = x := by simpa using h
  rw [List.drop_eq_getElem_cons hl, goF, hx, List.take_add_one, List.getElem?_eq_getElem hl, hx]
  rfl
theorem goF_zero {α : Type} (f : List α → α → Int) : ∀ (r b : List α), goF f b r = 0 → ∀ i x, r[i]? = some x → f (b ++ r.take i) x = 0
  | [], b, h, i, x, hx => by simp at hx
  | p :: r, b, h, i, x, hx => by
    simp only [goF] at h
    split at h
    · rename_i hne; exact absurd h hne
    · rename_i h0
      simp only [ne_eq, Decidable.not_not] at h0
      cases i with
      | zero => simp at hx; subst hx; simpa using h0
      | succ i =>
        have := goF_zero f r (b ++ [p]) h i x (by simpa using hx)
        simpa using this
theorem goF_of {α : Type} (f : List α → α → Int) : ∀ (r b : List α), (∀ i x, r[i]? = some x → f (b ++ r.take i) x = 0) → goF f b r = 0
  | [], b, h => rfl
  | p :: r, b, h => by
    have h0 := h 0 p rfl
    simp only [List.take_zero, List.append_nil] at h0
    simp only [goF, h0, ne_eq, not_true_eq_false, if_false]
    refine goF_of f r (b ++ [p]) fun i x hx => ?_
    have := h (i + 1) x (by simpa using hx)
    simpa using this
def cnt (xs : List Mk) (p : Str) : Int := ((xs.filter fun m => m.1 == p).length : Nat)
theorem cnt_snoc (xs : List Mk) (m : Mk) (p : Str) : cnt (xs ++ [m]) p = cnt xs p + (if m.1 = p then 1 else 0) := by
  unfold cnt
  rw [List.filter_append, List.length_append]
  by_cases h : m.1 = p
  · simp [h]
  · simp [h]
def imC (xs : List Mk) : IM := xs.foldl (fun m x => imP m x.1 (imG m x.1 + 1)) []
theorem imC_snoc (xs : List Mk) (x : Mk) : imC (xs ++ [x]) = imP (imC xs) x.1 (imG (imC xs) x.1 + 1) := by unfold imC; rw [List.foldl_append]; rfl
theorem imC_cnt (ms : List Mk) (k : Str) : ∀ n, n ≤ ms.length → imG (imC (ms.take n)) k = cnt (ms.take n) k
  | 0, _ => rfl
  | n + 1, h => by
    obtain ⟨x, hx, -, -⟩ := get_some (l := ms) (i := n) (by omega)
    have e : ms.take (n + 1) = ms.take n ++ [x] := by rw [List.take_add_one, hx]; rfl
    rw [e, imC_snoc, imG_put, cnt_snoc]
    by_cases h1 : x.1 = k
    · rw [if_pos h1, if_pos h1, h1, imC_cnt ms k n (by omega)]
    · rw [if_neg h1, if_neg h1, imC_cnt ms k n (by omega), Int.add_zero]
def runS (p : Option Str × Int) (m : Mk) : Option Str × Int := (some m.1, if p.1 = some m.1 then p.2 + 1 else 1)
def run (xs : List Mk) : Option Str × Int := xs.foldl runS (none, 0)
theorem run_snoc (xs : List Mk) (m : Mk) : run (xs ++ [m]) = runS (run xs) m := by unfold run; rw [List.foldl_append]; rfl
theorem cnt_pos (xs : List Mk) (p : Str) : 0 ≤ cnt xs p := by unfold cnt; omega
theorem run_cnt (ms : List Mk) : ∀ n, n ≤ ms.length → 0 ≤ (run (ms.take n)).2 ∧ (∀ k, (run (ms.take n)).1 = some k → (run (ms.take n)).2 ≤ cnt (ms.take n) k) ∧ (run (ms.take n)).2 ≤ n
  | 0, _ => ⟨by simp [run], by simp [run], by simp [run]⟩
  | n + 1, h => by
    obtain ⟨x, hx, -, -⟩ := get_some (l := ms) (i := n) (by omega)
    have e : ms.take (n + 1) = ms.take n ++ [x] := by rw [List.take_add_one, hx]; rfl
    obtain ⟨h1, h2, h3⟩ := run_cnt ms n (by omega)
    rw [e, run_snoc]
    refine ⟨?_, fun k hk => ?_, ?_⟩
    · simp only [runS]; split <;> omega
    · simp only [runS, Option.some.injEq] at hk ⊢
      subst hk
      rw [cnt_snoc, if_pos rfl]
      have := cnt_pos (ms.take n) x.1
      split
      · rename_i h4; have := h2 _ h4; omega
      · omega
    · simp only [runS]; split <;> omega
theorem run_last (ms : List Mk) {n : Nat} {x : Mk} (hx : ms[n]? = some x) : (run (ms.take (n + 1))).1 = some x.1 := by
  have e : ms.take (n + 1) = ms.take n ++ [x] := by rw [List.take_add_one, hx]; rfl
  rw [e, run_snoc]
  rfl
def mL (bs : List Mk) (m : Mk) : Bool := match bs.getLast? with
  | none => false
  | some q => decide (0 ≤ cpP (q.1, q.2.1) (m.1, m.2.1))
def mF (many : List Mk → Mk → Int) (bs : List Mk) (m : Mk) : Int :=
  if (!keyB m.1 || !keyB m.2.1) = true then 5
  else if mL bs m = true then 7
  else if (decide (m.2.2 < 0) || decide (10 < m.2.2)) = true then 1
  else if 12 < many bs m then 2 else 0
def mnR (bs : List Mk) (m : Mk) : Int := cnt bs m.1 + 1
def mnP (bs : List Mk) (m : Mk) : Int := (runS (run bs) m).2
/-- Good marks. -/
structure GoodM (ms : List Mk) : Prop where
  keys : ∀ m ∈ ms, keyB m.1 = true ∧ keyB m.2.1 = true
  ord : ∀ i x y, ms[i]? = some x → ms[i + 1]? = some y → cpP (x.1, x.2.1) (y.1, y.2.1) < 0
  sc : ∀ m ∈ ms, 0 ≤ m.2.2 ∧ m.2.2 ≤ 10
  cnt : ∀ n m, ms[n]? = some m → cnt (ms.take n) m.1 + 1 ≤ 12
theorem mF_zero {many : List Mk → Mk → Int} {bs : List Mk} {m : Mk} (h : mF many bs m = 0) : keyB m.1 = true ∧ keyB m.2.1 = true ∧ mL bs m = false ∧ 0 ≤ m.2.2 ∧ m.2.2 ≤ 10 ∧ many bs m ≤ 12 := by
  unfold mF at h
  split at h
  · cases h
  rename_i c1
  split at h
  · cases h
  rename_i c2
  split at h
  · cases h
  rename_i c3
  split at h
  · cases h
  simp only [Bool.or_eq_true, Bool.not_eq_true', not_or, Bool.not_eq_false, decide_eq_true_eq] at c1 c3
  exact ⟨c1.1, c1.2, by simpa using c2, by omega, by omega, by omega⟩
theorem take_last {ms : List Mk} {i : Nat} {x : Mk} (h : ms[i]? = some x) : (ms.take (i + 1)).getLast? = some x := by
  rw [List.take_add_one, h]
  simp
theorem good_of {many : List Mk → Mk → Int} {ms : List Mk} (hm : ∀ n m, ms[n]? = some m → many (ms.take n) m ≤ 12 → cnt (ms.take n) m.1 + 1 ≤ 12) (h : goF (mF many) [] ms = 0) : GoodM ms := by
  have hz : ∀ i x, ms[i]? = some x → _ := fun i x hx => mF_zero (by have := goF_zero _ ms [] h i x hx; rwa [List.nil_append] at this)
  have hmem : ∀ m ∈ ms, ∃ i, ms[i]? = some m := fun m hm => List.getElem?_of_mem hm
  refine ⟨fun m hm => ?_, fun i x y hx hy => ?_, fun m hm => ?_, fun n m hn => ?_⟩
  · obtain ⟨i, hi⟩ := hmem m hm
    exact ⟨(hz i m hi).1, (hz i m hi).2.1⟩
  · have := (hz (i + 1) y hy).2.2.1
    unfold mL at this
    rw [take_last hx] at this
    simpa using this
  · obtain ⟨i, hi⟩ := hmem m hm
    exact ⟨(hz i m hi).2.2.2.1, (hz i m hi).2.2.2.2.1⟩
  · exact hm n m hn (hz n m hn).2.2.2.2.2
theorem goodR {ms : List Mk} (h : goF (mF mnR) [] ms = 0) : GoodM ms := good_of (fun n m _ h => h) h
theorem of_good {many : List Mk → Mk → Int} {ms : List Mk} (hm : ∀ n m, ms[n]? = some m → many (ms.take n) m ≤ cnt (ms.take n) m.1 + 1) (g : GoodM ms) : goF (mF many) [] ms = 0 := by
  refine goF_of _ ms [] fun i x hx => ?_
  rw [List.nil_append]
  have hxm := List.mem_of_getElem? hx
  obtain ⟨k1, k2⟩ := g.keys x hxm
  obtain ⟨s1, s2⟩ := g.sc x hxm
  have hc := g.cnt i x hx
  have hmn := hm i x hx
  have hl : mL (ms.take i) x = false := by
    unfold mL
    cases i with
    | zero => rfl
    | succ j =>
      obtain ⟨y, hy, -, -⟩ := get_some (l := ms) (i := j) (by have := get_lt hx; omega)
      rw [take_last hy]
      have := g.ord j y x hy hx
      simpa using this
  unfold mF
  rw [k1, k2, hl, if_neg (by simp), if_neg (by simp), if_neg (by simp; omega), if_neg (by omega)]
theorem mnP_le {ms : List Mk} (n : Nat) (m : Mk) (hn : ms[n]? = some m) : mnP (ms.take n) m ≤ cnt (ms.take n) m.1 + 1 := by
  obtain ⟨h1, h2, h3⟩ := run_cnt ms n (by have := get_lt hn; omega)
  have := cnt_pos (ms.take n) m.1
  unfold mnP runS
  simp only
  split
  · rename_i h4; have := h2 _ h4; omega
  · omega
theorem goodP {ms : List Mk} (g : GoodM ms) : goF (mF mnP) [] ms = 0 := of_good (fun n m hn => mnP_le n m hn) g
end Go.AX

namespace Go.AX
open Go Go.Proofs Go.RowKit
theorem pairOrder1_any (a b : Pr) : Does Tryz.prog 33 [.d (prD a), .d (prD b)] [] (I (cpP a b)) [] := by
  have h1 := compareStr_any a.1 b.1
  have h2 := compareStr_any a.2 b.2
  have h3 := cmpOr_any [Lib.compareBytes a.1 b.1, Lib.compareBytes a.2 b.2] (by simp)
  have e : orI [Lib.compareBytes a.1 b.1, Lib.compareBytes a.2 b.2] = cpP a b := by
    unfold cpP orI
    by_cases h : Lib.compareBytes a.1 b.1 = 0
    · by_cases h4 : Lib.compareBytes a.2 b.2 = 0
      · simp [h, h4, orI]
      · simp [h, h4, orI]
    · simp [h, orI]
  rw [e] at h3
  simp only [List.map_cons, List.map_nil] at h3
  refine Does.of_AW (n := 17) Tryz.func33 rfl rfl rfl fun cx hcx => ?_
  repeat' (first | ((first | refine AW.sreg rfl fun K hK => ?_ | refine AW.sregD hmix rfl fun K hK => ?_ | refine runT_call _ _ [] (fun hv _ => (h1).pure rfl rfl hv _) rfl rfl (dstOk_of rfl) rfl rfl ?_ | refine runT_call _ _ [] (fun hv _ => (h2).pure rfl rfl hv _) rfl rfl (dstOk_of rfl) rfl rfl ?_ | refine runT_call _ _ [832] (fun hv hag => (h3).lend (by repeat' (first | exact frzL_nil | refine frzL_cons (by first | exact frz_d | exact frz_slr rfl ((hag 832 (by simp)).trans rfl) (by first | (simp; done) | (simp; omega) | (simp [*]; done) | fail) | rfl) ?_)) rfl rfl rfl) rfl rfl (dstOk_of rfl) rfl rfl ?_); simp only [go_sem, Nat.reduceAdd, Nat.reduceMul, Int.reduceToNat, Nat.reduceLT, Nat.reduceLeDiff, Nat.le_refl, Nat.reduceEqDiff, ↓reduceIte, beq_self_eq_true, bne_self_eq_false, Int.reduceBEq, Int.reduceBNe, or_self, true_or, or_true, Option.map_some, Option.map_none]) | (refine hK _ ?_; clear hK K) | (with_reducible refine And.intro (?_ : regOk _ _ = true) ?_; kernel_rfl) | (refine AW.ret (Fin.data rfl (by first | (simp only [go_sem]; done) | (simp [go_sem, *]; done) | (simp [go_sem]; omega) | rfl) rfl)))
/-- The last one ahead, as the walks meet it. -/
theorem mL_cases {ms : List Mk} {i : Nat} {x : Mk} (hx : ms[i]? = some x) : (mL (ms.take i) x = true ∧ ∃ q, 0 < i ∧ (ms.map mkD)[((i : Int) - 1).toNat]? = some (mkD q) ∧ 0 ≤ cpP (q.1, q.2.1) (x.1, x.2.1)) ∨ (mL (ms.take i) x = false ∧ i = 0) ∨ (mL (ms.take i) x = false ∧ ∃ q, 0 < i ∧ (ms.map mkD)[((i : Int) - 1).toNat]? = some (mkD q) ∧ ¬ 0 ≤ cpP (q.1, q.2.1) (x.1, x.2.1)) := by
  rcases i with _ | j
  · exact .inr (.inl ⟨rfl, rfl⟩)
  · obtain ⟨q, hq, -, -⟩ := get_some (l := ms) (i := j) (by have := get_lt hx; omega)
    have e1 := take_last hq
    have e2 : (ms.map mkD)[(((j + 1 : Nat) : Int) - 1).toNat]? = some (mkD q) := by
      rw [show (((j + 1 : Nat) : Int) - 1).toNat = j by omega, List.getElem?_map, hq]
      rfl
    by_cases hc : 0 ≤ cpP (q.1, q.2.1) (x.1, x.2.1)
    · exact .inl ⟨by unfold mL; rw [e1]; simpa using hc, q, by omega, e2, hc⟩
    · exact .inr (.inr ⟨by unfold mL; rw [e1]; simpa using hc, q, by omega, e2, hc⟩)
abbrev KeyO (s : Str) : Prop := Does Tryz.prog 32 [S s] [] (B (keyB s)) []
theorem marksFault_any (ms : List Mk) (hl : ms.length ≤ 1000) (hk : ∀ m ∈ ms, KeyO m.1 ∧ KeyO m.2.1) : Does Tryz.prog 8 [.d (.sl (ms.map mkD))] [] (I (goF (mF mnR) [] ms)) [] := by
  refine Does.of_AW (n := 68) Tryz.func8 rfl rfl rfl fun cx hcx => ?_
  generalize hT : goF (mF mnR) [] ms = T
  repeat' (first | (refine AW.sreg rfl fun K hK => ?_; simp only [go_sem, Nat.reduceAdd, Nat.reduceMul, Int.reduceToNat, Nat.reduceLT, Nat.reduceLeDiff, Nat.le_refl, Nat.reduceEqDiff, ↓reduceIte, beq_self_eq_true, bne_self_eq_false, Int.reduceBEq, Int.reduceBNe, or_self, true_or, or_true, Option.map_some, Option.map_none, List.length_map]) | (refine AW.seq_k fun K hK => ?_) | (refine AW.block ?_) | (refine AW.skip ?_; simp only [Then, InBlock]) | (refine AW.condF rfl (by first | rfl | (simp; omega) | (simp [*]; done) | fail) ?_) | (refine hK _ ?_; clear hK K))
  refine AW.loopF (ι := Nat) [0, 3, 10, 11] (fun p => [(12, I p)]) (fun p => [(256, some (O.map ((imC (ms.take p)).map fun q => D.str q.1) (dv ((imC (ms.take p)).map fun q => D.int .i64 q.2))))]) 9 (fun p => p ≤ ms.length ∧ goF (mF mnR) (ms.take p) (ms.drop p) = T) (fun p => ms.length - p) 0 ⟨by simp, hT⟩ (Weak.auto hcx rfl rfl (Nat.le_of_ble_eq_true rfl) (by simp [go_sem, gL, kL, renOf, V.obj, lk, Nat.blt, Nat.ble, List.map_append, dv_push, imC, dvz, List.take_zero, List.foldl_nil, List.map_nil]) (by simp [go_sem, gL, kL, renOf, V.obj, lk, Nat.blt, Nat.ble, List.map_append, dv_push, imC, dvz, List.take_zero, List.foldl_nil, List.map_nil]) (by first | exact pk0 | exact pk1 ⟨_, rfl⟩ | exact pk2 ⟨_, rfl⟩ ⟨_, rfl⟩ | exact pk3 ⟨_, rfl⟩ ⟨_, rfl⟩ ⟨_, rfl⟩ | exact pk4 ⟨_, rfl⟩ ⟨_, rfl⟩ ⟨_, rfl⟩ ⟨_, rfl⟩) (by simp [go_sem, gL, kL, lk, renOf, V.obj, Nat.blt, Nat.ble, imC, dvz, List.take_zero, List.foldl_nil, List.map_nil])) ?_; simp only [St.at_nil, St.at_cons, lk, Nat.reduceEqDiff, ↓reduceIte, Option.getD_some, Option.getD_none, List.cons_append, List.nil_append, List.append_nil]
  rintro i ⟨g1, g2⟩
  by_cases hi : i < ms.length
  · obtain ⟨x, hx, hxm, -⟩ := get_some hi
    have hget : (ms.map mkD)[i]? = some (mkD x) := by simp only [List.getElem?_map, hx, Option.map_some]
    rw [goF_step _ hx] at g2
    have hst : imC (ms.take (i + 1)) = imP (imC (ms.take i)) x.1 (imG (imC (ms.take i)) x.1 + 1) := by
      rw [List.take_add_one, hx]
      exact imC_snoc _ _
    have hct := imC_cnt ms x.1 i (by omega)
    have hcp := cnt_pos (ms.take i) x.1
    have hcl : cnt (ms.take i) x.1 ≤ i := by
      unfold cnt
      have := List.length_filter_le (fun m : Mk => m.1 == x.1) (ms.take i)
      rw [List.length_take] at this
      omega
    obtain ⟨hk1, hk2⟩ := hk x hxm
    have hL := mL_cases hx
    generalize hF : mF mnR (ms.take i) x = F at g2
    simp only [mF, mnR] at hF
    simp only [← hct] at hF hcp hcl
    clear hct
    obtain ⟨xp, xq, xs⟩ := x
    simp only at hst hk1 hk2 hL hF hcp hcl
    unfold KeyO at hk1 hk2
    have hpo : ∀ q : Mk, Does Tryz.prog 33 [.d (prD (q.1, q.2.1)), .d (prD (xp, xq))] [] (I (cpP (q.1, q.2.1) (xp, xq))) [] := fun q => pairOrder1_any _ _
    generalize mL (ms.take i) (xp, xq, xs) = mLb at *
    generalize imC (ms.take i) = om at *
    generalize keyB xp = k1 at *
    generalize keyB xq = k2 at *
    have hf := fnd_im om xp
    -- what is known of the map
    have hM : (∃ hf1 : fndK (.str xp) (om.map fun q => D.str q.1) = some none, True ∧ True) ∨ True := .inr trivial
    clear hM
    cases ho : imI om xp with
    | none =>
      rw [ho] at hf
      have hf2 := fnd_newI ho
      rw [imG_none ho] at hF hcp hcl hst
      rw [imP_none ho] at hst
      have hgn : (dv (om.map fun q => D.int .i64 q.2) ++ [V.d (D.int .i64 (0 + 1))])[om.length]? = some (V.d (D.int .i64 (0 + 1))) := by simp [dv]
      cases k1 with
      | false =>
        rw [if_pos (by simp)] at hF
        subst hF
        rw [if_pos (by simp)] at g2
        subst g2
        repeat' (first | ((first | refine AW.sreg rfl fun K hK => ?_ | refine run_call _ _ _ ((hk1).pure rfl rfl _ _) rfl rfl (dstOk_of rfl) rfl rfl rfl ?_); simp only [go_sem, Nat.reduceAdd, Nat.reduceMul, Int.reduceToNat, Nat.reduceLT, Nat.reduceLeDiff, Nat.le_refl, Nat.reduceEqDiff, ↓reduceIte, beq_self_eq_true, bne_self_eq_false, Int.reduceBEq, Int.reduceBNe, or_self, true_or, or_true, Option.map_some, Option.map_none, List.length_map, hget, hf]) | (refine AW.seq_k fun K hK => ?_) | (refine AW.block ?_) | (refine AW.skip ?_; simp only [Then, InBlock]) | (refine AW.condT rfl (by first | rfl | (simp; omega) | (simp [*]; done) | fail) ?_) | (refine hK _ ?_; clear hK K) | (with_reducible refine And.intro ?_ ?_; first | omega | assumption | (focus (decide)) | (focus (simp; done)) | (focus (simp; omega)) | (focus (constructor <;> omega)) | fail) | (refine AW.ret (Fin.data rfl (by first | (simp only [go_sem]; done) | (simp [go_sem, *]; done) | (simp [go_sem]; omega) | rfl) rfl)))
      | true =>
      cases k2 with
      | false =>
        rw [if_pos (by simp)] at hF
        subst hF
        rw [if_pos (by simp)] at g2
        subst g2
        repeat' (first | ((first | refine AW.sreg rfl fun K hK => ?_ | refine run_call _ _ _ ((hk1).pure rfl rfl _ _) rfl rfl (dstOk_of rfl) rfl rfl rfl ?_ | refine run_call _ _ _ ((hk2).pure rfl rfl _ _) rfl rfl (dstOk_of rfl) rfl rfl rfl ?_); simp only [go_sem, Nat.reduceAdd, Nat.reduceMul, Int.reduceToNat, Nat.reduceLT, Nat.reduceLeDiff, Nat.le_refl, Nat.reduceEqDiff, ↓reduceIte, beq_self_eq_true, bne_self_eq_false, Int.reduceBEq, Int.reduceBNe, or_self, true_or, or_true, Option.map_some, Option.map_none, List.length_map, hget, hf]) | (refine AW.seq_k fun K hK => ?_) | (refine AW.block ?_) | (refine AW.skip ?_; simp only [Then, InBlock]) | (refine AW.condT rfl (by first | rfl | (simp; omega) | (simp [*]; done) | fail) ?_) | (refine hK _ ?_; clear hK K) | (with_reducible refine And.intro ?_ ?_; first | omega | assumption | (focus (decide)) | (focus (simp; done)) | (focus (simp; omega)) | (focus (constructor <;> omega)) | fail) | (refine AW.ret (Fin.data rfl (by first | (simp only [go_sem]; done) | (simp [go_sem, *]; done) | (simp [go_sem]; omega) | rfl) rfl)))
      | true =>
      rw [if_neg (by simp)] at hF
      rcases hL with ⟨hL, q, h0, hg, hlt⟩ | hL
      · rw [if_pos hL] at hF
        subst hF
        rw [if_pos (by simp)] at g2
        subst g2
        have hpq := hpo q
        repeat' (first | ((first | refine AW.sreg rfl fun K hK => ?_ | refine AW.sregD hmix rfl fun K hK => ?_ | refine run_call _ _ _ ((hk1).pure rfl rfl _ _) rfl rfl (dstOk_of rfl) rfl rfl rfl ?_ | refine run_call _ _ _ ((hk2).pure rfl rfl _ _) rfl rfl (dstOk_of rfl) rfl rfl rfl ?_ | refine runT_call _ _ [] (fun hv _ => (hpq).pure rfl rfl hv _) rfl rfl (dstOk_of rfl) rfl rfl ?_); simp only [go_sem, Nat.reduceAdd, Nat.reduceMul, Int.reduceToNat, Nat.reduceLT, Nat.reduceLeDiff, Nat.le_refl, Nat.reduceEqDiff, ↓reduceIte, beq_self_eq_true, bne_self_eq_false, Int.reduceBEq, Int.reduceBNe, or_self, true_or, or_true, Option.map_some, Option.map_none, List.length_map, hget, hg, hlt, hf]) | (refine AW.seq_k fun K hK => ?_) | (refine AW.block ?_) | (refine AW.skip ?_; simp only [Then, InBlock]) | (refine AW.condT rfl (by first | rfl | (simp; omega) | (simp [*]; done) | fail) ?_) | (refine AW.condF rfl (by first | rfl | (simp; omega) | (simp [*]; done) | fail) ?_) | (refine hK _ ?_; clear hK K) | (refine stepBT_split (fun h => ?_) (fun h => ?_) <;> (have hb0 := h) <;> (try simp only [Bool.not_eq_true', Bool.not_eq_false'] at hb0) <;> (try simp only [decide_eq_true_eq, decide_eq_false_iff_not, Bool.not_eq_true', Bool.not_eq_false', Bool.not_eq_eq_eq_not, Bool.not_true, Bool.not_false, beq_iff_eq, bne_iff_ne, beq_eq_false_iff_ne, ne_eq, Bool.and_eq_true, Bool.or_eq_true, Bool.or_eq_false_iff] at h) <;> simp only [go_sem, Nat.reduceAdd, Nat.reduceMul, Int.reduceToNat, Nat.reduceLT, Nat.reduceLeDiff, Nat.le_refl, Nat.reduceEqDiff, ↓reduceIte, beq_self_eq_true, bne_self_eq_false, Int.reduceBEq, Int.reduceBNe, or_self, true_or, or_true, Option.map_some, Option.map_none, hb0, h, decide_true, decide_false, List.length_map, hget, hg, hlt, hf] <;> (try clear hb0)) | (with_reducible refine And.intro (?_ : regOk _ _ = true) ?_; kernel_rfl) | (with_reducible refine And.intro ?_ ?_; first | omega | assumption | (focus (decide)) | (focus (simp; done)) | (focus (simp; omega)) | (focus (constructor <;> omega)) | fail) | (refine AW.ret (Fin.data rfl (by first | (simp only [go_sem]; done) | (simp [go_sem, *]; done) | (simp [go_sem]; omega) | rfl) rfl)))
      have hLf : mLb = false := by rcases hL with h | h <;> exact h.1
      rw [hLf, if_neg (by simp)] at hF
      by_cases s1 : xs < 0
      · rw [if_pos (by simp [s1])] at hF
        subst hF
        rw [if_pos (by simp)] at g2
        subst g2
        rcases hL with ⟨-, h0⟩ | ⟨-, q, h0, hg, hlt⟩
        · repeat' (first | ((first | refine AW.sreg rfl fun K hK => ?_ | refine AW.sregD hmix rfl fun K hK => ?_ | refine run_call _ _ _ ((hk1).pure rfl rfl _ _) rfl rfl (dstOk_of rfl) rfl rfl rfl ?_ | refine run_call _ _ _ ((hk2).pure rfl rfl _ _) rfl rfl (dstOk_of rfl) rfl rfl rfl ?_); simp only [go_sem, Nat.reduceAdd, Nat.reduceMul, Int.reduceToNat, Nat.reduceLT, Nat.reduceLeDiff, Nat.le_refl, Nat.reduceEqDiff, ↓reduceIte, beq_self_eq_true, bne_self_eq_false, Int.reduceBEq, Int.reduceBNe, or_self, true_or, or_true, Option.map_some, Option.map_none, List.length_map, hget, hf, s1]) | (refine AW.seq_k fun K hK => ?_) | (refine AW.block ?_) | (refine AW.skip ?_; simp only [Then, InBlock]) | (refine AW.condT rfl (by first | rfl | (simp; omega) | (simp [*]; done) | fail) ?_) | (refine AW.condF rfl (by first | rfl | (simp; omega) | (simp [*]; done) | fail) ?_) | (refine hK _ ?_; clear hK K) | (refine stepBT_split (fun h => ?_) (fun h => ?_) <;> (have hb0 := h) <;> (try simp only [Bool.not_eq_true', Bool.not_eq_false'] at hb0) <;> (try simp only [decide_eq_true_eq, decide_eq_false_iff_not, Bool.not_eq_true', Bool.not_eq_false', Bool.not_eq_eq_eq_not, Bool.not_true, Bool.not_false, beq_iff_eq, bne_iff_ne, beq_eq_false_iff_ne, ne_eq, Bool.and_eq_true, Bool.or_eq_true, Bool.or_eq_false_iff] at h) <;> simp only [go_sem, Nat.reduceAdd, Nat.reduceMul, Int.reduceToNat, Nat.reduceLT, Nat.reduceLeDiff, Nat.le_refl, Nat.reduceEqDiff, ↓reduceIte, beq_self_eq_true, bne_self_eq_false, Int.reduceBEq, Int.reduceBNe, or_self, true_or, or_true, Option.map_some, Option.map_none, hb0, h, decide_true, decide_false, List.length_map, hget, hf, s1] <;> (try clear hb0)) | (with_reducible refine And.intro (?_ : regOk _ _ = true) ?_; kernel_rfl) | (with_reducible refine And.intro ?_ ?_; first | omega | assumption | (focus (decide)) | (focus (simp; done)) | (focus (simp; omega)) | (focus (constructor <;> omega)) | fail) | (refine AW.ret (Fin.data rfl (by first | (simp only [go_sem]; done) | (simp [go_sem, *]; done) | (simp [go_sem]; omega) | rfl) rfl)) | (exfalso; omega))
        · have hpq := hpo q
          repeat' (first | ((first | refine AW.sreg rfl fun K hK => ?_ | refine AW.sregD hmix rfl fun K hK => ?_ | refine run_call _ _ _ ((hk1).pure rfl rfl _ _) rfl rfl (dstOk_of rfl) rfl rfl rfl ?_ | refine run_call _ _ _ ((hk2).pure rfl rfl _ _) rfl rfl (dstOk_of rfl) rfl rfl rfl ?_ | refine runT_call _ _ [] (fun hv _ => (hpq).pure rfl rfl hv _) rfl rfl (dstOk_of rfl) rfl rfl ?_); simp only [go_sem, Nat.reduceAdd, Nat.reduceMul, Int.reduceToNat, Nat.reduceLT, Nat.reduceLeDiff, Nat.le_refl, Nat.reduceEqDiff, ↓reduceIte, beq_self_eq_true, bne_self_eq_false, Int.reduceBEq, Int.reduceBNe, or_self, true_or, or_true, Option.map_some, Option.map_none, List.length_map, hget, hg, hlt, hf, s1]) | (refine AW.seq_k fun K hK => ?_) | (refine AW.block ?_) | (refine AW.skip ?_; simp only [Then, InBlock]) | (refine AW.condT rfl (by first | rfl | (simp; omega) | (simp [*]; done) | fail) ?_) | (refine AW.condF rfl (by first | rfl | (simp; omega) | (simp [*]; done) | fail) ?_) | (refine hK _ ?_; clear hK K) | (refine stepBT_split (fun h => ?_) (fun h => ?_) <;> (have hb0 := h) <;> (try simp only [Bool.not_eq_true', Bool.not_eq_false'] at hb0) <;> (try simp only [decide_eq_true_eq, decide_eq_false_iff_not, Bool.not_eq_true', Bool.not_eq_false', Bool.not_eq_eq_eq_not, Bool.not_true, Bool.not_false, beq_iff_eq, bne_iff_ne, beq_eq_false_iff_ne, ne_eq, Bool.and_eq_true, Bool.or_eq_true, Bool.or_eq_false_iff] at h) <;> simp only [go_sem, Nat.reduceAdd, Nat.reduceMul, Int.reduceToNat, Nat.reduceLT, Nat.reduceLeDiff, Nat.le_refl, Nat.reduceEqDiff, ↓reduceIte, beq_self_eq_true, bne_self_eq_false, Int.reduceBEq, Int.reduceBNe, or_self, true_or, or_true, Option.map_some, Option.map_none, hb0, h, decide_true, decide_false, List.length_map, hget, hg, hlt, hf, s1] <;> (try clear hb0)) | (with_reducible refine And.intro (?_ : regOk _ _ = true) ?_; kernel_rfl) | (with_reducible refine And.intro ?_ ?_; first | omega | assumption | (focus (decide)) | (focus (simp; done)) | (focus (simp; omega)) | (focus (constructor <;> omega)) | fail) | (refine AW.ret (Fin.data rfl (by first | (simp only [go_sem]; done) | (simp [go_sem, *]; done) | (simp [go_sem]; omega) | rfl) rfl)))
      by_cases s2 : 10 < xs
      · rw [if_pos (by simp [s2])] at hF
        subst hF
        rw [if_pos (by simp)] at g2
        subst g2
        rcases hL with ⟨-, h0⟩ | ⟨-, q, h0, hg, hlt⟩
        · repeat' (first | ((first | refine AW.sreg rfl fun K hK => ?_ | refine AW.sregD hmix rfl fun K hK => ?_ | refine run_call _ _ _ ((hk1).pure rfl rfl _ _) rfl rfl (dstOk_of rfl) rfl rfl rfl ?_ | refine run_call _ _ _ ((hk2).pure rfl rfl _ _) rfl rfl (dstOk_of rfl) rfl rfl rfl ?_); simp only [go_sem, Nat.reduceAdd, Nat.reduceMul, Int.reduceToNat, Nat.reduceLT, Nat.reduceLeDiff, Nat.le_refl, Nat.reduceEqDiff, ↓reduceIte, beq_self_eq_true, bne_self_eq_false, Int.reduceBEq, Int.reduceBNe, or_self, true_or, or_true, Option.map_some, Option.map_none, List.length_map, hget, hf, s1, s2]) | (refine AW.seq_k fun K hK => ?_) | (refine AW.block ?_) | (refine AW.skip ?_; simp only [Then, InBlock]) | (refine AW.condT rfl (by first | rfl | (simp; omega) | (simp [*]; done) | fail) ?_) | (refine AW.condF rfl (by first | rfl | (simp; omega) | (simp [*]; done) | fail) ?_) | (refine hK _ ?_; clear hK K) | (refine stepB_split (fun h => ?_) (fun h => ?_) <;> (have hb0 := h) <;> (try simp only [Bool.not_eq_true', Bool.not_eq_false'] at hb0) <;> (try simp only [decide_eq_true_eq, decide_eq_false_iff_not, Bool.not_eq_true', Bool.not_eq_false', Bool.not_eq_eq_eq_not, Bool.not_true, Bool.not_false, beq_iff_eq, bne_iff_ne, beq_eq_false_iff_ne, ne_eq, Bool.and_eq_true, Bool.or_eq_true, Bool.or_eq_false_iff] at h) <;> simp only [go_sem, Nat.reduceAdd, Nat.reduceMul, Int.reduceToNat, Nat.reduceLT, Nat.reduceLeDiff, Nat.le_refl, Nat.reduceEqDiff, ↓reduceIte, beq_self_eq_true, bne_self_eq_false, Int.reduceBEq, Int.reduceBNe, or_self, true_or, or_true, Option.map_some, Option.map_none, hb0, h, decide_true, decide_false, List.length_map, hget, hf, s1, s2] <;> (try clear hb0)) | (refine stepBT_split (fun h => ?_) (fun h => ?_) <;> (have hb0 := h) <;> (try simp only [Bool.not_eq_true', Bool.not_eq_false'] at hb0) <;> (try simp only [decide_eq_true_eq, decide_eq_false_iff_not, Bool.not_eq_true', Bool.not_eq_false', Bool.not_eq_eq_eq_not, Bool.not_true, Bool.not_false, beq_iff_eq, bne_iff_ne, beq_eq_false_iff_ne, ne_eq, Bool.and_eq_true, Bool.or_eq_true, Bool.or_eq_false_iff] at h) <;> simp only [go_sem, Nat.reduceAdd, Nat.reduceMul, Int.reduceToNat, Nat.reduceLT, Nat.reduceLeDiff, Nat.le_refl, Nat.reduceEqDiff, ↓reduceIte, beq_self_eq_true, bne_self_eq_false, Int.reduceBEq, Int.reduceBNe, or_self, true_or, or_true, Option.map_some, Option.map_none, hb0, h, decide_true, decide_false, List.length_map, hget, hf, s1, s2] <;> (try clear hb0)) | (with_reducible refine And.intro (?_ : regOk _ _ = true) ?_; kernel_rfl) | (with_reducible refine And.intro ?_ ?_; first | omega | assumption | (focus (decide)) | (focus (simp; done)) | (focus (simp; omega)) | (focus (constructor <;> omega)) | fail) | (refine AW.ret (Fin.data rfl (by first | (simp only [go_sem]; done) | (simp [go_sem, *]; done) | (simp [go_sem]; omega) | rfl) rfl)) | (exfalso; omega))
        · have hpq := hpo q
          repeat' (first | ((first | refine AW.sreg rfl fun K hK => ?_ | refine AW.sregD hmix rfl fun K hK => ?_ | refine run_call _ _ _ ((hk1).pure rfl rfl _ _) rfl rfl (dstOk_of rfl) rfl rfl rfl ?_ | refine run_call _ _ _ ((hk2).pure rfl rfl _ _) rfl rfl (dstOk_of rfl) rfl rfl rfl ?_ | refine runT_call _ _ [] (fun hv _ => (hpq).pure rfl rfl hv _) rfl rfl (dstOk_of rfl) rfl rfl ?_); simp only [go_sem, Nat.reduceAdd, Nat.reduceMul, Int.reduceToNat, Nat.reduceLT, Nat.reduceLeDiff, Nat.le_refl, Nat.reduceEqDiff, ↓reduceIte, beq_self_eq_true, bne_self_eq_false, Int.reduceBEq, Int.reduceBNe, or_self, true_or, or_true, Option.map_some, Option.map_none, List.length_map, hget, hg, hlt, hf, s1, s2]) | (refine AW.seq_k fun K hK => ?_) | (refine AW.block ?_) | (refine AW.skip ?_; simp only [Then, InBlock]) | (refine AW.condT rfl (by first | rfl | (simp; omega) | (simp [*]; done) | fail) ?_) | (refine AW.condF rfl (by first | rfl | (simp; omega) | (simp [*]; done) | fail) ?_) | (refine hK _ ?_; clear hK K) | (refine stepB_split (fun h => ?_) (fun h => ?_) <;> (have hb0 := h) <;> (try simp only [Bool.not_eq_true', Bool.not_eq_false'] at hb0) <;> (try simp only [decide_eq_true_eq, decide_eq_false_iff_not, Bool.not_eq_true', Bool.not_eq_false', Bool.not_eq_eq_eq_not, Bool.not_true, Bool.not_false, beq_iff_eq, bne_iff_ne, beq_eq_false_iff_ne, ne_eq, Bool.and_eq_true, Bool.or_eq_true, Bool.or_eq_false_iff] at h) <;> simp only [go_sem, Nat.reduceAdd, Nat.reduceMul, Int.reduceToNat, Nat.reduceLT, Nat.reduceLeDiff, Nat.le_refl, Nat.reduceEqDiff, ↓reduceIte, beq_self_eq_true, bne_self_eq_false, Int.reduceBEq, Int.reduceBNe, or_self, true_or, or_true, Option.map_some, Option.map_none, hb0, h, decide_true, decide_false, List.length_map, hget, hg, hlt, hf, s1, s2] <;> (try clear hb0)) | (refine stepBT_split (fun h => ?_) (fun h => ?_) <;> (have hb0 := h) <;> (try simp only [Bool.not_eq_true', Bool.not_eq_false'] at hb0) <;> (try simp only [decide_eq_true_eq, decide_eq_false_iff_not, Bool.not_eq_true', Bool.not_eq_false', Bool.not_eq_eq_eq_not, Bool.not_true, Bool.not_false, beq_iff_eq, bne_iff_ne, beq_eq_false_iff_ne, ne_eq, Bool.and_eq_true, Bool.or_eq_true, Bool.or_eq_false_iff] at h) <;> simp only [go_sem, Nat.reduceAdd, Nat.reduceMul, Int.reduceToNat, Nat.reduceLT, Nat.reduceLeDiff, Nat.le_refl, Nat.reduceEqDiff, ↓reduceIte, beq_self_eq_true, bne_self_eq_false, Int.reduceBEq, Int.reduceBNe, or_self, true_or, or_true, Option.map_some, Option.map_none, hb0, h, decide_true, decide_false, List.length_map, hget, hg, hlt, hf, s1, s2] <;> (try clear hb0)) | (with_reducible refine And.intro (?_ : regOk _ _ = true) ?_; kernel_rfl) | (with_reducible refine And.intro ?_ ?_; first | omega | assumption | (focus (decide)) | (focus (simp; done)) | (focus (simp; omega)) | (focus (constructor <;> omega)) | fail) | (refine AW.ret (Fin.data rfl (by first | (simp only [go_sem]; done) | (simp [go_sem, *]; done) | (simp [go_sem]; omega) | rfl) rfl)))
      rw [if_neg (by simp [s1, s2]), if_neg (by omega)] at hF
      subst hF
      rw [if_neg (by simp)] at g2
      rcases hL with ⟨-, h0⟩ | ⟨-, q, h0, hg, hlt⟩
      · repeat' (first | ((first | refine AW.sreg rfl fun K hK => ?_ | refine AW.sregD hmix rfl fun K hK => ?_ | refine AW.reg rfl ?_ | refine run_call _ _ _ ((hk1).pure rfl rfl _ _) rfl rfl (dstOk_of rfl) rfl rfl rfl ?_ | refine run_call _ _ _ ((hk2).pure rfl rfl _ _) rfl rfl (dstOk_of rfl) rfl rfl rfl ?_); simp only [go_sem, Nat.reduceAdd, Nat.reduceMul, Int.reduceToNat, Nat.reduceLT, Nat.reduceLeDiff, Nat.le_refl, Nat.reduceEqDiff, ↓reduceIte, beq_self_eq_true, bne_self_eq_false, Int.reduceBEq, Int.reduceBNe, or_self, true_or, or_true, Option.map_some, Option.map_none, List.length_map, hget, hf, hf2, hgn, s1, s2]) | (refine AW.seq_k fun K hK => ?_) | (refine AW.block ?_) | (refine AW.skip ?_; simp only [Then, InBlock]) | (refine AW.condT rfl (by first | rfl | (simp; omega) | (simp [*]; done) | fail) ?_) | (refine AW.condF rfl (by first | rfl | (simp; omega) | (simp [*]; done) | fail) ?_) | (refine hK _ ?_; clear hK K) | (refine stepB_split (fun h => ?_) (fun h => ?_) <;> (have hb0 := h) <;> (try simp only [Bool.not_eq_true', Bool.not_eq_false'] at hb0) <;> (try simp only [decide_eq_true_eq, decide_eq_false_iff_not, Bool.not_eq_true', Bool.not_eq_false', Bool.not_eq_eq_eq_not, Bool.not_true, Bool.not_false, beq_iff_eq, bne_iff_ne, beq_eq_false_iff_ne, ne_eq, Bool.and_eq_true, Bool.or_eq_true, Bool.or_eq_false_iff] at h) <;> simp only [go_sem, Nat.reduceAdd, Nat.reduceMul, Int.reduceToNat, Nat.reduceLT, Nat.reduceLeDiff, Nat.le_refl, Nat.reduceEqDiff, ↓reduceIte, beq_self_eq_true, bne_self_eq_false, Int.reduceBEq, Int.reduceBNe, or_self, true_or, or_true, Option.map_some, Option.map_none, hb0, h, decide_true, decide_false, List.length_map, hget, hf, hf2, hgn, s1, s2] <;> (try clear hb0)) | (refine stepBT_split (fun h => ?_) (fun h => ?_) <;> (have hb0 := h) <;> (try simp only [Bool.not_eq_true', Bool.not_eq_false'] at hb0) <;> (try simp only [decide_eq_true_eq, decide_eq_false_iff_not, Bool.not_eq_true', Bool.not_eq_false', Bool.not_eq_eq_eq_not, Bool.not_true, Bool.not_false, beq_iff_eq, bne_iff_ne, beq_eq_false_iff_ne, ne_eq, Bool.and_eq_true, Bool.or_eq_true, Bool.or_eq_false_iff] at h) <;> simp only [go_sem, Nat.reduceAdd, Nat.reduceMul, Int.reduceToNat, Nat.reduceLT, Nat.reduceLeDiff, Nat.le_refl, Nat.reduceEqDiff, ↓reduceIte, beq_self_eq_true, bne_self_eq_false, Int.reduceBEq, Int.reduceBNe, or_self, true_or, or_true, Option.map_some, Option.map_none, hb0, h, decide_true, decide_false, List.length_map, hget, hf, hf2, hgn, s1, s2] <;> (try clear hb0)) | (with_reducible refine And.intro (?_ : regOk _ _ = true) ?_; kernel_rfl) | (with_reducible refine And.intro ?_ ?_; first | omega | assumption | (focus (decide)) | (focus (simp; done)) | (focus (simp; omega)) | (focus (constructor <;> omega)) | fail) | (exfalso; omega))
        exact ⟨i + 1, ⟨hi, g2⟩, by omega, (Weak.auto hcx rfl rfl (Nat.le_of_ble_eq_true rfl) (by simp [go_sem, gL, kL, renOf, V.obj, lk, Nat.blt, Nat.ble, List.map_append, dv_push, hst]) (by simp [go_sem, gL, kL, renOf, V.obj, lk, Nat.blt, Nat.ble, List.map_append, dv_push, hst]) (by first | exact pk0 | exact pk1 ⟨_, rfl⟩ | exact pk2 ⟨_, rfl⟩ ⟨_, rfl⟩ | exact pk3 ⟨_, rfl⟩ ⟨_, rfl⟩ ⟨_, rfl⟩ | exact pk4 ⟨_, rfl⟩ ⟨_, rfl⟩ ⟨_, rfl⟩ ⟨_, rfl⟩) (by simp [go_sem, gL, kL, lk, renOf, V.obj, Nat.blt, Nat.ble, hst]))⟩
      · have hpq := hpo q
        repeat' (first | ((first | refine AW.sreg rfl fun K hK => ?_ | refine AW.sregD hmix rfl fun K hK => ?_ | refine AW.reg rfl ?_ | refine run_call _ _ _ ((hk1).pure rfl rfl _ _) rfl rfl (dstOk_of rfl) rfl rfl rfl ?_ | refine run_call _ _ _ ((hk2).pure rfl rfl _ _) rfl rfl (dstOk_of rfl) rfl rfl rfl ?_ | refine runT_call _ _ [] (fun hv _ => (hpq).pure rfl rfl hv _) rfl rfl (dstOk_of rfl) rfl rfl ?_); simp only [go_sem, Nat.reduceAdd, Nat.reduceMul, Int.reduceToNat, Nat.reduceLT, Nat.reduceLeDiff, Nat.le_refl, Nat.reduceEqDiff, ↓reduceIte, beq_self_eq_true, bne_self_eq_false, Int.reduceBEq, Int.reduceBNe, or_self, true_or, or_true, Option.map_some, Option.map_none, List.length_map, hget, hg, hlt, hf, hf2, hgn, s1, s2]) | (refine AW.seq_k fun K hK => ?_) | (refine AW.block ?_) | (refine AW.skip ?_; simp only [Then, InBlock]) | (refine AW.condT rfl (by first | rfl | (simp; omega) | (simp [*]; done) | fail) ?_) | (refine AW.condF rfl (by first | rfl | (simp; omega) | (simp [*]; done) | fail) ?_) | (refine hK _ ?_; clear hK K) | (refine stepB_split (fun h => ?_) (fun h => ?_) <;> (have hb0 := h) <;> (try simp only [Bool.not_eq_true', Bool.not_eq_false'] at hb0) <;> (try simp only [decide_eq_true_eq, decide_eq_false_iff_not, Bool.not_eq_true', Bool.not_eq_false', Bool.not_eq_eq_eq_not, Bool.not_true, Bool.not_false, beq_iff_eq, bne_iff_ne, beq_eq_false_iff_ne, ne_eq, Bool.and_eq_true, Bool.or_eq_true, Bool.or_eq_false_iff] at h) <;> simp only [go_sem, Nat.reduceAdd, Nat.reduceMul, Int.reduceToNat, Nat.reduceLT, Nat.reduceLeDiff, Nat.le_refl, Nat.reduceEqDiff, ↓reduceIte, beq_self_eq_true, bne_self_eq_false, Int.reduceBEq, Int.reduceBNe, or_self, true_or, or_true, Option.map_some, Option.map_none, hb0, h, decide_true, decide_false, List.length_map, hget, hg, hlt, hf, hf2, hgn, s1, s2] <;> (try clear hb0)) | (refine stepBT_split (fun h => ?_) (fun h => ?_) <;> (have hb0 := h) <;> (try simp only [Bool.not_eq_true', Bool.not_eq_false'] at hb0) <;> (try simp only [decide_eq_true_eq, decide_eq_false_iff_not, Bool.not_eq_true', Bool.not_eq_false', Bool.not_eq_eq_eq_not, Bool.not_true, Bool.not_false, beq_iff_eq, bne_iff_ne, beq_eq_false_iff_ne, ne_eq, Bool.and_eq_true, Bool.or_eq_true, Bool.or_eq_false_iff] at h) <;> simp only [go_sem, Nat.reduceAdd, Nat.reduceMul, Int.reduceToNat, Nat.reduceLT, Nat.reduceLeDiff, Nat.le_refl, Nat.reduceEqDiff, ↓reduceIte, beq_self_eq_true, bne_self_eq_false, Int.reduceBEq, Int.reduceBNe, or_self, true_or, or_true, Option.map_some, Option.map_none, hb0, h, decide_true, decide_false, List.length_map, hget, hg, hlt, hf, hf2, hgn, s1, s2] <;> (try clear hb0)) | (with_reducible refine And.intro (?_ : regOk _ _ = true) ?_; kernel_rfl) | (with_reducible refine And.intro ?_ ?_; first | omega | assumption | (focus (decide)) | (focus (simp; done)) | (focus (simp; omega)) | (focus (constructor <;> omega)) | fail) | (exfalso; omega))
        exact ⟨i + 1, ⟨hi, g2⟩, by omega, (Weak.auto hcx rfl rfl (Nat.le_of_ble_eq_true rfl) (by simp [go_sem, gL, kL, renOf, V.obj, lk, Nat.blt, Nat.ble, List.map_append, dv_push, hst]) (by simp [go_sem, gL, kL, renOf, V.obj, lk, Nat.blt, Nat.ble, List.map_append, dv_push, hst]) (by first | exact pk0 | exact pk1 ⟨_, rfl⟩ | exact pk2 ⟨_, rfl⟩ ⟨_, rfl⟩ | exact pk3 ⟨_, rfl⟩ ⟨_, rfl⟩ ⟨_, rfl⟩ | exact pk4 ⟨_, rfl⟩ ⟨_, rfl⟩ ⟨_, rfl⟩ ⟨_, rfl⟩) (by simp [go_sem, gL, kL, lk, renOf, V.obj, Nat.blt, Nat.ble, hst]))⟩
    | some j =>
      obtain ⟨v, hv, hgv⟩ := imI_some ho
      rw [ho] at hf
      rw [hgv] at hF hcp hcl hst
      rw [imP_some ho] at hst
      have hkk := imP_keys hv
      have hvv := imP_vals om xp j (v + 1)
      have hgg : (dv (om.map fun q => D.int .i64 q.2))[j]? = some (.d (.int .i64 v)) := by simp [dv, hv]
      have hjl := get_lt hv
      have hgs : ((dv (om.map fun q => D.int .i64 q.2)).set j (V.d (D.int .i64 (v + 1))))[j]? = some (V.d (D.int .i64 (v + 1))) := by simp [dv, hjl]
      have hk22 := imP_keys2 (v2 := v + 1) hv
      cases k1 with
      | false =>
        rw [if_pos (by simp)] at hF
        subst hF
        rw [if_pos (by simp)] at g2
        subst g2
        repeat' (first | ((first | refine AW.sreg rfl fun K hK => ?_ | refine run_call _ _ _ ((hk1).pure rfl rfl _ _) rfl rfl (dstOk_of rfl) rfl rfl rfl ?_); simp only [go_sem, Nat.reduceAdd, Nat.reduceMul, Int.reduceToNat, Nat.reduceLT, Nat.reduceLeDiff, Nat.le_refl, Nat.reduceEqDiff, ↓reduceIte, beq_self_eq_true, bne_self_eq_false, Int.reduceBEq, Int.reduceBNe, or_self, true_or, or_true, Option.map_some, Option.map_none, List.length_map, hget, hf, hgg]) | (refine AW.seq_k fun K hK => ?_) | (refine AW.block ?_) | (refine AW.skip ?_; simp only [Then, InBlock]) | (refine AW.condT rfl (by first | rfl | (simp; omega) | (simp [*]; done) | fail) ?_) | (refine hK _ ?_; clear hK K) | (with_reducible refine And.intro ?_ ?_; first | omega | assumption | (focus (decide)) | (focus (simp; done)) | (focus (simp; omega)) | (focus (constructor <;> omega)) | fail) | (refine AW.ret (Fin.data rfl (by first | (simp only [go_sem]; done) | (simp [go_sem, *]; done) | (simp [go_sem]; omega) | rfl) rfl)))
      | true =>
      cases k2 with
      | false =>
        rw [if_pos (by simp)] at hF
        subst hF
        rw [if_pos (by simp)] at g2
        subst g2
        repeat' (first | ((first | refine AW.sreg rfl fun K hK => ?_ | refine run_call _ _ _ ((hk1).pure rfl rfl _ _) rfl rfl (dstOk_of rfl) rfl rfl rfl ?_ | refine run_call _ _ _ ((hk2).pure rfl rfl _ _) rfl rfl (dstOk_of rfl) rfl rfl rfl ?_); simp only [go_sem, Nat.reduceAdd, Nat.reduceMul, Int.reduceToNat, Nat.reduceLT, Nat.reduceLeDiff, Nat.le_refl, Nat.reduceEqDiff, ↓reduceIte, beq_self_eq_true, bne_self_eq_false, Int.reduceBEq, Int.reduceBNe, or_self, true_or, or_true, Option.map_some, Option.map_none, List.length_map, hget, hf, hgg]) | (refine AW.seq_k fun K hK => ?_) | (refine AW.block ?_) | (refine AW.skip ?_; simp only [Then, InBlock]) | (refine AW.condT rfl (by first | rfl | (simp; omega) | (simp [*]; done) | fail) ?_) | (refine hK _ ?_; clear hK K) | (with_reducible refine And.intro ?_ ?_; first | omega | assumption | (focus (decide)) | (focus (simp; done)) | (focus (simp; omega)) | (focus (constructor <;> omega)) | fail) | (refine AW.ret (Fin.data rfl (by first | (simp only [go_sem]; done) | (simp [go_sem, *]; done) | (simp [go_sem]; omega) | rfl) rfl)))
      | true =>
      rw [if_neg (by simp)] at hF
      rcases hL with ⟨hL, q, h0, hg, hlt⟩ | hL
      · rw [if_pos hL] at hF
        subst hF
        rw [if_pos (by simp)] at g2
        subst g2
        have hpq := hpo q
        repeat' (first | ((first | refine AW.sreg rfl fun K hK => ?_ | refine AW.sregD hmix rfl fun K hK => ?_ | refine run_call _ _ _ ((hk1).pure rfl rfl _ _) rfl rfl (dstOk_of rfl) rfl rfl rfl ?_ | refine run_call _ _ _ ((hk2).pure rfl rfl _ _) rfl rfl (dstOk_of rfl) rfl rfl rfl ?_ | refine runT_call _ _ [] (fun hv _ => (hpq).pure rfl rfl hv _) rfl rfl (dstOk_of rfl) rfl rfl ?_); simp only [go_sem, Nat.reduceAdd, Nat.reduceMul, Int.reduceToNat, Nat.reduceLT, Nat.reduceLeDiff, Nat.le_refl, Nat.reduceEqDiff, ↓reduceIte, beq_self_eq_true, bne_self_eq_false, Int.reduceBEq, Int.reduceBNe, or_self, true_or, or_true, Option.map_some, Option.map_none, List.length_map, hget, hg, hlt, hf, hgg]) | (refine AW.seq_k fun K hK => ?_) | (refine AW.block ?_) | (refine AW.skip ?_; simp only [Then, InBlock]) | (refine AW.condT rfl (by first | rfl | (simp; omega) | (simp [*]; done) | fail) ?_) | (refine AW.condF rfl (by first | rfl | (simp; omega) | (simp [*]; done) | fail) ?_) | (refine hK _ ?_; clear hK K) | (refine stepBT_split (fun h => ?_) (fun h => ?_) <;> (have hb0 := h) <;> (try simp only [Bool.not_eq_true', Bool.not_eq_false'] at hb0) <;> (try simp only [decide_eq_true_eq, decide_eq_false_iff_not, Bool.not_eq_true', Bool.not_eq_false', Bool.not_eq_eq_eq_not, Bool.not_true, Bool.not_false, beq_iff_eq, bne_iff_ne, beq_eq_false_iff_ne, ne_eq, Bool.and_eq_true, Bool.or_eq_true, Bool.or_eq_false_iff] at h) <;> simp only [go_sem, Nat.reduceAdd, Nat.reduceMul, Int.reduceToNat, Nat.reduceLT, Nat.reduceLeDiff, Nat.le_refl, Nat.reduceEqDiff, ↓reduceIte, beq_self_eq_true, bne_self_eq_false, Int.reduceBEq, Int.reduceBNe, or_self, true_or, or_true, Option.map_some, Option.map_none, hb0, h, decide_true, decide_false, List.length_map, hget, hg, hlt, hf, hgg] <;> (try clear hb0)) | (with_reducible refine And.intro (?_ : regOk _ _ = true) ?_; kernel_rfl) | (with_reducible refine And.intro ?_ ?_; first | omega | assumption | (focus (decide)) | (focus (simp; done)) | (focus (simp; omega)) | (focus (constructor <;> omega)) | fail) | (refine AW.ret (Fin.data rfl (by first | (simp only [go_sem]; done) | (simp [go_sem, *]; done) | (simp [go_sem]; omega) | rfl) rfl)))
      have hLf : mLb = false := by rcases hL with h | h <;> exact h.1
      rw [hLf, if_neg (by simp)] at hF
      by_cases s1 : xs < 0
      · rw [if_pos (by simp [s1])] at hF
        subst hF
        rw [if_pos (by simp)] at g2
        subst g2
        rcases hL with ⟨-, h0⟩ | ⟨-, q, h0, hg, hlt⟩
        · repeat' (first | ((first | refine AW.sreg rfl fun K hK => ?_ | refine AW.sregD hmix rfl fun K hK => ?_ | refine run_call _ _ _ ((hk1).pure rfl rfl _ _) rfl rfl (dstOk_of rfl) rfl rfl rfl ?_ | refine run_call _ _ _ ((hk2).pure rfl rfl _ _) rfl rfl (dstOk_of rfl) rfl rfl rfl ?_); simp only [go_sem, Nat.reduceAdd, Nat.reduceMul, Int.reduceToNat, Nat.reduceLT, Nat.reduceLeDiff, Nat.le_refl, Nat.reduceEqDiff, ↓reduceIte, beq_self_eq_true, bne_self_eq_false, Int.reduceBEq, Int.reduceBNe, or_self, true_or, or_true, Option.map_some, Option.map_none, List.length_map, hget, hf, hgg, s1]) | (refine AW.seq_k fun K hK => ?_) | (refine AW.block ?_) | (refine AW.skip ?_; simp only [Then, InBlock]) | (refine AW.condT rfl (by first | rfl | (simp; omega) | (simp [*]; done) | fail) ?_) | (refine AW.condF rfl (by first | rfl | (simp; omega) | (simp [*]; done) | fail) ?_) | (refine hK _ ?_; clear hK K) | (refine stepBT_split (fun h => ?_) (fun h => ?_) <;> (have hb0 := h) <;> (try simp only [Bool.not_eq_true', Bool.not_eq_false'] at hb0) <;> (try simp only [decide_eq_true_eq, decide_eq_false_iff_not, Bool.not_eq_true', Bool.not_eq_false', Bool.not_eq_eq_eq_not, Bool.not_true, Bool.not_false, beq_iff_eq, bne_iff_ne, beq_eq_false_iff_ne, ne_eq, Bool.and_eq_true, Bool.or_eq_true, Bool.or_eq_false_iff] at h) <;> simp only [go_sem, Nat.reduceAdd, Nat.reduceMul, Int.reduceToNat, Nat.reduceLT, Nat.reduceLeDiff, Nat.le_refl, Nat.reduceEqDiff, ↓reduceIte, beq_self_eq_true, bne_self_eq_false, Int.reduceBEq, Int.reduceBNe, or_self, true_or, or_true, Option.map_some, Option.map_none, hb0, h, decide_true, decide_false, List.length_map, hget, hf, hgg, s1] <;> (try clear hb0)) | (with_reducible refine And.intro (?_ : regOk _ _ = true) ?_; kernel_rfl) | (with_reducible refine And.intro ?_ ?_; first | omega | assumption | (focus (decide)) | (focus (simp; done)) | (focus (simp; omega)) | (focus (constructor <;> omega)) | fail) | (refine AW.ret (Fin.data rfl (by first | (simp only [go_sem]; done) | (simp [go_sem, *]; done) | (simp [go_sem]; omega) | rfl) rfl)) | (exfalso; omega))
        · have hpq := hpo q
          repeat' (first | ((first | refine AW.sreg rfl fun K hK => ?_ | refine AW.sregD hmix rfl fun K hK => ?_ | refine run_call _ _ _ ((hk1).pure rfl rfl _ _) rfl rfl (dstOk_of rfl) rfl rfl rfl ?_ | refine run_call _ _ _ ((hk2).pure rfl rfl _ _) rfl rfl (dstOk_of rfl) rfl rfl rfl ?_ | refine runT_call _ _ [] (fun hv _ => (hpq).pure rfl rfl hv _) rfl rfl (dstOk_of rfl) rfl rfl ?_); simp only [go_sem, Nat.reduceAdd, Nat.reduceMul, Int.reduceToNat, Nat.reduceLT, Nat.reduceLeDiff, Nat.le_refl, Nat.reduceEqDiff, ↓reduceIte, beq_self_eq_true, bne_self_eq_false, Int.reduceBEq, Int.reduceBNe, or_self, true_or, or_true, Option.map_some, Option.map_none, List.length_map, hget, hg, hlt, hf, hgg, s1]) | (refine AW.seq_k fun K hK => ?_) | (refine AW.block ?_) | (refine AW.skip ?_; simp only [Then, InBlock]) | (refine AW.condT rfl (by first | rfl | (simp; omega) | (simp [*]; done) | fail) ?_) | (refine AW.condF rfl (by first | rfl | (simp; omega) | (simp [*]; done) | fail) ?_) | (refine hK _ ?_; clear hK K) | (refine stepBT_split (fun h => ?_) (fun h => ?_) <;> (have hb0 := h) <;> (try simp only [Bool.not_eq_true', Bool.not_eq_false'] at hb0) <;> (try simp only [decide_eq_true_eq, decide_eq_false_iff_not, Bool.not_eq_true', Bool.not_eq_false', Bool.not_eq_eq_eq_not, Bool.not_true, Bool.not_false, beq_iff_eq, bne_iff_ne, beq_eq_false_iff_ne, ne_eq, Bool.and_eq_true, Bool.or_eq_true, Bool.or_eq_false_iff] at h) <;> simp only [go_sem, Nat.reduceAdd, Nat.reduceMul, Int.reduceToNat, Nat.reduceLT, Nat.reduceLeDiff, Nat.le_refl, Nat.reduceEqDiff, ↓reduceIte, beq_self_eq_true, bne_self_eq_false, Int.reduceBEq, Int.reduceBNe, or_self, true_or, or_true, Option.map_some, Option.map_none, hb0, h, decide_true, decide_false, List.length_map, hget, hg, hlt, hf, hgg, s1] <;> (try clear hb0)) | (with_reducible refine And.intro (?_ : regOk _ _ = true) ?_; kernel_rfl) | (with_reducible refine And.intro ?_ ?_; first | omega | assumption | (focus (decide)) | (focus (simp; done)) | (focus (simp; omega)) | (focus (constructor <;> omega)) | fail) | (refine AW.ret (Fin.data rfl (by first | (simp only [go_sem]; done) | (simp [go_sem, *]; done) | (simp [go_sem]; omega) | rfl) rfl)))
      by_cases s2 : 10 < xs
      · rw [if_pos (by simp [s2])] at hF
        subst hF
        rw [if_pos (by simp)] at g2
        subst g2
        rcases hL with ⟨-, h0⟩ | ⟨-, q, h0, hg, hlt⟩
        · repeat' (first | ((first | refine AW.sreg rfl fun K hK => ?_ | refine AW.sregD hmix rfl fun K hK => ?_ | refine run_call _ _ _ ((hk1).pure rfl rfl _ _) rfl rfl (dstOk_of rfl) rfl rfl rfl ?_ | refine run_call _ _ _ ((hk2).pure rfl rfl _ _) rfl rfl (dstOk_of rfl) rfl rfl rfl ?_); simp only [go_sem, Nat.reduceAdd, Nat.reduceMul, Int.reduceToNat, Nat.reduceLT, Nat.reduceLeDiff, Nat.le_refl, Nat.reduceEqDiff, ↓reduceIte, beq_self_eq_true, bne_self_eq_false, Int.reduceBEq, Int.reduceBNe, or_self, true_or, or_true, Option.map_some, Option.map_none, List.length_map, hget, hf, hgg, s1, s2]) | (refine AW.seq_k fun K hK => ?_) | (refine AW.block ?_) | (refine AW.skip ?_; simp only [Then, InBlock]) | (refine AW.condT rfl (by first | rfl | (simp; omega) | (simp [*]; done) | fail) ?_) | (refine AW.condF rfl (by first | rfl | (simp; omega) | (simp [*]; done) | fail) ?_) | (refine hK _ ?_; clear hK K) | (refine stepB_split (fun h => ?_) (fun h => ?_) <;> (have hb0 := h) <;> (try simp only [Bool.not_eq_true', Bool.not_eq_false'] at hb0) <;> (try simp only [decide_eq_true_eq, decide_eq_false_iff_not, Bool.not_eq_true', Bool.not_eq_false', Bool.not_eq_eq_eq_not, Bool.not_true, Bool.not_false, beq_iff_eq, bne_iff_ne, beq_eq_false_iff_ne, ne_eq, Bool.and_eq_true, Bool.or_eq_true, Bool.or_eq_false_iff] at h) <;> simp only [go_sem, Nat.reduceAdd, Nat.reduceMul, Int.reduceToNat, Nat.reduceLT, Nat.reduceLeDiff, Nat.le_refl, Nat.reduceEqDiff, ↓reduceIte, beq_self_eq_true, bne_self_eq_false, Int.reduceBEq, Int.reduceBNe, or_self, true_or, or_true, Option.map_some, Option.map_none, hb0, h, decide_true, decide_false, List.length_map, hget, hf, hgg, s1, s2] <;> (try clear hb0)) | (refine stepBT_split (fun h => ?_) (fun h => ?_) <;> (have hb0 := h) <;> (try simp only [Bool.not_eq_true', Bool.not_eq_false'] at hb0) <;> (try simp only [decide_eq_true_eq, decide_eq_false_iff_not, Bool.not_eq_true', Bool.not_eq_false', Bool.not_eq_eq_eq_not, Bool.not_true, Bool.not_false, beq_iff_eq, bne_iff_ne, beq_eq_false_iff_ne, ne_eq, Bool.and_eq_true, Bool.or_eq_true, Bool.or_eq_false_iff] at h) <;> simp only [go_sem, Nat.reduceAdd, Nat.reduceMul, Int.reduceToNat, Nat.reduceLT, Nat.reduceLeDiff, Nat.le_refl, Nat.reduceEqDiff, ↓reduceIte, beq_self_eq_true, bne_self_eq_false, Int.reduceBEq, Int.reduceBNe, or_self, true_or, or_true, Option.map_some, Option.map_none, hb0, h, decide_true, decide_false, List.length_map, hget, hf, hgg, s1, s2] <;> (try clear hb0)) | (with_reducible refine And.intro (?_ : regOk _ _ = true) ?_; kernel_rfl) | (with_reducible refine And.intro ?_ ?_; first | omega | assumption | (focus (decide)) | (focus (simp; done)) | (focus (simp; omega)) | (focus (constructor <;> omega)) | fail) | (refine AW.ret (Fin.data rfl (by first | (simp only [go_sem]; done) | (simp [go_sem, *]; done) | (simp [go_sem]; omega) | rfl) rfl)) | (exfalso; omega))
        · have hpq := hpo q
          repeat' (first | ((first | refine AW.sreg rfl fun K hK => ?_ | refine AW.sregD hmix rfl fun K hK => ?_ | refine run_call _ _ _ ((hk1).pure rfl rfl _ _) rfl rfl (dstOk_of rfl) rfl rfl rfl ?_ | refine run_call _ _ _ ((hk2).pure rfl rfl _ _) rfl rfl (dstOk_of rfl) rfl rfl rfl ?_ | refine runT_call _ _ [] (fun hv _ => (hpq).pure rfl rfl hv _) rfl rfl (dstOk_of rfl) rfl rfl ?_); simp only [go_sem, Nat.reduceAdd, Nat.reduceMul, Int.reduceToNat, Nat.reduceLT, Nat.reduceLeDiff, Nat.le_refl, Nat.reduceEqDiff, ↓reduceIte, beq_self_eq_true, bne_self_eq_false, Int.reduceBEq, Int.reduceBNe, or_self, true_or, or_true, Option.map_some, Option.map_none, List.length_map, hget, hg, hlt, hf, hgg, s1, s2]) | (refine AW.seq_k fun K hK => ?_) | (refine AW.block ?_) | (refine AW.skip ?_; simp only [Then, InBlock]) | (refine AW.condT rfl (by first | rfl | (simp; omega) | (simp [*]; done) | fail) ?_) | (refine AW.condF rfl (by first | rfl | (simp; omega) | (simp [*]; done) | fail) ?_) | (refine hK _ ?_; clear hK K) | (refine stepB_split (fun h => ?_) (fun h => ?_) <;> (have hb0 := h) <;> (try simp only [Bool.not_eq_true', Bool.not_eq_false'] at hb0) <;> (try simp only [decide_eq_true_eq, decide_eq_false_iff_not, Bool.not_eq_true', Bool.not_eq_false', Bool.not_eq_eq_eq_not, Bool.not_true, Bool.not_false, beq_iff_eq, bne_iff_ne, beq_eq_false_iff_ne, ne_eq, Bool.and_eq_true, Bool.or_eq_true, Bool.or_eq_false_iff] at h) <;> simp only [go_sem, Nat.reduceAdd, Nat.reduceMul, Int.reduceToNat, Nat.reduceLT, Nat.reduceLeDiff, Nat.le_refl, Nat.reduceEqDiff, ↓reduceIte, beq_self_eq_true, bne_self_eq_false, Int.reduceBEq, Int.reduceBNe, or_self, true_or, or_true, Option.map_some, Option.map_none, hb0, h, decide_true, decide_false, List.length_map, hget, hg, hlt, hf, hgg, s1, s2] <;> (try clear hb0)) | (refine stepBT_split (fun h => ?_) (fun h => ?_) <;> (have hb0 := h) <;> (try simp only [Bool.not_eq_true', Bool.not_eq_false'] at hb0) <;> (try simp only [decide_eq_true_eq, decide_eq_false_iff_not, Bool.not_eq_true', Bool.not_eq_false', Bool.not_eq_eq_eq_not, Bool.not_true, Bool.not_false, beq_iff_eq, bne_iff_ne, beq_eq_false_iff_ne, ne_eq, Bool.and_eq_true, Bool.or_eq_true, Bool.or_eq_false_iff] at h) <;> simp only [go_sem, Nat.reduceAdd, Nat.reduceMul, Int.reduceToNat, Nat.reduceLT, Nat.reduceLeDiff, Nat.le_refl, Nat.reduceEqDiff, ↓reduceIte, beq_self_eq_true, bne_self_eq_false, Int.reduceBEq, Int.reduceBNe, or_self, true_or, or_true, Option.map_some, Option.map_none, hb0, h, decide_true, decide_false, List.length_map, hget, hg, hlt, hf, hgg, s1, s2] <;> (try clear hb0)) | (with_reducible refine And.intro (?_ : regOk _ _ = true) ?_; kernel_rfl) | (with_reducible refine And.intro ?_ ?_; first | omega | assumption | (focus (decide)) | (focus (simp; done)) | (focus (simp; omega)) | (focus (constructor <;> omega)) | fail) | (refine AW.ret (Fin.data rfl (by first | (simp only [go_sem]; done) | (simp [go_sem, *]; done) | (simp [go_sem]; omega) | rfl) rfl)))
      rw [if_neg (by simp [s1, s2])] at hF
      by_cases s3 : 12 < v + 1
      · rw [if_pos s3] at hF
        subst hF
        rw [if_pos (by simp)] at g2
        subst g2
        rcases hL with ⟨-, h0⟩ | ⟨-, q, h0, hg, hlt⟩
        · repeat' (first | ((first | refine AW.sreg rfl fun K hK => ?_ | refine run_call _ _ _ ((hk1).pure rfl rfl _ _) rfl rfl (dstOk_of rfl) rfl rfl rfl ?_ | refine run_call _ _ _ ((hk2).pure rfl rfl _ _) rfl rfl (dstOk_of rfl) rfl rfl rfl ?_); simp only [go_sem, Nat.reduceAdd, Nat.reduceMul, Int.reduceToNat, Nat.reduceLT, Nat.reduceLeDiff, Nat.le_refl, Nat.reduceEqDiff, ↓reduceIte, beq_self_eq_true, bne_self_eq_false, Int.reduceBEq, Int.reduceBNe, or_self, true_or, or_true, Option.map_some, Option.map_none, List.length_map, hget, hf, hkk, hgg, hgs, s1, s2, s3]) | (refine AW.seq_k fun K hK => ?_) | (refine AW.block ?_) | (refine AW.skip ?_; simp only [Then, InBlock]) | (refine AW.condT rfl (by first | rfl | (simp; omega) | (simp [*]; done) | fail) ?_) | (refine hK _ ?_; clear hK K) | (with_reducible refine And.intro ?_ ?_; first | omega | assumption | (focus (decide)) | (focus (simp; done)) | (focus (simp; omega)) | (focus (constructor <;> omega)) | fail) | (refine AW.ret (Fin.data rfl (by first | (simp only [go_sem]; done) | (simp [go_sem, *]; done) | (simp [go_sem]; omega) | rfl) rfl)))
        · have hpq := hpo q
          repeat' (first | ((first | refine AW.sreg rfl fun K hK => ?_ | refine AW.sregD hmix rfl fun K hK => ?_ | refine run_call _ _ _ ((hk1).pure rfl rfl _ _) rfl rfl (dstOk_of rfl) rfl rfl rfl ?_ | refine run_call _ _ _ ((hk2).pure rfl rfl _ _) rfl rfl (dstOk_of rfl) rfl rfl rfl ?_ | refine runT_call _ _ [] (fun hv _ => (hpq).pure rfl rfl hv _) rfl rfl (dstOk_of rfl) rfl rfl ?_); simp only [go_sem, Nat.reduceAdd, Nat.reduceMul, Int.reduceToNat, Nat.reduceLT, Nat.reduceLeDiff, Nat.le_refl, Nat.reduceEqDiff, ↓reduceIte, beq_self_eq_true, bne_self_eq_false, Int.reduceBEq, Int.reduceBNe, or_self, true_or, or_true, Option.map_some, Option.map_none, List.length_map, hget, hg, hlt, hf, hkk, hgg, hgs, s1, s2, s3]) | (refine AW.seq_k fun K hK => ?_) | (refine AW.block ?_) | (refine AW.skip ?_; simp only [Then, InBlock]) | (refine AW.condT rfl (by first | rfl | (simp; omega) | (simp [*]; done) | fail) ?_) | (refine AW.condF rfl (by first | rfl | (simp; omega) | (simp [*]; done) | fail) ?_) | (refine hK _ ?_; clear hK K) | (refine stepB_split (fun h => ?_) (fun h => ?_) <;> (have hb0 := h) <;> (try simp only [Bool.not_eq_true', Bool.not_eq_false'] at hb0) <;> (try simp only [decide_eq_true_eq, decide_eq_false_iff_not, Bool.not_eq_true', Bool.not_eq_false', Bool.not_eq_eq_eq_not, Bool.not_true, Bool.not_false, beq_iff_eq, bne_iff_ne, beq_eq_false_iff_ne, ne_eq, Bool.and_eq_true, Bool.or_eq_true, Bool.or_eq_false_iff] at h) <;> simp only [go_sem, Nat.reduceAdd, Nat.reduceMul, Int.reduceToNat, Nat.reduceLT, Nat.reduceLeDiff, Nat.le_refl, Nat.reduceEqDiff, ↓reduceIte, beq_self_eq_true, bne_self_eq_false, Int.reduceBEq, Int.reduceBNe, or_self, true_or, or_true, Option.map_some, Option.map_none, hb0, h, decide_true, decide_false, List.length_map, hget, hg, hlt, hf, hkk, hgg, hgs, s1, s2, s3] <;> (try clear hb0)) | (refine stepBT_split (fun h => ?_) (fun h => ?_) <;> (have hb0 := h) <;> (try simp only [Bool.not_eq_true', Bool.not_eq_false'] at hb0) <;> (try simp only [decide_eq_true_eq, decide_eq_false_iff_not, Bool.not_eq_true', Bool.not_eq_false', Bool.not_eq_eq_eq_not, Bool.not_true, Bool.not_false, beq_iff_eq, bne_iff_ne, beq_eq_false_iff_ne, ne_eq, Bool.and_eq_true, Bool.or_eq_true, Bool.or_eq_false_iff] at h) <;> simp only [go_sem, Nat.reduceAdd, Nat.reduceMul, Int.reduceToNat, Nat.reduceLT, Nat.reduceLeDiff, Nat.le_refl, Nat.reduceEqDiff, ↓reduceIte, beq_self_eq_true, bne_self_eq_false, Int.reduceBEq, Int.reduceBNe, or_self, true_or, or_true, Option.map_some, Option.map_none, hb0, h, decide_true, decide_false, List.length_map, hget, hg, hlt, hf, hkk, hgg, hgs, s1, s2, s3] <;> (try clear hb0)) | (with_reducible refine And.intro (?_ : regOk _ _ = true) ?_; kernel_rfl) | (with_reducible refine And.intro ?_ ?_; first | omega | assumption | (focus (decide)) | (focus (simp; done)) | (focus (simp; omega)) | (focus (constructor <;> omega)) | fail) | (refine AW.ret (Fin.data rfl (by first | (simp only [go_sem]; done) | (simp [go_sem, *]; done) | (simp [go_sem]; omega) | rfl) rfl)))
      rw [if_neg s3] at hF
      subst hF
      rw [if_neg (by simp)] at g2
      rcases hL with ⟨-, h0⟩ | ⟨-, q, h0, hg, hlt⟩
      · repeat' (first | ((first | refine AW.sreg rfl fun K hK => ?_ | refine AW.sregD hmix rfl fun K hK => ?_ | refine AW.reg rfl ?_ | refine run_call _ _ _ ((hk1).pure rfl rfl _ _) rfl rfl (dstOk_of rfl) rfl rfl rfl ?_ | refine run_call _ _ _ ((hk2).pure rfl rfl _ _) rfl rfl (dstOk_of rfl) rfl rfl rfl ?_); simp only [go_sem, Nat.reduceAdd, Nat.reduceMul, Int.reduceToNat, Nat.reduceLT, Nat.reduceLeDiff, Nat.le_refl, Nat.reduceEqDiff, ↓reduceIte, beq_self_eq_true, bne_self_eq_false, Int.reduceBEq, Int.reduceBNe, or_self, true_or, or_true, Option.map_some, Option.map_none, List.length_map, hget, hf, hkk, hgg, hgs, s1, s2, s3]) | (refine AW.seq_k fun K hK => ?_) | (refine AW.block ?_) | (refine AW.skip ?_; simp only [Then, InBlock]) | (refine AW.condT rfl (by first | rfl | (simp; omega) | (simp [*]; done) | fail) ?_) | (refine AW.condF rfl (by first | rfl | (simp; omega) | (simp [*]; done) | fail) ?_) | (refine hK _ ?_; clear hK K) | (refine stepB_split (fun h => ?_) (fun h => ?_) <;> (have hb0 := h) <;> (try simp only [Bool.not_eq_true', Bool.not_eq_false'] at hb0) <;> (try simp only [decide_eq_true_eq, decide_eq_false_iff_not, Bool.not_eq_true', Bool.not_eq_false', Bool.not_eq_eq_eq_not, Bool.not_true, Bool.not_false, beq_iff_eq, bne_iff_ne, beq_eq_false_iff_ne, ne_eq, Bool.and_eq_true, Bool.or_eq_true, Bool.or_eq_false_iff] at h) <;> simp only [go_sem, Nat.reduceAdd, Nat.reduceMul, Int.reduceToNat, Nat.reduceLT, Nat.reduceLeDiff, Nat.le_refl, Nat.reduceEqDiff, ↓reduceIte, beq_self_eq_true, bne_self_eq_false, Int.reduceBEq, Int.reduceBNe, or_self, true_or, or_true, Option.map_some, Option.map_none, hb0, h, decide_true, decide_false, List.length_map, hget, hf, hkk, hgg, hgs, s1, s2, s3] <;> (try clear hb0)) | (refine stepBT_split (fun h => ?_) (fun h => ?_) <;> (have hb0 := h) <;> (try simp only [Bool.not_eq_true', Bool.not_eq_false'] at hb0) <;> (try simp only [decide_eq_true_eq, decide_eq_false_iff_not, Bool.not_eq_true', Bool.not_eq_false', Bool.not_eq_eq_eq_not, Bool.not_true, Bool.not_false, beq_iff_eq, bne_iff_ne, beq_eq_false_iff_ne, ne_eq, Bool.and_eq_true, Bool.or_eq_true, Bool.or_eq_false_iff] at h) <;> simp only [go_sem, Nat.reduceAdd, Nat.reduceMul, Int.reduceToNat, Nat.reduceLT, Nat.reduceLeDiff, Nat.le_refl, Nat.reduceEqDiff, ↓reduceIte, beq_self_eq_true, bne_self_eq_false, Int.reduceBEq, Int.reduceBNe, or_self, true_or, or_true, Option.map_some, Option.map_none, hb0, h, decide_true, decide_false, List.length_map, hget, hf, hkk, hgg, hgs, s1, s2, s3] <;> (try clear hb0)) | (with_reducible refine And.intro (?_ : regOk _ _ = true) ?_; kernel_rfl) | (with_reducible refine And.intro ?_ ?_; first | omega | assumption | (focus (decide)) | (focus (simp; done)) | (focus (simp; omega)) | (focus (constructor <;> omega)) | fail) | (exfalso; omega))
        exact ⟨i + 1, ⟨hi, g2⟩, by omega, (Weak.auto hcx rfl rfl (Nat.le_of_ble_eq_true rfl) (by simp [go_sem, gL, kL, renOf, V.obj, lk, Nat.blt, Nat.ble, List.map_append, dv_push, hst, hkk, hk22, hvv, dv_set1]) (by simp [go_sem, gL, kL, renOf, V.obj, lk, Nat.blt, Nat.ble, List.map_append, dv_push, hst, hkk, hk22, hvv, dv_set1]) (by first | exact pk0 | exact pk1 ⟨_, rfl⟩ | exact pk2 ⟨_, rfl⟩ ⟨_, rfl⟩ | exact pk3 ⟨_, rfl⟩ ⟨_, rfl⟩ ⟨_, rfl⟩ | exact pk4 ⟨_, rfl⟩ ⟨_, rfl⟩ ⟨_, rfl⟩ ⟨_, rfl⟩) (by simp [go_sem, gL, kL, lk, renOf, V.obj, Nat.blt, Nat.ble, hst, hkk, hk22, hvv, dv_set1]))⟩
      · have hpq := hpo q
        repeat' (first | ((first | refine AW.sreg rfl fun K hK => ?_ | refine AW.sregD hmix rfl fun K hK => ?_ | refine AW.reg rfl ?_ | refine run_call _ _ _ ((hk1).pure rfl rfl _ _) rfl rfl (dstOk_of rfl) rfl rfl rfl ?_ | refine run_call _ _ _ ((hk2).pure rfl rfl _ _) rfl rfl (dstOk_of rfl) rfl rfl rfl ?_ | refine runT_call _ _ [] (fun hv _ => (hpq).pure rfl rfl hv _) rfl rfl (dstOk_of rfl) rfl rfl ?_); simp only [go_sem, Nat.reduceAdd, Nat.reduceMul, Int.reduceToNat, Nat.reduceLT, Nat.reduceLeDiff, Nat.le_refl, Nat.reduceEqDiff, ↓reduceIte, beq_self_eq_true, bne_self_eq_false, Int.reduceBEq, Int.reduceBNe, or_self, true_or, or_true, Option.map_some, Option.map_none, List.length_map, hget, hg, hlt, hf, hkk, hgg, hgs, s1, s2, s3]) | (refine AW.seq_k fun K hK => ?_) | (refine AW.block ?_) | (refine AW.skip ?_; simp only [Then, InBlock]) | (refine AW.condT rfl (by first | rfl | (simp; omega) | (simp [*]; done) | fail) ?_) | (refine AW.condF rfl (by first | rfl | (simp; omega) | (simp [*]; done) | fail) ?_) | (refine hK _ ?_; clear hK K) | (refine stepB_split (fun h => ?_) (fun h => ?_) <;> (have hb0 := h) <;> (try simp only [Bool.not_eq_true', Bool.not_eq_false'] at hb0) <;> (try simp only [decide_eq_true_eq, decide_eq_false_iff_not, Bool.not_eq_true', Bool.not_eq_false', Bool.not_eq_eq_eq_not, Bool.not_true, Bool.not_false, beq_iff_eq, bne_iff_ne, beq_eq_false_iff_ne, ne_eq, Bool.and_eq_true, Bool.or_eq_true, Bool.or_eq_false_iff] at h) <;> simp only [go_sem, Nat.reduceAdd, Nat.reduceMul, Int.reduceToNat, Nat.reduceLT, Nat.reduceLeDiff, Nat.le_refl, Nat.reduceEqDiff, ↓reduceIte, beq_self_eq_true, bne_self_eq_false, Int.reduceBEq, Int.reduceBNe, or_self, true_or, or_true, Option.map_some, Option.map_none, hb0, h, decide_true, decide_false, List.length_map, hget, hg, hlt, hf, hkk, hgg, hgs, s1, s2, s3] <;> (try clear hb0)) | (refine stepBT_split (fun h => ?_) (fun h => ?_) <;> (have hb0 := h) <;> (try simp only [Bool.not_eq_true', Bool.not_eq_false'] at hb0) <;> (try simp only [decide_eq_true_eq, decide_eq_false_iff_not, Bool.not_eq_true', Bool.not_eq_false', Bool.not_eq_eq_eq_not, Bool.not_true, Bool.not_false, beq_iff_eq, bne_iff_ne, beq_eq_false_iff_ne, ne_eq, Bool.and_eq_true, Bool.or_eq_true, Bool.or_eq_false_iff] at h) <;> simp only [go_sem, Nat.reduceAdd, Nat.reduceMul, Int.reduceToNat, Nat.reduceLT, Nat.reduceLeDiff, Nat.le_refl, Nat.reduceEqDiff, ↓reduceIte, beq_self_eq_true, bne_self_eq_false, Int.reduceBEq, Int.reduceBNe, or_self, true_or, or_true, Option.map_some, Option.map_none, hb0, h, decide_true, decide_false, List.length_map, hget, hg, hlt, hf, hkk, hgg, hgs, s1, s2, s3] <;> (try clear hb0)) | (with_reducible refine And.intro (?_ : regOk _ _ = true) ?_; kernel_rfl) | (with_reducible refine And.intro ?_ ?_; first | omega | assumption | (focus (decide)) | (focus (simp; done)) | (focus (simp; omega)) | (focus (constructor <;> omega)) | fail) | (exfalso; omega))
        exact ⟨i + 1, ⟨hi, g2⟩, by omega, (Weak.auto hcx rfl rfl (Nat.le_of_ble_eq_true rfl) (by simp [go_sem, gL, kL, renOf, V.obj, lk, Nat.blt, Nat.ble, List.map_append, dv_push, hst, hkk, hk22, hvv, dv_set1]) (by simp [go_sem, gL, kL, renOf, V.obj, lk, Nat.blt, Nat.ble, List.map_append, dv_push, hst, hkk, hk22, hvv, dv_set1]) (by first | exact pk0 | exact pk1 ⟨_, rfl⟩ | exact pk2 ⟨_, rfl⟩ ⟨_, rfl⟩ | exact pk3 ⟨_, rfl⟩ ⟨_, rfl⟩ ⟨_, rfl⟩ | exact pk4 ⟨_, rfl⟩ ⟨_, rfl⟩ ⟨_, rfl⟩ ⟨_, rfl⟩) (by simp [go_sem, gL, kL, lk, renOf, V.obj, Nat.blt, Nat.ble, hst, hkk, hk22, hvv, dv_set1]))⟩
  · obtain rfl : i = ms.length := by omega
    rw [List.drop_length, goF] at g2
    subst g2
    repeat' (first | (refine AW.sreg rfl fun K hK => ?_; simp only [go_sem, Nat.reduceAdd, Nat.reduceMul, Int.reduceToNat, Nat.reduceLT, Nat.reduceLeDiff, Nat.le_refl, Nat.reduceEqDiff, ↓reduceIte, beq_self_eq_true, bne_self_eq_false, Int.reduceBEq, Int.reduceBNe, or_self, true_or, or_true, Option.map_some, Option.map_none, List.length_map]) | (refine AW.seq_k fun K hK => ?_) | (refine AW.exit ?_; simp only [go_sem, ↓reduceIte]) | (refine AW.condF rfl (by first | rfl | (simp; omega) | (simp [*]; done) | fail) ?_) | (refine hK _ ?_; clear hK K) | (clear hK K; refine hK _ ?_; clear hK K) | (refine AW.ret (Fin.data rfl (by first | (simp only [go_sem]; done) | (simp [go_sem, *]; done) | (simp [go_sem]; omega) | rfl) rfl)))
end Go.AX

namespace Go.AX
open Go Go.Proofs Go.RowKit
theorem checkMarks_any (ms : List Mk) (hl : ms.length ≤ 1000) (hk : ∀ m ∈ ms, m.1.length ≤ 1000 ∧ m.2.1.length ≤ 1000) : Does Tryz.prog 75 [.d (.sl (ms.map mkD))] [] (I (goF (mF mnP) [] ms)) [] := by
  refine Does.of_AW (n := 69) Tryz.func75 rfl rfl rfl fun cx hcx => ?_
  generalize hT : goF (mF mnP) [] ms = T
  repeat' (first | (refine AW.sreg rfl fun K hK => ?_; simp only [go_sem, Nat.reduceAdd, Nat.reduceMul, Int.reduceToNat, Nat.reduceLT, Nat.reduceLeDiff, Nat.le_refl, Nat.reduceEqDiff, ↓reduceIte, beq_self_eq_true, bne_self_eq_false, Int.reduceBEq, Int.reduceBNe, or_self, true_or, or_true, Option.map_some, Option.map_none, List.length_map]) | (refine AW.seq_k fun K hK => ?_) | (refine AW.block ?_) | (refine AW.skip ?_; simp only [Then, InBlock]) | (refine AW.condF rfl (by first | rfl | (simp; omega) | (simp [*]; done) | fail) ?_) | (refine hK _ ?_; clear hK K))
  refine AW.loopF (ι := Nat) [0, 9, 10] (fun p => [(3, I (run (ms.take p)).2), (11, I p)]) (fun p => []) 8 (fun p => p ≤ ms.length ∧ goF (mF mnP) (ms.take p) (ms.drop p) = T) (fun p => ms.length - p) 0 ⟨by simp, hT⟩ (Weak.auto hcx rfl rfl (Nat.le_of_ble_eq_true rfl) (by simp [go_sem, gL, kL, renOf, V.obj, lk, Nat.blt, Nat.ble, List.map_append, dv_push, run, List.take_zero, List.foldl_nil]) (by simp [go_sem, gL, kL, renOf, V.obj, lk, Nat.blt, Nat.ble, List.map_append, dv_push, run, List.take_zero, List.foldl_nil]) (by first | exact pk0 | exact pk1 ⟨_, rfl⟩ | exact pk2 ⟨_, rfl⟩ ⟨_, rfl⟩ | exact pk3 ⟨_, rfl⟩ ⟨_, rfl⟩ ⟨_, rfl⟩ | exact pk4 ⟨_, rfl⟩ ⟨_, rfl⟩ ⟨_, rfl⟩ ⟨_, rfl⟩) (by simp [go_sem, gL, kL, lk, renOf, V.obj, Nat.blt, Nat.ble, run, List.take_zero, List.foldl_nil])) ?_; simp only [St.at_nil, St.at_cons, lk, Nat.reduceEqDiff, ↓reduceIte, Option.getD_some, Option.getD_none, List.cons_append, List.nil_append, List.append_nil]
  rintro i ⟨g1, g2⟩
  by_cases hi : i < ms.length
  · obtain ⟨x, hx, hxm, -⟩ := get_some hi
    have hget : (ms.map mkD)[i]? = some (mkD x) := by simp only [List.getElem?_map, hx, Option.map_some]
    rw [goF_step _ hx] at g2
    have hst : (run (ms.take (i + 1))).2 = mnP (ms.take i) x := by
      have e : ms.take (i + 1) = ms.take i ++ [x] := by rw [List.take_add_one, hx]; rfl
      rw [e, run_snoc]
      rfl
    have hrc := run_cnt ms i (by omega)
    obtain ⟨hr1, -, hr3⟩ := hrc
    obtain ⟨hb1, hb2⟩ := hk x hxm
    have hk1 := isKey_any x.1 (by omega)
    have hk2 := isKey_any x.2.1 (by omega)
    have ho := outside_any x.2.2 0 10
    have hL : (i = 0 ∧ mL (ms.take i) x = false ∧ mnP (ms.take i) x = (run (ms.take i)).2 + 1) ∨ ∃ q : Mk, 0 < i ∧ (ms.map mkD)[((i : Int) - 1).toNat]? = some (mkD q) ∧ mL (ms.take i) x = decide (0 ≤ cpP (q.1, q.2.1) (x.1, x.2.1)) ∧ mnP (ms.take i) x = if q.1 = x.1 then (run (ms.take i)).2 + 1 else 1 := by
      rcases i with _ | j
      · exact .inl ⟨rfl, rfl, rfl⟩
      · obtain ⟨q, hq, -, -⟩ := get_some (l := ms) (i := j) (by omega)
        refine .inr ⟨q, by omega, ?_, ?_, ?_⟩
        · rw [show (((j + 1 : Nat) : Int) - 1).toNat = j by omega, List.getElem?_map, hq]
          rfl
        · unfold mL
          rw [take_last hq]
        · have := run_last ms hq
          unfold mnP runS
          simp only [this, Option.some.injEq]
    generalize hF : mF mnP (ms.take i) x = F at g2
    simp only [mF] at hF
    obtain ⟨xp, xq, xs⟩ := x
    simp only at hk1 hk2 ho hL hF hst
    have hpo : ∀ q : Mk, Does Tryz.prog 97 [.d (prD (q.1, q.2.1)), .d (prD (xp, xq))] [] (I (cpP (q.1, q.2.1) (xp, xq))) [] := fun q => comparePairs_any _ _
    generalize mL (ms.take i) (xp, xq, xs) = mLb at *
    generalize mnP (ms.take i) (xp, xq, xs) = mn at *
    generalize (run (ms.take i)).2 = r0 at *
    generalize keyB xp = k1 at *
    generalize keyB xq = k2 at *
    rcases hL with ⟨h0, hLf, hmn⟩ | ⟨q, h0, hg, hLq, hmn⟩
    · subst hLf
      cases k1 with
      | false =>
        rw [if_pos (by simp)] at hF
        subst hF
        rw [if_pos (by simp)] at g2
        subst g2
        repeat' (first | ((first | refine AW.sreg rfl fun K hK => ?_ | refine AW.sregD hmix rfl fun K hK => ?_ | refine run_call _ _ _ ((hk1).pure rfl rfl _ _) rfl rfl (dstOk_of rfl) rfl rfl rfl ?_); simp only [go_sem, Nat.reduceAdd, Nat.reduceMul, Int.reduceToNat, Nat.reduceLT, Nat.reduceLeDiff, Nat.le_refl, Nat.reduceEqDiff, ↓reduceIte, beq_self_eq_true, bne_self_eq_false, Int.reduceBEq, Int.reduceBNe, or_self, true_or, or_true, Option.map_some, Option.map_none, List.length_map, hget, Nat.lt_irrefl]) | (refine AW.seq_k fun K hK => ?_) | (refine AW.block ?_) | (refine AW.skip ?_; simp only [Then, InBlock]) | (refine AW.condT rfl (by first | rfl | (simp; omega) | (simp [*]; done) | fail) ?_) | (refine AW.condF rfl (by first | rfl | (simp; omega) | (simp [*]; done) | fail) ?_) | (refine hK _ ?_; clear hK K) | (refine stepBT_split (fun h => ?_) (fun h => ?_) <;> (have hb0 := h) <;> (try simp only [Bool.not_eq_true', Bool.not_eq_false'] at hb0) <;> (try simp only [decide_eq_true_eq, decide_eq_false_iff_not, Bool.not_eq_true', Bool.not_eq_false', Bool.not_eq_eq_eq_not, Bool.not_true, Bool.not_false, beq_iff_eq, bne_iff_ne, beq_eq_false_iff_ne, ne_eq, Bool.and_eq_true, Bool.or_eq_true, Bool.or_eq_false_iff] at h) <;> simp only [go_sem, Nat.reduceAdd, Nat.reduceMul, Int.reduceToNat, Nat.reduceLT, Nat.reduceLeDiff, Nat.le_refl, Nat.reduceEqDiff, ↓reduceIte, beq_self_eq_true, bne_self_eq_false, Int.reduceBEq, Int.reduceBNe, or_self, true_or, or_true, Option.map_some, Option.map_none, hb0, h, decide_true, decide_false, List.length_map, hget, Nat.lt_irrefl] <;> (try clear hb0)) | (with_reducible refine And.intro (?_ : regOk _ _ = true) ?_; kernel_rfl) | (with_reducible refine And.intro ?_ ?_; first | omega | assumption | (focus (decide)) | (focus (simp; done)) | (focus (simp; omega)) | (focus (constructor <;> omega)) | fail) | (refine AW.ret (Fin.data rfl (by first | (simp only [go_sem]; done) | (simp [go_sem, *]; done) | (simp [go_sem]; omega) | rfl) rfl)) | (exfalso; omega))
      | true =>
      cases k2 with
      | false =>
        rw [if_pos (by simp)] at hF
        subst hF
        rw [if_pos (by simp)] at g2
        subst g2
        repeat' (first | ((first | refine AW.sreg rfl fun K hK => ?_ | refine AW.sregD hmix rfl fun K hK => ?_ | refine run_call _ _ _ ((hk1).pure rfl rfl _ _) rfl rfl (dstOk_of rfl) rfl rfl rfl ?_ | refine run_call _ _ _ ((hk2).pure rfl rfl _ _) rfl rfl (dstOk_of rfl) rfl rfl rfl ?_); simp only [go_sem, Nat.reduceAdd, Nat.reduceMul, Int.reduceToNat, Nat.reduceLT, Nat.reduceLeDiff, Nat.le_refl, Nat.reduceEqDiff, ↓reduceIte, beq_self_eq_true, bne_self_eq_false, Int.reduceBEq, Int.reduceBNe, or_self, true_or, or_true, Option.map_some, Option.map_none, List.length_map, hget, Nat.lt_irrefl]) | (refine AW.seq_k fun K hK => ?_) | (refine AW.block ?_) | (refine AW.skip ?_; simp only [Then, InBlock]) | (refine AW.condT rfl (by first | rfl | (simp; omega) | (simp [*]; done) | fail) ?_) | (refine AW.condF rfl (by first | rfl | (simp; omega) | (simp [*]; done) | fail) ?_) | (refine hK _ ?_; clear hK K) | (refine stepBT_split (fun h => ?_) (fun h => ?_) <;> (have hb0 := h) <;> (try simp only [Bool.not_eq_true', Bool.not_eq_false'] at hb0) <;> (try simp only [decide_eq_true_eq, decide_eq_false_iff_not, Bool.not_eq_true', Bool.not_eq_false', Bool.not_eq_eq_eq_not, Bool.not_true, Bool.not_false, beq_iff_eq, bne_iff_ne, beq_eq_false_iff_ne, ne_eq, Bool.and_eq_true, Bool.or_eq_true, Bool.or_eq_false_iff] at h) <;> simp only [go_sem, Nat.reduceAdd, Nat.reduceMul, Int.reduceToNat, Nat.reduceLT, Nat.reduceLeDiff, Nat.le_refl, Nat.reduceEqDiff, ↓reduceIte, beq_self_eq_true, bne_self_eq_false, Int.reduceBEq, Int.reduceBNe, or_self, true_or, or_true, Option.map_some, Option.map_none, hb0, h, decide_true, decide_false, List.length_map, hget, Nat.lt_irrefl] <;> (try clear hb0)) | (with_reducible refine And.intro (?_ : regOk _ _ = true) ?_; kernel_rfl) | (with_reducible refine And.intro ?_ ?_; first | omega | assumption | (focus (decide)) | (focus (simp; done)) | (focus (simp; omega)) | (focus (constructor <;> omega)) | fail) | (refine AW.ret (Fin.data rfl (by first | (simp only [go_sem]; done) | (simp [go_sem, *]; done) | (simp [go_sem]; omega) | rfl) rfl)) | (exfalso; omega))
      | true =>
      rw [if_neg (by simp)] at hF
      rw [if_neg (by simp)] at hF
      by_cases sc : (decide (xs < 0) || decide (10 < xs)) = true
      · rw [if_pos sc] at hF
        subst hF
        rw [if_pos (by simp)] at g2
        subst g2
        rw [sc] at ho
        repeat' (first | ((first | refine AW.sreg rfl fun K hK => ?_ | refine AW.sregD hmix rfl fun K hK => ?_ | refine run_call _ _ _ ((hk1).pure rfl rfl _ _) rfl rfl (dstOk_of rfl) rfl rfl rfl ?_ | refine run_call _ _ _ ((hk2).pure rfl rfl _ _) rfl rfl (dstOk_of rfl) rfl rfl rfl ?_ | refine run_call _ _ _ ((ho).pure rfl rfl _ _) rfl rfl (dstOk_of rfl) rfl rfl rfl ?_); simp only [go_sem, Nat.reduceAdd, Nat.reduceMul, Int.reduceToNat, Nat.reduceLT, Nat.reduceLeDiff, Nat.le_refl, Nat.reduceEqDiff, ↓reduceIte, beq_self_eq_true, bne_self_eq_false, Int.reduceBEq, Int.reduceBNe, or_self, true_or, or_true, Option.map_some, Option.map_none, List.length_map, hget, Nat.lt_irrefl]) | (refine AW.seq_k fun K hK => ?_) | (refine AW.block ?_) | (refine AW.skip ?_; simp only [Then, InBlock]) | (refine AW.condT rfl (by first | rfl | (simp; omega) | (simp [*]; done) | fail) ?_) | (refine AW.condF rfl (by first | rfl | (simp; omega) | (simp [*]; done) | fail) ?_) | (refine hK _ ?_; clear hK K) | (refine stepBT_split (fun h => ?_) (fun h => ?_) <;> (have hb0 := h) <;> (try simp only [Bool.not_eq_true', Bool.not_eq_false'] at hb0) <;> (try simp only [decide_eq_true_eq, decide_eq_false_iff_not, Bool.not_eq_true', Bool.not_eq_false', Bool.not_eq_eq_eq_not, Bool.not_true, Bool.not_false, beq_iff_eq, bne_iff_ne, beq_eq_false_iff_ne, ne_eq, Bool.and_eq_true, Bool.or_eq_true, Bool.or_eq_false_iff] at h) <;> simp only [go_sem, Nat.reduceAdd, Nat.reduceMul, Int.reduceToNat, Nat.reduceLT, Nat.reduceLeDiff, Nat.le_refl, Nat.reduceEqDiff, ↓reduceIte, beq_self_eq_true, bne_self_eq_false, Int.reduceBEq, Int.reduceBNe, or_self, true_or, or_true, Option.map_some, Option.map_none, hb0, h, decide_true, decide_false, List.length_map, hget, Nat.lt_irrefl] <;> (try clear hb0)) | (with_reducible refine And.intro (?_ : regOk _ _ = true) ?_; kernel_rfl) | (with_reducible refine And.intro ?_ ?_; first | omega | assumption | (focus (decide)) | (focus (simp; done)) | (focus (simp; omega)) | (focus (constructor <;> omega)) | fail) | (refine AW.ret (Fin.data rfl (by first | (simp only [go_sem]; done) | (simp [go_sem, *]; done) | (simp [go_sem]; omega) | rfl) rfl)) | (exfalso; omega))
      rw [if_neg sc] at hF
      have scf : (decide (xs < 0) || decide (10 < xs)) = false := by simpa using sc
      rw [scf] at ho
      by_cases s3 : 12 < mn
      · rw [if_pos s3] at hF
        subst hF
        rw [if_pos (by simp)] at g2
        subst g2
        rw [hmn] at s3
        repeat' (first | ((first | refine AW.sreg rfl fun K hK => ?_ | refine AW.sregD hmix rfl fun K hK => ?_ | refine AW.reg rfl ?_ | refine run_call _ _ _ ((hk1).pure rfl rfl _ _) rfl rfl (dstOk_of rfl) rfl rfl rfl ?_ | refine run_call _ _ _ ((hk2).pure rfl rfl _ _) rfl rfl (dstOk_of rfl) rfl rfl rfl ?_); simp only [go_sem, Nat.reduceAdd, Nat.reduceMul, Int.reduceToNat, Nat.reduceLT, Nat.reduceLeDiff, Nat.le_refl, Nat.reduceEqDiff, ↓reduceIte, beq_self_eq_true, bne_self_eq_false, Int.reduceBEq, Int.reduceBNe, or_self, true_or, or_true, Option.map_some, Option.map_none, List.length_map, hget, Nat.lt_irrefl, s3]) | (refine AW.seq_k fun K hK => ?_) | (refine AW.block ?_) | (refine AW.skip ?_; simp only [Then, InBlock]) | (refine AW.condT rfl (by first | rfl | (simp; omega) | (simp [*]; done) | fail) ?_) | (refine hK _ ?_; clear hK K) | (refine stepBT_split (fun h => ?_) (fun h => ?_) <;> (have hb0 := h) <;> (try simp only [Bool.not_eq_true', Bool.not_eq_false'] at hb0) <;> (try simp only [decide_eq_true_eq, decide_eq_false_iff_not, Bool.not_eq_true', Bool.not_eq_false', Bool.not_eq_eq_eq_not, Bool.not_true, Bool.not_false, beq_iff_eq, bne_iff_ne, beq_eq_false_iff_ne, ne_eq, Bool.and_eq_true, Bool.or_eq_true, Bool.or_eq_false_iff] at h) <;> simp only [go_sem, Nat.reduceAdd, Nat.reduceMul, Int.reduceToNat, Nat.reduceLT, Nat.reduceLeDiff, Nat.le_refl, Nat.reduceEqDiff, ↓reduceIte, beq_self_eq_true, bne_self_eq_false, Int.reduceBEq, Int.reduceBNe, or_self, true_or, or_true, Option.map_some, Option.map_none, hb0, h, decide_true, decide_false, List.length_map, hget, Nat.lt_irrefl, s3] <;> (try clear hb0)) | (with_reducible refine And.intro (?_ : regOk _ _ = true) ?_; kernel_rfl) | (with_reducible refine And.intro ?_ ?_; first | omega | assumption | (focus (decide)) | (focus (simp; done)) | (focus (simp; omega)) | (focus (constructor <;> omega)) | fail) | (refine AW.ret (Fin.data rfl (by first | (simp only [go_sem]; done) | (simp [go_sem, *]; done) | (simp [go_sem]; omega) | rfl) rfl)) | (exfalso; omega))
      rw [if_neg s3] at hF
      subst hF
      rw [if_neg (by simp)] at g2
      rw [hmn] at s3 hst
      repeat' (first | ((first | refine AW.sreg rfl fun K hK => ?_ | refine AW.sregD hmix rfl fun K hK => ?_ | refine AW.reg rfl ?_ | refine run_call _ _ _ ((hk1).pure rfl rfl _ _) rfl rfl (dstOk_of rfl) rfl rfl rfl ?_ | refine run_call _ _ _ ((hk2).pure rfl rfl _ _) rfl rfl (dstOk_of rfl) rfl rfl rfl ?_ | refine run_call _ _ _ ((ho).pure rfl rfl _ _) rfl rfl (dstOk_of rfl) rfl rfl rfl ?_); simp only [go_sem, Nat.reduceAdd, Nat.reduceMul, Int.reduceToNat, Nat.reduceLT, Nat.reduceLeDiff, Nat.le_refl, Nat.reduceEqDiff, ↓reduceIte, beq_self_eq_true, bne_self_eq_false, Int.reduceBEq, Int.reduceBNe, or_self, true_or, or_true, Option.map_some, Option.map_none, List.length_map, hget, Nat.lt_irrefl, s3]) | (refine AW.seq_k fun K hK => ?_) | (refine AW.block ?_) | (refine AW.skip ?_; simp only [Then, InBlock]) | (refine AW.condT rfl (by first | rfl | (simp; omega) | (simp [*]; done) | fail) ?_) | (refine AW.condF rfl (by first | rfl | (simp; omega) | (simp [*]; done) | fail) ?_) | (refine hK _ ?_; clear hK K) | (refine stepBT_split (fun h => ?_) (fun h => ?_) <;> (have hb0 := h) <;> (try simp only [Bool.not_eq_true', Bool.not_eq_false'] at hb0) <;> (try simp only [decide_eq_true_eq, decide_eq_false_iff_not, Bool.not_eq_true', Bool.not_eq_false', Bool.not_eq_eq_eq_not, Bool.not_true, Bool.not_false, beq_iff_eq, bne_iff_ne, beq_eq_false_iff_ne, ne_eq, Bool.and_eq_true, Bool.or_eq_true, Bool.or_eq_false_iff] at h) <;> simp only [go_sem, Nat.reduceAdd, Nat.reduceMul, Int.reduceToNat, Nat.reduceLT, Nat.reduceLeDiff, Nat.le_refl, Nat.reduceEqDiff, ↓reduceIte, beq_self_eq_true, bne_self_eq_false, Int.reduceBEq, Int.reduceBNe, or_self, true_or, or_true, Option.map_some, Option.map_none, hb0, h, decide_true, decide_false, List.length_map, hget, Nat.lt_irrefl, s3] <;> (try clear hb0)) | (with_reducible refine And.intro (?_ : regOk _ _ = true) ?_; kernel_rfl) | (with_reducible refine And.intro ?_ ?_; first | omega | assumption | (focus (decide)) | (focus (simp; done)) | (focus (simp; omega)) | (focus (constructor <;> omega)) | fail) | (exfalso; omega))
      exact ⟨i + 1, ⟨hi, g2⟩, by omega, (Weak.auto hcx rfl rfl (Nat.le_of_ble_eq_true rfl) (by simp [go_sem, gL, kL, renOf, V.obj, lk, Nat.blt, Nat.ble, List.map_append, dv_push, hst]) (by simp [go_sem, gL, kL, renOf, V.obj, lk, Nat.blt, Nat.ble, List.map_append, dv_push, hst]) (by first | exact pk0 | exact pk1 ⟨_, rfl⟩ | exact pk2 ⟨_, rfl⟩ ⟨_, rfl⟩ | exact pk3 ⟨_, rfl⟩ ⟨_, rfl⟩ ⟨_, rfl⟩ | exact pk4 ⟨_, rfl⟩ ⟨_, rfl⟩ ⟨_, rfl⟩ ⟨_, rfl⟩) (by simp [go_sem, gL, kL, lk, renOf, V.obj, Nat.blt, Nat.ble, hst]))⟩
    · subst hLq
      have hpq := hpo q
      by_cases hp : q.1 = xp
      · rw [if_pos hp] at hmn
        have hpb : (q.1 != xp) = false := by simpa using hp
        cases k1 with
        | false =>
          rw [if_pos (by simp)] at hF
          subst hF
          rw [if_pos (by simp)] at g2
          subst g2
          repeat' (first | ((first | refine AW.sreg rfl fun K hK => ?_ | refine AW.sregD hmix rfl fun K hK => ?_ | refine AW.reg rfl ?_ | refine run_call _ _ _ ((hk1).pure rfl rfl _ _) rfl rfl (dstOk_of rfl) rfl rfl rfl ?_); simp only [go_sem, Nat.reduceAdd, Nat.reduceMul, Int.reduceToNat, Nat.reduceLT, Nat.reduceLeDiff, Nat.le_refl, Nat.reduceEqDiff, ↓reduceIte, beq_self_eq_true, bne_self_eq_false, Int.reduceBEq, Int.reduceBNe, or_self, true_or, or_true, Option.map_some, Option.map_none, List.length_map, hget, hg, hpb]) | (refine AW.seq_k fun K hK => ?_) | (refine AW.block ?_) | (refine AW.skip ?_; simp only [Then, InBlock]) | (refine AW.condT rfl (by first | rfl | (simp; omega) | (simp [*]; done) | fail) ?_) | (refine AW.condF rfl (by first | rfl | (simp; omega) | (simp [*]; done) | fail) ?_) | (refine hK _ ?_; clear hK K) | (refine stepBT_split (fun h => ?_) (fun h => ?_) <;> (have hb0 := h) <;> (try simp only [Bool.not_eq_true', Bool.not_eq_false'] at hb0) <;> (try simp only [decide_eq_true_eq, decide_eq_false_iff_not, Bool.not_eq_true', Bool.not_eq_false', Bool.not_eq_eq_eq_not, Bool.not_true, Bool.not_false, beq_iff_eq, bne_iff_ne, beq_eq_false_iff_ne, ne_eq, Bool.and_eq_true, Bool.or_eq_true, Bool.or_eq_false_iff] at h) <;> simp only [go_sem, Nat.reduceAdd, Nat.reduceMul, Int.reduceToNat, Nat.reduceLT, Nat.reduceLeDiff, Nat.le_refl, Nat.reduceEqDiff, ↓reduceIte, beq_self_eq_true, bne_self_eq_false, Int.reduceBEq, Int.reduceBNe, or_self, true_or, or_true, Option.map_some, Option.map_none, hb0, h, decide_true, decide_false, List.length_map, hget, hg, hpb] <;> (try clear hb0)) | (with_reducible refine And.intro (?_ : regOk _ _ = true) ?_; kernel_rfl) | (with_reducible refine And.intro ?_ ?_; first | omega | assumption | (focus (decide)) | (focus (simp; done)) | (focus (simp; omega)) | (focus (constructor <;> omega)) | fail) | (refine AW.ret (Fin.data rfl (by first | (simp only [go_sem]; done) | (simp [go_sem, *]; done) | (simp [go_sem]; omega) | rfl) rfl)))
        | true =>
        cases k2 with
        | false =>
          rw [if_pos (by simp)] at hF
          subst hF
          rw [if_pos (by simp)] at g2
          subst g2
          repeat' (first | ((first | refine AW.sreg rfl fun K hK => ?_ | refine AW.sregD hmix rfl fun K hK => ?_ | refine AW.reg rfl ?_ | refine run_call _ _ _ ((hk1).pure rfl rfl _ _) rfl rfl (dstOk_of rfl) rfl rfl rfl ?_ | refine run_call _ _ _ ((hk2).pure rfl rfl _ _) rfl rfl (dstOk_of rfl) rfl rfl rfl ?_); simp only [go_sem, Nat.reduceAdd, Nat.reduceMul, Int.reduceToNat, Nat.reduceLT, Nat.reduceLeDiff, Nat.le_refl, Nat.reduceEqDiff, ↓reduceIte, beq_self_eq_true, bne_self_eq_false, Int.reduceBEq, Int.reduceBNe, or_self, true_or, or_true, Option.map_some, Option.map_none, List.length_map, hget, hg, hpb]) | (refine AW.seq_k fun K hK => ?_) | (refine AW.block ?_) | (refine AW.skip ?_; simp only [Then, InBlock]) | (refine AW.condT rfl (by first | rfl | (simp; omega) | (simp [*]; done) | fail) ?_) | (refine AW.condF rfl (by first | rfl | (simp; omega) | (simp [*]; done) | fail) ?_) | (refine hK _ ?_; clear hK K) | (refine stepBT_split (fun h => ?_) (fun h => ?_) <;> (have hb0 := h) <;> (try simp only [Bool.not_eq_true', Bool.not_eq_false'] at hb0) <;> (try simp only [decide_eq_true_eq, decide_eq_false_iff_not, Bool.not_eq_true', Bool.not_eq_false', Bool.not_eq_eq_eq_not, Bool.not_true, Bool.not_false, beq_iff_eq, bne_iff_ne, beq_eq_false_iff_ne, ne_eq, Bool.and_eq_true, Bool.or_eq_true, Bool.or_eq_false_iff] at h) <;> simp only [go_sem, Nat.reduceAdd, Nat.reduceMul, Int.reduceToNat, Nat.reduceLT, Nat.reduceLeDiff, Nat.le_refl, Nat.reduceEqDiff, ↓reduceIte, beq_self_eq_true, bne_self_eq_false, Int.reduceBEq, Int.reduceBNe, or_self, true_or, or_true, Option.map_some, Option.map_none, hb0, h, decide_true, decide_false, List.length_map, hget, hg, hpb] <;> (try clear hb0)) | (with_reducible refine And.intro (?_ : regOk _ _ = true) ?_; kernel_rfl) | (with_reducible refine And.intro ?_ ?_; first | omega | assumption | (focus (decide)) | (focus (simp; done)) | (focus (simp; omega)) | (focus (constructor <;> omega)) | fail) | (refine AW.ret (Fin.data rfl (by first | (simp only [go_sem]; done) | (simp [go_sem, *]; done) | (simp [go_sem]; omega) | rfl) rfl)))
        | true =>
        rw [if_neg (by simp)] at hF
        by_cases hc : 0 ≤ cpP (q.1, q.2.1) (xp, xq)
        · rw [if_pos (by simpa using hc)] at hF
          subst hF
          rw [if_pos (by simp)] at g2
          subst g2
          repeat' (first | ((first | refine AW.sreg rfl fun K hK => ?_ | refine AW.sregD hmix rfl fun K hK => ?_ | refine AW.reg rfl ?_ | refine run_call _ _ _ ((hk1).pure rfl rfl _ _) rfl rfl (dstOk_of rfl) rfl rfl rfl ?_ | refine run_call _ _ _ ((hk2).pure rfl rfl _ _) rfl rfl (dstOk_of rfl) rfl rfl rfl ?_ | refine runT_call _ _ [] (fun hv _ => (hpq).pure rfl rfl hv _) rfl rfl (dstOk_of rfl) rfl rfl ?_); simp only [go_sem, Nat.reduceAdd, Nat.reduceMul, Int.reduceToNat, Nat.reduceLT, Nat.reduceLeDiff, Nat.le_refl, Nat.reduceEqDiff, ↓reduceIte, beq_self_eq_true, bne_self_eq_false, Int.reduceBEq, Int.reduceBNe, or_self, true_or, or_true, Option.map_some, Option.map_none, List.length_map, hget, hg, hpb, hc]) | (refine AW.seq_k fun K hK => ?_) | (refine AW.block ?_) | (refine AW.skip ?_; simp only [Then, InBlock]) | (refine AW.condT rfl (by first | rfl | (simp; omega) | (simp [*]; done) | fail) ?_) | (refine AW.condF rfl (by first | rfl | (simp; omega) | (simp [*]; done) | fail) ?_) | (refine hK _ ?_; clear hK K) | (refine stepBT_split (fun h => ?_) (fun h => ?_) <;> (have hb0 := h) <;> (try simp only [Bool.not_eq_true', Bool.not_eq_false'] at hb0) <;> (try simp only [decide_eq_true_eq, decide_eq_false_iff_not, Bool.not_eq_true', Bool.not_eq_false', Bool.not_eq_eq_eq_not, Bool.not_true, Bool.not_false, beq_iff_eq, bne_iff_ne, beq_eq_false_iff_ne, ne_eq, Bool.and_eq_true, Bool.or_eq_true, Bool.or_eq_false_iff] at h) <;> simp only [go_sem, Nat.reduceAdd, Nat.reduceMul, Int.reduceToNat, Nat.reduceLT, Nat.reduceLeDiff, Nat.le_refl, Nat.reduceEqDiff, ↓reduceIte, beq_self_eq_true, bne_self_eq_false, Int.reduceBEq, Int.reduceBNe, or_self, true_or, or_true, Option.map_some, Option.map_none, hb0, h, decide_true, decide_false, List.length_map, hget, hg, hpb, hc] <;> (try clear hb0)) | (with_reducible refine And.intro (?_ : regOk _ _ = true) ?_; kernel_rfl) | (with_reducible refine And.intro ?_ ?_; first | omega | assumption | (focus (decide)) | (focus (simp; done)) | (focus (simp; omega)) | (focus (constructor <;> omega)) | fail) | (refine AW.ret (Fin.data rfl (by first | (simp only [go_sem]; done) | (simp [go_sem, *]; done) | (simp [go_sem]; omega) | rfl) rfl)))
        rw [if_neg (by simpa using hc)] at hF
        by_cases sc : (decide (xs < 0) || decide (10 < xs)) = true
        · rw [if_pos sc] at hF
          subst hF
          rw [if_pos (by simp)] at g2
          subst g2
          rw [sc] at ho
          repeat' (first | ((first | refine AW.sreg rfl fun K hK => ?_ | refine AW.sregD hmix rfl fun K hK => ?_ | refine AW.reg rfl ?_ | refine run_call _ _ _ ((hk1).pure rfl rfl _ _) rfl rfl (dstOk_of rfl) rfl rfl rfl ?_ | refine run_call _ _ _ ((hk2).pure rfl rfl _ _) rfl rfl (dstOk_of rfl) rfl rfl rfl ?_ | refine runT_call _ _ [] (fun hv _ => (hpq).pure rfl rfl hv _) rfl rfl (dstOk_of rfl) rfl rfl ?_ | refine run_call _ _ _ ((ho).pure rfl rfl _ _) rfl rfl (dstOk_of rfl) rfl rfl rfl ?_); simp only [go_sem, Nat.reduceAdd, Nat.reduceMul, Int.reduceToNat, Nat.reduceLT, Nat.reduceLeDiff, Nat.le_refl, Nat.reduceEqDiff, ↓reduceIte, beq_self_eq_true, bne_self_eq_false, Int.reduceBEq, Int.reduceBNe, or_self, true_or, or_true, Option.map_some, Option.map_none, List.length_map, hget, hg, hpb, hc]) | (refine AW.seq_k fun K hK => ?_) | (refine AW.block ?_) | (refine AW.skip ?_; simp only [Then, InBlock]) | (refine AW.condT rfl (by first | rfl | (simp; omega) | (simp [*]; done) | fail) ?_) | (refine AW.condF rfl (by first | rfl | (simp; omega) | (simp [*]; done) | fail) ?_) | (refine hK _ ?_; clear hK K) | (refine stepBT_split (fun h => ?_) (fun h => ?_) <;> (have hb0 := h) <;> (try simp only [Bool.not_eq_true', Bool.not_eq_false'] at hb0) <;> (try simp only [decide_eq_true_eq, decide_eq_false_iff_not, Bool.not_eq_true', Bool.not_eq_false', Bool.not_eq_eq_eq_not, Bool.not_true, Bool.not_false, beq_iff_eq, bne_iff_ne, beq_eq_false_iff_ne, ne_eq, Bool.and_eq_true, Bool.or_eq_true, Bool.or_eq_false_iff] at h) <;> simp only [go_sem, Nat.reduceAdd, Nat.reduceMul, Int.reduceToNat, Nat.reduceLT, Nat.reduceLeDiff, Nat.le_refl, Nat.reduceEqDiff, ↓reduceIte, beq_self_eq_true, bne_self_eq_false, Int.reduceBEq, Int.reduceBNe, or_self, true_or, or_true, Option.map_some, Option.map_none, hb0, h, decide_true, decide_false, List.length_map, hget, hg, hpb, hc] <;> (try clear hb0)) | (with_reducible refine And.intro (?_ : regOk _ _ = true) ?_; kernel_rfl) | (with_reducible refine And.intro ?_ ?_; first | omega | assumption | (focus (decide)) | (focus (simp; done)) | (focus (simp; omega)) | (focus (constructor <;> omega)) | fail) | (refine AW.ret (Fin.data rfl (by first | (simp only [go_sem]; done) | (simp [go_sem, *]; done) | (simp [go_sem]; omega) | rfl) rfl)))
        rw [if_neg sc] at hF
        have scf : (decide (xs < 0) || decide (10 < xs)) = false := by simpa using sc
        rw [scf] at ho
        by_cases s3 : 12 < mn
        · rw [if_pos s3] at hF
          subst hF
          rw [if_pos (by simp)] at g2
          subst g2
          rw [hmn] at s3
          repeat' (first | ((first | refine AW.sreg rfl fun K hK => ?_ | refine AW.sregD hmix rfl fun K hK => ?_ | refine AW.reg rfl ?_ | refine run_call _ _ _ ((hk1).pure rfl rfl _ _) rfl rfl (dstOk_of rfl) rfl rfl rfl ?_ | refine run_call _ _ _ ((hk2).pure rfl rfl _ _) rfl rfl (dstOk_of rfl) rfl rfl rfl ?_ | refine runT_call _ _ [] (fun hv _ => (hpq).pure rfl rfl hv _) rfl rfl (dstOk_of rfl) rfl rfl ?_ | refine run_call _ _ _ ((ho).pure rfl rfl _ _) rfl rfl (dstOk_of rfl) rfl rfl rfl ?_); simp only [go_sem, Nat.reduceAdd, Nat.reduceMul, Int.reduceToNat, Nat.reduceLT, Nat.reduceLeDiff, Nat.le_refl, Nat.reduceEqDiff, ↓reduceIte, beq_self_eq_true, bne_self_eq_false, Int.reduceBEq, Int.reduceBNe, or_self, true_or, or_true, Option.map_some, Option.map_none, List.length_map, hget, hg, hpb, hc, s3]) | (refine AW.seq_k fun K hK => ?_) | (refine AW.block ?_) | (refine AW.skip ?_; simp only [Then, InBlock]) | (refine AW.condT rfl (by first | rfl | (simp; omega) | (simp [*]; done) | fail) ?_) | (refine AW.condF rfl (by first | rfl | (simp; omega) | (simp [*]; done) | fail) ?_) | (refine hK _ ?_; clear hK K) | (refine stepBT_split (fun h => ?_) (fun h => ?_) <;> (have hb0 := h) <;> (try simp only [Bool.not_eq_true', Bool.not_eq_false'] at hb0) <;> (try simp only [decide_eq_true_eq, decide_eq_false_iff_not, Bool.not_eq_true', Bool.not_eq_false', Bool.not_eq_eq_eq_not, Bool.not_true, Bool.not_false, beq_iff_eq, bne_iff_ne, beq_eq_false_iff_ne, ne_eq, Bool.and_eq_true, Bool.or_eq_true, Bool.or_eq_false_iff] at h) <;> simp only [go_sem, Nat.reduceAdd, Nat.reduceMul, Int.reduceToNat, Nat.reduceLT, Nat.reduceLeDiff, Nat.le_refl, Nat.reduceEqDiff, ↓reduceIte, beq_self_eq_true, bne_self_eq_false, Int.reduceBEq, Int.reduceBNe, or_self, true_or, or_true, Option.map_some, Option.map_none, hb0, h, decide_true, decide_false, List.length_map, hget, hg, hpb, hc, s3] <;> (try clear hb0)) | (with_reducible refine And.intro (?_ : regOk _ _ = true) ?_; kernel_rfl) | (with_reducible refine And.intro ?_ ?_; first | omega | assumption | (focus (decide)) | (focus (simp; done)) | (focus (simp; omega)) | (focus (constructor <;> omega)) | fail) | (refine AW.ret (Fin.data rfl (by first | (simp only [go_sem]; done) | (simp [go_sem, *]; done) | (simp [go_sem]; omega) | rfl) rfl)))
        rw [if_neg s3] at hF
        subst hF
        rw [if_neg (by simp)] at g2
        rw [hmn] at s3 hst
        repeat' (first | ((first | refine AW.sreg rfl fun K hK => ?_ | refine AW.sregD hmix rfl fun K hK => ?_ | refine AW.reg rfl ?_ | refine run_call _ _ _ ((hk1).pure rfl rfl _ _) rfl rfl (dstOk_of rfl) rfl rfl rfl ?_ | refine run_call _ _ _ ((hk2).pure rfl rfl _ _) rfl rfl (dstOk_of rfl) rfl rfl rfl ?_ | refine runT_call _ _ [] (fun hv _ => (hpq).pure rfl rfl hv _) rfl rfl (dstOk_of rfl) rfl rfl ?_ | refine run_call _ _ _ ((ho).pure rfl rfl _ _) rfl rfl (dstOk_of rfl) rfl rfl rfl ?_); simp only [go_sem, Nat.reduceAdd, Nat.reduceMul, Int.reduceToNat, Nat.reduceLT, Nat.reduceLeDiff, Nat.le_refl, Nat.reduceEqDiff, ↓reduceIte, beq_self_eq_true, bne_self_eq_false, Int.reduceBEq, Int.reduceBNe, or_self, true_or, or_true, Option.map_some, Option.map_none, List.length_map, hget, hg, hpb, hc, s3]) | (refine AW.seq_k fun K hK => ?_) | (refine AW.block ?_) | (refine AW.skip ?_; simp only [Then, InBlock]) | (refine AW.condT rfl (by first | rfl | (simp; omega) | (simp [*]; done) | fail) ?_) | (refine AW.condF rfl (by first | rfl | (simp; omega) | (simp [*]; done) | fail) ?_) | (refine hK _ ?_; clear hK K) | (refine stepBT_split (fun h => ?_) (fun h => ?_) <;> (have hb0 := h) <;> (try simp only [Bool.not_eq_true', Bool.not_eq_false'] at hb0) <;> (try simp only [decide_eq_true_eq, decide_eq_false_iff_not, Bool.not_eq_true', Bool.not_eq_false', Bool.not_eq_eq_eq_not, Bool.not_true, Bool.not_false, beq_iff_eq, bne_iff_ne, beq_eq_false_iff_ne, ne_eq, Bool.and_eq_true, Bool.or_eq_true, Bool.or_eq_false_iff] at h) <;> simp only [go_sem, Nat.reduceAdd, Nat.reduceMul, Int.reduceToNat, Nat.reduceLT, Nat.reduceLeDiff, Nat.le_refl, Nat.reduceEqDiff, ↓reduceIte, beq_self_eq_true, bne_self_eq_false, Int.reduceBEq, Int.reduceBNe, or_self, true_or, or_true, Option.map_some, Option.map_none, hb0, h, decide_true, decide_false, List.length_map, hget, hg, hpb, hc, s3] <;> (try clear hb0)) | (with_reducible refine And.intro (?_ : regOk _ _ = true) ?_; kernel_rfl) | (with_reducible refine And.intro ?_ ?_; first | omega | assumption | (focus (decide)) | (focus (simp; done)) | (focus (simp; omega)) | (focus (constructor <;> omega)) | fail) | (exfalso; omega))
        exact ⟨i + 1, ⟨hi, g2⟩, by omega, (Weak.auto hcx rfl rfl (Nat.le_of_ble_eq_true rfl) (by simp [go_sem, gL, kL, renOf, V.obj, lk, Nat.blt, Nat.ble, List.map_append, dv_push, hst]) (by simp [go_sem, gL, kL, renOf, V.obj, lk, Nat.blt, Nat.ble, List.map_append, dv_push, hst]) (by first | exact pk0 | exact pk1 ⟨_, rfl⟩ | exact pk2 ⟨_, rfl⟩ ⟨_, rfl⟩ | exact pk3 ⟨_, rfl⟩ ⟨_, rfl⟩ ⟨_, rfl⟩ | exact pk4 ⟨_, rfl⟩ ⟨_, rfl⟩ ⟨_, rfl⟩ ⟨_, rfl⟩) (by simp [go_sem, gL, kL, lk, renOf, V.obj, Nat.blt, Nat.ble, hst]))⟩
      · rw [if_neg hp] at hmn
        have hpb : (q.1 != xp) = true := by simpa using hp
        cases k1 with
        | false =>
          rw [if_pos (by simp)] at hF
          subst hF
          rw [if_pos (by simp)] at g2
          subst g2
          repeat' (first | ((first | refine AW.sreg rfl fun K hK => ?_ | refine AW.sregD hmix rfl fun K hK => ?_ | refine AW.reg rfl ?_ | refine run_call _ _ _ ((hk1).pure rfl rfl _ _) rfl rfl (dstOk_of rfl) rfl rfl rfl ?_); simp only [go_sem, Nat.reduceAdd, Nat.reduceMul, Int.reduceToNat, Nat.reduceLT, Nat.reduceLeDiff, Nat.le_refl, Nat.reduceEqDiff, ↓reduceIte, beq_self_eq_true, bne_self_eq_false, Int.reduceBEq, Int.reduceBNe, or_self, true_or, or_true, Option.map_some, Option.map_none, List.length_map, hget, hg, hpb]) | (refine AW.seq_k fun K hK => ?_) | (refine AW.block ?_) | (refine AW.skip ?_; simp only [Then, InBlock]) | (refine AW.condT rfl (by first | rfl | (simp; omega) | (simp [*]; done) | fail) ?_) | (refine hK _ ?_; clear hK K) | (refine stepBT_split (fun h => ?_) (fun h => ?_) <;> (have hb0 := h) <;> (try simp only [Bool.not_eq_true', Bool.not_eq_false'] at hb0) <;> (try simp only [decide_eq_true_eq, decide_eq_false_iff_not, Bool.not_eq_true', Bool.not_eq_false', Bool.not_eq_eq_eq_not, Bool.not_true, Bool.not_false, beq_iff_eq, bne_iff_ne, beq_eq_false_iff_ne, ne_eq, Bool.and_eq_true, Bool.or_eq_true, Bool.or_eq_false_iff] at h) <;> simp only [go_sem, Nat.reduceAdd, Nat.reduceMul, Int.reduceToNat, Nat.reduceLT, Nat.reduceLeDiff, Nat.le_refl, Nat.reduceEqDiff, ↓reduceIte, beq_self_eq_true, bne_self_eq_false, Int.reduceBEq, Int.reduceBNe, or_self, true_or, or_true, Option.map_some, Option.map_none, hb0, h, decide_true, decide_false, List.length_map, hget, hg, hpb] <;> (try clear hb0)) | (with_reducible refine And.intro (?_ : regOk _ _ = true) ?_; kernel_rfl) | (with_reducible refine And.intro ?_ ?_; first | omega | assumption | (focus (decide)) | (focus (simp; done)) | (focus (simp; omega)) | (focus (constructor <;> omega)) | fail) | (refine AW.ret (Fin.data rfl (by first | (simp only [go_sem]; done) | (simp [go_sem, *]; done) | (simp [go_sem]; omega) | rfl) rfl)))
        | true =>
        cases k2 with
        | false =>
          rw [if_pos (by simp)] at hF
          subst hF
          rw [if_pos (by simp)] at g2
          subst g2
          repeat' (first | ((first | refine AW.sreg rfl fun K hK => ?_ | refine AW.sregD hmix rfl fun K hK => ?_ | refine AW.reg rfl ?_ | refine run_call _ _ _ ((hk1).pure rfl rfl _ _) rfl rfl (dstOk_of rfl) rfl rfl rfl ?_ | refine run_call _ _ _ ((hk2).pure rfl rfl _ _) rfl rfl (dstOk_of rfl) rfl rfl rfl ?_); simp only [go_sem, Nat.reduceAdd, Nat.reduceMul, Int.reduceToNat, Nat.reduceLT, Nat.reduceLeDiff, Nat.le_refl, Nat.reduceEqDiff, ↓reduceIte, beq_self_eq_true, bne_self_eq_false, Int.reduceBEq, Int.reduceBNe, or_self, true_or, or_true, Option.map_some, Option.map_none, List.length_map, hget, hg, hpb]) | (refine AW.seq_k fun K hK => ?_) | (refine AW.block ?_) | (refine AW.skip ?_; simp only [Then, InBlock]) | (refine AW.condT rfl (by first | rfl | (simp; omega) | (simp [*]; done) | fail) ?_) | (refine hK _ ?_; clear hK K) | (refine stepBT_split (fun h => ?_) (fun h => ?_) <;> (have hb0 := h) <;> (try simp only [Bool.not_eq_true', Bool.not_eq_false'] at hb0) <;> (try simp only [decide_eq_true_eq, decide_eq_false_iff_not, Bool.not_eq_true', Bool.not_eq_false', Bool.not_eq_eq_eq_not, Bool.not_true, Bool.not_false, beq_iff_eq, bne_iff_ne, beq_eq_false_iff_ne, ne_eq, Bool.and_eq_true, Bool.or_eq_true, Bool.or_eq_false_iff] at h) <;> simp only [go_sem, Nat.reduceAdd, Nat.reduceMul, Int.reduceToNat, Nat.reduceLT, Nat.reduceLeDiff, Nat.le_refl, Nat.reduceEqDiff, ↓reduceIte, beq_self_eq_true, bne_self_eq_false, Int.reduceBEq, Int.reduceBNe, or_self, true_or, or_true, Option.map_some, Option.map_none, hb0, h, decide_true, decide_false, List.length_map, hget, hg, hpb] <;> (try clear hb0)) | (with_reducible refine And.intro (?_ : regOk _ _ = true) ?_; kernel_rfl) | (with_reducible refine And.intro ?_ ?_; first | omega | assumption | (focus (decide)) | (focus (simp; done)) | (focus (simp; omega)) | (focus (constructor <;> omega)) | fail) | (refine AW.ret (Fin.data rfl (by first | (simp only [go_sem]; done) | (simp [go_sem, *]; done) | (simp [go_sem]; omega) | rfl) rfl)))
        | true =>
        rw [if_neg (by simp)] at hF
        by_cases hc : 0 ≤ cpP (q.1, q.2.1) (xp, xq)
        · rw [if_pos (by simpa using hc)] at hF
          subst hF
          rw [if_pos (by simp)] at g2
          subst g2
          repeat' (first | ((first | refine AW.sreg rfl fun K hK => ?_ | refine AW.sregD hmix rfl fun K hK => ?_ | refine AW.reg rfl ?_ | refine run_call _ _ _ ((hk1).pure rfl rfl _ _) rfl rfl (dstOk_of rfl) rfl rfl rfl ?_ | refine run_call _ _ _ ((hk2).pure rfl rfl _ _) rfl rfl (dstOk_of rfl) rfl rfl rfl ?_ | refine runT_call _ _ [] (fun hv _ => (hpq).pure rfl rfl hv _) rfl rfl (dstOk_of rfl) rfl rfl ?_); simp only [go_sem, Nat.reduceAdd, Nat.reduceMul, Int.reduceToNat, Nat.reduceLT, Nat.reduceLeDiff, Nat.le_refl, Nat.reduceEqDiff, ↓reduceIte, beq_self_eq_true, bne_self_eq_false, Int.reduceBEq, Int.reduceBNe, or_self, true_or, or_true, Option.map_some, Option.map_none, List.length_map, hget, hg, hpb, hc]) | (refine AW.seq_k fun K hK => ?_) | (refine AW.block ?_) | (refine AW.skip ?_; simp only [Then, InBlock]) | (refine AW.condT rfl (by first | rfl | (simp; omega) | (simp [*]; done) | fail) ?_) | (refine AW.condF rfl (by first | rfl | (simp; omega) | (simp [*]; done) | fail) ?_) | (refine hK _ ?_; clear hK K) | (refine stepBT_split (fun h => ?_) (fun h => ?_) <;> (have hb0 := h) <;> (try simp only [Bool.not_eq_true', Bool.not_eq_false'] at hb0) <;> (try simp only [decide_eq_true_eq, decide_eq_false_iff_not, Bool.not_eq_true', Bool.not_eq_false', Bool.not_eq_eq_eq_not, Bool.not_true, Bool.not_false, beq_iff_eq, bne_iff_ne, beq_eq_false_iff_ne, ne_eq, Bool.and_eq_true, Bool.or_eq_true, Bool.or_eq_false_iff] at h) <;> simp only [go_sem, Nat.reduceAdd, Nat.reduceMul, Int.reduceToNat, Nat.reduceLT, Nat.reduceLeDiff, Nat.le_refl, Nat.reduceEqDiff, ↓reduceIte, beq_self_eq_true, bne_self_eq_false, Int.reduceBEq, Int.reduceBNe, or_self, true_or, or_true, Option.map_some, Option.map_none, hb0, h, decide_true, decide_false, List.length_map, hget, hg, hpb, hc] <;> (try clear hb0)) | (with_reducible refine And.intro (?_ : regOk _ _ = true) ?_; kernel_rfl) | (with_reducible refine And.intro ?_ ?_; first | omega | assumption | (focus (decide)) | (focus (simp; done)) | (focus (simp; omega)) | (focus (constructor <;> omega)) | fail) | (refine AW.ret (Fin.data rfl (by first | (simp only [go_sem]; done) | (simp [go_sem, *]; done) | (simp [go_sem]; omega) | rfl) rfl)))
        rw [if_neg (by simpa using hc)] at hF
        by_cases sc : (decide (xs < 0) || decide (10 < xs)) = true
        · rw [if_pos sc] at hF
          subst hF
          rw [if_pos (by simp)] at g2
          subst g2
          rw [sc] at ho
          repeat' (first | ((first | refine AW.sreg rfl fun K hK => ?_ | refine AW.sregD hmix rfl fun K hK => ?_ | refine AW.reg rfl ?_ | refine run_call _ _ _ ((hk1).pure rfl rfl _ _) rfl rfl (dstOk_of rfl) rfl rfl rfl ?_ | refine run_call _ _ _ ((hk2).pure rfl rfl _ _) rfl rfl (dstOk_of rfl) rfl rfl rfl ?_ | refine runT_call _ _ [] (fun hv _ => (hpq).pure rfl rfl hv _) rfl rfl (dstOk_of rfl) rfl rfl ?_ | refine run_call _ _ _ ((ho).pure rfl rfl _ _) rfl rfl (dstOk_of rfl) rfl rfl rfl ?_); simp only [go_sem, Nat.reduceAdd, Nat.reduceMul, Int.reduceToNat, Nat.reduceLT, Nat.reduceLeDiff, Nat.le_refl, Nat.reduceEqDiff, ↓reduceIte, beq_self_eq_true, bne_self_eq_false, Int.reduceBEq, Int.reduceBNe, or_self, true_or, or_true, Option.map_some, Option.map_none, List.length_map, hget, hg, hpb, hc]) | (refine AW.seq_k fun K hK => ?_) | (refine AW.block ?_) | (refine AW.skip ?_; simp only [Then, InBlock]) | (refine AW.condT rfl (by first | rfl | (simp; omega) | (simp [*]; done) | fail) ?_) | (refine AW.condF rfl (by first | rfl | (simp; omega) | (simp [*]; done) | fail) ?_) | (refine hK _ ?_; clear hK K) | (refine stepBT_split (fun h => ?_) (fun h => ?_) <;> (have hb0 := h) <;> (try simp only [Bool.not_eq_true', Bool.not_eq_false'] at hb0) <;> (try simp only [decide_eq_true_eq, decide_eq_false_iff_not, Bool.not_eq_true', Bool.not_eq_false', Bool.not_eq_eq_eq_not, Bool.not_true, Bool.not_false, beq_iff_eq, bne_iff_ne, beq_eq_false_iff_ne, ne_eq, Bool.and_eq_true, Bool.or_eq_true, Bool.or_eq_false_iff] at h) <;> simp only [go_sem, Nat.reduceAdd, Nat.reduceMul, Int.reduceToNat, Nat.reduceLT, Nat.reduceLeDiff, Nat.le_refl, Nat.reduceEqDiff, ↓reduceIte, beq_self_eq_true, bne_self_eq_false, Int.reduceBEq, Int.reduceBNe, or_self, true_or, or_true, Option.map_some, Option.map_none, hb0, h, decide_true, decide_false, List.length_map, hget, hg, hpb, hc] <;> (try clear hb0)) | (with_reducible refine And.intro (?_ : regOk _ _ = true) ?_; kernel_rfl) | (with_reducible refine And.intro ?_ ?_; first | omega | assumption | (focus (decide)) | (focus (simp; done)) | (focus (simp; omega)) | (focus (constructor <;> omega)) | fail) | (refine AW.ret (Fin.data rfl (by first | (simp only [go_sem]; done) | (simp [go_sem, *]; done) | (simp [go_sem]; omega) | rfl) rfl)))
        rw [if_neg sc] at hF
        have scf : (decide (xs < 0) || decide (10 < xs)) = false := by simpa using sc
        rw [scf] at ho
        by_cases s3 : 12 < mn
        · rw [if_pos s3] at hF
          subst hF
          rw [if_pos (by simp)] at g2
          subst g2
          rw [hmn] at s3
          repeat' (first | ((first | refine AW.sreg rfl fun K hK => ?_ | refine AW.sregD hmix rfl fun K hK => ?_ | refine AW.reg rfl ?_ | refine run_call _ _ _ ((hk1).pure rfl rfl _ _) rfl rfl (dstOk_of rfl) rfl rfl rfl ?_ | refine run_call _ _ _ ((hk2).pure rfl rfl _ _) rfl rfl (dstOk_of rfl) rfl rfl rfl ?_); simp only [go_sem, Nat.reduceAdd, Nat.reduceMul, Int.reduceToNat, Nat.reduceLT, Nat.reduceLeDiff, Nat.le_refl, Nat.reduceEqDiff, ↓reduceIte, beq_self_eq_true, bne_self_eq_false, Int.reduceBEq, Int.reduceBNe, or_self, true_or, or_true, Option.map_some, Option.map_none, List.length_map, hget, hg, hpb, hc, s3]) | (refine AW.seq_k fun K hK => ?_) | (refine AW.block ?_) | (refine AW.skip ?_; simp only [Then, InBlock]) | (refine AW.condT rfl (by first | rfl | (simp; omega) | (simp [*]; done) | fail) ?_) | (refine hK _ ?_; clear hK K) | (refine stepBT_split (fun h => ?_) (fun h => ?_) <;> (have hb0 := h) <;> (try simp only [Bool.not_eq_true', Bool.not_eq_false'] at hb0) <;> (try simp only [decide_eq_true_eq, decide_eq_false_iff_not, Bool.not_eq_true', Bool.not_eq_false', Bool.not_eq_eq_eq_not, Bool.not_true, Bool.not_false, beq_iff_eq, bne_iff_ne, beq_eq_false_iff_ne, ne_eq, Bool.and_eq_true, Bool.or_eq_true, Bool.or_eq_false_iff] at h) <;> simp only [go_sem, Nat.reduceAdd, Nat.reduceMul, Int.reduceToNat, Nat.reduceLT, Nat.reduceLeDiff, Nat.le_refl, Nat.reduceEqDiff, ↓reduceIte, beq_self_eq_true, bne_self_eq_false, Int.reduceBEq, Int.reduceBNe, or_self, true_or, or_true, Option.map_some, Option.map_none, hb0, h, decide_true, decide_false, List.length_map, hget, hg, hpb, hc, s3] <;> (try clear hb0)) | (with_reducible refine And.intro (?_ : regOk _ _ = true) ?_; kernel_rfl) | (with_reducible refine And.intro ?_ ?_; first | omega | assumption | (focus (decide)) | (focus (simp; done)) | (focus (simp; omega)) | (focus (constructor <;> omega)) | fail) | (refine AW.ret (Fin.data rfl (by first | (simp only [go_sem]; done) | (simp [go_sem, *]; done) | (simp [go_sem]; omega) | rfl) rfl)))
        rw [if_neg s3] at hF
        subst hF
        rw [if_neg (by simp)] at g2
        rw [hmn] at s3 hst
        repeat' (first | ((first | refine AW.sreg rfl fun K hK => ?_ | refine AW.sregD hmix rfl fun K hK => ?_ | refine AW.reg rfl ?_ | refine run_call _ _ _ ((hk1).pure rfl rfl _ _) rfl rfl (dstOk_of rfl) rfl rfl rfl ?_ | refine run_call _ _ _ ((hk2).pure rfl rfl _ _) rfl rfl (dstOk_of rfl) rfl rfl rfl ?_ | refine runT_call _ _ [] (fun hv _ => (hpq).pure rfl rfl hv _) rfl rfl (dstOk_of rfl) rfl rfl ?_ | refine run_call _ _ _ ((ho).pure rfl rfl _ _) rfl rfl (dstOk_of rfl) rfl rfl rfl ?_); simp only [go_sem, Nat.reduceAdd, Nat.reduceMul, Int.reduceToNat, Nat.reduceLT, Nat.reduceLeDiff, Nat.le_refl, Nat.reduceEqDiff, ↓reduceIte, beq_self_eq_true, bne_self_eq_false, Int.reduceBEq, Int.reduceBNe, or_self, true_or, or_true, Option.map_some, Option.map_none, List.length_map, hget, hg, hpb, hc, s3]) | (refine AW.seq_k fun K hK => ?_) | (refine AW.block ?_) | (refine AW.skip ?_; simp only [Then, InBlock]) | (refine AW.condT rfl (by first | rfl | (simp; omega) | (simp [*]; done) | fail) ?_) | (refine AW.condF rfl (by first | rfl | (simp; omega) | (simp [*]; done) | fail) ?_) | (refine hK _ ?_; clear hK K) | (refine stepBT_split (fun h => ?_) (fun h => ?_) <;> (have hb0 := h) <;> (try simp only [Bool.not_eq_true', Bool.not_eq_false'] at hb0) <;> (try simp only [decide_eq_true_eq, decide_eq_false_iff_not, Bool.not_eq_true', Bool.not_eq_false', Bool.not_eq_eq_eq_not, Bool.not_true, Bool.not_false, beq_iff_eq, bne_iff_ne, beq_eq_false_iff_ne, ne_eq, Bool.and_eq_true, Bool.or_eq_true, Bool.or_eq_false_iff] at h) <;> simp only [go_sem, Nat.reduceAdd, Nat.reduceMul, Int.reduceToNat, Nat.reduceLT, Nat.reduceLeDiff, Nat.le_refl, Nat.reduceEqDiff, ↓reduceIte, beq_self_eq_true, bne_self_eq_false, Int.reduceBEq, Int.reduceBNe, or_self, true_or, or_true, Option.map_some, Option.map_none, hb0, h, decide_true, decide_false, List.length_map, hget, hg, hpb, hc, s3] <;> (try clear hb0)) | (with_reducible refine And.intro (?_ : regOk _ _ = true) ?_; kernel_rfl) | (with_reducible refine And.intro ?_ ?_; first | omega | assumption | (focus (decide)) | (focus (simp; done)) | (focus (simp; omega)) | (focus (constructor <;> omega)) | fail) | (exfalso; omega))
        exact ⟨i + 1, ⟨hi, g2⟩, by omega, (Weak.auto hcx rfl rfl (Nat.le_of_ble_eq_true rfl) (by simp [go_sem, gL, kL, renOf, V.obj, lk, Nat.blt, Nat.ble, List.map_append, dv_push, hst]) (by simp [go_sem, gL, kL, renOf, V.obj, lk, Nat.blt, Nat.ble, List.map_append, dv_push, hst]) (by first | exact pk0 | exact pk1 ⟨_, rfl⟩ | exact pk2 ⟨_, rfl⟩ ⟨_, rfl⟩ | exact pk3 ⟨_, rfl⟩ ⟨_, rfl⟩ ⟨_, rfl⟩ | exact pk4 ⟨_, rfl⟩ ⟨_, rfl⟩ ⟨_, rfl⟩ ⟨_, rfl⟩) (by simp [go_sem, gL, kL, lk, renOf, V.obj, Nat.blt, Nat.ble, hst]))⟩
  · obtain rfl : i = ms.length := by omega
    rw [List.drop_length, goF] at g2
    subst g2
    repeat' (first | (refine AW.sreg rfl fun K hK => ?_; simp only [go_sem, Nat.reduceAdd, Nat.reduceMul, Int.reduceToNat, Nat.reduceLT, Nat.reduceLeDiff, Nat.le_refl, Nat.reduceEqDiff, ↓reduceIte, beq_self_eq_true, bne_self_eq_false, Int.reduceBEq, Int.reduceBNe, or_self, true_or, or_true, Option.map_some, Option.map_none, List.length_map]) | (refine AW.seq_k fun K hK => ?_) | (refine AW.exit ?_; simp only [go_sem, ↓reduceIte]) | (refine AW.condF rfl (by first | rfl | (simp; omega) | (simp [*]; done) | fail) ?_) | (refine hK _ ?_; clear hK K) | (clear hK K; refine hK _ ?_; clear hK K) | (refine AW.ret (Fin.data rfl (by first | (simp only [go_sem]; done) | (simp [go_sem, *]; done) | (simp [go_sem]; omega) | rfl) rfl)))
end Go.AX
