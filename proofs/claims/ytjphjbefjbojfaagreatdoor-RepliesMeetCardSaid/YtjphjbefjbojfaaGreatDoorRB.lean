/- slices.Sorted(maps.Keys(m)): the keys of a map, sorted. -/
import Derived.Test.YtjphjbefjbojfaaGreatDoorSh
import Derived.Test.YtjphjbefjbojfaaGreatDoorTi
import Derived.Test.YtjphjbefjbojfaaGreatDoorAx32
import Derived.Sort.KeysCollected
import Derived.WideShapes
import Derived.WideReads
import Derived.Test.YtjphjbefjbojfaaGreatDoorRA
set_option linter.unusedSimpArgs false
set_option linter.unusedVariables false
set_option maxRecDepth 1000000
set_option maxHeartbeats 4000000
namespace Go.AX
open Go Go.Proofs Go.RowKit Go.Maps Go.Sort Go.Shelf
open Go.WideElems (rd rg Fit)
open Go.MapKept (Stamped)
/-- How any value reads: the relation that the keys' contract leaves free. -/
def anyR (_ : Value) : Option (DataW Unit × List MemPlace) := some (.lit (.bool true), [])
theorem RDcs_at {w : World} {ok : Nat → Prop} {c : Array Value} : ∀ (xs : List D) (p i : Nat) (x : D), RDcs w ok c p xs → xs[i]? = some x → ∃ v, c[p + i]? = some v ∧ RD w ok x v
  | [], _, i, _, _, h => by simp at h
  | y :: ys, p, i, x, h, hi => by
    simp only [RDcs] at h
    cases i with
    | zero => simp at hi; subst hi; exact h.1
    | succ i =>
      obtain ⟨v, h1, h2⟩ := RDcs_at ys (p + 1) i x h.2 (by simpa using hi)
      exact ⟨v, by rw [← h1]; congr 1; omega, h2⟩
theorem keys_read {w : World} {ok : Nat → Prop} {es : Array MapEntry} {ks : List (List UInt8)} (hs : es.size = ks.length) (h : RDcs w ok (es.map (·.key)) 0 (ks.map D.str)) : es.toList.map (·.key) = ks.map fun s => Value.string ⟨s.toArray⟩ := by
  refine List.ext_getElem? fun i => ?_
  by_cases hi : i < ks.length
  · obtain ⟨v, h1, h2⟩ := RDcs_at (ks.map D.str) 0 i (.str ks[i]) h (by rw [List.getElem?_map, List.getElem?_eq_getElem hi]; rfl)
    simp only [RD] at h2
    subst h2
    rw [Nat.zero_add, Array.getElem?_map] at h1
    rw [List.getElem?_map, List.getElem?_map, List.getElem?_eq_getElem hi, Array.getElem?_toList]
    exact h1
  · rw [List.getElem?_eq_none (by simp; omega), List.getElem?_eq_none (by simp; omega)]
theorem strV_inj {a b : List UInt8} (h : Value.string ⟨a.toArray⟩ = Value.string ⟨b.toArray⟩) : a = b := by
  injection h with h
  injection h with h
  simpa using h
/-- A map that reads so is one of the kit's. -/
theorem own_of {P : Program} {kt : TypeId} (hk : P.underlying kt = some .string) {w : World} {ok : Nat → Prop} {b : Nat} {es : Array MapEntry} {clock : Nat} {ks : List (List UInt8)} (hb : w.heap[b]? = some (.map es clock)) (hB : Births es clock) (hs : es.size = ks.length)
    (hr : RDcs w ok (es.map (·.key)) 0 (ks.map D.str)) (hl : ks.length ≤ 1000) (hkl : ∀ k ∈ ks, k.length ≤ 1000000) (hnd : ks.Nodup) :
    ∃ D0 : DataW Unit, w.ownsMap P kt anyR b ks.length D0 ∧ ks.Perm (strKeys D0) ∧ Maps.size D0 = ks.length := by
  have hkeys := keys_read hs hr
  have hrd : ∀ x ∈ es.toList, ∃ s, s ∈ ks ∧ x.key = .string ⟨s.toArray⟩ ∧ rd P kt anyR x = some (.string s, .lit (.bool true)) := by
    intro x hx
    have : x.key ∈ es.toList.map (·.key) := List.mem_map_of_mem hx
    rw [hkeys] at this
    obtain ⟨s, hsm, he⟩ := List.mem_map.1 this
    have hsl := hkl s hsm
    refine ⟨s, hsm, he.symm, ?_⟩
    have hko : keyOf P kt x.key = some (.string s) := by
      rw [← he]
      simp [keyOf, hk, mapKey, ByteArray.size, maxLen]
      omega
    simp [Go.WideElems.rd, hko, anyR]
  refine ⟨_, ⟨es, clock, hb, ⟨?_, ⟨?_, ?_, ?_⟩, ?_⟩, Nat.le_of_eq hs, rfl⟩, ?_, ?_⟩
  · rw [hs]; simp [maxLen]; omega
  · intro x hx
    obtain ⟨i, hi⟩ := List.mem_iff_getElem?.1 hx
    rw [Array.getElem?_toList] at hi
    have h1 := hB.2 i x hi
    have h2 : i < es.size := by
      rcases Nat.lt_or_ge i es.size with h' | h'
      · exact h'
      · simp [Array.getElem?_eq_none h'] at hi
    rw [h1, hB.1]; exact h2
  · rw [List.nodup_iff_pairwise_ne, List.pairwise_map, List.pairwise_iff_getElem]
    intro i j hi hj hij e
    have h1 := hB.2 i _ (by rw [← Array.getElem?_toList]; exact List.getElem?_eq_getElem hi)
    have h2 := hB.2 j _ (by rw [← Array.getElem?_toList]; exact List.getElem?_eq_getElem hj)
    omega
  · rw [hkeys]
    rw [List.nodup_iff_pairwise_ne, List.pairwise_map]
    exact (List.nodup_iff_pairwise_ne.1 hnd).imp fun h e => h (strV_inj e)
  · intro x hx
    obtain ⟨s, _, _, h⟩ := hrd x hx
    exact ⟨_, h⟩
  · have hperm : ∀ l : List (Lit × DataW Unit), (l.foldr DataW.insert []).Perm l := by
      intro l
      induction l with
      | nil => exact List.Perm.nil
      | cons x r ih => exact (Go.WideShapes.insert_perm x _).trans (List.Perm.cons x ih)
    have hp := (hperm (es.toList.map (rg P kt anyR))).map fun p => Go.strOf p.1
    have e : (es.toList.map (rg P kt anyR)).map (fun p => Go.strOf p.1) = ks := by
      rw [List.map_map]
      have : ks = (es.toList.map (·.key)).map fun v => match v with | .string b => b.data.toList | _ => [] := by
        rw [hkeys, List.map_map]
        simp [Function.comp_def]
      rw [this, List.map_map]
      refine List.map_congr_left fun x hx => ?_
      obtain ⟨s, _, h1, h2⟩ := hrd x hx
      simp only [Function.comp_apply, Go.WideElems.rg, h2, Option.getD_some, Go.strOf, h1]
    rw [e] at hp
    exact hp.symm
  · show ((es.toList.map (rg P kt anyR)).foldr DataW.insert []).length = ks.length
    have : ∀ l : List (Lit × DataW Unit), (l.foldr DataW.insert []).length = l.length := by
      intro l
      induction l with
      | nil => rfl
      | cons x r ih => simp [DataW.length_insert, ih]
    rw [this]
    simp [hs]
/-- slices.Sort's two contracts. -/
theorem sortsIn (m : Nat) : AnyZ.SortsIn Tryz.prog Tryz.sorted18_ren Fence.wide m :=
  ⟨fun blk off cap ss W hH hblk hsz => callsIn_wide.2 (AnyM.slices_Sort_string Tryz.sort34 blk off cap ss W hH hblk hsz),
   fun p cap W => callsIn_wide.2 (AnyM.slices_Sort_string_none Tryz.sort34 p cap W)⟩
/-- The keys of a map, sorted. -/
theorem sortedKeys_does (ks : List (List UInt8)) (ds : List D) (hl : ks.length ≤ 1000) (hkl : ∀ k ∈ ks, k.length ≤ 1000000) (hnd : ks.Nodup) :
    Does Tryz.prog 18 [.fn 35 [.ptr 0 0]] [.box 49 [.d (.map (ks.map D.str) ds)]] (.d (.sl ((ks.mergeSort fun x y => decide (x ≤ y)).map D.str))) [.dead] := by
  refine ⟨⟨Tryz.f18, Tryz.func18, rfl, by kernel_rfl⟩, fun cx σ w vs hgl hr hfr hp1 hp2 hpb hargs => ?_⟩
  have ho := hr.own 0 _ rfl
  obtain ⟨bx, K, s, c, fr, hσ, hbx, -, hvl⟩ := ho
  simp only [RVl, RV, hσ] at hvl hargs
  obtain ⟨mv, us, hc, hmv, hus⟩ := hvl
  obtain ⟨fv, us2, hvs, ⟨c2, rfl, pv, us3, hc2, ⟨b', K', s', hb', rfl⟩, hus3⟩, hus2⟩ := hargs
  cases hb'
  subst hus2 hus3 hus
  obtain rfl : vs = #[.func (.func 35) #[] #[.pointer (some ⟨bx, 0, none⟩)]] := by
    obtain rfl : c2 = #[.pointer (some ⟨bx, 0, none⟩)] := by cases c2; simp_all
    cases vs; simp_all
  have hlt : bx < w.heap.size := by
    rcases Nat.lt_or_ge bx w.heap.size with h' | h'
    · exact h'
    · simp [Array.getElem?_eq_none h'] at hbx
  have hcell : w.cell? ⟨bx, 0, none⟩ = some mv := by
    have : c[0]? = some mv := by
      have := congrArg (·[0]?) hc
      simpa using this
    simpa [World.cell?, hbx] using this
  simp only [RD] at hmv
  have hend : ∀ (e : Ending) (w' : World), (∃ (v : Value) (ss : List (List UInt8)), e = .returned v ∧ ss.Perm ks ∧ w'.ownsRow w.heap.size 9 1 v ss.length ((ss.mergeSort (fun x y => decide (x ≤ y))).map encStr) ∧ Below w.heap.size w w') →
      ∃ v, e = .returned v ∧ ∃ σ', HR cx (hvL [O.dead]) σ' w' ∧ (∀ i l, i < 1 → σ i = some l → σ' i = some l) ∧ (∀ i, 1 ≤ i → σ' i = none) ∧ RV w' (okB cx w' (hvL [O.dead]) σ') σ' (.d (.sl ((ks.mergeSort fun x y => decide (x ≤ y)).map D.str))) v := by
    rintro e w' ⟨v, ss, rfl, hp, hrow, hb⟩
    refine ⟨v, rfl, σ, ?_, fun i l _ h => h, hfr, ?_⟩
    · constructor
      · rw [hb.os]; exact hr.os
      · rw [hb.tape]; exact hr.tape
      · rw [hb.output]; exact hr.output
      · exact Nat.le_trans hr.size hb.size
      · intro b h1 h2; rw [hb.block b (Nat.lt_of_lt_of_le h1 hr.size)]; exact hr.frame b h1 h2
      · intro i o ho
        exfalso
        rcases i with _ | i
        · simp [hvL, O.lv] at ho
        · simp [hvL, O.lv] at ho
      · intro i o b K s ho
        exfalso
        rcases i with _ | i
        · simp [hvL, O.lv] at ho
        · simp [hvL, O.lv] at ho
      · intro i j o o' b K s K' s' ho
        exfalso
        rcases i with _ | i
        · simp [hvL, O.lv] at ho
        · simp [hvL, O.lv] at ho
    · have hms := mergeSort_of_perm hp
      rw [show (ss.mergeSort fun x y => decide (x ≤ y)) = ks.mergeSort fun x y => decide (x ≤ y) from hms] at hrow
      simp only [RV, RD]
      rcases hrow.2 with ⟨rfl, hz⟩ | ⟨g, cap, cur, rfl, hbase, hgb, r1, r2, r3, r4⟩
      · have h0 : ks = [] := by
          have := hp.length_eq
          rw [hz] at this
          exact List.eq_nil_of_length_eq_zero this.symm
        subst h0
        exact ⟨none, 0, 0, rfl, by simp, by omega, .inl (by simp)⟩
      · refine ⟨_, _, _, rfl, by simp [hp.length_eq], r1, .inr ⟨g, 0, cur, _, _, 1, rfl, ⟨.inr (Nat.le_trans hr.size hbase), ?_, ?_⟩, hgb, ?_⟩⟩
        · rcases Nat.lt_or_ge g w'.heap.size with h' | h'
          · exact h'
          · simp [Array.getElem?_eq_none h'] at hgb
        · intro id o K s ho
          rcases id with _ | id
          · simp [hvL, O.lv] at ho
          · simp [hvL, O.lv] at ho
        · have hq : ∀ (zs : List (List UInt8)) (pre : List Value) (cu : Array Value), cu.toList.take (pre.length + zs.length) = pre ++ zs.map encStr → RDels w' (okB cx w' (hvL [O.dead]) σ) cu 1 pre.length (zs.map D.str) := by
            intro zs
            induction zs with
            | nil => intro pre cu _; simp [RDels]
            | cons z zs ih =>
              intro pre cu h
              have h2 := ih (pre ++ [encStr z]) cu (by simpa [Nat.add_assoc, Nat.add_comm 1] using h)
              simp only [List.length_append, List.length_cons, List.length_nil] at h2
              simp only [List.map_cons, RDels]
              refine ⟨⟨encStr z, ?_, by simp only [RD, encStr]⟩, h2⟩
              have h3 : cu[pre.length]? = some (encStr z) := by
                have := congrArg (·[pre.length]?) h
                rw [List.getElem?_take] at this
                simpa using this
              exact ⟨rfl, h3⟩
          have hl2 : (ks.mergeSort fun x y => decide (x ≤ y)).length = ss.length := by rw [List.length_mergeSort, hp.length_eq]
          refine hq _ [] cur ?_
          rw [List.length_nil, Nat.zero_add, hl2]
          simpa using r4
  have hfin : ∀ (S : List (List UInt8) → Prop) (N : Nat), (∀ ss, S ss → ss.Perm ks) → N ≤ maxLen → N * 16 ≤ 140737488355328 → SeqGives Fence.wide 2 Tryz.prog 35 #[.pointer (some ⟨bx, 0, none⟩)] encStr S N w →
      Calls Tryz.prog 18 #[.func (.func 35) #[] #[.pointer (some ⟨bx, 0, none⟩)]] w fun e w' => ∃ v, e = .returned v ∧ ∃ σ', HR cx (hvL [O.dead]) σ' w' ∧ (∀ i l, i < 1 → σ i = some l → σ' i = some l) ∧ (∀ i, 1 ≤ i → σ' i = none) ∧ RV w' (okB cx w' (hvL [O.dead]) σ') σ' (.d (.sl ((ks.mergeSort fun x y => decide (x ≤ y)).map D.str))) v := by
    intro S N hS hN hN2 hseq
    refine (callsIn_wide (n := 5)).1 ?_
    refine (AnyZ.sorted_in Tryz.sorted18 Fence.wide 5 trivial trivial trivial trivial rfl (by omega) (sortsIn _) (enters_of Tryz.func34 (by kernel_rfl) rfl) 35 #[.pointer (some ⟨bx, 0, none⟩)] trivial (enters_of Tryz.func35 (by kernel_rfl) rfl) S N hN hN2 w hseq).mono ?_
    rintro e w' ⟨v, ss, rfl, hSs, hrow, _, hb⟩
    exact hend _ _ ⟨v, ss, rfl, hS _ hSs, hrow, hb⟩
  obtain ⟨r, rfl, hmap⟩ := hmv
  rcases hmap with ⟨rfl, hks, -⟩ | ⟨b, es, clock, rfl, hokb, hbm, hB, hsz, -, hk, -⟩
  · have h0 : ks = [] := by simpa using hks
    subst h0
    refine hfin (fun ss => ss = []) 0 (fun ss h => by rw [h]) (Nat.zero_le _) (by omega) ?_
    exact AnyZ.keys_gives_nil (ρ := Tryz.keys19_ren) { Tryz.keys19 with } Fence.wide _ trivial rfl bx _ hlt hcell
  · obtain ⟨D0, hown, hperm, hsize⟩ := own_of (P := Tryz.prog) (kt := 9) Tryz.underlying9 hbm hB (by simpa using hsz) hk hl hkl hnd
    refine hfin (fun ss => ss.Perm (strKeys D0)) (Maps.size D0) (fun ss h => h.trans hperm.symm) (by rw [hsize]; simp [maxLen]; omega) (by rw [hsize]; omega) ?_
    exact AnyZ.keys_gives (ρ := Tryz.keys19_ren) { Tryz.keys19 with } Fence.wide _ trivial rfl (by omega) bx b ks.length D0 _ hlt hcell hown
end Go.AX

namespace Go.AX
open Go Go.Proofs Go.RowKit
theorem mapsKeys_any (ks vs : List D) : Does Tryz.prog 19 [.d (.map ks vs)] [] (.fn 35 [.ptr 0 0]) [.box 49 [.d (.map ks vs)]] := by
  refine Does.of_AW (n := 4) Tryz.func19 rfl rfl rfl fun cx hcx => ?_
  repeat' (first | (refine AW.sreg rfl fun K hK => ?_; simp only [go_sem, Nat.reduceAdd, Nat.reduceMul, Int.reduceToNat, Nat.reduceLT, Nat.reduceLeDiff, Nat.le_refl, Nat.reduceEqDiff, ↓reduceIte, beq_self_eq_true, bne_self_eq_false, Int.reduceBEq, Int.reduceBNe, or_self, true_or, or_true, Option.map_some, Option.map_none]) | (refine AW.sregD hmix rfl fun K hK => ?_; simp only [go_sem, Nat.reduceAdd, Nat.reduceMul, Int.reduceToNat, Nat.reduceLT, Nat.reduceLeDiff, Nat.le_refl, Nat.reduceEqDiff, ↓reduceIte, beq_self_eq_true, bne_self_eq_false, Int.reduceBEq, Int.reduceBNe, or_self, true_or, or_true, Option.map_some, Option.map_none]) | (refine AW.reg rfl ?_; simp only [go_sem, Nat.reduceAdd, Nat.reduceMul, Int.reduceToNat, Nat.reduceLT, Nat.reduceLeDiff, Nat.le_refl, Nat.reduceEqDiff, ↓reduceIte, beq_self_eq_true, bne_self_eq_false, Int.reduceBEq, Int.reduceBNe, or_self, true_or, or_true, Option.map_some, Option.map_none]) | (refine AW.regD hmix rfl ?_; simp only [go_sem, Nat.reduceAdd, Nat.reduceMul, Int.reduceToNat, Nat.reduceLT, Nat.reduceLeDiff, Nat.le_refl, Nat.reduceEqDiff, ↓reduceIte, beq_self_eq_true, bne_self_eq_false, Int.reduceBEq, Int.reduceBNe, or_self, true_or, or_true, Option.map_some, Option.map_none]) | (refine AW.seq_k fun K hK => ?_) | (refine AW.block ?_) | (refine AW.skip ?_; simp only [Then, InBlock]) | (refine AW.exit ?_; simp only [go_sem, ↓reduceIte]) | (refine AW.condT rfl (by first | rfl | (simp; omega) | (simp [*]; done) | fail) ?_) | (refine AW.condF rfl (by first | rfl | (simp; omega) | (simp [*]; done) | fail) ?_) | (refine AW.cond rfl (fun h => ?_) (fun h => ?_) <;> (try simp only [decide_eq_true_eq, decide_eq_false_iff_not, Bool.not_eq_true', Bool.not_eq_false', Bool.not_eq_eq_eq_not, Bool.not_true, Bool.not_false, beq_iff_eq, bne_iff_ne, beq_eq_false_iff_ne, ne_eq, Bool.and_eq_true, Bool.or_eq_true, Bool.or_eq_false_iff] at h)) | (refine hK _ ?_; clear hK K) | (clear hK K; refine hK _ ?_; clear hK K) | (clear hK K; clear hK K; refine hK _ ?_; clear hK K) | (clear hK K; clear hK K; clear hK K; refine hK _ ?_; clear hK K) | (refine stepB_split (fun h => ?_) (fun h => ?_) <;> (have hb0 := h) <;> (try simp only [Bool.not_eq_true', Bool.not_eq_false'] at hb0) <;> (try simp only [decide_eq_true_eq, decide_eq_false_iff_not, Bool.not_eq_true', Bool.not_eq_false', Bool.not_eq_eq_eq_not, Bool.not_true, Bool.not_false, beq_iff_eq, bne_iff_ne, beq_eq_false_iff_ne, ne_eq, Bool.and_eq_true, Bool.or_eq_true, Bool.or_eq_false_iff] at h) <;> simp only [go_sem, Nat.reduceAdd, Nat.reduceMul, Int.reduceToNat, Nat.reduceLT, Nat.reduceLeDiff, Nat.le_refl, Nat.reduceEqDiff, ↓reduceIte, beq_self_eq_true, bne_self_eq_false, Int.reduceBEq, Int.reduceBNe, or_self, true_or, or_true, Option.map_some, Option.map_none, hb0, h, decide_true, decide_false] <;> (try clear hb0)) | (refine stepBT_split (fun h => ?_) (fun h => ?_) <;> (have hb0 := h) <;> (try simp only [Bool.not_eq_true', Bool.not_eq_false'] at hb0) <;> (try simp only [decide_eq_true_eq, decide_eq_false_iff_not, Bool.not_eq_true', Bool.not_eq_false', Bool.not_eq_eq_eq_not, Bool.not_true, Bool.not_false, beq_iff_eq, bne_iff_ne, beq_eq_false_iff_ne, ne_eq, Bool.and_eq_true, Bool.or_eq_true, Bool.or_eq_false_iff] at h) <;> simp only [go_sem, Nat.reduceAdd, Nat.reduceMul, Int.reduceToNat, Nat.reduceLT, Nat.reduceLeDiff, Nat.le_refl, Nat.reduceEqDiff, ↓reduceIte, beq_self_eq_true, bne_self_eq_false, Int.reduceBEq, Int.reduceBNe, or_self, true_or, or_true, Option.map_some, Option.map_none, hb0, h, decide_true, decide_false] <;> (try clear hb0)) | (with_reducible refine And.intro (?_ : regOk _ _ = true) ?_; kernel_rfl) | (with_reducible refine And.intro ?_ ?_; first | omega | assumption | (focus (decide)) | (focus (simp; done)) | (focus (simp; omega)) | (focus (constructor <;> omega)) | fail) | (exfalso; omega))
  exact AW.ret (Fin.objs [0] rfl (by simp [go_sem, inI, gI]) ⟨⟨_, rfl, by simp [go_sem, inI, gI]⟩, trivial⟩ (by simp) rfl (by simp [go_sem]) (by simp [go_sem]) rfl)
def inW (te mo : Int) (x : Rp) : Bool := !((decide (x.2.1 < 0) || decide (te ≤ x.2.1)) || decide (mo < (x.2.2.length : Int)))
abbrev rlD (te mo : Int) : D := .agg [.int .i64 0, .int .i64 te, .int .i64 mo]
theorem fnd_none {ch : List Rp} {k : Str} (h : k ∉ ch.map (·.1)) : fndK (.str k) (ch.map fun c => D.str c.1) = some none := by
  have : (ch.map fun c => D.str c.1) = (ch.map (·.1)).map D.str := by simp
  rw [this, fndK_str, findIdx_none h]
theorem fnd_at {ch : List Rp} {j : Nat} {c : Rp} (hn : (ch.map (·.1)).Nodup) (h : ch[j]? = some c) : fndK (.str c.1) (ch.map fun c => D.str c.1) = some (some j) := by
  have : (ch.map fun c => D.str c.1) = (ch.map (·.1)).map D.str := by simp
  rw [this, fndK_str, findIdx_at (j := j) hn (by rw [List.getElem?_map, h]; rfl)]
theorem toDL_dvF {F : V → Option D} (h : ∀ x : D, F (.d x) = some x) : ∀ xs : List D, toDL F (dv xs) = some xs
  | [] => rfl
  | x :: xs => by
    have := toDL_dvF h xs
    simp only [dv] at this
    simp only [dv, List.map_cons, toDL, this, h]
theorem dv_set (xs : List D) (j : Nat) (x : D) : (dv xs).set j (.d x) = dv (xs.set j x) := by simp only [dv, List.map_set]
theorem stR_nodup {bm : List Rp} {x : Rp} (hn : (bm.map (·.1)).Nodup) (ha : at? x.1 bm = none) : ((bm ++ [x]).map (·.1)).Nodup := by
  rw [List.map_append, List.nodup_append]
  refine ⟨hn, by simp, ?_⟩
  rintro a hm b hb rfl
  simp only [List.map_cons, List.map_nil, List.mem_singleton] at hb
  subst hb
  exact at_none ha hm
theorem counted_no (te mo : Int) (hte : 0 ≤ te ∧ te ≤ 5761440) (hmo : 0 ≤ mo ∧ mo ≤ 6000) (xs : List Rp) (hl : xs.length ≤ 100) (hb : ∀ r ∈ xs, RpB r) (h0 : rpsF xs ≠ 0) :
    Does Tryz.prog 7 [.d (rlD te mo), .d (.sl (xs.map rpD))] [] (.tup [.nils, I (rpsF xs)]) [] := by
  have hne : (rpsF xs != 0) = true := by simpa using h0
  refine Does.of_AW (n := 118) Tryz.func7 rfl rfl rfl fun cx hcx => ?_
  repeat' (first | (refine AW.sreg rfl fun K hK => ?_; simp only [go_sem, Nat.reduceAdd, Nat.reduceMul, Int.reduceToNat, Nat.reduceLT, Nat.reduceLeDiff, Nat.le_refl, Nat.reduceEqDiff, ↓reduceIte, beq_self_eq_true, bne_self_eq_false, Int.reduceBEq, Int.reduceBNe, or_self, true_or, or_true, Option.map_some, Option.map_none, hne]) | (refine AW.sregD hmix rfl fun K hK => ?_; simp only [go_sem, Nat.reduceAdd, Nat.reduceMul, Int.reduceToNat, Nat.reduceLT, Nat.reduceLeDiff, Nat.le_refl, Nat.reduceEqDiff, ↓reduceIte, beq_self_eq_true, bne_self_eq_false, Int.reduceBEq, Int.reduceBNe, or_self, true_or, or_true, Option.map_some, Option.map_none, hne]) | (refine AW.reg rfl ?_; simp only [go_sem, Nat.reduceAdd, Nat.reduceMul, Int.reduceToNat, Nat.reduceLT, Nat.reduceLeDiff, Nat.le_refl, Nat.reduceEqDiff, ↓reduceIte, beq_self_eq_true, bne_self_eq_false, Int.reduceBEq, Int.reduceBNe, or_self, true_or, or_true, Option.map_some, Option.map_none, hne]) | (refine AW.regD hmix rfl ?_; simp only [go_sem, Nat.reduceAdd, Nat.reduceMul, Int.reduceToNat, Nat.reduceLT, Nat.reduceLeDiff, Nat.le_refl, Nat.reduceEqDiff, ↓reduceIte, beq_self_eq_true, bne_self_eq_false, Int.reduceBEq, Int.reduceBNe, or_self, true_or, or_true, Option.map_some, Option.map_none, hne]) | (refine AW.seq_k fun K hK => ?_) | (refine AW.block ?_) | (refine AW.skip ?_; simp only [Then, InBlock]) | (refine AW.exit ?_; simp only [go_sem, ↓reduceIte]) | (refine AW.condT rfl (by first | rfl | (simp; omega) | (simp [*]; done) | fail) ?_) | (refine AW.condF rfl (by first | rfl | (simp; omega) | (simp [*]; done) | fail) ?_) | (refine AW.cond rfl (fun h => ?_) (fun h => ?_) <;> (try simp only [decide_eq_true_eq, decide_eq_false_iff_not, Bool.not_eq_true', Bool.not_eq_false', Bool.not_eq_eq_eq_not, Bool.not_true, Bool.not_false, beq_iff_eq, bne_iff_ne, beq_eq_false_iff_ne, ne_eq, Bool.and_eq_true, Bool.or_eq_true, Bool.or_eq_false_iff] at h)) | (refine hK _ ?_; clear hK K) | (clear hK K; refine hK _ ?_; clear hK K) | (clear hK K; clear hK K; refine hK _ ?_; clear hK K) | (clear hK K; clear hK K; clear hK K; refine hK _ ?_; clear hK K) | (refine stepB_split (fun h => ?_) (fun h => ?_) <;> (have hb0 := h) <;> (try simp only [Bool.not_eq_true', Bool.not_eq_false'] at hb0) <;> (try simp only [decide_eq_true_eq, decide_eq_false_iff_not, Bool.not_eq_true', Bool.not_eq_false', Bool.not_eq_eq_eq_not, Bool.not_true, Bool.not_false, beq_iff_eq, bne_iff_ne, beq_eq_false_iff_ne, ne_eq, Bool.and_eq_true, Bool.or_eq_true, Bool.or_eq_false_iff] at h) <;> simp only [go_sem, Nat.reduceAdd, Nat.reduceMul, Int.reduceToNat, Nat.reduceLT, Nat.reduceLeDiff, Nat.le_refl, Nat.reduceEqDiff, ↓reduceIte, beq_self_eq_true, bne_self_eq_false, Int.reduceBEq, Int.reduceBNe, or_self, true_or, or_true, Option.map_some, Option.map_none, hb0, h, decide_true, decide_false, hne] <;> (try clear hb0)) | (refine stepBT_split (fun h => ?_) (fun h => ?_) <;> (have hb0 := h) <;> (try simp only [Bool.not_eq_true', Bool.not_eq_false'] at hb0) <;> (try simp only [decide_eq_true_eq, decide_eq_false_iff_not, Bool.not_eq_true', Bool.not_eq_false', Bool.not_eq_eq_eq_not, Bool.not_true, Bool.not_false, beq_iff_eq, bne_iff_ne, beq_eq_false_iff_ne, ne_eq, Bool.and_eq_true, Bool.or_eq_true, Bool.or_eq_false_iff] at h) <;> simp only [go_sem, Nat.reduceAdd, Nat.reduceMul, Int.reduceToNat, Nat.reduceLT, Nat.reduceLeDiff, Nat.le_refl, Nat.reduceEqDiff, ↓reduceIte, beq_self_eq_true, bne_self_eq_false, Int.reduceBEq, Int.reduceBNe, or_self, true_or, or_true, Option.map_some, Option.map_none, hb0, h, decide_true, decide_false, hne] <;> (try clear hb0)) | (with_reducible refine And.intro (?_ : regOk _ _ = true) ?_; kernel_rfl) | (refine run_call _ _ _ ((outside_any _ _ _).pure rfl rfl _ _) rfl rfl (dstOk_of rfl) rfl rfl rfl ?_; simp only [go_sem, Nat.reduceAdd, Nat.reduceMul, Int.reduceToNat, Nat.reduceLT, Nat.reduceLeDiff, Nat.le_refl, Nat.reduceEqDiff, ↓reduceIte, beq_self_eq_true, bne_self_eq_false, Int.reduceBEq, Int.reduceBNe, or_self, true_or, or_true, Option.map_some, Option.map_none, hne]) | (refine runT_call _ _ [] (fun hv _ => (outside_any _ _ _).pure rfl rfl hv _) rfl rfl (dstOk_of rfl) rfl rfl ?_; simp only [go_sem, Nat.reduceAdd, Nat.reduceMul, Int.reduceToNat, Nat.reduceLT, Nat.reduceLeDiff, Nat.le_refl, Nat.reduceEqDiff, ↓reduceIte, beq_self_eq_true, bne_self_eq_false, Int.reduceBEq, Int.reduceBNe, or_self, true_or, or_true, Option.map_some, Option.map_none, hne]) | (refine run_call _ _ _ ((checkReplies_any xs (by omega) hb).pure rfl rfl _ _) rfl rfl (dstOk_of rfl) rfl rfl rfl ?_; simp only [go_sem, Nat.reduceAdd, Nat.reduceMul, Int.reduceToNat, Nat.reduceLT, Nat.reduceLeDiff, Nat.le_refl, Nat.reduceEqDiff, ↓reduceIte, beq_self_eq_true, bne_self_eq_false, Int.reduceBEq, Int.reduceBNe, or_self, true_or, or_true, Option.map_some, Option.map_none, hne]) | (refine runT_call _ _ [] (fun hv _ => (checkReplies_any xs (by omega) hb).pure rfl rfl hv _) rfl rfl (dstOk_of rfl) rfl rfl ?_; simp only [go_sem, Nat.reduceAdd, Nat.reduceMul, Int.reduceToNat, Nat.reduceLT, Nat.reduceLeDiff, Nat.le_refl, Nat.reduceEqDiff, ↓reduceIte, beq_self_eq_true, bne_self_eq_false, Int.reduceBEq, Int.reduceBNe, or_self, true_or, or_true, Option.map_some, Option.map_none, hne]) | (with_reducible refine And.intro ?_ ?_; first | omega | assumption | (focus (decide)) | (focus (simp; done)) | (focus (simp; omega)) | (focus (constructor <;> omega)) | fail) | (refine AW.ret (Fin.data rfl (by first | (simp only [go_sem]; done) | (simp [go_sem, *]; done) | (simp [go_sem]; omega) | rfl) rfl)) | (refine AW.ret (Fin.one rfl (by first | (simp only [go_sem]; done) | (simp [go_sem, *]; done) | (simp [go_sem]; omega) | fail) ⟨_, rfl, by first | (simp only [go_sem]; done) | (simp [go_sem, *]; done) | fail⟩ rfl rfl rfl)) | (exfalso; omega))
theorem counted_ok (te mo : Int) (hte : 0 ≤ te ∧ te ≤ 5761440) (hmo : 0 ≤ mo ∧ mo ≤ 6000) (xs : List Rp) (hl : xs.length ≤ 100) (hb : ∀ r ∈ xs, RpB r) (h0 : rpsF xs = 0) :
    Does Tryz.prog 7 [.d (rlD te mo), .d (.sl (xs.map rpD))] [] (.tup [.d (.sl ((cntd (inW te mo) xs).map rpD)), I 0]) [] := by
  have hcr := checkReplies_any xs (by omega) hb
  rw [h0] at hcr
  refine Does.of_AW (n := 118) Tryz.func7 rfl rfl rfl fun cx hcx => ?_
  repeat' (first | (refine AW.sreg rfl fun K hK => ?_; simp only [go_sem, Nat.reduceAdd, Nat.reduceMul, Int.reduceToNat, Nat.reduceLT, Nat.reduceLeDiff, Nat.le_refl, Nat.reduceEqDiff, ↓reduceIte, beq_self_eq_true, bne_self_eq_false, Int.reduceBEq, Int.reduceBNe, or_self, true_or, or_true, Option.map_some, Option.map_none, List.length_map]) | (refine AW.sregD hmix rfl fun K hK => ?_; simp only [go_sem, Nat.reduceAdd, Nat.reduceMul, Int.reduceToNat, Nat.reduceLT, Nat.reduceLeDiff, Nat.le_refl, Nat.reduceEqDiff, ↓reduceIte, beq_self_eq_true, bne_self_eq_false, Int.reduceBEq, Int.reduceBNe, or_self, true_or, or_true, Option.map_some, Option.map_none, List.length_map]) | (refine AW.reg rfl ?_; simp only [go_sem, Nat.reduceAdd, Nat.reduceMul, Int.reduceToNat, Nat.reduceLT, Nat.reduceLeDiff, Nat.le_refl, Nat.reduceEqDiff, ↓reduceIte, beq_self_eq_true, bne_self_eq_false, Int.reduceBEq, Int.reduceBNe, or_self, true_or, or_true, Option.map_some, Option.map_none, List.length_map]) | (refine AW.regD hmix rfl ?_; simp only [go_sem, Nat.reduceAdd, Nat.reduceMul, Int.reduceToNat, Nat.reduceLT, Nat.reduceLeDiff, Nat.le_refl, Nat.reduceEqDiff, ↓reduceIte, beq_self_eq_true, bne_self_eq_false, Int.reduceBEq, Int.reduceBNe, or_self, true_or, or_true, Option.map_some, Option.map_none, List.length_map]) | (refine AW.seq_k fun K hK => ?_) | (refine AW.block ?_) | (refine AW.skip ?_; simp only [Then, InBlock]) | (refine AW.exit ?_; simp only [go_sem, ↓reduceIte]) | (refine AW.condT rfl (by first | rfl | (simp; omega) | (simp [*]; done) | fail) ?_) | (refine AW.condF rfl (by first | rfl | (simp; omega) | (simp [*]; done) | fail) ?_) | (refine AW.cond rfl (fun h => ?_) (fun h => ?_) <;> (try simp only [decide_eq_true_eq, decide_eq_false_iff_not, Bool.not_eq_true', Bool.not_eq_false', Bool.not_eq_eq_eq_not, Bool.not_true, Bool.not_false, beq_iff_eq, bne_iff_ne, beq_eq_false_iff_ne, ne_eq, Bool.and_eq_true, Bool.or_eq_true, Bool.or_eq_false_iff] at h)) | (refine hK _ ?_; clear hK K) | (clear hK K; refine hK _ ?_; clear hK K) | (clear hK K; clear hK K; refine hK _ ?_; clear hK K) | (clear hK K; clear hK K; clear hK K; refine hK _ ?_; clear hK K) | (refine stepB_split (fun h => ?_) (fun h => ?_) <;> (have hb0 := h) <;> (try simp only [Bool.not_eq_true', Bool.not_eq_false'] at hb0) <;> (try simp only [decide_eq_true_eq, decide_eq_false_iff_not, Bool.not_eq_true', Bool.not_eq_false', Bool.not_eq_eq_eq_not, Bool.not_true, Bool.not_false, beq_iff_eq, bne_iff_ne, beq_eq_false_iff_ne, ne_eq, Bool.and_eq_true, Bool.or_eq_true, Bool.or_eq_false_iff] at h) <;> simp only [go_sem, Nat.reduceAdd, Nat.reduceMul, Int.reduceToNat, Nat.reduceLT, Nat.reduceLeDiff, Nat.le_refl, Nat.reduceEqDiff, ↓reduceIte, beq_self_eq_true, bne_self_eq_false, Int.reduceBEq, Int.reduceBNe, or_self, true_or, or_true, Option.map_some, Option.map_none, hb0, h, decide_true, decide_false, List.length_map] <;> (try clear hb0)) | (refine stepBT_split (fun h => ?_) (fun h => ?_) <;> (have hb0 := h) <;> (try simp only [Bool.not_eq_true', Bool.not_eq_false'] at hb0) <;> (try simp only [decide_eq_true_eq, decide_eq_false_iff_not, Bool.not_eq_true', Bool.not_eq_false', Bool.not_eq_eq_eq_not, Bool.not_true, Bool.not_false, beq_iff_eq, bne_iff_ne, beq_eq_false_iff_ne, ne_eq, Bool.and_eq_true, Bool.or_eq_true, Bool.or_eq_false_iff] at h) <;> simp only [go_sem, Nat.reduceAdd, Nat.reduceMul, Int.reduceToNat, Nat.reduceLT, Nat.reduceLeDiff, Nat.le_refl, Nat.reduceEqDiff, ↓reduceIte, beq_self_eq_true, bne_self_eq_false, Int.reduceBEq, Int.reduceBNe, or_self, true_or, or_true, Option.map_some, Option.map_none, hb0, h, decide_true, decide_false, List.length_map] <;> (try clear hb0)) | (with_reducible refine And.intro (?_ : regOk _ _ = true) ?_; kernel_rfl) | (refine run_call _ _ _ ((outside_any _ _ _).pure rfl rfl _ _) rfl rfl (dstOk_of rfl) rfl rfl rfl ?_; simp only [go_sem, Nat.reduceAdd, Nat.reduceMul, Int.reduceToNat, Nat.reduceLT, Nat.reduceLeDiff, Nat.le_refl, Nat.reduceEqDiff, ↓reduceIte, beq_self_eq_true, bne_self_eq_false, Int.reduceBEq, Int.reduceBNe, or_self, true_or, or_true, Option.map_some, Option.map_none, List.length_map]) | (refine runT_call _ _ [] (fun hv _ => (outside_any _ _ _).pure rfl rfl hv _) rfl rfl (dstOk_of rfl) rfl rfl ?_; simp only [go_sem, Nat.reduceAdd, Nat.reduceMul, Int.reduceToNat, Nat.reduceLT, Nat.reduceLeDiff, Nat.le_refl, Nat.reduceEqDiff, ↓reduceIte, beq_self_eq_true, bne_self_eq_false, Int.reduceBEq, Int.reduceBNe, or_self, true_or, or_true, Option.map_some, Option.map_none, List.length_map]) | (refine run_call _ _ _ ((hcr).pure rfl rfl _ _) rfl rfl (dstOk_of rfl) rfl rfl rfl ?_; simp only [go_sem, Nat.reduceAdd, Nat.reduceMul, Int.reduceToNat, Nat.reduceLT, Nat.reduceLeDiff, Nat.le_refl, Nat.reduceEqDiff, ↓reduceIte, beq_self_eq_true, bne_self_eq_false, Int.reduceBEq, Int.reduceBNe, or_self, true_or, or_true, Option.map_some, Option.map_none, List.length_map]) | (refine runT_call _ _ [] (fun hv _ => (hcr).pure rfl rfl hv _) rfl rfl (dstOk_of rfl) rfl rfl ?_; simp only [go_sem, Nat.reduceAdd, Nat.reduceMul, Int.reduceToNat, Nat.reduceLT, Nat.reduceLeDiff, Nat.le_refl, Nat.reduceEqDiff, ↓reduceIte, beq_self_eq_true, bne_self_eq_false, Int.reduceBEq, Int.reduceBNe, or_self, true_or, or_true, Option.map_some, Option.map_none, List.length_map]) | (with_reducible refine And.intro ?_ ?_; first | omega | assumption | (focus (decide)) | (focus (simp; done)) | (focus (simp; omega)) | (focus (constructor <;> omega)) | fail) | (exfalso; omega))
  generalize hBM : xs.foldl (stR (inW te mo)) [] = BM
  refine AW.loopF (ι := Nat × List Rp) [2, 7, 39, 40] (fun p => [(41, I p.1)]) (fun p => [(0, some (O.box 30 [I 0, I te, I mo])), (1664, some (O.map (p.2.map fun r => D.str r.1) (dv (p.2.map rpD))))]) 31 (fun p => p.1 ≤ xs.length ∧ p.2.length ≤ p.1 ∧ (p.2.map (·.1)).Nodup ∧ (xs.drop p.1).foldl (stR (inW te mo)) p.2 = BM ∧ ∀ r ∈ p.2, RpB r) (fun p => xs.length - p.1) (0, []) ⟨by simp, by simp, by simp, by simpa using hBM, by simp⟩ (Weak.auto hcx rfl rfl (Nat.le_of_ble_eq_true rfl) (by simp [go_sem, gL, kL, renOf, V.obj, lk, Nat.blt, Nat.ble, List.map_append, dv_push]) (by simp [go_sem, gL, kL, renOf, V.obj, lk, Nat.blt, Nat.ble, List.map_append, dv_push]) (by first | (intro i hi; exact absurd hi (Nat.not_lt_zero _)) | (intro i0 hi0; match i0, hi0 with | 0, _ => exact ⟨_, rfl⟩ | n0+1, h0 => exact absurd h0 (Nat.not_lt.2 (Nat.le_add_left 1 n0))) | (intro i0 hi0; match i0, hi0 with | 0, _ => exact ⟨_, rfl⟩ | 1, _ => exact ⟨_, rfl⟩ | n0+2, h0 => exact absurd h0 (Nat.not_lt.2 (Nat.le_add_left 2 n0))) | (intro i0 hi0; match i0, hi0 with | 0, _ => exact ⟨_, rfl⟩ | 1, _ => exact ⟨_, rfl⟩ | 2, _ => exact ⟨_, rfl⟩ | n0+3, h0 => exact absurd h0 (Nat.not_lt.2 (Nat.le_add_left 3 n0))) | (intro i0 hi0; match i0, hi0 with | 0, _ => exact ⟨_, rfl⟩ | 1, _ => exact ⟨_, rfl⟩ | 2, _ => exact ⟨_, rfl⟩ | 3, _ => exact ⟨_, rfl⟩ | n0+4, h0 => exact absurd h0 (Nat.not_lt.2 (Nat.le_add_left 4 n0)))) (by simp [go_sem, gL, kL, lk, renOf, V.obj, Nat.blt, Nat.ble])) ?_; simp only [St.at_nil, St.at_cons, lk, Nat.reduceEqDiff, ↓reduceIte, Option.getD_some, Option.getD_none, List.cons_append, List.nil_append, List.append_nil]
  rintro ⟨i, bm⟩ ⟨g1, g2, g3, g4, g5⟩
  simp only at g1 g2 g3 g4 g5 ⊢
  by_cases hi : i < xs.length
  · obtain ⟨x, hx, hxm, hxd⟩ := get_some hi
    have hget : (xs.map rpD)[i]? = some (rpD x) := by simp [hx]
    rw [hxd, List.foldl_cons] at g4
    cases ha : at? x.1 bm with
    | none =>
      have hf := fnd_none (at_none ha)
      repeat' (first | (refine AW.sreg rfl fun K hK => ?_; simp only [go_sem, Nat.reduceAdd, Nat.reduceMul, Int.reduceToNat, Nat.reduceLT, Nat.reduceLeDiff, Nat.le_refl, Nat.reduceEqDiff, ↓reduceIte, beq_self_eq_true, bne_self_eq_false, Int.reduceBEq, Int.reduceBNe, or_self, true_or, or_true, Option.map_some, Option.map_none, List.length_map, hget, hf]) | (refine AW.sregD hmix rfl fun K hK => ?_; simp only [go_sem, Nat.reduceAdd, Nat.reduceMul, Int.reduceToNat, Nat.reduceLT, Nat.reduceLeDiff, Nat.le_refl, Nat.reduceEqDiff, ↓reduceIte, beq_self_eq_true, bne_self_eq_false, Int.reduceBEq, Int.reduceBNe, or_self, true_or, or_true, Option.map_some, Option.map_none, List.length_map, hget, hf]) | (refine AW.reg rfl ?_; simp only [go_sem, Nat.reduceAdd, Nat.reduceMul, Int.reduceToNat, Nat.reduceLT, Nat.reduceLeDiff, Nat.le_refl, Nat.reduceEqDiff, ↓reduceIte, beq_self_eq_true, bne_self_eq_false, Int.reduceBEq, Int.reduceBNe, or_self, true_or, or_true, Option.map_some, Option.map_none, List.length_map, hget, hf]) | (refine AW.regD hmix rfl ?_; simp only [go_sem, Nat.reduceAdd, Nat.reduceMul, Int.reduceToNat, Nat.reduceLT, Nat.reduceLeDiff, Nat.le_refl, Nat.reduceEqDiff, ↓reduceIte, beq_self_eq_true, bne_self_eq_false, Int.reduceBEq, Int.reduceBNe, or_self, true_or, or_true, Option.map_some, Option.map_none, List.length_map, hget, hf]) | (refine AW.seq_k fun K hK => ?_) | (refine AW.block ?_) | (refine AW.skip ?_; simp only [Then, InBlock]) | (refine AW.exit ?_; simp only [go_sem, ↓reduceIte]) | (refine AW.condT rfl (by first | rfl | (simp; omega) | (simp [*]; done) | fail) ?_) | (refine AW.condF rfl (by first | rfl | (simp; omega) | (simp [*]; done) | fail) ?_) | (refine AW.cond rfl (fun h => ?_) (fun h => ?_) <;> (try simp only [decide_eq_true_eq, decide_eq_false_iff_not, Bool.not_eq_true', Bool.not_eq_false', Bool.not_eq_eq_eq_not, Bool.not_true, Bool.not_false, beq_iff_eq, bne_iff_ne, beq_eq_false_iff_ne, ne_eq, Bool.and_eq_true, Bool.or_eq_true, Bool.or_eq_false_iff] at h)) | (refine hK _ ?_; clear hK K) | (clear hK K; refine hK _ ?_; clear hK K) | (clear hK K; clear hK K; refine hK _ ?_; clear hK K) | (clear hK K; clear hK K; clear hK K; refine hK _ ?_; clear hK K) | (refine stepB_split (fun h => ?_) (fun h => ?_) <;> (have hb0 := h) <;> (try simp only [Bool.not_eq_true', Bool.not_eq_false'] at hb0) <;> (try simp only [decide_eq_true_eq, decide_eq_false_iff_not, Bool.not_eq_true', Bool.not_eq_false', Bool.not_eq_eq_eq_not, Bool.not_true, Bool.not_false, beq_iff_eq, bne_iff_ne, beq_eq_false_iff_ne, ne_eq, Bool.and_eq_true, Bool.or_eq_true, Bool.or_eq_false_iff] at h) <;> simp only [go_sem, Nat.reduceAdd, Nat.reduceMul, Int.reduceToNat, Nat.reduceLT, Nat.reduceLeDiff, Nat.le_refl, Nat.reduceEqDiff, ↓reduceIte, beq_self_eq_true, bne_self_eq_false, Int.reduceBEq, Int.reduceBNe, or_self, true_or, or_true, Option.map_some, Option.map_none, hb0, h, decide_true, decide_false, List.length_map, hget, hf] <;> (try clear hb0)) | (refine stepBT_split (fun h => ?_) (fun h => ?_) <;> (have hb0 := h) <;> (try simp only [Bool.not_eq_true', Bool.not_eq_false'] at hb0) <;> (try simp only [decide_eq_true_eq, decide_eq_false_iff_not, Bool.not_eq_true', Bool.not_eq_false', Bool.not_eq_eq_eq_not, Bool.not_true, Bool.not_false, beq_iff_eq, bne_iff_ne, beq_eq_false_iff_ne, ne_eq, Bool.and_eq_true, Bool.or_eq_true, Bool.or_eq_false_iff] at h) <;> simp only [go_sem, Nat.reduceAdd, Nat.reduceMul, Int.reduceToNat, Nat.reduceLT, Nat.reduceLeDiff, Nat.le_refl, Nat.reduceEqDiff, ↓reduceIte, beq_self_eq_true, bne_self_eq_false, Int.reduceBEq, Int.reduceBNe, or_self, true_or, or_true, Option.map_some, Option.map_none, hb0, h, decide_true, decide_false, List.length_map, hget, hf] <;> (try clear hb0)) | (with_reducible refine And.intro (?_ : regOk _ _ = true) ?_; kernel_rfl) | (with_reducible refine And.intro ?_ ?_; first | omega | assumption | (focus (decide)) | (focus (simp; done)) | (focus (simp; omega)) | (focus (constructor <;> omega)) | fail) | (exfalso; omega))
      all_goals first
        | (have hw : inW te mo x = false := by simp [inW]; omega
           rw [show stR (inW te mo) bm x = bm by simp [stR, hw]] at g4
           exact ⟨(i + 1, bm), ⟨hi, by simp only; omega, g3, g4, g5⟩, by simp only; omega, (Weak.auto hcx rfl rfl (Nat.le_of_ble_eq_true rfl) (by simp [go_sem, gL, kL, renOf, V.obj, lk, Nat.blt, Nat.ble, List.map_append, dv_push]) (by simp [go_sem, gL, kL, renOf, V.obj, lk, Nat.blt, Nat.ble, List.map_append, dv_push]) (by first | (intro i hi; exact absurd hi (Nat.not_lt_zero _)) | (intro i0 hi0; match i0, hi0 with | 0, _ => exact ⟨_, rfl⟩ | n0+1, h0 => exact absurd h0 (Nat.not_lt.2 (Nat.le_add_left 1 n0))) | (intro i0 hi0; match i0, hi0 with | 0, _ => exact ⟨_, rfl⟩ | 1, _ => exact ⟨_, rfl⟩ | n0+2, h0 => exact absurd h0 (Nat.not_lt.2 (Nat.le_add_left 2 n0))) | (intro i0 hi0; match i0, hi0 with | 0, _ => exact ⟨_, rfl⟩ | 1, _ => exact ⟨_, rfl⟩ | 2, _ => exact ⟨_, rfl⟩ | n0+3, h0 => exact absurd h0 (Nat.not_lt.2 (Nat.le_add_left 3 n0))) | (intro i0 hi0; match i0, hi0 with | 0, _ => exact ⟨_, rfl⟩ | 1, _ => exact ⟨_, rfl⟩ | 2, _ => exact ⟨_, rfl⟩ | 3, _ => exact ⟨_, rfl⟩ | n0+4, h0 => exact absurd h0 (Nat.not_lt.2 (Nat.le_add_left 4 n0)))) (by simp [go_sem, gL, kL, lk, renOf, V.obj, Nat.blt, Nat.ble]))⟩)
        | (have hw : inW te mo x = true := by simp [inW]; omega
           rw [show stR (inW te mo) bm x = bm ++ [x] by simp [stR, hw, ha]] at g4
           exact ⟨(i + 1, bm ++ [x]), ⟨hi, by simp; omega, (stR_nodup g3 ha), g4, fun r hr => by
             rcases List.mem_append.1 hr with hr | hr
             · exact g5 r hr
             · obtain rfl := List.mem_singleton.1 hr; exact hb r hxm⟩, by simp only; omega, (Weak.auto hcx rfl rfl (Nat.le_of_ble_eq_true rfl) (by simp [go_sem, gL, kL, renOf, V.obj, lk, Nat.blt, Nat.ble, List.map_append, dv_push]) (by simp [go_sem, gL, kL, renOf, V.obj, lk, Nat.blt, Nat.ble, List.map_append, dv_push]) (by first | (intro i hi; exact absurd hi (Nat.not_lt_zero _)) | (intro i0 hi0; match i0, hi0 with | 0, _ => exact ⟨_, rfl⟩ | n0+1, h0 => exact absurd h0 (Nat.not_lt.2 (Nat.le_add_left 1 n0))) | (intro i0 hi0; match i0, hi0 with | 0, _ => exact ⟨_, rfl⟩ | 1, _ => exact ⟨_, rfl⟩ | n0+2, h0 => exact absurd h0 (Nat.not_lt.2 (Nat.le_add_left 2 n0))) | (intro i0 hi0; match i0, hi0 with | 0, _ => exact ⟨_, rfl⟩ | 1, _ => exact ⟨_, rfl⟩ | 2, _ => exact ⟨_, rfl⟩ | n0+3, h0 => exact absurd h0 (Nat.not_lt.2 (Nat.le_add_left 3 n0))) | (intro i0 hi0; match i0, hi0 with | 0, _ => exact ⟨_, rfl⟩ | 1, _ => exact ⟨_, rfl⟩ | 2, _ => exact ⟨_, rfl⟩ | 3, _ => exact ⟨_, rfl⟩ | n0+4, h0 => exact absurd h0 (Nat.not_lt.2 (Nat.le_add_left 4 n0)))) (by simp [go_sem, gL, kL, lk, renOf, V.obj, Nat.blt, Nat.ble]))⟩)
        | trace_state
    | some j =>
      obtain ⟨y, hy, hyk, hyf⟩ := at_some ha
      have hf := fnd_at g3 hy
      rw [hyk] at hf
      have hgy : (dv (bm.map rpD))[j]? = some (.d (rpD y)) := by simp only [dv, List.getElem?_map, hy, Option.map_some]
      have hks : (bm.map fun r => D.str r.1).set j (.str x.1) = bm.map fun r => D.str r.1 := by
        have := congrArg (List.map D.str) (keys_set hy hyk)
        simpa [List.map_map, Function.comp_def, List.map_set] using this
      repeat' (first | (refine AW.sreg rfl fun K hK => ?_; simp only [go_sem, Nat.reduceAdd, Nat.reduceMul, Int.reduceToNat, Nat.reduceLT, Nat.reduceLeDiff, Nat.le_refl, Nat.reduceEqDiff, ↓reduceIte, beq_self_eq_true, bne_self_eq_false, Int.reduceBEq, Int.reduceBNe, or_self, true_or, or_true, Option.map_some, Option.map_none, List.length_map, hget, hf, hgy]) | (refine AW.sregD hmix rfl fun K hK => ?_; simp only [go_sem, Nat.reduceAdd, Nat.reduceMul, Int.reduceToNat, Nat.reduceLT, Nat.reduceLeDiff, Nat.le_refl, Nat.reduceEqDiff, ↓reduceIte, beq_self_eq_true, bne_self_eq_false, Int.reduceBEq, Int.reduceBNe, or_self, true_or, or_true, Option.map_some, Option.map_none, List.length_map, hget, hf, hgy]) | (refine AW.reg rfl ?_; simp only [go_sem, Nat.reduceAdd, Nat.reduceMul, Int.reduceToNat, Nat.reduceLT, Nat.reduceLeDiff, Nat.le_refl, Nat.reduceEqDiff, ↓reduceIte, beq_self_eq_true, bne_self_eq_false, Int.reduceBEq, Int.reduceBNe, or_self, true_or, or_true, Option.map_some, Option.map_none, List.length_map, hget, hf, hgy]) | (refine AW.regD hmix rfl ?_; simp only [go_sem, Nat.reduceAdd, Nat.reduceMul, Int.reduceToNat, Nat.reduceLT, Nat.reduceLeDiff, Nat.le_refl, Nat.reduceEqDiff, ↓reduceIte, beq_self_eq_true, bne_self_eq_false, Int.reduceBEq, Int.reduceBNe, or_self, true_or, or_true, Option.map_some, Option.map_none, List.length_map, hget, hf, hgy]) | (refine AW.seq_k fun K hK => ?_) | (refine AW.block ?_) | (refine AW.skip ?_; simp only [Then, InBlock]) | (refine AW.exit ?_; simp only [go_sem, ↓reduceIte]) | (refine AW.condT rfl (by first | rfl | (simp; omega) | (simp [*]; done) | fail) ?_) | (refine AW.condF rfl (by first | rfl | (simp; omega) | (simp [*]; done) | fail) ?_) | (refine AW.cond rfl (fun h => ?_) (fun h => ?_) <;> (try simp only [decide_eq_true_eq, decide_eq_false_iff_not, Bool.not_eq_true', Bool.not_eq_false', Bool.not_eq_eq_eq_not, Bool.not_true, Bool.not_false, beq_iff_eq, bne_iff_ne, beq_eq_false_iff_ne, ne_eq, Bool.and_eq_true, Bool.or_eq_true, Bool.or_eq_false_iff] at h)) | (refine hK _ ?_; clear hK K) | (clear hK K; refine hK _ ?_; clear hK K) | (clear hK K; clear hK K; refine hK _ ?_; clear hK K) | (clear hK K; clear hK K; clear hK K; refine hK _ ?_; clear hK K) | (refine stepB_split (fun h => ?_) (fun h => ?_) <;> (have hb0 := h) <;> (try simp only [Bool.not_eq_true', Bool.not_eq_false'] at hb0) <;> (try simp only [decide_eq_true_eq, decide_eq_false_iff_not, Bool.not_eq_true', Bool.not_eq_false', Bool.not_eq_eq_eq_not, Bool.not_true, Bool.not_false, beq_iff_eq, bne_iff_ne, beq_eq_false_iff_ne, ne_eq, Bool.and_eq_true, Bool.or_eq_true, Bool.or_eq_false_iff] at h) <;> simp only [go_sem, Nat.reduceAdd, Nat.reduceMul, Int.reduceToNat, Nat.reduceLT, Nat.reduceLeDiff, Nat.le_refl, Nat.reduceEqDiff, ↓reduceIte, beq_self_eq_true, bne_self_eq_false, Int.reduceBEq, Int.reduceBNe, or_self, true_or, or_true, Option.map_some, Option.map_none, hb0, h, decide_true, decide_false, List.length_map, hget, hf, hgy] <;> (try clear hb0)) | (refine stepBT_split (fun h => ?_) (fun h => ?_) <;> (have hb0 := h) <;> (try simp only [Bool.not_eq_true', Bool.not_eq_false'] at hb0) <;> (try simp only [decide_eq_true_eq, decide_eq_false_iff_not, Bool.not_eq_true', Bool.not_eq_false', Bool.not_eq_eq_eq_not, Bool.not_true, Bool.not_false, beq_iff_eq, bne_iff_ne, beq_eq_false_iff_ne, ne_eq, Bool.and_eq_true, Bool.or_eq_true, Bool.or_eq_false_iff] at h) <;> simp only [go_sem, Nat.reduceAdd, Nat.reduceMul, Int.reduceToNat, Nat.reduceLT, Nat.reduceLeDiff, Nat.le_refl, Nat.reduceEqDiff, ↓reduceIte, beq_self_eq_true, bne_self_eq_false, Int.reduceBEq, Int.reduceBNe, or_self, true_or, or_true, Option.map_some, Option.map_none, hb0, h, decide_true, decide_false, List.length_map, hget, hf, hgy] <;> (try clear hb0)) | (with_reducible refine And.intro (?_ : regOk _ _ = true) ?_; kernel_rfl) | (with_reducible refine And.intro ?_ ?_; first | omega | assumption | (focus (decide)) | (focus (simp; done)) | (focus (simp; omega)) | (focus (constructor <;> omega)) | fail) | (exfalso; omega))
      all_goals first
        | (have hw : inW te mo x = false := by simp [inW]; omega
           rw [show stR (inW te mo) bm x = bm by simp [stR, hw]] at g4
           exact ⟨(i + 1, bm), ⟨hi, by simp only; omega, g3, g4, g5⟩, by simp only; omega, (Weak.auto hcx rfl rfl (Nat.le_of_ble_eq_true rfl) (by simp [go_sem, gL, kL, renOf, V.obj, lk, Nat.blt, Nat.ble, List.map_append, dv_push]) (by simp [go_sem, gL, kL, renOf, V.obj, lk, Nat.blt, Nat.ble, List.map_append, dv_push]) (by first | (intro i hi; exact absurd hi (Nat.not_lt_zero _)) | (intro i0 hi0; match i0, hi0 with | 0, _ => exact ⟨_, rfl⟩ | n0+1, h0 => exact absurd h0 (Nat.not_lt.2 (Nat.le_add_left 1 n0))) | (intro i0 hi0; match i0, hi0 with | 0, _ => exact ⟨_, rfl⟩ | 1, _ => exact ⟨_, rfl⟩ | n0+2, h0 => exact absurd h0 (Nat.not_lt.2 (Nat.le_add_left 2 n0))) | (intro i0 hi0; match i0, hi0 with | 0, _ => exact ⟨_, rfl⟩ | 1, _ => exact ⟨_, rfl⟩ | 2, _ => exact ⟨_, rfl⟩ | n0+3, h0 => exact absurd h0 (Nat.not_lt.2 (Nat.le_add_left 3 n0))) | (intro i0 hi0; match i0, hi0 with | 0, _ => exact ⟨_, rfl⟩ | 1, _ => exact ⟨_, rfl⟩ | 2, _ => exact ⟨_, rfl⟩ | 3, _ => exact ⟨_, rfl⟩ | n0+4, h0 => exact absurd h0 (Nat.not_lt.2 (Nat.le_add_left 4 n0)))) (by simp [go_sem, gL, kL, lk, renOf, V.obj, Nat.blt, Nat.ble]))⟩)
        | (have hw : inW te mo x = true := by simp [inW]; omega
           have hlt : ltR y x = true := by
             rw [ltR_iff]
             exact .inl (by omega)
           rw [show stR (inW te mo) bm x = bm.set j x by simp [stR, hw, ha, hy, hlt]] at g4
           exact ⟨(i + 1, bm.set j x), ⟨hi, by simp; omega, by rw [keys_set hy hyk]; exact g3, g4, fun r hr => by
             rcases List.mem_or_eq_of_mem_set hr with hr | rfl
             · exact g5 r hr
             · exact hb _ hxm⟩, by simp only; omega, (Weak.auto hcx rfl rfl (Nat.le_of_ble_eq_true rfl) (by simp [go_sem, gL, kL, renOf, V.obj, lk, Nat.blt, Nat.ble, List.map_append, dv_push, dv_set, hks]) (by simp [go_sem, gL, kL, renOf, V.obj, lk, Nat.blt, Nat.ble, List.map_append, dv_push, dv_set, hks]) (by first | (intro i hi; exact absurd hi (Nat.not_lt_zero _)) | (intro i0 hi0; match i0, hi0 with | 0, _ => exact ⟨_, rfl⟩ | n0+1, h0 => exact absurd h0 (Nat.not_lt.2 (Nat.le_add_left 1 n0))) | (intro i0 hi0; match i0, hi0 with | 0, _ => exact ⟨_, rfl⟩ | 1, _ => exact ⟨_, rfl⟩ | n0+2, h0 => exact absurd h0 (Nat.not_lt.2 (Nat.le_add_left 2 n0))) | (intro i0 hi0; match i0, hi0 with | 0, _ => exact ⟨_, rfl⟩ | 1, _ => exact ⟨_, rfl⟩ | 2, _ => exact ⟨_, rfl⟩ | n0+3, h0 => exact absurd h0 (Nat.not_lt.2 (Nat.le_add_left 3 n0))) | (intro i0 hi0; match i0, hi0 with | 0, _ => exact ⟨_, rfl⟩ | 1, _ => exact ⟨_, rfl⟩ | 2, _ => exact ⟨_, rfl⟩ | 3, _ => exact ⟨_, rfl⟩ | n0+4, h0 => exact absurd h0 (Nat.not_lt.2 (Nat.le_add_left 4 n0)))) (by simp [go_sem, gL, kL, lk, renOf, V.obj, Nat.blt, Nat.ble, dv_set, hks]))⟩)
        | (have hw : inW te mo x = true := by simp [inW]; omega
           have hlt : ltR y x = true := by
             rw [ltR_iff]
             refine .inr ⟨by omega, ltS_of_not ?_⟩
             simp_all
             done
           have hxy : x.2.1 = y.2.1 := by omega
           rw [show stR (inW te mo) bm x = bm.set j x by simp [stR, hw, ha, hy, hlt]] at g4
           exact ⟨(i + 1, bm.set j x), ⟨hi, by simp; omega, by rw [keys_set hy hyk]; exact g3, g4, fun r hr => by
             rcases List.mem_or_eq_of_mem_set hr with hr | rfl
             · exact g5 r hr
             · exact hb _ hxm⟩, by simp only; omega, (Weak.auto hcx rfl rfl (Nat.le_of_ble_eq_true rfl) (by simp [go_sem, gL, kL, renOf, V.obj, lk, Nat.blt, Nat.ble, List.map_append, dv_push, dv_set, hks, rpD, hxy]) (by simp [go_sem, gL, kL, renOf, V.obj, lk, Nat.blt, Nat.ble, List.map_append, dv_push, dv_set, hks, rpD, hxy]) (by first | (intro i hi; exact absurd hi (Nat.not_lt_zero _)) | (intro i0 hi0; match i0, hi0 with | 0, _ => exact ⟨_, rfl⟩ | n0+1, h0 => exact absurd h0 (Nat.not_lt.2 (Nat.le_add_left 1 n0))) | (intro i0 hi0; match i0, hi0 with | 0, _ => exact ⟨_, rfl⟩ | 1, _ => exact ⟨_, rfl⟩ | n0+2, h0 => exact absurd h0 (Nat.not_lt.2 (Nat.le_add_left 2 n0))) | (intro i0 hi0; match i0, hi0 with | 0, _ => exact ⟨_, rfl⟩ | 1, _ => exact ⟨_, rfl⟩ | 2, _ => exact ⟨_, rfl⟩ | n0+3, h0 => exact absurd h0 (Nat.not_lt.2 (Nat.le_add_left 3 n0))) | (intro i0 hi0; match i0, hi0 with | 0, _ => exact ⟨_, rfl⟩ | 1, _ => exact ⟨_, rfl⟩ | 2, _ => exact ⟨_, rfl⟩ | 3, _ => exact ⟨_, rfl⟩ | n0+4, h0 => exact absurd h0 (Nat.not_lt.2 (Nat.le_add_left 4 n0)))) (by simp [go_sem, gL, kL, lk, renOf, V.obj, Nat.blt, Nat.ble, dv_set, hks, rpD, hxy]))⟩)
        | (have hw : inW te mo x = true := by simp [inW]; omega
           have hlt : ¬ ltR y x = true := by
             rw [ltR_iff]
             rintro (q | ⟨q, q2⟩)
             · omega
             · first
                 | omega
                 | (rcases ‹Op.bytesLess x.2.2 y.2.2 = true ∨ x.2.2 = y.2.2› with q3 | q3
                    · have := ltS_asymm q3; rw [this] at q2; cases q2
                    · rw [q3, ltS_irrefl] at q2; cases q2)
           rw [show stR (inW te mo) bm x = bm by simp [stR, hw, ha, hy, hlt]] at g4
           exact ⟨(i + 1, bm), ⟨hi, by simp only; omega, g3, g4, g5⟩, by simp only; omega, (Weak.auto hcx rfl rfl (Nat.le_of_ble_eq_true rfl) (by simp [go_sem, gL, kL, renOf, V.obj, lk, Nat.blt, Nat.ble, List.map_append, dv_push]) (by simp [go_sem, gL, kL, renOf, V.obj, lk, Nat.blt, Nat.ble, List.map_append, dv_push]) (by first | (intro i hi; exact absurd hi (Nat.not_lt_zero _)) | (intro i0 hi0; match i0, hi0 with | 0, _ => exact ⟨_, rfl⟩ | n0+1, h0 => exact absurd h0 (Nat.not_lt.2 (Nat.le_add_left 1 n0))) | (intro i0 hi0; match i0, hi0 with | 0, _ => exact ⟨_, rfl⟩ | 1, _ => exact ⟨_, rfl⟩ | n0+2, h0 => exact absurd h0 (Nat.not_lt.2 (Nat.le_add_left 2 n0))) | (intro i0 hi0; match i0, hi0 with | 0, _ => exact ⟨_, rfl⟩ | 1, _ => exact ⟨_, rfl⟩ | 2, _ => exact ⟨_, rfl⟩ | n0+3, h0 => exact absurd h0 (Nat.not_lt.2 (Nat.le_add_left 3 n0))) | (intro i0 hi0; match i0, hi0 with | 0, _ => exact ⟨_, rfl⟩ | 1, _ => exact ⟨_, rfl⟩ | 2, _ => exact ⟨_, rfl⟩ | 3, _ => exact ⟨_, rfl⟩ | n0+4, h0 => exact absurd h0 (Nat.not_lt.2 (Nat.le_add_left 4 n0)))) (by simp [go_sem, gL, kL, lk, renOf, V.obj, Nat.blt, Nat.ble]))⟩)
        | trace_state
  · obtain rfl : i = xs.length := by omega
    simp only [List.drop_length, List.foldl_nil] at g4
    subst g4
    have hC : cntd (inW te mo) xs = (srt (bm.map (·.1))).map fun k => (fnd k bm).getD ([], 0, []) := by unfold cntd; rw [hBM]
    generalize cntd (inW te mo) xs = C at *
    have hkl : ∀ k ∈ bm.map (·.1), k.length ≤ 1000000 := by
      intro k hk
      obtain ⟨r, hr, rfl⟩ := List.mem_map.1 hk
      have := (g5 r hr).1
      omega
    have hsk := sortedKeys_does (bm.map (·.1)) (bm.map rpD) (by simp; omega) hkl g3
    rw [show ((bm.map (·.1)).mergeSort fun x y => decide (x ≤ y)) = srt (bm.map (·.1)) from rfl] at hsk
    have hsm : ∀ k ∈ srt (bm.map (·.1)), k ∈ bm.map (·.1) := fun k hk => (List.mergeSort_perm _ _).mem_iff.1 hk
    have hsl : (srt (bm.map (·.1))).length = bm.length := by simp [srt]
    generalize srt (bm.map (·.1)) = SL at *
    refine AW.weak (?wk : Weak cx _ (⟨118, [(41, I xs.length), (40, I xs.length), (7, .d (.map ((bm.map (·.1)).map D.str) (bm.map rpD)))], [], 31⟩ : St)) ?_
    case wk => exact (Weak.objs hcx [] rfl rfl (Nat.le_of_ble_eq_true rfl) (by simp [go_sem, gL, kL, List.map_append, dv_push, toDL_dvF, List.map_map, Function.comp_def]) (by simp [go_sem, gL, kL, List.map_append, dv_push, toDL_dvF, List.map_map, Function.comp_def]) (by first | (intro i hi; exact absurd hi (Nat.not_lt_zero _)) | (intro i0 hi0; match i0, hi0 with | 0, _ => exact ⟨_, rfl⟩ | n0+1, h0 => exact absurd h0 (Nat.not_lt.2 (Nat.le_add_left 1 n0))) | (intro i0 hi0; match i0, hi0 with | 0, _ => exact ⟨_, rfl⟩ | 1, _ => exact ⟨_, rfl⟩ | n0+2, h0 => exact absurd h0 (Nat.not_lt.2 (Nat.le_add_left 2 n0))) | (intro i0 hi0; match i0, hi0 with | 0, _ => exact ⟨_, rfl⟩ | 1, _ => exact ⟨_, rfl⟩ | 2, _ => exact ⟨_, rfl⟩ | n0+3, h0 => exact absurd h0 (Nat.not_lt.2 (Nat.le_add_left 3 n0))) | (intro i0 hi0; match i0, hi0 with | 0, _ => exact ⟨_, rfl⟩ | 1, _ => exact ⟨_, rfl⟩ | 2, _ => exact ⟨_, rfl⟩ | 3, _ => exact ⟨_, rfl⟩ | n0+4, h0 => exact absurd h0 (Nat.not_lt.2 (Nat.le_add_left 4 n0)))) (by simp [gL, lk, toDL_dvF, List.map_map, Function.comp_def]))
    repeat' (first | (refine AW.sreg rfl fun K hK => ?_; simp only [go_sem, Nat.reduceAdd, Nat.reduceMul, Int.reduceToNat, Nat.reduceLT, Nat.reduceLeDiff, Nat.le_refl, Nat.reduceEqDiff, ↓reduceIte, beq_self_eq_true, bne_self_eq_false, Int.reduceBEq, Int.reduceBNe, or_self, true_or, or_true, Option.map_some, Option.map_none, List.length_map, Nat.reduceSub, Nat.add_zero]) | (refine AW.sregD hmix rfl fun K hK => ?_; simp only [go_sem, Nat.reduceAdd, Nat.reduceMul, Int.reduceToNat, Nat.reduceLT, Nat.reduceLeDiff, Nat.le_refl, Nat.reduceEqDiff, ↓reduceIte, beq_self_eq_true, bne_self_eq_false, Int.reduceBEq, Int.reduceBNe, or_self, true_or, or_true, Option.map_some, Option.map_none, List.length_map, Nat.reduceSub, Nat.add_zero]) | (refine AW.reg rfl ?_; simp only [go_sem, Nat.reduceAdd, Nat.reduceMul, Int.reduceToNat, Nat.reduceLT, Nat.reduceLeDiff, Nat.le_refl, Nat.reduceEqDiff, ↓reduceIte, beq_self_eq_true, bne_self_eq_false, Int.reduceBEq, Int.reduceBNe, or_self, true_or, or_true, Option.map_some, Option.map_none, List.length_map, Nat.reduceSub, Nat.add_zero]) | (refine AW.regD hmix rfl ?_; simp only [go_sem, Nat.reduceAdd, Nat.reduceMul, Int.reduceToNat, Nat.reduceLT, Nat.reduceLeDiff, Nat.le_refl, Nat.reduceEqDiff, ↓reduceIte, beq_self_eq_true, bne_self_eq_false, Int.reduceBEq, Int.reduceBNe, or_self, true_or, or_true, Option.map_some, Option.map_none, List.length_map, Nat.reduceSub, Nat.add_zero]) | (refine AW.seq_k fun K hK => ?_) | (refine AW.block ?_) | (refine AW.skip ?_; simp only [Then, InBlock]) | (refine AW.exit ?_; simp only [go_sem, ↓reduceIte]) | (refine AW.condT rfl (by first | rfl | (simp; omega) | (simp [*]; done) | fail) ?_) | (refine AW.condF rfl (by first | rfl | (simp; omega) | (simp [*]; done) | fail) ?_) | (refine AW.cond rfl (fun h => ?_) (fun h => ?_) <;> (try simp only [decide_eq_true_eq, decide_eq_false_iff_not, Bool.not_eq_true', Bool.not_eq_false', Bool.not_eq_eq_eq_not, Bool.not_true, Bool.not_false, beq_iff_eq, bne_iff_ne, beq_eq_false_iff_ne, ne_eq, Bool.and_eq_true, Bool.or_eq_true, Bool.or_eq_false_iff] at h)) | (refine hK _ ?_; clear hK K) | (clear hK K; refine hK _ ?_; clear hK K) | (clear hK K; clear hK K; refine hK _ ?_; clear hK K) | (clear hK K; clear hK K; clear hK K; refine hK _ ?_; clear hK K) | (refine stepB_split (fun h => ?_) (fun h => ?_) <;> (have hb0 := h) <;> (try simp only [Bool.not_eq_true', Bool.not_eq_false'] at hb0) <;> (try simp only [decide_eq_true_eq, decide_eq_false_iff_not, Bool.not_eq_true', Bool.not_eq_false', Bool.not_eq_eq_eq_not, Bool.not_true, Bool.not_false, beq_iff_eq, bne_iff_ne, beq_eq_false_iff_ne, ne_eq, Bool.and_eq_true, Bool.or_eq_true, Bool.or_eq_false_iff] at h) <;> simp only [go_sem, Nat.reduceAdd, Nat.reduceMul, Int.reduceToNat, Nat.reduceLT, Nat.reduceLeDiff, Nat.le_refl, Nat.reduceEqDiff, ↓reduceIte, beq_self_eq_true, bne_self_eq_false, Int.reduceBEq, Int.reduceBNe, or_self, true_or, or_true, Option.map_some, Option.map_none, hb0, h, decide_true, decide_false, List.length_map, Nat.reduceSub, Nat.add_zero] <;> (try clear hb0)) | (refine stepBT_split (fun h => ?_) (fun h => ?_) <;> (have hb0 := h) <;> (try simp only [Bool.not_eq_true', Bool.not_eq_false'] at hb0) <;> (try simp only [decide_eq_true_eq, decide_eq_false_iff_not, Bool.not_eq_true', Bool.not_eq_false', Bool.not_eq_eq_eq_not, Bool.not_true, Bool.not_false, beq_iff_eq, bne_iff_ne, beq_eq_false_iff_ne, ne_eq, Bool.and_eq_true, Bool.or_eq_true, Bool.or_eq_false_iff] at h) <;> simp only [go_sem, Nat.reduceAdd, Nat.reduceMul, Int.reduceToNat, Nat.reduceLT, Nat.reduceLeDiff, Nat.le_refl, Nat.reduceEqDiff, ↓reduceIte, beq_self_eq_true, bne_self_eq_false, Int.reduceBEq, Int.reduceBNe, or_self, true_or, or_true, Option.map_some, Option.map_none, hb0, h, decide_true, decide_false, List.length_map, Nat.reduceSub, Nat.add_zero] <;> (try clear hb0)) | (with_reducible refine And.intro (?_ : regOk _ _ = true) ?_; kernel_rfl) | (refine runT_call _ _ [] (fun hv _ => (mapsKeys_any _ _).objs [] trivial rfl (by decide) (by simp [go_sem, renOs]) (by simp) (by simp) (by simp [go_sem]) (by simp [go_sem]) (by simp [go_sem]) (by simp [go_sem])) rfl rfl (dstOk_of rfl) rfl rfl ?_; simp only [go_sem, Nat.reduceAdd, Nat.reduceMul, Int.reduceToNat, Nat.reduceLT, Nat.reduceLeDiff, Nat.le_refl, Nat.reduceEqDiff, ↓reduceIte, beq_self_eq_true, bne_self_eq_false, Int.reduceBEq, Int.reduceBNe, or_self, true_or, or_true, Option.map_some, Option.map_none, List.length_map, Nat.reduceSub, Nat.add_zero]) | (refine run_call _ _ _ ((mapsKeys_any _ _).objs [] trivial rfl (by decide) (by simp [go_sem, renOs]) (by simp) (by simp) (by simp [go_sem]) (by simp [go_sem]) (by simp [go_sem]) (by simp [go_sem])) rfl rfl (dstOk_of rfl) rfl rfl rfl ?_; simp only [go_sem, Nat.reduceAdd, Nat.reduceMul, Int.reduceToNat, Nat.reduceLT, Nat.reduceLeDiff, Nat.le_refl, Nat.reduceEqDiff, ↓reduceIte, beq_self_eq_true, bne_self_eq_false, Int.reduceBEq, Int.reduceBNe, or_self, true_or, or_true, Option.map_some, Option.map_none, List.length_map, Nat.reduceSub, Nat.add_zero]) | (refine run_call _ _ _ ((hsk).robjs [_] ⟨(by first | rfl | (simp [go_sem]; done) | (simp [go_sem]; rfl)), trivial⟩ rfl (by decide) (by simp) (by simp) (by simp [go_sem]) (by simp [go_sem]) (by simp [go_sem]) (by simp [go_sem])) rfl rfl (dstOk_of rfl) rfl rfl rfl ?_; simp only [go_sem, Nat.reduceAdd, Nat.reduceMul, Int.reduceToNat, Nat.reduceLT, Nat.reduceLeDiff, Nat.le_refl, Nat.reduceEqDiff, ↓reduceIte, beq_self_eq_true, bne_self_eq_false, Int.reduceBEq, Int.reduceBNe, or_self, true_or, or_true, Option.map_some, Option.map_none, List.length_map, Nat.reduceSub, Nat.add_zero]) | (with_reducible refine And.intro ?_ ?_; first | omega | assumption | (focus (decide)) | (focus (simp; done)) | (focus (simp; omega)) | (focus (constructor <;> omega)) | fail) | (exfalso; omega))
    refine AW.weak (Weak.nil 12 35 3 rfl) ?_
    have hCl : C.length = SL.length := by rw [hC]; simp
    refine AW.loopF (ι := Nat) [7, 104, 105] (fun p => [(106, I p), (12, .slr 2432 0 p)]) (fun p => [(2432, some (O.vec 35 3 (dv ((C.take p).map rpD))))]) 39 (fun p => p ≤ C.length) (fun p => C.length - p) 0 (Nat.zero_le _) (Weak.auto hcx rfl rfl (Nat.le_of_ble_eq_true rfl) (by simp [go_sem, gL, kL, renOf, V.obj, lk, Nat.blt, Nat.ble, List.map_append, dv_push]) (by simp [go_sem, gL, kL, renOf, V.obj, lk, Nat.blt, Nat.ble, List.map_append, dv_push]) (by first | (intro i hi; exact absurd hi (Nat.not_lt_zero _)) | (intro i0 hi0; match i0, hi0 with | 0, _ => exact ⟨_, rfl⟩ | n0+1, h0 => exact absurd h0 (Nat.not_lt.2 (Nat.le_add_left 1 n0))) | (intro i0 hi0; match i0, hi0 with | 0, _ => exact ⟨_, rfl⟩ | 1, _ => exact ⟨_, rfl⟩ | n0+2, h0 => exact absurd h0 (Nat.not_lt.2 (Nat.le_add_left 2 n0))) | (intro i0 hi0; match i0, hi0 with | 0, _ => exact ⟨_, rfl⟩ | 1, _ => exact ⟨_, rfl⟩ | 2, _ => exact ⟨_, rfl⟩ | n0+3, h0 => exact absurd h0 (Nat.not_lt.2 (Nat.le_add_left 3 n0))) | (intro i0 hi0; match i0, hi0 with | 0, _ => exact ⟨_, rfl⟩ | 1, _ => exact ⟨_, rfl⟩ | 2, _ => exact ⟨_, rfl⟩ | 3, _ => exact ⟨_, rfl⟩ | n0+4, h0 => exact absurd h0 (Nat.not_lt.2 (Nat.le_add_left 4 n0)))) (by simp [go_sem, gL, kL, lk, renOf, V.obj, Nat.blt, Nat.ble])) ?_; simp only [St.at_nil, St.at_cons, lk, Nat.reduceEqDiff, ↓reduceIte, Option.getD_some, Option.getD_none, List.cons_append, List.nil_append, List.append_nil]
    intro i hi1
    by_cases hi2 : i < C.length
    · obtain ⟨k, hk, hkm, -⟩ := get_some (l := SL) (i := i) (by omega)
      obtain ⟨y, hy1, hy2, hy3⟩ := fnd_in (hsm k hkm)
      obtain ⟨j, hj⟩ := List.mem_iff_getElem?.1 hy3
      have hf := fnd_at g3 hj
      rw [hy2] at hf
      have hf' : fndK (.str k) ((bm.map (·.1)).map D.str) = some (some j) := by simpa [List.map_map, Function.comp_def] using hf
      have hgj : (List.map V.d (bm.map rpD))[j]? = some (.d (rpD y)) := by simp [hj]
      have hgk : (SL.map D.str)[i]? = some (.str k) := by simp [hk]
      have hCi : C.take (i + 1) = C.take i ++ [y] := by
        rw [List.take_add_one]
        conv => lhs; rhs; rw [hC, List.getElem?_map, hk]
        simp [hy1]
      have htl : List.take i (dv ((C.take i).map rpD)) = dv ((C.take i).map rpD) := List.take_of_length_le (by simp only [dv, List.length_map, List.length_take]; omega)
      have hi3 : (i : Int) < (SL.length : Int) := by omega
      repeat' (first | (refine AW.sreg rfl fun K hK => ?_; simp only [go_sem, Nat.reduceAdd, Nat.reduceMul, Int.reduceToNat, Nat.reduceLT, Nat.reduceLeDiff, Nat.le_refl, Nat.reduceEqDiff, ↓reduceIte, beq_self_eq_true, bne_self_eq_false, Int.reduceBEq, Int.reduceBNe, or_self, true_or, or_true, Option.map_some, Option.map_none, List.length_map, hgk, hf', hgj, htl]) | (refine AW.sregD hmix rfl fun K hK => ?_; simp only [go_sem, Nat.reduceAdd, Nat.reduceMul, Int.reduceToNat, Nat.reduceLT, Nat.reduceLeDiff, Nat.le_refl, Nat.reduceEqDiff, ↓reduceIte, beq_self_eq_true, bne_self_eq_false, Int.reduceBEq, Int.reduceBNe, or_self, true_or, or_true, Option.map_some, Option.map_none, List.length_map, hgk, hf', hgj, htl]) | (refine AW.reg rfl ?_; simp only [go_sem, Nat.reduceAdd, Nat.reduceMul, Int.reduceToNat, Nat.reduceLT, Nat.reduceLeDiff, Nat.le_refl, Nat.reduceEqDiff, ↓reduceIte, beq_self_eq_true, bne_self_eq_false, Int.reduceBEq, Int.reduceBNe, or_self, true_or, or_true, Option.map_some, Option.map_none, List.length_map, hgk, hf', hgj, htl]) | (refine AW.regD hmix rfl ?_; simp only [go_sem, Nat.reduceAdd, Nat.reduceMul, Int.reduceToNat, Nat.reduceLT, Nat.reduceLeDiff, Nat.le_refl, Nat.reduceEqDiff, ↓reduceIte, beq_self_eq_true, bne_self_eq_false, Int.reduceBEq, Int.reduceBNe, or_self, true_or, or_true, Option.map_some, Option.map_none, List.length_map, hgk, hf', hgj, htl]) | (refine AW.seq_k fun K hK => ?_) | (refine AW.block ?_) | (refine AW.skip ?_; simp only [Then, InBlock]) | (refine AW.exit ?_; simp only [go_sem, ↓reduceIte]) | (refine AW.condT rfl (by first | rfl | (simp; omega) | (simp [*]; done) | fail) ?_) | (refine AW.condF rfl (by first | rfl | (simp; omega) | (simp [*]; done) | fail) ?_) | (refine AW.cond rfl (fun h => ?_) (fun h => ?_) <;> (try simp only [decide_eq_true_eq, decide_eq_false_iff_not, Bool.not_eq_true', Bool.not_eq_false', Bool.not_eq_eq_eq_not, Bool.not_true, Bool.not_false, beq_iff_eq, bne_iff_ne, beq_eq_false_iff_ne, ne_eq, Bool.and_eq_true, Bool.or_eq_true, Bool.or_eq_false_iff] at h)) | (refine hK _ ?_; clear hK K) | (clear hK K; refine hK _ ?_; clear hK K) | (clear hK K; clear hK K; refine hK _ ?_; clear hK K) | (clear hK K; clear hK K; clear hK K; refine hK _ ?_; clear hK K) | (refine stepB_split (fun h => ?_) (fun h => ?_) <;> (have hb0 := h) <;> (try simp only [Bool.not_eq_true', Bool.not_eq_false'] at hb0) <;> (try simp only [decide_eq_true_eq, decide_eq_false_iff_not, Bool.not_eq_true', Bool.not_eq_false', Bool.not_eq_eq_eq_not, Bool.not_true, Bool.not_false, beq_iff_eq, bne_iff_ne, beq_eq_false_iff_ne, ne_eq, Bool.and_eq_true, Bool.or_eq_true, Bool.or_eq_false_iff] at h) <;> simp only [go_sem, Nat.reduceAdd, Nat.reduceMul, Int.reduceToNat, Nat.reduceLT, Nat.reduceLeDiff, Nat.le_refl, Nat.reduceEqDiff, ↓reduceIte, beq_self_eq_true, bne_self_eq_false, Int.reduceBEq, Int.reduceBNe, or_self, true_or, or_true, Option.map_some, Option.map_none, hb0, h, decide_true, decide_false, List.length_map, hgk, hf', hgj, htl] <;> (try clear hb0)) | (refine stepBT_split (fun h => ?_) (fun h => ?_) <;> (have hb0 := h) <;> (try simp only [Bool.not_eq_true', Bool.not_eq_false'] at hb0) <;> (try simp only [decide_eq_true_eq, decide_eq_false_iff_not, Bool.not_eq_true', Bool.not_eq_false', Bool.not_eq_eq_eq_not, Bool.not_true, Bool.not_false, beq_iff_eq, bne_iff_ne, beq_eq_false_iff_ne, ne_eq, Bool.and_eq_true, Bool.or_eq_true, Bool.or_eq_false_iff] at h) <;> simp only [go_sem, Nat.reduceAdd, Nat.reduceMul, Int.reduceToNat, Nat.reduceLT, Nat.reduceLeDiff, Nat.le_refl, Nat.reduceEqDiff, ↓reduceIte, beq_self_eq_true, bne_self_eq_false, Int.reduceBEq, Int.reduceBNe, or_self, true_or, or_true, Option.map_some, Option.map_none, hb0, h, decide_true, decide_false, List.length_map, hgk, hf', hgj, htl] <;> (try clear hb0)) | (with_reducible refine And.intro (?_ : regOk _ _ = true) ?_; kernel_rfl) | (with_reducible refine And.intro ?_ ?_; first | omega | assumption | (focus (decide)) | (focus (simp; done)) | (focus (simp; omega)) | (focus (constructor <;> omega)) | fail) | (exfalso; omega))
      exact ⟨i + 1, hi2, by omega, (Weak.auto hcx rfl rfl (Nat.le_of_ble_eq_true rfl) (by simp [go_sem, gL, kL, renOf, V.obj, lk, Nat.blt, Nat.ble, List.map_append, dv_push, hCi]) (by simp [go_sem, gL, kL, renOf, V.obj, lk, Nat.blt, Nat.ble, List.map_append, dv_push, hCi]) (by first | (intro i hi; exact absurd hi (Nat.not_lt_zero _)) | (intro i0 hi0; match i0, hi0 with | 0, _ => exact ⟨_, rfl⟩ | n0+1, h0 => exact absurd h0 (Nat.not_lt.2 (Nat.le_add_left 1 n0))) | (intro i0 hi0; match i0, hi0 with | 0, _ => exact ⟨_, rfl⟩ | 1, _ => exact ⟨_, rfl⟩ | n0+2, h0 => exact absurd h0 (Nat.not_lt.2 (Nat.le_add_left 2 n0))) | (intro i0 hi0; match i0, hi0 with | 0, _ => exact ⟨_, rfl⟩ | 1, _ => exact ⟨_, rfl⟩ | 2, _ => exact ⟨_, rfl⟩ | n0+3, h0 => exact absurd h0 (Nat.not_lt.2 (Nat.le_add_left 3 n0))) | (intro i0 hi0; match i0, hi0 with | 0, _ => exact ⟨_, rfl⟩ | 1, _ => exact ⟨_, rfl⟩ | 2, _ => exact ⟨_, rfl⟩ | 3, _ => exact ⟨_, rfl⟩ | n0+4, h0 => exact absurd h0 (Nat.not_lt.2 (Nat.le_add_left 4 n0)))) (by simp [go_sem, gL, kL, lk, renOf, V.obj, Nat.blt, Nat.ble, hCi]))⟩
    · obtain rfl : i = C.length := by omega
      have htk : C.take C.length = C := List.take_length
      have hi3 : ¬ ((C.length : Int) < (SL.length : Int)) := by omega
      repeat' (first | (refine AW.sreg rfl fun K hK => ?_; simp only [go_sem, Nat.reduceAdd, Nat.reduceMul, Int.reduceToNat, Nat.reduceLT, Nat.reduceLeDiff, Nat.le_refl, Nat.reduceEqDiff, ↓reduceIte, beq_self_eq_true, bne_self_eq_false, Int.reduceBEq, Int.reduceBNe, or_self, true_or, or_true, Option.map_some, Option.map_none, List.length_map, htk]) | (refine AW.sregD hmix rfl fun K hK => ?_; simp only [go_sem, Nat.reduceAdd, Nat.reduceMul, Int.reduceToNat, Nat.reduceLT, Nat.reduceLeDiff, Nat.le_refl, Nat.reduceEqDiff, ↓reduceIte, beq_self_eq_true, bne_self_eq_false, Int.reduceBEq, Int.reduceBNe, or_self, true_or, or_true, Option.map_some, Option.map_none, List.length_map, htk]) | (refine AW.reg rfl ?_; simp only [go_sem, Nat.reduceAdd, Nat.reduceMul, Int.reduceToNat, Nat.reduceLT, Nat.reduceLeDiff, Nat.le_refl, Nat.reduceEqDiff, ↓reduceIte, beq_self_eq_true, bne_self_eq_false, Int.reduceBEq, Int.reduceBNe, or_self, true_or, or_true, Option.map_some, Option.map_none, List.length_map, htk]) | (refine AW.regD hmix rfl ?_; simp only [go_sem, Nat.reduceAdd, Nat.reduceMul, Int.reduceToNat, Nat.reduceLT, Nat.reduceLeDiff, Nat.le_refl, Nat.reduceEqDiff, ↓reduceIte, beq_self_eq_true, bne_self_eq_false, Int.reduceBEq, Int.reduceBNe, or_self, true_or, or_true, Option.map_some, Option.map_none, List.length_map, htk]) | (refine AW.seq_k fun K hK => ?_) | (refine AW.block ?_) | (refine AW.skip ?_; simp only [Then, InBlock]) | (refine AW.exit ?_; simp only [go_sem, ↓reduceIte]) | (refine AW.condT rfl (by first | rfl | (simp; omega) | (simp [*]; done) | fail) ?_) | (refine AW.condF rfl (by first | rfl | (simp; omega) | (simp [*]; done) | fail) ?_) | (refine AW.cond rfl (fun h => ?_) (fun h => ?_) <;> (try simp only [decide_eq_true_eq, decide_eq_false_iff_not, Bool.not_eq_true', Bool.not_eq_false', Bool.not_eq_eq_eq_not, Bool.not_true, Bool.not_false, beq_iff_eq, bne_iff_ne, beq_eq_false_iff_ne, ne_eq, Bool.and_eq_true, Bool.or_eq_true, Bool.or_eq_false_iff] at h)) | (refine hK _ ?_; clear hK K) | (clear hK K; refine hK _ ?_; clear hK K) | (clear hK K; clear hK K; refine hK _ ?_; clear hK K) | (clear hK K; clear hK K; clear hK K; refine hK _ ?_; clear hK K) | (refine stepB_split (fun h => ?_) (fun h => ?_) <;> (have hb0 := h) <;> (try simp only [Bool.not_eq_true', Bool.not_eq_false'] at hb0) <;> (try simp only [decide_eq_true_eq, decide_eq_false_iff_not, Bool.not_eq_true', Bool.not_eq_false', Bool.not_eq_eq_eq_not, Bool.not_true, Bool.not_false, beq_iff_eq, bne_iff_ne, beq_eq_false_iff_ne, ne_eq, Bool.and_eq_true, Bool.or_eq_true, Bool.or_eq_false_iff] at h) <;> simp only [go_sem, Nat.reduceAdd, Nat.reduceMul, Int.reduceToNat, Nat.reduceLT, Nat.reduceLeDiff, Nat.le_refl, Nat.reduceEqDiff, ↓reduceIte, beq_self_eq_true, bne_self_eq_false, Int.reduceBEq, Int.reduceBNe, or_self, true_or, or_true, Option.map_some, Option.map_none, hb0, h, decide_true, decide_false, List.length_map, htk] <;> (try clear hb0)) | (refine stepBT_split (fun h => ?_) (fun h => ?_) <;> (have hb0 := h) <;> (try simp only [Bool.not_eq_true', Bool.not_eq_false'] at hb0) <;> (try simp only [decide_eq_true_eq, decide_eq_false_iff_not, Bool.not_eq_true', Bool.not_eq_false', Bool.not_eq_eq_eq_not, Bool.not_true, Bool.not_false, beq_iff_eq, bne_iff_ne, beq_eq_false_iff_ne, ne_eq, Bool.and_eq_true, Bool.or_eq_true, Bool.or_eq_false_iff] at h) <;> simp only [go_sem, Nat.reduceAdd, Nat.reduceMul, Int.reduceToNat, Nat.reduceLT, Nat.reduceLeDiff, Nat.le_refl, Nat.reduceEqDiff, ↓reduceIte, beq_self_eq_true, bne_self_eq_false, Int.reduceBEq, Int.reduceBNe, or_self, true_or, or_true, Option.map_some, Option.map_none, hb0, h, decide_true, decide_false, List.length_map, htk] <;> (try clear hb0)) | (with_reducible refine And.intro (?_ : regOk _ _ = true) ?_; kernel_rfl) | (with_reducible refine And.intro ?_ ?_; first | omega | assumption | (focus (decide)) | (focus (simp; done)) | (focus (simp; omega)) | (focus (constructor <;> omega)) | fail) | (exfalso; omega))
      exact AW.ret (Fin.data rfl (frz_tup2 (frz_slr (e := 35) (s := 3) (xs := C.map rpD) rfl rfl (by simp)) frz_d) rfl)
end Go.AX
