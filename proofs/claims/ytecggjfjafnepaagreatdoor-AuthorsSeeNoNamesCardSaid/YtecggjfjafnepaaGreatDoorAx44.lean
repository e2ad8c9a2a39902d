/- AX, part 44: regions that draw their order, with calls of which only a relation is known; regions in another order. -/
import Derived.Test.YtecggjfjafnepaaGreatDoorAx22
set_option linter.unusedSimpArgs false
set_option linter.unusedVariables false
namespace Go.AX
open Go

section
variable {P : Program} {cx : Cx} {ops : Array Oper}
theorem stAt_app {st : St} {tr ex : List Tr} : ∀ m, m ≤ tr.length → stAt st ops (tr ++ ex) m = stAt st ops tr m
 | 0, _ => rfl
 | m + 1, h => by
  simp only [stAt, stAt_app (tr := tr) (ex := ex) m (by omega), List.getElem?_append_left (show m < tr.length by omega)]
theorem aRunT_part {st : St} {K : St → List Tr → Prop} : ∀ (m : Nat) (tr : List Tr), tr.length + m ≤ ops.size → aRunT P ops (List.range' tr.length m) (stAt st ops tr tr.length) tr K →
  ∃ ex : List Tr, ex.length = m ∧ (∀ i t, ex[i]? = some t → StepOk P ops (stAt st ops (tr ++ ex) (tr.length + i)) (tr.length + i) t) ∧ K (stAt st ops (tr ++ ex) (tr.length + m)) (tr ++ ex)
 | 0, tr, hk, h => by
  simp only [List.range'_zero, aRunT] at h
  exact ⟨[], rfl, by simp, by simpa using h⟩
 | m + 1, tr, hk, h => by
  have hlt : tr.length < ops.size := by omega
  simp only [List.range'_succ, aRunT, Array.getElem?_eq_getElem hlt] at h
  have next : ∀ t, StepOk P ops (stAt st ops tr tr.length) tr.length t → aRunT P ops (List.range' (tr.length + 1) m) ((stAt st ops tr tr.length).doT (ops[tr.length]).dst t) (tr ++ [t]) K →
    ∃ ex : List Tr, ex.length = m + 1 ∧ (∀ i t, ex[i]? = some t → StepOk P ops (stAt st ops (tr ++ ex) (tr.length + i)) (tr.length + i) t) ∧ K (stAt st ops (tr ++ ex) (tr.length + (m + 1))) (tr ++ ex) := by
   intro t ht hrest
   have e2 : stAt st ops (tr ++ [t]) (tr ++ [t]).length = (stAt st ops tr tr.length).doT (ops[tr.length]).dst t := by
    simp only [List.length_append, List.length_cons, List.length_nil, Nat.zero_add, stAt]
    rw [stAt_snoc t _ (Nat.le_refl _)]
    simp [Array.getElem?_eq_getElem hlt]
   have hl1 : (tr ++ [t]).length = tr.length + 1 := by simp
   obtain ⟨ex, h1, h2, h3⟩ := aRunT_part m (tr ++ [t]) (by rw [hl1]; omega) (by rw [e2, hl1]; exact hrest)
   rw [hl1, List.append_assoc] at h3
   refine ⟨t :: ex, by simp [h1], ?_, by rw [show tr.length + (m + 1) = tr.length + 1 + m by omega]; exact h3⟩
   intro i t' hi
   cases i with
   | zero =>
    simp at hi
    subst hi
    rw [Nat.add_zero, stAt_app _ (Nat.le_refl _)]
    exact ht
   | succ i =>
    have := h2 i t' (by simpa using hi)
    rw [hl1, List.append_assoc] at this
    rw [show tr.length + (i + 1) = tr.length + 1 + i by omega]
    exact this
  split at h
  ·rename_i hw
   obtain ⟨hd, h⟩ := h
   obtain ⟨x, u, rd, h1, h2⟩ := aStepT_split h
   exact next (.step x u rd) ⟨_, Array.getElem?_eq_getElem hlt, hw, hd, h1⟩ h2
  ·rename_i hw
   exact next .skip ⟨_, Array.getElem?_eq_getElem hlt, hw⟩ h
  ·cases h
theorem rangeT_ofP : ∀ (l : List Oper) (i : Nat) (rest : List Oper), ops.toList.drop i = l ++ rest → ∀ (st : St) (tr : List Tr) (K : St → List Tr → Prop), aRunTO P ops i l st tr K → aRunT P ops (List.range' i l.length) st tr K
 | [], _, _, _, _, _, _, h => by simpa [aRunT, aRunTO, List.range'] using h
 | o :: l, i, rest, hd, st, tr, K, h => by
  have ho : ops[i]? = some o := by
   have : (ops.toList.drop i)[0]? = some o := by rw [hd]; rfl
   simpa using this
  have hl : ops.toList.drop (i + 1) = l ++ rest := by
   rw [← List.drop_drop, hd]; rfl
  simp only [List.length_cons, List.range'_succ, aRunT, ho]
  simp only [aRunTO] at h
  split at h
  ·rename_i hw; rw [hw]; exact ⟨h.1, aStepT_mono (fun s t hs => rangeT_ofP l (i + 1) rest hl s _ K hs) h.2⟩
  ·rename_i hw; rw [hw]; exact rangeT_ofP l (i + 1) rest hl _ _ K h
  ·exact h.elim
/-- The state agrees with what the operations listed have left. -/
structure Ag (st : St) (ops : Array Oper) (tr : List Tr) (listed : Array Bool) (S : St) : Prop where
 n : S.n = st.n
 c : S.c = st.c
 env : ∀ t, lk S.env t = eV st ops tr (fun i => listed.getD i false) ops.size t
 hv : ∀ id, S.hv id = hV st tr (fun i => listed.getD i false) ops.size id
theorem RegOk.pre {tr ex : List Tr} (h : RegOk ops (tr ++ ex)) : RegOk ops tr :=
 ⟨h.edge, fun i j oi oj ti tj hij hoi hoj hti htj hc => h.ord i j oi oj ti tj hij hoi hoj (by rw [List.getElem?_append_left (List.getElem?_eq_some_iff.1 hti).1]; exact hti) (by rw [List.getElem?_append_left (List.getElem?_eq_some_iff.1 htj).1]; exact htj) hc⟩
theorem any_until (hgl : Gl P cx) {st : St} {tr : List Tr} {r : Nat} {D : List Nat} {Q : Exit → Act → World → Prop} {F0 : Nat → Prop} (hl : tr.length = r) (hrn : r ≤ ops.size) (hok : RegOk ops tr) (hs : ∀ i t, tr[i]? = some t → i ∈ D ∨ StepOk P ops (stAt st ops tr i) i t)
  (hF0 : ∀ i, i < ops.size → ∀ id, id / 64 = st.c + i → F0 id)
  (hlate : r < ops.size → ∀ k, r < k → k < ops.size → ((befOf ops.toList []).getD k 0).testBit r = true)
  (hQ : r = ops.size → ∀ σ a w, Rel cx (stAt st ops tr ops.size) (fun id => F0 id ∧ ∀ i, i < ops.size → id / 64 ≠ st.c + i) σ a w → Q .normal a w)
  (hrel : r < ops.size → ∀ (fuel : Nat) (listed : Array Bool) (S : St) (σ : Nat → Option Loc) (a : Act) (w : World), listed.size = ops.size → ((List.range ops.size).filter fun i => !listed.getD i false).length ≤ fuel + 1 → Closed ops (fun i => listed.getD i false) →
   (∀ i, r ≤ i → listed.getD i false = false) → (∀ i ∈ D, listed.getD i false = true) → (∀ o, ops[r]? = some o → ∀ e ∈ o.after, Region.binds .any e = true → listed.getD e.on false = true) → Ag st ops tr listed S →
   Rel cx S (fun id => F0 id ∧ ∀ i, i < ops.size → listed.getD i false = true → id / 64 ≠ st.c + i) σ a w → wpOp P ops Q r (wpAny P .any ops Q fuel (listed.setIfInBounds r true)) a w) :
  ∀ (fuel : Nat) (listed : Array Bool) (S : St) (σ : Nat → Option Loc) (a : Act) (w : World), listed.size = ops.size → ((List.range ops.size).filter fun i => !listed.getD i false).length ≤ fuel → Closed ops (fun i => listed.getD i false) →
   (∀ i, r ≤ i → listed.getD i false = false) → (∀ i ∈ D, listed.getD i false = true) →
   S.n = st.n → S.c = st.c → (∀ t, lk S.env t = eV st ops tr (fun i => listed.getD i false) ops.size t) → (∀ id, S.hv id = hV st tr (fun i => listed.getD i false) ops.size id) →
   Rel cx S (fun id => F0 id ∧ ∀ i, i < ops.size → listed.getD i false = true → id / 64 ≠ st.c + i) σ a w → wpAny P .any ops Q fuel listed a w := by
 -- all listed: the end
 have fin : ∀ (listed : Array Bool) (S : St) (σ : Nat → Option Loc) (a : Act) (w : World), listed.size = ops.size → (∀ i, i < ops.size → listed.getD i false = true) → (∀ i, r ≤ i → listed.getD i false = false) →
   S.n = st.n → S.c = st.c → (∀ t, lk S.env t = eV st ops tr (fun i => listed.getD i false) ops.size t) → (∀ id, S.hv id = hV st tr (fun i => listed.getD i false) ops.size id) →
   Rel cx S (fun id => F0 id ∧ ∀ i, i < ops.size → listed.getD i false = true → id / 64 ≠ st.c + i) σ a w → Q .normal a w := by
  intro listed S σ a w _ hall hbr hn hc he hh hr
  have hre : r = ops.size := by
   rcases Nat.lt_or_ge r ops.size with h' | h'
   ·have h1 := hall r h'
    rw [hbr r (Nat.le_refl _)] at h1
    cases h1
   ·omega
  refine hQ hre σ a w (hr.congr ?_ ?_ ?_ ?_)
  ·rw [hn]; exact (stAt_n _).1
  ·intro t
   rw [he, stAt_env t _ (by omega)]
   exact (eV_agree _ fun j hj _ => hall j hj).symm
  ·intro id
   rw [hh, stAt_hv id _ (by omega)]
   exact (hV_agree _ fun j t hj _ _ => hall j hj).symm
  ·intro id ⟨h1, h2⟩
   exact ⟨h1, fun i hi _ => h2 i hi⟩
 -- nothing ready: all listed
 have done : ∀ (listed : Array Bool), listed.size = ops.size → Region.ready .any ops listed = [] → ∀ i, i < ops.size → listed.getD i false = true := by
  intro listed hsz hr i
  induction i using Nat.strongRecOn with
  | _ i ih =>
   intro hi
   cases hli : listed.getD i false with
   | true => rfl
   | false =>
    exfalso
    have hm : i ∈ Region.ready .any ops listed := by
     rw [mem_ready]
     refine ⟨?_, ops[i], Array.getElem?_eq_getElem hi, fun e he hb => ?_⟩
     ·have : i < listed.size := by omega
      simp [this] at hli ⊢
      exact hli
     ·have := hok.edge i _ (Array.getElem?_eq_getElem hi) e he hb
      exact ih e.on this (by omega)
    rw [hr] at hm
    cases hm
 intro fuel
 induction fuel with
 | zero =>
  intro listed S σ a w hsz hcnt hcl hbr hD hn hc he hh hr
  have hall : ∀ i, i < ops.size → listed.getD i false = true := by
   intro i hi
   cases hli : listed.getD i false with
   | true => rfl
   | false =>
    exfalso
    have : i ∈ (List.range ops.size).filter fun i => !listed.getD i false := List.mem_filter.2 ⟨List.mem_range.2 hi, by simp only [hli]; rfl⟩
    have := List.length_pos_of_mem this
    omega
  refine ⟨?_, fin listed S σ a w hsz hall hbr hn hc he hh hr⟩
  cases hrd : Region.ready .any ops listed with
  | nil => rfl
  | cons i r =>
   exfalso
   have hm : i ∈ Region.ready .any ops listed := by rw [hrd]; simp
   rw [mem_ready] at hm
   obtain ⟨h1, o, ho, _⟩ := hm
   have hi : i < ops.size := by
    rcases Nat.lt_or_ge i ops.size with h' | h'
    ·exact h'
    ·simp [Array.getElem?_eq_none h'] at ho
   have h2 := hall i hi
   have h3 : i < listed.size := by omega
   simp [h3] at h1 h2
   rw [h1] at h2
   cases h2
 | succ fuel ih =>
  intro listed S σ a w hsz hcnt hcl hbr hD hn hc he hh hr
  refine ⟨fun hrd => fin listed S σ a w hsz (done listed hsz hrd) hbr hn hc he hh hr, fun i hi => ?_⟩
  rw [mem_ready] at hi
  obtain ⟨hun, o, ho, hpre⟩ := hi
  have hi : i < ops.size := by
   rcases Nat.lt_or_ge i ops.size with h' | h'
   ·exact h'
   ·simp [Array.getElem?_eq_none h'] at ho
  have hil : i < listed.size := by omega
  have hun' : listed.getD i false = false := by simp [hil] at hun ⊢; exact hun
  have hir : i ≤ r := by
   rcases Nat.lt_or_ge r i with h' | h'
   ·exfalso
    have hb := hlate (by omega) i h' hi
    have := closed_bits hcl hok.edge i o ho hpre r hb
    rw [hbr r (Nat.le_refl _)] at this
    cases this
   ·exact h'
  rcases Nat.lt_or_ge i r with hilt | hige
  rotate_left
  ·obtain rfl : i = r := by omega
   exact hrel hi fuel listed S σ a w hsz hcnt hcl hbr hD (fun o' ho' => by rw [ho] at ho'; cases ho'; exact hpre) ⟨hn, hc, he, hh⟩ hr
  obtain ⟨t, htr⟩ : ∃ t, tr[i]? = some t := ⟨_, List.getElem?_eq_getElem (by omega)⟩
  obtain ⟨o', ho', hstep⟩ := (hs i t htr).resolve_left (fun h' => by have := hD i h'; rw [hun'] at this; cases this)
  rw [ho] at ho'
  cases ho'
  -- what conflicts with i and is listed comes ahead of it in the text; what comes ahead of it in the text and conflicts is listed
  have before : ∀ j oj tj, ops[j]? = some oj → tr[j]? = some tj → j < i → confl ops oj o tj t = true → listed.getD j false = true := by
   intro j oj tj hoj htj hji hcf
   have hb := hok.ord j i oj o tj t hji hoj ho htj htr hcf
   exact closed_bits hcl hok.edge i o ho hpre j hb
  have behind : ∀ j oj tj, ops[j]? = some oj → tr[j]? = some tj → i ≤ j → listed.getD j false = true → confl ops o oj t tj = true → False := by
   intro j oj tj hoj htj hij hlj hcf
   rcases Nat.lt_or_ge i j with h' | h'
   ·have hb := hok.ord i j o oj t tj h' ho hoj htr htj hcf
    have := closed_bits hcl hok.edge j oj hoj (fun e he hb => hcl j oj hoj hlj e he hb) i hb
    rw [hun'] at this
    cases this
   ·have : i = j := by omega
    subst this
    rw [hun'] at hlj
    cases hlj
  have getO : ∀ j, j < r → ∃ oj tj, ops[j]? = some oj ∧ tr[j]? = some tj := fun j hj => ⟨_, _, Array.getElem?_eq_getElem (by omega), List.getElem?_eq_getElem (by omega)⟩
  have dstj : ∀ (j : Nat) (oj : Oper), ops[j]? = some oj → ∀ q, (ops[j]?).bind (·.dst) = some q → oj.dst = some q := by
   intro j oj hoj q hq
   rw [hoj] at hq
   simpa using hq
  -- the slots that i looks at
  have agT : ∀ q, q ∈ rtmps ops o → lk S.env q = lk (stAt st ops tr i).env q := by
   intro q hq
   rw [he, stAt_env q i (by omega)]
   rw [eV_past (i := i) ops.size (by omega)]
   ·refine eV_agree i fun j hj hd => ?_
    obtain ⟨oj, tj, hoj, htj⟩ := getO j (by omega)
    refine before j oj tj hoj htj hj ?_
    have := dstj j oj hoj q hd
    simp only [confl, Bool.or_eq_true]
    exact .inl (.inl (.inl (inter_mem (x := q) (by simp [this]) (by simp [hq]))))
   ·intro j hij hj hd
    rcases Nat.lt_or_ge j r with hjr | hjr
    rotate_left
    ·exact hbr j hjr
    obtain ⟨oj, tj, hoj, htj⟩ := getO j hjr
    cases hlj : listed.getD j false with
    | false => rfl
    | true =>
     exfalso
     refine behind j oj tj hoj htj hij hlj ?_
     have := dstj j oj hoj q hd
     simp only [confl, Bool.or_eq_true]
     exact .inl (.inl (.inr (inter_mem (x := q) (by simp [this]) hq)))
  have agI : ∀ id, id ∈ t.rids → S.hv id = (stAt st ops tr i).hv id := by
   intro id hid
   rw [hh, stAt_hv id i (by omega)]
   rw [hV_past (i := i) ops.size (by omega)]
   ·refine hV_agree i fun j tj hj htj hw => ?_
    obtain ⟨oj, tj', hoj, htj'⟩ := getO j (by omega)
    rw [htj] at htj'
    cases htj'
    refine before j oj tj hoj htj hj ?_
    simp only [confl, Bool.or_eq_true]
    exact .inl (.inr (inter_mem (x := id) hw (by simp [hid])))
   ·intro j tj hij hj htj hw
    rcases Nat.lt_or_ge j r with hjr | hjr
    rotate_left
    ·exact hbr j hjr
    obtain ⟨oj, tj', hoj, htj'⟩ := getO j hjr
    rw [htj] at htj'
    cases htj'
    cases hlj : listed.getD j false with
    | false => rfl
    | true =>
     exfalso
     refine behind j oj tj hoj htj hij hlj ?_
     simp only [confl, Bool.or_eq_true]
     exact .inr (inter_mem (x := id) hw hid)
  -- the next state
  have sn := stAt_n (st := st) (ops := ops) (tr := tr) i
  have hset : ∀ j, (listed.setIfInBounds i true).getD j false = if j = i then true else listed.getD j false := fun j => getD_set hil
  have cont : ∀ σ' a' w',
    Rel cx (S.doT o.dst t) (fun id => (F0 id ∧ ∀ j, j < ops.size → listed.getD j false = true → id / 64 ≠ st.c + j) ∧ id / 64 ≠ st.c + i) σ' a' w' → wpAny P .any ops Q fuel (listed.setIfInBounds i true) a' w' := by
   intro σ' a' w' hr'
   refine ih (listed.setIfInBounds i true) (S.doT o.dst t) σ' a' w' (by simpa using hsz) ?_ ?_ (fun j hj => by rw [hset, if_neg (by omega)]; exact hbr j hj) (fun j hj => by rw [hset]; split; rfl; exact hD j hj) ?_ ?_ ?_ ?_ (hr'.congr rfl (fun _ => rfl) (fun _ => rfl) ?_)
   ·have hsub : ((List.range ops.size).filter fun j => !(listed.setIfInBounds i true).getD j false) = ((List.range ops.size).filter fun j => !listed.getD j false).filter fun j => j != i := by
     rw [List.filter_filter]
     refine List.filter_congr fun j _ => ?_
     rw [hset]
     by_cases e : j = i
     ·simp [e]
     ·simp [e]
    rw [hsub]
    have hmem : i ∈ (List.range ops.size).filter fun j => !listed.getD j false := List.mem_filter.2 ⟨List.mem_range.2 hi, by simp only [hun']; rfl⟩
    have hlt : (((List.range ops.size).filter fun j => !listed.getD j false).filter fun j => j != i).length < ((List.range ops.size).filter fun j => !listed.getD j false).length := by
     refine List.length_filter_lt_length_iff_exists.2 ⟨i, hmem, by simp⟩
    omega
   ·intro j oj hoj hlj e he' hb
    simp only [hset] at hlj ⊢
    by_cases e1 : e.on = i
    ·simp [e1]
    ·rw [if_neg e1]
     by_cases e2 : j = i
     ·subst e2
      rw [ho] at hoj
      cases hoj
      exact hpre e he' hb
     ·rw [if_neg e2] at hlj
      exact hcl j oj hoj hlj e he' hb
   ·cases t <;> exact hn
   ·cases t <;> exact hc
   ·intro q
    -- slot q behind the step
    have other : ∀ v, (ops[i]?).bind (·.dst) ≠ some q → lk S.env q = v → eV st ops tr (fun j => (listed.setIfInBounds i true).getD j false) ops.size q = v := by
     intro v hne hv'
     rw [← hv', he]
     refine eV_agree _ fun j hj hd => ?_
     simp only [hset]
     rw [if_neg]
     rintro rfl
     exact hne hd
    have same : o.dst = some q → ∀ v, (match tr[i]? with | some (.step x _ _) => some x | _ => some (V.tup [])) = v → eV st ops tr (fun j => (listed.setIfInBounds i true).getD j false) ops.size q = v := by
     intro hdq v hv'
     rw [eV_past (i := i + 1) ops.size (by omega)]
     ·simp only [eV, hset, if_true, ho, Option.bind_some, hdq, and_self]
      exact hv'
     ·intro j hij hj hd
      rcases Nat.lt_or_ge j r with hjr | hjr
      rotate_left
      ·exact (by simp only [hset]; rw [if_neg (by omega)]; exact hbr j hjr)
      obtain ⟨oj, tj, hoj, htj⟩ := getO j hjr
      simp only [hset]
      rw [if_neg (by omega)]
      cases hlj : listed.getD j false with
      | false => rfl
      | true =>
       exfalso
       refine behind j oj tj hoj htj (by omega) hlj ?_
       have := dstj j oj hoj q hd
       simp only [confl, Bool.or_eq_true]
       exact .inl (.inl (.inl (inter_mem (x := q) (by simp [hdq]) (by simp [this]))))
    cases hdo : o.dst with
    | none =>
     refine (other _ (by rw [ho]; simp [hdo]) ?_).symm
     cases t <;> rfl
    | some d =>
     by_cases e : d = q
     ·subst e
      refine (same hdo _ ?_).symm
      rw [htr]
      cases t with
      | skip => simp [St.doT, St.skip, lk]
      | step x u rd => simp [St.doT, St.put, lk]
     ·refine (other _ (by rw [ho]; simp [hdo, e]) ?_).symm
      cases t with
      | skip => simp [St.doT, St.skip, lk, e]
      | step x u rd => simp [St.doT, St.put, lk, e]
   ·intro id
    have other : id ∉ t.wids → hV st tr (fun j => (listed.setIfInBounds i true).getD j false) ops.size id = S.hv id := by
     intro hne
     rw [hh]
     refine hV_agree _ fun j tj hj htj hw => ?_
     simp only [hset]
     rw [if_neg]
     rintro rfl
     rw [htr] at htj
     cases htj
     exact hne hw
    cases t with
    | skip => exact (other (by simp [Tr.wids])).symm
    | step x u rd =>
     rw [doT_hv]
     cases hl' : lk u id with
     | none =>
      refine (Eq.symm ?_)
      rw [show hV st tr (fun j => (listed.setIfInBounds i true).getD j false) ops.size id = hV st tr (fun j => listed.getD j false) ops.size id from ?_, ← hh]
      -- id is not written by i, though it may stand in its list
      by_cases hmem : id ∈ (Tr.step x u rd).wids
      ·exfalso
       clear other
       simp only [Tr.wids] at hmem
       have : ∀ (u : List (Nat × Option O)), id ∈ u.map (·.1) → lk u id ≠ none := by
        intro u
        induction u with
        | nil => simp
        | cons p u ihu =>
         obtain ⟨k, y⟩ := p
         intro hm
         simp only [lk]
         split
         ·simp
         ·rename_i hk
          refine ihu ?_
          simp only [List.map_cons, List.mem_cons] at hm
          rcases hm with hm | hm
          ·exact absurd hm.symm hk
          ·exact hm
       exact this u hmem hl'
      ·rw [other hmem, hh]
     | some oo =>
      simp only
      rw [hV_past (i := i + 1) ops.size (by omega)]
      ·simp only [hV, hset, if_true, htr, hl']
      ·intro j tj hij hj htj hw
       rcases Nat.lt_or_ge j r with hjr | hjr
       rotate_left
       ·exact (by simp only [hset]; rw [if_neg (by omega)]; exact hbr j hjr)
       obtain ⟨oj, tj', hoj, htj'⟩ := getO j hjr
       rw [htj] at htj'
       cases htj'
       simp only [hset]
       rw [if_neg (by omega)]
       cases hlj : listed.getD j false with
       | false => rfl
       | true =>
        exfalso
        refine behind j oj tj hoj htj (by omega) hlj ?_
        simp only [confl, Bool.or_eq_true]
        exact .inl (.inr (inter_mem (x := id) (mem_wids hl') (by simp [hw])))
   ·intro id ⟨h1, h2⟩
    refine ⟨⟨h1, fun j hj hlj => h2 j hj ?_⟩, h2 i hi ?_⟩
    ·rw [hset]; split
     ·rfl
     ·exact hlj
    ·rw [hset, if_pos rfl]
  unfold wpOp
  rw [ho]
  simp only
  have hwc := want_congr (s := stAt st ops tr i) (S := S) agT
  cases t with
  | skip =>
   have hw := hr.want (hwc.trans hstep)
   rw [hw]
   simp only [Bool.false_eq_true, if_false]
   refine cont σ _ w ((hr.skip o.dst).congr rfl (fun _ => rfl) (fun _ => rfl) ?_)
   intro id ⟨h1, _⟩
   exact h1
  | step x u rd =>
   obtain ⟨hw, hd, hst⟩ := hstep
   have hw' := hr.want (hwc.trans hw)
   rw [hw']
   simp only [if_true]
   refine .inl (step_other hgl hr (s := stAt st ops tr i) (i := i) (by rw [hc, sn.2]) ?_ hst agT (fun id hid => agI id hid) (by intro d hd'; rw [hn, ← sn.1]; exact hd d hd') ?_)
   ·intro id hid
    rw [sn.2] at hid
    refine ⟨hF0 i hi id hid, fun j hj hlj => ?_⟩
    intro e
    have : i = j := by omega
    subst this
    rw [hun'] at hlj
    cases hlj
   ·intro σ' a' w' hr'
    rw [sn.2] at hr'
    exact cont σ' a' w' hr'
/-- One call of which only a relation is known, taken in another state that agrees with the text's on all that it looks at. -/
theorem step_otherI (hgl : Gl P cx) {s S : St} {F : Nat → Prop} {σ : Nat → Option Loc} {a : Act} {w : World} (h : Rel cx S F σ a w) {i : Nat} {o : Oper} {fo : Operand} {args : Array Operand} {ats : Array TypeId} {f : FuncId} {caps : List V} (ho : o.op = .call ⟨.value fo, args, ats⟩) (hf : s.ev fo = .fn f caps)
  {ι : Type} {p : ι → Prop} {x : ι → V} {u : ι → List (Nat × Option O)} {rd : List Nat} (hc : S.c = s.c) (hF : ∀ id, id / 64 = s.c + i → F id)
  (hst : ∀ hv', (∀ id ∈ rd, hv' id = s.hv id) → CallStepI P hv' (s.c + i) f (args.toList.map s.ev ++ caps) p x u) (ht : ∀ t, t ∈ rtmps ops o → lk S.env t = lk s.env t) (hh : ∀ id ∈ rd, S.hv id = s.hv id) (hd : ∀ d, o.dst = some d → d < S.n)
  {K' : Act → World → Prop} {Q : Exit → Act → World → Prop} (hK : ∀ j, p j → ∀ σ' a' w', Rel cx (S.put o.dst (x j) (u j)) (fun id => F id ∧ id / 64 ≠ s.c + i) σ' a' w' → K' a' w') : o.wp P a w K' Q := by
 have hev : ∀ y ∈ o.op.operands, S.ev y = s.ev y := by
  intro y hy
  cases y with
  | tmp t => simp only [St.ev, ht t (mem_rtmps hy)]
  | _ => rfl
 have hs : aStep P S i o (fun st' => ∃ j, p j ∧ st' = S.put o.dst (x j) (u j)) := by
  unfold aStep
  rw [ho] at hev
  simp only [Op.operands, Call.operands] at hev
  have e1 : S.ev fo = s.ev fo := hev fo (by simp)
  have e2 : args.toList.map S.ev = args.toList.map s.ev := List.map_congr_left fun y hy => hev y (by simp; exact .inr (by simpa using hy))
  rw [ho]
  simp only [e1, e2, hc, hf]
  exact ⟨ι, p, x, u, hst _ hh, fun j hj => ⟨j, hj, rfl⟩⟩
 refine aStep_sound hgl h (i := i) (by rw [hc]; exact hF) hd hs (fun st' σ' a' w' _ e hr => ?_) (fun v u => rfl)
 obtain ⟨j, hj, rfl⟩ := e
 rw [hc] at hr
 exact hK j hj σ' a' w' hr
/-- All later operations wait for this one. -/
def lateOk (ops : Array Oper) (r : Nat) : Bool :=
 let b := befOf ops.toList []
 (List.range ops.size).all fun k => decide (k ≤ r) || (b.getD k 0).testBit r
theorem lateOk.of {r : Nat} (h : lateOk ops r = true) : ∀ k, r < k → k < ops.size → ((befOf ops.toList []).getD k 0).testBit r = true := by
 intro k hk hn
 have := List.all_eq_true.1 h k (List.mem_range.2 hn)
 simp only [Bool.or_eq_true, decide_eq_true_eq] at this
 rcases this with h | h
 ·omega
 ·exact h
/-- A call of which only a relation is known. -/
def relStep (P : Program) (ops : Array Oper) (r : Nat) : List Oper → St → List Tr → (List Oper → St → List Tr → Prop) → Prop
 | [], _, _, _ => False
 | o :: rest, st, tr, K => st.want ops o = some true ∧ (∀ d, o.dst = some d → d < st.n) ∧ ∃ (fo : Operand) (args : Array Operand) (ats : Array TypeId) (f : FuncId) (caps : List V), o.op = .call ⟨.value fo, args, ats⟩ ∧ st.ev fo = .fn f caps ∧
   ∃ (ι : Type) (p : ι → Prop) (x : ι → V) (u : ι → List (Nat × Option O)) (rd : List Nat), (regOk ops (tr ++ [.step .top [] rd]) = true ∧ lateOk ops r = true) ∧ (∀ hv', (∀ id ∈ rd, hv' id = st.hv id) → CallStepI P hv' (st.c + r) f (args.toList.map st.ev ++ caps) p x u) ∧
    ∀ j, p j → K rest (st.put o.dst (x j) (u j)) (tr ++ [.step (x j) (u j) rd])
/-- The run of a region; the numbers say how many operations lie ahead of each such call. -/
def aRunS (P : Program) (ops : Array Oper) : List Nat → Nat → List Oper → St → List Tr → (St → List Tr → Prop) → Prop
 | [], i, l, st, tr, K => aRunTO P ops i l st tr K
 | m :: ms, i, l, st, tr, K => aRunTO P ops i (l.take m) st tr fun st' tr' => relStep P ops (i + m) (l.drop m) st' tr' fun l2 st2 tr2 => aRunS P ops ms (i + m + 1) l2 st2 tr2 K
theorem eV_app {st : St} {tr ex : List Tr} {L : Nat → Bool} (hL : ∀ i, tr.length ≤ i → L i = false) (t : Nat) : ∀ m, eV st ops (tr ++ ex) L m t = eV st ops tr L m t
 | 0 => rfl
 | m + 1 => by
  simp only [eV, eV_app hL t m]
  rcases Nat.lt_or_ge m tr.length with h | h
  ·rw [List.getElem?_append_left h]
  ·simp [hL m h]
theorem hV_app {st : St} {tr ex : List Tr} {L : Nat → Bool} (hL : ∀ i, tr.length ≤ i → L i = false) (id : Nat) : ∀ m, hV st (tr ++ ex) L m id = hV st tr L m id
 | 0 => rfl
 | m + 1 => by
  simp only [hV, hV_app hL id m]
  rcases Nat.lt_or_ge m tr.length with h | h
  ·rw [List.getElem?_append_left h]
  ·simp [hL m h]
theorem eV_app2 {st : St} {tr ex : List Tr} {L : Nat → Bool} {t : Nat} : ∀ m, m ≤ tr.length → eV st ops (tr ++ ex) L m t = eV st ops tr L m t
 | 0, _ => rfl
 | m + 1, h => by
  simp only [eV, eV_app2 (tr := tr) (ex := ex) m (by omega), List.getElem?_append_left (show m < tr.length by omega)]
theorem hV_app2 {st : St} {tr ex : List Tr} {L : Nat → Bool} {id : Nat} : ∀ m, m ≤ tr.length → hV st (tr ++ ex) L m id = hV st tr L m id
 | 0, _ => rfl
 | m + 1, h => by
  simp only [hV, hV_app2 (tr := tr) (ex := ex) m (by omega), List.getElem?_append_left (show m < tr.length by omega)]
theorem wpAny_of_S (hgl : Gl P cx) {st : St} {Q : Exit → Act → World → Prop} {F0 : Nat → Prop} (hF0 : ∀ i, i < ops.size → ∀ id, id / 64 = st.c + i → F0 id) {KQ : St → Prop}
  (hQ : ∀ s : St, s.c = st.c → KQ s → ∀ σ a w, Rel cx s (fun id => F0 id ∧ ∀ i, i < ops.size → id / 64 ≠ st.c + i) σ a w → Q .normal a w) :
  ∀ (ms : List Nat) (l : List Oper) (tr : List Tr) (D : List Nat), ops.toList.drop tr.length = l → tr.length ≤ ops.size → (∀ i t, tr[i]? = some t → i ∈ D ∨ StepOk P ops (stAt st ops tr i) i t) → (∀ i ∈ D, i < tr.length) →
   aRunS P ops ms tr.length l (stAt st ops tr tr.length) tr (fun st' tr' => regOk ops tr' = true ∧ KQ st') →
   ∀ (fuel : Nat) (listed : Array Bool) (S : St) (σ : Nat → Option Loc) (a : Act) (w : World), listed.size = ops.size → ((List.range ops.size).filter fun i => !listed.getD i false).length ≤ fuel → Closed ops (fun i => listed.getD i false) →
   (∀ i, tr.length ≤ i → listed.getD i false = false) → (∀ i ∈ D, listed.getD i false = true) → Ag st ops tr listed S →
   Rel cx S (fun id => F0 id ∧ ∀ i, i < ops.size → listed.getD i false = true → id / 64 ≠ st.c + i) σ a w → wpAny P .any ops Q fuel listed a w := by
 intro ms
 induction ms with
 | nil =>
  intro l tr D hdl hle hs hD h fuel listed S σ a w hsz hcnt hcl hbr hDl ag hr
  simp only [aRunS] at h
  have h1 := rangeT_ofP (ops := ops) l tr.length [] (by rw [hdl]; simp) _ _ _ h
  have hll : l.length = ops.size - tr.length := by rw [← hdl]; simp
  obtain ⟨ex, e1, e2, hk, hq⟩ := aRunT_part (st := st) l.length tr (by omega) h1
  have hl2 : (tr ++ ex).length = ops.size := by simp [e1, hll]; omega
  refine any_until hgl (tr := tr ++ ex) (r := ops.size) (D := D) hl2 (Nat.le_refl _) (RegOk.of hk) ?_ hF0 (fun h => absurd h (Nat.lt_irrefl _)) ?_ (fun h => absurd h (Nat.lt_irrefl _)) fuel listed S σ a w hsz hcnt hcl ?_ hDl ag.n ag.c ?_ ?_ hr
  ·intro i t hi
   rcases Nat.lt_or_ge i tr.length with h' | h'
   ·rw [List.getElem?_append_left h'] at hi
    rw [stAt_app i (by omega)]
    exact hs i t hi
   ·rw [List.getElem?_append_right h'] at hi
    have := e2 _ _ hi
    rw [show tr.length + (i - tr.length) = i by omega] at this
    exact .inr this
  ·intro _ σ a w hrel
   rw [show tr.length + l.length = ops.size by omega] at hq
   exact hQ _ (stAt_n _).2 hq σ a w hrel
  ·intro i hi; exact hbr i (by omega)
  ·intro t; rw [eV_app hbr]; exact ag.env t
  ·intro id; rw [hV_app hbr]; exact ag.hv id
 | cons m ms ih =>
  intro l tr D hdl hle hs hD h fuel listed S σ a w hsz hcnt hcl hbr hDl ag hr
  simp only [aRunS] at h
  have h1 := rangeT_ofP (ops := ops) (l.take m) tr.length (l.drop m) (by rw [hdl, List.take_append_drop]) _ _ _ h
  have hll : l.length = ops.size - tr.length := by rw [← hdl]; simp
  have htl : (l.take m).length ≤ l.length := List.length_take_le' _ _
  obtain ⟨ex, e1, e2, hk⟩ := aRunT_part (st := st) (l.take m).length tr (by omega) h1
  cases hdr : l.drop m with
  | nil => rw [hdr] at hk; exact hk.elim
  | cons o rest =>
   rw [hdr] at hk
   have hml : m < l.length := by
    rcases Nat.lt_or_ge m l.length with h' | h'
    ·exact h'
    ·rw [List.drop_eq_nil_of_le h'] at hdr; cases hdr
   have htm : (l.take m).length = m := by rw [List.length_take]; omega
   rw [htm] at hk e1
   obtain ⟨hw, hd, fo, args, ats, f, caps, ho, hf, ι, p, x, u, rd, ⟨hrg, hlt⟩, hcs, hj⟩ := hk
   have hl2 : (tr ++ ex).length = tr.length + m := by simp [e1]
   have hrn : tr.length + m < ops.size := by omega
   have hor : ops[tr.length + m]? = some o := by
    have : (ops.toList.drop (tr.length + m))[0]? = some o := by rw [← List.drop_drop, hdl, hdr]; rfl
    simpa using this
   have hrk := RegOk.of hrg
   have hsx : ∀ i t, (tr ++ ex)[i]? = some t → i ∈ D ∨ StepOk P ops (stAt st ops (tr ++ ex) i) i t := by
    intro i t hi
    rcases Nat.lt_or_ge i tr.length with h' | h'
    ·rw [List.getElem?_append_left h'] at hi
     rw [stAt_app i (by omega)]
     exact hs i t hi
    ·rw [List.getElem?_append_right h'] at hi
     have := e2 _ _ hi
     rw [show tr.length + (i - tr.length) = i by omega] at this
     exact .inr this
   refine any_until hgl (tr := tr ++ ex) (r := tr.length + m) (D := D) hl2 (by omega) hrk.pre hsx hF0 (fun _ => lateOk.of hlt) (fun h => absurd h (by omega)) ?_ fuel listed S σ a w hsz hcnt hcl ?_ hDl ag.n ag.c ?_ ?_ hr
   ·intro _ fuel listed S σ a w hsz hcnt hcl hbr hDl hpre ag hr
    have hrl : tr.length + m < listed.size := by omega
    have hun : listed.getD (tr.length + m) false = false := hbr _ (Nat.le_refl _)
    have hset : ∀ j, (listed.setIfInBounds (tr.length + m) true).getD j false = if j = tr.length + m then true else listed.getD j false := fun j => getD_set hrl
    have sn := stAt_n (st := st) (ops := ops) (tr := tr ++ ex) (tr.length + m)
    -- what the call looks at
    have before : ∀ j oj tj, ops[j]? = some oj → (tr ++ ex)[j]? = some tj → j < tr.length + m → confl ops oj o tj (.step .top [] rd) = true → listed.getD j false = true := by
     intro j oj tj hoj htj hji hcf
     have hb := hrk.ord j (tr.length + m) oj o tj (.step .top [] rd) hji hoj hor (by rw [List.getElem?_append_left (by omega)]; exact htj) (by rw [List.getElem?_append_right (by omega)]; simp [hl2, e1]) hcf
     exact closed_bits hcl hrk.edge (tr.length + m) o hor (hpre o hor) j hb
    have getO : ∀ j, j < tr.length + m → ∃ oj tj, ops[j]? = some oj ∧ (tr ++ ex)[j]? = some tj := fun j hj => ⟨_, _, Array.getElem?_eq_getElem (by omega), List.getElem?_eq_getElem (by omega)⟩
    have agT : ∀ q, q ∈ rtmps ops o → lk S.env q = lk (stAt st ops (tr ++ ex) (tr.length + m)).env q := by
     intro q hq
     rw [ag.env, stAt_env q _ (by omega)]
     rw [eV_past (i := tr.length + m) ops.size (by omega) (fun j hij _ _ => hbr j hij)]
     refine eV_agree _ fun j hj hd => ?_
     obtain ⟨oj, tj, hoj, htj⟩ := getO j hj
     refine before j oj tj hoj htj hj ?_
     have hdj : oj.dst = some q := by rw [hoj] at hd; simpa using hd
     simp only [confl, Bool.or_eq_true]
     exact .inl (.inl (.inl (inter_mem (x := q) (by simp [hdj]) (by simp [hq]))))
    have agI : ∀ id, id ∈ rd → S.hv id = (stAt st ops (tr ++ ex) (tr.length + m)).hv id := by
     intro id hid
     rw [ag.hv, stAt_hv id _ (by omega)]
     rw [hV_past (i := tr.length + m) ops.size (by omega) (fun j _ hij _ _ _ => hbr j hij)]
     refine hV_agree _ fun j tj hj htj hw => ?_
     obtain ⟨oj, tj', hoj, htj'⟩ := getO j hj
     rw [htj] at htj'
     cases htj'
     refine before j oj tj hoj htj hj ?_
     simp only [confl, Bool.or_eq_true]
     exact .inl (.inr (inter_mem (x := id) hw (by simp [Tr.rids, hid])))
    have hwc := want_congr (s := stAt st ops (tr ++ ex) (tr.length + m)) (S := S) agT
    unfold wpOp
    rw [hor]
    simp only
    have hw' := hr.want (hwc.trans hw)
    rw [hw']
    simp only [if_true]
    refine .inl (step_otherI hgl hr (s := stAt st ops (tr ++ ex) (tr.length + m)) (i := tr.length + m) ho hf (by rw [ag.c, sn.2]) ?_ hcs agT agI (by intro d hd'; rw [ag.n, ← sn.1]; exact hd d hd') ?_)
    ·intro id hid
     rw [sn.2] at hid
     refine ⟨hF0 _ hrn id hid, fun j hj hlj e => ?_⟩
     have : tr.length + m = j := by omega
     subst this
     rw [hun] at hlj
     cases hlj
    ·intro j hpj σ' a' w' hr'
     rw [sn.2] at hr'
     have hl3 : (tr ++ ex ++ [Tr.step (x j) (u j) rd]).length = tr.length + m + 1 := by simp [e1]; omega
     have hst3 : stAt st ops (tr ++ ex ++ [Tr.step (x j) (u j) rd]) (tr.length + m + 1) = (stAt st ops (tr ++ ex) (tr.length + m)).put o.dst (x j) (u j) := by
      simp only [stAt]
      rw [stAt_app _ (by omega), List.getElem?_append_right (by omega)]
      simp only [hl2, Nat.sub_self, List.getElem?_cons_zero, St.doT]
      rw [hor]
      rfl
     have hrest : ops.toList.drop (tr ++ ex ++ [Tr.step (x j) (u j) rd]).length = rest := by
      rw [hl3, show tr.length + m + 1 = (tr.length + m) + 1 from rfl, ← List.drop_drop, ← List.drop_drop, hdl, hdr]; rfl
     have hcj := hj j hpj
     rw [← hst3] at hcj
     refine ih rest (tr ++ ex ++ [Tr.step (x j) (u j) rd]) ((tr.length + m) :: D) hrest (by omega) ?_ ?_ (by rw [hl3]; exact hcj) fuel (listed.setIfInBounds (tr.length + m) true) (S.put o.dst (x j) (u j)) σ' a' w' (by simpa using hsz) ?_ ?_ ?_ ?_ ⟨ag.n, ag.c, ?_, ?_⟩ (hr'.congr rfl (fun _ => rfl) (fun _ => rfl) ?_)
     ·intro i t hi
      rcases Nat.lt_or_ge i (tr.length + m) with h' | h'
      ·rw [List.getElem?_append_left (by omega)] at hi
       rw [stAt_app i (by omega)]
       exact (hsx i t hi).imp (fun h => List.mem_cons_of_mem _ h) id
      ·have : i = tr.length + m := by
        have := (List.getElem?_eq_some_iff.1 hi).1
        rw [hl3] at this
        omega
       subst this
       exact .inl (by simp)
     ·intro i hi
      rw [hl3]
      rcases List.mem_cons.1 hi with rfl | hi
      ·omega
      ·have := hD i hi; omega
     ·have hsub : ((List.range ops.size).filter fun q => !(listed.setIfInBounds (tr.length + m) true).getD q false) = ((List.range ops.size).filter fun q => !listed.getD q false).filter fun q => q != tr.length + m := by
       rw [List.filter_filter]
       refine List.filter_congr fun q _ => ?_
       rw [hset]
       by_cases e : q = tr.length + m
       ·simp [e]
       ·simp [e]
      rw [hsub]
      have hmem : tr.length + m ∈ (List.range ops.size).filter fun q => !listed.getD q false := List.mem_filter.2 ⟨List.mem_range.2 hrn, by simp only [hun]; rfl⟩
      have hlt : (((List.range ops.size).filter fun q => !listed.getD q false).filter fun q => q != tr.length + m).length < ((List.range ops.size).filter fun q => !listed.getD q false).length := by
       refine List.length_filter_lt_length_iff_exists.2 ⟨_, hmem, by simp⟩
      omega
     ·intro q oq hoq hlq e he' hb
      simp only [hset] at hlq ⊢
      by_cases e1 : e.on = tr.length + m
      ·simp [e1]
      ·rw [if_neg e1]
       by_cases e2 : q = tr.length + m
       ·subst e2
        rw [hor] at hoq
        cases hoq
        exact hpre o hor e he' hb
       ·rw [if_neg e2] at hlq
        exact hcl q oq hoq hlq e he' hb
     ·intro q hq
      rw [hl3] at hq
      rw [hset, if_neg (by omega)]
      exact hbr q (by omega)
     ·intro q hq
      rw [hset]
      split
      ·rfl
      ·rename_i hne
       rcases List.mem_cons.1 hq with h | h
       ·exact absurd h hne
       ·exact hDl q h
     ·intro q
      rw [show (fun i => (listed.setIfInBounds (tr.length + m) true).getD i false) = fun i => if i = tr.length + m then true else listed.getD i false from funext hset]
      have hpast : ∀ t, eV st ops (tr ++ ex ++ [Tr.step (x j) (u j) rd]) (fun i => if i = tr.length + m then true else listed.getD i false) ops.size t = eV st ops (tr ++ ex ++ [Tr.step (x j) (u j) rd]) (fun i => if i = tr.length + m then true else listed.getD i false) (tr.length + m + 1) t := by
       intro t
       refine eV_past _ (by omega) fun q hq _ _ => ?_
       rw [if_neg (by omega)]
       exact hbr q (by omega)
      have hold : ∀ t, eV st ops (tr ++ ex ++ [Tr.step (x j) (u j) rd]) (fun i => if i = tr.length + m then true else listed.getD i false) (tr.length + m) t = lk S.env t := by
       intro t
       rw [ag.env t, eV_past (i := tr.length + m) ops.size (by omega) (fun q hq _ _ => hbr q hq)]
       rw [eV_agree (L' := fun i => listed.getD i false) (tr.length + m) (fun q hq _ => by rw [if_neg (by omega)])]
       refine eV_app2 _ ?_
       omega
      rw [hpast q]
      simp only [eV, if_true, true_and, hor, Option.bind_some, hold]
      rw [List.getElem?_append_right (by omega)]
      simp only [hl2, Nat.sub_self, List.getElem?_cons_zero]
      cases hdo : o.dst with
      | none => simp [St.put]
      | some d =>
       by_cases e : d = q
       ·simp [St.put, lk, e]
       ·simp [St.put, lk, e]
     ·intro id
      rw [show (fun i => (listed.setIfInBounds (tr.length + m) true).getD i false) = fun i => if i = tr.length + m then true else listed.getD i false from funext hset]
      have hpast : hV st (tr ++ ex ++ [Tr.step (x j) (u j) rd]) (fun i => if i = tr.length + m then true else listed.getD i false) ops.size id = hV st (tr ++ ex ++ [Tr.step (x j) (u j) rd]) (fun i => if i = tr.length + m then true else listed.getD i false) (tr.length + m + 1) id := by
       refine hV_past _ (by omega) fun q _ hq _ _ _ => ?_
       rw [if_neg (by omega)]
       exact hbr q (by omega)
      have hold : hV st (tr ++ ex ++ [Tr.step (x j) (u j) rd]) (fun i => if i = tr.length + m then true else listed.getD i false) (tr.length + m) id = S.hv id := by
       rw [ag.hv id, hV_past (i := tr.length + m) ops.size (by omega) (fun q _ hq _ _ _ => hbr q hq)]
       rw [hV_agree (L' := fun i => listed.getD i false) (tr.length + m) (fun q _ hq _ _ => by rw [if_neg (by omega)])]
       refine hV_app2 _ ?_
       omega
      rw [hpast]
      simp only [hV, if_true, hold]
      rw [List.getElem?_append_right (by omega)]
      simp only [hl2, Nat.sub_self, List.getElem?_cons_zero]
      rw [hv_put]
      rfl
     ·intro id ⟨h1, h2⟩
      refine ⟨⟨h1, fun q hq hlq => h2 q hq ?_⟩, h2 _ hrn ?_⟩
      ·rw [hset]; split
       ·rfl
       ·exact hlq
      ·rw [hset, if_pos rfl]
   ·intro i hi; exact hbr i (by omega)
   ·intro t; rw [eV_app hbr]; exact ag.env t
   ·intro id; rw [hV_app hbr]; exact ag.hv id
/-- An operation, with other numbers. -/
def renOp (q : List Nat) (o : Oper) : Oper := { o with after := ⟨o.after.toList.map fun e => { e with on := q.getD e.on e.on }⟩, guard := match o.guard with
 | some (j, b) => some (q.getD j j, b)
 | none => none }
/-- The operations in another order: p lists the old numbers, q the new ones. -/
def permOps (p q : List Nat) (l : List Oper) : List Oper := p.map fun k => renOp q (l.getD k default)
def permOk (p q : List Nat) (n : Nat) : Bool := p.length == n && q.length == n && (List.range n).all fun i => decide (p.getD i n < n) && (decide (q.getD i n < n) && ((q.getD (p.getD i n) n == i) && (p.getD (q.getD i n) n == i)))
theorem renOp_wp {q : List Nat} {o : Oper} {a : Act} {w : World} {K : Act → World → Prop} {Q : Exit → Act → World → Prop} (h : (renOp q o).wp P a w K Q) : o.wp P a w K Q := h
theorem renOp_asks {q : List Nat} {o : Oper} {a : Act} {w : World} (h : (renOp q o).asks P a w) : o.asks P a w := h
theorem wpAny_perm {l : List Oper} {p q : List Nat} (hp : permOk p q l.length = true) {Q : Exit → Act → World → Prop} : ∀ (fuel : Nat) (listed listed' : Array Bool) (a : Act) (w : World), listed.size = l.length → listed'.size = l.length →
  (∀ k, k < l.length → listed'.getD k false = listed.getD (p.getD k l.length) false) → wpAny P .any ⟨permOps p q l⟩ Q fuel listed' a w → wpAny P .any ⟨l⟩ Q fuel listed a w := by
 simp only [permOk, Bool.and_eq_true, beq_iff_eq, List.all_eq_true, List.mem_range, decide_eq_true_eq] at hp
 obtain ⟨⟨hpl, hql⟩, hpi⟩ := hp
 generalize hn : l.length = n at *
 have gt : ∀ (L : Array Bool), L.size = n → ∀ j, j < n → L.getD j true = L.getD j false := by
  intro L hL j hj
  simp [hL, hj]
 have gf : ∀ (L : Array Bool), L.size = n → ∀ j, n ≤ j → L.getD j false = false := by
  intro L hL j hj
  rw [Array.getD_eq_getD_getElem?, Array.getElem?_eq_none (by omega)]; rfl
 have psz : (permOps p q l).length = n := by simp [permOps, hpl]
 have qd : ∀ j, j < n → q.getD j j = q.getD j n := by
  intro j hj
  simp [List.getD_eq_getElem?_getD, List.getElem?_eq_getElem (show j < q.length by omega)]
 have qo : ∀ j, n ≤ j → q.getD j j = j := by
  intro j hj
  simp [List.getD_eq_getElem?_getD, List.getElem?_eq_none (show q.length ≤ j by omega)]
 have getl : ∀ j, j < n → l[j]? = some (l.getD j default) := by
  intro j hj
  simp [List.getD_eq_getElem?_getD, List.getElem?_eq_getElem (show j < l.length by omega)]
 have getp : ∀ k, k < n → (permOps p q l)[k]? = some (renOp q (l.getD (p.getD k n) default)) := by
  intro k hk
  simp [permOps, List.getD_eq_getElem?_getD, List.getElem?_eq_getElem (show k < p.length by omega)]
 have getq : ∀ i, i < n → (permOps p q l)[q.getD i n]? = some (renOp q (l.getD i default)) := by
  intro i hi
  rw [getp _ (hpi i hi).2.1, (hpi i hi).2.2.2]
 -- what is ready
 have rdy : ∀ (listed listed' : Array Bool), listed.size = n → listed'.size = n → (∀ k, k < n → listed'.getD k false = listed.getD (p.getD k n) false) → ∀ i, i < n → (i ∈ Region.ready .any ⟨l⟩ listed ↔ q.getD i n ∈ Region.ready .any ⟨permOps p q l⟩ listed') := by
  intro listed listed' h1 h2 h3 i hi
  have hq := (hpi i hi).2.1
  rw [mem_ready, mem_ready, gt listed h1 i hi, gt listed' h2 _ hq, h3 _ hq, (hpi i hi).2.2.2]
  refine and_congr_right fun _ => ?_
  have e1 : (⟨l⟩ : Array Oper)[i]? = some (l.getD i default) := by simpa using getl i hi
  have e2 : (⟨permOps p q l⟩ : Array Oper)[q.getD i n]? = some (renOp q (l.getD i default)) := by simpa using getq i hi
  rw [e1, e2]
  simp only [Option.some.injEq, exists_eq_left']
  have hlst : ∀ j, listed'.getD (q.getD j j) false = listed.getD j false := by
   intro j
   rcases Nat.lt_or_ge j n with hj | hj
   ·rw [qd j hj, h3 _ (hpi j hj).2.1, (hpi j hj).2.2.2]
   ·rw [qo j hj, gf listed' h2 j hj, gf listed h1 j hj]
  constructor
  ·intro h e he hb
   obtain ⟨e0, he0, rfl⟩ : ∃ e0 ∈ (l.getD i default).after.toList, ({ e0 with on := q.getD e0.on e0.on } : Edge) = e := by
    have : e ∈ (renOp q (l.getD i default)).after.toList := by simpa using he
    simpa [renOp] using this
   rw [hlst]
   exact h e0 (by simpa using he0) hb
  ·intro h e he hb
   have := h { e with on := q.getD e.on e.on } (by simp only [renOp]; exact Array.mem_def.2 (List.mem_map_of_mem (by simpa using he))) hb
   rwa [hlst] at this
 have rlt : ∀ (listed : Array Bool) i, i ∈ Region.ready .any ⟨l⟩ listed → i < n := by
  intro listed i hi
  rw [mem_ready] at hi
  obtain ⟨_, o, ho, _⟩ := hi
  have := (Array.getElem?_eq_some_iff.1 ho).1
  simpa [hn] using this
 have rlt' : ∀ (listed : Array Bool) i, i ∈ Region.ready .any ⟨permOps p q l⟩ listed → i < n := by
  intro listed i hi
  rw [mem_ready] at hi
  obtain ⟨_, o, ho, _⟩ := hi
  have := (Array.getElem?_eq_some_iff.1 ho).1
  simpa [psz] using this
 have emp : ∀ (listed listed' : Array Bool), listed.size = n → listed'.size = n → (∀ k, k < n → listed'.getD k false = listed.getD (p.getD k n) false) → (Region.ready .any ⟨l⟩ listed = [] ↔ Region.ready .any ⟨permOps p q l⟩ listed' = []) := by
  intro listed listed' h1 h2 h3
  constructor
  ·intro h
   cases hr : Region.ready .any ⟨permOps p q l⟩ listed' with
   | nil => rfl
   | cons k r =>
    exfalso
    have hk : k ∈ Region.ready .any ⟨permOps p q l⟩ listed' := by rw [hr]; simp
    have hkn := rlt' _ _ hk
    have := (rdy listed listed' h1 h2 h3 (p.getD k n) (hpi k hkn).1).2 (by rw [(hpi k hkn).2.2.1]; exact hk)
    rw [h] at this
    cases this
  ·intro h
   cases hr : Region.ready .any ⟨l⟩ listed with
   | nil => rfl
   | cons k r =>
    exfalso
    have hk : k ∈ Region.ready .any ⟨l⟩ listed := by rw [hr]; simp
    have := (rdy listed listed' h1 h2 h3 k (rlt _ _ hk)).1 hk
    rw [h] at this
    cases this
 have yl : ∀ (tmps : Array Value) j, yielded ⟨permOps p q l⟩ tmps (q.getD j j) = yielded ⟨l⟩ tmps j := by
  intro tmps j
  unfold yielded
  have : ((⟨permOps p q l⟩ : Array Oper)[q.getD j j]?).bind (·.dst) = ((⟨l⟩ : Array Oper)[j]?).bind (·.dst) := by
   rcases Nat.lt_or_ge j n with hj | hj
   ·have e1 : (⟨l⟩ : Array Oper)[j]? = some (l.getD j default) := by simpa using getl j hj
    have e2 : (⟨permOps p q l⟩ : Array Oper)[q.getD j n]? = some (renOp q (l.getD j default)) := by simpa using getq j hj
    rw [qd j hj, e1, e2]
    rfl
   ·rw [qo j hj, Array.getElem?_eq_none (by simpa [psz] using hj), Array.getElem?_eq_none (by simpa [hn] using hj)]
  rw [this]
 have wt : ∀ (tmps : Array Value) (o : Oper), Region.wanted (renOp q o) (yielded ⟨permOps p q l⟩ tmps) = Region.wanted o (yielded ⟨l⟩ tmps) := by
  intro tmps o
  unfold Region.wanted renOp
  cases hg : o.guard with
  | none => rfl
  | some g =>
   obtain ⟨j, b⟩ := g
   simp only [yl]
 intro fuel
 induction fuel with
 | zero =>
  intro listed listed' a w h1 h2 h3 h
  exact ⟨(emp listed listed' h1 h2 h3).2 h.1, h.2⟩
 | succ fuel ih =>
  intro listed listed' a w h1 h2 h3 h
  refine ⟨fun hr => h.1 ((emp listed listed' h1 h2 h3).1 hr), fun i hi => ?_⟩
  have hin := rlt _ _ hi
  have hqi := (hpi i hin).2.1
  have hw := h.2 _ ((rdy listed listed' h1 h2 h3 i hin).1 hi)
  have hw2 := wpOp_mono (K' := wpAny P .any ⟨l⟩ Q fuel (listed.setIfInBounds i true)) (fun a' w' h' => ih _ (listed'.setIfInBounds (q.getD i n) true) a' w' (by simpa using h1) (by simpa using h2) (fun k hk => by
   rw [getD_set (by omega), getD_set (by omega), h3 k hk]
   by_cases e : k = q.getD i n
   ·subst e
    rw [if_pos rfl, if_pos (hpi i hin).2.2.2]
   ·rw [if_neg e, if_neg]
    intro e2
    have := (hpi k hk).2.2.1
    rw [e2] at this
    exact e this.symm) h') hw
  unfold wpOp at hw2 ⊢
  have e1 : (⟨l⟩ : Array Oper)[i]? = some (l.getD i default) := by simpa using getl i hin
  have e2 : (⟨permOps p q l⟩ : Array Oper)[q.getD i n]? = some (renOp q (l.getD i default)) := by simpa using getq i hin
  rw [e2] at hw2
  rw [e1]
  simp only [wt] at hw2 ⊢
  split at hw2
  ·rename_i hc
   rw [if_pos hc]
   exact hw2.imp renOp_wp fun h => ⟨renOp_asks h.1, h.2⟩
  ·rename_i hc
   rw [if_neg hc]
   exact hw2
/-- A region that draws its order, with such calls; its operations in another order. -/
theorem AW.regionDS {id : Nat} {l l' : List Oper} {Q : Exit → St → Prop} {st : St} (hm : P.follows .mixedOrders = true) (p q : List Nat) (hp : permOk p q l.length = true) (hl : permOps p q l = l') (ms : List Nat)
  (h : aRunS P ⟨l'⟩ ms 0 l' st [] fun st' tr => regOk ⟨l'⟩ tr = true ∧ Q .normal (st'.bump l.length)) : AW P cx (.region id ⟨l⟩ true) Q st := by
 intro hgl σ a w hr
 subst hl
 have hln : (permOps p q l).length = l.length := by
  simp only [permOk, Bool.and_eq_true, beq_iff_eq] at hp
  simp [permOps, hp.1.1]
 refine wp_region_any hm ?_
 have hr1 : Rel cx st (fun id => st.c ≤ id / 64) σ a { w with drawn := w.drawn + 1 } := hr.world rfl rfl rfl rfl
 have gl : ∀ (n i : Nat), (Array.replicate n false).getD i false = false := by
  intro n i
  by_cases hi : i < n <;> simp [hi]
 refine wpAny_perm hp l.length _ (Array.replicate l.length false) a _ (by simp) (by simp) (fun k _ => by rw [gl, gl]) ?_
 have e0 : ∀ m t, eV st ⟨permOps p q l⟩ [] (fun i => (Array.replicate l.length false).getD i false) m t = lk st.env t := by
  intro m t
  induction m with
  | zero => rfl
  | succ m ih => rw [eV, gl _ m, if_neg (by simp)]; exact ih
 have h0 : ∀ m i, hV st [] (fun i => (Array.replicate l.length false).getD i false) m i = st.hv i := by
  intro m i
  induction m with
  | zero => rfl
  | succ m ih => rw [hV, gl _ m, if_neg (by simp)]; exact ih
 refine wpAny_of_S (ops := ⟨permOps p q l⟩) hgl (st := st) (F0 := fun id => st.c ≤ id / 64) (KQ := fun s => Q .normal (s.bump l.length)) (fun i _ id hid => by omega) ?_ ms (permOps p q l) [] [] rfl (Nat.zero_le _) (by simp) (by simp) h l.length (Array.replicate l.length false) st σ a _ (by simp [hln]) ?_ ?_ (fun i _ => gl _ i) (by simp) ⟨rfl, rfl, fun t => (e0 _ t).symm, fun i => (h0 _ i).symm⟩ (hr1.congr rfl (fun _ => rfl) (fun _ => rfl) fun _ h => h.1)
 ·intro s hsc hq σ' a' w' hr'
  refine ⟨_, σ', hq, ?_⟩
  refine ⟨hr'.hr, fun id hid => hr'.fresh id ?_, hr'.par, hr'.tmps, hr'.defers, hr'.env⟩
  simp only [St.bump] at hid
  rw [hsc] at hid
  refine ⟨by omega, fun i hi => ?_⟩
  have : i < l.length := by simpa [hln] using hi
  omega
 ·have := List.length_filter_le (fun i => !(Array.replicate l.length false).getD i false) (List.range (⟨permOps p q l⟩ : Array Oper).size)
  simpa [hln] using this
 ·intro i o _ hi
  simp only [gl] at hi
  cases hi
theorem AW.sregDS {id n : Nat} {l l' : List Oper} {y : Code} {Q : Exit → St → Prop} {st : St} (hm : P.follows .mixedOrders = true) (p q : List Nat) (ms : List Nat) (hn : l.length = n) (hp : permOk p q l.length = true) (hl : permOps p q l = l')
  (h : ∀ K : St → Prop, (∀ s, AW P cx y Q s → K s) → aRunS P ⟨l'⟩ ms 0 l' st [] fun st' tr => regOk ⟨l'⟩ tr = true ∧ K (st'.bump n)) : AW P cx (.seq (.region id ⟨l⟩ true) y) Q st := by
 subst hn
 exact AW.seq_k fun K hK => AW.regionDS hm p q hp hl ms (h K hK)
/-- Such a call, met by its contract. -/
theorem relStep_call {r : Nat} {rest : List Oper} {st : St} {tr : List Tr} {KT : List Oper → St → List Tr → Prop} {dst : Option Nat} {fo : Operand} {args : Array Operand} {ats : Array TypeId} {ty : TypeId} {pos : String} {af : Array Edge} {gd : Option (Nat × Bool)} {f : FuncId} {caps : List V} {ι : Type} {p : ι → Prop} {x : ι → V} {u : ι → List (Nat × Option O)}
  (as : List V) (nid : Nat) (rd : List Nat) (hc : ∀ hv, (∀ id ∈ rd, hv id = st.hv id) → CallStepI P hv nid f as p x u)
  (hf : st.ev fo = .fn f caps) (hw : st.want ops ⟨dst, .call ⟨.value fo, args, ats⟩, ty, pos, af, gd⟩ = some true) (hd : dstOk dst st.n) (has : args.toList.map st.ev ++ caps = as) (hn : st.c + r = nid)
  (hr : regOk ops (tr ++ [.step .top [] rd]) = true ∧ lateOk ops r = true) (k : ∀ j, p j → KT rest (st.put dst (x j) (u j)) (tr ++ [.step (x j) (u j) rd])) : relStep P ops r (⟨dst, .call ⟨.value fo, args, ats⟩, ty, pos, af, gd⟩ :: rest) st tr KT := by
 refine ⟨hw, hd, fo, args, ats, f, caps, rfl, hf, ι, p, x, u, rd, hr, ?_, k⟩
 rw [has, hn]
 exact hc
@[go_sem] theorem aRunS_nil {i : Nat} {l : List Oper} {st : St} {tr : List Tr} {K : St → List Tr → Prop} : aRunS P ops [] i l st tr K = aRunTO P ops i l st tr K := rfl
@[go_sem] theorem aRunS_cons {m : Nat} {ms : List Nat} {i : Nat} {l : List Oper} {st : St} {tr : List Tr} {K : St → List Tr → Prop} : aRunS P ops (m :: ms) i l st tr K = aRunTO P ops i (l.take m) st tr fun st' tr' => relStep P ops (i + m) (l.drop m) st' tr' fun l2 st2 tr2 => aRunS P ops ms (i + m + 1) l2 st2 tr2 K := rfl
end
end Go.AX
