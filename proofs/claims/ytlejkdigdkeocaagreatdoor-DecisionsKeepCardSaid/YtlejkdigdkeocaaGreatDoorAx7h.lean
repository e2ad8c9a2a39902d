/- AX, part 7h: ranging over a map. -/
import Derived.Test.YtlejkdigdkeocaaGreatDoorAx7g
import Derived.Maps.RangeRun
set_option linter.unusedSimpArgs false
set_option linter.unusedVariables false
namespace Go.AX
open Go

def aRange (P : Program) (hv : Nat → Option O) (t : TypeId) (x : V) (nid : Nat) : Option Res := match tiOf P t with
  | some ⟨.map _ _, _, _, _⟩ => match x with
    | .mpr id => match hv id with
      | some (.map ks _) => some ⟨.ptr nid 0, [(nid, some (.miter (.mpr id) ks.length none (.lst [])))], True⟩
      | _ => none
    | .d (.map ks vs) => some ⟨.ptr nid 0, [(nid, some (.miter (.d (.map ks vs)) ks.length none (.lst [])))], True⟩
    | _ => none
  | _ => none
def aEntry (hv : Nat → Option O) (x : V) : Option Res := match x with
  | .ptr id 0 => match hv id with
    | some (.miter m n (some j) _) => match mapOf hv m with
      | some (ks, vs) => if ks.length = n then (match ks[j]?, vs[j]? with
        | some k, some v => some ⟨.tup [.d k, v], [], True⟩
        | _, _ => none) else none
      | none => none
    | _ => none
  | _ => none

section
variable {P : Program} {cx : Cx} {hv : Nat → Option O} {σ : Nat → Option Loc} {w : World} {nid : Nat} {ρ : Operand → Value} {ev : Operand → V}

/-- What a map holds. -/
theorem mapOf_sound2 (h : HR cx hv σ w) {x : V} {b : Nat} (hx : RV w (okB cx w hv σ) σ x (.map (some b))) {ks : List D} {vs : List V} (hm : mapOf hv x = some (ks, vs)) :
    ∃ (es : Array MapEntry) (clock : Nat), w.heap[b]? = some (.map es clock) ∧ Births es clock ∧ es.size = ks.length ∧ RDcs w (okB cx w hv σ) (es.map (·.key)) 0 ks ∧ RVl w (okB cx w hv σ) σ vs (es.map (·.val)).toList := by
  cases x with
  | d y =>
    cases y with
    | map ks' vs' =>
      simp only [mapOf] at hm
      cases hm
      simp only [RV, RD] at hx
      obtain ⟨r, hreq, hr⟩ := hx
      cases hreq
      rcases hr with ⟨h0, _⟩ | ⟨b, es, clock, hb0, _, hb, hB, h1, h2, h3, h4⟩
      · cases h0
      · cases hb0
        refine ⟨es, clock, hb, hB, h1, h3, ?_⟩
        have := RVl_dmap (σ := σ) (p := 0) (by simpa using h2) h4
        simpa using this
    | _ => simp [mapOf] at hm
  | mpr id =>
    simp only [mapOf] at hm
    split at hm
    · rename_i ks' vs' hid
      cases hm
      simp only [RV] at hx
      obtain ⟨b, K, s, hs, hbe⟩ := hx
      cases hbe
      obtain ⟨b', K', s', es, clock, hs', hb, hB, h1, h3, h4⟩ := h.own id _ hid
      rw [hs] at hs'
      cases hs'
      exact ⟨es, clock, hb, hB, h1, h3, h4⟩
    · cases hm
  | _ => simp [mapOf] at hm

theorem aRange_sound (h : HR cx hv σ w) (hn : σ nid = none) (hev : ∀ x, RV w (okB cx w hv σ) σ (ev x) (ρ x)) {t : TypeId} {x : Operand} {o : Oper} {r : Res} (ho : o.op = .range t x) (hr : aRange P hv t (ev x) nid = some r) : Sound P cx hv σ w nid ρ o r := by
  have hx := hev x
  unfold aRange at hr
  split at hr
  case h_2 => cases hr
  rename_i kt et _ _ _ hti
  obtain ⟨ii, d, zv, h1, h2, h3, h4, _⟩ := tiOf_spec hti
  have := tuOf_map h4
  subst this
  have fin : ∀ ks vs m, mapOf hv (ev x) = some (ks, vs) → ρ x = .map (some m) → r = ⟨.ptr nid 0, [(nid, some (.miter (ev x) ks.length none (.lst [])))], True⟩ → Sound P cx hv σ w nid ρ o r := by
    intro ks vs m hm hxv hreq
    subst hreq
    rw [hxv] at hx
    obtain ⟨es, clock, hb, hB, hl, _, _⟩ := mapOf_sound2 h hx hm
    have hc : clock = ks.length := by rw [hB.1, hl]
    obtain ⟨g1, g2, g3⟩ := h.alloc hn (hv_none_of_fresh h hn) (.mapIter (some m) clock #[] clock) (.miter (ev x) ks.length none (.lst [])) 0 0 (by
      intro σ' ok' hσ hok hnew
      refine ⟨w.heap.size, 0, 0, some m, #[], hnew, by rw [alloc_new, hc], RV_mono hok hσ _ _ hx, by simp, by simp, by simp, ⟨rfl, Nat.zero_le _⟩, by simp⟩)
    refine ⟨.pointer (some ⟨w.heap.size, 0, none⟩), w.alloc (.mapIter (some m) clock #[] clock), _, .inl ?_, ?_, fun id hid => upd_other _ _ hid, g2, ?_, ?_⟩
    · simp only [execOp, ho, hxv, Instr.range, Sem.run_bind, run_underlying' h2, Result.andThen_ok, run_getMap hb, Sem.run_pure, run_newObj_alloc]
    · rw [app_one]; exact g1
    · rw [app_one]; exact g3
    · simp only [RV]; exact ⟨w.heap.size, 0, 0, upd_same _ _ _, rfl⟩
  split at hr
  · rename_i id ex
    split at hr
    case h_2 => cases hr
    rename_i ks vs hid
    have hx2 := hx
    rw [ex] at hx2
    simp only [RV] at hx2
    obtain ⟨b, K, s, hs, hv'⟩ := hx2
    injection hr with hr
    exact fin ks vs b (by rw [ex]; simp only [mapOf, hid]) hv' (by rw [ex]; exact hr.symm)
  · rename_i ks vs ex
    have hx2 := hx
    rw [ex] at hx2
    simp only [RV, RD] at hx2
    obtain ⟨m, hv', hm⟩ := hx2
    injection hr with hr
    rcases hm with ⟨rfl, rfl, hvs0⟩ | ⟨b, es, clock, rfl, _⟩
    · subst hr
      obtain ⟨g1, g2, g3⟩ := h.alloc hn (hv_none_of_fresh h hn) (.mapIter none 0 #[] 0) (.miter (.d (.map [] vs)) 0 none (.lst [])) 0 0 (by
        intro σ' ok' hσ hok hnew
        refine ⟨w.heap.size, 0, 0, none, #[], hnew, by rw [alloc_new], ?_, by simp, by simp, by simp, ⟨rfl, Nat.le_refl _⟩, by simp⟩
        have := RV_mono hok hσ _ _ hx
        rw [ex, hv'] at this
        exact this)
      refine ⟨.pointer (some ⟨w.heap.size, 0, none⟩), w.alloc (.mapIter none 0 #[] 0), _, .inl ?_, ?_, fun id hid => upd_other _ _ hid, g2, ?_, ?_⟩
      · simp only [execOp, ho, hv', Instr.range, Sem.run_bind, run_underlying' h2, Result.andThen_ok, Sem.run_pure, run_newObj_alloc]
      · rw [app_one]; exact g1
      · rw [app_one]; exact g3
      · simp only [RV]; exact ⟨w.heap.size, 0, 0, upd_same _ _ _, rfl⟩
    · exact fin ks (vs.map .d) b (by rw [ex]; rfl) hv' (by rw [ex]; exact hr.symm)
  · cases hr

/-- The entry at a place. -/
theorem entry_at {ks : List D} {vs : List V} {es : Array MapEntry} {ok : Nat → Prop} (hk : RDcs w ok (es.map (·.key)) 0 ks) (hv' : RVl w ok σ vs (es.map (·.val)).toList) {j : Nat} {k : D} {v : V} (h1 : ks[j]? = some k) (h2 : vs[j]? = some v) :
    ∃ e, es[j]? = some e ∧ RD w ok k e.key ∧ RV w ok σ v e.val := by
  obtain ⟨kv, e1, e2⟩ := RDcs_get hk h1
  obtain ⟨vv, e3, e4⟩ := RVl_get hv' h2
  rw [Nat.zero_add, Array.getElem?_map] at e1
  cases he : es[j]? with
  | none => rw [he] at e1; cases e1
  | some e =>
    rw [he] at e1
    simp only [Option.map_some, Option.some.injEq] at e1
    simp only [Array.toList_map, List.getElem?_map, Array.getElem?_toList, he, Option.map_some, Option.some.injEq] at e3
    exact ⟨e, rfl, by rw [e1]; exact e2, by rw [e3]; exact e4⟩

theorem births_nodup {es : Array MapEntry} {clock : Nat} (hB : Births es clock) : (es.toList.map (·.born)).Nodup := by
  have e : es.toList.map (·.born) = List.range es.size := by
    apply List.ext_getElem?
    intro i
    rw [List.getElem?_map]
    rcases Nat.lt_or_ge i es.size with h | h
    · rw [Array.getElem?_toList, Array.getElem?_eq_getElem h, List.getElem?_range h]
      simp [hB.2 i es[i] (Array.getElem?_eq_getElem h)]
    · rw [List.getElem?_eq_none (by simpa using h), List.getElem?_eq_none (by simpa using h)]
      rfl
  rw [e]
  exact List.nodup_range
theorem nodup_len : ∀ {l m : List Nat}, l.Nodup → (∀ x ∈ l, x ∈ m) → l.length ≤ m.length
  | [], _, _, _ => Nat.zero_le _
  | x :: l, m, hn, hs => by
    obtain ⟨h1, h2⟩ := List.nodup_cons.1 hn
    have hx := hs x (by simp)
    have := nodup_len (m := m.erase x) h2 (fun y hy => (List.mem_erase_of_ne (by rintro rfl; exact h1 hy)).2 (hs y (by simp [hy])))
    rw [List.length_erase_of_mem hx] at this
    have := List.length_pos_of_mem hx
    simp
    omega

theorem aEntry_sound (h : HR cx hv σ w) (hev : ∀ x, RV w (okB cx w hv σ) σ (ev x) (ρ x)) {x : Operand} {o : Oper} {r : Res} (ho : o.op = .entry x) (hr : aEntry hv (ev x) = some r) : Sound P cx hv σ w nid ρ o r := by
  have hx := hev x
  unfold aEntry at hr
  split at hr
  case h_2 => cases hr
  rename_i id ex
  split at hr
  case h_2 => cases hr
  rename_i m n j left hid
  split at hr
  case h_2 => cases hr
  rename_i ks vs hm
  split at hr
  case isFalse => cases hr
  rename_i hn
  split at hr
  case h_2 => cases hr
  rename_i k v hk hv'
  cases hr
  rw [ex] at hx
  simp only [RV] at hx
  obtain ⟨b, K, s, hs, hxv⟩ := hx
  obtain ⟨b', K', s', mo, seen, hs', hb, hmv, hno, hnd, hlt, hsz, hcur⟩ := h.own id _ hid
  rw [hs] at hs'
  cases hs'
  cases mo with
  | none =>
    have := hno rfl
    rw [List.getElem?_eq_none (by omega)] at hk
    cases hk
  | some mb =>
  obtain ⟨es, clock, hmb, hB, hl, hks, hvs⟩ := mapOf_sound2 h hmv hm
  obtain ⟨e, he, hek, hev2⟩ := entry_at hks hvs hk hv'
  obtain ⟨q, hq⟩ := hcur j rfl
  have hborn : e.born = j := hB.2 j e he
  have hc : clock = n := by rw [hB.1, hl, hn]
  have hb2 : w.heap[b]? = some (.mapIter (some mb) n (q.push e.born) clock) := by rw [hb, hq, hborn, hc]
  refine sound_value h rfl (v := .tuple #[e.key, e.val]) ?_ ?_
  · have hrun := run_entry_at (P := P) w b mb n q es clock e hb2 hmb (by simpa using Array.mem_of_getElem? he) (births_nodup hB)
    simp only [execOp, ho, hxv, Sem.run_bind, hrun, Result.andThen_ok, Sem.run_pure]
  · simp only [RV]
    refine ⟨#[e.key, e.val], rfl, ?_⟩
    simp only [RVl, RV]
    exact ⟨e.key, [e.val], rfl, hek, e.val, [], rfl, hev2, rfl⟩

/-- A step over the map: nothing is left; or some entry comes, and one fewer is left. -/
theorem next_sound (h : HR cx hv σ w) {o : Oper} {it : Operand} (ho : o.op = .next it false) {id : Nat} {m : V} {n : Nat} {left : Lf} {cur : Option Nat} {ks : List D} {vs : List V} (hx : RV w (okB cx w hv σ) σ (.ptr id 0) (ρ it)) (hid : hv id = some (.miter m n cur left))
    (hm : mapOf hv m = some (ks, vs)) (hn : ks.length = n) (hvl : vs.length = n) :
    (left.done n ∧ Sound P cx hv σ w nid ρ o ⟨.tup [.d (.bool false)], [], True⟩) ∨
    (∃ (j : Nat) (k : D) (v : V), left.may j ∧ ks[j]? = some k ∧ vs[j]? = some v ∧ Sound P cx hv σ w nid ρ o ⟨.tup [.d (.bool true), .d k, v], [(id, some (.miter m n (some j) (left.next j)))], True⟩) := by
  simp only [RV] at hx
  obtain ⟨b, K, s, hs, hxv⟩ := hx
  obtain ⟨b', K', s', mo, seen, hs', hb, hmv, hno, hnd, hlt, hsz, hcur⟩ := h.own id _ hid
  rw [hs] at hs'
  cases hs'
  cases mo with
  | none =>
    left
    have hn0 := hno rfl
    refine ⟨?_, ?_⟩
    · cases left with
      | cnt l => simp only [Lf.ok] at hsz; simp only [Lf.done]; omega
      | lst s => intro i hi; omega
    · refine sound_value h rfl (v := .tuple #[.bool false]) ?_ ?_
      · have hrun : (Instr.next (.pointer (some ⟨b, 0, none⟩)) false o.type).run P w = .ok (.tuple #[.bool false]) w := by
          simp only [Instr.next, getObj, Sem.run_bind, Sem.run, hb, Result.andThen]
          rfl
        simp only [execOp, ho, hxv, Sem.run_bind, hrun, Result.andThen_ok, Sem.run_pure]
      · simp only [RV]
        refine ⟨#[.bool false], rfl, ?_⟩
        simp only [RVl, RV, RD]
        exact ⟨_, [], rfl, rfl, rfl⟩
  | some mb =>
  obtain ⟨es, clock, hmb, hB, hl, hks, hvs⟩ := mapOf_sound2 h hmv hm
  have hc : clock = n := by rw [hB.1, hl, hn]
  have hold : ∀ x ∈ es.toList, x.born < n := by
    intro x hx
    obtain ⟨i, hi⟩ := List.getElem?_of_mem hx
    have hi' : es[i]? = some x := by simpa using hi
    rw [hB.2 i x hi']
    have : i < es.size := by
      rcases Nat.lt_or_ge i es.size with h' | h'
      · exact h'
      · simp [Array.getElem?_eq_none h'] at hi'
    omega
  have hleft : ∀ i e, es[i]? = some e → (e ∈ (leftOf es seen).toList ↔ i ∉ seen.toList) := by
    intro i e he
    simp only [leftOf, Array.toList_filter, List.mem_filter, hB.2 i e he]
    have hmem : e ∈ es.toList := by simpa using Array.mem_of_getElem? he
    simp [hmem]
  rcases run_next_at (P := P) w o.type b mb n n seen es clock hb hmb hold (Nat.le_refl _) with ⟨h0, hrun⟩ | ⟨e, he, w1, hw1, hrun⟩
  · left
    have hall : ∀ i, i < n → i ∈ seen.toList := by
      intro i hi
      have hie : es[i]? = some es[i] := Array.getElem?_eq_getElem (by omega)
      by_cases hmem : i ∈ seen.toList
      · exact hmem
      · have := (hleft i _ hie).2 hmem
        have hnil : (leftOf es seen).toList = [] := by simpa using h0
        rw [hnil] at this
        cases this
    have hge : n ≤ seen.toList.length := by
      have hsub : (List.range n) ⊆ seen.toList := fun i hi => hall i (List.mem_range.1 hi)
      have := nodup_len (List.nodup_range (n := n)) hsub
      simpa using this
    refine ⟨?_, ?_⟩
    · cases left with
      | cnt l => simp only [Lf.ok] at hsz; simp only [Lf.done]; simp at hge hsz; omega
      | lst s => intro i hi; rw [← hsz.1]; exact hall i hi
    refine sound_value h rfl (v := .tuple #[.bool false]) ?_ ?_
    · simp only [execOp, ho, hxv, Sem.run_bind, hrun, Result.andThen_ok, Sem.run_pure]
    · simp only [RV]
      refine ⟨#[.bool false], rfl, ?_⟩
      simp only [RVl, RV, RD]
      exact ⟨_, [], rfl, rfl, rfl⟩
  · right
    have hes : e ∈ es.toList := by
      simp only [leftOf, Array.toList_filter, List.mem_filter] at he
      exact he.1
    obtain ⟨j, hj⟩ := List.getElem?_of_mem hes
    have hj' : es[j]? = some e := by simpa using hj
    have hjn : j < es.size := by
      rcases Nat.lt_or_ge j es.size with h' | h'
      · exact h'
      · simp [Array.getElem?_eq_none h'] at hj'
    have hns : j ∉ seen.toList := (hleft j e hj').1 he
    have hborn : e.born = j := hB.2 j e hj'
    have hkj : ks[j]? = some ks[j] := List.getElem?_eq_getElem (by omega)
    have hvj : vs[j]? = some vs[j] := List.getElem?_eq_getElem (by omega)
    obtain ⟨e2, he2, hek, hevv⟩ := entry_at hks hvs hkj hvj
    rw [hj'] at he2
    cases he2
    have hlt2 : seen.toList.length < n := by
      rcases Nat.lt_or_ge seen.toList.length n with h' | h'
      · exact h'
      · exfalso
        have hsub : (j :: seen.toList) ⊆ List.range n := by
          intro i hi
          rcases List.mem_cons.1 hi with rfl | hi
          · exact List.mem_range.2 (by omega)
          · exact List.mem_range.2 (hlt i hi)
        have := nodup_len (List.nodup_cons.2 ⟨hns, hnd⟩) hsub
        simp at this h'
        omega
    refine ⟨j, ks[j], vs[j], ?_, hkj, hvj, ?_⟩
    · cases left with
      | cnt l => simp only [Lf.ok] at hsz; simp only [Lf.may]; simp at hlt2 hsz; omega
      | lst s => simp only [Lf.may]; rw [← hsz.1]; exact hns
    have hw1' : HR cx hv σ w1 := by
      rcases hw1 with rfl | rfl
      · exact h
      · exact h.same rfl rfl rfl rfl
    have hheap : w1.heap = w.heap := by rcases hw1 with rfl | rfl <;> rfl
    obtain ⟨g5, g6⟩ := hw1'.write hid hs (.mapIter (some mb) n (seen.push e.born) clock) (.miter m n (some j) (left.next j)) (by
      intro ok' hok
      refine ⟨b, K, s, some mb, seen.push j, hs, ?_, ?_, by simp, ?_, ?_, ?_, ?_⟩
      · rw [setB_same (by rw [hheap]; exact heap_lt hb), hborn, hc]
      · refine RV_mono (w := w1) (ok := okB cx w1 hv σ) hok (fun _ _ h => h) _ _ ?_
        exact RV_mono (w := w) (ok := okB cx w hv σ) (fun q hq => ⟨⟨hq.1, by rw [hheap]; exact hq.2.1, hq.2.2⟩, by rw [hheap]⟩) (fun _ _ h => h) _ _ hmv
      · rw [Array.toList_push, List.nodup_append]
        refine ⟨hnd, by simp, ?_⟩
        intro a ha b' hb'
        simp at hb'
        subst hb'
        rintro rfl
        exact hns ha
      · intro i hi
        rw [Array.toList_push, List.mem_append] at hi
        rcases hi with hi | hi
        · exact hlt i hi
        · simp at hi; omega
      · cases left with
        | cnt l => simp only [Lf.ok] at hsz; simp only [Lf.next, Lf.ok, Array.toList_push, List.length_append, List.length_singleton]; omega
        | lst s => exact ⟨by rw [Array.toList_push, hsz.1], by rw [List.length_append, List.length_singleton, ← hsz.1]; omega⟩
      · intro j' hj''
        cases hj''
        exact ⟨seen, rfl⟩)
    refine ⟨.tuple #[.bool true, e.key, e.val], setB w1 b (.mapIter (some mb) n (seen.push e.born) clock), σ, .inl ?_, ?_, fun _ _ => rfl, fun _ _ h => h, ?_, ?_⟩
    · simp only [execOp, ho, hxv, Sem.run_bind, hrun, Result.andThen_ok, Sem.run_pure]
      rfl
    · rw [app_one]; exact g5
    · rw [app_one]
      intro q hq
      have := g6 q ⟨hq.1, by rw [hheap]; exact hq.2.1, hq.2.2⟩
      exact ⟨this.1, by rw [this.2, hheap]⟩
    · simp only [RV]
      refine ⟨#[.bool true, e.key, e.val], rfl, ?_⟩
      rw [app_one]
      have mono : ∀ q, okB cx w hv σ q → okB cx (setB w1 b (.mapIter (some mb) n (seen.push e.born) clock)) (upd hv id (some (.miter m n (some j) (left.next j)))) σ q ∧ (setB w1 b (.mapIter (some mb) n (seen.push e.born) clock)).heap[q]? = w.heap[q]? := by
        intro q hq
        have := g6 q ⟨hq.1, by rw [hheap]; exact hq.2.1, hq.2.2⟩
        exact ⟨this.1, by rw [this.2, hheap]⟩
      simp only [RVl, RV]
      exact ⟨_, _, rfl, by simp only [RD], e.key, [e.val], rfl, RD_mono mono _ _ hek, e.val, [], rfl, RV_mono mono (fun _ _ h => h) _ _ hevv, rfl⟩
end
end Go.AX
