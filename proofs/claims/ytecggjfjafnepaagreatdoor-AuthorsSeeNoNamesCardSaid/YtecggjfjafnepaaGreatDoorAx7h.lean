/- AX, part 7h: ranging over a map. -/
import Derived.Test.YtecggjfjafnepaaGreatDoorAx7g
import Derived.Maps.RangeRun
import Derived.Test.YtecggjfjafnepaaGreatDoorAx7e
set_option linter.unusedSimpArgs false
set_option linter.unusedVariables false
namespace Go.AX
open Go

def aRange (P : Program) (hv : Nat → Option O) (t : TypeId) (x : V) (nid : Nat) : Option Res := match tiOf P t with
 | some ⟨.map _ _, _, _, _⟩ => match x with
  | .mpr id => match hv id with
   | some (.map ks _) => some ⟨.ptr nid 0, [(nid, some (.miter (.mpr id) ks.length none (.lst [])))], True⟩
   | _ => none
  | .d (.map ks vs) => some ⟨.ptr nid 0, [(nid, some (.miter (.d (.map ks vs)) ks.length none (.lst [])))], True⟩
  | _ => none
 | _ => none
def aEntry (hv : Nat → Option O) (x : V) : Option Res := match x with
 | .ptr id 0 => match hv id with
  | some (.miter m n (some j) _) => match mapOf hv m with
   | some (ks, vs) => if ks.length = n then (match ks[j]?, vs[j]? with
    | some k, some v => some ⟨.tup [.d k, v], [], True⟩
    | _, _ => none) else none
   | none => none
  | _ => none
 | _ => none

section
variable {P : Program} {cx : Cx} {hv : Nat → Option O} {σ : Nat → Option Loc} {w : World} {nid : Nat} {ρ : Operand → Value} {ev : Operand → V}

/-- What a map holds. -/
theorem mapOf_sound2 (h : HR cx hv σ w) {x : V} {b : Nat} (hx : RV w (okB cx w hv σ) σ x (.map (some b))) {ks : List D} {vs : List V} (hm : mapOf hv x = some (ks, vs)) :
  ∃ (es : Array MapEntry) (clock : Nat), w.heap[b]? = some (.map es clock) ∧ Births es clock ∧ es.size = ks.length ∧ RDcs w (okB cx w hv σ) (es.map (·.key)) 0 ks ∧ RVl w (okB cx w hv σ) σ vs (es.map (·.val)).toList := by
 cases x with
 | d y =>
  cases y with
  | map ks' vs' =>
   simp only [mapOf] at hm
   cases hm
   simp only [RV, RD] at hx
   obtain ⟨r, hreq, hr⟩ := hx
   cases hreq
   rcases hr with ⟨h0, _⟩ | ⟨b, es, clock, hb0, _, hb, hB, h1, h2, h3, h4⟩
   ·cases h0
   ·cases hb0
    refine ⟨es, clock, hb, hB, h1, h3, ?_⟩
    have := RVl_dmap (σ := σ) (p := 0) (by simpa using h2) h4
    simpa using this
  | _ => simp [mapOf] at hm
 | mpr id =>
  simp only [mapOf] at hm
  split at hm
  ·rename_i ks' vs' hid
   cases hm
   simp only [RV] at hx
   obtain ⟨b, K, s, hs, hbe⟩ := hx
   cases hbe
   obtain ⟨b', K', s', es, clock, hs', hb, hB, h1, h3, h4⟩ := h.own id _ hid
   rw [hs] at hs'
   cases hs'
   exact ⟨es, clock, hb, hB, h1, h3, h4⟩
  ·cases hm
 | _ => simp [mapOf] at hm

theorem aRange_sound (h : HR cx hv σ w) (hn : σ nid = none) (hev : ∀ x, RV w (okB cx w hv σ) σ (ev x) (ρ x)) {t : TypeId} {x : Operand} {o : Oper} {r : Res} (ho : o.op = .range t x) (hr : aRange P hv t (ev x) nid = some r) : Sound P cx hv σ w nid ρ o r := by
 have hx := hev x
 unfold aRange at hr
 split at hr
 case h_2 => cases hr
 rename_i kt et _ _ _ hti
 obtain ⟨ii, d, zv, h1, h2, h3, h4, _⟩ := tiOf_spec hti
 have := tuOf_map h4
 subst this
 have fin : ∀ ks vs m, mapOf hv (ev x) = some (ks, vs) → ρ x = .map (some m) → r = ⟨.ptr nid 0, [(nid, some (.miter (ev x) ks.length none (.lst [])))], True⟩ → Sound P cx hv σ w nid ρ o r := by
  intro ks vs m hm hxv hreq
  subst hreq
  rw [hxv] at hx
  obtain ⟨es, clock, hb, hB, hl, _, _⟩ := mapOf_sound2 h hx hm
  have hc : clock = ks.length := by rw [hB.1, hl]
  obtain ⟨g1, g2, g3⟩ := h.alloc hn (hv_none_of_fresh h hn) (.mapIter (some m) clock #[] clock) (.miter (ev x) ks.length none (.lst [])) 0 0 (by
   intro σ' ok' hσ hok hnew
   refine ⟨w.heap.size, 0, 0, some m, #[], hnew, by rw [alloc_new, hc], RV_mono hok hσ _ _ hx, by simp, by simp, by simp, ⟨rfl, Nat.zero_le _⟩, by simp⟩)
  refine ⟨.pointer (some ⟨w.heap.size, 0, none⟩), w.alloc (.mapIter (some m) clock #[] clock), _, .inl ?_, ?_, fun id hid => upd_other _ _ hid, g2, ?_, ?_⟩
  ·simp only [execOp, ho, hxv, Instr.range, Sem.run_bind, run_underlying' h2, Result.andThen_ok, run_getMap hb, Sem.run_pure, run_newObj_alloc]
  ·rw [app_one]; exact g1
  ·rw [app_one]; exact g3
  ·simp only [RV]; exact ⟨w.heap.size, 0, 0, upd_same _ _ _, rfl⟩
 split at hr
 ·rename_i id ex
  split at hr
  case h_2 => cases hr
  rename_i ks vs hid
  have hx2 := hx
  rw [ex] at hx2
  simp only [RV] at hx2
  obtain ⟨b, K, s, hs, hv'⟩ := hx2
  injection hr with hr
  exact fin ks vs b (by rw [ex]; simp only [mapOf, hid]) hv' (by rw [ex]; exact hr.symm)
 ·rename_i ks vs ex
  have hx2 := hx
  rw [ex] at hx2
  simp only [RV, RD] at hx2
  obtain ⟨m, hv', hm⟩ := hx2
  injection hr with hr
  rcases hm with ⟨rfl, rfl, hvs0⟩ | ⟨b, es, clock, rfl, _⟩
  ·subst hr
   obtain ⟨g1, g2, g3⟩ := h.alloc hn (hv_none_of_fresh h hn) (.mapIter none 0 #[] 0) (.miter (.d (.map [] vs)) 0 none (.lst [])) 0 0 (by
    intro σ' ok' hσ hok hnew
    refine ⟨w.heap.size, 0, 0, none, #[], hnew, by rw [alloc_new], ?_, by simp, by simp, by simp, ⟨rfl, Nat.le_refl _⟩, by simp⟩
    have := RV_mono hok hσ _ _ hx
    rw [ex, hv'] at this
    exact this)
   refine ⟨.pointer (some ⟨w.heap.size, 0, none⟩), w.alloc (.mapIter none 0 #[] 0), _, .inl ?_, ?_, fun id hid => upd_other _ _ hid, g2, ?_, ?_⟩
   ·simp only [execOp, ho, hv', Instr.range, Sem.run_bind, run_underlying' h2, Result.andThen_ok, Sem.run_pure, run_newObj_alloc]
   ·rw [app_one]; exact g1
   ·rw [app_one]; exact g3
   ·simp only [RV]; exact ⟨w.heap.size, 0, 0, upd_same _ _ _, rfl⟩
  ·exact fin ks (vs.map .d) b (by rw [ex]; rfl) hv' (by rw [ex]; exact hr.symm)
 ·cases hr

/-- The entry at a place. -/
theorem entry_at {ks : List D} {vs : List V} {es : Array MapEntry} {ok : Nat → Prop} (hk : RDcs w ok (es.map (·.key)) 0 ks) (hv' : RVl w ok σ vs (es.map (·.val)).toList) {j : Nat} {k : D} {v : V} (h1 : ks[j]? = some k) (h2 : vs[j]? = some v) :
  ∃ e, es[j]? = some e ∧ RD w ok k e.key ∧ RV w ok σ v e.val := by
 obtain ⟨kv, e1, e2⟩ := RDcs_get hk h1
 obtain ⟨vv, e3, e4⟩ := RVl_get hv' h2
 rw [Nat.zero_add, Array.getElem?_map] at e1
 cases he : es[j]? with
 | none => rw [he] at e1; cases e1
 | some e =>
  rw [he] at e1
  simp only [Option.map_some, Option.some.injEq] at e1
  simp only [Array.toList_map, List.getElem?_map, Array.getElem?_toList, he, Option.map_some, Option.some.injEq] at e3
  exact ⟨e, rfl, by rw [e1]; exact e2, by rw [e3]; exact e4⟩

theorem births_nodup {es : Array MapEntry} {clock : Nat} (hB : Births es clock) : (es.toList.map (·.born)).Nodup := by
 have e : es.toList.map (·.born) = List.range es.size := by
  apply List.ext_getElem?
  intro i
  rw [List.getElem?_map]
  rcases Nat.lt_or_ge i es.size with h | h
  ·rw [Array.getElem?_toList, Array.getElem?_eq_getElem h, List.getElem?_range h]
   simp [hB.2 i es[i] (Array.getElem?_eq_getElem h)]
  ·rw [List.getElem?_eq_none (by simpa using h), List.getElem?_eq_none (by simpa using h)]
   rfl
 rw [e]
 exact List.nodup_range
theorem nodup_len : ∀ {l m : List Nat}, l.Nodup → (∀ x ∈ l, x ∈ m) → l.length ≤ m.length
 | [], _, _, _ => Nat.zero_le _
 | x :: l, m, hn, hs => by
  obtain ⟨h1, h2⟩ := List.nodup_cons.1 hn
  have hx := hs x (by simp)
  have := nodup_len (m := m.erase x) h2 (fun y hy => (List.mem_erase_of_ne (by rintro rfl; exact h1 hy)).2 (hs y (by simp [hy])))
  rw [List.length_erase_of_mem hx] at this
  have := List.length_pos_of_mem hx
  simp
  omega

theorem aEntry_sound (h : HR cx hv σ w) (hev : ∀ x, RV w (okB cx w hv σ) σ (ev x) (ρ x)) {x : Operand} {o : Oper} {r : Res} (ho : o.op = .entry x) (hr : aEntry hv (ev x) = some r) : Sound P cx hv σ w nid ρ o r := by
 have hx := hev x
 unfold aEntry at hr
 split at hr
 case h_2 => cases hr
 rename_i id ex
 split at hr
 case h_2 => cases hr
 rename_i m n j left hid
 split at hr
 case h_2 => cases hr
 rename_i ks vs hm
 split at hr
 case isFalse => cases hr
 rename_i hn
 split at hr
 case h_2 => cases hr
 rename_i k v hk hv'
 cases hr
 rw [ex] at hx
 simp only [RV] at hx
 obtain ⟨b, K, s, hs, hxv⟩ := hx
 obtain ⟨b', K', s', mo, seen, hs', hb, hmv, hno, hnd, hlt, hsz, hcur⟩ := h.own id _ hid
 rw [hs] at hs'
 cases hs'
 cases mo with
 | none =>
  have := hno rfl
  rw [List.getElem?_eq_none (by omega)] at hk
  cases hk
 | some mb =>
 obtain ⟨es, clock, hmb, hB, hl, hks, hvs⟩ := mapOf_sound2 h hmv hm
 obtain ⟨e, he, hek, hev2⟩ := entry_at hks hvs hk hv'
 obtain ⟨q, hq⟩ := hcur j rfl
 have hborn : e.born = j := hB.2 j e he
 have hc : clock = n := by rw [hB.1, hl, hn]
 have hb2 : w.heap[b]? = some (.mapIter (some mb) n (q.push e.born) clock) := by rw [hb, hq, hborn, hc]
 refine sound_value h rfl (v := .tuple #[e.key, e.val]) ?_ ?_
 ·have hrun := run_entry_at (P := P) w b mb n q es clock e hb2 hmb (by simpa using Array.mem_of_getElem? he) (births_nodup hB)
  simp only [execOp, ho, hxv, Sem.run_bind, hrun, Result.andThen_ok, Sem.run_pure]
 ·simp only [RV]
  refine ⟨#[e.key, e.val], rfl, ?_⟩
  simp only [RVl, RV]
  exact ⟨e.key, [e.val], rfl, hek, e.val, [], rfl, hev2, rfl⟩

/-- A step over the map: nothing is left; or some entry comes, and one fewer is left. -/
theorem next_sound (h : HR cx hv σ w) {o : Oper} {it : Operand} (ho : o.op = .next it false) {id : Nat} {m : V} {n : Nat} {left : Lf} {cur : Option Nat} {ks : List D} {vs : List V} (hx : RV w (okB cx w hv σ) σ (.ptr id 0) (ρ it)) (hid : hv id = some (.miter m n cur left))
  (hm : mapOf hv m = some (ks, vs)) (hn : ks.length = n) (hvl : vs.length = n) :
  (left.done n ∧ Sound P cx hv σ w nid ρ o ⟨.tup [.d (.bool false)], [], True⟩) ∨
  (∃ (j : Nat) (k : D) (v : V), left.may j ∧ ks[j]? = some k ∧ vs[j]? = some v ∧ Sound P cx hv σ w nid ρ o ⟨.tup [.d (.bool true), .d k, v], [(id, some (.miter m n (some j) (left.next j)))], True⟩) := by
 simp only [RV] at hx
 obtain ⟨b, K, s, hs, hxv⟩ := hx
 obtain ⟨b', K', s', mo, seen, hs', hb, hmv, hno, hnd, hlt, hsz, hcur⟩ := h.own id _ hid
 rw [hs] at hs'
 cases hs'
 cases mo with
 | none =>
  left
  have hn0 := hno rfl
  refine ⟨?_, ?_⟩
  ·cases left with
   | cnt l => simp only [Lf.ok] at hsz; simp only [Lf.done]; omega
   | lst s => intro i hi; omega
  ·refine sound_value h rfl (v := .tuple #[.bool false]) ?_ ?_
   ·have hrun : (Instr.next (.pointer (some ⟨b, 0, none⟩)) false o.type).run P w = .ok (.tuple #[.bool false]) w := by
     simp only [Instr.next, getObj, Sem.run_bind, Sem.run, hb, Result.andThen]
     rfl
    simp only [execOp, ho, hxv, Sem.run_bind, hrun, Result.andThen_ok, Sem.run_pure]
   ·simp only [RV]
    refine ⟨#[.bool false], rfl, ?_⟩
    simp only [RVl, RV, RD]
    exact ⟨_, [], rfl, rfl, rfl⟩
 | some mb =>
 obtain ⟨es, clock, hmb, hB, hl, hks, hvs⟩ := mapOf_sound2 h hmv hm
 have hc : clock = n := by rw [hB.1, hl, hn]
 have hold : ∀ x ∈ es.toList, x.born < n := by
  intro x hx
  obtain ⟨i, hi⟩ := List.getElem?_of_mem hx
  have hi' : es[i]? = some x := by simpa using hi
  rw [hB.2 i x hi']
  have : i < es.size := by
   rcases Nat.lt_or_ge i es.size with h' | h'
   ·exact h'
   ·simp [Array.getElem?_eq_none h'] at hi'
  omega
 have hleft : ∀ i e, es[i]? = some e → (e ∈ (leftOf es seen).toList ↔ i ∉ seen.toList) := by
  intro i e he
  simp only [leftOf, Array.toList_filter, List.mem_filter, hB.2 i e he]
  have hmem : e ∈ es.toList := by simpa using Array.mem_of_getElem? he
  simp [hmem]
 rcases run_next_at (P := P) w o.type b mb n n seen es clock hb hmb hold (Nat.le_refl _) with ⟨h0, hrun⟩ | ⟨e, he, w1, hw1, hrun⟩
 ·left
  have hall : ∀ i, i < n → i ∈ seen.toList := by
   intro i hi
   have hie : es[i]? = some es[i] := Array.getElem?_eq_getElem (by omega)
   by_cases hmem : i ∈ seen.toList
   ·exact hmem
   ·have := (hleft i _ hie).2 hmem
    have hnil : (leftOf es seen).toList = [] := by simpa using h0
    rw [hnil] at this
    cases this
  have hge : n ≤ seen.toList.length := by
   have hsub : (List.range n) ⊆ seen.toList := fun i hi => hall i (List.mem_range.1 hi)
   have := nodup_len (List.nodup_range (n := n)) hsub
   simpa using this
  refine ⟨?_, ?_⟩
  ·cases left with
   | cnt l => simp only [Lf.ok] at hsz; simp only [Lf.done]; simp at hge hsz; omega
   | lst s => intro i hi; rw [← hsz.1]; exact hall i hi
  refine sound_value h rfl (v := .tuple #[.bool false]) ?_ ?_
  ·simp only [execOp, ho, hxv, Sem.run_bind, hrun, Result.andThen_ok, Sem.run_pure]
  ·simp only [RV]
   refine ⟨#[.bool false], rfl, ?_⟩
   simp only [RVl, RV, RD]
   exact ⟨_, [], rfl, rfl, rfl⟩
 ·right
  have hes : e ∈ es.toList := by
   simp only [leftOf, Array.toList_filter, List.mem_filter] at he
   exact he.1
  obtain ⟨j, hj⟩ := List.getElem?_of_mem hes
  have hj' : es[j]? = some e := by simpa using hj
  have hjn : j < es.size := by
   rcases Nat.lt_or_ge j es.size with h' | h'
   ·exact h'
   ·simp [Array.getElem?_eq_none h'] at hj'
  have hns : j ∉ seen.toList := (hleft j e hj').1 he
  have hborn : e.born = j := hB.2 j e hj'
  have hkj : ks[j]? = some ks[j] := List.getElem?_eq_getElem (by omega)
  have hvj : vs[j]? = some vs[j] := List.getElem?_eq_getElem (by omega)
  obtain ⟨e2, he2, hek, hevv⟩ := entry_at hks hvs hkj hvj
  rw [hj'] at he2
  cases he2
  have hlt2 : seen.toList.length < n := by
   rcases Nat.lt_or_ge seen.toList.length n with h' | h'
   ·exact h'
   ·exfalso
    have hsub : (j :: seen.toList) ⊆ List.range n := by
     intro i hi
     rcases List.mem_cons.1 hi with rfl | hi
     ·exact List.mem_range.2 (by omega)
     ·exact List.mem_range.2 (hlt i hi)
    have := nodup_len (List.nodup_cons.2 ⟨hns, hnd⟩) hsub
    simp at this h'
    omega
  refine ⟨j, ks[j], vs[j], ?_, hkj, hvj, ?_⟩
  ·cases left with
   | cnt l => simp only [Lf.ok] at hsz; simp only [Lf.may]; simp at hlt2 hsz; omega
   | lst s => simp only [Lf.may]; rw [← hsz.1]; exact hns
  have hw1' : HR cx hv σ w1 := by
   rcases hw1 with rfl | rfl
   ·exact h
   ·exact h.same rfl rfl rfl rfl
  have hheap : w1.heap = w.heap := by rcases hw1 with rfl | rfl <;> rfl
  obtain ⟨g5, g6⟩ := hw1'.write hid hs (.mapIter (some mb) n (seen.push e.born) clock) (.miter m n (some j) (left.next j)) (by
   intro ok' hok
   refine ⟨b, K, s, some mb, seen.push j, hs, ?_, ?_, by simp, ?_, ?_, ?_, ?_⟩
   ·rw [setB_same (by rw [hheap]; exact heap_lt hb), hborn, hc]
   ·refine RV_mono (w := w1) (ok := okB cx w1 hv σ) hok (fun _ _ h => h) _ _ ?_
    exact RV_mono (w := w) (ok := okB cx w hv σ) (fun q hq => ⟨⟨hq.1, by rw [hheap]; exact hq.2.1, hq.2.2⟩, by rw [hheap]⟩) (fun _ _ h => h) _ _ hmv
   ·rw [Array.toList_push, List.nodup_append]
    refine ⟨hnd, by simp, ?_⟩
    intro a ha b' hb'
    simp at hb'
    subst hb'
    rintro rfl
    exact hns ha
   ·intro i hi
    rw [Array.toList_push, List.mem_append] at hi
    rcases hi with hi | hi
    ·exact hlt i hi
    ·simp at hi; omega
   ·cases left with
    | cnt l => simp only [Lf.ok] at hsz; simp only [Lf.next, Lf.ok, Array.toList_push, List.length_append, List.length_singleton]; omega
    | lst s => exact ⟨by rw [Array.toList_push, hsz.1], by rw [List.length_append, List.length_singleton, ← hsz.1]; omega⟩
   ·intro j' hj''
    cases hj''
    exact ⟨seen, rfl⟩)
  refine ⟨.tuple #[.bool true, e.key, e.val], setB w1 b (.mapIter (some mb) n (seen.push e.born) clock), σ, .inl ?_, ?_, fun _ _ => rfl, fun _ _ h => h, ?_, ?_⟩
  ·simp only [execOp, ho, hxv, Sem.run_bind, hrun, Result.andThen_ok, Sem.run_pure]
   rfl
  ·rw [app_one]; exact g5
  ·rw [app_one]
   intro q hq
   have := g6 q ⟨hq.1, by rw [hheap]; exact hq.2.1, hq.2.2⟩
   exact ⟨this.1, by rw [this.2, hheap]⟩
  ·simp only [RV]
   refine ⟨#[.bool true, e.key, e.val], rfl, ?_⟩
   rw [app_one]
   have mono : ∀ q, okB cx w hv σ q → okB cx (setB w1 b (.mapIter (some mb) n (seen.push e.born) clock)) (upd hv id (some (.miter m n (some j) (left.next j)))) σ q ∧ (setB w1 b (.mapIter (some mb) n (seen.push e.born) clock)).heap[q]? = w.heap[q]? := by
    intro q hq
    have := g6 q ⟨hq.1, by rw [hheap]; exact hq.2.1, hq.2.2⟩
    exact ⟨this.1, by rw [this.2, hheap]⟩
   simp only [RVl, RV]
   exact ⟨_, _, rfl, by simp only [RD], e.key, [e.val], rfl, RD_mono mono _ _ hek, e.val, [], rfl, RV_mono mono (fun _ _ h => h) _ _ hevv, rfl⟩
end
end Go.AX

namespace Go.AX
open Go
def aClear (P : Program) (hv : Nat → Option O) (t : TypeId) (x : V) : Option Res := match tiOf P t with
 | some ⟨.slice e, _, _, _⟩ => match tiOf P e with
  | some ei => if elemOk ei.size ei.zero = true ∧ 0 < ei.size then match x with
    | .nils => some ⟨.tup [], [], True⟩
    | .slr id lo n => match hv id with
     | some (.vec e' s xs) => if s = ei.size then some ⟨.tup [], [(id, some (.vec e' s (xs.take lo ++ List.replicate n ei.zero ++ xs.drop (lo + n))))], lo + n ≤ xs.length⟩ else none
     | _ => none
    | _ => none
   else none
  | none => none
 | _ => none
section
variable {P : Program} {cx : Cx} {hv : Nat → Option O} {σ : Nat → Option Loc} {w : World} {nid : Nat} {ρ : Operand → Value} {ev : Operand → V}
theorem aClear_sound (h : HR cx hv σ w) (hev : ∀ x, RV w (okB cx w hv σ) σ (ev x) (ρ x)) {t : TypeId} {x : Operand} {o : Oper} {r : Res} (ho : o.op = .call ⟨.builtin .clear, #[x], #[t]⟩) (hr : aClear P hv t (ev x) = some r) (hob : r.ob) : Sound P cx hv σ w nid ρ o r := by
 have hd := hev x
 unfold aClear at hr
 split at hr
 case h_2 => cases hr
 rename_i e _ _ _ hti
 obtain ⟨ii, dd, zv, h1, h2, h3, h4, _⟩ := tiOf_spec hti
 have := tuOf_slice h4
 subst this
 split at hr
 case h_2 => cases hr
 rename_i ei hei
 obtain ⟨ie, d', z, g1, g2, g3, g4, g5, g6, g7⟩ := tiOf_spec hei
 split at hr
 case isFalse => cases hr
 rename_i hcond
 obtain ⟨hok, hsp⟩ := hcond
 rw [g5] at hok hsp
 have hrz : RV w (okB cx w hv σ) σ ei.zero z := by rw [g7]; exact RV_constV z
 have hok' := hok
 simp only [elemOk, Bool.and_eq_true, beq_iff_eq] at hok
 have hzs : z.cells.size = ie.size := by
  have := RVl_length (RVl_cells hrz (storable_cases hok.2))
  rw [hok.1.1] at this
  simpa using this
 have run : ∀ w', (Builtin.clear_ #[t] o.type #[ρ x]).run P w = .ok (.tuple #[]) w' → (execOp ρ o).run P w = .ok (.value (.tuple #[])) w' := by
  intro w' hv'
  rw [builtin_run ho]
  have : (#[x].map ρ) = #[ρ x] := by simp
  simp only [builtin, Sem.run_bind, this, hv', Result.andThen_ok, Sem.run_pure]
 have htup : ∀ (w : World) ok σ, RV w ok σ (.tup []) (.tuple #[]) := fun w ok σ => by simp only [RV]; exact ⟨#[], rfl, by simp only [RVl]⟩
 split at hr
 ·rename_i ex
  cases hr
  rw [ex] at hd
  simp only [RV] at hd
  refine sound_value h rfl (v := .tuple #[]) (run w ?_) (htup _ _ _)
  rw [hd]
  simp [Builtin.clear_, run_underlying' h2]
 ·rename_i id lo n ed
  split at hr
  case h_2 => cases hr
  rename_i e' s xs hid
  split at hr
  case isFalse => cases hr
  rename_i hse
  cases hr
  subst hse
  rw [g5] at hid ⊢
  rw [ed] at hd
  simp only [RV] at hd
  have ho' := h.own id _ hid
  simp only [RO] at ho'
  have ho2 : lo + n ≤ xs.length := hob
  rcases hd with ⟨hsn, rfl, rfl, a0, hav⟩ | ⟨b, K, s2, aa, cap, hs, hav, hnc, hlc, hca⟩
  ·rcases ho' with ⟨_, rfl⟩ | ⟨b', K', c, fr, hs', _⟩
   ·have e9 : app hv [(id, some (O.vec e' ie.size (([] : List V).take 0 ++ List.replicate 0 ei.zero ++ ([] : List V).drop (0 + 0))))] = hv := by
     rw [app_one]
     funext k
     by_cases hk : k = id
     ·subst hk; rw [upd_same]; simpa using hid.symm
     ·rw [upd_other _ _ hk]
    refine ⟨.tuple #[], w, σ, .inl (run w ?_), ?_, fun _ _ => rfl, fun _ _ h => h, ?_, htup _ _ _⟩
    ·rw [hav]
     cases a0 <;> simp [Builtin.clear_, run_underlying' h2]
    ·rw [e9]; exact h
    ·rw [e9]; exact fun b hb => ⟨hb, rfl⟩
   ·rw [hsn] at hs'; cases hs'
  ·rcases ho' with ⟨hn', _⟩ | ⟨b', K', c, fr, hs', hb, hf, hcs, hxl, hel⟩
   ·rw [hs] at hn'; cases hn'
   rw [hs] at hs'
   cases hs'
   let new : Array Value := Builtin.zeroCells z.cells n
   have hns : new.size = n * ie.size := by simp [new, zeroCells_size, hzs]
   have hroom : lo * ie.size + new.toList.length ≤ c.size := by
    rw [hcs]
    have := Nat.mul_le_mul_right ie.size (show lo + n ≤ K by omega)
    rw [Nat.add_mul] at this
    simp only [Array.length_toList, hns]
    exact this
   have helz : ∀ i, i < n → ElemAt new ie.size (i * ie.size) z := by
    intro i hi
    refine elemAt_of hzs fun j hj => ?_
    have hlt : i * ie.size + j < n * ie.size := by
     have := Nat.mul_le_mul_right ie.size hi
     rw [Nat.succ_mul] at this
     omega
    have hm : (i * ie.size + j) % ie.size = j := by
     rw [Nat.add_comm, Nat.add_mul_mod_self_right, Nat.mod_eq_of_lt hj]
    simp only [new, Builtin.zeroCells, Array.getElem?_map]
    rw [Array.getElem?_eq_getElem (by simpa [hzs] using hlt)]
    simp only [Array.getElem_range, Option.map_some, hzs, hm]
    rw [Array.getElem?_eq_getElem (by omega), getElem!_pos z.cells j (by omega)]
   have hnr : RVels w (okB cx w hv σ) σ new ie.size 0 (List.replicate n ei.zero) := by
    refine RVels_of fun i x hx => ?_
    rw [List.getElem?_replicate] at hx
    split at hx
    ·rename_i hi
     cases hx
     exact ⟨z, by rw [Nat.zero_add]; exact helz i hi, hrz⟩
    ·cases hx
   have hn1 : ∀ u ∈ new.toList, u.oneCell' = true := by
    intro u hu
    obtain ⟨j, hj⟩ := List.getElem?_of_mem hu
    have hjl : j < n * ie.size := by
     rcases Nat.lt_or_ge j new.toList.length with h' | h'
     ·rw [Array.length_toList, hns] at h'; exact h'
     ·rw [List.getElem?_eq_none h'] at hj; cases hj
    obtain ⟨v, hv1, hv2⟩ := els_cells hnr (by rw [List.all_eq_true]; intro y hy; rw [List.eq_of_mem_replicate hy]; exact hok') j (by rw [List.length_replicate]; exact hjl)
    rw [Array.getElem?_toList] at hj
    rw [Nat.zero_add, hj] at hv1
    cases hv1
    exact hv2
   have hlt : (xs.take lo).length = lo := by simp; omega
   have hst := run_storeCells' (P := P) new.toList 0 w c (off := lo * ie.size) hb (by simpa using hroom) hf hn1
   have hw' : (if new.toList = [] then w else setB w b (.cells (setL c (lo * ie.size + 0) new.toList) e' fr)) = setB w b (.cells (setL c (lo * ie.size) new.toList) e' fr) := by
    split
    ·rename_i h0
     rw [h0]
     simp only [setL]
     rw [setB_self hb]
    ·rfl
   rw [hw'] at hst
   have hw := h.write (o0 := .vec e' ie.size xs) hid hs (.cells (setL c (lo * ie.size) new.toList) e' fr) (.vec e' ie.size (xs.take lo ++ List.replicate n ei.zero ++ xs.drop (lo + n))) (by
    intro ok' hok
    refine .inr ⟨b, K, _, fr, hs, setB_same (heap_lt hb), by rw [setL_size]; exact hf, by rw [setL_size]; exact hcs, by simp; omega, ?_⟩
    refine RVels_append (RVels_append (RVels_transfer (RVels_mono hok (fun _ _ h => h) _ _ _ _ (RVels_take hel lo)) fun j hj => ?_) (RVels_transfer (RVels_mono hok (fun _ _ h => h) _ _ _ _ hnr) fun j hj => ?_)) (RVels_transfer (RVels_mono hok (fun _ _ h => h) _ _ _ _ (RVels_drop hel (lo + n))) fun j hj => ?_)
    ·rw [hlt] at hj
     rw [setL_get _ _ _ _ hroom, if_neg (by omega)]
    ·rw [List.length_replicate] at hj
     rw [hlt, setL_get _ _ _ _ hroom, if_pos (by simp only [Array.length_toList, hns]; omega)]
     rw [Array.getElem?_toList]
     congr 1
     omega
    ·rw [List.length_append, hlt, List.length_replicate, Nat.add_mul, setL_get _ _ _ _ hroom, if_neg (by simp only [Array.length_toList, hns]; omega)])
   refine ⟨.tuple #[], setB w b (.cells (setL c (lo * ie.size) new.toList) e' fr), σ, .inl (run _ ?_), ?_, fun _ _ => rfl, fun _ _ h => h, ?_, htup _ _ _⟩
   ·rw [hav]
    by_cases hn0 : n = 0
    ·subst hn0
     have hnil : new = #[] := by
      have : new.size = 0 := by rw [hns]; simp
      simpa using this
     simp only [hnil, setL, setB_self hb]
     simp [Builtin.clear_, run_underlying' h2, setL, setB_self hb]
    ·rcases hca with hc0 | rfl
     ·omega
     ·obtain ⟨m, rfl⟩ : ∃ m, n = m + 1 := ⟨n - 1, by omega⟩
      simp only [Builtin.clear_, Sem.run_bind, run_underlying' h2, Result.andThen_ok, run_zeroValue' g1 g3, Sem.run_pure]
      have hst' : (storeCells ⟨b, lo * ie.size, none⟩ (Builtin.zeroCells z.cells (m + 1)).toList).run P w = .ok () (setB w b (.cells (setL c (lo * ie.size) new.toList) e' fr)) := hst
      simp [run_underlying' h2, run_zeroValue' g1 g3, hst']
   ·rw [app_one]; exact hw.1
   ·rw [app_one]; exact hw.2
 ·cases hr
end
end Go.AX

namespace Go.AX
open Go
def aMapEntry (P : Program) (hv : Nat → Option O) (t : TypeId) (m k : V) : Option Res := match tiOf P t with
 | some ⟨.map kt et, _, _, _⟩ => match tiOf P kt, tiOf P et, m, k with
  | some ki, some ei, .mpr id, .d k => match hv id with
   | some (.map ks vs) => if keyOk P kt ki.u k = true then match fndK k ks with
    | some (some j) => match vs[j]? with
     | some v => some ⟨.tup [v, .d (.int .i64 j)], [(id, some (.map ks vs))], True⟩
     | none => none
    | some none => some ⟨.tup [ei.zero, .d (.int .i64 ks.length)], [(id, some (.map (ks ++ [k]) (vs ++ [ei.zero])))], True⟩
    | none => none
    else none
   | _ => none
  | _, _, _, _ => none
 | _ => none
def aEntryStore (hv : Nat → Option O) (m s x : V) : Option Res := match m, s with
 | .mpr id, .d (.int .i64 n) => match hv id with
  | some (.map ks vs) => some ⟨.top, [(id, some (.map ks (vs.set n.toNat x)))], 0 ≤ n ∧ n.toNat < vs.length⟩
  | _ => none
 | _, _ => none
attribute [go_sem] aMapEntry aEntryStore
/-- The greatest, the least of three integers. -/
def aMax3 (x y z : V) : Option Res := match x, y, z with
 | .d (.int k a), .d (.int _ b), .d (.int _ c) => some ⟨.d (.int k (if c > (if b > a then b else a) then c else (if b > a then b else a))), [], True⟩
 | _, _, _ => none
def aMin3 (x y z : V) : Option Res := match x, y, z with
 | .d (.int k a), .d (.int _ b), .d (.int _ c) => some ⟨.d (.int k (if c < (if b < a then b else a) then c else (if b < a then b else a))), [], True⟩
 | _, _, _ => none
attribute [go_sem] aMax3 aMin3
section
variable {P : Program} {cx : Cx} {hv : Nat → Option O} {σ : Nat → Option Loc} {w : World} {nid : Nat} {ρ : Operand → Value} {ev : Operand → V}
theorem aMax3_sound (h : HR cx hv σ w) (hev : ∀ x, RV w (okB cx w hv σ) σ (ev x) (ρ x)) {ats : Array TypeId} {x y z : Operand} {o : Oper} {r : Res} (ho : o.op = .call ⟨.builtin .max, #[x, y, z], ats⟩) (hr : aMax3 (ev x) (ev y) (ev z) = some r) : Sound P cx hv σ w nid ρ o r := by
 have hx := hev x
 have hy := hev y
 have hz := hev z
 unfold aMax3 at hr
 split at hr
 ·rename_i k a k' b k'' c ex ey ez
  cases hr
  rw [ex] at hx
  rw [ey] at hy
  rw [ez] at hz
  simp only [RV, RD] at hx hy hz
  refine sound_value h rfl (v := .int k (if c > (if b > a then b else a) then c else (if b > a then b else a))) ?_ (by simp only [RV, RD])
  rw [builtin_run ho]
  simp [builtin, Builtin.max_, Builtin.max2, hx, hy, hz]
 ·cases hr
theorem aMin3_sound (h : HR cx hv σ w) (hev : ∀ x, RV w (okB cx w hv σ) σ (ev x) (ρ x)) {ats : Array TypeId} {x y z : Operand} {o : Oper} {r : Res} (ho : o.op = .call ⟨.builtin .min, #[x, y, z], ats⟩) (hr : aMin3 (ev x) (ev y) (ev z) = some r) : Sound P cx hv σ w nid ρ o r := by
 have hx := hev x
 have hy := hev y
 have hz := hev z
 unfold aMin3 at hr
 split at hr
 ·rename_i k a k' b k'' c ex ey ez
  cases hr
  rw [ex] at hx
  rw [ey] at hy
  rw [ez] at hz
  simp only [RV, RD] at hx hy hz
  refine sound_value h rfl (v := .int k (if c < (if b < a then b else a) then c else (if b < a then b else a))) ?_ (by simp only [RV, RD])
  rw [builtin_run ho]
  simp [builtin, Builtin.min_, Builtin.min2, hx, hy, hz]
 ·cases hr
theorem aMapEntry_sound (h : HR cx hv σ w) (hev : ∀ x, RV w (okB cx w hv σ) σ (ev x) (ρ x)) {t : TypeId} {m k : Operand} {o : Oper} {r : Res} (ho : o.op = .mapEntry t m k)
  (hr : aMapEntry P hv t (ev m) (ev k) = some r) : Sound P cx hv σ w nid ρ o r := by
 have hm := hev m
 have hk := hev k
 unfold aMapEntry at hr
 split at hr
 case h_2 => cases hr
 rename_i kt et _ _ _ hti
 obtain ⟨ii, d, zv, h1, h2, h3, h4, h5, h6, h7⟩ := tiOf_spec hti
 have := tuOf_map h4
 subst this
 split at hr
 case h_2 => cases hr
 rename_i ki ei id kd hki hei em ek
 obtain ⟨ie, d', z, g1, g2, g3, g4, g5, g6, g7⟩ := tiOf_spec hei
 split at hr
 case h_2 => cases hr
 rename_i ks vs hid
 split at hr
 case isFalse => cases hr
 rename_i hp
 rw [em] at hm
 rw [ek] at hk
 simp only [RV] at hm hk
 obtain ⟨b, K, s, hs, hmv⟩ := hm
 obtain ⟨b', K', s', es, clock, hs', hb, hB, hl, hks, hvs⟩ := h.own id _ hid
 rw [hs] at hs'
 cases hs'
 have hvl := RVl_length hvs
 split at hr
 ·rename_i j hf
  split at hr
  case h_2 => cases hr
  rename_i v hvj
  cases hr
  obtain ⟨k1, k2⟩ := findKey_run hki hp hk hl hks hf
  have hj := k2 j rfl
  have hej : es[j]? = some es[j] := Array.getElem?_eq_getElem hj
  simp only [Option.bind_some, hej, Option.map_some] at k1
  obtain ⟨y, hy1, hy2⟩ := fndK_same hf
  obtain ⟨u, hu1, hu2⟩ := RDcs_get hks hy1
  have hue : u = es[j].key := by
   simp only [Nat.zero_add, Array.getElem?_map, hej, Option.map_some] at hu1
   exact (Option.some.inj hu1).symm
  have hst := keyStays_run (P := P) hp hk (sameK_eq hk hu2 hy2).1
  rw [hue] at hst
  have hborn : es[j].born = j := hB.2 j _ hej
  obtain ⟨q, hq, hrq⟩ := RVl_get hvs hvj
  have hqv : q = es[j].val := by
   simp only [Array.getElem?_toList, Array.getElem?_map, hej, Option.map_some] at hq
   exact (Option.some.inj hq).symm
  have hrun : (execOp ρ o).run P w = .ok (.value (.tuple #[es[j].val, goInt j])) (setB w b (.map (es.modify j fun e => { e with key := ρ k }) clock)) := by
   simp only [execOp, ho, Instr.mapEntry, hmv, Sem.run_bind, run_underlying' h2, run_getMap hb, Result.andThen_ok, checkKey_ok (n := 9998) hki hp hk, k1, hej, Option.map_some, Option.getD_some, hst, run_setMap hb, Sem.run_pure, hborn]
  obtain ⟨w1, w2⟩ := h.write hid hs (.map (es.modify j fun e => { e with key := ρ k }) clock) (.map ks vs) (by
   intro ok' hok
   refine ⟨b, K, s, _, clock, hs, setB_same (heap_lt hb), ⟨by simpa using hB.1, fun i e he => ?_⟩, by simpa using hl, ?_, ?_⟩
   ·rw [Array.getElem?_modify] at he
    split at he
    ·rename_i e1
     subst e1
     rw [Array.getElem?_eq_getElem hj] at he
     simp at he
     subst he
     exact hB.2 j es[j] (Array.getElem?_eq_getElem hj)
    ·exact hB.2 i e he
   ·refine RDcs_of fun i y' hy' => ?_
    obtain ⟨u, hu, hru⟩ := RDcs_get hks hy'
    simp only [Nat.zero_add, Array.getElem?_map, Array.getElem?_modify] at hu ⊢
    by_cases e1 : j = i
    ·subst e1
     rw [hy1] at hy'
     cases hy'
     have := (sameK_eq hk hru hy2).2
     subst this
     refine ⟨ρ k, by simp [hj], RD_mono hok _ _ hk⟩
    ·rw [if_neg e1]
     exact ⟨u, hu, RD_mono hok _ _ hru⟩
   ·have e1 : (Array.map (fun x => x.val) (es.modify j fun e => { e with key := ρ k })).toList = (Array.map (fun x => x.val) es).toList := by
     apply List.ext_getElem?
     intro i
     simp only [Array.getElem?_toList, Array.getElem?_map, Array.getElem?_modify]
     by_cases e2 : j = i
     ·subst e2; simp [hj]
     ·simp [e2]
    rw [e1]
    exact RVl_mono hok (fun _ _ h => h) _ _ hvs)
  refine ⟨_, _, σ, .inl hrun, ?_, fun _ _ => rfl, fun _ _ h => h, ?_, ?_⟩
  ·rw [app_one]; exact w1
  ·rw [app_one]; exact w2
  ·simp only [RV]
   refine ⟨#[es[j].val, goInt j], rfl, ?_⟩
   simp only [RVl, RV, RD]
   rw [app_one]
   exact ⟨es[j].val, [goInt j], rfl, RV_mono w2 (fun _ _ h => h) _ _ (hqv ▸ hrq), goInt j, [], rfl, rfl, rfl⟩
 ·rename_i hf
  cases hr
  obtain ⟨k1, k2⟩ := findKey_run hki hp hk hl hks hf
  simp only [Option.bind_none] at k1
  have hclk : clock = ks.length := by rw [hB.1, hl]
  have hrun : (execOp ρ o).run P w = .ok (.value (.tuple #[z, goInt ks.length])) (setB w b (.map (es.push { key := ρ k, val := z, born := clock }) (clock + 1))) := by
   simp only [execOp, ho, Instr.mapEntry, hmv, Sem.run_bind, run_underlying' h2, run_getMap hb, Result.andThen_ok, checkKey_ok (n := 9998) hki hp hk, k1, run_zeroValue' g1 g3, run_setMap hb, Sem.run_pure, hclk]
  obtain ⟨w1, w2⟩ := h.write hid hs (.map (es.push { key := ρ k, val := z, born := clock }) (clock + 1)) (.map (ks ++ [kd]) (vs ++ [ei.zero])) (by
   intro ok' hok
   refine ⟨b, K, s, _, clock + 1, hs, setB_same (heap_lt hb), ⟨by simp [hB.1], fun i e he => ?_⟩, by simp [hl], ?_, ?_⟩
   ·rw [Array.getElem?_push] at he
    split at he
    ·rename_i e1
     cases he
     simp [e1, hB.1]
    ·exact hB.2 i e he
   ·refine RDcs_of fun i y hy => ?_
    simp only [Nat.zero_add, Array.getElem?_map, Array.getElem?_push]
    rcases Nat.lt_or_ge i ks.length with hi | hi
    ·rw [List.getElem?_append_left hi] at hy
     obtain ⟨u, hu, hru⟩ := RDcs_get hks hy
     simp only [Nat.zero_add, Array.getElem?_map] at hu
     rw [if_neg (by omega)]
     exact ⟨u, hu, RD_mono hok _ _ hru⟩
    ·rw [List.getElem?_append_right hi] at hy
     have : i - ks.length = 0 := by
      rcases Nat.eq_zero_or_pos (i - ks.length) with h' | h'
      ·exact h'
      ·obtain ⟨q, hq⟩ : ∃ q, i - ks.length = q + 1 := ⟨i - ks.length - 1, by omega⟩
       rw [hq] at hy
       simp at hy
     rw [this] at hy
     simp at hy
     subst hy
     rw [if_pos (by omega)]
     exact ⟨ρ k, rfl, RD_mono hok _ _ hk⟩
   ·have e1 : (Array.map (fun x => x.val) (es.push { key := ρ k, val := z, born := clock })).toList = (Array.map (fun x => x.val) es).toList ++ [z] := by simp
    rw [e1]
    exact RVl_append (RVl_mono hok (fun _ _ h => h) _ _ hvs) (RVl_one (by rw [g7]; exact RV_constV z)))
  refine ⟨_, _, σ, .inl hrun, ?_, fun _ _ => rfl, fun _ _ h => h, ?_, ?_⟩
  ·rw [app_one]; exact w1
  ·rw [app_one]; exact w2
  ·simp only [RV]
   refine ⟨#[z, goInt ks.length], rfl, ?_⟩
   simp only [RVl, RV, RD]
   exact ⟨z, [goInt ks.length], rfl, by rw [g7]; exact RV_constV z, goInt ks.length, [], rfl, rfl, rfl⟩
 ·cases hr
theorem born_at {es : Array MapEntry} {clock : Nat} (hB : Births es clock) {j : Nat} (hj : j < es.size) : es.findIdx? (fun e => (e.born : Int) == (j : Int)) = some j := by
 rw [Array.findIdx?_eq_some_iff_getElem]
 refine ⟨hj, ?_, fun i hi => ?_⟩
 ·have := hB.2 j _ (Array.getElem?_eq_getElem hj)
  simp [this]
 ·have := hB.2 i _ (Array.getElem?_eq_getElem (by omega))
  simp [this]
  omega
theorem aEntryStore_sound (h : HR cx hv σ w) (hev : ∀ x, RV w (okB cx w hv σ) σ (ev x) (ρ x)) {t : TypeId} {m s x : Operand} {o : Oper} {r : Res} (ho : o.op = .entryStore t m s x)
  (hr : aEntryStore hv (ev m) (ev s) (ev x) = some r) (hob : r.ob) : Sound P cx hv σ w nid ρ o r := by
 have hm := hev m
 have hst := hev s
 have hx := hev x
 unfold aEntryStore at hr
 split at hr
 case h_2 => cases hr
 rename_i id n em es_
 split at hr
 case h_2 => cases hr
 rename_i ks vs hid
 cases hr
 obtain ⟨hn0, hnl⟩ := hob
 rw [em] at hm
 rw [es_] at hst
 simp only [RV, RD] at hm hst
 obtain ⟨b, K, s', hs, hmv⟩ := hm
 obtain ⟨b', K', s'', es, clock, hs', hb, hB, hl, hks, hvs⟩ := h.own id _ hid
 rw [hs] at hs'
 cases hs'
 have hvl := RVl_length hvs
 obtain ⟨j, rfl⟩ : ∃ j : Nat, n = j := ⟨n.toNat, by omega⟩
 rw [Int.toNat_natCast] at hnl
 rw [Int.toNat_natCast]
 have hj : j < es.size := by simp at hvl; omega
 have hfi := born_at hB hj
 have hrun : (execOp ρ o).run P w = .ok .skip (setB w b (.map (es.modify j fun e => { e with val := ρ x }) clock)) := by
  simp only [execOp, ho, Instr.entryStore, hmv, hst, asInt, asIntOf, Sem.run_bind, run_getMap hb, Result.andThen_ok, Sem.run_pure, hfi, run_setMap hb]
 obtain ⟨w1, w2⟩ := h.write hid hs (.map (es.modify j fun e => { e with val := ρ x }) clock) (.map ks (vs.set j (ev x))) (by
  intro ok' hok
  refine ⟨b, K, s', _, clock, hs, setB_same (heap_lt hb), ⟨by simpa using hB.1, fun i e he => ?_⟩, by simpa using hl, ?_, ?_⟩
  ·rw [Array.getElem?_modify] at he
   split at he
   ·rename_i e1
    subst e1
    rw [Array.getElem?_eq_getElem hj] at he
    simp at he
    subst he
    exact hB.2 j es[j] (Array.getElem?_eq_getElem hj)
   ·exact hB.2 i e he
  ·refine RDcs_of fun i y' hy' => ?_
   obtain ⟨u, hu, hru⟩ := RDcs_get hks hy'
   simp only [Nat.zero_add, Array.getElem?_map, Array.getElem?_modify] at hu ⊢
   by_cases e1 : j = i
   ·subst e1
    rw [if_pos rfl]
    refine ⟨u, ?_, RD_mono hok _ _ hru⟩
    rw [Array.getElem?_eq_getElem hj] at hu ⊢
    exact hu
   ·rw [if_neg e1]
    exact ⟨u, hu, RD_mono hok _ _ hru⟩
  ·have e1 : (Array.map (fun x => x.val) (es.modify j fun e => { e with val := ρ x })).toList = (Array.map (fun x => x.val) es).toList.set j (ρ x) := by
    apply List.ext_getElem?
    intro i
    rw [List.getElem?_set]
    simp only [Array.getElem?_toList, Array.getElem?_map, Array.getElem?_modify]
    by_cases e2 : j = i
    ·subst e2; simp [hj]
    ·simp [e2]
   rw [e1]
   exact RVl_set (RVl_mono hok (fun _ _ h => h) _ _ hvs) (RV_mono hok (fun _ _ h => h) _ _ hx) j)
 refine ⟨undef, _, σ, .inr ⟨hrun, rfl⟩, ?_, fun _ _ => rfl, fun _ _ h => h, ?_, ?_⟩
 ·rw [app_one]; exact w1
 ·rw [app_one]; exact w2
 ·simp only [RV]
end
end Go.AX
