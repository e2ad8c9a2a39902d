/- AX, part 7e: maps with plain keys. -/
import Derived.Test.YtmeecpmogjlnaaaGreatDoorAx7d
namespace Go.AX
open Go

/-- Two plain keys, compared. -/
def sameK : D → D → Option Bool
  | .int k a, .int k' b => if k = k' then some (a == b) else none
  | .str a, .str b => some (a == b)
  | .bool a, .bool b => some (a == b)
  | _, _ => none
/-- The place of a key. -/
def fndK (k : D) : List D → Option (Option Nat)
  | [] => some none
  | x :: xs => match sameK k x with
    | some true => some (some 0)
    | some false => match fndK k xs with
      | some (some i) => some (some (i + 1))
      | some none => some none
      | none => none
    | none => none
def plainK (u : TU) : D → Bool
  | .int k _ => match u with
    | .int k' => k == k'
    | _ => false
  | .str _ => match u with
    | .str => true
    | _ => false
  | .bool _ => match u with
    | .bool => true
    | _ => false
  | _ => false

def aMakeMap (nid : Nat) : Option Res := some ⟨.mpr nid, [(nid, some (.map [] []))], True⟩
def mapOf (hv : Nat → Option O) : V → Option (List D × List V)
  | .d (.map ks vs) => some (ks, vs.map .d)
  | .mpr id => match hv id with
    | some (.map ks vs) => some (ks, vs)
    | _ => none
  | _ => none
def pairV (commaOk : Bool) (v : V) (ok : Bool) : V := if commaOk = true then .tup [v, .d (.bool ok)] else v
def aLookup (P : Program) (hv : Nat → Option O) (t : TypeId) (x i : V) (commaOk : Bool) : Option Res := match tiOf P t with
  | some ⟨.map kt et, _, _, _⟩ => match tiOf P kt, tiOf P et, mapOf hv x, i with
    | some ki, some ei, some (ks, vs), .d k => if plainK ki.u k = true then match fndK k ks with
      | some (some j) => match vs[j]? with
        | some v => some ⟨pairV commaOk v true, [], True⟩
        | none => none
      | some none => some ⟨pairV commaOk ei.zero false, [], True⟩
      | none => none
      else none
    | _, _, _, _ => none
  | _ => none
def aMapUpdate (P : Program) (hv : Nat → Option O) (t : TypeId) (m k x : V) : Option Res := match tiOf P t with
  | some ⟨.map kt _, _, _, _⟩ => match tiOf P kt, m, k with
    | some ki, .mpr id, .d k => match hv id with
      | some (.map ks vs) => if plainK ki.u k = true then match fndK k ks with
        | some (some j) => some ⟨.top, [(id, some (.map ks (vs.set j x)))], True⟩
        | some none => some ⟨.top, [(id, some (.map (ks ++ [k]) (vs ++ [x])))], True⟩
        | none => none
        else none
      | _ => none
    | _, _, _ => none
  | _ => none

section
variable {P : Program} {cx : Cx} {hv : Nat → Option O} {σ : Nat → Option Loc} {w : World} {nid : Nat} {ρ : Operand → Value} {ev : Operand → V}

theorem run_getMap {b : Nat} {es : Array MapEntry} {clock : Nat} (h : w.heap[b]? = some (.map es clock)) : (getObj b).run P w = .ok (.map es clock) w := by
  simp [getObj, Sem.run, h]
theorem run_setMap {b : Nat} {es : Array MapEntry} {clock : Nat} (h : w.heap[b]? = some (.map es clock)) (o : Obj) : (setObj b o).run P w = .ok () (setB w b o) := by
  simp [setObj, Sem.run, h, setB]

theorem checkKey_plain {e : Bool} {n : Nat} {kt : TypeId} {ki : TI} {k : D} {v : Value} {ok : Nat → Prop} (hti : tiOf P kt = some ki) (hp : plainK ki.u k = true) (hk : RD w ok k v) : (Instr.checkKey e (n + 1) kt v).run P w = .ok () w := by
  obtain ⟨ii, d, z, h1, h2, h3, h4, _⟩ := tiOf_spec hti
  cases k with
  | int k a =>
    simp only [RD] at hk; subst hk
    cases d <;> simp [plainK, h4, tuOf] at hp <;> simp [Instr.checkKey, run_underlying' h2]
  | str a =>
    simp only [RD] at hk; subst hk
    cases d <;> simp [plainK, h4, tuOf] at hp <;> simp [Instr.checkKey, run_underlying' h2]
  | bool a =>
    simp only [RD] at hk; subst hk
    cases d <;> simp [plainK, h4, tuOf] at hp <;> simp [Instr.checkKey, run_underlying' h2]
  | _ => simp [plainK] at hp

theorem ba_beq (a b : List UInt8) : ((ByteArray.mk a.toArray) == (ByteArray.mk b.toArray)) = (a == b) := by
  have : ((ByteArray.mk a.toArray) == (ByteArray.mk b.toArray)) = (a.toArray == b.toArray) := rfl
  rw [this]
  simp

theorem sameK_now {ki : TI} {d : TypeDesc} (hd : ki.u = tuOf d) {k x : D} {v u : Value} {ok : Nat → Prop} (hp : plainK ki.u k = true) (hk : RD w ok k v) (hx : RD w ok x u) {b : Bool} (h : sameK k x = some b) : Instr.sameNow d v u = some b := by
  cases k with
  | int kk a =>
    simp only [RD] at hk; subst hk
    cases x <;> simp [sameK] at h
    simp only [RD] at hx; subst hx
    cases d <;> simp [plainK, hd, tuOf] at hp
    obtain ⟨h1, h2⟩ := h
    subst h1
    simp [Instr.sameNow, h2]
  | str a =>
    simp only [RD] at hk; subst hk
    cases x <;> simp [sameK] at h
    simp only [RD] at hx; subst hx
    cases d <;> simp [plainK, hd, tuOf] at hp
    simp only [Instr.sameNow, ba_beq]
    simpa using h
  | bool a =>
    simp only [RD] at hk; subst hk
    cases x <;> simp [sameK] at h
    simp only [RD] at hx; subst hx
    cases d <;> simp [plainK, hd, tuOf] at hp
    simp [Instr.sameNow, h]
  | _ => simp [plainK] at hp

theorem fndK_now {ki : TI} {d : TypeDesc} (hd : ki.u = tuOf d) {k : D} {v : Value} {ok : Nat → Prop} (hp : plainK ki.u k = true) (hk : RD w ok k v) : ∀ (ks : List D) (es : List MapEntry) (r : Option Nat) (i : Nat), es.length = ks.length →
    (∀ (j : Nat) x e, ks[j]? = some x → es[j]? = some e → RD w ok x e.key) → fndK k ks = some r → Instr.findNow d v es i = some (r.bind fun j => (es[j]?).map fun e => (i + j, e.val)) ∧ ∀ j, r = some j → j < es.length
  | [], es, r, i, hl, _, h => by
    have : es = [] := by simpa using hl
    subst this
    simp [fndK] at h
    subst h
    simp [Instr.findNow]
  | x :: ks, [], r, i, hl, _, h => by simp at hl
  | x :: ks, e :: es, r, i, hl, hke, h => by
    simp only [fndK] at h
    have h0 := hke 0 x e rfl rfl
    split at h
    · rename_i hs
      cases h
      have := sameK_now hd hp hk h0 hs
      simp [Instr.findNow, this]
    · rename_i hs
      have hn := sameK_now hd hp hk h0 hs
      have ih := fndK_now hd hp hk ks es
      split at h
      · rename_i j hf
        cases h
        obtain ⟨h1, h2⟩ := ih (some j) (i + 1) (by simpa using hl) (fun j x e hx he => hke (j + 1) x e (by simpa using hx) (by simpa using he)) hf
        have hj := h2 j rfl
        refine ⟨?_, fun j' hj' => by cases hj'; simp; omega⟩
        simp only [Instr.findNow, hn, h1]
        simp only [Option.bind_some, List.getElem?_cons_succ]
        have : i + 1 + j = i + (j + 1) := by omega
        rw [this]
      · rename_i hf
        cases h
        obtain ⟨h1, h2⟩ := ih none (i + 1) (by simpa using hl) (fun j x e hx he => hke (j + 1) x e (by simpa using hx) (by simpa using he)) hf
        refine ⟨?_, by simp⟩
        simp only [Instr.findNow, hn, h1]
        rfl
      · cases h
    · cases h

theorem findKey_run {kt : TypeId} {ki : TI} (hti : tiOf P kt = some ki) {k : D} {v : Value} {ok : Nat → Prop} (hp : plainK ki.u k = true) (hk : RD w ok k v) {ks : List D} {es : Array MapEntry} {r : Option Nat} (hl : es.size = ks.length)
    (hke : RDcs w ok (es.map (·.key)) 0 ks) (h : fndK k ks = some r) : (Instr.findKey kt v es.toList).run P w = .ok (r.bind fun j => (es[j]?).map fun e => (j, e.val)) w ∧ ∀ j, r = some j → j < es.size := by
  obtain ⟨ii, d, z, h1, h2, h3, h4, _⟩ := tiOf_spec hti
  obtain ⟨g1, g2⟩ := fndK_now h4 hp hk ks es.toList r 0 (by simpa using hl) (fun j x e hx he => by
    obtain ⟨u, hu, hr⟩ := RDcs_get hke hx
    simp only [Nat.zero_add, Array.getElem?_map] at hu
    have he' : es[j]? = some e := by simpa using he
    rw [he'] at hu
    simp at hu
    subst hu
    exact hr) h
  refine ⟨?_, by simpa using g2⟩
  simp only [Instr.findKey, Sem.run_bind, run_underlying' h2, Result.andThen_ok, g1, Sem.run_pure]
  simp

theorem RVl_dmap {ok : Nat → Prop} : ∀ {ds : List D} {c : Array Value} {p : Nat}, c.size = p + ds.length → RDcs w ok c p ds → RVl w ok σ (ds.map .d) (c.toList.drop p)
  | [], c, p, hl, _ => by
    simp only [List.map_nil, RVl]
    apply List.drop_eq_nil_of_le
    simp at hl ⊢
    omega
  | d :: ds, c, p, hl, h => by
    simp only [RDcs] at h
    obtain ⟨⟨v, hv, hr⟩, hrest⟩ := h
    simp only [List.map_cons, RVl, RV]
    have hlt : p < c.size := by simp at hl; omega
    refine ⟨v, c.toList.drop (p + 1), ?_, hr, RVl_dmap (by simp at hl; omega) hrest⟩
    have hg : c[p] = v := by simpa [Array.getElem?_eq_getElem hlt] using hv
    rw [List.drop_eq_getElem_cons (by simpa using hlt)]
    simp [hg]

/-- The entries of a map. -/
theorem mapOf_sound (h : HR cx hv σ w) {x : V} {v : Value} (hx : RV w (okB cx w hv σ) σ x v) {ks : List D} {vs : List V} (hm : mapOf hv x = some (ks, vs)) :
    ∃ es : Array MapEntry, (v = .map none ∧ es = #[] ∨ ∃ b clock, v = .map (some b) ∧ w.heap[b]? = some (.map es clock)) ∧ es.size = ks.length ∧ RDcs w (okB cx w hv σ) (es.map (·.key)) 0 ks ∧ RVl w (okB cx w hv σ) σ vs (es.map (·.val)).toList := by
  cases x with
  | d y =>
    cases y with
    | map ks' vs' =>
      simp only [mapOf] at hm
      cases hm
      simp only [RV, RD] at hx
      obtain ⟨r, rfl, hr⟩ := hx
      rcases hr with ⟨rfl, rfl, rfl⟩ | ⟨b, es, clock, rfl, _, hb, hB, h1, h2, h3, h4⟩
      · exact ⟨#[], .inl ⟨rfl, rfl⟩, rfl, by simp only [RDcs], by simp [RVl]⟩
      · refine ⟨es, .inr ⟨b, clock, rfl, hb⟩, h1, h3, ?_⟩
        have := RVl_dmap (σ := σ) (p := 0) (by simpa using h2) h4
        simpa using this
    | _ => simp [mapOf] at hm
  | mpr id =>
    simp only [mapOf] at hm
    split at hm
    · rename_i ks' vs' hid
      cases hm
      simp only [RV] at hx
      obtain ⟨b, K, s, hs, rfl⟩ := hx
      obtain ⟨b', K', s', es, clock, hs', hb, hB, h1, h3, h4⟩ := h.own id _ hid
      rw [hs] at hs'
      cases hs'
      exact ⟨es, .inr ⟨b, clock, rfl, hb⟩, h1, h3, h4⟩
    · cases hm
  | _ => simp [mapOf] at hm

theorem aLookup_sound (h : HR cx hv σ w) (hev : ∀ x, RV w (okB cx w hv σ) σ (ev x) (ρ x)) {t : TypeId} {x i : Operand} {c : Bool} {o : Oper} {r : Res} (ho : o.op = .lookup t x i c)
    (hr : aLookup P hv t (ev x) (ev i) c = some r) : Sound P cx hv σ w nid ρ o r := by
  have hx := hev x
  have hi := hev i
  unfold aLookup at hr
  split at hr
  case h_2 => cases hr
  rename_i kt et _ _ _ hti
  obtain ⟨ii, d, zv, h1, h2, h3, h4, h5, h6, h7⟩ := tiOf_spec hti
  have := tuOf_map h4
  subst this
  split at hr
  case h_2 => cases hr
  rename_i ki ei ks vs k hki hei hm hik
  obtain ⟨ie, d', z, g1, g2, g3, g4, g5, g6, g7⟩ := tiOf_spec hei
  split at hr
  case isFalse => cases hr
  rename_i hp
  rw [hik] at hi
  simp only [RV] at hi
  obtain ⟨es, hes, hl, hks, hvs⟩ := mapOf_sound h hx hm
  have hrun : ∀ r, fndK k ks = some r → ∀ v b, (match r.bind fun j => (es[j]?).map fun e => (j, e.val) with | some (_, v) => (v, true) | none => (z, false)) = (v, b) → (execOp ρ o).run P w = .ok (.value (if c then .tuple #[v, .bool b] else v)) w := by
    intro r hf v b hvb
    obtain ⟨k1, k2⟩ := findKey_run hki hp hi hl hks hf
    rcases hes with ⟨hv', rfl⟩ | ⟨b', clock, hv', hb⟩
    · simp only [execOp, ho, Instr.lookup, hv', Sem.run_bind, run_underlying' h2, Result.andThen_ok, Sem.run_pure, checkKey_plain (n := 9999) hki hp hi, k1]
      revert hvb
      cases (r.bind fun j => ((#[] : Array MapEntry)[j]?).map fun e => (j, e.val)) with
      | none => intro hvb; cases hvb; simp only [Sem.run_bind, run_zeroValue' g1 g3, Result.andThen_ok, Sem.run_pure]
      | some q => obtain ⟨q1, q2⟩ := q; intro hvb; cases hvb; simp only [Sem.run_bind, Sem.run_pure, Result.andThen_ok]
    · simp only [execOp, ho, Instr.lookup, hv', Sem.run_bind, run_underlying' h2, run_getMap hb, Result.andThen_ok, Sem.run_pure, checkKey_plain (n := 9999) hki hp hi, k1]
      revert hvb
      cases (r.bind fun j => (es[j]?).map fun e => (j, e.val)) with
      | none => intro hvb; cases hvb; simp only [Sem.run_bind, run_zeroValue' g1 g3, Result.andThen_ok, Sem.run_pure]
      | some q => obtain ⟨q1, q2⟩ := q; intro hvb; cases hvb; simp only [Sem.run_bind, Sem.run_pure, Result.andThen_ok]
  have pv : ∀ v u b, RV w (okB cx w hv σ) σ v u → RV w (okB cx w hv σ) σ (pairV c v b) (if c then .tuple #[u, .bool b] else u) := by
    intro v u b hvu
    cases c with
    | false => simpa [pairV] using hvu
    | true =>
      simp only [pairV, if_true, RV]
      refine ⟨#[u, .bool b], rfl, ?_⟩
      simp only [RVl, RV, RD]
      exact ⟨u, [.bool b], rfl, hvu, .bool b, [], rfl, rfl, rfl⟩
  split at hr
  · rename_i j hf
    split at hr
    · rename_i v hvj
      cases hr
      obtain ⟨u, hu, hru⟩ := RVl_get hvs hvj
      have hj := (findKey_run hki hp hi hl hks hf).2 j rfl
      have hu' : (es[j]).val = u := by
        simpa [hj] using hu
      refine sound_value h rfl (hrun _ hf u true ?_) (pv _ _ _ hru)
      simp [hj, hu']
    · cases hr
  · rename_i hf
    cases hr
    refine sound_value h rfl (hrun _ hf z false ?_) (pv _ _ _ (by rw [g7]; exact RV_constV z))
    simp
  · cases hr

theorem aMakeMap_sound (h : HR cx hv σ w) (hn : σ nid = none) {t : TypeId} {o : Oper} {r : Res} (ho : o.op = .makeMap t none) (hr : aMakeMap nid = some r) : Sound P cx hv σ w nid ρ o r := by
  unfold aMakeMap at hr
  cases hr
  obtain ⟨g1, g2, g3⟩ := h.alloc hn (hv_none_of_fresh h hn) (.map #[] 0) (.map [] []) 0 0 (by
    intro σ' ok' hσ hok hnew
    exact ⟨w.heap.size, 0, 0, #[], 0, hnew, alloc_new _ _, ⟨rfl, by simp⟩, rfl, by simp only [RDcs], by simp [RVl]⟩)
  refine ⟨.map (some w.heap.size), w.alloc (.map #[] 0), _, .inl ?_, ?_, fun id hid => upd_other _ _ hid, g2, ?_, ?_⟩
  · simp only [execOp, ho, Instr.makeMap, Option.map_none, Sem.run_bind, run_newObj_alloc, Result.andThen_ok, Sem.run_pure]
  · rw [app_one]; exact g1
  · rw [app_one]; exact g3
  · simp only [RV]; exact ⟨w.heap.size, 0, 0, upd_same _ _ _, rfl⟩

theorem RVl_set {ok : Nat → Prop} {xs : List V} {vs : List Value} (h : RVl w ok σ xs vs) {x : V} {v : Value} (hx : RV w ok σ x v) (j : Nat) : RVl w ok σ (xs.set j x) (vs.set j v) := by
  have hl := RVl_length h
  refine RVl_of (by simp [hl]) fun i y u hy hu => ?_
  rw [List.getElem?_set] at hy hu
  by_cases hj : j = i
  · subst hj
    rw [if_pos rfl] at hy hu
    split at hy
    · rename_i hlt
      rw [if_pos (by omega)] at hu
      cases hy
      cases hu
      exact hx
    · cases hy
  · rw [if_neg hj] at hy hu
    obtain ⟨u', h1, h2⟩ := RVl_get h hy
    rw [h1] at hu
    cases hu
    exact h2

theorem sameK_eq {k x : D} {v u : Value} {ok : Nat → Prop} (hk : RD w ok k v) (hx : RD w ok x u) (h : sameK k x = some true) : u = v ∧ x = k := by
  cases k with
  | int kk a =>
    simp only [RD] at hk; subst hk
    cases x <;> simp [sameK] at h
    simp only [RD] at hx; subst hx
    obtain ⟨h1, h2⟩ := h
    subst h1; subst h2
    exact ⟨rfl, rfl⟩
  | str a =>
    simp only [RD] at hk; subst hk
    cases x <;> simp [sameK] at h
    simp only [RD] at hx; subst hx
    subst h
    exact ⟨rfl, rfl⟩
  | bool a =>
    simp only [RD] at hk; subst hk
    cases x <;> simp [sameK] at h
    simp only [RD] at hx; subst hx
    subst h
    exact ⟨rfl, rfl⟩
  | _ => simp [sameK] at h
theorem fndK_same {k : D} : ∀ {ks : List D} {j : Nat}, fndK k ks = some (some j) → ∃ x, ks[j]? = some x ∧ sameK k x = some true
  | [], j, h => by simp [fndK] at h
  | x :: ks, j, h => by
    simp only [fndK] at h
    split at h
    · rename_i hs
      cases h
      exact ⟨x, rfl, hs⟩
    · split at h
      · rename_i i hf
        cases h
        simpa using fndK_same hf
      · cases h
      · cases h
    · cases h
theorem keyStays_run {k : D} {u v : Value} {ok : Nat → Prop} {ki : TU} (hp : plainK ki k = true) (hk : RD w ok k v) (e : u = v) : (Instr.keyThatStays u v).run P w = .ok v w := by
  subst e
  have : Instr.sameBits 10000 u u = true := by
    cases k with
    | int kk a => simp only [RD] at hk; subst hk; simp [Instr.sameBits]
    | str a => simp only [RD] at hk; subst hk; simp [Instr.sameBits, ba_beq]
    | bool a => simp only [RD] at hk; subst hk; simp [Instr.sameBits]
    | _ => simp [plainK] at hp
  simp [Instr.keyThatStays, this]

theorem aMapUpdate_sound (h : HR cx hv σ w) (hev : ∀ x, RV w (okB cx w hv σ) σ (ev x) (ρ x)) {t : TypeId} {m k x : Operand} {o : Oper} {r : Res} (ho : o.op = .mapUpdate t m k x)
    (hr : aMapUpdate P hv t (ev m) (ev k) (ev x) = some r) : Sound P cx hv σ w nid ρ o r := by
  have hm := hev m
  have hk := hev k
  have hx := hev x
  unfold aMapUpdate at hr
  split at hr
  case h_2 => cases hr
  rename_i kt et _ _ _ hti
  obtain ⟨ii, d, zv, h1, h2, h3, h4, h5, h6, h7⟩ := tiOf_spec hti
  have := tuOf_map h4
  subst this
  split at hr
  case h_2 => cases hr
  rename_i ki id kd hki em ek
  split at hr
  case h_2 => cases hr
  rename_i ks vs hid
  split at hr
  case isFalse => cases hr
  rename_i hp
  rw [em] at hm
  rw [ek] at hk
  simp only [RV] at hm hk
  obtain ⟨b, K, s, hs, hmv⟩ := hm
  obtain ⟨b', K', s', es, clock, hs', hb, hB, hl, hks, hvs⟩ := h.own id _ hid
  rw [hs] at hs'
  cases hs'
  have hvl := RVl_length hvs
  have hrun : ∀ r, fndK kd ks = some r → ∀ ob, (match r with | some j => Obj.map (es.modify j fun e => { e with key := ρ k, val := ρ x }) clock | none => .map (es.push { key := ρ k, val := ρ x, born := clock }) (clock + 1)) = ob → (execOp ρ o).run P w = .ok .skip (setB w b ob) := by
    intro r hf ob hob
    obtain ⟨k1, k2⟩ := findKey_run hki hp hk hl hks hf
    cases r with
    | none =>
      simp only [Option.bind_none] at k1
      simp only [execOp, ho, Instr.mapUpdate, hmv, Sem.run_bind, run_underlying' h2, run_getMap hb, Result.andThen_ok, checkKey_plain (n := 9999) hki hp hk, k1, run_setMap hb, Sem.run_pure]
      simp only at hob
      rw [hob]
    | some j =>
      have hj := k2 j rfl
      have hej : es[j]? = some es[j] := Array.getElem?_eq_getElem hj
      simp only [Option.bind_some, hej, Option.map_some] at k1
      obtain ⟨y, hy1, hy2⟩ := fndK_same hf
      obtain ⟨u, hu1, hu2⟩ := RDcs_get hks hy1
      have hue : u = es[j].key := by
        simp only [Nat.zero_add, Array.getElem?_map, hej, Option.map_some] at hu1
        exact (Option.some.inj hu1).symm
      have hst := keyStays_run (P := P) hp hk (sameK_eq hk hu2 hy2).1
      rw [hue] at hst
      simp only [execOp, ho, Instr.mapUpdate, hmv, Sem.run_bind, run_underlying' h2, run_getMap hb, Result.andThen_ok, checkKey_plain (n := 9999) hki hp hk, k1, hej, Option.map_some, Option.getD_some, hst, run_setMap hb, Sem.run_pure]
      simp only at hob
      rw [hob]
  split at hr
  · rename_i j hf
    cases hr
    have hj := (findKey_run hki hp hk hl hks hf).2 j rfl
    obtain ⟨y, hy1, hy2⟩ := fndK_same hf
    obtain ⟨g1, g2⟩ := h.write hid hs (.map (es.modify j fun e => { e with key := ρ k, val := ρ x }) clock) (.map ks (vs.set j (ev x))) (by
      intro ok' hok
      refine ⟨b, K, s, _, clock, hs, setB_same (heap_lt hb), ⟨by simpa using hB.1, fun i e he => ?_⟩, by simpa using hl, ?_, ?_⟩
      · rw [Array.getElem?_modify] at he
        split at he
        · rename_i e1
          subst e1
          rw [Array.getElem?_eq_getElem hj] at he
          simp at he
          subst he
          exact hB.2 j es[j] (Array.getElem?_eq_getElem hj)
        · exact hB.2 i e he
      · refine RDcs_of fun i y' hy' => ?_
        obtain ⟨u, hu, hru⟩ := RDcs_get hks hy'
        simp only [Nat.zero_add, Array.getElem?_map, Array.getElem?_modify] at hu ⊢
        by_cases e1 : j = i
        · subst e1
          rw [hy1] at hy'
          cases hy'
          have := (sameK_eq hk hru hy2).2
          subst this
          refine ⟨ρ k, by simp [hj], RD_mono hok _ _ hk⟩
        · rw [if_neg e1]
          exact ⟨u, hu, RD_mono hok _ _ hru⟩
      · have e1 : (Array.map (fun x => x.val) (es.modify j fun e => { e with key := ρ k, val := ρ x })).toList = (Array.map (fun x => x.val) es).toList.set j (ρ x) := by
          apply List.ext_getElem?
          intro i
          rw [List.getElem?_set]
          simp only [Array.getElem?_toList, Array.getElem?_map, Array.getElem?_modify]
          by_cases e2 : j = i
          · subst e2; simp [hj]
          · simp [e2]
        rw [e1]
        exact RVl_set (RVl_mono hok (fun _ _ h => h) _ _ hvs) (RV_mono hok (fun _ _ h => h) _ _ hx) j)
    refine ⟨undef, _, σ, .inr ⟨hrun _ hf _ rfl, rfl⟩, ?_, fun _ _ => rfl, fun _ _ h => h, ?_, ?_⟩
    · rw [app_one]; exact g1
    · rw [app_one]; exact g2
    · simp only [RV]
  · rename_i hf
    cases hr
    obtain ⟨g1, g2⟩ := h.write hid hs (.map (es.push { key := ρ k, val := ρ x, born := clock }) (clock + 1)) (.map (ks ++ [kd]) (vs ++ [ev x])) (by
      intro ok' hok
      refine ⟨b, K, s, _, clock + 1, hs, setB_same (heap_lt hb), ⟨by simp [hB.1], fun i e he => ?_⟩, by simp [hl], ?_, ?_⟩
      · rw [Array.getElem?_push] at he
        split at he
        · rename_i e1
          cases he
          simp [e1, hB.1]
        · exact hB.2 i e he
      · refine RDcs_of fun i y hy => ?_
        simp only [Nat.zero_add, Array.getElem?_map, Array.getElem?_push]
        rcases Nat.lt_or_ge i ks.length with hi | hi
        · rw [List.getElem?_append_left hi] at hy
          obtain ⟨u, hu, hru⟩ := RDcs_get hks hy
          simp only [Nat.zero_add, Array.getElem?_map] at hu
          rw [if_neg (by omega)]
          exact ⟨u, hu, RD_mono hok _ _ hru⟩
        · rw [List.getElem?_append_right hi] at hy
          have : i - ks.length = 0 := by
            rcases Nat.eq_zero_or_pos (i - ks.length) with h' | h'
            · exact h'
            · obtain ⟨q, hq⟩ : ∃ q, i - ks.length = q + 1 := ⟨i - ks.length - 1, by omega⟩
              rw [hq] at hy
              simp at hy
          rw [this] at hy
          simp at hy
          subst hy
          rw [if_pos (by omega)]
          exact ⟨ρ k, rfl, RD_mono hok _ _ hk⟩
      · have e1 : (Array.map (fun x => x.val) (es.push { key := ρ k, val := ρ x, born := clock })).toList = (Array.map (fun x => x.val) es).toList ++ [ρ x] := by simp
        rw [e1]
        exact RVl_append (RVl_mono hok (fun _ _ h => h) _ _ hvs) (RVl_one (RV_mono hok (fun _ _ h => h) _ _ hx)))
    refine ⟨undef, _, σ, .inr ⟨hrun _ hf _ rfl, rfl⟩, ?_, fun _ _ => rfl, fun _ _ h => h, ?_, ?_⟩
    · rw [app_one]; exact g1
    · rw [app_one]; exact g2
    · simp only [RV]
  · cases hr
end
end Go.AX
