/- AX, part 7j: an entry of a map that is read and then written. -/
import Derived.Test.YtlejkdigdkeocaaGreatDoorAx7e
set_option linter.unusedSimpArgs false
set_option linter.unusedVariables false
namespace Go.AX
open Go
def aMapEntry (P : Program) (hv : Nat → Option O) (t : TypeId) (m k : V) : Option Res := match tiOf P t with
  | some ⟨.map kt et, _, _, _⟩ => match tiOf P kt, tiOf P et, m, k with
    | some ki, some ei, .mpr id, .d k => match hv id with
      | some (.map ks vs) => if keyOk P kt ki.u k = true then match fndK k ks with
        | some (some j) => match vs[j]? with
          | some v => some ⟨.tup [v, .d (.int .i64 j)], [(id, some (.map ks vs))], True⟩
          | none => none
        | some none => some ⟨.tup [ei.zero, .d (.int .i64 ks.length)], [(id, some (.map (ks ++ [k]) (vs ++ [ei.zero])))], True⟩
        | none => none
        else none
      | _ => none
    | _, _, _, _ => none
  | _ => none
def aEntryStore (hv : Nat → Option O) (m s x : V) : Option Res := match m, s with
  | .mpr id, .d (.int .i64 n) => match hv id with
    | some (.map ks vs) => some ⟨.top, [(id, some (.map ks (vs.set n.toNat x)))], 0 ≤ n ∧ n.toNat < vs.length⟩
    | _ => none
  | _, _ => none
attribute [go_sem] aMapEntry aEntryStore
/-- The greatest, the least of three integers. -/
def aMax3 (x y z : V) : Option Res := match x, y, z with
  | .d (.int k a), .d (.int _ b), .d (.int _ c) => some ⟨.d (.int k (if c > (if b > a then b else a) then c else (if b > a then b else a))), [], True⟩
  | _, _, _ => none
def aMin3 (x y z : V) : Option Res := match x, y, z with
  | .d (.int k a), .d (.int _ b), .d (.int _ c) => some ⟨.d (.int k (if c < (if b < a then b else a) then c else (if b < a then b else a))), [], True⟩
  | _, _, _ => none
attribute [go_sem] aMax3 aMin3
section
variable {P : Program} {cx : Cx} {hv : Nat → Option O} {σ : Nat → Option Loc} {w : World} {nid : Nat} {ρ : Operand → Value} {ev : Operand → V}
theorem aMax3_sound (h : HR cx hv σ w) (hev : ∀ x, RV w (okB cx w hv σ) σ (ev x) (ρ x)) {ats : Array TypeId} {x y z : Operand} {o : Oper} {r : Res} (ho : o.op = .call ⟨.builtin .max, #[x, y, z], ats⟩) (hr : aMax3 (ev x) (ev y) (ev z) = some r) : Sound P cx hv σ w nid ρ o r := by
  have hx := hev x
  have hy := hev y
  have hz := hev z
  unfold aMax3 at hr
  split at hr
  · rename_i k a k' b k'' c ex ey ez
    cases hr
    rw [ex] at hx
    rw [ey] at hy
    rw [ez] at hz
    simp only [RV, RD] at hx hy hz
    refine sound_value h rfl (v := .int k (if c > (if b > a then b else a) then c else (if b > a then b else a))) ?_ (by simp only [RV, RD])
    rw [builtin_run ho]
    simp [builtin, Builtin.max_, Builtin.max2, hx, hy, hz]
  · cases hr
theorem aMin3_sound (h : HR cx hv σ w) (hev : ∀ x, RV w (okB cx w hv σ) σ (ev x) (ρ x)) {ats : Array TypeId} {x y z : Operand} {o : Oper} {r : Res} (ho : o.op = .call ⟨.builtin .min, #[x, y, z], ats⟩) (hr : aMin3 (ev x) (ev y) (ev z) = some r) : Sound P cx hv σ w nid ρ o r := by
  have hx := hev x
  have hy := hev y
  have hz := hev z
  unfold aMin3 at hr
  split at hr
  · rename_i k a k' b k'' c ex ey ez
    cases hr
    rw [ex] at hx
    rw [ey] at hy
    rw [ez] at hz
    simp only [RV, RD] at hx hy hz
    refine sound_value h rfl (v := .int k (if c < (if b < a then b else a) then c else (if b < a then b else a))) ?_ (by simp only [RV, RD])
    rw [builtin_run ho]
    simp [builtin, Builtin.min_, Builtin.min2, hx, hy, hz]
  · cases hr
theorem aMapEntry_sound (h : HR cx hv σ w) (hev : ∀ x, RV w (okB cx w hv σ) σ (ev x) (ρ x)) {t : TypeId} {m k : Operand} {o : Oper} {r : Res} (ho : o.op = .mapEntry t m k)
    (hr : aMapEntry P hv t (ev m) (ev k) = some r) : Sound P cx hv σ w nid ρ o r := by
  have hm := hev m
  have hk := hev k
  unfold aMapEntry at hr
  split at hr
  case h_2 => cases hr
  rename_i kt et _ _ _ hti
  obtain ⟨ii, d, zv, h1, h2, h3, h4, h5, h6, h7⟩ := tiOf_spec hti
  have := tuOf_map h4
  subst this
  split at hr
  case h_2 => cases hr
  rename_i ki ei id kd hki hei em ek
  obtain ⟨ie, d', z, g1, g2, g3, g4, g5, g6, g7⟩ := tiOf_spec hei
  split at hr
  case h_2 => cases hr
  rename_i ks vs hid
  split at hr
  case isFalse => cases hr
  rename_i hp
  rw [em] at hm
  rw [ek] at hk
  simp only [RV] at hm hk
  obtain ⟨b, K, s, hs, hmv⟩ := hm
  obtain ⟨b', K', s', es, clock, hs', hb, hB, hl, hks, hvs⟩ := h.own id _ hid
  rw [hs] at hs'
  cases hs'
  have hvl := RVl_length hvs
  split at hr
  · rename_i j hf
    split at hr
    case h_2 => cases hr
    rename_i v hvj
    cases hr
    obtain ⟨k1, k2⟩ := findKey_run hki hp hk hl hks hf
    have hj := k2 j rfl
    have hej : es[j]? = some es[j] := Array.getElem?_eq_getElem hj
    simp only [Option.bind_some, hej, Option.map_some] at k1
    obtain ⟨y, hy1, hy2⟩ := fndK_same hf
    obtain ⟨u, hu1, hu2⟩ := RDcs_get hks hy1
    have hue : u = es[j].key := by
      simp only [Nat.zero_add, Array.getElem?_map, hej, Option.map_some] at hu1
      exact (Option.some.inj hu1).symm
    have hst := keyStays_run (P := P) hp hk (sameK_eq hk hu2 hy2).1
    rw [hue] at hst
    have hborn : es[j].born = j := hB.2 j _ hej
    obtain ⟨q, hq, hrq⟩ := RVl_get hvs hvj
    have hqv : q = es[j].val := by
      simp only [Array.getElem?_toList, Array.getElem?_map, hej, Option.map_some] at hq
      exact (Option.some.inj hq).symm
    have hrun : (execOp ρ o).run P w = .ok (.value (.tuple #[es[j].val, goInt j])) (setB w b (.map (es.modify j fun e => { e with key := ρ k }) clock)) := by
      simp only [execOp, ho, Instr.mapEntry, hmv, Sem.run_bind, run_underlying' h2, run_getMap hb, Result.andThen_ok, checkKey_ok (n := 9998) hki hp hk, k1, hej, Option.map_some, Option.getD_some, hst, run_setMap hb, Sem.run_pure, hborn]
    obtain ⟨w1, w2⟩ := h.write hid hs (.map (es.modify j fun e => { e with key := ρ k }) clock) (.map ks vs) (by
      intro ok' hok
      refine ⟨b, K, s, _, clock, hs, setB_same (heap_lt hb), ⟨by simpa using hB.1, fun i e he => ?_⟩, by simpa using hl, ?_, ?_⟩
      · rw [Array.getElem?_modify] at he
        split at he
        · rename_i e1
          subst e1
          rw [Array.getElem?_eq_getElem hj] at he
          simp at he
          subst he
          exact hB.2 j es[j] (Array.getElem?_eq_getElem hj)
        · exact hB.2 i e he
      · refine RDcs_of fun i y' hy' => ?_
        obtain ⟨u, hu, hru⟩ := RDcs_get hks hy'
        simp only [Nat.zero_add, Array.getElem?_map, Array.getElem?_modify] at hu ⊢
        by_cases e1 : j = i
        · subst e1
          rw [hy1] at hy'
          cases hy'
          have := (sameK_eq hk hru hy2).2
          subst this
          refine ⟨ρ k, by simp [hj], RD_mono hok _ _ hk⟩
        · rw [if_neg e1]
          exact ⟨u, hu, RD_mono hok _ _ hru⟩
      · have e1 : (Array.map (fun x => x.val) (es.modify j fun e => { e with key := ρ k })).toList = (Array.map (fun x => x.val) es).toList := by
          apply List.ext_getElem?
          intro i
          simp only [Array.getElem?_toList, Array.getElem?_map, Array.getElem?_modify]
          by_cases e2 : j = i
          · subst e2; simp [hj]
          · simp [e2]
        rw [e1]
        exact RVl_mono hok (fun _ _ h => h) _ _ hvs)
    refine ⟨_, _, σ, .inl hrun, ?_, fun _ _ => rfl, fun _ _ h => h, ?_, ?_⟩
    · rw [app_one]; exact w1
    · rw [app_one]; exact w2
    · simp only [RV]
      refine ⟨#[es[j].val, goInt j], rfl, ?_⟩
      simp only [RVl, RV, RD]
      rw [app_one]
      exact ⟨es[j].val, [goInt j], rfl, RV_mono w2 (fun _ _ h => h) _ _ (hqv ▸ hrq), goInt j, [], rfl, rfl, rfl⟩
  · rename_i hf
    cases hr
    obtain ⟨k1, k2⟩ := findKey_run hki hp hk hl hks hf
    simp only [Option.bind_none] at k1
    have hclk : clock = ks.length := by rw [hB.1, hl]
    have hrun : (execOp ρ o).run P w = .ok (.value (.tuple #[z, goInt ks.length])) (setB w b (.map (es.push { key := ρ k, val := z, born := clock }) (clock + 1))) := by
      simp only [execOp, ho, Instr.mapEntry, hmv, Sem.run_bind, run_underlying' h2, run_getMap hb, Result.andThen_ok, checkKey_ok (n := 9998) hki hp hk, k1, run_zeroValue' g1 g3, run_setMap hb, Sem.run_pure, hclk]
    obtain ⟨w1, w2⟩ := h.write hid hs (.map (es.push { key := ρ k, val := z, born := clock }) (clock + 1)) (.map (ks ++ [kd]) (vs ++ [ei.zero])) (by
      intro ok' hok
      refine ⟨b, K, s, _, clock + 1, hs, setB_same (heap_lt hb), ⟨by simp [hB.1], fun i e he => ?_⟩, by simp [hl], ?_, ?_⟩
      · rw [Array.getElem?_push] at he
        split at he
        · rename_i e1
          cases he
          simp [e1, hB.1]
        · exact hB.2 i e he
      · refine RDcs_of fun i y hy => ?_
        simp only [Nat.zero_add, Array.getElem?_map, Array.getElem?_push]
        rcases Nat.lt_or_ge i ks.length with hi | hi
        · rw [List.getElem?_append_left hi] at hy
          obtain ⟨u, hu, hru⟩ := RDcs_get hks hy
          simp only [Nat.zero_add, Array.getElem?_map] at hu
          rw [if_neg (by omega)]
          exact ⟨u, hu, RD_mono hok _ _ hru⟩
        · rw [List.getElem?_append_right hi] at hy
          have : i - ks.length = 0 := by
            rcases Nat.eq_zero_or_pos (i - ks.length) with h' | h'
            · exact h'
            · obtain ⟨q, hq⟩ : ∃ q, i - ks.length = q + 1 := ⟨i - ks.length - 1, by omega⟩
              rw [hq] at hy
              simp at hy
          rw [this] at hy
          simp at hy
          subst hy
          rw [if_pos (by omega)]
          exact ⟨ρ k, rfl, RD_mono hok _ _ hk⟩
      · have e1 : (Array.map (fun x => x.val) (es.push { key := ρ k, val := z, born := clock })).toList = (Array.map (fun x => x.val) es).toList ++ [z] := by simp
        rw [e1]
        exact RVl_append (RVl_mono hok (fun _ _ h => h) _ _ hvs) (RVl_one (by rw [g7]; exact RV_constV z)))
    refine ⟨_, _, σ, .inl hrun, ?_, fun _ _ => rfl, fun _ _ h => h, ?_, ?_⟩
    · rw [app_one]; exact w1
    · rw [app_one]; exact w2
    · simp only [RV]
      refine ⟨#[z, goInt ks.length], rfl, ?_⟩
      simp only [RVl, RV, RD]
      exact ⟨z, [goInt ks.length], rfl, by rw [g7]; exact RV_constV z, goInt ks.length, [], rfl, rfl, rfl⟩
  · cases hr
theorem born_at {es : Array MapEntry} {clock : Nat} (hB : Births es clock) {j : Nat} (hj : j < es.size) : es.findIdx? (fun e => (e.born : Int) == (j : Int)) = some j := by
  rw [Array.findIdx?_eq_some_iff_getElem]
  refine ⟨hj, ?_, fun i hi => ?_⟩
  · have := hB.2 j _ (Array.getElem?_eq_getElem hj)
    simp [this]
  · have := hB.2 i _ (Array.getElem?_eq_getElem (by omega))
    simp [this]
    omega
theorem aEntryStore_sound (h : HR cx hv σ w) (hev : ∀ x, RV w (okB cx w hv σ) σ (ev x) (ρ x)) {t : TypeId} {m s x : Operand} {o : Oper} {r : Res} (ho : o.op = .entryStore t m s x)
    (hr : aEntryStore hv (ev m) (ev s) (ev x) = some r) (hob : r.ob) : Sound P cx hv σ w nid ρ o r := by
  have hm := hev m
  have hst := hev s
  have hx := hev x
  unfold aEntryStore at hr
  split at hr
  case h_2 => cases hr
  rename_i id n em es_
  split at hr
  case h_2 => cases hr
  rename_i ks vs hid
  cases hr
  obtain ⟨hn0, hnl⟩ := hob
  rw [em] at hm
  rw [es_] at hst
  simp only [RV, RD] at hm hst
  obtain ⟨b, K, s', hs, hmv⟩ := hm
  obtain ⟨b', K', s'', es, clock, hs', hb, hB, hl, hks, hvs⟩ := h.own id _ hid
  rw [hs] at hs'
  cases hs'
  have hvl := RVl_length hvs
  obtain ⟨j, rfl⟩ : ∃ j : Nat, n = j := ⟨n.toNat, by omega⟩
  rw [Int.toNat_natCast] at hnl
  rw [Int.toNat_natCast]
  have hj : j < es.size := by simp at hvl; omega
  have hfi := born_at hB hj
  have hrun : (execOp ρ o).run P w = .ok .skip (setB w b (.map (es.modify j fun e => { e with val := ρ x }) clock)) := by
    simp only [execOp, ho, Instr.entryStore, hmv, hst, asInt, asIntOf, Sem.run_bind, run_getMap hb, Result.andThen_ok, Sem.run_pure, hfi, run_setMap hb]
  obtain ⟨w1, w2⟩ := h.write hid hs (.map (es.modify j fun e => { e with val := ρ x }) clock) (.map ks (vs.set j (ev x))) (by
    intro ok' hok
    refine ⟨b, K, s', _, clock, hs, setB_same (heap_lt hb), ⟨by simpa using hB.1, fun i e he => ?_⟩, by simpa using hl, ?_, ?_⟩
    · rw [Array.getElem?_modify] at he
      split at he
      · rename_i e1
        subst e1
        rw [Array.getElem?_eq_getElem hj] at he
        simp at he
        subst he
        exact hB.2 j es[j] (Array.getElem?_eq_getElem hj)
      · exact hB.2 i e he
    · refine RDcs_of fun i y' hy' => ?_
      obtain ⟨u, hu, hru⟩ := RDcs_get hks hy'
      simp only [Nat.zero_add, Array.getElem?_map, Array.getElem?_modify] at hu ⊢
      by_cases e1 : j = i
      · subst e1
        rw [if_pos rfl]
        refine ⟨u, ?_, RD_mono hok _ _ hru⟩
        rw [Array.getElem?_eq_getElem hj] at hu ⊢
        exact hu
      · rw [if_neg e1]
        exact ⟨u, hu, RD_mono hok _ _ hru⟩
    · have e1 : (Array.map (fun x => x.val) (es.modify j fun e => { e with val := ρ x })).toList = (Array.map (fun x => x.val) es).toList.set j (ρ x) := by
        apply List.ext_getElem?
        intro i
        rw [List.getElem?_set]
        simp only [Array.getElem?_toList, Array.getElem?_map, Array.getElem?_modify]
        by_cases e2 : j = i
        · subst e2; simp [hj]
        · simp [e2]
      rw [e1]
      exact RVl_set (RVl_mono hok (fun _ _ h => h) _ _ hvs) (RV_mono hok (fun _ _ h => h) _ _ hx) j)
  refine ⟨undef, _, σ, .inr ⟨hrun, rfl⟩, ?_, fun _ _ => rfl, fun _ _ h => h, ?_, ?_⟩
  · rw [app_one]; exact w1
  · rw [app_one]; exact w2
  · simp only [RV]
end
end Go.AX
