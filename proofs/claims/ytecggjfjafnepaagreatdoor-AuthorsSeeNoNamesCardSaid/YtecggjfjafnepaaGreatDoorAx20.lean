/- AX, part 20: functions of the library that the model stands in for. -/
import Derived.Test.YtecggjfjafnepaaGreatDoorAx19
import Derived.Lib.Bytealg
import Derived.Lib.MakeNoZero
import Derived.KernelRfl
set_option linter.unusedSimpArgs false
set_option linter.unusedVariables false
namespace Go.AX
open Go

def pureX (name : String) (as : List V) : Option V := match as with
 | [.d (.str s), .d (.int .u8 c)] =>
  if name = "internal/bytealg.CountString" then some (.d (.int .i64 (Lib.countByte s c.toNat.toUInt8 : Nat)))
  else if name = "internal/bytealg.IndexByteString" then some (.d (.int .i64 (Lib.indexByte s c.toNat.toUInt8))) else none
 | [.d (.str a), .d (.str b)] => if name = "internal/bytealg.abigen_runtime_cmpstring" then some (.d (.int .i64 (Lib.compareBytes a b))) else none
 | [x] => if name = "internal/abi.NoEscape" then some x else none
 | _ => none

def mnzX (P : Program) (fn : Func) (as : List V) (n : Nat) : Option (V × List (Nat × Option O)) :=
 if fn.name = "internal/bytealg.MakeNoZero" then (match fn.resultTypes.toList, as with
  | [t], [.d (.int .i64 m)] => match tiOf P t with
   | some ⟨.slice e, _, _, _⟩ => if 0 ≤ m ∧ m ≤ 281474976710656 then some (.slr (64 * n) 0 m.toNat, [(64 * n, some (.vec e 1 []))]) else none
   | _ => none
  | _, _ => none) else none

def extT (P : Program) : Orc := fun f as _ n => match P.funcs[f]? with
 | none => none
 | some fn => match fn.body.isNone && !(fn.name == "runtime.NumGoroutine") && (Extern.findNext fn).isNone with
  | false => none
  | true => match pureX fn.name as with
   | some x => some (x, [], [])
   | none => match mnzX P fn as n with
    | some (x, u) => some (x, u, [])
    | none => none

theorem find_of {fn : Func} {n : String} {e : Array Value → Sem Value} (hn : fn.name = n) (hg : Extern.allGenericRows.lookup n = none) (ht : Extern.allTypedRows.lookup n = none) (hr : Extern.allRows.lookup n = some e) : Extern.find fn = some e := by
 unfold Extern.find
 simp only [hn, hg, ht, hr, Option.map_none]
 rfl
theorem find_typed {fn : Func} {n : String} {e : Array TypeId → Array TypeId → Array Value → Sem Value} (hn : fn.name = n) (hg : Extern.allGenericRows.lookup n = none) (ht : Extern.allTypedRows.lookup n = some e) : Extern.find fn = some (e fn.params fn.resultTypes) := by
 unfold Extern.find
 simp only [hn, hg, ht, Option.map_none, Option.map_some]
 rfl

section
variable {P : Program}
theorem extT_ok : OrcOk P (extT P) := by
 intro f as hv0 n x u rd h hv _
 unfold extT at h
 split at h
 ·cases h
 rename_i fn hf
 split at h
 ·cases h
 rename_i hc
 simp only [Bool.and_eq_true, Bool.not_eq_true', Option.isNone_iff_eq_none] at hc
 obtain ⟨⟨hb, hname⟩, hnext⟩ := hc
 have hb : fn.body.isNone = true := by rw [hb]; rfl
 intro cx σ w vs _ hr hn hargs
 right
 split at h
 ·rename_i x' hx
  injection h with h
  injection h with h1 h2
  injection h2 with h2 h3
  subst h1 h2 h3
  -- the value is handed back, the world stays
  have fin : ∀ (e : Array Value → Sem Value) (v : Value), Extern.find fn = some e → (e vs).run P w = .ok v w → RV w (okB cx w hv σ) σ x' v → ∃ v w', (callFunc f vs).run P w = .ok (.value v) w' ∧ ∃ σ', GoodN cx hv σ w n x' [] v w' σ' := by
   intro e v he hrun hv'
   refine ⟨v, w, ?_, σ, hr, fun _ _ => rfl, fun _ _ h => h, fun b hb => ⟨hb, rfl⟩, hv'⟩
   rw [run_callFunc_extern hf hname hb hnext he, hrun]
   rfl
  unfold pureX at hx
  split at hx
  ·rename_i s c
   obtain ⟨v1, r1, e1, q1, r2⟩ : ∃ v1 r1, vs.toList = v1 :: r1 ∧ RV w (okB cx w hv σ) σ (.d (.str s)) v1 ∧ RVl w (okB cx w hv σ) σ [.d (.int .u8 c)] r1 := by simpa only [RVl] using hargs
   simp only [RVl] at r2
   obtain ⟨v2, r3, e2, q2, e3⟩ := r2
   subst e3 e2
   have hvs : vs = #[v1, v2] := by apply Array.ext'; simpa using e1
   simp only [RV, RD] at q1 q2
   subst q1 q2 hvs
   split at hx
   ·rename_i hnm
    cases hx
    exact fin _ _ (find_of hnm (by kernel_rfl) (by kernel_rfl) (by kernel_rfl)) (Lib.run_countString _ c w) (by simp only [RV, RD])
   ·split at hx
    ·rename_i hnm
     cases hx
     exact fin _ _ (find_of hnm (by kernel_rfl) (by kernel_rfl) (by kernel_rfl)) (Lib.run_indexByteString _ c w) (by simp only [RV, RD])
    ·cases hx
  ·rename_i a b
   obtain ⟨v1, r1, e1, q1, r2⟩ : ∃ v1 r1, vs.toList = v1 :: r1 ∧ RV w (okB cx w hv σ) σ (.d (.str a)) v1 ∧ RVl w (okB cx w hv σ) σ [.d (.str b)] r1 := by simpa only [RVl] using hargs
   simp only [RVl] at r2
   obtain ⟨v2, r3, e2, q2, e3⟩ := r2
   subst e3 e2
   have hvs : vs = #[v1, v2] := by apply Array.ext'; simpa using e1
   simp only [RV, RD] at q1 q2
   subst q1 q2 hvs
   split at hx
   ·rename_i hnm
    cases hx
    exact fin _ _ (find_of hnm (by kernel_rfl) (by kernel_rfl) (by kernel_rfl)) (Lib.run_compareString _ _ w) (by simp only [RV, RD])
   ·cases hx
  ·rename_i y
   obtain ⟨v1, r1, e1, q1, r2⟩ : ∃ v1 r1, vs.toList = v1 :: r1 ∧ RV w (okB cx w hv σ) σ y v1 ∧ RVl w (okB cx w hv σ) σ [] r1 := by simpa only [RVl] using hargs
   simp only [RVl] at r2
   subst r2
   have hvs : vs = #[v1] := by apply Array.ext'; simpa using e1
   subst hvs
   split at hx
   ·rename_i hnm
    cases hx
    exact fin _ _ (find_of hnm (by kernel_rfl) (by kernel_rfl) (by kernel_rfl)) (Lib.run_noEscape w v1) q1
   ·cases hx
  ·cases hx
 ·split at h
  case h_2 => cases h
  rename_i x' u' hx
  injection h with h
  injection h with h1 h2
  injection h2 with h2 h3
  subst h1 h2 h3
  unfold mnzX at hx
  split at hx
  case isFalse => cases hx
  rename_i hnm
  split at hx
  case h_2 => cases hx
  rename_i t m ht _
  split at hx
  case h_2 => cases hx
  rename_i e _ _ _ hti
  split at hx
  case isFalse => cases hx
  rename_i hm
  injection hx with hx
  injection hx with h1 h2
  subst h1 h2
  obtain ⟨ii, d, zv, h1, h2, h3, h4, _⟩ := tiOf_spec hti
  have := tuOf_slice h4
  subst this
  obtain ⟨v1, r1, e1, q1, r2⟩ : ∃ v1 r1, vs.toList = v1 :: r1 ∧ RV w (okB cx w hv σ) σ (.d (.int .i64 m)) v1 ∧ RVl w (okB cx w hv σ) σ [] r1 := by simpa only [RVl] using hargs
  simp only [RVl] at r2
  subst r2
  have hvs : vs = #[v1] := by apply Array.ext'; simpa using e1
  simp only [RV, RD] at q1
  subst q1 hvs
  have hrt : fn.resultTypes = #[t] := by apply Array.ext'; simpa using ht
  obtain ⟨cs, hrun, hle, _⟩ := Lib.run_makeNoZero (P := P) w fn.params t e h2 m.toNat (by omega)
  have hmi : ((m.toNat : Nat) : Int) = m := by omega
  rw [hmi] at hrun
  have hw : HR cx hv σ w.drew.drew := hr.same rfl rfl rfl rfl
  obtain ⟨f1, f2, f3⟩ := hw.alloc (hn (64 * n) (by omega)) (hv_none_of_fresh hr (hn (64 * n) (by omega))) (.cells cs e) (.vec e 1 []) cs.size 1 (by
   intro σ' ok' hσ hok hnew
   exact .inr ⟨_, cs.size, cs, (0, 0), hnew, alloc_new _ _, frOk_zero _, by omega, by simp, by simp only [RVels]⟩)
  refine ⟨.slice (some ⟨w.heap.size, 0, none⟩) m.toNat cs.size, w.drew.drew.alloc (.cells cs e), ?_, _, ?_, fun id hid => upd_other _ _ (by rintro rfl; exact hid (by omega)), f2, ?_, ?_⟩
  ·rw [run_callFunc_extern hf hname hb hnext (find_typed hnm (by kernel_rfl) (by kernel_rfl)), hrt, hrun]
   rfl
  ·rw [app_one]; exact f1
  ·rw [app_one]; exact f3
  ·simp only [RV]
   exact .inr ⟨w.heap.size, cs.size, 1, ⟨w.heap.size, 0, none⟩, cs.size, upd_same _ _ _, rfl, hle, by omega, .inr rfl⟩
end
end Go.AX
