/- Names that are not plain ASCII. -/
import Derived.Test.YtmeecpmogjlnaaaGreatDoorKB
import Derived.Test.YtmeecpmogjlnaaaGreatDoorAx32
set_option linter.unusedSimpArgs false
set_option linter.unusedVariables false
set_option maxRecDepth 1000000
set_option maxHeartbeats 4000000
namespace Go.AX
open Go Go.Proofs Go.RowKit
theorem valid_any (s : List UInt8) (h : s.length ≤ 1000000) : Does Tryz.prog 64 [.d (.str s)] [] (.d (.bool (Lib.validD s))) [] := by
  refine Does.of_str1 (y := .bool (Lib.validD s)) ⟨Tryz.f64, Tryz.func64, rfl, by kernel_rfl⟩ (fun w ok => by simp only [RV, RD]) fun w hg => ?_
  refine (Any.utf8_ValidString Tryz.l196 ⟨s.toArray⟩ w (by simp [ByteArray.size]; omega) ⟨fun c hc => hg.cell (g := 0) (l := firstL) (by kernel_rfl) c .u8 (Lib.firstT c) (of_decide_eq_true (List.all_eq_true.1 first_all c (List.mem_range.2 hc))), fun i hi => ?_⟩).mono fun e w' ⟨h1, h2⟩ => ⟨by simpa using h1, h2⟩
  have e1 := List.all_eq_true.1 acc_all i (List.mem_range.2 hi)
  simp only [Bool.and_eq_true, decide_eq_true_eq] at e1
  exact ⟨hg.cell (g := 1) (l := accL) (by kernel_rfl) (2 * i) .u8 (Lib.accLo i) e1.1, hg.cell (g := 1) (l := accL) (by kernel_rfl) (2 * i + 1) .u8 (Lib.accHi i) e1.2⟩
def tblN : List (Nat × List V × V) := [(64, [.d (.str [79, 102, 32, 195, 169, 108, 97, 110])], .d (.bool true)), (64, [.d (.str [195, 137, 109, 105, 108, 101, 45, 195, 137, 108, 97, 110, 32, 90, 111, 108])], .d (.bool true))]
theorem tblN_ok : TblOk Tryz.prog tblN := by
  intro e he
  simp only [tblN, List.mem_cons, List.not_mem_nil, or_false] at he
  rcases he with rfl | rfl
  · exact ⟨(show Lib.validD [79, 102, 32, 195, 169, 108, 97, 110] = true from by kernel_rfl) ▸ valid_any _ (by simp), rfl, rfl⟩
  · exact ⟨(show Lib.validD [195, 137, 109, 105, 108, 101, 45, 195, 137, 108, 97, 110, 32, 90, 111, 108] = true from by kernel_rfl) ▸ valid_any _ (by simp), rfl, rfl⟩
def SN (P : Program) : Orc := orc2 (tblT tblN) (SO P)
theorem SN_ok : OrcOk Tryz.prog (SN Tryz.prog) := orc2_ok (tblT_ok tblN_ok) SO_ok
def CN (P : Program) : Orc := evF P (SN P) (fun _ => false) 10000 30
theorem CN_ok : OrcOk Tryz.prog (CN Tryz.prog) := evF_ok SN_ok hmix 30
end Go.AX

namespace Go.AX
open Go
/-- A credit, a final, an erratum (paper, field, key, old, new). -/
abbrev ECr := List UInt8 × List UInt8
abbrev EFi := List UInt8 × List UInt8 × Int × List ECr
abbrev Er := List UInt8 × Int × List UInt8 × List UInt8 × List UInt8
/-- Where something stands. -/
def pos? {α : Type} (q : α → Bool) : List α → Option Nat
  | [] => none
  | x :: r => if q x = true then some 0 else (pos? q r).map (· + 1)
theorem pos_some {α : Type} {q : α → Bool} : ∀ {l : List α} {i : Nat}, pos? q l = some i → ∃ x, l[i]? = some x ∧ q x = true
  | [], _, h => by simp [pos?] at h
  | x :: r, i, h => by
    simp only [pos?] at h
    split at h
    · rename_i hq; cases h; exact ⟨x, rfl, hq⟩
    · cases hr : pos? q r with
      | none => rw [hr] at h; cases h
      | some j =>
        rw [hr] at h
        cases h
        obtain ⟨y, h1, h2⟩ := pos_some hr
        exact ⟨y, by simpa using h1, h2⟩
theorem pos_map {α β : Type} (q : β → Bool) (f : α → β) : ∀ l : List α, pos? q (l.map f) = pos? (fun x => q (f x)) l
  | [] => rfl
  | x :: r => by simp only [List.map_cons, pos?, pos_map q f r]
/-- What an erratum is about: the final, and the credit (none: the title). -/
def tgt (fs : List EFi) (e : Er) : Option (Nat × Option Nat) := match pos? (fun f : EFi => f.1 == e.1) fs with
  | none => none
  | some i => if e.2.1 = 1 then some (i, none) else match fs[i]? with
    | some f => match pos? (fun c : ECr => c.1 == e.2.2.1) f.2.2.2 with
      | some k => some (i, some k)
      | none => none
    | none => none
def getF (f : EFi) : Option Nat → List UInt8
  | none => f.2.1
  | some k => (f.2.2.2[k]?.map (·.2)).getD []
def setF (f : EFi) (s : List UInt8) : Option Nat → EFi
  | none => (f.1, s, f.2.2.1, f.2.2.2)
  | some k => (f.1, f.2.1, f.2.2.1, f.2.2.2.set k ((f.2.2.2[k]?.map (·.1)).getD [], s))
def getT (fs : List EFi) (t : Nat × Option Nat) : List UInt8 := (fs[t.1]?.map fun f => getF f t.2).getD []
def setT (fs : List EFi) (t : Nat × Option Nat) (s : List UInt8) : List EFi := match fs[t.1]? with
  | some f => fs.set t.1 (setF f s t.2)
  | none => fs
/-- What stays: papers and keys. -/
def shp (f : EFi) : List UInt8 × List (List UInt8) := (f.1, f.2.2.2.map (·.1))
theorem shp_setF (f : EFi) (s : List UInt8) (o : Option Nat) : shp (setF f s o) = shp f := by
  cases o with
  | none => rfl
  | some k =>
    simp only [shp, setF]
    congr 1
    rw [List.map_set]
    refine List.ext_getElem? fun i => ?_
    rw [List.getElem?_set]
    split
    · rename_i hk
      subst hk
      split
      · rename_i hlt
        simp only [List.length_map] at hlt
        simp [hlt]
      · rename_i hlt
        rw [List.getElem?_eq_none (by omega)]
    · rfl
theorem shp_setT (fs : List EFi) (t : Nat × Option Nat) (s : List UInt8) : (setT fs t s).map shp = fs.map shp := by
  unfold setT
  cases hf : fs[t.1]? with
  | none => rfl
  | some f =>
    simp only
    rw [List.map_set, shp_setF]
    refine List.ext_getElem? fun i => ?_
    rw [List.getElem?_set]
    split
    · rename_i hk
      subst hk
      split
      · rw [List.getElem?_map, hf]; rfl
      · rename_i hlt
        rw [List.getElem?_eq_none (by omega)]
    · rfl
/-- The target depends on papers and keys alone. -/
def tgtS (ss : List (List UInt8 × List (List UInt8))) (e : Er) : Option (Nat × Option Nat) := match pos? (fun f => f.1 == e.1) ss with
  | none => none
  | some i => if e.2.1 = 1 then some (i, none) else match ss[i]? with
    | some f => match pos? (fun c => c == e.2.2.1) f.2 with
      | some k => some (i, some k)
      | none => none
    | none => none
theorem tgt_shp (fs : List EFi) (e : Er) : tgt fs e = tgtS (fs.map shp) e := by
  unfold tgt tgtS
  rw [pos_map]
  have h1 : (fun x : EFi => (shp x).1 == e.1) = fun f : EFi => f.1 == e.1 := rfl
  rw [h1]
  cases hp : pos? (fun f : EFi => f.1 == e.1) fs with
  | none => rfl
  | some i =>
    simp only
    split
    · rfl
    · rw [List.getElem?_map]
      cases hf : fs[i]? with
      | none => rfl
      | some f =>
        simp only [Option.map_some, shp]
        rw [pos_map]
theorem tgt_setT (fs : List EFi) (t : Nat × Option Nat) (s : List UInt8) (e : Er) : tgt (setT fs t s) e = tgt fs e := by
  rw [tgt_shp, tgt_shp, shp_setT]
/-- One erratum: none: an error; the finals, and whether something was changed. -/
def er1 (fs : List EFi) (e : Er) : Option (List EFi × Bool) := match tgt fs e with
  | none => none
  | some t => if getT fs t = e.2.2.2.1 then some (setT fs t e.2.2.2.2, true) else if getT fs t = e.2.2.2.2 then some (fs, false) else none
def ers : List EFi → Nat → List Er → Option (List EFi × Nat)
  | fs, n, [] => some (fs, n)
  | fs, n, e :: r => match er1 fs e with
    | none => none
    | some (gs, b) => ers gs (if b = true then n + 1 else n) r
theorem tgt_some {fs : List EFi} {e : Er} {t : Nat × Option Nat} (h : tgt fs e = some t) : ∃ f, fs[t.1]? = some f ∧ f.1 = e.1 ∧ ((e.2.1 = 1 ∧ t.2 = none) ∨ (e.2.1 ≠ 1 ∧ ∃ k c, t.2 = some k ∧ f.2.2.2[k]? = some c ∧ c.1 = e.2.2.1)) := by
  unfold tgt at h
  cases hp : pos? (fun f : EFi => f.1 == e.1) fs with
  | none => rw [hp] at h; cases h
  | some i =>
    rw [hp] at h
    obtain ⟨f, hf, he⟩ := pos_some hp
    simp only [hf] at h
    split at h
    · rename_i h1
      cases h
      exact ⟨f, hf, by simpa using he, .inl ⟨h1, rfl⟩⟩
    · rename_i h1
      cases hk : pos? (fun c : ECr => c.1 == e.2.2.1) f.2.2.2 with
      | none => rw [hk] at h; cases h
      | some k =>
        rw [hk] at h
        cases h
        obtain ⟨c, hc, hce⟩ := pos_some hk
        exact ⟨f, hf, by simpa using he, .inr ⟨h1, k, c, rfl, hc, by simpa using hce⟩⟩
theorem get_set_same {fs : List EFi} {e : Er} {t : Nat × Option Nat} (h : tgt fs e = some t) (s : List UInt8) : getT (setT fs t s) t = s := by
  obtain ⟨f, hf, -, hk⟩ := tgt_some h
  have hlt : t.1 < fs.length := by
    rcases Nat.lt_or_ge t.1 fs.length with h' | h'
    · exact h'
    · simp [List.getElem?_eq_none h'] at hf
  unfold getT setT
  simp only [hf, List.getElem?_set_self hlt, Option.map_some, Option.getD_some]
  rcases hk with ⟨-, hk⟩ | ⟨-, k, c, hk, hc, -⟩
  · rw [hk]; rfl
  · rw [hk]
    have hlk : k < f.2.2.2.length := by
      rcases Nat.lt_or_ge k f.2.2.2.length with h' | h'
      · exact h'
      · simp [List.getElem?_eq_none h'] at hc
    simp [getF, setF, hlk]
theorem get_set_ne {fs : List EFi} {t u : Nat × Option Nat} (h : t ≠ u) (s : List UInt8) : getT (setT fs t s) u = getT fs u := by
  unfold getT setT
  cases hf : fs[t.1]? with
  | none => rfl
  | some f =>
    simp only
    by_cases h1 : t.1 = u.1
    · rw [← h1]
      have hlt : t.1 < fs.length := by
        rcases Nat.lt_or_ge t.1 fs.length with h' | h'
        · exact h'
        · simp [List.getElem?_eq_none h'] at hf
      rw [List.getElem?_set_self hlt, hf]
      simp only [Option.map_some, Option.getD_some]
      have h2 : t.2 ≠ u.2 := fun h2 => h (Prod.ext h1 h2)
      cases ht : t.2 with
      | none =>
        cases hu : u.2 with
        | none => rw [ht, hu] at h2; exact absurd rfl h2
        | some k => rfl
      | some k =>
        cases hu : u.2 with
        | none => rfl
        | some k' =>
          have hkk : k ≠ k' := by
            intro e; apply h2; rw [ht, hu, e]
          simp [getF, setF, List.getElem?_set_ne hkk]
    · rw [List.getElem?_set_ne h1]
/-- Errata of different targets. -/
def Dif (a b : Er) : Prop := ¬ (a.1 = b.1 ∧ a.2.1 = b.2.1 ∧ a.2.2.1 = b.2.2.1)
/-- Title errata have no key. -/
def ErOk (e : Er) : Prop := (e.2.1 = 1 → e.2.2.1 = []) ∧ (e.2.1 ≠ 1 → e.2.1 = 2) ∧ e.2.2.2.1 ≠ e.2.2.2.2
theorem tgt_dif {fs : List EFi} {a b : Er} {t u : Nat × Option Nat} (ha : tgt fs a = some t) (hb : tgt fs b = some u) (oa : ErOk a) (ob : ErOk b) (h : Dif a b) : t ≠ u := by
  rintro rfl
  obtain ⟨f, hf, f1, f2⟩ := tgt_some ha
  obtain ⟨g, hg, g1, g2⟩ := tgt_some hb
  rw [hf] at hg
  cases hg
  apply h
  refine ⟨by rw [← f1, ← g1], ?_⟩
  rcases f2 with ⟨x1, x2⟩ | ⟨x1, k, c, x2, x3, x4⟩ <;> rcases g2 with ⟨y1, y2⟩ | ⟨y1, k', c', y2, y3, y4⟩
  · exact ⟨by rw [x1, y1], by rw [oa.1 x1, ob.1 y1]⟩
  · rw [x2] at y2; cases y2
  · rw [x2] at y2; cases y2
  · rw [x2] at y2
    cases y2
    rw [x3] at y3
    cases y3
    exact ⟨by rw [oa.2.1 x1, ob.2.1 y1], by rw [← x4, ← y4]⟩
/-- What was applied stands. -/
def Set1 (fs : List EFi) (e : Er) : Prop := ∃ t, tgt fs e = some t ∧ getT fs t = e.2.2.2.2
theorem er1_set {fs gs : List EFi} {e : Er} {b : Bool} (h : er1 fs e = some (gs, b)) : Set1 gs e := by
  unfold er1 at h
  cases ht : tgt fs e with
  | none => rw [ht] at h; cases h
  | some t =>
    rw [ht] at h
    simp only at h
    split at h
    · cases h
      exact ⟨t, by rw [tgt_setT, ht], get_set_same ht _⟩
    · split at h
      · rename_i h1
        cases h
        exact ⟨t, ht, h1⟩
      · cases h
theorem er1_keep {fs gs : List EFi} {e d : Er} {b : Bool} (h : er1 fs e = some (gs, b)) (oe : ErOk e) (od : ErOk d) (hd : Dif e d) (hs : Set1 fs d) : Set1 gs d := by
  unfold er1 at h
  cases ht : tgt fs e with
  | none => rw [ht] at h; cases h
  | some t =>
    rw [ht] at h
    simp only at h
    split at h
    · cases h
      obtain ⟨u, hu, hg⟩ := hs
      exact ⟨u, by rw [tgt_setT, hu], by rw [get_set_ne (tgt_dif ht hu oe od hd)]; exact hg⟩
    · split at h
      · cases h; exact hs
      · cases h
theorem ers_set : ∀ {es : List Er} {fs gs : List EFi} {n m : Nat}, ers fs n es = some (gs, m) → (∀ e ∈ es, ErOk e) → es.Pairwise Dif → (∀ e ∈ es, Set1 gs e) ∧ ∀ d, ErOk d → (∀ e ∈ es, Dif e d) → Set1 fs d → Set1 gs d
  | [], fs, gs, n, m, h, _, _ => by
    simp only [ers, Option.some.injEq, Prod.mk.injEq] at h
    obtain ⟨rfl, -⟩ := h
    exact ⟨by simp, fun d _ _ h => h⟩
  | e :: r, fs, gs, n, m, h, ho, hp => by
    simp only [ers] at h
    cases h1 : er1 fs e with
    | none => rw [h1] at h; cases h
    | some q =>
      obtain ⟨hs, b⟩ := q
      rw [h1] at h
      simp only at h
      have hp := List.pairwise_cons.1 hp
      obtain ⟨i1, i2⟩ := ers_set h (fun x hx => ho x (by simp [hx])) hp.2
      refine ⟨fun x hx => ?_, fun d od hd hsd => ?_⟩
      · rcases List.mem_cons.1 hx with rfl | hx
        · exact i2 x (ho x (by simp)) (fun y hy hq => hp.1 y hy ⟨hq.1.symm, hq.2.1.symm, hq.2.2.symm⟩) (er1_set h1)
        · exact i1 x hx
      · exact i2 d od (fun y hy => hd y (by simp [hy])) (er1_keep h1 (ho e (by simp)) od (hd e (by simp)) hsd)
theorem ers_again : ∀ {es : List Er} {gs : List EFi}, (∀ e ∈ es, ErOk e ∧ Set1 gs e) → ∀ n, ers gs n es = some (gs, n)
  | [], gs, _, n => rfl
  | e :: r, gs, h, n => by
    obtain ⟨oe, t, ht, hg⟩ := h e (by simp)
    have h1 : er1 gs e = some (gs, false) := by
      unfold er1
      rw [ht]
      simp only
      rw [if_neg (by rw [hg]; exact fun q => oe.2.2 q.symm), if_pos hg]
    simp only [ers, h1]
    exact ers_again (fun x hx => h x (by simp [hx])) n
/-- Applied twice is applied once. -/
theorem ers_twice {es : List Er} {fs gs : List EFi} {m : Nat} (h : ers fs 0 es = some (gs, m)) (ho : ∀ e ∈ es, ErOk e) (hp : es.Pairwise Dif) : ers gs 0 es = some (gs, 0) :=
  ers_again (fun e he => ⟨ho e he, (ers_set h ho hp).1 e he⟩) 0
end Go.AX

namespace Go.AX
open Go Go.Proofs Go.RowKit
/-- A credit: who, how named. -/
abbrev Cr := Str × Str
abbrev crD (c : Cr) : D := .agg [.str c.1, .str c.2]
/-- A final: paper, title, pages, credits. -/
abbrev Fi := Str × Str × Int × List Cr
abbrev fiD (f : Fi) : D := .agg [.str f.1, .str f.2.1, .int .i64 f.2.2.1, .sl (f.2.2.2.map crD)]
def P4 : List Str := [[112, 97], [112, 98], [112, 99], [112, 100]]
def K3 : List Str := [[97, 110, 110], [98, 111, 98], [99, 105, 100]]
def T3 : List Str := [[79, 110, 32, 116, 114, 101, 101, 115], [79, 110, 32, 114, 111, 111, 116, 115], [79, 102, 32, 195, 169, 108, 97, 110]]
def G5 : List Int := [1, 2, 3, 10, 100]
def N14 : List Str := [[65, 110, 110, 32, 76, 101, 101], [66, 111, 98, 32, 118, 97, 110, 32, 100, 101, 114, 32, 82, 97, 121], [118, 97, 110, 32, 82, 97, 121], [100, 101, 32, 108, 97, 32, 67, 114, 117, 122], [74, 101, 97, 110, 45, 76, 117, 99, 32, 100, 101, 32, 108, 97, 32, 67, 114, 117, 122], [80, 108, 97, 116, 111], [97, 110, 110, 32, 108, 101, 101], [67, 105, 100, 32, 79, 39, 78, 101, 105, 108], [195, 137, 109, 105, 108, 101, 45, 195, 137, 108, 97, 110, 32, 90, 111, 108], [65, 46, 32, 66, 45, 32, 77, 111, 101], [108, 97], [68, 101, 101, 32, 100, 97], [65, 110, 110, 45], [45, 65, 110, 110, 32, 76, 101, 101]]
/-- What may be drawn. -/
def CrsF (cs : List Cr) : Prop := cs ≠ [] ∧ (cs.map (·.1)).Sublist K3 ∧ ∀ c ∈ cs, c.2 ∈ N14
def FinF (f : Fi) : Prop := f.1 ∈ P4 ∧ f.2.1 ∈ T3 ∧ f.2.2.1 ∈ G5 ∧ CrsF f.2.2.2
theorem frzL_app {hv : Nat → Option O} {keep : Nat → Bool} : ∀ xs ys : List V, frzL hv keep (xs ++ ys) = frzL hv keep xs ++ frzL hv keep ys
  | [], ys => by simp [frzL]
  | x :: r, ys => by simp [frzL, frzL_app r ys]
theorem bookName_any (l : List Int) (hl2 : l.length ≤ 9223372036854775807) (at_ : Int) (ha : 0 ≤ at_) (hb : at_ ≤ 1000000) :
    Does Tryz.prog 15 [.ptr 0 0] [Stm l at_] (S (N14.getD (nextV l at_ 14).toNat [])) [Stm l (at_ + 1)] := by
  have ho := one10_any l hl2 at_ ha hb N14 (by simp [N14]) (by simp [N14])
  refine Does.of_AW (n := 6) Tryz.func15 rfl rfl rfl fun cx hcx => ?_
  repeat' (first | (refine AW.sreg rfl fun K hK => ?_; simp only [go_sem, Nat.reduceAdd, Nat.reduceMul, Int.reduceToNat, Nat.reduceLT, Nat.reduceLeDiff, Nat.le_refl, Nat.reduceEqDiff, ↓reduceIte, beq_self_eq_true, bne_self_eq_false, Int.reduceBEq, Int.reduceBNe, or_self, true_or, or_true, Option.map_some, Option.map_none]) | (refine hK _ ?_; clear hK K) | (refine run_call _ _ _ ((ho).objs [0, _] ⟨rfl, rfl, trivial⟩ rfl (by decide) (by simp [go_sem, renOs]) (by simp) (by simp) (by simp [go_sem]) (by simp [go_sem]) (by simp [go_sem]) (by simp [go_sem])) rfl rfl (dstOk_of rfl) rfl rfl rfl ?_; simp only [go_sem, Nat.reduceAdd, Nat.reduceMul, Int.reduceToNat, Nat.reduceLT, Nat.reduceLeDiff, Nat.le_refl, Nat.reduceEqDiff, ↓reduceIte, beq_self_eq_true, bne_self_eq_false, Int.reduceBEq, Int.reduceBNe, or_self, true_or, or_true, Option.map_some, Option.map_none]))
  exact AW.ret (Fin.one rfl rfl ⟨_, rfl, by simp [go_sem]⟩ rfl rfl rfl)
theorem rightFinalsI (l : List Int) (hl2 : l.length ≤ 9223372036854775807) (at_ : Int) (ha : 0 ≤ at_) (hb : at_ ≤ 1000) :
    DoesI Tryz.prog 4 [.ptr 0 0] [Stm l at_] (fun q : List Fi × Int => (q.1.map (·.1)).Sublist P4 ∧ (∀ f ∈ q.1, FinF f) ∧ at_ ≤ q.2 ∧ q.2 ≤ at_ + 36) (fun q => .d (.sl (q.1.map fiD))) (fun q => [Stm l q.2]) := by
  refine DoesI.of_AW (n := 56) Tryz.func4 rfl rfl rfl fun cx hcx => ?_
  repeat' (first | (refine AW.sreg rfl fun K hK => ?_; simp only [go_sem, Nat.reduceAdd, Nat.reduceMul, Int.reduceToNat, Nat.reduceLT, Nat.reduceLeDiff, Nat.le_refl, Nat.reduceEqDiff, ↓reduceIte, beq_self_eq_true, bne_self_eq_false, Int.reduceBEq, Int.reduceBNe, or_self, true_or, or_true, Option.map_some, Option.map_none]) | (refine AW.seq_k fun K hK => ?_) | (refine AW.block ?_) | (refine hK _ ?_; clear hK K))
  refine AW.weak (Weak.nil 3 41 4 rfl) ?_
  refine AW.loopF (ι := Nat × List Fi × Int) [0, 9, 10] (fun p => [(11, I p.1), (3, .slr 384 0 p.2.1.length)]) (fun p => [(192, some (SV P4)), (0, some (Stm l p.2.2)), (384, some (O.vec 41 4 (dv (p.2.1.map fiD))))]) 7 (fun p => p.1 ≤ 4 ∧ (p.2.1.map (·.1)).Sublist (P4.take p.1) ∧ (∀ f ∈ p.2.1, FinF f) ∧ at_ ≤ p.2.2 ∧ p.2.2 ≤ at_ + 9 * p.1) (fun p => 4 - p.1) (0, [], at_) ⟨by simp, by simp, by simp, by simp, by simp⟩ (Weak.auto hcx rfl rfl (Nat.le_of_ble_eq_true rfl) (by simp [go_sem, gL, kL, renOf, V.obj, lk, Nat.blt, Nat.ble, List.map_append, dv_push, P4, dv]) (by simp [go_sem, gL, kL, renOf, V.obj, lk, Nat.blt, Nat.ble, List.map_append, dv_push, P4, dv]) (by first | (intro i hi; exact absurd hi (Nat.not_lt_zero _)) | (intro i0 hi0; match i0, hi0 with | 0, _ => exact ⟨_, rfl⟩ | n0+1, h0 => exact absurd h0 (Nat.not_lt.2 (Nat.le_add_left 1 n0))) | (intro i0 hi0; match i0, hi0 with | 0, _ => exact ⟨_, rfl⟩ | 1, _ => exact ⟨_, rfl⟩ | n0+2, h0 => exact absurd h0 (Nat.not_lt.2 (Nat.le_add_left 2 n0))) | (intro i0 hi0; match i0, hi0 with | 0, _ => exact ⟨_, rfl⟩ | 1, _ => exact ⟨_, rfl⟩ | 2, _ => exact ⟨_, rfl⟩ | n0+3, h0 => exact absurd h0 (Nat.not_lt.2 (Nat.le_add_left 3 n0))) | (intro i0 hi0; match i0, hi0 with | 0, _ => exact ⟨_, rfl⟩ | 1, _ => exact ⟨_, rfl⟩ | 2, _ => exact ⟨_, rfl⟩ | 3, _ => exact ⟨_, rfl⟩ | n0+4, h0 => exact absurd h0 (Nat.not_lt.2 (Nat.le_add_left 4 n0)))) (by simp [go_sem, gL, kL, lk, renOf, V.obj, Nat.blt, Nat.ble, P4, dv])) ?_; simp only [St.at_nil, St.at_cons, lk, Nat.reduceEqDiff, ↓reduceIte, Option.getD_some, Option.getD_none, List.cons_append, List.nil_append, List.append_nil]
  rintro ⟨i, out, a⟩ ⟨h1, h2, h3, h4, h5⟩
  simp only at h1 h2 h3 h4 h5 ⊢
  by_cases hi : i < 4
  · obtain ⟨who, hw, hwm, _⟩ := get_some (l := P4) (i := i) hi
    have hget : (dv (P4.map D.str))[0 + i]? = some (.d (.str who)) := by simp only [dv, Nat.zero_add, List.getElem?_map, hw, Option.map_some]
    have htk : P4.take (i + 1) = P4.take i ++ [who] := by rw [List.take_add_one, hw]; rfl
    have hol : out.length ≤ 4 := by have := h2.length_le; simp [P4] at this; omega
    have hN : ∀ b : Int, N14.getD (nextV l b 14).toNat [] ∈ N14 := fun b => one_mem l b N14 (by simp [N14])
    have hsub : ∀ f : Fi, f.1 = who → ((out ++ [f]).map (·.1)).Sublist (P4.take (i + 1)) := by
      intro f hf
      rw [htk, List.map_append]
      exact h2.append (by simp [hf])
    have hfin : ∀ (ti : Str) (pg : Int) (cs : List Cr), ti ∈ T3 → pg ∈ G5 → CrsF cs → ∀ f ∈ out ++ [(who, ti, pg, cs)], FinF f := by
      intro ti pg cs hti hpg hcs f hf
      rcases List.mem_append.1 hf with hf | hf
      · exact h3 f hf
      · obtain rfl := List.mem_singleton.1 hf
        exact ⟨hwm, hti, hpg, hcs⟩
    repeat' (first | (refine AW.sreg rfl fun K hK => ?_; simp only [go_sem, Nat.reduceAdd, Nat.reduceMul, Int.reduceToNat, Nat.reduceLT, Nat.reduceLeDiff, Nat.le_refl, Nat.reduceEqDiff, ↓reduceIte, beq_self_eq_true, bne_self_eq_false, Int.reduceBEq, Int.reduceBNe, or_self, true_or, or_true, Option.map_some, Option.map_none, hget, Int.reduceAdd]) | (refine AW.reg rfl ?_; simp only [go_sem, Nat.reduceAdd, Nat.reduceMul, Int.reduceToNat, Nat.reduceLT, Nat.reduceLeDiff, Nat.le_refl, Nat.reduceEqDiff, ↓reduceIte, beq_self_eq_true, bne_self_eq_false, Int.reduceBEq, Int.reduceBNe, or_self, true_or, or_true, Option.map_some, Option.map_none, hget, Int.reduceAdd]) | (refine AW.regD hmix rfl ?_; simp only [go_sem, Nat.reduceAdd, Nat.reduceMul, Int.reduceToNat, Nat.reduceLT, Nat.reduceLeDiff, Nat.le_refl, Nat.reduceEqDiff, ↓reduceIte, beq_self_eq_true, bne_self_eq_false, Int.reduceBEq, Int.reduceBNe, or_self, true_or, or_true, Option.map_some, Option.map_none, hget, Int.reduceAdd]) | (refine AW.seq_k fun K hK => ?_) | (refine AW.block ?_) | (refine AW.skip ?_; simp only [Then, InBlock]) | (refine AW.exit ?_; simp only [go_sem, ↓reduceIte]) | (refine AW.condT rfl (by first | rfl | (simp; omega) | (simp [*]; done) | fail) ?_) | (refine AW.condF rfl (by first | rfl | (simp; omega) | (simp [*]; done) | fail) ?_) | (refine AW.cond rfl (fun h => ?_) (fun h => ?_) <;> (try simp only [decide_eq_true_eq, decide_eq_false_iff_not, Bool.not_eq_true', Bool.not_eq_false', Bool.not_eq_eq_eq_not, Bool.not_true, Bool.not_false, beq_iff_eq, bne_iff_ne, beq_eq_false_iff_ne, ne_eq, Bool.and_eq_true, Bool.or_eq_true, Bool.or_eq_false_iff] at h)) | (refine hK _ ?_; clear hK K) | (clear hK K; refine hK _ ?_; clear hK K) | (with_reducible refine And.intro (?_ : regOk _ _ = true) ?_; kernel_rfl) | (refine run_callI _ _ _ ((flipI l hl2 _ _ (by omega) (by omega) (by omega) (by omega)).objs [0] ⟨rfl, trivial⟩ rfl (by decide) (by simp [go_sem, renOs]) (by simp [go_sem]) (by simp [go_sem]) (fun j hj => ⟨by simp, by simp, by simp [go_sem], by simp [go_sem]⟩)) rfl rfl (dstOk_of rfl) rfl rfl rfl ?_; rintro r hr; (try dsimp only at r); (try dsimp only at hr); simp only [go_sem, Nat.reduceAdd, Nat.reduceMul, Int.reduceToNat, Nat.reduceLT, Nat.reduceLeDiff, Nat.le_refl, Nat.reduceEqDiff, ↓reduceIte, beq_self_eq_true, bne_self_eq_false, Int.reduceBEq, Int.reduceBNe, or_self, true_or, or_true, Option.map_some, Option.map_none, hget, Int.reduceAdd]) | (refine run_callI _ _ _ ((one10I l hl2 _ (by omega) (by omega) T3 (by simp [T3]) (by simp [T3])).objs [0, _] ⟨rfl, rfl, trivial⟩ rfl (by decide) (by simp [go_sem, renOs]) (by simp [go_sem]) (by simp [go_sem]) (fun j hj => ⟨by simp, by simp, by simp [go_sem], by simp [go_sem]⟩)) rfl rfl (dstOk_of rfl) rfl rfl rfl ?_; rintro ti hti; (try dsimp only at ti); (try dsimp only at hti); simp only [go_sem, Nat.reduceAdd, Nat.reduceMul, Int.reduceToNat, Nat.reduceLT, Nat.reduceLeDiff, Nat.le_refl, Nat.reduceEqDiff, ↓reduceIte, beq_self_eq_true, bne_self_eq_false, Int.reduceBEq, Int.reduceBNe, or_self, true_or, or_true, Option.map_some, Option.map_none, hget, Int.reduceAdd]) | (refine run_callI _ _ _ ((pickI l hl2 _ (by omega) (by omega) G5 (by simp [G5]) (by simp [G5])).objs [0, _] ⟨rfl, rfl, trivial⟩ rfl (by decide) (by simp [go_sem, renOs]) (by simp [go_sem]) (by simp [go_sem]) (fun j hj => ⟨by simp, by simp, by simp [go_sem], by simp [go_sem]⟩)) rfl rfl (dstOk_of rfl) rfl rfl rfl ?_; rintro pg hpg; (try dsimp only at pg); (try dsimp only at hpg); simp only [go_sem, Nat.reduceAdd, Nat.reduceMul, Int.reduceToNat, Nat.reduceLT, Nat.reduceLeDiff, Nat.le_refl, Nat.reduceEqDiff, ↓reduceIte, beq_self_eq_true, bne_self_eq_false, Int.reduceBEq, Int.reduceBNe, or_self, true_or, or_true, Option.map_some, Option.map_none, hget, Int.reduceAdd]) | (refine runT_call _ _ [0] (fun hv hag => (bookName_any l hl2 _ (by omega) (by omega)).objs [0] ⟨((hag 0 (by simp)).trans rfl), trivial⟩ rfl (by decide) (by simp [go_sem, renOs]) (by simp) (by simp) (by simp [go_sem]) (by simp [go_sem]) (by simp [go_sem]) (by simp [go_sem])) rfl rfl (dstOk_of rfl) rfl rfl ?_; simp only [go_sem, Nat.reduceAdd, Nat.reduceMul, Int.reduceToNat, Nat.reduceLT, Nat.reduceLeDiff, Nat.le_refl, Nat.reduceEqDiff, ↓reduceIte, beq_self_eq_true, bne_self_eq_false, Int.reduceBEq, Int.reduceBNe, or_self, true_or, or_true, Option.map_some, Option.map_none, hget, Int.reduceAdd]) | (refine AW.unroll 4 ?_; simp only [AWr]) | (with_reducible refine And.intro ?_ ?_; first | omega | assumption | (focus (decide)) | (focus (simp; done)) | (focus (simp; omega)) | (focus (constructor <;> omega)) | fail))
    · exact ⟨(i + 1, out, a + 1), ⟨hi, h2.trans (by rw [htk]; exact List.sublist_append_left _ _), h3, by simp only; omega, by simp only; omega⟩, by simp only; omega, (Weak.auto hcx rfl rfl (Nat.le_of_ble_eq_true rfl) (by simp [go_sem, gL, kL, renOf, V.obj, lk, Nat.blt, Nat.ble, List.map_append, dv_push, frzL_app, fiD, crD]) (by simp [go_sem, gL, kL, renOf, V.obj, lk, Nat.blt, Nat.ble, List.map_append, dv_push, frzL_app, fiD, crD]) (by first | (intro i hi; exact absurd hi (Nat.not_lt_zero _)) | (intro i0 hi0; match i0, hi0 with | 0, _ => exact ⟨_, rfl⟩ | n0+1, h0 => exact absurd h0 (Nat.not_lt.2 (Nat.le_add_left 1 n0))) | (intro i0 hi0; match i0, hi0 with | 0, _ => exact ⟨_, rfl⟩ | 1, _ => exact ⟨_, rfl⟩ | n0+2, h0 => exact absurd h0 (Nat.not_lt.2 (Nat.le_add_left 2 n0))) | (intro i0 hi0; match i0, hi0 with | 0, _ => exact ⟨_, rfl⟩ | 1, _ => exact ⟨_, rfl⟩ | 2, _ => exact ⟨_, rfl⟩ | n0+3, h0 => exact absurd h0 (Nat.not_lt.2 (Nat.le_add_left 3 n0))) | (intro i0 hi0; match i0, hi0 with | 0, _ => exact ⟨_, rfl⟩ | 1, _ => exact ⟨_, rfl⟩ | 2, _ => exact ⟨_, rfl⟩ | 3, _ => exact ⟨_, rfl⟩ | n0+4, h0 => exact absurd h0 (Nat.not_lt.2 (Nat.le_add_left 4 n0)))) (by simp [go_sem, gL, kL, lk, renOf, V.obj, Nat.blt, Nat.ble, frzL_app, fiD, crD]))⟩
    · exact ⟨(i + 1, out ++ [(who, ti, pg, [([97, 110, 110], N14.getD (nextV l (a + 1 + 1 + 1 + 1) 14).toNat []), ([98, 111, 98], N14.getD (nextV l (a + 1 + 1 + 1 + 1 + 1 + 1) 14).toNat []), ([99, 105, 100], N14.getD (nextV l (a + 1 + 1 + 1 + 1 + 1 + 1 + 1 + 1) 14).toNat [])])], a + 1 + 1 + 1 + 1 + 1 + 1 + 1 + 1 + 1), ⟨hi, hsub _ rfl, hfin _ _ _ hti hpg ⟨by simp, by simp only [List.map_cons, List.map_nil]; decide, by intro c hc; simp only [List.mem_cons, List.not_mem_nil, or_false] at hc; (first | (rcases hc with rfl | rfl | rfl <;> exact hN _) | (rcases hc with rfl | rfl <;> exact hN _) | (subst hc; first | exact hN _ | (simp only; decide)))⟩, by simp only; omega, by simp only; omega⟩, by simp only; omega, (Weak.auto hcx rfl rfl (Nat.le_of_ble_eq_true rfl) (by simp [go_sem, gL, kL, renOf, V.obj, lk, Nat.blt, Nat.ble, List.map_append, dv_push, frzL_app, fiD, crD]) (by simp [go_sem, gL, kL, renOf, V.obj, lk, Nat.blt, Nat.ble, List.map_append, dv_push, frzL_app, fiD, crD]) (by first | (intro i hi; exact absurd hi (Nat.not_lt_zero _)) | (intro i0 hi0; match i0, hi0 with | 0, _ => exact ⟨_, rfl⟩ | n0+1, h0 => exact absurd h0 (Nat.not_lt.2 (Nat.le_add_left 1 n0))) | (intro i0 hi0; match i0, hi0 with | 0, _ => exact ⟨_, rfl⟩ | 1, _ => exact ⟨_, rfl⟩ | n0+2, h0 => exact absurd h0 (Nat.not_lt.2 (Nat.le_add_left 2 n0))) | (intro i0 hi0; match i0, hi0 with | 0, _ => exact ⟨_, rfl⟩ | 1, _ => exact ⟨_, rfl⟩ | 2, _ => exact ⟨_, rfl⟩ | n0+3, h0 => exact absurd h0 (Nat.not_lt.2 (Nat.le_add_left 3 n0))) | (intro i0 hi0; match i0, hi0 with | 0, _ => exact ⟨_, rfl⟩ | 1, _ => exact ⟨_, rfl⟩ | 2, _ => exact ⟨_, rfl⟩ | 3, _ => exact ⟨_, rfl⟩ | n0+4, h0 => exact absurd h0 (Nat.not_lt.2 (Nat.le_add_left 4 n0)))) (by simp [go_sem, gL, kL, lk, renOf, V.obj, Nat.blt, Nat.ble, frzL_app, fiD, crD]))⟩
    · exact ⟨(i + 1, out ++ [(who, ti, pg, [([97, 110, 110], N14.getD (nextV l (a + 1 + 1 + 1 + 1) 14).toNat []), ([98, 111, 98], N14.getD (nextV l (a + 1 + 1 + 1 + 1 + 1 + 1) 14).toNat [])])], a + 1 + 1 + 1 + 1 + 1 + 1 + 1 + 1), ⟨hi, hsub _ rfl, hfin _ _ _ hti hpg ⟨by simp, by simp only [List.map_cons, List.map_nil]; decide, by intro c hc; simp only [List.mem_cons, List.not_mem_nil, or_false] at hc; (first | (rcases hc with rfl | rfl | rfl <;> exact hN _) | (rcases hc with rfl | rfl <;> exact hN _) | (subst hc; first | exact hN _ | (simp only; decide)))⟩, by simp only; omega, by simp only; omega⟩, by simp only; omega, (Weak.auto hcx rfl rfl (Nat.le_of_ble_eq_true rfl) (by simp [go_sem, gL, kL, renOf, V.obj, lk, Nat.blt, Nat.ble, List.map_append, dv_push, frzL_app, fiD, crD]) (by simp [go_sem, gL, kL, renOf, V.obj, lk, Nat.blt, Nat.ble, List.map_append, dv_push, frzL_app, fiD, crD]) (by first | (intro i hi; exact absurd hi (Nat.not_lt_zero _)) | (intro i0 hi0; match i0, hi0 with | 0, _ => exact ⟨_, rfl⟩ | n0+1, h0 => exact absurd h0 (Nat.not_lt.2 (Nat.le_add_left 1 n0))) | (intro i0 hi0; match i0, hi0 with | 0, _ => exact ⟨_, rfl⟩ | 1, _ => exact ⟨_, rfl⟩ | n0+2, h0 => exact absurd h0 (Nat.not_lt.2 (Nat.le_add_left 2 n0))) | (intro i0 hi0; match i0, hi0 with | 0, _ => exact ⟨_, rfl⟩ | 1, _ => exact ⟨_, rfl⟩ | 2, _ => exact ⟨_, rfl⟩ | n0+3, h0 => exact absurd h0 (Nat.not_lt.2 (Nat.le_add_left 3 n0))) | (intro i0 hi0; match i0, hi0 with | 0, _ => exact ⟨_, rfl⟩ | 1, _ => exact ⟨_, rfl⟩ | 2, _ => exact ⟨_, rfl⟩ | 3, _ => exact ⟨_, rfl⟩ | n0+4, h0 => exact absurd h0 (Nat.not_lt.2 (Nat.le_add_left 4 n0)))) (by simp [go_sem, gL, kL, lk, renOf, V.obj, Nat.blt, Nat.ble, frzL_app, fiD, crD]))⟩
    · exact ⟨(i + 1, out ++ [(who, ti, pg, [([97, 110, 110], N14.getD (nextV l (a + 1 + 1 + 1 + 1) 14).toNat []), ([99, 105, 100], N14.getD (nextV l (a + 1 + 1 + 1 + 1 + 1 + 1 + 1) 14).toNat [])])], a + 1 + 1 + 1 + 1 + 1 + 1 + 1 + 1), ⟨hi, hsub _ rfl, hfin _ _ _ hti hpg ⟨by simp, by simp only [List.map_cons, List.map_nil]; decide, by intro c hc; simp only [List.mem_cons, List.not_mem_nil, or_false] at hc; (first | (rcases hc with rfl | rfl | rfl <;> exact hN _) | (rcases hc with rfl | rfl <;> exact hN _) | (subst hc; first | exact hN _ | (simp only; decide)))⟩, by simp only; omega, by simp only; omega⟩, by simp only; omega, (Weak.auto hcx rfl rfl (Nat.le_of_ble_eq_true rfl) (by simp [go_sem, gL, kL, renOf, V.obj, lk, Nat.blt, Nat.ble, List.map_append, dv_push, frzL_app, fiD, crD]) (by simp [go_sem, gL, kL, renOf, V.obj, lk, Nat.blt, Nat.ble, List.map_append, dv_push, frzL_app, fiD, crD]) (by first | (intro i hi; exact absurd hi (Nat.not_lt_zero _)) | (intro i0 hi0; match i0, hi0 with | 0, _ => exact ⟨_, rfl⟩ | n0+1, h0 => exact absurd h0 (Nat.not_lt.2 (Nat.le_add_left 1 n0))) | (intro i0 hi0; match i0, hi0 with | 0, _ => exact ⟨_, rfl⟩ | 1, _ => exact ⟨_, rfl⟩ | n0+2, h0 => exact absurd h0 (Nat.not_lt.2 (Nat.le_add_left 2 n0))) | (intro i0 hi0; match i0, hi0 with | 0, _ => exact ⟨_, rfl⟩ | 1, _ => exact ⟨_, rfl⟩ | 2, _ => exact ⟨_, rfl⟩ | n0+3, h0 => exact absurd h0 (Nat.not_lt.2 (Nat.le_add_left 3 n0))) | (intro i0 hi0; match i0, hi0 with | 0, _ => exact ⟨_, rfl⟩ | 1, _ => exact ⟨_, rfl⟩ | 2, _ => exact ⟨_, rfl⟩ | 3, _ => exact ⟨_, rfl⟩ | n0+4, h0 => exact absurd h0 (Nat.not_lt.2 (Nat.le_add_left 4 n0)))) (by simp [go_sem, gL, kL, lk, renOf, V.obj, Nat.blt, Nat.ble, frzL_app, fiD, crD]))⟩
    · exact ⟨(i + 1, out ++ [(who, ti, pg, [([97, 110, 110], N14.getD (nextV l (a + 1 + 1 + 1 + 1) 14).toNat [])])], a + 1 + 1 + 1 + 1 + 1 + 1 + 1), ⟨hi, hsub _ rfl, hfin _ _ _ hti hpg ⟨by simp, by simp only [List.map_cons, List.map_nil]; decide, by intro c hc; simp only [List.mem_cons, List.not_mem_nil, or_false] at hc; (first | (rcases hc with rfl | rfl | rfl <;> exact hN _) | (rcases hc with rfl | rfl <;> exact hN _) | (subst hc; first | exact hN _ | (simp only; decide)))⟩, by simp only; omega, by simp only; omega⟩, by simp only; omega, (Weak.auto hcx rfl rfl (Nat.le_of_ble_eq_true rfl) (by simp [go_sem, gL, kL, renOf, V.obj, lk, Nat.blt, Nat.ble, List.map_append, dv_push, frzL_app, fiD, crD]) (by simp [go_sem, gL, kL, renOf, V.obj, lk, Nat.blt, Nat.ble, List.map_append, dv_push, frzL_app, fiD, crD]) (by first | (intro i hi; exact absurd hi (Nat.not_lt_zero _)) | (intro i0 hi0; match i0, hi0 with | 0, _ => exact ⟨_, rfl⟩ | n0+1, h0 => exact absurd h0 (Nat.not_lt.2 (Nat.le_add_left 1 n0))) | (intro i0 hi0; match i0, hi0 with | 0, _ => exact ⟨_, rfl⟩ | 1, _ => exact ⟨_, rfl⟩ | n0+2, h0 => exact absurd h0 (Nat.not_lt.2 (Nat.le_add_left 2 n0))) | (intro i0 hi0; match i0, hi0 with | 0, _ => exact ⟨_, rfl⟩ | 1, _ => exact ⟨_, rfl⟩ | 2, _ => exact ⟨_, rfl⟩ | n0+3, h0 => exact absurd h0 (Nat.not_lt.2 (Nat.le_add_left 3 n0))) | (intro i0 hi0; match i0, hi0 with | 0, _ => exact ⟨_, rfl⟩ | 1, _ => exact ⟨_, rfl⟩ | 2, _ => exact ⟨_, rfl⟩ | 3, _ => exact ⟨_, rfl⟩ | n0+4, h0 => exact absurd h0 (Nat.not_lt.2 (Nat.le_add_left 4 n0)))) (by simp [go_sem, gL, kL, lk, renOf, V.obj, Nat.blt, Nat.ble, frzL_app, fiD, crD]))⟩
    · exact ⟨(i + 1, out ++ [(who, ti, pg, [([98, 111, 98], N14.getD (nextV l (a + 1 + 1 + 1 + 1 + 1) 14).toNat []), ([99, 105, 100], N14.getD (nextV l (a + 1 + 1 + 1 + 1 + 1 + 1 + 1) 14).toNat [])])], a + 1 + 1 + 1 + 1 + 1 + 1 + 1 + 1), ⟨hi, hsub _ rfl, hfin _ _ _ hti hpg ⟨by simp, by simp only [List.map_cons, List.map_nil]; decide, by intro c hc; simp only [List.mem_cons, List.not_mem_nil, or_false] at hc; (first | (rcases hc with rfl | rfl | rfl <;> exact hN _) | (rcases hc with rfl | rfl <;> exact hN _) | (subst hc; first | exact hN _ | (simp only; decide)))⟩, by simp only; omega, by simp only; omega⟩, by simp only; omega, (Weak.auto hcx rfl rfl (Nat.le_of_ble_eq_true rfl) (by simp [go_sem, gL, kL, renOf, V.obj, lk, Nat.blt, Nat.ble, List.map_append, dv_push, frzL_app, fiD, crD]) (by simp [go_sem, gL, kL, renOf, V.obj, lk, Nat.blt, Nat.ble, List.map_append, dv_push, frzL_app, fiD, crD]) (by first | (intro i hi; exact absurd hi (Nat.not_lt_zero _)) | (intro i0 hi0; match i0, hi0 with | 0, _ => exact ⟨_, rfl⟩ | n0+1, h0 => exact absurd h0 (Nat.not_lt.2 (Nat.le_add_left 1 n0))) | (intro i0 hi0; match i0, hi0 with | 0, _ => exact ⟨_, rfl⟩ | 1, _ => exact ⟨_, rfl⟩ | n0+2, h0 => exact absurd h0 (Nat.not_lt.2 (Nat.le_add_left 2 n0))) | (intro i0 hi0; match i0, hi0 with | 0, _ => exact ⟨_, rfl⟩ | 1, _ => exact ⟨_, rfl⟩ | 2, _ => exact ⟨_, rfl⟩ | n0+3, h0 => exact absurd h0 (Nat.not_lt.2 (Nat.le_add_left 3 n0))) | (intro i0 hi0; match i0, hi0 with | 0, _ => exact ⟨_, rfl⟩ | 1, _ => exact ⟨_, rfl⟩ | 2, _ => exact ⟨_, rfl⟩ | 3, _ => exact ⟨_, rfl⟩ | n0+4, h0 => exact absurd h0 (Nat.not_lt.2 (Nat.le_add_left 4 n0)))) (by simp [go_sem, gL, kL, lk, renOf, V.obj, Nat.blt, Nat.ble, frzL_app, fiD, crD]))⟩
    · exact ⟨(i + 1, out ++ [(who, ti, pg, [([98, 111, 98], N14.getD (nextV l (a + 1 + 1 + 1 + 1 + 1) 14).toNat [])])], a + 1 + 1 + 1 + 1 + 1 + 1 + 1), ⟨hi, hsub _ rfl, hfin _ _ _ hti hpg ⟨by simp, by simp only [List.map_cons, List.map_nil]; decide, by intro c hc; simp only [List.mem_cons, List.not_mem_nil, or_false] at hc; (first | (rcases hc with rfl | rfl | rfl <;> exact hN _) | (rcases hc with rfl | rfl <;> exact hN _) | (subst hc; first | exact hN _ | (simp only; decide)))⟩, by simp only; omega, by simp only; omega⟩, by simp only; omega, (Weak.auto hcx rfl rfl (Nat.le_of_ble_eq_true rfl) (by simp [go_sem, gL, kL, renOf, V.obj, lk, Nat.blt, Nat.ble, List.map_append, dv_push, frzL_app, fiD, crD]) (by simp [go_sem, gL, kL, renOf, V.obj, lk, Nat.blt, Nat.ble, List.map_append, dv_push, frzL_app, fiD, crD]) (by first | (intro i hi; exact absurd hi (Nat.not_lt_zero _)) | (intro i0 hi0; match i0, hi0 with | 0, _ => exact ⟨_, rfl⟩ | n0+1, h0 => exact absurd h0 (Nat.not_lt.2 (Nat.le_add_left 1 n0))) | (intro i0 hi0; match i0, hi0 with | 0, _ => exact ⟨_, rfl⟩ | 1, _ => exact ⟨_, rfl⟩ | n0+2, h0 => exact absurd h0 (Nat.not_lt.2 (Nat.le_add_left 2 n0))) | (intro i0 hi0; match i0, hi0 with | 0, _ => exact ⟨_, rfl⟩ | 1, _ => exact ⟨_, rfl⟩ | 2, _ => exact ⟨_, rfl⟩ | n0+3, h0 => exact absurd h0 (Nat.not_lt.2 (Nat.le_add_left 3 n0))) | (intro i0 hi0; match i0, hi0 with | 0, _ => exact ⟨_, rfl⟩ | 1, _ => exact ⟨_, rfl⟩ | 2, _ => exact ⟨_, rfl⟩ | 3, _ => exact ⟨_, rfl⟩ | n0+4, h0 => exact absurd h0 (Nat.not_lt.2 (Nat.le_add_left 4 n0)))) (by simp [go_sem, gL, kL, lk, renOf, V.obj, Nat.blt, Nat.ble, frzL_app, fiD, crD]))⟩
    · exact ⟨(i + 1, out ++ [(who, ti, pg, [([99, 105, 100], N14.getD (nextV l (a + 1 + 1 + 1 + 1 + 1 + 1) 14).toNat [])])], a + 1 + 1 + 1 + 1 + 1 + 1 + 1), ⟨hi, hsub _ rfl, hfin _ _ _ hti hpg ⟨by simp, by simp only [List.map_cons, List.map_nil]; decide, by intro c hc; simp only [List.mem_cons, List.not_mem_nil, or_false] at hc; (first | (rcases hc with rfl | rfl | rfl <;> exact hN _) | (rcases hc with rfl | rfl <;> exact hN _) | (subst hc; first | exact hN _ | (simp only; decide)))⟩, by simp only; omega, by simp only; omega⟩, by simp only; omega, (Weak.auto hcx rfl rfl (Nat.le_of_ble_eq_true rfl) (by simp [go_sem, gL, kL, renOf, V.obj, lk, Nat.blt, Nat.ble, List.map_append, dv_push, frzL_app, fiD, crD]) (by simp [go_sem, gL, kL, renOf, V.obj, lk, Nat.blt, Nat.ble, List.map_append, dv_push, frzL_app, fiD, crD]) (by first | (intro i hi; exact absurd hi (Nat.not_lt_zero _)) | (intro i0 hi0; match i0, hi0 with | 0, _ => exact ⟨_, rfl⟩ | n0+1, h0 => exact absurd h0 (Nat.not_lt.2 (Nat.le_add_left 1 n0))) | (intro i0 hi0; match i0, hi0 with | 0, _ => exact ⟨_, rfl⟩ | 1, _ => exact ⟨_, rfl⟩ | n0+2, h0 => exact absurd h0 (Nat.not_lt.2 (Nat.le_add_left 2 n0))) | (intro i0 hi0; match i0, hi0 with | 0, _ => exact ⟨_, rfl⟩ | 1, _ => exact ⟨_, rfl⟩ | 2, _ => exact ⟨_, rfl⟩ | n0+3, h0 => exact absurd h0 (Nat.not_lt.2 (Nat.le_add_left 3 n0))) | (intro i0 hi0; match i0, hi0 with | 0, _ => exact ⟨_, rfl⟩ | 1, _ => exact ⟨_, rfl⟩ | 2, _ => exact ⟨_, rfl⟩ | 3, _ => exact ⟨_, rfl⟩ | n0+4, h0 => exact absurd h0 (Nat.not_lt.2 (Nat.le_add_left 4 n0)))) (by simp [go_sem, gL, kL, lk, renOf, V.obj, Nat.blt, Nat.ble, frzL_app, fiD, crD]))⟩
    · exact ⟨(i + 1, out ++ [(who, ti, pg, [([97, 110, 110], [65, 110, 110, 32, 76, 101, 101])])], a + 1 + 1 + 1 + 1 + 1 + 1), ⟨hi, hsub _ rfl, hfin _ _ _ hti hpg ⟨by simp, by simp only [List.map_cons, List.map_nil]; decide, by intro c hc; simp only [List.mem_cons, List.not_mem_nil, or_false] at hc; (first | (rcases hc with rfl | rfl | rfl <;> exact hN _) | (rcases hc with rfl | rfl <;> exact hN _) | (subst hc; first | exact hN _ | (simp only; decide)))⟩, by simp only; omega, by simp only; omega⟩, by simp only; omega, (Weak.auto hcx rfl rfl (Nat.le_of_ble_eq_true rfl) (by simp [go_sem, gL, kL, renOf, V.obj, lk, Nat.blt, Nat.ble, List.map_append, dv_push, frzL_app, fiD, crD]) (by simp [go_sem, gL, kL, renOf, V.obj, lk, Nat.blt, Nat.ble, List.map_append, dv_push, frzL_app, fiD, crD]) (by first | (intro i hi; exact absurd hi (Nat.not_lt_zero _)) | (intro i0 hi0; match i0, hi0 with | 0, _ => exact ⟨_, rfl⟩ | n0+1, h0 => exact absurd h0 (Nat.not_lt.2 (Nat.le_add_left 1 n0))) | (intro i0 hi0; match i0, hi0 with | 0, _ => exact ⟨_, rfl⟩ | 1, _ => exact ⟨_, rfl⟩ | n0+2, h0 => exact absurd h0 (Nat.not_lt.2 (Nat.le_add_left 2 n0))) | (intro i0 hi0; match i0, hi0 with | 0, _ => exact ⟨_, rfl⟩ | 1, _ => exact ⟨_, rfl⟩ | 2, _ => exact ⟨_, rfl⟩ | n0+3, h0 => exact absurd h0 (Nat.not_lt.2 (Nat.le_add_left 3 n0))) | (intro i0 hi0; match i0, hi0 with | 0, _ => exact ⟨_, rfl⟩ | 1, _ => exact ⟨_, rfl⟩ | 2, _ => exact ⟨_, rfl⟩ | 3, _ => exact ⟨_, rfl⟩ | n0+4, h0 => exact absurd h0 (Nat.not_lt.2 (Nat.le_add_left 4 n0)))) (by simp [go_sem, gL, kL, lk, renOf, V.obj, Nat.blt, Nat.ble, frzL_app, fiD, crD]))⟩
  · obtain rfl : i = 4 := by omega
    repeat' (first | (refine AW.sreg rfl fun K hK => ?_; simp only [go_sem, Nat.reduceAdd, Nat.reduceMul, Int.reduceToNat, Nat.reduceLT, Nat.reduceLeDiff, Nat.le_refl, Nat.reduceEqDiff, ↓reduceIte, beq_self_eq_true, bne_self_eq_false, Int.reduceBEq, Int.reduceBNe, or_self, true_or, or_true, Option.map_some, Option.map_none]) | (refine AW.seq_k fun K hK => ?_) | (refine AW.exit ?_; simp only [go_sem, ↓reduceIte]) | (refine AW.condF rfl (by first | rfl | (simp; omega) | (simp [*]; done) | fail) ?_) | (refine hK _ ?_; clear hK K) | (clear hK K; refine hK _ ?_; clear hK K))
    exact AW.ret ⟨(out, a), ⟨by simpa [P4] using h2, h3, by simp only; omega, by simp only; omega⟩, Fin.one rfl ((frz_slr rfl rfl (by simp)).trans (by simp [go_sem])) ⟨_, rfl, by simp [go_sem]⟩ rfl rfl rfl⟩
end Go.AX

namespace Go.AX
open Go Go.Proofs Go.RowKit
def NW : List Str := [[79, 110, 32, 116, 97, 108, 108, 32, 116, 114, 101, 101, 115], [79, 110, 32, 114, 111, 111, 116, 115], [90, 122, 122], [65, 110, 110, 32, 76, 101, 101], [90, 101, 100, 32, 90, 46], [80, 108, 97, 116, 111], [], [83, 111, 109, 101, 116, 104, 105, 110, 103, 32, 101, 108, 115, 101]]
def WW : List Str := T3 ++ N14 ++ NW ++ [[79, 116, 104, 101, 114], [32, 97]]
def lnOk (s : Str) : Bool := !(s == [] || s == [32, 97])
theorem lineW : ∀ s ∈ WW, Does Tryz.prog 31 [S s, I 200] [] (B (lnOk s)) [] ∧ Does Tryz.prog 31 [S s, I 100] [] (B (lnOk s)) [] := by
  have h : WW.all (fun s => evalsTo Tryz.prog (CN Tryz.prog) 31 [S s, I 200] (B (lnOk s)) && evalsTo Tryz.prog (CN Tryz.prog) 31 [S s, I 100] (B (lnOk s))) = true := by kernel_rfl
  intro s hs
  have := List.all_eq_true.1 h s hs
  simp only [Bool.and_eq_true] at this
  exact ⟨evalsTo_ok CN_ok hmix this.1, evalsTo_ok CN_ok hmix this.2⟩
def LnW (s : Str) : Prop := s ∈ WW ∧ lnOk s = true
theorem titleLine {s : Str} (h : LnW s) : Does Tryz.prog 31 [S s, I 200] [] (B true) [] := h.2 ▸ (lineW s h.1).1
theorem nameLine {s : Str} (h : LnW s) : Does Tryz.prog 31 [S s, I 100] [] (B true) [] := h.2 ▸ (lineW s h.1).2
theorem lnT3 : ∀ s ∈ T3, LnW s := by unfold LnW; decide
theorem lnN14 : ∀ s ∈ N14, LnW s := by unfold LnW; decide
/-- What errata leave. -/
def CrsG (cs : List Cr) : Prop := cs ≠ [] ∧ (cs.map (·.1)).Sublist K3 ∧ ∀ c ∈ cs, LnW c.2
def FinG (f : Fi) : Prop := f.1 ∈ P4 ∧ LnW f.2.1 ∧ f.2.2.1 ∈ G5 ∧ CrsG f.2.2.2
theorem finG_of {f : Fi} (h : FinF f) : FinG f := ⟨h.1, lnT3 _ h.2.1, h.2.2.1, h.2.2.2.1, h.2.2.2.2.1, fun c hc => lnN14 _ (h.2.2.2.2.2 c hc)⟩
theorem keysP : ∀ s ∈ P4, keyB s = true := by decide
theorem keysK : ∀ s ∈ K3, keyB s = true := by decide
theorem credit1_any (x : Cr) (k : Str) : Does Tryz.prog 47 [.d (crD x), .d (.ptr [.str k] 0)] [] (B (x.1 == k)) [] := by
  refine Does.of_AW (n := 8) Tryz.func47 rfl rfl rfl fun cx hcx => ?_
  repeat' (first | (refine AW.sreg rfl fun K hK => ?_; simp only [go_sem, Nat.reduceAdd, Nat.reduceMul, Int.reduceToNat, Nat.reduceLT, Nat.reduceLeDiff, Nat.le_refl, Nat.reduceEqDiff, ↓reduceIte, beq_self_eq_true, bne_self_eq_false, Int.reduceBEq, Int.reduceBNe, or_self, true_or, or_true, Option.map_some, Option.map_none]) | (refine hK _ ?_; clear hK K) | (refine AW.ret (Fin.data rfl (by first | (simp only [go_sem]; done) | (simp [go_sem, *]; done) | (simp [go_sem]; omega) | rfl) rfl)))
def idxG {α : Type} (q : α → Bool) : List α → Nat → Int
  | [], _ => -1
  | x :: r, i => if q x = true then i else idxG q r (i + 1)
theorem idxG_any {α : Type} (q : α → Bool) : ∀ (l : List α) (i : Nat), decide (0 ≤ idxG q l i) = l.any q
  | [], i => by simp [idxG]
  | x :: r, i => by
    simp only [idxG, List.any_cons]
    split
    · rename_i h; simp [h]
    · rename_i h; simp only [Bool.not_eq_true] at h; rw [h, Bool.false_or]; exact idxG_any q r (i + 1)
theorem idxG_none {α : Type} (q : α → Bool) : ∀ (xs : List α) (i : Nat), (∀ x ∈ xs, q x = false) → idxG q xs i = -1
  | [], i, _ => rfl
  | x :: r, i, h => by
    simp only [idxG, h x (by simp), Bool.false_eq_true, if_false]
    exact idxG_none q r (i + 1) fun y hy => h y (by simp [hy])
theorem indexFunc_Cr (xs : List Cr) (hl : xs.length ≤ 1000) (c : Nat) (cap : D) (q : Cr → Bool) (hc : ∀ x ∈ xs, Does Tryz.prog c [.d (crD x), .d cap] [] (B (q x)) []) :
    Does Tryz.prog 46 [.d (.sl (xs.map crD)), .fn c [.d cap]] [] (I (idxG q xs 0)) [] := by
  refine Does.of_AW (n := 19) Tryz.func46 rfl rfl rfl fun cx hcx => ?_
  generalize hR : idxG q xs 0 = R
  repeat' (first | (refine AW.sreg rfl fun K hK => ?_; simp only [go_sem, Nat.reduceAdd, Nat.reduceMul, Int.reduceToNat, Nat.reduceLT, Nat.reduceLeDiff, Nat.le_refl, Nat.reduceEqDiff, ↓reduceIte, beq_self_eq_true, bne_self_eq_false, Int.reduceBEq, Int.reduceBNe, or_self, true_or, or_true, Option.map_some, Option.map_none, List.length_map]) | (refine AW.seq_k fun K hK => ?_) | (refine AW.block ?_) | (refine hK _ ?_; clear hK K))
  refine AW.loopF (ι := Nat) [0, 1, 7] (fun p => [(8, I p)]) (fun p => []) 1 (fun p => p ≤ xs.length ∧ idxG q (xs.drop p) p = R) (fun p => xs.length - p) 0 ⟨by simp, hR⟩ (Weak.auto hcx rfl rfl (Nat.le_of_ble_eq_true rfl) (by simp [go_sem, gL, kL, renOf, V.obj, lk, Nat.blt, Nat.ble, List.map_append, dv_push]) (by simp [go_sem, gL, kL, renOf, V.obj, lk, Nat.blt, Nat.ble, List.map_append, dv_push]) (by first | (intro i hi; exact absurd hi (Nat.not_lt_zero _)) | (intro i0 hi0; match i0, hi0 with | 0, _ => exact ⟨_, rfl⟩ | n0+1, h0 => exact absurd h0 (Nat.not_lt.2 (Nat.le_add_left 1 n0))) | (intro i0 hi0; match i0, hi0 with | 0, _ => exact ⟨_, rfl⟩ | 1, _ => exact ⟨_, rfl⟩ | n0+2, h0 => exact absurd h0 (Nat.not_lt.2 (Nat.le_add_left 2 n0))) | (intro i0 hi0; match i0, hi0 with | 0, _ => exact ⟨_, rfl⟩ | 1, _ => exact ⟨_, rfl⟩ | 2, _ => exact ⟨_, rfl⟩ | n0+3, h0 => exact absurd h0 (Nat.not_lt.2 (Nat.le_add_left 3 n0))) | (intro i0 hi0; match i0, hi0 with | 0, _ => exact ⟨_, rfl⟩ | 1, _ => exact ⟨_, rfl⟩ | 2, _ => exact ⟨_, rfl⟩ | 3, _ => exact ⟨_, rfl⟩ | n0+4, h0 => exact absurd h0 (Nat.not_lt.2 (Nat.le_add_left 4 n0)))) (by simp [go_sem, gL, kL, lk, renOf, V.obj, Nat.blt, Nat.ble])) ?_; simp only [St.at_nil, St.at_cons, lk, Nat.reduceEqDiff, ↓reduceIte, Option.getD_some, Option.getD_none, List.cons_append, List.nil_append, List.append_nil]
  rintro i ⟨h1, h2⟩
  by_cases hi : i < xs.length
  · obtain ⟨x, hx, hxm, hxd⟩ := get_some hi
    have hget : (xs.map crD)[i]? = some (crD x) := by simp [hx]
    rw [hxd, idxG] at h2
    repeat' (first | (refine AW.sreg rfl fun K hK => ?_; simp only [go_sem, Nat.reduceAdd, Nat.reduceMul, Int.reduceToNat, Nat.reduceLT, Nat.reduceLeDiff, Nat.le_refl, Nat.reduceEqDiff, ↓reduceIte, beq_self_eq_true, bne_self_eq_false, Int.reduceBEq, Int.reduceBNe, or_self, true_or, or_true, Option.map_some, Option.map_none, List.length_map, hget]) | (refine AW.reg rfl ?_; simp only [go_sem, Nat.reduceAdd, Nat.reduceMul, Int.reduceToNat, Nat.reduceLT, Nat.reduceLeDiff, Nat.le_refl, Nat.reduceEqDiff, ↓reduceIte, beq_self_eq_true, bne_self_eq_false, Int.reduceBEq, Int.reduceBNe, or_self, true_or, or_true, Option.map_some, Option.map_none, List.length_map, hget]) | (refine AW.seq_k fun K hK => ?_) | (refine AW.block ?_) | (refine AW.skip ?_; simp only [Then, InBlock]) | (refine AW.condT rfl (by first | rfl | (simp; omega) | (simp [*]; done) | fail) ?_) | (refine AW.cond rfl (fun h => ?_) (fun h => ?_) <;> (try simp only [decide_eq_true_eq, decide_eq_false_iff_not, Bool.not_eq_true', Bool.not_eq_false', Bool.not_eq_eq_eq_not, Bool.not_true, Bool.not_false, beq_iff_eq, bne_iff_ne, beq_eq_false_iff_ne, ne_eq, Bool.and_eq_true, Bool.or_eq_true, Bool.or_eq_false_iff] at h)) | (refine hK _ ?_; clear hK K) | (refine run_call _ _ _ ((hc x hxm).pure rfl rfl _ _) rfl rfl (dstOk_of rfl) rfl rfl rfl ?_; simp only [go_sem, Nat.reduceAdd, Nat.reduceMul, Int.reduceToNat, Nat.reduceLT, Nat.reduceLeDiff, Nat.le_refl, Nat.reduceEqDiff, ↓reduceIte, beq_self_eq_true, bne_self_eq_false, Int.reduceBEq, Int.reduceBNe, or_self, true_or, or_true, Option.map_some, Option.map_none, List.length_map, hget]) | (with_reducible refine And.intro ?_ ?_; first | omega | assumption | (focus (decide)) | (focus (simp; done)) | (focus (simp; omega)) | (focus (constructor <;> omega)) | fail) | (refine AW.ret (Fin.data rfl (by first | (simp only [go_sem]; done) | ((rw [if_pos h] at h2; subst h2; simp [go_sem]); done) | (simp [go_sem]; omega) | rfl) rfl)))
    rw [if_neg (by simp [h])] at h2
    exact ⟨i + 1, ⟨hi, h2⟩, by omega, (Weak.auto hcx rfl rfl (Nat.le_of_ble_eq_true rfl) (by simp [go_sem, gL, kL, renOf, V.obj, lk, Nat.blt, Nat.ble, List.map_append, dv_push]) (by simp [go_sem, gL, kL, renOf, V.obj, lk, Nat.blt, Nat.ble, List.map_append, dv_push]) (by first | (intro i hi; exact absurd hi (Nat.not_lt_zero _)) | (intro i0 hi0; match i0, hi0 with | 0, _ => exact ⟨_, rfl⟩ | n0+1, h0 => exact absurd h0 (Nat.not_lt.2 (Nat.le_add_left 1 n0))) | (intro i0 hi0; match i0, hi0 with | 0, _ => exact ⟨_, rfl⟩ | 1, _ => exact ⟨_, rfl⟩ | n0+2, h0 => exact absurd h0 (Nat.not_lt.2 (Nat.le_add_left 2 n0))) | (intro i0 hi0; match i0, hi0 with | 0, _ => exact ⟨_, rfl⟩ | 1, _ => exact ⟨_, rfl⟩ | 2, _ => exact ⟨_, rfl⟩ | n0+3, h0 => exact absurd h0 (Nat.not_lt.2 (Nat.le_add_left 3 n0))) | (intro i0 hi0; match i0, hi0 with | 0, _ => exact ⟨_, rfl⟩ | 1, _ => exact ⟨_, rfl⟩ | 2, _ => exact ⟨_, rfl⟩ | 3, _ => exact ⟨_, rfl⟩ | n0+4, h0 => exact absurd h0 (Nat.not_lt.2 (Nat.le_add_left 4 n0)))) (by simp [go_sem, gL, kL, lk, renOf, V.obj, Nat.blt, Nat.ble]))⟩
  · obtain rfl : i = xs.length := by omega
    simp only [List.drop_length, idxG] at h2
    subst h2
    repeat' (first | (refine AW.sreg rfl fun K hK => ?_; simp only [go_sem, Nat.reduceAdd, Nat.reduceMul, Int.reduceToNat, Nat.reduceLT, Nat.reduceLeDiff, Nat.le_refl, Nat.reduceEqDiff, ↓reduceIte, beq_self_eq_true, bne_self_eq_false, Int.reduceBEq, Int.reduceBNe, or_self, true_or, or_true, Option.map_some, Option.map_none, List.length_map]) | (refine AW.seq_k fun K hK => ?_) | (refine AW.exit ?_; simp only [go_sem, ↓reduceIte]) | (refine AW.condF rfl (by first | rfl | (simp; omega) | (simp [*]; done) | fail) ?_) | (refine hK _ ?_; clear hK K) | (clear hK K; refine hK _ ?_; clear hK K) | (refine AW.ret (Fin.data rfl (by first | (simp only [go_sem]; done) | (simp [go_sem, *]; done) | (simp [go_sem]; omega) | rfl) rfl)))
theorem idxG_pos {α : Type} (q : α → Bool) : ∀ (l : List α) (i : Nat), idxG q l i = match pos? q l with | some k => ((i + k : Nat) : Int) | none => -1
  | [], i => rfl
  | x :: r, i => by
    simp only [idxG, pos?]
    split
    · simp
    · rw [idxG_pos q r (i + 1)]
      cases pos? q r with
      | none => rfl
      | some k => simp only [Option.map_some]; congr 1; omega
theorem credit_any (xs : List Cr) (hl : xs.length ≤ 1000) (k : Str) : Does Tryz.prog 36 [.d (.sl (xs.map crD)), S k] [] (I (idxG (fun x => x.1 == k) xs 0)) [] := by
  have hx := indexFunc_Cr xs hl 47 (.ptr [.str k] 0) (fun x => x.1 == k) (fun x _ => credit1_any x k)
  refine Does.of_AW (n := 8) Tryz.func36 rfl rfl rfl fun cx hcx => ?_
  repeat' (first | (refine AW.sreg rfl fun K hK => ?_; simp only [go_sem, Nat.reduceAdd, Nat.reduceMul, Int.reduceToNat, Nat.reduceLT, Nat.reduceLeDiff, Nat.le_refl, Nat.reduceEqDiff, ↓reduceIte, beq_self_eq_true, bne_self_eq_false, Int.reduceBEq, Int.reduceBNe, or_self, true_or, or_true, Option.map_some, Option.map_none]) | (refine hK _ ?_; clear hK K) | (refine run_call _ _ _ ((hx).lend (by repeat' (first | exact frzL_nil | refine frzL_cons (by first | exact frz_d | exact frz_slr rfl rfl (by first | (simp; done) | (simp; omega) | (simp [*]; done) | fail) | rfl) ?_)) rfl rfl rfl) rfl rfl (dstOk_of rfl) rfl rfl rfl ?_; simp only [go_sem, Nat.reduceAdd, Nat.reduceMul, Int.reduceToNat, Nat.reduceLT, Nat.reduceLeDiff, Nat.le_refl, Nat.reduceEqDiff, ↓reduceIte, beq_self_eq_true, bne_self_eq_false, Int.reduceBEq, Int.reduceBNe, or_self, true_or, or_true, Option.map_some, Option.map_none]) | (refine AW.ret (Fin.data rfl (by first | (simp only [go_sem]; done) | (simp [go_sem, *]; done) | (simp [go_sem]; omega) | rfl) rfl)))
theorem credit_no (xs : List Cr) (hl : xs.length ≤ 1000) (k : Str) (h : ∀ x ∈ xs, x.1 ≠ k) : Does Tryz.prog 36 [.d (.sl (xs.map crD)), S k] [] (I (-1)) [] := by
  have hx := indexFunc_Cr xs hl 47 (.ptr [.str k] 0) (fun x => x.1 == k) (fun x _ => credit1_any x k)
  rw [idxG_none _ _ _ (fun x hx => by simpa using h x hx)] at hx
  refine Does.of_AW (n := 8) Tryz.func36 rfl rfl rfl fun cx hcx => ?_
  repeat' (first | (refine AW.sreg rfl fun K hK => ?_; simp only [go_sem, Nat.reduceAdd, Nat.reduceMul, Int.reduceToNat, Nat.reduceLT, Nat.reduceLeDiff, Nat.le_refl, Nat.reduceEqDiff, ↓reduceIte, beq_self_eq_true, bne_self_eq_false, Int.reduceBEq, Int.reduceBNe, or_self, true_or, or_true, Option.map_some, Option.map_none]) | (refine hK _ ?_; clear hK K) | (refine run_call _ _ _ ((hx).lend (by repeat' (first | exact frzL_nil | refine frzL_cons (by first | exact frz_d | exact frz_slr rfl rfl (by first | (simp; done) | (simp; omega) | (simp [*]; done) | fail) | rfl) ?_)) rfl rfl rfl) rfl rfl (dstOk_of rfl) rfl rfl rfl ?_; simp only [go_sem, Nat.reduceAdd, Nat.reduceMul, Int.reduceToNat, Nat.reduceLT, Nat.reduceLeDiff, Nat.le_refl, Nat.reduceEqDiff, ↓reduceIte, beq_self_eq_true, bne_self_eq_false, Int.reduceBEq, Int.reduceBNe, or_self, true_or, or_true, Option.map_some, Option.map_none]) | (refine AW.ret (Fin.data rfl (by first | (simp only [go_sem]; done) | (simp [go_sem, *]; done) | (simp [go_sem]; omega) | rfl) rfl)))
theorem crs_nodup {cs : List Cr} (h : CrsG cs) : (cs.map (·.1)).Nodup := h.2.1.nodup (by decide)
theorem crs_len {cs : List Cr} (h : CrsG cs) : cs.length ≤ 3 := by
  have := h.2.1.length_le
  simpa [K3] using this
theorem all_ok_Cr (xs : List Cr) : (xs.map crD).all (elemOkD 2) = true := by simp [elemOkD, D.cells, D.single]
theorem creditsFault_ok (cs : List Cr) (hcs : CrsG cs) : Does Tryz.prog 33 [.d (.sl (cs.map crD))] [] (I 0) [] := by
  have hl := crs_len hcs
  have hnd := crs_nodup hcs
  have hpos : 0 < cs.length := List.length_pos_iff.2 hcs.1
  refine Does.of_AW (n := 37) Tryz.func33 rfl rfl rfl fun cx hcx => ?_
  repeat' (first | (refine AW.sreg rfl fun K hK => ?_; simp only [go_sem, Nat.reduceAdd, Nat.reduceMul, Int.reduceToNat, Nat.reduceLT, Nat.reduceLeDiff, Nat.le_refl, Nat.reduceEqDiff, ↓reduceIte, beq_self_eq_true, bne_self_eq_false, Int.reduceBEq, Int.reduceBNe, or_self, true_or, or_true, Option.map_some, Option.map_none, List.length_map]) | (refine AW.seq_k fun K hK => ?_) | (refine AW.block ?_) | (refine AW.skip ?_; simp only [Then, InBlock]) | (refine AW.condF rfl (by first | rfl | (simp; omega) | (simp [*]; done) | fail) ?_) | (refine AW.cond rfl (fun h => ?_) (fun h => ?_) <;> (try simp only [decide_eq_true_eq, decide_eq_false_iff_not, Bool.not_eq_true', Bool.not_eq_false', Bool.not_eq_eq_eq_not, Bool.not_true, Bool.not_false, beq_iff_eq, bne_iff_ne, beq_eq_false_iff_ne, ne_eq, Bool.and_eq_true, Bool.or_eq_true, Bool.or_eq_false_iff] at h)) | (refine hK _ ?_; clear hK K) | (refine AW.ret (Fin.data rfl (by first | (simp only [go_sem]; done) | (simp [go_sem, *]; done) | (simp [go_sem]; omega) | rfl) rfl)))
  refine AW.loopF (ι := Nat) [0, 11, 12] (fun p => [(13, I p)]) (fun p => []) 1 (fun p => p ≤ cs.length) (fun p => cs.length - p) 0 (Nat.zero_le _) (Weak.auto hcx rfl rfl (Nat.le_of_ble_eq_true rfl) (by simp [go_sem, gL, kL, renOf, V.obj, lk, Nat.blt, Nat.ble, List.map_append, dv_push]) (by simp [go_sem, gL, kL, renOf, V.obj, lk, Nat.blt, Nat.ble, List.map_append, dv_push]) (by first | (intro i hi; exact absurd hi (Nat.not_lt_zero _)) | (intro i0 hi0; match i0, hi0 with | 0, _ => exact ⟨_, rfl⟩ | n0+1, h0 => exact absurd h0 (Nat.not_lt.2 (Nat.le_add_left 1 n0))) | (intro i0 hi0; match i0, hi0 with | 0, _ => exact ⟨_, rfl⟩ | 1, _ => exact ⟨_, rfl⟩ | n0+2, h0 => exact absurd h0 (Nat.not_lt.2 (Nat.le_add_left 2 n0))) | (intro i0 hi0; match i0, hi0 with | 0, _ => exact ⟨_, rfl⟩ | 1, _ => exact ⟨_, rfl⟩ | 2, _ => exact ⟨_, rfl⟩ | n0+3, h0 => exact absurd h0 (Nat.not_lt.2 (Nat.le_add_left 3 n0))) | (intro i0 hi0; match i0, hi0 with | 0, _ => exact ⟨_, rfl⟩ | 1, _ => exact ⟨_, rfl⟩ | 2, _ => exact ⟨_, rfl⟩ | 3, _ => exact ⟨_, rfl⟩ | n0+4, h0 => exact absurd h0 (Nat.not_lt.2 (Nat.le_add_left 4 n0)))) (by simp [go_sem, gL, kL, lk, renOf, V.obj, Nat.blt, Nat.ble])) ?_; simp only [St.at_nil, St.at_cons, lk, Nat.reduceEqDiff, ↓reduceIte, Option.getD_some, Option.getD_none, List.cons_append, List.nil_append, List.append_nil]
  intro i h1
  by_cases hi : i < cs.length
  · obtain ⟨x, hx, hxm, hxd⟩ := get_some hi
    have hget : (cs.map crD)[i]? = some (crD x) := by simp [hx]
    have hk := isKey_any x.1 (by have := hcs.2.1.subset (List.mem_map_of_mem hxm); revert this; generalize x.1 = z; revert z; decide)
    rw [keysK x.1 (hcs.2.1.subset (List.mem_map_of_mem hxm))] at hk
    have hn := nameLine (hcs.2.2 x hxm)
    have hc := credit_no (cs.take i) (by simp; omega) x.1 fun y hy e => by
      obtain ⟨j, hj⟩ := List.mem_iff_getElem?.1 hy
      rw [List.getElem?_take] at hj
      split at hj
      · rename_i hji
        have e1 : (cs.map (·.1))[j]? = some x.1 := by rw [List.getElem?_map, hj, Option.map_some, e]
        have e2 : (cs.map (·.1))[i]? = some x.1 := by rw [List.getElem?_map, hx, Option.map_some]
        have hjl : j < (cs.map (·.1)).length := by simp; omega
        have := (List.getElem?_inj hjl hnd).1 (e1.trans e2.symm)
        omega
      · cases hj
    rw [List.map_take] at hc
    repeat' (first | (refine AW.sreg rfl fun K hK => ?_; simp only [go_sem, Nat.reduceAdd, Nat.reduceMul, Int.reduceToNat, Nat.reduceLT, Nat.reduceLeDiff, Nat.le_refl, Nat.reduceEqDiff, ↓reduceIte, beq_self_eq_true, bne_self_eq_false, Int.reduceBEq, Int.reduceBNe, or_self, true_or, or_true, Option.map_some, Option.map_none, List.length_map, hget, all_ok_Cr, Nat.sub_zero, and_true]) | (refine AW.sregD hmix rfl fun K hK => ?_; simp only [go_sem, Nat.reduceAdd, Nat.reduceMul, Int.reduceToNat, Nat.reduceLT, Nat.reduceLeDiff, Nat.le_refl, Nat.reduceEqDiff, ↓reduceIte, beq_self_eq_true, bne_self_eq_false, Int.reduceBEq, Int.reduceBNe, or_self, true_or, or_true, Option.map_some, Option.map_none, List.length_map, hget, all_ok_Cr, Nat.sub_zero, and_true]) | (refine AW.reg rfl ?_; simp only [go_sem, Nat.reduceAdd, Nat.reduceMul, Int.reduceToNat, Nat.reduceLT, Nat.reduceLeDiff, Nat.le_refl, Nat.reduceEqDiff, ↓reduceIte, beq_self_eq_true, bne_self_eq_false, Int.reduceBEq, Int.reduceBNe, or_self, true_or, or_true, Option.map_some, Option.map_none, List.length_map, hget, all_ok_Cr, Nat.sub_zero, and_true]) | (refine AW.seq_k fun K hK => ?_) | (refine AW.block ?_) | (refine AW.skip ?_; simp only [Then, InBlock]) | (refine AW.condT rfl (by first | rfl | (simp; omega) | (simp [*]; done) | fail) ?_) | (refine AW.condF rfl (by first | rfl | (simp; omega) | (simp [*]; done) | fail) ?_) | (refine hK _ ?_; clear hK K) | (with_reducible refine And.intro (?_ : regOk _ _ = true) ?_; kernel_rfl) | (refine run_call _ _ _ ((hk).pure rfl rfl _ _) rfl rfl (dstOk_of rfl) rfl rfl rfl ?_; simp only [go_sem, Nat.reduceAdd, Nat.reduceMul, Int.reduceToNat, Nat.reduceLT, Nat.reduceLeDiff, Nat.le_refl, Nat.reduceEqDiff, ↓reduceIte, beq_self_eq_true, bne_self_eq_false, Int.reduceBEq, Int.reduceBNe, or_self, true_or, or_true, Option.map_some, Option.map_none, List.length_map, hget, all_ok_Cr, Nat.sub_zero, and_true]) | (refine run_call _ _ _ ((hn).pure rfl rfl _ _) rfl rfl (dstOk_of rfl) rfl rfl rfl ?_; simp only [go_sem, Nat.reduceAdd, Nat.reduceMul, Int.reduceToNat, Nat.reduceLT, Nat.reduceLeDiff, Nat.le_refl, Nat.reduceEqDiff, ↓reduceIte, beq_self_eq_true, bne_self_eq_false, Int.reduceBEq, Int.reduceBNe, or_self, true_or, or_true, Option.map_some, Option.map_none, List.length_map, hget, all_ok_Cr, Nat.sub_zero, and_true]) | (refine runT_call _ _ [] (fun hv _ => (hc).pure rfl rfl hv _) rfl rfl (dstOk_of rfl) rfl rfl ?_; simp only [go_sem, Nat.reduceAdd, Nat.reduceMul, Int.reduceToNat, Nat.reduceLT, Nat.reduceLeDiff, Nat.le_refl, Nat.reduceEqDiff, ↓reduceIte, beq_self_eq_true, bne_self_eq_false, Int.reduceBEq, Int.reduceBNe, or_self, true_or, or_true, Option.map_some, Option.map_none, List.length_map, hget, all_ok_Cr, Nat.sub_zero, and_true]) | (with_reducible refine And.intro ?_ ?_; first | omega | assumption | (focus (decide)) | (focus (simp; done)) | (focus (simp; omega)) | (focus (constructor <;> omega)) | fail))
    all_goals first | exact ⟨i + 1, hi, by omega, (Weak.auto hcx rfl rfl (Nat.le_of_ble_eq_true rfl) (by simp [go_sem, gL, kL, renOf, V.obj, lk, Nat.blt, Nat.ble, List.map_append, dv_push]) (by simp [go_sem, gL, kL, renOf, V.obj, lk, Nat.blt, Nat.ble, List.map_append, dv_push]) (by first | (intro i hi; exact absurd hi (Nat.not_lt_zero _)) | (intro i0 hi0; match i0, hi0 with | 0, _ => exact ⟨_, rfl⟩ | n0+1, h0 => exact absurd h0 (Nat.not_lt.2 (Nat.le_add_left 1 n0))) | (intro i0 hi0; match i0, hi0 with | 0, _ => exact ⟨_, rfl⟩ | 1, _ => exact ⟨_, rfl⟩ | n0+2, h0 => exact absurd h0 (Nat.not_lt.2 (Nat.le_add_left 2 n0))) | (intro i0 hi0; match i0, hi0 with | 0, _ => exact ⟨_, rfl⟩ | 1, _ => exact ⟨_, rfl⟩ | 2, _ => exact ⟨_, rfl⟩ | n0+3, h0 => exact absurd h0 (Nat.not_lt.2 (Nat.le_add_left 3 n0))) | (intro i0 hi0; match i0, hi0 with | 0, _ => exact ⟨_, rfl⟩ | 1, _ => exact ⟨_, rfl⟩ | 2, _ => exact ⟨_, rfl⟩ | 3, _ => exact ⟨_, rfl⟩ | n0+4, h0 => exact absurd h0 (Nat.not_lt.2 (Nat.le_add_left 4 n0)))) (by simp [go_sem, gL, kL, lk, renOf, V.obj, Nat.blt, Nat.ble]))⟩ | trace_state
  · obtain rfl : i = cs.length := by omega
    repeat' (first | (refine AW.sreg rfl fun K hK => ?_; simp only [go_sem, Nat.reduceAdd, Nat.reduceMul, Int.reduceToNat, Nat.reduceLT, Nat.reduceLeDiff, Nat.le_refl, Nat.reduceEqDiff, ↓reduceIte, beq_self_eq_true, bne_self_eq_false, Int.reduceBEq, Int.reduceBNe, or_self, true_or, or_true, Option.map_some, Option.map_none, List.length_map]) | (refine AW.seq_k fun K hK => ?_) | (refine AW.exit ?_; simp only [go_sem, ↓reduceIte]) | (refine AW.condF rfl (by first | rfl | (simp; omega) | (simp [*]; done) | fail) ?_) | (refine hK _ ?_; clear hK K) | (clear hK K; refine hK _ ?_; clear hK K) | (refine AW.ret (Fin.data rfl (by first | (simp only [go_sem]; done) | (simp [go_sem, *]; done) | (simp [go_sem]; omega) | rfl) rfl)))
theorem pairwise_at {α : Type} {R : α → α → Prop} {xs : List α} (h : xs.Pairwise R) {i j : Nat} {x y : α} (hi : xs[i]? = some x) (hj : xs[j]? = some y) (hij : i < j) : R x y := by
  rw [List.pairwise_iff_getElem] at h
  have hil : i < xs.length := by
    rcases Nat.lt_or_ge i xs.length with h' | h'
    · exact h'
    · simp [List.getElem?_eq_none h'] at hi
  have hjl : j < xs.length := by
    rcases Nat.lt_or_ge j xs.length with h' | h'
    · exact h'
    · simp [List.getElem?_eq_none h'] at hj
  rw [List.getElem?_eq_getElem hil] at hi
  rw [List.getElem?_eq_getElem hjl] at hj
  cases hi
  cases hj
  exact h i j hil hjl hij
/-- All that may be drawn. -/
def FinsF (fs : List Fi) : Prop := (fs.map (·.1)).Sublist P4 ∧ ∀ f ∈ fs, FinG f
theorem fins_len {fs : List Fi} (h : FinsF fs) : fs.length ≤ 4 := by
  have := h.1.length_le
  simpa [P4] using this
theorem fins_lt {fs : List Fi} (h : FinsF fs) {i j : Nat} {x y : Fi} (hi : fs[i]? = some x) (hj : fs[j]? = some y) (hij : i < j) : (Op.bytesLess y.1 x.1 || y.1 == x.1) = false := by
  have hp : P4.Pairwise fun a b => (Op.bytesLess b a || b == a) = false := by decide
  have hq := hp.sublist h.1
  exact pairwise_at hq (i := i) (j := j) (by rw [List.getElem?_map, hi]; rfl) (by rw [List.getElem?_map, hj]; rfl) hij
theorem pages_in : ∀ n ∈ G5, 1 ≤ n ∧ n ≤ 100 := by decide
theorem checkFinals_ok (fs : List Fi) (h : FinsF fs) : Does Tryz.prog 20 [.d (.sl (fs.map fiD))] [] (I 0) [] := by
  have hl := fins_len h
  refine Does.of_AW (n := 51) Tryz.func20 rfl rfl rfl fun cx hcx => ?_
  repeat' (first | (refine AW.sreg rfl fun K hK => ?_; simp only [go_sem, Nat.reduceAdd, Nat.reduceMul, Int.reduceToNat, Nat.reduceLT, Nat.reduceLeDiff, Nat.le_refl, Nat.reduceEqDiff, ↓reduceIte, beq_self_eq_true, bne_self_eq_false, Int.reduceBEq, Int.reduceBNe, or_self, true_or, or_true, Option.map_some, Option.map_none, List.length_map]) | (refine AW.seq_k fun K hK => ?_) | (refine AW.block ?_) | (refine AW.skip ?_; simp only [Then, InBlock]) | (refine AW.condF rfl (by first | rfl | (simp; omega) | (simp [*]; done) | fail) ?_) | (refine hK _ ?_; clear hK K))
  refine AW.loopF (ι := Nat) [0, 9, 10] (fun p => [(11, I p)]) (fun p => []) 1 (fun p => p ≤ fs.length) (fun p => fs.length - p) 0 (Nat.zero_le _) (Weak.auto hcx rfl rfl (Nat.le_of_ble_eq_true rfl) (by simp [go_sem, gL, kL, renOf, V.obj, lk, Nat.blt, Nat.ble, List.map_append, dv_push]) (by simp [go_sem, gL, kL, renOf, V.obj, lk, Nat.blt, Nat.ble, List.map_append, dv_push]) (by first | (intro i hi; exact absurd hi (Nat.not_lt_zero _)) | (intro i0 hi0; match i0, hi0 with | 0, _ => exact ⟨_, rfl⟩ | n0+1, h0 => exact absurd h0 (Nat.not_lt.2 (Nat.le_add_left 1 n0))) | (intro i0 hi0; match i0, hi0 with | 0, _ => exact ⟨_, rfl⟩ | 1, _ => exact ⟨_, rfl⟩ | n0+2, h0 => exact absurd h0 (Nat.not_lt.2 (Nat.le_add_left 2 n0))) | (intro i0 hi0; match i0, hi0 with | 0, _ => exact ⟨_, rfl⟩ | 1, _ => exact ⟨_, rfl⟩ | 2, _ => exact ⟨_, rfl⟩ | n0+3, h0 => exact absurd h0 (Nat.not_lt.2 (Nat.le_add_left 3 n0))) | (intro i0 hi0; match i0, hi0 with | 0, _ => exact ⟨_, rfl⟩ | 1, _ => exact ⟨_, rfl⟩ | 2, _ => exact ⟨_, rfl⟩ | 3, _ => exact ⟨_, rfl⟩ | n0+4, h0 => exact absurd h0 (Nat.not_lt.2 (Nat.le_add_left 4 n0)))) (by simp [go_sem, gL, kL, lk, renOf, V.obj, Nat.blt, Nat.ble])) ?_; simp only [St.at_nil, St.at_cons, lk, Nat.reduceEqDiff, ↓reduceIte, Option.getD_some, Option.getD_none, List.cons_append, List.nil_append, List.append_nil]
  intro i h1
  by_cases hi : i < fs.length
  · obtain ⟨x, hx, hxm, hxd⟩ := get_some hi
    obtain ⟨x1, x2, x3, x4⟩ := h.2 x hxm
    have hget : (fs.map fiD)[i]? = some (fiD x) := by simp [hx]
    have hk := isKey_any x.1 (by revert x1; generalize x.1 = z; revert z; decide)
    rw [keysP x.1 x1] at hk
    have ht := titleLine x2
    obtain ⟨g1, g2⟩ := pages_in _ x3
    have hc := creditsFault_ok x.2.2.2 x4
    rcases i with _ | j
    · repeat' (first | (refine AW.sreg rfl fun K hK => ?_; simp only [go_sem, Nat.reduceAdd, Nat.reduceMul, Int.reduceToNat, Nat.reduceLT, Nat.reduceLeDiff, Nat.le_refl, Nat.reduceEqDiff, ↓reduceIte, beq_self_eq_true, bne_self_eq_false, Int.reduceBEq, Int.reduceBNe, or_self, true_or, or_true, Option.map_some, Option.map_none, List.length_map, hget]) | (refine AW.sregD hmix rfl fun K hK => ?_; simp only [go_sem, Nat.reduceAdd, Nat.reduceMul, Int.reduceToNat, Nat.reduceLT, Nat.reduceLeDiff, Nat.le_refl, Nat.reduceEqDiff, ↓reduceIte, beq_self_eq_true, bne_self_eq_false, Int.reduceBEq, Int.reduceBNe, or_self, true_or, or_true, Option.map_some, Option.map_none, List.length_map, hget]) | (refine AW.reg rfl ?_; simp only [go_sem, Nat.reduceAdd, Nat.reduceMul, Int.reduceToNat, Nat.reduceLT, Nat.reduceLeDiff, Nat.le_refl, Nat.reduceEqDiff, ↓reduceIte, beq_self_eq_true, bne_self_eq_false, Int.reduceBEq, Int.reduceBNe, or_self, true_or, or_true, Option.map_some, Option.map_none, List.length_map, hget]) | (refine AW.seq_k fun K hK => ?_) | (refine AW.block ?_) | (refine AW.skip ?_; simp only [Then, InBlock]) | (refine AW.condT rfl (by first | rfl | (simp; omega) | (simp [*]; done) | fail) ?_) | (refine AW.condF rfl (by first | rfl | (simp; omega) | (simp [*]; done) | fail) ?_) | (refine hK _ ?_; clear hK K) | (refine stepBT_split (fun h => ?_) (fun h => ?_) <;> (have hb0 := h) <;> (try simp only [Bool.not_eq_true', Bool.not_eq_false'] at hb0) <;> (try simp only [decide_eq_true_eq, decide_eq_false_iff_not, Bool.not_eq_true', Bool.not_eq_false', Bool.not_eq_eq_eq_not, Bool.not_true, Bool.not_false, beq_iff_eq, bne_iff_ne, beq_eq_false_iff_ne, ne_eq, Bool.and_eq_true, Bool.or_eq_true, Bool.or_eq_false_iff] at h) <;> simp only [go_sem, Nat.reduceAdd, Nat.reduceMul, Int.reduceToNat, Nat.reduceLT, Nat.reduceLeDiff, Nat.le_refl, Nat.reduceEqDiff, ↓reduceIte, beq_self_eq_true, bne_self_eq_false, Int.reduceBEq, Int.reduceBNe, or_self, true_or, or_true, Option.map_some, Option.map_none, hb0, h, decide_true, decide_false, List.length_map, hget] <;> (try clear hb0)) | (with_reducible refine And.intro (?_ : regOk _ _ = true) ?_; kernel_rfl) | (refine run_call _ _ _ ((hk).pure rfl rfl _ _) rfl rfl (dstOk_of rfl) rfl rfl rfl ?_; simp only [go_sem, Nat.reduceAdd, Nat.reduceMul, Int.reduceToNat, Nat.reduceLT, Nat.reduceLeDiff, Nat.le_refl, Nat.reduceEqDiff, ↓reduceIte, beq_self_eq_true, bne_self_eq_false, Int.reduceBEq, Int.reduceBNe, or_self, true_or, or_true, Option.map_some, Option.map_none, List.length_map, hget]) | (refine run_call _ _ _ ((ht).pure rfl rfl _ _) rfl rfl (dstOk_of rfl) rfl rfl rfl ?_; simp only [go_sem, Nat.reduceAdd, Nat.reduceMul, Int.reduceToNat, Nat.reduceLT, Nat.reduceLeDiff, Nat.le_refl, Nat.reduceEqDiff, ↓reduceIte, beq_self_eq_true, bne_self_eq_false, Int.reduceBEq, Int.reduceBNe, or_self, true_or, or_true, Option.map_some, Option.map_none, List.length_map, hget]) | (refine run_call _ _ _ ((hc).pure rfl rfl _ _) rfl rfl (dstOk_of rfl) rfl rfl rfl ?_; simp only [go_sem, Nat.reduceAdd, Nat.reduceMul, Int.reduceToNat, Nat.reduceLT, Nat.reduceLeDiff, Nat.le_refl, Nat.reduceEqDiff, ↓reduceIte, beq_self_eq_true, bne_self_eq_false, Int.reduceBEq, Int.reduceBNe, or_self, true_or, or_true, Option.map_some, Option.map_none, List.length_map, hget]) | (refine run_call _ _ _ ((outside_any _ _ _).pure rfl rfl _ _) rfl rfl (dstOk_of rfl) rfl rfl rfl ?_; simp only [go_sem, Nat.reduceAdd, Nat.reduceMul, Int.reduceToNat, Nat.reduceLT, Nat.reduceLeDiff, Nat.le_refl, Nat.reduceEqDiff, ↓reduceIte, beq_self_eq_true, bne_self_eq_false, Int.reduceBEq, Int.reduceBNe, or_self, true_or, or_true, Option.map_some, Option.map_none, List.length_map, hget]) | (with_reducible refine And.intro ?_ ?_; first | omega | assumption | (focus (decide)) | (focus (simp; done)) | (focus (simp; omega)) | (focus (constructor <;> omega)) | fail) | (exfalso; omega))
      all_goals first | exact ⟨_ + 1, hi, by omega, (Weak.auto hcx rfl rfl (Nat.le_of_ble_eq_true rfl) (by simp [go_sem, gL, kL, renOf, V.obj, lk, Nat.blt, Nat.ble, List.map_append, dv_push]) (by simp [go_sem, gL, kL, renOf, V.obj, lk, Nat.blt, Nat.ble, List.map_append, dv_push]) (by first | (intro i hi; exact absurd hi (Nat.not_lt_zero _)) | (intro i0 hi0; match i0, hi0 with | 0, _ => exact ⟨_, rfl⟩ | n0+1, h0 => exact absurd h0 (Nat.not_lt.2 (Nat.le_add_left 1 n0))) | (intro i0 hi0; match i0, hi0 with | 0, _ => exact ⟨_, rfl⟩ | 1, _ => exact ⟨_, rfl⟩ | n0+2, h0 => exact absurd h0 (Nat.not_lt.2 (Nat.le_add_left 2 n0))) | (intro i0 hi0; match i0, hi0 with | 0, _ => exact ⟨_, rfl⟩ | 1, _ => exact ⟨_, rfl⟩ | 2, _ => exact ⟨_, rfl⟩ | n0+3, h0 => exact absurd h0 (Nat.not_lt.2 (Nat.le_add_left 3 n0))) | (intro i0 hi0; match i0, hi0 with | 0, _ => exact ⟨_, rfl⟩ | 1, _ => exact ⟨_, rfl⟩ | 2, _ => exact ⟨_, rfl⟩ | 3, _ => exact ⟨_, rfl⟩ | n0+4, h0 => exact absurd h0 (Nat.not_lt.2 (Nat.le_add_left 4 n0)))) (by simp [go_sem, gL, kL, lk, renOf, V.obj, Nat.blt, Nat.ble]))⟩ | trace_state
    · obtain ⟨y, hy, hym, hyd⟩ := get_some (show j < fs.length by omega)
      have hget2 : (fs.map fiD)[(((j + 1 : Nat) : Int) - 1).toNat]? = some (fiD y) := by
        rw [show (((j + 1 : Nat) : Int) - 1).toNat = j by omega]; simp [hy]
      have hlt := fins_lt h hy hx (Nat.lt_succ_self j)
      repeat' (first | (refine AW.sreg rfl fun K hK => ?_; simp only [go_sem, Nat.reduceAdd, Nat.reduceMul, Int.reduceToNat, Nat.reduceLT, Nat.reduceLeDiff, Nat.le_refl, Nat.reduceEqDiff, ↓reduceIte, beq_self_eq_true, bne_self_eq_false, Int.reduceBEq, Int.reduceBNe, or_self, true_or, or_true, Option.map_some, Option.map_none, List.length_map, hget, hget2, hlt]) | (refine AW.sregD hmix rfl fun K hK => ?_; simp only [go_sem, Nat.reduceAdd, Nat.reduceMul, Int.reduceToNat, Nat.reduceLT, Nat.reduceLeDiff, Nat.le_refl, Nat.reduceEqDiff, ↓reduceIte, beq_self_eq_true, bne_self_eq_false, Int.reduceBEq, Int.reduceBNe, or_self, true_or, or_true, Option.map_some, Option.map_none, List.length_map, hget, hget2, hlt]) | (refine AW.reg rfl ?_; simp only [go_sem, Nat.reduceAdd, Nat.reduceMul, Int.reduceToNat, Nat.reduceLT, Nat.reduceLeDiff, Nat.le_refl, Nat.reduceEqDiff, ↓reduceIte, beq_self_eq_true, bne_self_eq_false, Int.reduceBEq, Int.reduceBNe, or_self, true_or, or_true, Option.map_some, Option.map_none, List.length_map, hget, hget2, hlt]) | (refine AW.seq_k fun K hK => ?_) | (refine AW.block ?_) | (refine AW.skip ?_; simp only [Then, InBlock]) | (refine AW.condT rfl (by first | rfl | (simp; omega) | (simp [*]; done) | fail) ?_) | (refine AW.condF rfl (by first | rfl | (simp; omega) | (simp [*]; done) | fail) ?_) | (refine hK _ ?_; clear hK K) | (refine stepBT_split (fun h => ?_) (fun h => ?_) <;> (have hb0 := h) <;> (try simp only [Bool.not_eq_true', Bool.not_eq_false'] at hb0) <;> (try simp only [decide_eq_true_eq, decide_eq_false_iff_not, Bool.not_eq_true', Bool.not_eq_false', Bool.not_eq_eq_eq_not, Bool.not_true, Bool.not_false, beq_iff_eq, bne_iff_ne, beq_eq_false_iff_ne, ne_eq, Bool.and_eq_true, Bool.or_eq_true, Bool.or_eq_false_iff] at h) <;> simp only [go_sem, Nat.reduceAdd, Nat.reduceMul, Int.reduceToNat, Nat.reduceLT, Nat.reduceLeDiff, Nat.le_refl, Nat.reduceEqDiff, ↓reduceIte, beq_self_eq_true, bne_self_eq_false, Int.reduceBEq, Int.reduceBNe, or_self, true_or, or_true, Option.map_some, Option.map_none, hb0, h, decide_true, decide_false, List.length_map, hget, hget2, hlt] <;> (try clear hb0)) | (with_reducible refine And.intro (?_ : regOk _ _ = true) ?_; kernel_rfl) | (refine run_call _ _ _ ((hk).pure rfl rfl _ _) rfl rfl (dstOk_of rfl) rfl rfl rfl ?_; simp only [go_sem, Nat.reduceAdd, Nat.reduceMul, Int.reduceToNat, Nat.reduceLT, Nat.reduceLeDiff, Nat.le_refl, Nat.reduceEqDiff, ↓reduceIte, beq_self_eq_true, bne_self_eq_false, Int.reduceBEq, Int.reduceBNe, or_self, true_or, or_true, Option.map_some, Option.map_none, List.length_map, hget, hget2, hlt]) | (refine run_call _ _ _ ((ht).pure rfl rfl _ _) rfl rfl (dstOk_of rfl) rfl rfl rfl ?_; simp only [go_sem, Nat.reduceAdd, Nat.reduceMul, Int.reduceToNat, Nat.reduceLT, Nat.reduceLeDiff, Nat.le_refl, Nat.reduceEqDiff, ↓reduceIte, beq_self_eq_true, bne_self_eq_false, Int.reduceBEq, Int.reduceBNe, or_self, true_or, or_true, Option.map_some, Option.map_none, List.length_map, hget, hget2, hlt]) | (refine run_call _ _ _ ((hc).pure rfl rfl _ _) rfl rfl (dstOk_of rfl) rfl rfl rfl ?_; simp only [go_sem, Nat.reduceAdd, Nat.reduceMul, Int.reduceToNat, Nat.reduceLT, Nat.reduceLeDiff, Nat.le_refl, Nat.reduceEqDiff, ↓reduceIte, beq_self_eq_true, bne_self_eq_false, Int.reduceBEq, Int.reduceBNe, or_self, true_or, or_true, Option.map_some, Option.map_none, List.length_map, hget, hget2, hlt]) | (refine run_call _ _ _ ((outside_any _ _ _).pure rfl rfl _ _) rfl rfl (dstOk_of rfl) rfl rfl rfl ?_; simp only [go_sem, Nat.reduceAdd, Nat.reduceMul, Int.reduceToNat, Nat.reduceLT, Nat.reduceLeDiff, Nat.le_refl, Nat.reduceEqDiff, ↓reduceIte, beq_self_eq_true, bne_self_eq_false, Int.reduceBEq, Int.reduceBNe, or_self, true_or, or_true, Option.map_some, Option.map_none, List.length_map, hget, hget2, hlt]) | (with_reducible refine And.intro ?_ ?_; first | omega | assumption | (focus (decide)) | (focus (simp; done)) | (focus (simp; omega)) | (focus (constructor <;> omega)) | fail) | (exfalso; omega))
      all_goals first | exact ⟨_ + 1, hi, by omega, (Weak.auto hcx rfl rfl (Nat.le_of_ble_eq_true rfl) (by simp [go_sem, gL, kL, renOf, V.obj, lk, Nat.blt, Nat.ble, List.map_append, dv_push]) (by simp [go_sem, gL, kL, renOf, V.obj, lk, Nat.blt, Nat.ble, List.map_append, dv_push]) (by first | (intro i hi; exact absurd hi (Nat.not_lt_zero _)) | (intro i0 hi0; match i0, hi0 with | 0, _ => exact ⟨_, rfl⟩ | n0+1, h0 => exact absurd h0 (Nat.not_lt.2 (Nat.le_add_left 1 n0))) | (intro i0 hi0; match i0, hi0 with | 0, _ => exact ⟨_, rfl⟩ | 1, _ => exact ⟨_, rfl⟩ | n0+2, h0 => exact absurd h0 (Nat.not_lt.2 (Nat.le_add_left 2 n0))) | (intro i0 hi0; match i0, hi0 with | 0, _ => exact ⟨_, rfl⟩ | 1, _ => exact ⟨_, rfl⟩ | 2, _ => exact ⟨_, rfl⟩ | n0+3, h0 => exact absurd h0 (Nat.not_lt.2 (Nat.le_add_left 3 n0))) | (intro i0 hi0; match i0, hi0 with | 0, _ => exact ⟨_, rfl⟩ | 1, _ => exact ⟨_, rfl⟩ | 2, _ => exact ⟨_, rfl⟩ | 3, _ => exact ⟨_, rfl⟩ | n0+4, h0 => exact absurd h0 (Nat.not_lt.2 (Nat.le_add_left 4 n0)))) (by simp [go_sem, gL, kL, lk, renOf, V.obj, Nat.blt, Nat.ble]))⟩ | trace_state
  · obtain rfl : i = fs.length := by omega
    repeat' (first | (refine AW.sreg rfl fun K hK => ?_; simp only [go_sem, Nat.reduceAdd, Nat.reduceMul, Int.reduceToNat, Nat.reduceLT, Nat.reduceLeDiff, Nat.le_refl, Nat.reduceEqDiff, ↓reduceIte, beq_self_eq_true, bne_self_eq_false, Int.reduceBEq, Int.reduceBNe, or_self, true_or, or_true, Option.map_some, Option.map_none, List.length_map]) | (refine AW.seq_k fun K hK => ?_) | (refine AW.exit ?_; simp only [go_sem, ↓reduceIte]) | (refine AW.condF rfl (by first | rfl | (simp; omega) | (simp [*]; done) | fail) ?_) | (refine hK _ ?_; clear hK K) | (clear hK K; refine hK _ ?_; clear hK K) | (refine AW.ret (Fin.data rfl (by first | (simp only [go_sem]; done) | (simp [go_sem, *]; done) | (simp [go_sem]; omega) | rfl) rfl)))
theorem sameFinal_self (f : Fi) (hl : f.2.2.2.length ≤ 1000) : Does Tryz.prog 11 [.d (fiD f), .d (fiD f)] [] (B true) [] := by
  have he : Does Tryz.prog 28 [.d (.sl (f.2.2.2.map crD)), .d (.sl (f.2.2.2.map crD))] [] (B true) [] := by
    refine Does.of_AW (n := 26) Tryz.func28 rfl rfl rfl fun cx hcx => ?_
    generalize f.2.2.2 = xs at *
    repeat' (first | (refine AW.sreg rfl fun K hK => ?_; simp only [go_sem, Nat.reduceAdd, Nat.reduceMul, Int.reduceToNat, Nat.reduceLT, Nat.reduceLeDiff, Nat.le_refl, Nat.reduceEqDiff, ↓reduceIte, beq_self_eq_true, bne_self_eq_false, Int.reduceBEq, Int.reduceBNe, or_self, true_or, or_true, Option.map_some, Option.map_none, List.length_map]) | (refine AW.seq_k fun K hK => ?_) | (refine AW.block ?_) | (refine AW.skip ?_; simp only [Then, InBlock]) | (refine AW.condF rfl (by first | rfl | (simp; omega) | (simp [*]; done) | fail) ?_) | (refine hK _ ?_; clear hK K))
    refine AW.loopF (ι := Nat) [0, 1, 12] (fun p => [(13, I p)]) (fun p => []) 1 (fun p => p ≤ xs.length) (fun p => xs.length - p) 0 (Nat.zero_le _) (Weak.auto hcx rfl rfl (Nat.le_of_ble_eq_true rfl) (by simp [go_sem, gL, kL, renOf, V.obj, lk, Nat.blt, Nat.ble, List.map_append, dv_push]) (by simp [go_sem, gL, kL, renOf, V.obj, lk, Nat.blt, Nat.ble, List.map_append, dv_push]) (by first | (intro i hi; exact absurd hi (Nat.not_lt_zero _)) | (intro i0 hi0; match i0, hi0 with | 0, _ => exact ⟨_, rfl⟩ | n0+1, h0 => exact absurd h0 (Nat.not_lt.2 (Nat.le_add_left 1 n0))) | (intro i0 hi0; match i0, hi0 with | 0, _ => exact ⟨_, rfl⟩ | 1, _ => exact ⟨_, rfl⟩ | n0+2, h0 => exact absurd h0 (Nat.not_lt.2 (Nat.le_add_left 2 n0))) | (intro i0 hi0; match i0, hi0 with | 0, _ => exact ⟨_, rfl⟩ | 1, _ => exact ⟨_, rfl⟩ | 2, _ => exact ⟨_, rfl⟩ | n0+3, h0 => exact absurd h0 (Nat.not_lt.2 (Nat.le_add_left 3 n0))) | (intro i0 hi0; match i0, hi0 with | 0, _ => exact ⟨_, rfl⟩ | 1, _ => exact ⟨_, rfl⟩ | 2, _ => exact ⟨_, rfl⟩ | 3, _ => exact ⟨_, rfl⟩ | n0+4, h0 => exact absurd h0 (Nat.not_lt.2 (Nat.le_add_left 4 n0)))) (by simp [go_sem, gL, kL, lk, renOf, V.obj, Nat.blt, Nat.ble])) ?_; simp only [St.at_nil, St.at_cons, lk, Nat.reduceEqDiff, ↓reduceIte, Option.getD_some, Option.getD_none, List.cons_append, List.nil_append, List.append_nil]
    intro i h1
    by_cases hi : i < xs.length
    · obtain ⟨x, hx, hxm, hxd⟩ := get_some hi
      have hget : (xs.map crD)[i]? = some (crD x) := by simp [hx]
      repeat' (first | (refine AW.sreg rfl fun K hK => ?_; simp only [go_sem, Nat.reduceAdd, Nat.reduceMul, Int.reduceToNat, Nat.reduceLT, Nat.reduceLeDiff, Nat.le_refl, Nat.reduceEqDiff, ↓reduceIte, beq_self_eq_true, bne_self_eq_false, Int.reduceBEq, Int.reduceBNe, or_self, true_or, or_true, Option.map_some, Option.map_none, List.length_map, hget]) | (refine AW.sregD hmix rfl fun K hK => ?_; simp only [go_sem, Nat.reduceAdd, Nat.reduceMul, Int.reduceToNat, Nat.reduceLT, Nat.reduceLeDiff, Nat.le_refl, Nat.reduceEqDiff, ↓reduceIte, beq_self_eq_true, bne_self_eq_false, Int.reduceBEq, Int.reduceBNe, or_self, true_or, or_true, Option.map_some, Option.map_none, List.length_map, hget]) | (refine AW.reg rfl ?_; simp only [go_sem, Nat.reduceAdd, Nat.reduceMul, Int.reduceToNat, Nat.reduceLT, Nat.reduceLeDiff, Nat.le_refl, Nat.reduceEqDiff, ↓reduceIte, beq_self_eq_true, bne_self_eq_false, Int.reduceBEq, Int.reduceBNe, or_self, true_or, or_true, Option.map_some, Option.map_none, List.length_map, hget]) | (refine AW.seq_k fun K hK => ?_) | (refine AW.block ?_) | (refine AW.skip ?_; simp only [Then, InBlock]) | (refine AW.condT rfl (by first | rfl | (simp; omega) | (simp [*]; done) | fail) ?_) | (refine AW.condF rfl (by first | rfl | (simp; omega) | (simp [*]; done) | fail) ?_) | (refine hK _ ?_; clear hK K) | (with_reducible refine And.intro (?_ : regOk _ _ = true) ?_; kernel_rfl) | (with_reducible refine And.intro ?_ ?_; first | omega | assumption | (focus (decide)) | (focus (simp; done)) | (focus (simp; omega)) | (focus (constructor <;> omega)) | fail))
      all_goals first | exact ⟨_ + 1, hi, by omega, (Weak.auto hcx rfl rfl (Nat.le_of_ble_eq_true rfl) (by simp [go_sem, gL, kL, renOf, V.obj, lk, Nat.blt, Nat.ble, List.map_append, dv_push]) (by simp [go_sem, gL, kL, renOf, V.obj, lk, Nat.blt, Nat.ble, List.map_append, dv_push]) (by first | (intro i hi; exact absurd hi (Nat.not_lt_zero _)) | (intro i0 hi0; match i0, hi0 with | 0, _ => exact ⟨_, rfl⟩ | n0+1, h0 => exact absurd h0 (Nat.not_lt.2 (Nat.le_add_left 1 n0))) | (intro i0 hi0; match i0, hi0 with | 0, _ => exact ⟨_, rfl⟩ | 1, _ => exact ⟨_, rfl⟩ | n0+2, h0 => exact absurd h0 (Nat.not_lt.2 (Nat.le_add_left 2 n0))) | (intro i0 hi0; match i0, hi0 with | 0, _ => exact ⟨_, rfl⟩ | 1, _ => exact ⟨_, rfl⟩ | 2, _ => exact ⟨_, rfl⟩ | n0+3, h0 => exact absurd h0 (Nat.not_lt.2 (Nat.le_add_left 3 n0))) | (intro i0 hi0; match i0, hi0 with | 0, _ => exact ⟨_, rfl⟩ | 1, _ => exact ⟨_, rfl⟩ | 2, _ => exact ⟨_, rfl⟩ | 3, _ => exact ⟨_, rfl⟩ | n0+4, h0 => exact absurd h0 (Nat.not_lt.2 (Nat.le_add_left 4 n0)))) (by simp [go_sem, gL, kL, lk, renOf, V.obj, Nat.blt, Nat.ble]))⟩ | trace_state
    · obtain rfl : i = xs.length := by omega
      repeat' (first | (refine AW.sreg rfl fun K hK => ?_; simp only [go_sem, Nat.reduceAdd, Nat.reduceMul, Int.reduceToNat, Nat.reduceLT, Nat.reduceLeDiff, Nat.le_refl, Nat.reduceEqDiff, ↓reduceIte, beq_self_eq_true, bne_self_eq_false, Int.reduceBEq, Int.reduceBNe, or_self, true_or, or_true, Option.map_some, Option.map_none, List.length_map]) | (refine AW.seq_k fun K hK => ?_) | (refine AW.exit ?_; simp only [go_sem, ↓reduceIte]) | (refine AW.condF rfl (by first | rfl | (simp; omega) | (simp [*]; done) | fail) ?_) | (refine hK _ ?_; clear hK K) | (clear hK K; refine hK _ ?_; clear hK K) | (refine AW.ret (Fin.data rfl (by first | (simp only [go_sem]; done) | (simp [go_sem, *]; done) | (simp [go_sem]; omega) | rfl) rfl)))
  refine Does.of_AW (n := 31) Tryz.func11 rfl rfl rfl fun cx hcx => ?_
  repeat' (first | (refine AW.sreg rfl fun K hK => ?_; simp only [go_sem, Nat.reduceAdd, Nat.reduceMul, Int.reduceToNat, Nat.reduceLT, Nat.reduceLeDiff, Nat.le_refl, Nat.reduceEqDiff, ↓reduceIte, beq_self_eq_true, bne_self_eq_false, Int.reduceBEq, Int.reduceBNe, or_self, true_or, or_true, Option.map_some, Option.map_none]) | (refine hK _ ?_; clear hK K) | (refine run_call _ _ _ ((he).pure rfl rfl _ _) rfl rfl (dstOk_of rfl) rfl rfl rfl ?_; simp only [go_sem, Nat.reduceAdd, Nat.reduceMul, Int.reduceToNat, Nat.reduceLT, Nat.reduceLeDiff, Nat.le_refl, Nat.reduceEqDiff, ↓reduceIte, beq_self_eq_true, bne_self_eq_false, Int.reduceBEq, Int.reduceBNe, or_self, true_or, or_true, Option.map_some, Option.map_none]) | (refine AW.ret (Fin.data rfl (by first | (simp only [go_sem]; done) | (simp [go_sem, *]; done) | (simp [go_sem]; omega) | rfl) rfl)))
theorem equalFunc_self (fs : List Fi) (hl : fs.length ≤ 1000) (hc : ∀ f ∈ fs, f.2.2.2.length ≤ 1000) : Does Tryz.prog 10 [.d (.sl (fs.map fiD)), .d (.sl (fs.map fiD)), .fn 11 []] [] (B true) [] := by
  refine Does.of_AW (n := 32) Tryz.func10 rfl rfl rfl fun cx hcx => ?_
  repeat' (first | (refine AW.sreg rfl fun K hK => ?_; simp only [go_sem, Nat.reduceAdd, Nat.reduceMul, Int.reduceToNat, Nat.reduceLT, Nat.reduceLeDiff, Nat.le_refl, Nat.reduceEqDiff, ↓reduceIte, beq_self_eq_true, bne_self_eq_false, Int.reduceBEq, Int.reduceBNe, or_self, true_or, or_true, Option.map_some, Option.map_none, List.length_map]) | (refine AW.seq_k fun K hK => ?_) | (refine AW.block ?_) | (refine AW.skip ?_; simp only [Then, InBlock]) | (refine AW.condF rfl (by first | rfl | (simp; omega) | (simp [*]; done) | fail) ?_) | (refine hK _ ?_; clear hK K))
  refine AW.loopF (ι := Nat) [1, 2, 15, 16] (fun p => [(17, I p)]) (fun p => []) 1 (fun p => p ≤ fs.length) (fun p => fs.length - p) 0 (Nat.zero_le _) (Weak.auto hcx rfl rfl (Nat.le_of_ble_eq_true rfl) (by simp [go_sem, gL, kL, renOf, V.obj, lk, Nat.blt, Nat.ble, List.map_append, dv_push]) (by simp [go_sem, gL, kL, renOf, V.obj, lk, Nat.blt, Nat.ble, List.map_append, dv_push]) (by first | (intro i hi; exact absurd hi (Nat.not_lt_zero _)) | (intro i0 hi0; match i0, hi0 with | 0, _ => exact ⟨_, rfl⟩ | n0+1, h0 => exact absurd h0 (Nat.not_lt.2 (Nat.le_add_left 1 n0))) | (intro i0 hi0; match i0, hi0 with | 0, _ => exact ⟨_, rfl⟩ | 1, _ => exact ⟨_, rfl⟩ | n0+2, h0 => exact absurd h0 (Nat.not_lt.2 (Nat.le_add_left 2 n0))) | (intro i0 hi0; match i0, hi0 with | 0, _ => exact ⟨_, rfl⟩ | 1, _ => exact ⟨_, rfl⟩ | 2, _ => exact ⟨_, rfl⟩ | n0+3, h0 => exact absurd h0 (Nat.not_lt.2 (Nat.le_add_left 3 n0))) | (intro i0 hi0; match i0, hi0 with | 0, _ => exact ⟨_, rfl⟩ | 1, _ => exact ⟨_, rfl⟩ | 2, _ => exact ⟨_, rfl⟩ | 3, _ => exact ⟨_, rfl⟩ | n0+4, h0 => exact absurd h0 (Nat.not_lt.2 (Nat.le_add_left 4 n0)))) (by simp [go_sem, gL, kL, lk, renOf, V.obj, Nat.blt, Nat.ble])) ?_; simp only [St.at_nil, St.at_cons, lk, Nat.reduceEqDiff, ↓reduceIte, Option.getD_some, Option.getD_none, List.cons_append, List.nil_append, List.append_nil]
  intro i h1
  by_cases hi : i < fs.length
  · obtain ⟨x, hx, hxm, hxd⟩ := get_some hi
    have hget : (fs.map fiD)[i]? = some (fiD x) := by simp [hx]
    have hs := sameFinal_self x (hc x hxm)
    repeat' (first | (refine AW.sreg rfl fun K hK => ?_; simp only [go_sem, Nat.reduceAdd, Nat.reduceMul, Int.reduceToNat, Nat.reduceLT, Nat.reduceLeDiff, Nat.le_refl, Nat.reduceEqDiff, ↓reduceIte, beq_self_eq_true, bne_self_eq_false, Int.reduceBEq, Int.reduceBNe, or_self, true_or, or_true, Option.map_some, Option.map_none, List.length_map, hget]) | (refine AW.reg rfl ?_; simp only [go_sem, Nat.reduceAdd, Nat.reduceMul, Int.reduceToNat, Nat.reduceLT, Nat.reduceLeDiff, Nat.le_refl, Nat.reduceEqDiff, ↓reduceIte, beq_self_eq_true, bne_self_eq_false, Int.reduceBEq, Int.reduceBNe, or_self, true_or, or_true, Option.map_some, Option.map_none, List.length_map, hget]) | (refine AW.seq_k fun K hK => ?_) | (refine AW.block ?_) | (refine AW.skip ?_; simp only [Then, InBlock]) | (refine AW.condT rfl (by first | rfl | (simp; omega) | (simp [*]; done) | fail) ?_) | (refine AW.condF rfl (by first | rfl | (simp; omega) | (simp [*]; done) | fail) ?_) | (refine hK _ ?_; clear hK K) | (refine run_call _ _ _ ((hs).pure rfl rfl _ _) rfl rfl (dstOk_of rfl) rfl rfl rfl ?_; simp only [go_sem, Nat.reduceAdd, Nat.reduceMul, Int.reduceToNat, Nat.reduceLT, Nat.reduceLeDiff, Nat.le_refl, Nat.reduceEqDiff, ↓reduceIte, beq_self_eq_true, bne_self_eq_false, Int.reduceBEq, Int.reduceBNe, or_self, true_or, or_true, Option.map_some, Option.map_none, List.length_map, hget]) | (with_reducible refine And.intro ?_ ?_; first | omega | assumption | (focus (decide)) | (focus (simp; done)) | (focus (simp; omega)) | (focus (constructor <;> omega)) | fail))
    all_goals first | exact ⟨_ + 1, hi, by omega, (Weak.auto hcx rfl rfl (Nat.le_of_ble_eq_true rfl) (by simp [go_sem, gL, kL, renOf, V.obj, lk, Nat.blt, Nat.ble, List.map_append, dv_push]) (by simp [go_sem, gL, kL, renOf, V.obj, lk, Nat.blt, Nat.ble, List.map_append, dv_push]) (by first | (intro i hi; exact absurd hi (Nat.not_lt_zero _)) | (intro i0 hi0; match i0, hi0 with | 0, _ => exact ⟨_, rfl⟩ | n0+1, h0 => exact absurd h0 (Nat.not_lt.2 (Nat.le_add_left 1 n0))) | (intro i0 hi0; match i0, hi0 with | 0, _ => exact ⟨_, rfl⟩ | 1, _ => exact ⟨_, rfl⟩ | n0+2, h0 => exact absurd h0 (Nat.not_lt.2 (Nat.le_add_left 2 n0))) | (intro i0 hi0; match i0, hi0 with | 0, _ => exact ⟨_, rfl⟩ | 1, _ => exact ⟨_, rfl⟩ | 2, _ => exact ⟨_, rfl⟩ | n0+3, h0 => exact absurd h0 (Nat.not_lt.2 (Nat.le_add_left 3 n0))) | (intro i0 hi0; match i0, hi0 with | 0, _ => exact ⟨_, rfl⟩ | 1, _ => exact ⟨_, rfl⟩ | 2, _ => exact ⟨_, rfl⟩ | 3, _ => exact ⟨_, rfl⟩ | n0+4, h0 => exact absurd h0 (Nat.not_lt.2 (Nat.le_add_left 4 n0)))) (by simp [go_sem, gL, kL, lk, renOf, V.obj, Nat.blt, Nat.ble]))⟩ | trace_state
  · obtain rfl : i = fs.length := by omega
    repeat' (first | (refine AW.sreg rfl fun K hK => ?_; simp only [go_sem, Nat.reduceAdd, Nat.reduceMul, Int.reduceToNat, Nat.reduceLT, Nat.reduceLeDiff, Nat.le_refl, Nat.reduceEqDiff, ↓reduceIte, beq_self_eq_true, bne_self_eq_false, Int.reduceBEq, Int.reduceBNe, or_self, true_or, or_true, Option.map_some, Option.map_none, List.length_map]) | (refine AW.seq_k fun K hK => ?_) | (refine AW.exit ?_; simp only [go_sem, ↓reduceIte]) | (refine AW.condF rfl (by first | rfl | (simp; omega) | (simp [*]; done) | fail) ?_) | (refine hK _ ?_; clear hK K) | (clear hK K; refine hK _ ?_; clear hK K) | (refine AW.ret (Fin.data rfl (by first | (simp only [go_sem]; done) | (simp [go_sem, *]; done) | (simp [go_sem]; omega) | rfl) rfl)))
end Go.AX

namespace Go.AX
open Go Go.Proofs Go.RowKit
abbrev erD (e : Er) : D := .agg [.str e.1, .int .i64 e.2.1, .str e.2.2.1, .str e.2.2.2.1, .str e.2.2.2.2]
def ErW (e : Er) : Prop := e.1.length ≤ 10 ∧ (-1099511627776 ≤ e.2.1 ∧ e.2.1 ≤ 1099511627776) ∧ e.2.2.1.length ≤ 10 ∧ e.2.2.2.1 ∈ WW ∧ e.2.2.2.2 ∈ WW
def erF (e : Er) : Int :=
  if keyB e.1 = false then 5 else if (decide (e.2.1 < 1) || decide (2 < e.2.1)) = true then 4 else if (e.2.1 == 1 && !(e.2.2.1 == [])) = true then 3 else if (e.2.1 == 2 && !keyB e.2.2.1) = true then 5
    else if (!lnOk e.2.2.2.1 || !lnOk e.2.2.2.2) = true then 3 else if (e.2.2.2.1 == e.2.2.2.2) = true then 14 else 0
theorem erratumFault_any (e : Er) (h : ErW e) : Does Tryz.prog 34 [.d (erD e)] [] (I (erF e)) [] := by
  obtain ⟨h1, h2, h3, h4, h5⟩ := h
  have k1 := isKey_any e.1 (by omega)
  have k2 := isKey_any e.2.2.1 (by omega)
  obtain ⟨o1, o2⟩ := lineW _ h4
  obtain ⟨n1, n2⟩ := lineW _ h5
  refine Does.of_AW (n := 47) Tryz.func34 rfl rfl rfl fun cx hcx => ?_
  unfold erF
  cases b1 : keyB e.1 <;> cases b2 : keyB e.2.2.1 <;> cases b3 : lnOk e.2.2.2.1 <;> cases b4 : lnOk e.2.2.2.2 <;> rw [b1] at k1 <;> rw [b2] at k2 <;> rw [b3] at o1 o2 <;> rw [b4] at n1 n2
  all_goals repeat' (first | (refine AW.sreg rfl fun K hK => ?_; simp only [go_sem, Nat.reduceAdd, Nat.reduceMul, Int.reduceToNat, Nat.reduceLT, Nat.reduceLeDiff, Nat.le_refl, Nat.reduceEqDiff, ↓reduceIte, beq_self_eq_true, bne_self_eq_false, Int.reduceBEq, Int.reduceBNe, or_self, true_or, or_true, Option.map_some, Option.map_none]) | (refine AW.reg rfl ?_; simp only [go_sem, Nat.reduceAdd, Nat.reduceMul, Int.reduceToNat, Nat.reduceLT, Nat.reduceLeDiff, Nat.le_refl, Nat.reduceEqDiff, ↓reduceIte, beq_self_eq_true, bne_self_eq_false, Int.reduceBEq, Int.reduceBNe, or_self, true_or, or_true, Option.map_some, Option.map_none]) | (refine AW.seq_k fun K hK => ?_) | (refine AW.block ?_) | (refine AW.skip ?_; simp only [Then, InBlock]) | (refine AW.condT rfl (by first | rfl | (simp; omega) | (simp [*]; done) | fail) ?_) | (refine AW.condF rfl (by first | rfl | (simp; omega) | (simp [*]; done) | fail) ?_) | (refine AW.cond rfl (fun h => ?_) (fun h => ?_) <;> (try simp only [decide_eq_true_eq, decide_eq_false_iff_not, Bool.not_eq_true', Bool.not_eq_false', Bool.not_eq_eq_eq_not, Bool.not_true, Bool.not_false, beq_iff_eq, bne_iff_ne, beq_eq_false_iff_ne, ne_eq, Bool.and_eq_true, Bool.or_eq_true, Bool.or_eq_false_iff] at h)) | (refine hK _ ?_; clear hK K) | (refine stepB_split (fun h => ?_) (fun h => ?_) <;> (have hb0 := h) <;> (try simp only [Bool.not_eq_true', Bool.not_eq_false'] at hb0) <;> (try simp only [decide_eq_true_eq, decide_eq_false_iff_not, Bool.not_eq_true', Bool.not_eq_false', Bool.not_eq_eq_eq_not, Bool.not_true, Bool.not_false, beq_iff_eq, bne_iff_ne, beq_eq_false_iff_ne, ne_eq, Bool.and_eq_true, Bool.or_eq_true, Bool.or_eq_false_iff] at h) <;> simp only [go_sem, Nat.reduceAdd, Nat.reduceMul, Int.reduceToNat, Nat.reduceLT, Nat.reduceLeDiff, Nat.le_refl, Nat.reduceEqDiff, ↓reduceIte, beq_self_eq_true, bne_self_eq_false, Int.reduceBEq, Int.reduceBNe, or_self, true_or, or_true, Option.map_some, Option.map_none, hb0, h, decide_true, decide_false] <;> (try clear hb0)) | (refine run_call _ _ _ ((k1).pure rfl rfl _ _) rfl rfl (dstOk_of rfl) rfl rfl rfl ?_; simp only [go_sem, Nat.reduceAdd, Nat.reduceMul, Int.reduceToNat, Nat.reduceLT, Nat.reduceLeDiff, Nat.le_refl, Nat.reduceEqDiff, ↓reduceIte, beq_self_eq_true, bne_self_eq_false, Int.reduceBEq, Int.reduceBNe, or_self, true_or, or_true, Option.map_some, Option.map_none]) | (refine run_call _ _ _ ((k2).pure rfl rfl _ _) rfl rfl (dstOk_of rfl) rfl rfl rfl ?_; simp only [go_sem, Nat.reduceAdd, Nat.reduceMul, Int.reduceToNat, Nat.reduceLT, Nat.reduceLeDiff, Nat.le_refl, Nat.reduceEqDiff, ↓reduceIte, beq_self_eq_true, bne_self_eq_false, Int.reduceBEq, Int.reduceBNe, or_self, true_or, or_true, Option.map_some, Option.map_none]) | (refine run_call _ _ _ ((outside_any _ _ _).pure rfl rfl _ _) rfl rfl (dstOk_of rfl) rfl rfl rfl ?_; simp only [go_sem, Nat.reduceAdd, Nat.reduceMul, Int.reduceToNat, Nat.reduceLT, Nat.reduceLeDiff, Nat.le_refl, Nat.reduceEqDiff, ↓reduceIte, beq_self_eq_true, bne_self_eq_false, Int.reduceBEq, Int.reduceBNe, or_self, true_or, or_true, Option.map_some, Option.map_none]) | (refine run_call _ _ _ ((o1).pure rfl rfl _ _) rfl rfl (dstOk_of rfl) rfl rfl rfl ?_; simp only [go_sem, Nat.reduceAdd, Nat.reduceMul, Int.reduceToNat, Nat.reduceLT, Nat.reduceLeDiff, Nat.le_refl, Nat.reduceEqDiff, ↓reduceIte, beq_self_eq_true, bne_self_eq_false, Int.reduceBEq, Int.reduceBNe, or_self, true_or, or_true, Option.map_some, Option.map_none]) | (refine run_call _ _ _ ((o2).pure rfl rfl _ _) rfl rfl (dstOk_of rfl) rfl rfl rfl ?_; simp only [go_sem, Nat.reduceAdd, Nat.reduceMul, Int.reduceToNat, Nat.reduceLT, Nat.reduceLeDiff, Nat.le_refl, Nat.reduceEqDiff, ↓reduceIte, beq_self_eq_true, bne_self_eq_false, Int.reduceBEq, Int.reduceBNe, or_self, true_or, or_true, Option.map_some, Option.map_none]) | (refine run_call _ _ _ ((n1).pure rfl rfl _ _) rfl rfl (dstOk_of rfl) rfl rfl rfl ?_; simp only [go_sem, Nat.reduceAdd, Nat.reduceMul, Int.reduceToNat, Nat.reduceLT, Nat.reduceLeDiff, Nat.le_refl, Nat.reduceEqDiff, ↓reduceIte, beq_self_eq_true, bne_self_eq_false, Int.reduceBEq, Int.reduceBNe, or_self, true_or, or_true, Option.map_some, Option.map_none]) | (refine run_call _ _ _ ((n2).pure rfl rfl _ _) rfl rfl (dstOk_of rfl) rfl rfl rfl ?_; simp only [go_sem, Nat.reduceAdd, Nat.reduceMul, Int.reduceToNat, Nat.reduceLT, Nat.reduceLeDiff, Nat.le_refl, Nat.reduceEqDiff, ↓reduceIte, beq_self_eq_true, bne_self_eq_false, Int.reduceBEq, Int.reduceBNe, or_self, true_or, or_true, Option.map_some, Option.map_none]))
  all_goals first
    | (refine AW.ret (Fin.data rfl ?_ rfl); have hq : e.2.1 = 2 := by omega
       simp [go_sem, b1, b2, b3, b4, hq, *]; done)
    | (refine AW.ret (Fin.data rfl ?_ rfl); have hq : e.2.1 = 1 := by omega
       simp [go_sem, b1, b2, b3, b4, hq, *]; done)
    | (refine AW.ret (Fin.data rfl ?_ rfl); simp_all [go_sem]; done)
    | (refine AW.ret (Fin.data rfl ?_ rfl); simp_all [go_sem]; omega)
    | trace_state
def ersF : List Er → Int
  | [] => 0
  | e :: r => if erF e ≠ 0 then erF e else ersF r
theorem ersF_zero : ∀ xs : List Er, ersF xs = 0 ↔ ∀ e ∈ xs, erF e = 0
  | [] => by simp [ersF]
  | r :: t => by
    have ih := ersF_zero t
    simp only [ersF, List.mem_cons, forall_eq_or_imp]
    by_cases h : erF r = 0
    · simp [h, ih]
    · simp [h]
theorem checkErrata_any (xs : List Er) (hl : xs.length ≤ 100) (hb : ∀ e ∈ xs, ErW e) : Does Tryz.prog 21 [.d (.sl (xs.map erD))] [] (I (ersF xs)) [] := by
  refine Does.of_AW (n := 21) Tryz.func21 rfl rfl rfl fun cx hcx => ?_
  generalize hR : ersF xs = R
  repeat' (first | (refine AW.sreg rfl fun K hK => ?_; simp only [go_sem, Nat.reduceAdd, Nat.reduceMul, Int.reduceToNat, Nat.reduceLT, Nat.reduceLeDiff, Nat.le_refl, Nat.reduceEqDiff, ↓reduceIte, beq_self_eq_true, bne_self_eq_false, Int.reduceBEq, Int.reduceBNe, or_self, true_or, or_true, Option.map_some, Option.map_none, List.length_map]) | (refine AW.seq_k fun K hK => ?_) | (refine AW.block ?_) | (refine AW.skip ?_; simp only [Then, InBlock]) | (refine AW.condF rfl (by first | rfl | (simp; omega) | (simp [*]; done) | fail) ?_) | (refine hK _ ?_; clear hK K))
  refine AW.loopF (ι := Nat) [9, 10] (fun p => [(11, I p)]) (fun p => []) 1 (fun p => p ≤ xs.length ∧ ersF (xs.drop p) = R) (fun p => xs.length - p) 0 ⟨by simp, hR⟩ (Weak.auto hcx rfl rfl (Nat.le_of_ble_eq_true rfl) (by simp [go_sem, gL, kL, renOf, V.obj, lk, Nat.blt, Nat.ble, List.map_append, dv_push]) (by simp [go_sem, gL, kL, renOf, V.obj, lk, Nat.blt, Nat.ble, List.map_append, dv_push]) (by first | (intro i hi; exact absurd hi (Nat.not_lt_zero _)) | (intro i0 hi0; match i0, hi0 with | 0, _ => exact ⟨_, rfl⟩ | n0+1, h0 => exact absurd h0 (Nat.not_lt.2 (Nat.le_add_left 1 n0))) | (intro i0 hi0; match i0, hi0 with | 0, _ => exact ⟨_, rfl⟩ | 1, _ => exact ⟨_, rfl⟩ | n0+2, h0 => exact absurd h0 (Nat.not_lt.2 (Nat.le_add_left 2 n0))) | (intro i0 hi0; match i0, hi0 with | 0, _ => exact ⟨_, rfl⟩ | 1, _ => exact ⟨_, rfl⟩ | 2, _ => exact ⟨_, rfl⟩ | n0+3, h0 => exact absurd h0 (Nat.not_lt.2 (Nat.le_add_left 3 n0))) | (intro i0 hi0; match i0, hi0 with | 0, _ => exact ⟨_, rfl⟩ | 1, _ => exact ⟨_, rfl⟩ | 2, _ => exact ⟨_, rfl⟩ | 3, _ => exact ⟨_, rfl⟩ | n0+4, h0 => exact absurd h0 (Nat.not_lt.2 (Nat.le_add_left 4 n0)))) (by simp [go_sem, gL, kL, lk, renOf, V.obj, Nat.blt, Nat.ble])) ?_; simp only [St.at_nil, St.at_cons, lk, Nat.reduceEqDiff, ↓reduceIte, Option.getD_some, Option.getD_none, List.cons_append, List.nil_append, List.append_nil]
  rintro i ⟨h1, h2⟩
  by_cases hi : i < xs.length
  · obtain ⟨x, hx, hxm, hxd⟩ := get_some hi
    have hget : (xs.map erD)[i]? = some (erD x) := by simp [hx]
    have he := erratumFault_any x (hb x hxm)
    rw [hxd, ersF] at h2
    by_cases h0 : erF x = 0
    · rw [h0] at he
      rw [if_neg (by simp [h0])] at h2
      repeat' (first | (refine AW.sreg rfl fun K hK => ?_; simp only [go_sem, Nat.reduceAdd, Nat.reduceMul, Int.reduceToNat, Nat.reduceLT, Nat.reduceLeDiff, Nat.le_refl, Nat.reduceEqDiff, ↓reduceIte, beq_self_eq_true, bne_self_eq_false, Int.reduceBEq, Int.reduceBNe, or_self, true_or, or_true, Option.map_some, Option.map_none, List.length_map, hget]) | (refine AW.reg rfl ?_; simp only [go_sem, Nat.reduceAdd, Nat.reduceMul, Int.reduceToNat, Nat.reduceLT, Nat.reduceLeDiff, Nat.le_refl, Nat.reduceEqDiff, ↓reduceIte, beq_self_eq_true, bne_self_eq_false, Int.reduceBEq, Int.reduceBNe, or_self, true_or, or_true, Option.map_some, Option.map_none, List.length_map, hget]) | (refine AW.seq_k fun K hK => ?_) | (refine AW.block ?_) | (refine AW.skip ?_; simp only [Then, InBlock]) | (refine AW.condT rfl (by first | rfl | (simp; omega) | (simp [*]; done) | fail) ?_) | (refine AW.condF rfl (by first | rfl | (simp; omega) | (simp [*]; done) | fail) ?_) | (refine hK _ ?_; clear hK K) | (refine run_call _ _ _ ((he).pure rfl rfl _ _) rfl rfl (dstOk_of rfl) rfl rfl rfl ?_; simp only [go_sem, Nat.reduceAdd, Nat.reduceMul, Int.reduceToNat, Nat.reduceLT, Nat.reduceLeDiff, Nat.le_refl, Nat.reduceEqDiff, ↓reduceIte, beq_self_eq_true, bne_self_eq_false, Int.reduceBEq, Int.reduceBNe, or_self, true_or, or_true, Option.map_some, Option.map_none, List.length_map, hget]) | (with_reducible refine And.intro ?_ ?_; first | omega | assumption | (focus (decide)) | (focus (simp; done)) | (focus (simp; omega)) | (focus (constructor <;> omega)) | fail))
      exact ⟨i + 1, ⟨hi, h2⟩, by omega, (Weak.auto hcx rfl rfl (Nat.le_of_ble_eq_true rfl) (by simp [go_sem, gL, kL, renOf, V.obj, lk, Nat.blt, Nat.ble, List.map_append, dv_push]) (by simp [go_sem, gL, kL, renOf, V.obj, lk, Nat.blt, Nat.ble, List.map_append, dv_push]) (by first | (intro i hi; exact absurd hi (Nat.not_lt_zero _)) | (intro i0 hi0; match i0, hi0 with | 0, _ => exact ⟨_, rfl⟩ | n0+1, h0 => exact absurd h0 (Nat.not_lt.2 (Nat.le_add_left 1 n0))) | (intro i0 hi0; match i0, hi0 with | 0, _ => exact ⟨_, rfl⟩ | 1, _ => exact ⟨_, rfl⟩ | n0+2, h0 => exact absurd h0 (Nat.not_lt.2 (Nat.le_add_left 2 n0))) | (intro i0 hi0; match i0, hi0 with | 0, _ => exact ⟨_, rfl⟩ | 1, _ => exact ⟨_, rfl⟩ | 2, _ => exact ⟨_, rfl⟩ | n0+3, h0 => exact absurd h0 (Nat.not_lt.2 (Nat.le_add_left 3 n0))) | (intro i0 hi0; match i0, hi0 with | 0, _ => exact ⟨_, rfl⟩ | 1, _ => exact ⟨_, rfl⟩ | 2, _ => exact ⟨_, rfl⟩ | 3, _ => exact ⟨_, rfl⟩ | n0+4, h0 => exact absurd h0 (Nat.not_lt.2 (Nat.le_add_left 4 n0)))) (by simp [go_sem, gL, kL, lk, renOf, V.obj, Nat.blt, Nat.ble]))⟩
    · rw [if_pos h0] at h2
      have hne : (erF x != 0) = true := by simpa using h0
      subst h2
      repeat' (first | (refine AW.sreg rfl fun K hK => ?_; simp only [go_sem, Nat.reduceAdd, Nat.reduceMul, Int.reduceToNat, Nat.reduceLT, Nat.reduceLeDiff, Nat.le_refl, Nat.reduceEqDiff, ↓reduceIte, beq_self_eq_true, bne_self_eq_false, Int.reduceBEq, Int.reduceBNe, or_self, true_or, or_true, Option.map_some, Option.map_none, List.length_map, hget, hne]) | (refine AW.seq_k fun K hK => ?_) | (refine AW.block ?_) | (refine AW.skip ?_; simp only [Then, InBlock]) | (refine AW.condT rfl (by first | rfl | (simp; omega) | (simp [*]; done) | fail) ?_) | (refine hK _ ?_; clear hK K) | (refine run_call _ _ _ ((he).pure rfl rfl _ _) rfl rfl (dstOk_of rfl) rfl rfl rfl ?_; simp only [go_sem, Nat.reduceAdd, Nat.reduceMul, Int.reduceToNat, Nat.reduceLT, Nat.reduceLeDiff, Nat.le_refl, Nat.reduceEqDiff, ↓reduceIte, beq_self_eq_true, bne_self_eq_false, Int.reduceBEq, Int.reduceBNe, or_self, true_or, or_true, Option.map_some, Option.map_none, List.length_map, hget, hne]) | (with_reducible refine And.intro ?_ ?_; first | omega | assumption | (focus (decide)) | (focus (simp; done)) | (focus (simp; omega)) | (focus (constructor <;> omega)) | fail) | (refine AW.ret (Fin.data rfl (by first | (simp only [go_sem]; done) | (simp [go_sem, *]; done) | (simp [go_sem]; omega) | rfl) rfl)))
  · obtain rfl : i = xs.length := by omega
    simp only [List.drop_length, ersF] at h2
    subst h2
    repeat' (first | (refine AW.sreg rfl fun K hK => ?_; simp only [go_sem, Nat.reduceAdd, Nat.reduceMul, Int.reduceToNat, Nat.reduceLT, Nat.reduceLeDiff, Nat.le_refl, Nat.reduceEqDiff, ↓reduceIte, beq_self_eq_true, bne_self_eq_false, Int.reduceBEq, Int.reduceBNe, or_self, true_or, or_true, Option.map_some, Option.map_none, List.length_map]) | (refine AW.seq_k fun K hK => ?_) | (refine AW.exit ?_; simp only [go_sem, ↓reduceIte]) | (refine AW.condF rfl (by first | rfl | (simp; omega) | (simp [*]; done) | fail) ?_) | (refine hK _ ?_; clear hK K) | (clear hK K; refine hK _ ?_; clear hK K) | (refine AW.ret (Fin.data rfl (by first | (simp only [go_sem]; done) | (simp [go_sem, *]; done) | (simp [go_sem]; omega) | rfl) rfl)))
theorem erF_ok {e : Er} (h : erF e = 0) : ErOk e ∧ keyB e.1 = true ∧ lnOk e.2.2.2.2 = true := by
  unfold erF at h
  split at h
  · omega
  rename_i a1
  split at h
  · omega
  rename_i a2
  split at h
  · omega
  rename_i a3
  split at h
  · omega
  rename_i a4
  split at h
  · omega
  rename_i a5
  split at h
  · omega
  rename_i a6
  simp only [Bool.or_eq_true, decide_eq_true_eq, Bool.and_eq_true, beq_iff_eq, Bool.not_eq_true', not_or, not_and] at *
  refine ⟨⟨fun h1 => ?_, fun h1 => by omega, fun h1 => a6 h1⟩, by simpa using a1, by simpa using a5.2⟩
  have := a3 h1
  simpa using this
end Go.AX

namespace Go.AX
open Go Go.Proofs Go.RowKit
theorem wrap_small' (n : Nat) (h : n ≤ 1000000) : IntKind.u64.wrap (n : Int) = n := by
  have e : IntKind.u64.wrap (n : Int) = (n : Int) % 18446744073709551616 := by simp [IntKind.wrap, IntKind.signed, IntKind.bits]
  omega
theorem final1_any (f : Fi) (p : Str) : Does Tryz.prog 44 [.d (fiD f), S p] [] (I (Lib.compareBytes f.1 p)) [] := by
  refine Does.of_AW (n := 9) Tryz.func44 rfl rfl rfl fun cx hcx => ?_
  repeat' (first | (refine AW.sreg rfl fun K hK => ?_; simp only [go_sem, Nat.reduceAdd, Nat.reduceMul, Int.reduceToNat, Nat.reduceLT, Nat.reduceLeDiff, Nat.le_refl, Nat.reduceEqDiff, ↓reduceIte, beq_self_eq_true, bne_self_eq_false, Int.reduceBEq, Int.reduceBNe, or_self, true_or, or_true, Option.map_some, Option.map_none]) | (refine hK _ ?_; clear hK K) | (refine run_call _ _ _ ((compareStr_any _ _).pure rfl rfl _ _) rfl rfl (dstOk_of rfl) rfl rfl rfl ?_; simp only [go_sem, Nat.reduceAdd, Nat.reduceMul, Int.reduceToNat, Nat.reduceLT, Nat.reduceLeDiff, Nat.le_refl, Nat.reduceEqDiff, ↓reduceIte, beq_self_eq_true, bne_self_eq_false, Int.reduceBEq, Int.reduceBNe, or_self, true_or, or_true, Option.map_some, Option.map_none]) | (refine AW.ret (Fin.data rfl (by first | (simp only [go_sem]; done) | (simp [go_sem, *]; done) | (simp [go_sem]; omega) | rfl) rfl)))
def RisF (gs : List Fi) : Prop := gs.Pairwise fun a b => ltS a.1 b.1 = true
theorem risF_of {gs : List Fi} (h : (gs.map (·.1)).Sublist P4) : RisF gs := by
  have hp : P4.Pairwise fun a b => ltS a b = true := by decide
  have := hp.sublist h
  exact List.pairwise_map.1 this
theorem bsearchF (gs : List Fi) (hl : gs.length ≤ 1000) (hr : RisF gs) (p : Str) :
    ∃ m : Nat, (∀ (i : Nat) (f : Fi), gs[i]? = some f → f.1 = p → i = m) ∧ Does Tryz.prog 43 [.d (.sl (gs.map fiD)), S p, .fn 44 []] [] (.tup [I m, B (decide (p ∈ gs.map (·.1)))]) [] := by
  obtain ⟨m, hm, hm1, hm2⟩ : ∃ m, m ≤ gs.length ∧ (∀ k y, gs[k]? = some y → k < m → ltS y.1 p = true) ∧ (∀ k y, gs[k]? = some y → m ≤ k → ltS y.1 p = false) := by
    have : ∀ (l : List Fi), RisF l → ∃ m, m ≤ l.length ∧ (∀ k y, l[k]? = some y → k < m → ltS y.1 p = true) ∧ (∀ k y, l[k]? = some y → m ≤ k → ltS y.1 p = false) := by
      intro l
      induction l with
      | nil => exact fun _ => ⟨0, by simp, by simp, by simp⟩
      | cons x l ih =>
        intro hl
        have hl := List.pairwise_cons.1 hl
        cases hx : ltS x.1 p with
        | false =>
          refine ⟨0, by simp, by simp, ?_⟩
          rintro (_ | k) y hy -
          · simp at hy; subst hy; exact hx
          · have hy : l[k]? = some y := by simpa using hy
            cases hyp : ltS y.1 p with
            | false => rfl
            | true => have := ltS_trans (hl.1 y (List.mem_of_getElem? hy)) hyp; rw [hx] at this; cases this
        | true =>
          obtain ⟨m, h1, h2, h3⟩ := ih hl.2
          refine ⟨m + 1, by simp; omega, ?_, ?_⟩
          · rintro (_ | k) y hy hk
            · simp at hy; subst hy; exact hx
            · exact h2 k y (by simpa using hy) (by omega)
          · rintro (_ | k) y hy hk
            · omega
            · exact h3 k y (by simpa using hy) (by omega)
    exact this gs hr
  have hone : ∀ (i : Nat) (f : Fi), gs[i]? = some f → f.1 = p → i = m := by
    intro i f hf he
    subst he
    rcases Nat.lt_or_ge i m with h | h
    · have := hm1 i f hf h
      rw [ltS_irrefl] at this; cases this
    · rcases Nat.lt_or_eq_of_le h with h | h
      · have hil : i < gs.length := by
          rcases Nat.lt_or_ge i gs.length with h' | h'
          · exact h'
          · simp [List.getElem?_eq_none h'] at hf
        obtain ⟨y, hy, -, -⟩ := get_some (l := gs) (i := m) (by omega)
        have h1 := pairwise_at hr hy hf h
        rw [hm2 m y hy (Nat.le_refl _)] at h1; cases h1
      · exact h.symm
  have hmem : decide (p ∈ gs.map (·.1)) = (match gs[m]? with | some y => Lib.compareBytes y.1 p == 0 | none => false) := by
    cases hy : gs[m]? with
    | none =>
      simp only [decide_eq_false_iff_not]
      intro hp
      obtain ⟨f, hf, he⟩ := List.mem_map.1 hp
      obtain ⟨k, hk⟩ := List.mem_iff_getElem?.1 hf
      have := hone k f hk he
      subst this
      rw [hy] at hk; cases hk
    | some y =>
      simp only
      by_cases e : y.1 = p
      · rw [(cmpB_eq y.1 p).2 e]
        exact (decide_eq_true (List.mem_map.2 ⟨y, List.mem_of_getElem? hy, e⟩)).trans rfl
      · have h0 : ¬ Lib.compareBytes y.1 p = 0 := fun h => e ((cmpB_eq y.1 p).1 h)
        have : ¬ p ∈ gs.map (·.1) := by
          intro hp
          obtain ⟨f, hf, he⟩ := List.mem_map.1 hp
          obtain ⟨k, hk⟩ := List.mem_iff_getElem?.1 hf
          have := hone k f hk he
          subst this
          rw [hy] at hk
          cases hk
          exact e he
        simp only [this, decide_false]
        simp [h0]
  refine ⟨m, hone, ?_⟩
  rw [hmem]
  refine Does.of_AW (n := 49) Tryz.func43 rfl rfl rfl fun cx hcx => ?_
  repeat' (first | (refine AW.sreg rfl fun K hK => ?_; simp only [go_sem, Nat.reduceAdd, Nat.reduceMul, Int.reduceToNat, Nat.reduceLT, Nat.reduceLeDiff, Nat.le_refl, Nat.reduceEqDiff, ↓reduceIte, beq_self_eq_true, bne_self_eq_false, Int.reduceBEq, Int.reduceBNe, or_self, true_or, or_true, Option.map_some, Option.map_none, List.length_map]) | (refine AW.seq_k fun K hK => ?_) | (refine AW.block ?_) | (refine hK _ ?_; clear hK K))
  refine AW.loopF (ι := Nat × Nat) [0, 1, 2, 8] (fun p => [(9, I p.1), (10, I p.2)]) (fun p => []) 1 (fun p => p.1 ≤ m ∧ m ≤ p.2 ∧ p.2 ≤ gs.length) (fun p => p.2 - p.1) (0, gs.length) ⟨by simp, hm, by simp⟩ (Weak.auto hcx rfl rfl (Nat.le_of_ble_eq_true rfl) (by simp [go_sem, gL, kL, renOf, V.obj, lk, Nat.blt, Nat.ble, List.map_append, dv_push]) (by simp [go_sem, gL, kL, renOf, V.obj, lk, Nat.blt, Nat.ble, List.map_append, dv_push]) (by first | (intro i hi; exact absurd hi (Nat.not_lt_zero _)) | (intro i0 hi0; match i0, hi0 with | 0, _ => exact ⟨_, rfl⟩ | n0+1, h0 => exact absurd h0 (Nat.not_lt.2 (Nat.le_add_left 1 n0))) | (intro i0 hi0; match i0, hi0 with | 0, _ => exact ⟨_, rfl⟩ | 1, _ => exact ⟨_, rfl⟩ | n0+2, h0 => exact absurd h0 (Nat.not_lt.2 (Nat.le_add_left 2 n0))) | (intro i0 hi0; match i0, hi0 with | 0, _ => exact ⟨_, rfl⟩ | 1, _ => exact ⟨_, rfl⟩ | 2, _ => exact ⟨_, rfl⟩ | n0+3, h0 => exact absurd h0 (Nat.not_lt.2 (Nat.le_add_left 3 n0))) | (intro i0 hi0; match i0, hi0 with | 0, _ => exact ⟨_, rfl⟩ | 1, _ => exact ⟨_, rfl⟩ | 2, _ => exact ⟨_, rfl⟩ | 3, _ => exact ⟨_, rfl⟩ | n0+4, h0 => exact absurd h0 (Nat.not_lt.2 (Nat.le_add_left 4 n0)))) (by simp [go_sem, gL, kL, lk, renOf, V.obj, Nat.blt, Nat.ble])) ?_; simp only [St.at_nil, St.at_cons, lk, Nat.reduceEqDiff, ↓reduceIte, Option.getD_some, Option.getD_none, List.cons_append, List.nil_append, List.append_nil]
  rintro ⟨i, j⟩ ⟨h1, h2, h3⟩
  simp only at h1 h2 h3 ⊢
  by_cases hij : i < j
  · have hh : (IntKind.u64.wrap ((i : Int) + (j : Int))).fdiv (2 ^ min 1 64) = ((i + j) / 2 : Nat) := by
      rw [show ((i : Int) + (j : Int)) = ((i + j : Nat) : Int) by omega, wrap_small' (i + j) (by omega), show (2 : Int) ^ min 1 64 = 2 from rfl, Int.fdiv_eq_ediv_of_nonneg _ (by omega)]
      omega
    have hlt : (i + j) / 2 < gs.length := by omega
    generalize hgh : (i + j) / 2 = h at hh hlt
    obtain ⟨y, hy, -, -⟩ := get_some hlt
    have hget : (gs.map fiD)[h]? = some (fiD y) := by simp [hy]
    have hc : decide (Lib.compareBytes y.1 p < 0) = ltS y.1 p := cmpB_lt y.1 p
    cases hb : ltS y.1 p with
    | true =>
      rw [hb] at hc
      have : h < m := by
        rcases Nat.lt_or_ge h m with h' | h'
        · exact h'
        · rw [hm2 h y hy h'] at hb; cases hb
      repeat' (first | (refine AW.sreg rfl fun K hK => ?_; simp only [go_sem, Nat.reduceAdd, Nat.reduceMul, Int.reduceToNat, Nat.reduceLT, Nat.reduceLeDiff, Nat.le_refl, Nat.reduceEqDiff, ↓reduceIte, beq_self_eq_true, bne_self_eq_false, Int.reduceBEq, Int.reduceBNe, or_self, true_or, or_true, Option.map_some, Option.map_none, List.length_map, hh, hget, hc]) | (refine AW.reg rfl ?_; simp only [go_sem, Nat.reduceAdd, Nat.reduceMul, Int.reduceToNat, Nat.reduceLT, Nat.reduceLeDiff, Nat.le_refl, Nat.reduceEqDiff, ↓reduceIte, beq_self_eq_true, bne_self_eq_false, Int.reduceBEq, Int.reduceBNe, or_self, true_or, or_true, Option.map_some, Option.map_none, List.length_map, hh, hget, hc]) | (refine AW.seq_k fun K hK => ?_) | (refine AW.block ?_) | (refine AW.skip ?_; simp only [Then, InBlock]) | (refine AW.condT rfl (by first | rfl | (simp; omega) | (simp [*]; done) | fail) ?_) | (refine hK _ ?_; clear hK K) | (refine run_call _ _ _ ((final1_any y p).pure rfl rfl _ _) rfl rfl (dstOk_of rfl) rfl rfl rfl ?_; simp only [go_sem, Nat.reduceAdd, Nat.reduceMul, Int.reduceToNat, Nat.reduceLT, Nat.reduceLeDiff, Nat.le_refl, Nat.reduceEqDiff, ↓reduceIte, beq_self_eq_true, bne_self_eq_false, Int.reduceBEq, Int.reduceBNe, or_self, true_or, or_true, Option.map_some, Option.map_none, List.length_map, hh, hget, hc]) | (with_reducible refine And.intro ?_ ?_; first | omega | assumption | (focus (decide)) | (focus (simp; done)) | (focus (simp; omega)) | (focus (constructor <;> omega)) | fail))
      exact ⟨(h + 1, j), ⟨by simp only; omega, h2, h3⟩, by simp only; omega, (Weak.auto hcx rfl rfl (Nat.le_of_ble_eq_true rfl) (by simp [go_sem, gL, kL, renOf, V.obj, lk, Nat.blt, Nat.ble, List.map_append, dv_push]) (by simp [go_sem, gL, kL, renOf, V.obj, lk, Nat.blt, Nat.ble, List.map_append, dv_push]) (by first | (intro i hi; exact absurd hi (Nat.not_lt_zero _)) | (intro i0 hi0; match i0, hi0 with | 0, _ => exact ⟨_, rfl⟩ | n0+1, h0 => exact absurd h0 (Nat.not_lt.2 (Nat.le_add_left 1 n0))) | (intro i0 hi0; match i0, hi0 with | 0, _ => exact ⟨_, rfl⟩ | 1, _ => exact ⟨_, rfl⟩ | n0+2, h0 => exact absurd h0 (Nat.not_lt.2 (Nat.le_add_left 2 n0))) | (intro i0 hi0; match i0, hi0 with | 0, _ => exact ⟨_, rfl⟩ | 1, _ => exact ⟨_, rfl⟩ | 2, _ => exact ⟨_, rfl⟩ | n0+3, h0 => exact absurd h0 (Nat.not_lt.2 (Nat.le_add_left 3 n0))) | (intro i0 hi0; match i0, hi0 with | 0, _ => exact ⟨_, rfl⟩ | 1, _ => exact ⟨_, rfl⟩ | 2, _ => exact ⟨_, rfl⟩ | 3, _ => exact ⟨_, rfl⟩ | n0+4, h0 => exact absurd h0 (Nat.not_lt.2 (Nat.le_add_left 4 n0)))) (by simp [go_sem, gL, kL, lk, renOf, V.obj, Nat.blt, Nat.ble]))⟩
    | false =>
      rw [hb] at hc
      have : m ≤ h := by
        rcases Nat.lt_or_ge h m with h' | h'
        · rw [hm1 h y hy h'] at hb; cases hb
        · exact h'
      repeat' (first | (refine AW.sreg rfl fun K hK => ?_; simp only [go_sem, Nat.reduceAdd, Nat.reduceMul, Int.reduceToNat, Nat.reduceLT, Nat.reduceLeDiff, Nat.le_refl, Nat.reduceEqDiff, ↓reduceIte, beq_self_eq_true, bne_self_eq_false, Int.reduceBEq, Int.reduceBNe, or_self, true_or, or_true, Option.map_some, Option.map_none, List.length_map, hh, hget, hc]) | (refine AW.reg rfl ?_; simp only [go_sem, Nat.reduceAdd, Nat.reduceMul, Int.reduceToNat, Nat.reduceLT, Nat.reduceLeDiff, Nat.le_refl, Nat.reduceEqDiff, ↓reduceIte, beq_self_eq_true, bne_self_eq_false, Int.reduceBEq, Int.reduceBNe, or_self, true_or, or_true, Option.map_some, Option.map_none, List.length_map, hh, hget, hc]) | (refine AW.seq_k fun K hK => ?_) | (refine AW.block ?_) | (refine AW.skip ?_; simp only [Then, InBlock]) | (refine AW.condT rfl (by first | rfl | (simp; omega) | (simp [*]; done) | fail) ?_) | (refine AW.condF rfl (by first | rfl | (simp; omega) | (simp [*]; done) | fail) ?_) | (refine hK _ ?_; clear hK K) | (refine run_call _ _ _ ((final1_any y p).pure rfl rfl _ _) rfl rfl (dstOk_of rfl) rfl rfl rfl ?_; simp only [go_sem, Nat.reduceAdd, Nat.reduceMul, Int.reduceToNat, Nat.reduceLT, Nat.reduceLeDiff, Nat.le_refl, Nat.reduceEqDiff, ↓reduceIte, beq_self_eq_true, bne_self_eq_false, Int.reduceBEq, Int.reduceBNe, or_self, true_or, or_true, Option.map_some, Option.map_none, List.length_map, hh, hget, hc]) | (with_reducible refine And.intro ?_ ?_; first | omega | assumption | (focus (decide)) | (focus (simp; done)) | (focus (simp; omega)) | (focus (constructor <;> omega)) | fail))
      exact ⟨(i, h), ⟨h1, this, by simp only; omega⟩, by simp only; omega, (Weak.auto hcx rfl rfl (Nat.le_of_ble_eq_true rfl) (by simp [go_sem, gL, kL, renOf, V.obj, lk, Nat.blt, Nat.ble, List.map_append, dv_push]) (by simp [go_sem, gL, kL, renOf, V.obj, lk, Nat.blt, Nat.ble, List.map_append, dv_push]) (by first | (intro i hi; exact absurd hi (Nat.not_lt_zero _)) | (intro i0 hi0; match i0, hi0 with | 0, _ => exact ⟨_, rfl⟩ | n0+1, h0 => exact absurd h0 (Nat.not_lt.2 (Nat.le_add_left 1 n0))) | (intro i0 hi0; match i0, hi0 with | 0, _ => exact ⟨_, rfl⟩ | 1, _ => exact ⟨_, rfl⟩ | n0+2, h0 => exact absurd h0 (Nat.not_lt.2 (Nat.le_add_left 2 n0))) | (intro i0 hi0; match i0, hi0 with | 0, _ => exact ⟨_, rfl⟩ | 1, _ => exact ⟨_, rfl⟩ | 2, _ => exact ⟨_, rfl⟩ | n0+3, h0 => exact absurd h0 (Nat.not_lt.2 (Nat.le_add_left 3 n0))) | (intro i0 hi0; match i0, hi0 with | 0, _ => exact ⟨_, rfl⟩ | 1, _ => exact ⟨_, rfl⟩ | 2, _ => exact ⟨_, rfl⟩ | 3, _ => exact ⟨_, rfl⟩ | n0+4, h0 => exact absurd h0 (Nat.not_lt.2 (Nat.le_add_left 4 n0)))) (by simp [go_sem, gL, kL, lk, renOf, V.obj, Nat.blt, Nat.ble]))⟩
  · obtain rfl : i = j := by omega
    obtain rfl : i = m := by omega
    cases hy : gs[i]? with
    | none =>
      have : gs.length ≤ i := List.getElem?_eq_none_iff.1 hy
      repeat' (first | (refine AW.sreg rfl fun K hK => ?_; simp only [go_sem, Nat.reduceAdd, Nat.reduceMul, Int.reduceToNat, Nat.reduceLT, Nat.reduceLeDiff, Nat.le_refl, Nat.reduceEqDiff, ↓reduceIte, beq_self_eq_true, bne_self_eq_false, Int.reduceBEq, Int.reduceBNe, or_self, true_or, or_true, Option.map_some, Option.map_none, List.length_map]) | (refine AW.seq_k fun K hK => ?_) | (refine AW.exit ?_; simp only [go_sem, ↓reduceIte]) | (refine AW.condF rfl (by first | rfl | (simp; omega) | (simp [*]; done) | fail) ?_) | (refine hK _ ?_; clear hK K) | (clear hK K; refine hK _ ?_; clear hK K) | (refine stepB_split (fun h => ?_) (fun h => ?_) <;> (have hb0 := h) <;> (try simp only [Bool.not_eq_true', Bool.not_eq_false'] at hb0) <;> (try simp only [decide_eq_true_eq, decide_eq_false_iff_not, Bool.not_eq_true', Bool.not_eq_false', Bool.not_eq_eq_eq_not, Bool.not_true, Bool.not_false, beq_iff_eq, bne_iff_ne, beq_eq_false_iff_ne, ne_eq, Bool.and_eq_true, Bool.or_eq_true, Bool.or_eq_false_iff] at h) <;> simp only [go_sem, Nat.reduceAdd, Nat.reduceMul, Int.reduceToNat, Nat.reduceLT, Nat.reduceLeDiff, Nat.le_refl, Nat.reduceEqDiff, ↓reduceIte, beq_self_eq_true, bne_self_eq_false, Int.reduceBEq, Int.reduceBNe, or_self, true_or, or_true, Option.map_some, Option.map_none, hb0, h, decide_true, decide_false, List.length_map] <;> (try clear hb0)) | (refine AW.ret (Fin.data rfl (by first | (simp only [go_sem]; done) | (simp [go_sem, *]; done) | (simp [go_sem]; omega) | rfl) rfl)) | (exfalso; omega))
    | some y =>
      have hil : i < gs.length := by
        rcases Nat.lt_or_ge i gs.length with h | h
        · exact h
        · simp [List.getElem?_eq_none h] at hy
      have hget : (gs.map fiD)[i]? = some (fiD y) := by simp [hy]
      repeat' (first | (refine AW.sreg rfl fun K hK => ?_; simp only [go_sem, Nat.reduceAdd, Nat.reduceMul, Int.reduceToNat, Nat.reduceLT, Nat.reduceLeDiff, Nat.le_refl, Nat.reduceEqDiff, ↓reduceIte, beq_self_eq_true, bne_self_eq_false, Int.reduceBEq, Int.reduceBNe, or_self, true_or, or_true, Option.map_some, Option.map_none, List.length_map, hget]) | (refine AW.seq_k fun K hK => ?_) | (refine AW.exit ?_; simp only [go_sem, ↓reduceIte]) | (refine AW.condF rfl (by first | rfl | (simp; omega) | (simp [*]; done) | fail) ?_) | (refine hK _ ?_; clear hK K) | (clear hK K; refine hK _ ?_; clear hK K) | (refine stepB_split (fun h => ?_) (fun h => ?_) <;> (have hb0 := h) <;> (try simp only [Bool.not_eq_true', Bool.not_eq_false'] at hb0) <;> (try simp only [decide_eq_true_eq, decide_eq_false_iff_not, Bool.not_eq_true', Bool.not_eq_false', Bool.not_eq_eq_eq_not, Bool.not_true, Bool.not_false, beq_iff_eq, bne_iff_ne, beq_eq_false_iff_ne, ne_eq, Bool.and_eq_true, Bool.or_eq_true, Bool.or_eq_false_iff] at h) <;> simp only [go_sem, Nat.reduceAdd, Nat.reduceMul, Int.reduceToNat, Nat.reduceLT, Nat.reduceLeDiff, Nat.le_refl, Nat.reduceEqDiff, ↓reduceIte, beq_self_eq_true, bne_self_eq_false, Int.reduceBEq, Int.reduceBNe, or_self, true_or, or_true, Option.map_some, Option.map_none, hb0, h, decide_true, decide_false, List.length_map, hget] <;> (try clear hb0)) | (refine run_call _ _ _ ((final1_any y p).pure rfl rfl _ _) rfl rfl (dstOk_of rfl) rfl rfl rfl ?_; simp only [go_sem, Nat.reduceAdd, Nat.reduceMul, Int.reduceToNat, Nat.reduceLT, Nat.reduceLeDiff, Nat.le_refl, Nat.reduceEqDiff, ↓reduceIte, beq_self_eq_true, bne_self_eq_false, Int.reduceBEq, Int.reduceBNe, or_self, true_or, or_true, Option.map_some, Option.map_none, List.length_map, hget]) | (with_reducible refine And.intro ?_ ?_; first | omega | assumption | (focus (decide)) | (focus (simp; done)) | (focus (simp; omega)) | (focus (constructor <;> omega)) | fail) | (exfalso; omega))
      exact AW.ret (Fin.data rfl (by simp only [go_sem, Nat.reduceAdd, Nat.reduceMul, Int.reduceToNat, Nat.reduceLT, Nat.reduceLeDiff, Nat.le_refl, Nat.reduceEqDiff, ↓reduceIte, beq_self_eq_true, bne_self_eq_false, Int.reduceBEq, Int.reduceBNe, or_self, true_or, or_true, Option.map_some, Option.map_none, hy]) rfl)
theorem final_any (gs : List Fi) (hl : gs.length ≤ 1000) (hr : RisF gs) (p : Str) :
    ∃ m : Nat, (∀ (i : Nat) (f : Fi), gs[i]? = some f → f.1 = p → i = m) ∧ Does Tryz.prog 35 [.d (.sl (gs.map fiD)), S p] [] (.tup [I m, B (decide (p ∈ gs.map (·.1)))]) [] := by
  obtain ⟨m, h1, hb⟩ := bsearchF gs hl hr p
  refine ⟨m, h1, ?_⟩
  refine Does.of_AW (n := 11) Tryz.func35 rfl rfl rfl fun cx hcx => ?_
  repeat' (first | (refine AW.sreg rfl fun K hK => ?_; simp only [go_sem, Nat.reduceAdd, Nat.reduceMul, Int.reduceToNat, Nat.reduceLT, Nat.reduceLeDiff, Nat.le_refl, Nat.reduceEqDiff, ↓reduceIte, beq_self_eq_true, bne_self_eq_false, Int.reduceBEq, Int.reduceBNe, or_self, true_or, or_true, Option.map_some, Option.map_none]) | (refine hK _ ?_; clear hK K) | (refine run_call _ _ _ ((hb).pure rfl rfl _ _) rfl rfl (dstOk_of rfl) rfl rfl rfl ?_; simp only [go_sem, Nat.reduceAdd, Nat.reduceMul, Int.reduceToNat, Nat.reduceLT, Nat.reduceLeDiff, Nat.le_refl, Nat.reduceEqDiff, ↓reduceIte, beq_self_eq_true, bne_self_eq_false, Int.reduceBEq, Int.reduceBNe, or_self, true_or, or_true, Option.map_some, Option.map_none]) | (refine AW.ret (Fin.data rfl (by first | (simp only [go_sem]; done) | (simp [go_sem, *]; done) | (simp [go_sem]; omega) | rfl) rfl)))
end Go.AX

namespace Go.AX
open Go Go.Proofs
abbrev CV (cs : List Cr) : O := .vec 50 2 (dv (cs.map crD))
/-- A final whose credits are object B. -/
def elV (B : Nat) (f : Fi) : V := .agg [S f.1, S f.2.1, I f.2.2.1, .slr B 0 f.2.2.2.length]
def elA : Nat → List Fi → List V
  | _, [] => []
  | B, f :: r => elV B f :: elA (B + 1) r
theorem elA_length : ∀ (gs : List Fi) (B : Nat), (elA B gs).length = gs.length
  | [], _ => rfl
  | f :: r, B => by simp [elA, elA_length r]
theorem elA_get : ∀ (gs : List Fi) (B j : Nat), (elA B gs)[j]? = (gs[j]?).map (elV (B + j))
  | [], _, _ => by simp [elA]
  | f :: r, B, 0 => by simp [elA]
  | f :: r, B, j + 1 => by
    simp only [elA, List.getElem?_cons_succ]
    rw [elA_get r (B + 1) j, show B + 1 + j = B + (j + 1) by omega]
theorem elA_app : ∀ (gs : List Fi) (B : Nat) (f : Fi), elA B (gs ++ [f]) = elA B gs ++ [elV (B + gs.length) f]
  | [], B, f => by simp [elA]
  | g :: r, B, f => by
    simp only [List.cons_append, elA]
    rw [elA_app r (B + 1) f, show B + 1 + r.length = B + (g :: r).length by simp only [List.length_cons]; omega]
theorem elA_set : ∀ (gs : List Fi) (B j : Nat) (f : Fi), elA B (gs.set j f) = (elA B gs).set j (elV (B + j) f)
  | [], _, _, _ => by simp [elA]
  | g :: r, B, 0, f => by simp [elA]
  | g :: r, B, j + 1, f => by
    simp only [List.set_cons_succ, elA]
    rw [elA_set r (B + 1) j f, show B + 1 + j = B + (j + 1) by omega]
/-- The family, let go, is data. -/
theorem toDL_el {hv : Nat → Option O} {keep : Nat → Bool} (n : Nat) : ∀ (gs : List Fi) (B : Nat), (∀ j f, gs[j]? = some f → keep (B + j) = false ∧ ∃ e s, hv (B + j) = some (.vec e s (dv (f.2.2.2.map crD)))) → toDL (toD hv keep (n + 3)) (elA B gs) = some (gs.map fiD)
  | [], _, _ => rfl
  | f :: r, B, h => by
    obtain ⟨hk, e, s, hh⟩ := h 0 f rfl
    rw [Nat.add_zero] at hk hh
    have ih := toDL_el n r (B + 1) fun j g hg => by
      have := h (j + 1) g (by simpa using hg)
      rw [show B + (j + 1) = B + 1 + j by omega] at this
      exact this
    have h1 : toD hv keep (n + 2) (.slr B 0 f.2.2.2.length) = some (.sl (f.2.2.2.map crD)) := by
      rw [toD]
      simp only [hk, Bool.false_eq_true, if_false, hh, dv_length, List.length_map, Nat.zero_add, Nat.le_refl, if_true, List.drop_zero]
      rw [show (dv (f.2.2.2.map crD)).take f.2.2.2.length = dv (f.2.2.2.map crD) from List.take_of_length_le (by simp [dv])]
      rw [show toDL (toD hv keep (n + 1)) (dv (f.2.2.2.map crD)) = some (f.2.2.2.map crD) from toDL_dv hv keep n _]
    have h2 : toD hv keep (n + 3) (elV B f) = some (fiD f) := by
      unfold elV
      rw [toD]
      have a1 : ∀ x : D, toD hv keep (n + 2) (.d x) = some x := fun x => by rw [toD]
      simp only [toDL, a1, h1]
    simp only [elA, toDL, h2, ih, List.map_cons]
theorem frz_out {hv : Nat → Option O} {keep : Nat → Bool} {V0 B e s m : Nat} {gs : List Fi} (hk : keep V0 = false) (h : hv V0 = some (.vec e s (elA B gs))) (hm : m = gs.length) (hf : ∀ j f, gs[j]? = some f → keep (B + j) = false ∧ ∃ e s, hv (B + j) = some (.vec e s (dv (f.2.2.2.map crD)))) : frz hv keep (.slr V0 0 m) = .d (.sl (gs.map fiD)) := by
  subst hm
  have h1 : toD hv keep 8 (.slr V0 0 gs.length) = some (.sl (gs.map fiD)) := by
    rw [toD]
    simp only [hk, Bool.false_eq_true, if_false, h, elA_length, Nat.zero_add, Nat.le_refl, if_true, List.drop_zero]
    rw [show (elA B gs).take gs.length = elA B gs from List.take_of_length_le (by rw [elA_length]; exact Nat.le_refl _)]
    rw [show toDL (toD hv keep 7) (elA B gs) = some (gs.map fiD) from toDL_el 4 gs B hf]
  simp only [frz, hk, Bool.false_eq_true, if_false, h1]
/-- The credits lie where they should. -/
def famOk (hv : Nat → Option O) (keep : Nat → Bool) : Nat → List Fi → Prop
  | _, [] => True
  | B, f :: r => keep B = false ∧ (∃ e s, hv B = some (.vec e s (dv (f.2.2.2.map crD)))) ∧ famOk hv keep (B + 1) r
theorem famOk_at {hv : Nat → Option O} {keep : Nat → Bool} : ∀ {gs : List Fi} {B : Nat}, famOk hv keep B gs → ∀ j f, gs[j]? = some f → keep (B + j) = false ∧ ∃ e s, hv (B + j) = some (.vec e s (dv (f.2.2.2.map crD)))
  | [], _, _, _, _, h => by simp at h
  | g :: r, B, h, 0, f, hj => by
    simp only [List.getElem?_cons_zero, Option.some.injEq] at hj
    subst hj
    exact ⟨h.1, h.2.1⟩
  | g :: r, B, h, j + 1, f, hj => by
    have := famOk_at h.2.2 j f (by simpa using hj)
    rw [show B + 1 + j = B + (j + 1) by omega] at this
    exact this
theorem frz_outE {hv : Nat → Option O} {keep : Nat → Bool} {V0 B e s m : Nat} {gs : List Fi} (hk : keep V0 = false) (h : hv V0 = some (.vec e s (elA B gs))) (hm : m = gs.length) (hf : famOk hv keep B gs) : frz hv keep (.slr V0 0 m) = .d (.sl (gs.map fiD)) := frz_out hk h hm (famOk_at hf)
end Go.AX
