/- AX, part 28: objects of one's own, lent. -/
import Derived.Test.YtecggjfjafnepaaGreatDoorAx27
import Derived.Below
import Derived.Lib.Index
set_option linter.unusedSimpArgs false
set_option linter.unusedVariables false
namespace Go.AX
open Go
theorem frzL_cons {hv : Nat → Option O} {keep : Nat → Bool} {a a' : V} {as as' : List V} (h : frz hv keep a = a') (hs : frzL hv keep as = as') : frzL hv keep (a :: as) = a' :: as' := by simp only [frzL, h, hs]
theorem frzL_nil {hv : Nat → Option O} {keep : Nat → Bool} : frzL hv keep [] = [] := rfl
theorem Does.lend {P : Program} {f : FuncId} {as bs : List V} {x : V} (hd : Does P f as [] x []) {hv : Nat → Option O} {nid : Nat} (hb : frzL hv (fun _ => false) bs = as) (hr : renL id as = as) (hbel : as.all (V.bel 0) = true) (hx : x.flat = true) : CallStep P hv nid f bs x [] :=
 hd.borrow (hb.trans hr.symm) hbel hx
end Go.AX

namespace Go.AX
open Go Go.RowKit
/-- What a world holds of the variables. -/
def GlW (P : Program) (w : World) : Prop := ∀ g k, gloT P g = some k → ∃ c e fr, w.heap[g]? = some (.cells c e fr) ∧ gloCells c k
theorem Does.of_below {P : Program} {f : FuncId} {as : List V} {x : V} (hen : Enters P f)
  (h : ∀ (w : World) (ok : Nat → Prop) (vs : Array Value), GlW P w → (∀ b, ok b → b < w.heap.size) → RVl w ok (fun _ => none) as vs.toList →
   Calls P f vs w fun e w' => ∃ v, e = .returned v ∧ Below w.heap.size w w' ∧ RV w' (fun b => ok b ∨ (w.heap.size ≤ b ∧ b < w'.heap.size)) (fun _ => none) x v) : Does P f as [] x [] := by
 refine ⟨hen, fun cx σ w vs hgl hr hfr hp1 hp2 hpb hargs => ?_⟩
 have hσ : σ = fun _ => none := funext fun i => hfr i (by simp)
 subst hσ
 refine (h w _ vs (fun g k hg => (hgl.inner hr hg).2) (fun b hb => hb.2.1) hargs).mono fun e w' ⟨v, he, hb, hv⟩ => ?_
 refine ⟨v, he, fun _ => none, ?_, fun i l hi => by simp at hi, fun _ _ => rfl, ?_⟩
 ·constructor
  ·rw [hb.os]; exact hr.os
  ·rw [hb.tape]; exact hr.tape
  ·rw [hb.output]; exact hr.output
  ·exact Nat.le_trans hr.size hb.size
  ·intro b h1 h2; rw [hb.block b (Nat.lt_of_lt_of_le h1 hr.size)]; exact hr.frame b h1 h2
  ·intro i o ho; simp [hvL] at ho
  ·intro i o b K s ho; simp [hvL] at ho
  ·intro i j o o' b K s K' s' ho; simp [hvL] at ho
 ·refine RV_mono (fun b h0 => ⟨?_, rfl⟩) (fun _ _ h => h) _ _ hv
  rcases h0 with h0 | ⟨h1, h2⟩
  ·exact ⟨h0.1, Nat.lt_of_lt_of_le h0.2.1 hb.size, fun i o K s ho => by simp [hvL] at ho⟩
  ·exact ⟨.inr (Nat.le_trans hr.size h1), h2, fun i o K s ho => by simp [hvL] at ho⟩
/-- The variable of which nothing is known. -/
theorem GlW.max {P : Program} {w : World} (h : GlW P w) {g : Nat} (hg : gloT P g = some none) : ∃ m, w.cell? ⟨g, 0, none⟩ = some (.int .i64 m) := by
 obtain ⟨c, e, fr, h1, m, hm⟩ := h g none hg
 exact ⟨m, by simpa [World.cell?, h1] using hm⟩
theorem GlW.cell {P : Program} {w : World} (h : GlW P w) {g : Nat} {l : List (IntKind × Int)} (hg : gloT P g = some (some l)) (i : Nat) (k : IntKind) (n : Int) (hi : l[i]? = some (k, n)) : w.cell? ⟨g, i, none⟩ = some (.int k n) := by
 obtain ⟨c, e, fr, h1, h2⟩ := h g _ hg
 simp only [World.cell?, h1]
 simpa using h2.1 i _ hi
/-- From what is known of the cells. -/
theorem GlW.of_cells {P : Program} {w : World} (h : ∀ g k, gloT P g = some k → match k with
  | none => ∃ m, w.cell? ⟨g, 0, none⟩ = some (.int .i64 m)
  | some l => l ≠ [] ∧ (∀ (i : Nat) (q : IntKind × Int), l[i]? = some q → w.cell? ⟨g, i, none⟩ = some (.int q.1 q.2)) ∧ (l.length = 20 → ∀ c e fr, w.heap[g]? = some (.cells c e fr) → c.size = 20)) : GlW P w := by
 have cl : ∀ g i v, w.cell? ⟨g, i, none⟩ = some v → ∃ c e fr, w.heap[g]? = some (.cells c e fr) := by
  intro g i v hv
  simp only [World.cell?] at hv
  split at hv
  ·rename_i c e fr hb; exact ⟨c, e, fr, hb⟩
  ·cases hv
 intro g k hg
 have := h g k hg
 cases k with
 | none =>
  obtain ⟨m, hm⟩ := this
  obtain ⟨c, e, fr, hb⟩ := cl _ _ _ hm
  exact ⟨c, e, fr, hb, m, by simpa [World.cell?, hb] using hm⟩
 | some l =>
  obtain ⟨hne, hl, hsz⟩ := this
  have h0 : 0 < l.length := List.length_pos_iff.2 hne
  obtain ⟨c, e, fr, hb⟩ := cl _ _ _ (hl 0 _ (List.getElem?_eq_getElem h0))
  exact ⟨c, e, fr, hb, fun i q hq => by simpa [World.cell?, hb] using hl i q hq, fun h20 => hsz h20 _ _ _ hb⟩
/-- Two strings in, data out, the world as it was. -/
theorem Does.of_str2 {P : Program} {f : FuncId} {a b : List UInt8} {x : V} {y : Value} (hen : Enters P f) (hx : ∀ w ok, RV w ok (fun _ => none) x y)
  (h : ∀ w, GlW P w → Calls P f #[.string ⟨a.toArray⟩, .string ⟨b.toArray⟩] w fun e w' => e = .returned y ∧ Below w.heap.size w w') : Does P f [.d (.str a), .d (.str b)] [] x [] :=
 Does.of_below hen fun w ok vs hg hok hargs => by
  simp only [RVl, RV, RD] at hargs
  obtain ⟨v1, r1, e1, rfl, v2, r2, e2, rfl, rfl⟩ := hargs
  subst e2
  obtain rfl : vs = #[.string ⟨a.toArray⟩, .string ⟨b.toArray⟩] := by cases vs; simp_all
  exact (h w hg).mono fun e w' ⟨he, hb⟩ => ⟨_, he, hb, hx _ _⟩
theorem Does.of_str1 {P : Program} {f : FuncId} {a : List UInt8} {x : V} {y : Value} (hen : Enters P f) (hx : ∀ w ok, RV w ok (fun _ => none) x y)
  (h : ∀ w, GlW P w → Calls P f #[.string ⟨a.toArray⟩] w fun e w' => e = .returned y ∧ Below w.heap.size w w') : Does P f [.d (.str a)] [] x [] :=
 Does.of_below hen fun w ok vs hg hok hargs => by
  simp only [RVl, RV, RD] at hargs
  obtain ⟨v1, r1, e1, rfl, rfl⟩ := hargs
  obtain rfl : vs = #[.string ⟨a.toArray⟩] := by cases vs; simp_all
  exact (h w hg).mono fun e w' ⟨he, hb⟩ => ⟨_, he, hb, hx _ _⟩
/-- A contract on data alone serves the evaluator. -/
theorem CallStep.of_flat {P : Program} {f : FuncId} {as : List V} {x : D} (hd : Does P f as [] (.d x) []) (hb : as.all (V.bel 0) = true) (hr : ∀ g, renL g as = as) (hv : Nat → Option O) (n : Nat) : CallStep P hv n f as (.d x) [] := by
 have := hd.pure hb rfl hv n
 rw [hr] at this
 exact this
/-- An oracle beside another one. -/
def orc2 (A B : Orc) : Orc := fun f as hv n => match A f as hv n with
 | some r => some r
 | none => B f as hv n
theorem orc2_ok {P : Program} {A B : Orc} (ha : OrcOk P A) (hb : OrcOk P B) : OrcOk P (orc2 A B) := by
 intro f as hv n x u rd h hv' hag
 unfold orc2 at h
 split at h
 ·rename_i r hr; cases h; exact ha _ _ _ _ _ _ _ hr hv' hag
 ·exact hb _ _ _ _ _ _ _ h hv' hag
/-- The oracle of one function that takes two strings. -/
def orcS2 (g : FuncId) (F : List UInt8 → List UInt8 → Option D) : Orc := fun f as _ _ => if f = g then (match as with
 | [.d (.str a), .d (.str b)] => match F a b with
  | some x => some (.d x, [], [])
  | none => none
 | _ => none) else none
theorem orcS2_ok {P : Program} {g : FuncId} {F : List UInt8 → List UInt8 → Option D} (h : ∀ a b x, F a b = some x → Does P g [.d (.str a), .d (.str b)] [] (.d x) []) : OrcOk P (orcS2 g F) := by
 intro f as hv n x u rd he hv' _
 unfold orcS2 at he
 split at he
 ·rename_i hf
  subst hf
  split at he
  ·rename_i a b
   split at he
   ·rename_i y hy
    cases he
    exact CallStep.of_flat (h a b y hy) rfl (fun _ => rfl) _ _
   ·cases he
  ·cases he
 ·cases he
/-- What strings.Index hands back. -/
def idxF (a b : List UInt8) : Option D := match Nat.blt a.length 4294967281 with
 | true => some (.int .i64 (Lib.index a b))
 | false => none
end Go.AX
