/- AX, part 17: a call of a pure function whose arguments lie partly in the caller's own objects ('borrowed'). -/
import Derived.Test.YtecggjfjafnepaaGreatDoorAx16
import Derived.ChangeSlices
set_option linter.unusedSimpArgs false
set_option linter.unusedVariables false
namespace Go.AX
open Go

mutual
/-- No block is met. -/
def D.flat : D → Bool
 | .agg cs => flatL cs
 | .sl xs => xs.isEmpty
 | .map _ _ => false
 | .ptr _ _ => false
 | _ => true
def flatL : List D → Bool
 | [] => true
 | x :: xs => x.flat && flatL xs
end
mutual
def V.flat : V → Bool
 | .d x => x.flat
 | .nils => true
 | .tup vs => flatVL vs
 | .agg vs => flatVL vs
 | .top => true
 | .k _ => true
 | _ => false
def flatVL : List V → Bool
 | [] => true
 | x :: xs => x.flat && flatVL xs
end

section
variable {w w' : World} {ok ok' : Nat → Prop} {σ σ' : Nat → Option Loc}
mutual
theorem RD_flat : ∀ (x : D) (v : Value), x.flat = true → RD w ok x v → RD w' ok' x v
 | .bool _, _, _, r => by simpa only [RD] using r
 | .int _ _, _, _, r => by simpa only [RD] using r
 | .str _, _, _, r => by simpa only [RD] using r
 | .nilp, _, _, r => by simpa only [RD] using r
 | .nili, _, _, r => by simpa only [RD] using r
 | .agg cs, v, f, r => by
  simp only [D.flat] at f
  simp only [RD] at r ⊢
  obtain ⟨c, rfl, hs, hc⟩ := r
  exact ⟨c, rfl, hs, RDcs_flat c 0 cs f hc⟩
 | .sl xs, v, f, r => by
  simp only [D.flat, List.isEmpty_iff] at f
  subst f
  simp only [RD] at r ⊢
  obtain ⟨a, n, cap, h1, h2, h3, _⟩ := r
  exact ⟨a, n, cap, h1, h2, h3, .inl trivial⟩
 | .map _ _, _, f, _ => by simp [D.flat] at f
 | .ptr _ _, _, f, _ => by simp [D.flat] at f
theorem RDcs_flat (c : Array Value) : ∀ (p : Nat) (xs : List D), flatL xs = true → RDcs w ok c p xs → RDcs w' ok' c p xs
 | _, [], _, _ => by simp only [RDcs]
 | p, x :: xs, f, r => by
  simp only [flatL, Bool.and_eq_true] at f
  simp only [RDcs] at r ⊢
  obtain ⟨⟨v, hv, hr⟩, hrest⟩ := r
  exact ⟨⟨v, hv, RD_flat x v f.1 hr⟩, RDcs_flat c (p + 1) xs f.2 hrest⟩
end
mutual
theorem RV_flat : ∀ (x : V) (v : Value), x.flat = true → RV w ok σ x v → RV w' ok' σ' x v
 | .top, _, _, _ => by simp only [RV]
 | .k _, _, _, r => by simpa only [RV] using r
 | .d x, v, f, r => by
  simp only [V.flat] at f
  simp only [RV] at r ⊢
  exact RD_flat x v f r
 | .nils, _, _, r => by simpa only [RV] using r
 | .agg cs, v, f, r => by
  simp only [V.flat] at f
  simp only [RV] at r ⊢
  obtain ⟨c, hc, hr⟩ := r
  exact ⟨c, hc, RVl_flat cs _ f hr⟩
 | .tup cs, v, f, r => by
  simp only [V.flat] at f
  simp only [RV] at r ⊢
  obtain ⟨c, hc, hr⟩ := r
  exact ⟨c, hc, RVl_flat cs _ f hr⟩
 | .ptr _ _, _, f, _ => by simp [V.flat] at f
 | .pe _ _ _, _, f, _ => by simp [V.flat] at f
 | .slr _ _ _, _, f, _ => by simp [V.flat] at f
 | .mpr _, _, f, _ => by simp [V.flat] at f
 | .fn _ _, _, f, _ => by simp [V.flat] at f
theorem RVl_flat : ∀ (xs : List V) (vs : List Value), flatVL xs = true → RVl w ok σ xs vs → RVl w' ok' σ' xs vs
 | [], vs, _, r => by simpa only [RVl] using r
 | x :: xs, vs, f, r => by
  simp only [flatVL, Bool.and_eq_true] at f
  simp only [RVl] at r ⊢
  obtain ⟨u, us, rfl, hu, hus⟩ := r
  exact ⟨u, us, rfl, RV_flat x u f.1 hu, RVl_flat xs us f.2 hus⟩
end
end


/-- The borrowing call. -/
theorem Does.borrow {P : Program} {f : FuncId} {as bs : List V} {x : V} (hd : Does P f as [] x []) {hv : Nat → Option O} {nid : Nat} (hb : frzL hv (fun _ => false) bs = renL id as) (hbel : as.all (V.bel 0) = true) (hx : x.flat = true) : CallStep P hv nid f bs x [] := by
 intro cx σ w vs hgl h hn hargs
 let cx' : Cx := ⟨w, fun _ => False, fun b => b < w.heap.size, fun _ => none⟩
 have h1 : RVl w (fun b => b < w.heap.size) σ (frzL hv (fun _ => false) bs) vs.toList :=
  RVl_frzA h (fun b hb => hb.2.1) (fun id o b K s hid _ hs => (h.new id o b K s hid hs).2) bs vs.toList hargs
 rw [hb] at h1
 have h2 : RVl w (fun b => b < w.heap.size) (fun _ => none) as vs.toList := RVl_back (n := 0) (g := id) (fun i l hi _ => by omega) as _ (belL_of_all hbel) h1
 have hr0 : HR cx' (fun i => ([] : List O)[i]?) (fun _ => none) w := by
  constructor
  ·rfl
  ·rfl
  ·rfl
  ·exact Nat.le_refl _
  ·intro b _ _; rfl
  ·intro i o ho; simp at ho
  ·intro i o b K s ho; simp at ho
  ·intro i j o o' b K s K' s' ho; simp at ho
 refine .inl ⟨hd.1, (hd.2 cx' (fun _ => none) w vs (fun g k hg => ⟨fun h => h, (hgl.inner h hg).1.2.1, (hgl.inner h hg).2⟩) hr0 (fun _ _ => rfl) (fun _ _ h => h) (fun _ _ h => h) (fun b hb => hb.elim) ?_).mono fun e w' he => ?_⟩
 ·exact RVl_mono (fun b hb => ⟨⟨.inl hb, hb, fun i o K s ho => by simp at ho⟩, rfl⟩) (fun _ _ h => h) _ _ h2
 ·obtain ⟨v, rfl, σ', k1, _, _, k4⟩ := he
  refine ⟨v, rfl, σ, ?_⟩
  have same : ∀ b, b < w.heap.size → w'.heap[b]? = w.heap[b]? := fun b hb => k1.frame b hb (fun h => h.elim)
  have hok : ∀ b, okB cx w hv σ b → okB cx w' hv σ b ∧ w'.heap[b]? = w.heap[b]? := fun b hb => ⟨⟨hb.1, Nat.lt_of_lt_of_le hb.2.1 k1.size, hb.2.2⟩, same b hb.2.1⟩
  refine ⟨?_, fun _ _ => rfl, fun _ _ h => h, hok, RV_flat x v hx k4⟩
  rw [app_nil]
  constructor
  ·rw [k1.os]; exact h.os
  ·rw [k1.tape]; exact h.tape
  ·rw [k1.output]; exact h.output
  ·exact Nat.le_trans h.size k1.size
  ·intro b hb hp
   rw [same b (Nat.lt_of_lt_of_le hb h.size)]
   exact h.frame b hb hp
  ·intro id o hid
   exact RO_mono hok (fun _ _ h => h) (fun b K s hs => same b (h.new id o b K s hid hs).2) (h.own id o hid)
  ·intro id o b K s hid hs
   have := h.new id o b K s hid hs
   exact ⟨this.1, Nat.lt_of_lt_of_le this.2 k1.size⟩
  ·exact h.inj
attribute [go_sem] D.flat flatL V.flat flatVL
end Go.AX

namespace Go.AX
open Go

theorem RD_ints {w : World} {a : Option Addr} {len cap : Nat} {zs : List Int}
  (h : (a = none ∧ len = 0 ∧ cap = 0 ∧ zs = []) ∨ ∃ x, a = some x ∧ len ≤ cap ∧ cap ≤ maxLen ∧ zs.length = cap ∧ (∀ i, i < zs.length → w.cell? (x.add i) = some (.int .i64 (zs.getD i 0))) ∧ ∀ n ∈ zs, (Lit.int .i64 n).wf = true) :
  RD w (fun b => b < w.heap.size) (.sl ((zs.take len).map (D.int .i64))) (.slice a len cap) ∧ (zs.take len).length ≤ 9223372036854775807 := by
 rcases h with ⟨rfl, rfl, rfl, rfl⟩ | ⟨x, rfl, hlc, hcm, hz, hcell, _⟩
 ·refine ⟨?_, by simp⟩
  simp only [RD]
  exact ⟨none, 0, 0, rfl, by simp, Nat.le_refl _, .inl (by simp)⟩
 ·have hm : maxLen = 9223372036854775807 := by decide
  refine ⟨?_, by simp; omega⟩
  simp only [RD]
  refine ⟨some x, len, cap, rfl, by simp; omega, hlc, ?_⟩
  by_cases h0 : zs.length = 0
  ·left
   have : zs = [] := by simpa using h0
   subst this
   simp
  ·right
   have h1 := hcell 0 (by omega)
   have ex : x.add 0 = x := by simp [Addr.add]
   rw [ex] at h1
   obtain ⟨b, off, spot⟩ := x
   have hsp : spot = none := by
    cases spot with
    | none => rfl
    | some q =>
     simp only [World.cell?] at h1
     split at h1
     ·simp at h1
     ·cases h1
   subst hsp
   have hh : ∃ c e fr, w.heap[b]? = some (.cells c e fr) := by
    simp only [World.cell?] at h1
    split at h1
    ·rename_i c e fr hb; exact ⟨c, e, fr, hb⟩
    ·cases h1
   obtain ⟨c, e, fr, hb⟩ := hh
   refine ⟨b, off, c, e, fr, 1, rfl, heap_lt hb, hb, RDels_of fun i y hy => ?_⟩
   rw [List.getElem?_map, List.getElem?_take] at hy
   split at hy
   ·rename_i hil
    cases hzi : zs[i]? with
    | none => rw [hzi] at hy; cases hy
    | some n =>
     rw [hzi] at hy
     simp at hy
     subst hy
     have hlt : i < zs.length := by
      rcases Nat.lt_or_ge i zs.length with h' | h'
      ·exact h'
      ·simp [List.getElem?_eq_none h'] at hzi
     have h2 := hcell i hlt
     rw [addr_add, cell_of hb] at h2
     refine ⟨.int .i64 n, ?_, by simp only [RD]⟩
     simp only [ElemAt]
     refine ⟨trivial, ?_⟩
     rw [Nat.mul_one, h2]
     simp [List.getD_eq_getElem?_getD, hzi]
   ·cases hy

/-- A law that hands back true: the walk that its row asks for. -/
theorem Does.walk {P : Program} {f : FuncId} {a : Option Addr} {len cap : Nat} {zs : List Int} {w : World} (hd : ∀ l : List Int, l.length ≤ 9223372036854775807 → Does P f [.d (.sl (l.map (D.int .i64)))] [] (.d (.bool true)) [])
  (h : (a = none ∧ len = 0 ∧ cap = 0 ∧ zs = []) ∨ ∃ x, a = some x ∧ len ≤ cap ∧ cap ≤ maxLen ∧ zs.length = cap ∧ (∀ i, i < zs.length → w.cell? (x.add i) = some (.int .i64 (zs.getD i 0))) ∧ ∀ n ∈ zs, (Lit.int .i64 n).wf = true)
  (hgl : ∀ g k, gloT P g = some k → ∃ c e fr, w.heap[g]? = some (.cells c e fr) ∧ gloCells c k) :
  Calls P f #[.slice a len cap] w fun e w' => e = .returned (.bool true) ∧ Go.RowKit.Below w.heap.size w w' := by
 obtain ⟨h1, h2⟩ := RD_ints h
 refine ((hd _ h2).calls w #[.slice a len cap] (fun b => b < w.heap.size) (fun _ h => h) ?_ (fun g k hg => by obtain ⟨c, e, fr, h1, h2⟩ := hgl g k hg; exact ⟨heap_lt h1, c, e, fr, h1, h2⟩)).mono fun e w' he => ?_
 ·intro σ
  simp only [RVl]
  exact ⟨_, [], rfl, by simpa only [RV] using h1, rfl⟩
 ·obtain ⟨v, rfl, hb, ok', σ', hv⟩ := he
  simp only [RV, RD] at hv
  subst hv
  exact ⟨rfl, hb⟩
end Go.AX
