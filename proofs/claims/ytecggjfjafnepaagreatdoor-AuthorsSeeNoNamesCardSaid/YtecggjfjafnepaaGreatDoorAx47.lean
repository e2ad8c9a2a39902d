/- AX, part 47: the check of a drawn region looks at the objects' numbers alone, and at which of them are alike. -/
import Derived.Test.YtecggjfjafnepaaGreatDoorAx38
set_option linter.unusedSimpArgs false
set_option linter.unusedVariables false
namespace Go.AX
open Go
def regOkG {σ : Type} (c1 c2 : σ → σ → Bool) (ops : Array Oper) (sg : List σ) : Bool :=
 let b := befOf ops.toList []
 (ops.toList.zipIdx.all fun (o, i) => o.after.toList.all fun e => !Region.binds .any e || decide (e.on < i)) &&
 (ops.toList.zip sg).zipIdx.all fun (oj, j) => ((ops.toList.zip sg).take j).zipIdx.all fun (oi, i) => (b.getD j 0).testBit i || !(inter oi.1.dst.toList (rtmps ops oj.1 ++ oj.1.dst.toList) || inter oj.1.dst.toList (rtmps ops oi.1) || c1 oi.2 oj.2 || c2 oi.2 oj.2)
theorem regOkG_map {σ τ : Type} {c1 c2 : τ → τ → Bool} {d1 d2 : σ → σ → Bool} (g : σ → τ) (h1 : ∀ a b, c1 (g a) (g b) = d1 a b) (h2 : ∀ a b, c2 (g a) (g b) = d2 a b) (ops : Array Oper) (sg : List σ) :
  regOkG c1 c2 ops (sg.map g) = regOkG d1 d2 ops sg := by
 unfold regOkG
 simp only [List.zip_map_right, List.zipIdx_map, List.all_map, ← List.map_take, Function.comp_def, Prod.map, id, h1, h2]
def sigC1 (a b : List Nat × List Nat) : Bool := inter a.1 (b.2 ++ b.1)
def sigC2 (a b : List Nat × List Nat) : Bool := inter b.1 a.2
def Tr.sig (t : Tr) : List Nat × List Nat := (t.wids, t.rids)
def renP (f : Nat → Nat) (a : List Nat × List Nat) : List Nat × List Nat := (a.1.map f, a.2.map f)
theorem inter_map {f : Nat → Nat} (hf : ∀ p q, f p = f q → p = q) (a b : List Nat) : inter (a.map f) (b.map f) = inter a b := by
 unfold inter
 rw [List.any_map, Bool.eq_iff_iff, List.any_eq_true, List.any_eq_true]
 constructor
 ·rintro ⟨x, hx, h⟩
  refine ⟨x, hx, ?_⟩
  simp only [Function.comp_apply, List.contains_iff_mem, List.mem_map] at h ⊢
  obtain ⟨y, hy, e⟩ := h
  rw [← hf _ _ e]
  exact hy
 ·rintro ⟨x, hx, h⟩
  refine ⟨x, hx, ?_⟩
  simp only [Function.comp_apply, List.contains_iff_mem, List.mem_map] at h ⊢
  exact ⟨x, h, rfl⟩
theorem regOk_sig (ops : Array Oper) (tr : List Tr) : regOk2 ops tr = regOkG sigC1 sigC2 ops (tr.map Tr.sig) := by
 rw [regOkG_map Tr.sig (d1 := fun a b => inter a.wids (b.rids ++ b.wids)) (d2 := fun a b => inter b.wids a.rids) (fun _ _ => rfl) (fun _ _ => rfl)]
 rfl
/-- The numbers may be renamed for the check. -/
theorem regOk_ren (f : Nat → Nat) (hf : ∀ p q, f p = f q → p = q) {ops : Array Oper} {tr : List Tr} (h : regOkG sigC1 sigC2 ops ((tr.map Tr.sig).map (renP f)) = true) : regOk ops tr = true := by
 apply regOk_swap
 rw [regOk_sig]
 rw [regOkG_map (renP f) (d1 := sigC1) (d2 := sigC2)] at h
 ·exact h
 ·intro a b
  show inter (a.1.map f) (b.2.map f ++ b.1.map f) = inter a.1 (b.2 ++ b.1)
  rw [← List.map_append, inter_map hf]
 ·intro a b
  exact inter_map hf _ _
end Go.AX
