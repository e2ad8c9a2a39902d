/- AX, part 18: the argument of a law, as data. -/
import Derived.Test.YtobgkoebiapciaaGreatDoorAx17
import Derived.ChangeSlices
set_option linter.unusedSimpArgs false
set_option linter.unusedVariables false
namespace Go.AX
open Go

theorem RD_ints {w : World} {a : Option Addr} {len cap : Nat} {zs : List Int}
    (h : (a = none ∧ len = 0 ∧ cap = 0 ∧ zs = []) ∨ ∃ x, a = some x ∧ len ≤ cap ∧ cap ≤ maxLen ∧ zs.length = cap ∧ (∀ i, i < zs.length → w.cell? (x.add i) = some (.int .i64 (zs.getD i 0))) ∧ ∀ n ∈ zs, (Lit.int .i64 n).wf = true) :
    RD w (fun b => b < w.heap.size) (.sl ((zs.take len).map (D.int .i64))) (.slice a len cap) ∧ (zs.take len).length ≤ 9223372036854775807 := by
  rcases h with ⟨rfl, rfl, rfl, rfl⟩ | ⟨x, rfl, hlc, hcm, hz, hcell, _⟩
  · refine ⟨?_, by simp⟩
    simp only [RD]
    exact ⟨none, 0, 0, rfl, by simp, Nat.le_refl _, .inl (by simp)⟩
  · have hm : maxLen = 9223372036854775807 := by decide
    refine ⟨?_, by simp; omega⟩
    simp only [RD]
    refine ⟨some x, len, cap, rfl, by simp; omega, hlc, ?_⟩
    by_cases h0 : zs.length = 0
    · left
      have : zs = [] := by simpa using h0
      subst this
      simp
    · right
      have h1 := hcell 0 (by omega)
      have ex : x.add 0 = x := by simp [Addr.add]
      rw [ex] at h1
      obtain ⟨b, off, spot⟩ := x
      have hsp : spot = none := by
        cases spot with
        | none => rfl
        | some q =>
          simp only [World.cell?] at h1
          split at h1
          · simp at h1
          · cases h1
      subst hsp
      have hh : ∃ c e fr, w.heap[b]? = some (.cells c e fr) := by
        simp only [World.cell?] at h1
        split at h1
        · rename_i c e fr hb; exact ⟨c, e, fr, hb⟩
        · cases h1
      obtain ⟨c, e, fr, hb⟩ := hh
      refine ⟨b, off, c, e, fr, 1, rfl, heap_lt hb, hb, RDels_of fun i y hy => ?_⟩
      rw [List.getElem?_map, List.getElem?_take] at hy
      split at hy
      · rename_i hil
        cases hzi : zs[i]? with
        | none => rw [hzi] at hy; cases hy
        | some n =>
          rw [hzi] at hy
          simp at hy
          subst hy
          have hlt : i < zs.length := by
            rcases Nat.lt_or_ge i zs.length with h' | h'
            · exact h'
            · simp [List.getElem?_eq_none h'] at hzi
          have h2 := hcell i hlt
          rw [addr_add, cell_of hb] at h2
          refine ⟨.int .i64 n, ?_, by simp only [RD]⟩
          simp only [ElemAt]
          refine ⟨trivial, ?_⟩
          rw [Nat.mul_one, h2]
          simp [List.getD_eq_getElem?_getD, hzi]
      · cases hy

/-- A law that hands back true: the walk that its row asks for. -/
theorem Does.walk {P : Program} {f : FuncId} {a : Option Addr} {len cap : Nat} {zs : List Int} {w : World} (hd : ∀ l : List Int, l.length ≤ 9223372036854775807 → Does P f [.d (.sl (l.map (D.int .i64)))] [] (.d (.bool true)) [])
    (h : (a = none ∧ len = 0 ∧ cap = 0 ∧ zs = []) ∨ ∃ x, a = some x ∧ len ≤ cap ∧ cap ≤ maxLen ∧ zs.length = cap ∧ (∀ i, i < zs.length → w.cell? (x.add i) = some (.int .i64 (zs.getD i 0))) ∧ ∀ n ∈ zs, (Lit.int .i64 n).wf = true)
    (hgl : ∀ g k, gloT P g = some k → ∃ c e fr, w.heap[g]? = some (.cells c e fr) ∧ gloCells c k) :
    Calls P f #[.slice a len cap] w fun e w' => e = .returned (.bool true) ∧ Go.RowKit.Below w.heap.size w w' := by
  obtain ⟨h1, h2⟩ := RD_ints h
  refine ((hd _ h2).calls w #[.slice a len cap] (fun b => b < w.heap.size) (fun _ h => h) ?_ (fun g k hg => by obtain ⟨c, e, fr, h1, h2⟩ := hgl g k hg; exact ⟨heap_lt h1, c, e, fr, h1, h2⟩)).mono fun e w' he => ?_
  · intro σ
    simp only [RVl]
    exact ⟨_, [], rfl, by simpa only [RV] using h1, rfl⟩
  · obtain ⟨v, rfl, hb, ok', σ', hv⟩ := he
    simp only [RV, RD] at hv
    subst hv
    exact ⟨rfl, hb⟩
end Go.AX
