/- AX, part 39: a contract of the shelf whose result is a new block of its own. -/
import Derived.Test.YtcjdlbdoffchfaaGreatDoorAx28
import Derived.Test.YtcjdlbdoffchfaaGreatDoorAx24
set_option linter.unusedSimpArgs false
set_option linter.unusedVariables false
namespace Go.AX
open Go Go.RowKit
theorem RVels_strs {w : World} {ok : Nat → Prop} {σ : Nat → Option Loc} : ∀ (bs : List ByteArray) (pre : List Value), RVels w ok σ (pre ++ bs.map Value.string).toArray 1 pre.length (dv (bs.map fun b => D.str b.data.toList))
  | [], pre => by simp [RVels, dv]
  | b :: r, pre => by
    have := RVels_strs (w := w) (ok := ok) (σ := σ) r (pre ++ [.string b])
    simp only [List.length_append, List.length_cons, List.length_nil, List.append_assoc, List.singleton_append, List.cons_append, List.nil_append, dv] at this
    simp only [List.map_cons, RVels, dv]
    exact ⟨⟨.string b, ⟨rfl, by simp⟩, rfl⟩, this⟩
/-- The result is a slice of the one block that was made. -/
theorem Does.of_alloc {P : Program} {f : FuncId} {as : List V} {xs : List V} {e s : Nat} (hen : Enters P f)
    (h : ∀ (w : World) (ok : Nat → Prop) (vs : Array Value), GlW P w → (∀ b, ok b → b < w.heap.size) → RVl w ok (fun _ => none) as vs.toList →
      Calls P f vs w fun r w' => ∃ c fr, w' = w.alloc (.cells c e fr) ∧ FrOk c.size fr ∧ c.size = xs.length * s ∧ r = .returned (.slice (some ⟨w.heap.size, 0, none⟩) xs.length xs.length) ∧ ∀ w2 ok2 σ2, RVels w2 ok2 σ2 c s 0 xs) :
    Does P f as [] (.slr 0 0 xs.length) [.vec e s xs] := by
  refine ⟨hen, fun cx σ w vs hgl hr hfr hp1 hp2 hpb hargs => ?_⟩
  have hσ : σ = fun _ => none := funext fun i => hfr i (by simp)
  subst hσ
  refine (h w _ vs (fun g k hg => (hgl.inner hr hg).2) (fun b hb => hb.2.1) hargs).mono fun r w' ⟨c, fr, hw, hfo, hcs, hre, hels⟩ => ?_
  subst hw
  refine ⟨_, hre, upd (fun _ => none) 0 (some (.blk w.heap.size xs.length s)), ?_, fun i l hi => by simp at hi, ?_, ?_⟩
  · have hget : (w.alloc (.cells c e fr)).heap[w.heap.size]? = some (.cells c e fr) := alloc_new w _
    constructor
    · exact hr.os
    · exact hr.tape
    · exact hr.output
    · rw [alloc_size]; exact Nat.le_trans hr.size (Nat.le_succ _)
    · intro b h1 h2
      have h3 : b < w.heap.size := Nat.lt_of_lt_of_le h1 hr.size
      have : (w.alloc (.cells c e fr)).heap[b]? = w.heap[b]? := by
        show (w.heap.push _)[b]? = _
        rw [Array.getElem?_push, if_neg (by omega)]
      rw [this]; exact hr.frame b h1 h2
    · intro i o ho
      obtain ⟨h1, h2⟩ := hvL_get ho
      match i, h1 with
      | 0, h1 =>
        simp only [List.getElem?_cons_zero, Option.some.injEq] at h1
        subst h1
        exact .inr ⟨w.heap.size, xs.length, c, fr, by simp [upd], hget, hfo, hcs, Nat.le_refl _, hels _ _ _⟩
      | i + 1, h1 => simp at h1
    · intro i o b K s' ho hs
      obtain ⟨h1, h2⟩ := hvL_get ho
      match i, h1 with
      | 0, h1 =>
        simp only [upd, if_true, Option.some.injEq, Loc.blk.injEq] at hs
        obtain ⟨rfl, -, -⟩ := hs
        exact ⟨.inl hr.size, by rw [alloc_size]; exact Nat.lt_succ_self _⟩
      | i + 1, h1 => simp at h1
    · intro i j o o' b K s1 K' s2 ho ho' hs hs'
      obtain ⟨h1, -⟩ := hvL_get ho
      obtain ⟨h2, -⟩ := hvL_get ho'
      have hi : i < 1 := by
        have := (List.getElem?_eq_some_iff.1 h1).1
        simpa using this
      have hj : j < 1 := by
        have := (List.getElem?_eq_some_iff.1 h2).1
        simpa using this
      omega
  · intro i hi
    simp only [List.length_cons, List.length_nil] at hi
    exact upd_other _ _ (by omega)
  · simp only [RV]
    exact .inr ⟨w.heap.size, xs.length, s, _, xs.length, by simp [upd], rfl, Nat.le_refl _, by omega, .inr (by simp)⟩
end Go.AX
