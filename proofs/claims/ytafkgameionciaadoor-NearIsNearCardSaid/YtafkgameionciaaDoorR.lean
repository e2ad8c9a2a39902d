/- The forests that are drawn, and what is known of them. -/
import Derived.Test.YtafkgameionciaaDoorG1
import Derived.Test.YtafkgameionciaaDoorG2
import Derived.Test.YtafkgameionciaaDoorG3
import Derived.Test.YtafkgameionciaaDoorG4
import Derived.Test.YtafkgameionciaaDoorG5
import Derived.Test.YtafkgameionciaaDoorG6
set_option linter.unusedSimpArgs false
set_option linter.unusedVariables false
namespace Go.AX
open Go Go.Proofs

abbrev tp (k a : List UInt8) : D := .agg [.str k, .str a]
abbrev sArt : List UInt8 := [97, 114, 116]
abbrev sBread : List UInt8 := [98, 114, 101, 97, 100]
abbrev sCake : List UInt8 := [99, 97, 107, 101]
abbrev sDark : List UInt8 := [100, 97, 114, 107]
abbrev sRolls : List UInt8 := [114, 111, 108, 108, 115]
abbrev sRye : List UInt8 := [114, 121, 101]
abbrev A3 : List (List UInt8) := [sRye, sBread, []]
abbrev B2 : List (List UInt8) := [sBread, sArt]
abbrev C3 : List (List UInt8) := [sBread, sRolls, []]
abbrev fo6 (a b c : List UInt8) : List D := [tp sArt [], tp sBread [], tp sCake sBread, tp sDark a, tp sRolls b, tp sRye c]
/-- A forest that may be drawn. -/
def FoOk (fo : List D) : Prop := (∃ a ∈ A3, ∃ b ∈ B2, ∃ c ∈ C3, fo = fo6 a b c) ∨ fo = [] ∨ fo = [tp sArt []] ∨ fo = [tp sArt [], tp sBread []]
/-- What holds of each of the forests holds of all. -/
theorem FoOk.each {p : List D → Prop} {fo : List D} (h : FoOk fo)
    (h0 : p (fo6 sRye sBread sBread))
    (h1 : p (fo6 sRye sBread sRolls))
    (h2 : p (fo6 sRye sBread []))
    (h3 : p (fo6 sRye sArt sBread))
    (h4 : p (fo6 sRye sArt sRolls))
    (h5 : p (fo6 sRye sArt []))
    (h6 : p (fo6 sBread sBread sBread))
    (h7 : p (fo6 sBread sBread sRolls))
    (h8 : p (fo6 sBread sBread []))
    (h9 : p (fo6 sBread sArt sBread))
    (h10 : p (fo6 sBread sArt sRolls))
    (h11 : p (fo6 sBread sArt []))
    (h12 : p (fo6 [] sBread sBread))
    (h13 : p (fo6 [] sBread sRolls))
    (h14 : p (fo6 [] sBread []))
    (h15 : p (fo6 [] sArt sBread))
    (h16 : p (fo6 [] sArt sRolls))
    (h17 : p (fo6 [] sArt []))
    (h18 : p []) (h19 : p [tp sArt []]) (h20 : p [tp sArt [], tp sBread []]) : p fo := by
  rcases h with ⟨a, ha, b, hb, c, hc, rfl⟩ | rfl | rfl | rfl
  · simp only [List.mem_cons, List.not_mem_nil, or_false] at ha hb hc
    rcases ha with rfl | rfl | rfl <;> rcases hb with rfl | rfl <;> rcases hc with rfl | rfl | rfl <;> assumption
  · assumption
  · assumption
  · assumption
theorem forestFault_ok {fo : List D} (h : FoOk fo) : Does Tryd.prog 28 [.d (.sl fo)] [] (I 0) [] :=
  h.each (p := fun fo => Does Tryd.prog 28 [.d (.sl fo)] [] (I 0) []) (tA0_ok _ (List.mem_cons_self ..)).1 (tA1_ok _ (List.mem_cons_self ..)).1 (tA2_ok _ (List.mem_cons_self ..)).1 (tA3_ok _ (List.mem_cons_self ..)).1 (tA4_ok _ (List.mem_cons_self ..)).1 (tA5_ok _ (List.mem_cons_self ..)).1 (tA6_ok _ (List.mem_cons_self ..)).1 (tA7_ok _ (List.mem_cons_self ..)).1 (tA8_ok _ (List.mem_cons_self ..)).1 (tA9_ok _ (List.mem_cons_self ..)).1 (tA10_ok _ (List.mem_cons_self ..)).1 (tA11_ok _ (List.mem_cons_self ..)).1 (tA12_ok _ (List.mem_cons_self ..)).1 (tA13_ok _ (List.mem_cons_self ..)).1 (tA14_ok _ (List.mem_cons_self ..)).1 (tA15_ok _ (List.mem_cons_self ..)).1 (tA16_ok _ (List.mem_cons_self ..)).1 (tA17_ok _ (List.mem_cons_self ..)).1 (tA18_ok _ (List.mem_cons_self ..)).1 (tA19_ok _ (List.mem_cons_self ..)).1 (tA20_ok _ (List.mem_cons_self ..)).1
end Go.AX

namespace Go.AX
open Go Go.Proofs

theorem getD_mem {α : Type} (l : List α) (i : Nat) (d : α) (h : i < l.length) : l.getD i d ∈ l := by
  simp [h]
theorem rightForest_any (l : List Int) (hl2 : l.length ≤ 9223372036854775807) : ∃ fo at_, FoOk fo ∧ 0 ≤ at_ ∧ at_ ≤ 5 ∧
    Does Tryd.prog 6 [.ptr 0 0] [.box 25 [Ls l, I 0]] (.d (.sl fo)) [.box 25 [Ls l, I at_]] := by
  have c0 := one_any l hl2 0 (by omega) (by omega) A3 (by simp) (by simp)
  have c1 := one_any l hl2 (0 + 1) (by omega) (by omega) B2 (by simp) (by simp)
  have c2 := one_any l hl2 (0 + 1 + 1) (by omega) (by omega) C3 (by simp) (by simp)
  have c3 := flip_any l hl2 (0 + 1 + 1 + 1) 3 (by omega) (by omega) (by omega) (by omega)
  have c4 := next_any l hl2 (0 + 1 + 1 + 1 + 1) 3 (by omega) (by omega) (by omega) (by omega)
  have r0 := nextV_range l 0 A3.length (by simp)
  have r1 := nextV_range l (0 + 1) B2.length (by simp)
  have r2 := nextV_range l (0 + 1 + 1) C3.length (by simp)
  have r4 := nextV_range l (0 + 1 + 1 + 1 + 1) 3 (by omega)
  have ha := getD_mem A3 (nextV l 0 A3.length).toNat [] (by omega)
  have hb := getD_mem B2 (nextV l (0 + 1) B2.length).toNat [] (by omega)
  have hc := getD_mem C3 (nextV l (0 + 1 + 1) C3.length).toNat [] (by omega)
  generalize A3.getD (nextV l 0 A3.length).toNat [] = a at c0 ha
  generalize B2.getD (nextV l (0 + 1) B2.length).toNat [] = b at c1 hb
  generalize C3.getD (nextV l (0 + 1 + 1) C3.length).toNat [] = c at c2 hc
  generalize (nextV l (0 + 1 + 1 + 1) 3 == 0) = t at c3
  generalize nextV l (0 + 1 + 1 + 1 + 1) 3 = r at c4 r4
  have hf6 : FoOk (fo6 a b c) := .inl ⟨a, ha, b, hb, c, hc, rfl⟩
  cases t with
  | false =>
    refine ⟨fo6 a b c, 0 + 1 + 1 + 1 + 1, hf6, by omega, by omega, ?_⟩
    refine Does.of_AW (n := 30) Tryd.func6 rfl rfl rfl fun cx hcx => ?_
    refine AW.sreg rfl fun K hK => ?_; simp only [go_sem, Nat.reduceAdd, Nat.reduceMul, Int.reduceToNat, Nat.reduceLT, Nat.reduceLeDiff, Nat.le_refl, Nat.reduceEqDiff, ↓reduceIte, beq_self_eq_true, bne_self_eq_false, Int.reduceBEq, Int.reduceBNe]
    refine hK _ ?_; (try clear hK K)
    refine AW.sreg rfl fun K hK => ?_; simp only [go_sem, Nat.reduceAdd, Nat.reduceMul, Int.reduceToNat, Nat.reduceLT, Nat.reduceLeDiff, Nat.le_refl, Nat.reduceEqDiff, ↓reduceIte, beq_self_eq_true, bne_self_eq_false, Int.reduceBEq, Int.reduceBNe]
    refine run_call _ _ _ ((c0).two 0 384 (by decide) rfl rfl rfl rfl rfl rfl rfl rfl rfl rfl rfl rfl rfl rfl rfl rfl) rfl rfl (dstOk_of rfl) rfl rfl rfl ?_
    simp only [go_sem, Nat.reduceAdd, Nat.reduceMul, Int.reduceToNat, Nat.reduceLT, Nat.reduceLeDiff, Nat.le_refl, Nat.reduceEqDiff, ↓reduceIte, beq_self_eq_true, bne_self_eq_false, Int.reduceBEq, Int.reduceBNe]
    refine run_call _ _ _ ((c1).two 0 640 (by decide) rfl rfl rfl rfl rfl rfl rfl rfl rfl rfl rfl rfl rfl rfl rfl rfl) rfl rfl (dstOk_of rfl) rfl rfl rfl ?_
    simp only [go_sem, Nat.reduceAdd, Nat.reduceMul, Int.reduceToNat, Nat.reduceLT, Nat.reduceLeDiff, Nat.le_refl, Nat.reduceEqDiff, ↓reduceIte, beq_self_eq_true, bne_self_eq_false, Int.reduceBEq, Int.reduceBNe]
    refine run_call _ _ _ ((c2).two 0 896 (by decide) rfl rfl rfl rfl rfl rfl rfl rfl rfl rfl rfl rfl rfl rfl rfl rfl) rfl rfl (dstOk_of rfl) rfl rfl rfl ?_
    simp only [go_sem, Nat.reduceAdd, Nat.reduceMul, Int.reduceToNat, Nat.reduceLT, Nat.reduceLeDiff, Nat.le_refl, Nat.reduceEqDiff, ↓reduceIte, beq_self_eq_true, bne_self_eq_false, Int.reduceBEq, Int.reduceBNe]
    refine hK _ ?_; (try clear hK K)
    refine AW.seq_k fun K1 hK1 => ?_
    refine AW.sreg rfl fun K hK => ?_; simp only [go_sem, Nat.reduceAdd, Nat.reduceMul, Int.reduceToNat, Nat.reduceLT, Nat.reduceLeDiff, Nat.le_refl, Nat.reduceEqDiff, ↓reduceIte, beq_self_eq_true, bne_self_eq_false, Int.reduceBEq, Int.reduceBNe]
    refine run_call _ _ _ ((c3).one 0 rfl rfl rfl rfl rfl rfl rfl rfl rfl rfl) rfl rfl (dstOk_of rfl) rfl rfl rfl ?_
    simp only [go_sem, Nat.reduceAdd, Nat.reduceMul, Int.reduceToNat, Nat.reduceLT, Nat.reduceLeDiff, Nat.le_refl, Nat.reduceEqDiff, ↓reduceIte, beq_self_eq_true, bne_self_eq_false, Int.reduceBEq, Int.reduceBNe]
    refine hK _ ?_; (try clear hK K)
    refine AW.condF rfl rfl (AW.skip (hK1 _ ?_))
    refine AW.seq_k fun K2 hK2 => ?_
    refine AW.sreg rfl fun K hK => ?_; simp only [go_sem, Nat.reduceAdd, Nat.reduceMul, Int.reduceToNat, Nat.reduceLT, Nat.reduceLeDiff, Nat.le_refl, Nat.reduceEqDiff, ↓reduceIte, beq_self_eq_true, bne_self_eq_false, Int.reduceBEq, Int.reduceBNe]
    refine run_call _ _ _ ((forestFault_ok hf6).borrow rfl rfl rfl) rfl rfl (dstOk_of rfl) rfl rfl rfl ?_
    simp only [go_sem, Nat.reduceAdd, Nat.reduceMul, Int.reduceToNat, Nat.reduceLT, Nat.reduceLeDiff, Nat.le_refl, Nat.reduceEqDiff, ↓reduceIte, beq_self_eq_true, bne_self_eq_false, Int.reduceBEq, Int.reduceBNe]
    refine hK _ ?_; (try clear hK K)
    refine AW.condF rfl rfl (AW.skip (hK2 _ ?_))
    refine AW.sreg rfl fun K hK => ?_; simp only [go_sem, Nat.reduceAdd, Nat.reduceMul, Int.reduceToNat, Nat.reduceLT, Nat.reduceLeDiff, Nat.le_refl, Nat.reduceEqDiff, ↓reduceIte, beq_self_eq_true, bne_self_eq_false, Int.reduceBEq, Int.reduceBNe]
    exact hK _ (AW.ret (Fin.one rfl rfl ⟨_, rfl, rfl⟩ rfl rfl rfl))
  | true =>
    have hr : ∃ fo, FoOk fo ∧ fo = (fo6 a b c).take r.toNat ∧ (r = 0 ∨ r = 1 ∨ r = 2) := by
      obtain rfl | rfl | rfl : r = 0 ∨ r = 1 ∨ r = 2 := by omega
      · exact ⟨[], .inr (.inl rfl), rfl, by omega⟩
      · exact ⟨[tp sArt []], .inr (.inr (.inl rfl)), rfl, by omega⟩
      · exact ⟨[tp sArt [], tp sBread []], .inr (.inr (.inr rfl)), rfl, by omega⟩
    obtain ⟨fo, hfo, hfe, hr⟩ := hr
    refine ⟨fo, 0 + 1 + 1 + 1 + 1 + 1, hfo, by omega, by omega, ?_⟩
    refine Does.of_AW (n := 30) Tryd.func6 rfl rfl rfl fun cx hcx => ?_
    refine AW.sreg rfl fun K hK => ?_; simp only [go_sem, Nat.reduceAdd, Nat.reduceMul, Int.reduceToNat, Nat.reduceLT, Nat.reduceLeDiff, Nat.le_refl, Nat.reduceEqDiff, ↓reduceIte, beq_self_eq_true, bne_self_eq_false, Int.reduceBEq, Int.reduceBNe]
    refine hK _ ?_; (try clear hK K)
    refine AW.sreg rfl fun K hK => ?_; simp only [go_sem, Nat.reduceAdd, Nat.reduceMul, Int.reduceToNat, Nat.reduceLT, Nat.reduceLeDiff, Nat.le_refl, Nat.reduceEqDiff, ↓reduceIte, beq_self_eq_true, bne_self_eq_false, Int.reduceBEq, Int.reduceBNe]
    refine run_call _ _ _ ((c0).two 0 384 (by decide) rfl rfl rfl rfl rfl rfl rfl rfl rfl rfl rfl rfl rfl rfl rfl rfl) rfl rfl (dstOk_of rfl) rfl rfl rfl ?_
    simp only [go_sem, Nat.reduceAdd, Nat.reduceMul, Int.reduceToNat, Nat.reduceLT, Nat.reduceLeDiff, Nat.le_refl, Nat.reduceEqDiff, ↓reduceIte, beq_self_eq_true, bne_self_eq_false, Int.reduceBEq, Int.reduceBNe]
    refine run_call _ _ _ ((c1).two 0 640 (by decide) rfl rfl rfl rfl rfl rfl rfl rfl rfl rfl rfl rfl rfl rfl rfl rfl) rfl rfl (dstOk_of rfl) rfl rfl rfl ?_
    simp only [go_sem, Nat.reduceAdd, Nat.reduceMul, Int.reduceToNat, Nat.reduceLT, Nat.reduceLeDiff, Nat.le_refl, Nat.reduceEqDiff, ↓reduceIte, beq_self_eq_true, bne_self_eq_false, Int.reduceBEq, Int.reduceBNe]
    refine run_call _ _ _ ((c2).two 0 896 (by decide) rfl rfl rfl rfl rfl rfl rfl rfl rfl rfl rfl rfl rfl rfl rfl rfl) rfl rfl (dstOk_of rfl) rfl rfl rfl ?_
    simp only [go_sem, Nat.reduceAdd, Nat.reduceMul, Int.reduceToNat, Nat.reduceLT, Nat.reduceLeDiff, Nat.le_refl, Nat.reduceEqDiff, ↓reduceIte, beq_self_eq_true, bne_self_eq_false, Int.reduceBEq, Int.reduceBNe]
    refine hK _ ?_; (try clear hK K)
    refine AW.seq_k fun K1 hK1 => ?_
    refine AW.sreg rfl fun K hK => ?_; simp only [go_sem, Nat.reduceAdd, Nat.reduceMul, Int.reduceToNat, Nat.reduceLT, Nat.reduceLeDiff, Nat.le_refl, Nat.reduceEqDiff, ↓reduceIte, beq_self_eq_true, bne_self_eq_false, Int.reduceBEq, Int.reduceBNe]
    refine run_call _ _ _ ((c3).one 0 rfl rfl rfl rfl rfl rfl rfl rfl rfl rfl) rfl rfl (dstOk_of rfl) rfl rfl rfl ?_
    simp only [go_sem, Nat.reduceAdd, Nat.reduceMul, Int.reduceToNat, Nat.reduceLT, Nat.reduceLeDiff, Nat.le_refl, Nat.reduceEqDiff, ↓reduceIte, beq_self_eq_true, bne_self_eq_false, Int.reduceBEq, Int.reduceBNe]
    refine hK _ ?_; (try clear hK K)
    refine AW.condT rfl rfl ?_
    rcases hr with rfl | rfl | rfl
    all_goals
      subst hfe
      refine AW.reg rfl ?_; simp only [go_sem, Nat.reduceAdd, Nat.reduceMul, Int.reduceToNat, Nat.reduceLT, Nat.reduceLeDiff, Nat.le_refl, Nat.reduceEqDiff, ↓reduceIte, beq_self_eq_true, bne_self_eq_false, Int.reduceBEq, Int.reduceBNe]
      refine run_call _ _ _ ((c4).one 0 rfl rfl rfl rfl rfl rfl rfl rfl rfl rfl) rfl rfl (dstOk_of rfl) rfl rfl rfl ?_
      simp only [go_sem, Nat.reduceAdd, Nat.reduceMul, Int.reduceToNat, Nat.reduceLT, Nat.reduceLeDiff, Nat.le_refl, Nat.reduceEqDiff, ↓reduceIte, beq_self_eq_true, bne_self_eq_false, Int.reduceBEq, Int.reduceBNe]
      refine ⟨by decide, ?_⟩
      simp only [go_sem, Nat.reduceAdd, Nat.reduceMul, Int.reduceToNat, Nat.reduceLT, Nat.reduceLeDiff, Nat.le_refl, Nat.reduceEqDiff, ↓reduceIte, beq_self_eq_true, bne_self_eq_false, Int.reduceBEq, Int.reduceBNe]
      refine hK1 _ ?_
      refine AW.seq_k fun K2 hK2 => ?_
      refine AW.sreg rfl fun K hK => ?_; simp only [go_sem, Nat.reduceAdd, Nat.reduceMul, Int.reduceToNat, Nat.reduceLT, Nat.reduceLeDiff, Nat.le_refl, Nat.reduceEqDiff, ↓reduceIte, beq_self_eq_true, bne_self_eq_false, Int.reduceBEq, Int.reduceBNe]
      refine run_call _ _ _ ((forestFault_ok hfo).borrow rfl rfl rfl) rfl rfl (dstOk_of rfl) rfl rfl rfl ?_
      simp only [go_sem, Nat.reduceAdd, Nat.reduceMul, Int.reduceToNat, Nat.reduceLT, Nat.reduceLeDiff, Nat.le_refl, Nat.reduceEqDiff, ↓reduceIte, beq_self_eq_true, bne_self_eq_false, Int.reduceBEq, Int.reduceBNe]
      refine hK _ ?_; (try clear hK K)
      refine AW.condF rfl rfl (AW.skip (hK2 _ ?_))
      refine AW.sreg rfl fun K hK => ?_; simp only [go_sem, Nat.reduceAdd, Nat.reduceMul, Int.reduceToNat, Nat.reduceLT, Nat.reduceLeDiff, Nat.le_refl, Nat.reduceEqDiff, ↓reduceIte, beq_self_eq_true, bne_self_eq_false, Int.reduceBEq, Int.reduceBNe]
      exact hK _ (AW.ret (Fin.one rfl rfl ⟨_, rfl, rfl⟩ rfl rfl rfl))
end Go.AX

namespace Go.AX
open Go Go.Proofs
theorem near_each {cx : Cx} (hcx : CxOk cx 0) {fo : List D} (h : FoOk fo) : AW Tryd.prog cx (dropSeq 3 ((Tryd.f5).body.getD .skip)) (RetQ Tryd.prog Tryd.f5 0 (B true) []) ⟨119, [(4, .d (.sl fo)), (2, B false)], [], 0⟩ :=
  h.each (p := fun fo => AW Tryd.prog cx (dropSeq 3 ((Tryd.f5).body.getD .skip)) (RetQ Tryd.prog Tryd.f5 0 (B true) []) ⟨119, [(4, .d (.sl fo)), (2, B false)], [], 0⟩) (near0_ok hcx) (near1_ok hcx) (near2_ok hcx) (near3_ok hcx) (near4_ok hcx) (near5_ok hcx) (near6_ok hcx) (near7_ok hcx) (near8_ok hcx) (near9_ok hcx) (near10_ok hcx) (near11_ok hcx) (near12_ok hcx) (near13_ok hcx) (near14_ok hcx) (near15_ok hcx) (near16_ok hcx) (near17_ok hcx) (near18_ok hcx) (near19_ok hcx) (near20_ok hcx)
theorem law_ok (l : List Int) (hl : l.length ≤ 9223372036854775807) : Does Tryd.prog 5 [Ls l] [] (B true) [] := by
  obtain ⟨fo, at_, hfo, h1, h2, hd⟩ := rightForest_any l hl
  refine Does.of_AW (n := 119) Tryd.func5 rfl rfl rfl fun cx hcx => ?_
  refine AW.sreg rfl fun K hK => ?_; simp only [go_sem, Nat.reduceAdd, Nat.reduceMul, Int.reduceToNat, Nat.reduceLT, Nat.reduceLeDiff, Nat.le_refl, Nat.reduceEqDiff, ↓reduceIte, beq_self_eq_true, bne_self_eq_false, Int.reduceBEq, Int.reduceBNe]
  refine hK _ ?_; (try clear hK K)
  refine AW.sreg rfl fun K hK => ?_; simp only [go_sem, Nat.reduceAdd, Nat.reduceMul, Int.reduceToNat, Nat.reduceLT, Nat.reduceLeDiff, Nat.le_refl, Nat.reduceEqDiff, ↓reduceIte, beq_self_eq_true, bne_self_eq_false, Int.reduceBEq, Int.reduceBNe]
  refine hK _ ?_; (try clear hK K)
  refine AW.sreg rfl fun K hK => ?_; simp only [go_sem, Nat.reduceAdd, Nat.reduceMul, Int.reduceToNat, Nat.reduceLT, Nat.reduceLeDiff, Nat.le_refl, Nat.reduceEqDiff, ↓reduceIte, beq_self_eq_true, bne_self_eq_false, Int.reduceBEq, Int.reduceBNe]
  refine run_call _ _ _ ((hd).one 192 rfl rfl rfl rfl rfl rfl rfl rfl rfl rfl) rfl rfl (dstOk_of rfl) rfl rfl rfl ?_
  simp only [go_sem, Nat.reduceAdd, Nat.reduceMul, Int.reduceToNat, Nat.reduceLT, Nat.reduceLeDiff, Nat.le_refl, Nat.reduceEqDiff, ↓reduceIte, beq_self_eq_true, bne_self_eq_false, Int.reduceBEq, Int.reduceBNe]
  refine hK _ ?_; (try clear hK K)
  refine AW.weak (st' := ⟨119, [(4, .d (.sl fo)), (2, B false)], [], 0⟩) (Weak.data hcx rfl rfl (by simp [go_sem])) ?_
  exact near_each hcx hfo
end Go.AX
