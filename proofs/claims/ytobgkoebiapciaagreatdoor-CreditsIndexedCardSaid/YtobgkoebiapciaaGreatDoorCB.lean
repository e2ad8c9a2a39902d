/- Volumes: pages and the index: the plain law. -/
import Derived.Test.YtobgkoebiapciaaGreatDoorCA
import Derived.Lib.SplitLaws
import Derived.Lib.IndexBytes
set_option linter.unusedSimpArgs false
set_option linter.unusedVariables false
set_option linter.unnecessarySimpa false
set_option maxRecDepth 1000000
set_option maxHeartbeats 4000000
set_option maxRecDepth 100000
namespace Go.AX
open Go
theorem get_lt {α : Type} {xs : List α} {i : Nat} {x : α} (h : xs[i]? = some x) : i < xs.length := (List.getElem?_eq_some_iff.1 h).1
/-- A chapter: title, papers. -/
abbrev Chp := Str × List Str
abbrev chD (c : Chp) : D := .agg [.str c.1, .sl (c.2.map D.str)]
/-- A volume: first page, whether papers begin on the right, chapters. -/
abbrev Vol := Int × Bool × List Chp
abbrev voD (v : Vol) : D := .agg [.int .i64 v.1, .bool v.2.1, .sl (v.2.2.map chD)]
/-- A leaf: paper, from, to. -/
abbrev Lea := Str × Int × Int
abbrev leD (x : Lea) : D := .agg [.str x.1, .int .i64 x.2.1, .int .i64 x.2.2]
/-- The papers of a volume. -/
def psV (cs : List Chp) : List Str := cs.flatMap (·.2)
def finAt (fs : List Fi) (p : Str) : Fi := (fs.find? (fun f => f.1 == p)).getD ([], [], 0, [])
theorem finAt_mem {fs : List Fi} {p : Str} (h : p ∈ fs.map (·.1)) : finAt fs p ∈ fs ∧ (finAt fs p).1 = p := by
  obtain ⟨f, hf, rfl⟩ := List.mem_map.1 h
  unfold finAt
  cases hx : fs.find? (fun g => g.1 == f.1) with
  | none =>
    have := List.find?_eq_none.1 hx f hf
    simp at this
  | some g =>
    have h1 := List.find?_some hx
    exact ⟨List.mem_of_find?_eq_some hx, by simpa using h1⟩
/-- The page on which a paper begins. -/
def pgR (r : Bool) (g : Int) : Int := if r = true ∧ g.tmod 2 = 0 then g + 1 else g
theorem pgR_le (r : Bool) (g : Int) : g ≤ pgR r g ∧ pgR r g ≤ g + 1 := by
  unfold pgR
  split <;> omega
def pgN (r : Bool) (fs : List Fi) (p : Str) (g : Int) : Int := pgR r g + (finAt fs p).2.2.1
def lvs (r : Bool) (fs : List Fi) : List Str → Int → List Lea
  | [], _ => []
  | p :: ps, g => (p, pgR r g, pgR r g + (finAt fs p).2.2.1 - 1) :: lvs r fs ps (pgN r fs p g)
theorem lvs_len (r : Bool) (fs : List Fi) : ∀ (a : List Str) (g : Int), (lvs r fs a g).length = a.length
  | [], _ => rfl
  | p :: a, g => by simp [lvs, lvs_len r fs a]
theorem lvs_map (r : Bool) (fs : List Fi) : ∀ (a : List Str) (g : Int), (lvs r fs a g).map (·.1) = a
  | [], _ => rfl
  | p :: a, g => by simp [lvs, lvs_map r fs a]
def ttOk (s : Str) : Bool := !(s == [])
def scanP (fs : List Fi) : List Str → List Str → (List Str → Int) → Int
  | [], seen, k => k seen
  | p :: r, seen, k => if p ∈ fs.map (·.1) then (if p ∈ seen then 6 else scanP fs r (seen ++ [p]) k) else 8
def scanC (fs : List Fi) (k : Int) : List Chp → List Str → Int
  | [], _ => k
  | c :: r, seen => if ttOk c.1 = true then scanP fs c.2 seen (fun s => scanC fs k r s) else 3
def endV (fs : List Fi) (v : Vol) : Int := match (lvs v.2.1 fs (psV v.2.2) v.1).getLast? with
  | some x => if 5000 < x.2.2 then 2 else 0
  | none => 0
def volF (fs : List Fi) (v : Vol) : Int := if v.1 < 1 ∨ 5000 < v.1 then 1 else scanC fs (endV fs v) v.2.2 []
theorem scanP_zero {fs : List Fi} {k : List Str → Int} : ∀ (ps seen : List Str), scanP fs ps seen k = 0 → seen.Nodup → (∀ p ∈ seen, p ∈ fs.map (·.1)) → k (seen ++ ps) = 0 ∧ (seen ++ ps).Nodup ∧ ∀ p ∈ seen ++ ps, p ∈ fs.map (·.1)
  | [], seen, h, h1, h2 => by
    rw [List.append_nil]
    exact ⟨h, h1, h2⟩
  | p :: r, seen, h, h1, h2 => by
    unfold scanP at h
    split at h
    · rename_i hp
      split at h
      · cases h
      · rename_i hs
        have := scanP_zero r (seen ++ [p]) h (by
          rw [List.nodup_append]
          exact ⟨h1, by simp, fun a ha b hb => by
            obtain rfl := List.mem_singleton.1 hb
            rintro rfl
            exact hs ha⟩) fun q hq => by
          rcases List.mem_append.1 hq with hq | hq
          · exact h2 q hq
          · rw [List.mem_singleton.1 hq]; exact hp
        simpa using this
    · cases h
theorem scanC_zero {fs : List Fi} {k : Int} : ∀ (cs : List Chp) (seen : List Str), scanC fs k cs seen = 0 → seen.Nodup → (∀ p ∈ seen, p ∈ fs.map (·.1)) → k = 0 ∧ (seen ++ psV cs).Nodup ∧ ∀ p ∈ seen ++ psV cs, p ∈ fs.map (·.1)
  | [], seen, h, h1, h2 => by
    simp only [psV, List.flatMap_nil, List.append_nil]
    exact ⟨h, h1, h2⟩
  | c :: r, seen, h, h1, h2 => by
    unfold scanC at h
    split at h
    · obtain ⟨a1, a2, a3⟩ := scanP_zero c.2 seen h h1 h2
      have := scanC_zero r (seen ++ c.2) a1 a2 a3
      simpa [psV] using this
    · cases h
/-- A volume that has no fault. -/
structure VolG (fs : List Fi) (v : Vol) : Prop where
  first : 1 ≤ v.1 ∧ v.1 ≤ 5000
  nd : (psV v.2.2).Nodup
  inn : ∀ p ∈ psV v.2.2, p ∈ fs.map (·.1)
theorem volF_zero {fs : List Fi} {v : Vol} (h : volF fs v = 0) : VolG fs v := by
  unfold volF at h
  split at h
  · cases h
  · rename_i h0
    obtain ⟨-, h1, h2⟩ := scanC_zero v.2.2 [] h List.nodup_nil (by simp)
    exact ⟨by omega, by simpa using h1, by simpa using h2⟩
theorem ps_len {fs : List Fi} (hf : (fs.map (·.1)).Sublist P4) {l : List Str} (hn : l.Nodup) (h : ∀ p ∈ l, p ∈ fs.map (·.1)) : l.length ≤ 4 := by
  have := hn.length_le_of_subset (l₂ := P4) fun p hp => hf.subset (h p hp)
  simpa [P4] using this
/-! the index -/
abbrev IK := Str × Str
abbrev Grp := IK × List Int
def addI : List Grp → IK → Int → List Grp
  | [], k, n => [(k, [n])]
  | g :: r, k, n => if g.1 = k then (k, g.2 ++ [n]) :: r else g :: addI r k n
theorem addI_in {k : IK} {n : Int} : ∀ {gs : List Grp} {j : Nat} {g : Grp}, (gs.map (·.1)).Nodup → gs[j]? = some g → g.1 = k → addI gs k n = gs.set j (k, g.2 ++ [n])
  | [], _, _, _, h, _ => by simp at h
  | x :: r, 0, g, _, h, e => by
    simp only [List.getElem?_cons_zero, Option.some.injEq] at h
    subst h
    simp [addI, e]
  | x :: r, j + 1, g, hn, h, e => by
    simp only [List.getElem?_cons_succ] at h
    simp only [List.map_cons, List.nodup_cons] at hn
    have hx : x.1 ≠ k := fun e2 => hn.1 (by rw [e2, ← e]; exact List.mem_map_of_mem (List.mem_of_getElem? h))
    simp only [addI, if_neg hx, List.set_cons_succ, addI_in hn.2 h e]
theorem addI_out {k : IK} {n : Int} : ∀ {gs : List Grp}, k ∉ gs.map (·.1) → addI gs k n = gs ++ [(k, [n])]
  | [], _ => rfl
  | x :: r, h => by
    simp only [List.map_cons, List.mem_cons, not_or] at h
    simp only [addI, if_neg (Ne.symm h.1), List.cons_append, addI_out h.2]
def hasI (gs : List Grp) (k : IK) (n : Int) : Prop := ∃ g ∈ gs, g.1 = k ∧ n ∈ g.2
theorem addI_has (k : IK) (n : Int) : ∀ gs : List Grp, hasI (addI gs k n) k n
  | [] => ⟨(k, [n]), by simp [addI], rfl, by simp⟩
  | g :: r => by
    unfold addI
    split
    · exact ⟨(k, g.2 ++ [n]), by simp, rfl, by simp⟩
    · obtain ⟨x, h1, h2⟩ := addI_has k n r
      exact ⟨x, by simp [h1], h2⟩
theorem addI_keep {k' : IK} {n' : Int} (k : IK) (n : Int) : ∀ {gs : List Grp}, hasI gs k' n' → hasI (addI gs k n) k' n'
  | [], h => by obtain ⟨x, hx, _⟩ := h; simp at hx
  | g :: r, h => by
    obtain ⟨x, hx, h2⟩ := h
    unfold addI
    split
    · rename_i e
      rcases List.mem_cons.1 hx with rfl | hx
      · exact ⟨(k, x.2 ++ [n]), by simp, by rw [← e]; exact h2.1, by simp [h2.2]⟩
      · exact ⟨x, by simp [hx], h2⟩
    · rcases List.mem_cons.1 hx with rfl | hx
      · exact ⟨x, by simp, h2⟩
      · obtain ⟨y, hy, h3⟩ := addI_keep k n (gs := r) ⟨x, hx, h2⟩
        exact ⟨y, by simp [hy], h3⟩
def totI : List Grp → Int
  | [] => 0
  | g :: r => g.2.length + totI r
theorem addI_tot (k : IK) (n : Int) : ∀ gs : List Grp, totI (addI gs k n) = totI gs + 1
  | [] => by simp [addI, totI]
  | g :: r => by
    unfold addI
    split
    · simp only [totI, List.length_append, List.length_cons, List.length_nil]; omega
    · simp only [totI, addI_tot k n r]; omega
theorem addI_mem {k : IK} {n : Int} {gs : List Grp} {x : IK} (h : x ∈ (addI gs k n).map (·.1)) : x ∈ gs.map (·.1) ∨ x = k := by
  induction gs with
  | nil => simp [addI] at h; exact .inr h
  | cons g r ih =>
    unfold addI at h
    split at h
    · rename_i e
      simp only [List.map_cons, List.mem_cons] at h ⊢
      rcases h with h | h
      · exact .inr h
      · exact .inl (.inr h)
    · simp only [List.map_cons, List.mem_cons] at h ⊢
      rcases h with h | h
      · exact .inl (.inl h)
      · rcases ih h with h | h
        · exact .inl (.inr h)
        · exact .inr h
theorem addI_nd {k : IK} {n : Int} {gs : List Grp} (h : (gs.map (·.1)).Nodup) : ((addI gs k n).map (·.1)).Nodup := by
  induction gs with
  | nil => simp [addI]
  | cons g r ih =>
    simp only [List.map_cons, List.nodup_cons] at h
    unfold addI
    split
    · rename_i e
      simp only [List.map_cons, List.nodup_cons]
      exact ⟨e ▸ h.1, h.2⟩
    · rename_i e
      simp only [List.map_cons, List.nodup_cons]
      refine ⟨fun hm => ?_, ih h.2⟩
      rcases addI_mem hm with hm | hm
      · exact h.1 hm
      · exact e hm
theorem addI_pos {k : IK} {n : Int} {gs : List Grp} (h : ∀ g ∈ gs, g.2 ≠ []) : ∀ g ∈ addI gs k n, g.2 ≠ [] := by
  induction gs with
  | nil => simp [addI]
  | cons x r ih =>
    unfold addI
    split
    · intro g hg
      rcases List.mem_cons.1 hg with rfl | hg
      · simp
      · exact h g (by simp [hg])
    · intro g hg
      rcases List.mem_cons.1 hg with rfl | hg
      · exact h _ (by simp)
      · exact ih (fun g hg => h g (by simp [hg])) g hg
theorem addI_key {Q : Str → Prop} {k : IK} {n : Int} : ∀ {gs : List Grp}, (∀ g ∈ gs, Q g.1.1) → Q k.1 → ∀ g ∈ addI gs k n, Q g.1.1
  | [], _, hk, g, hg => by
    obtain rfl := List.mem_singleton.1 hg
    exact hk
  | x :: r, h, hk, g, hg => by
    unfold addI at hg
    split at hg
    · rcases List.mem_cons.1 hg with rfl | hg
      · exact hk
      · exact h g (by simp [hg])
    · rcases List.mem_cons.1 hg with rfl | hg
      · exact h _ (by simp)
      · exact addI_key (gs := r) (fun g hg => h g (by simp [hg])) hk g hg
section
variable (snF : Str → Str)
def ixC (n : Int) (gs : List Grp) (cs : List Cr) : List Grp := cs.foldl (fun gs c => addI gs (snF c.2, c.1) n) gs
def ixF (fs : List Fi) (gs : List Grp) (ls : List Lea) : List Grp := ls.foldl (fun gs x => ixC snF x.2.1 gs (finAt fs x.1).2.2.2) gs
theorem ixC_keep {k : IK} {n' : Int} (n : Int) : ∀ (cs : List Cr) {gs : List Grp}, hasI gs k n' → hasI (ixC snF n gs cs) k n'
  | [], gs, h => h
  | c :: r, gs, h => ixC_keep n r (addI_keep _ _ h)
theorem ixC_has (n : Int) : ∀ (cs : List Cr) (gs : List Grp), ∀ c ∈ cs, hasI (ixC snF n gs cs) (snF c.2, c.1) n
  | [], gs, c, h => by simp at h
  | x :: r, gs, c, h => by
    rcases List.mem_cons.1 h with rfl | h
    · exact ixC_keep snF n r (addI_has _ _ _)
    · exact ixC_has n r _ c h
theorem ixC_tot (n : Int) : ∀ (cs : List Cr) (gs : List Grp), totI (ixC snF n gs cs) = totI gs + cs.length
  | [], gs => by simp [ixC]
  | x :: r, gs => by
    have := ixC_tot n r (addI gs (snF x.2, x.1) n)
    rw [addI_tot] at this
    simp only [List.length_cons]
    unfold ixC at *
    simp only [List.foldl_cons]
    omega
theorem ixC_ok (n : Int) : ∀ (cs : List Cr) {gs : List Grp}, (gs.map (·.1)).Nodup → (∀ g ∈ gs, g.2 ≠ []) → ((ixC snF n gs cs).map (·.1)).Nodup ∧ ∀ g ∈ ixC snF n gs cs, g.2 ≠ []
  | [], gs, h, h2 => ⟨h, h2⟩
  | x :: r, gs, h, h2 => ixC_ok n r (addI_nd h) (addI_pos h2)
theorem ixF_keep (fs : List Fi) {k : IK} {n : Int} : ∀ (ls : List Lea) {gs : List Grp}, hasI gs k n → hasI (ixF snF fs gs ls) k n
  | [], gs, h => h
  | x :: r, gs, h => ixF_keep fs r (ixC_keep snF _ _ h)
theorem ixF_has (fs : List Fi) : ∀ (ls : List Lea) (gs : List Grp), ∀ x ∈ ls, ∀ c ∈ (finAt fs x.1).2.2.2, hasI (ixF snF fs gs ls) (snF c.2, c.1) x.2.1
  | [], gs, x, h => by simp at h
  | y :: r, gs, x, h => by
    intro c hc
    rcases List.mem_cons.1 h with rfl | h
    · exact ixF_keep snF fs r (ixC_has snF _ _ _ c hc)
    · exact ixF_has fs r _ x h c hc
theorem ixC_key {Q : Str → Prop} (n : Int) : ∀ (cs : List Cr) {gs : List Grp}, (∀ g ∈ gs, Q g.1.1) → (∀ c ∈ cs, Q (snF c.2)) → ∀ g ∈ ixC snF n gs cs, Q g.1.1
  | [], gs, h, _ => h
  | x :: r, gs, h, hc => ixC_key n r (addI_key h (hc x (by simp))) fun c hc' => hc c (by simp [hc'])
theorem ixF_key {Q : Str → Prop} (fs : List Fi) : ∀ (ls : List Lea) {gs : List Grp}, (∀ g ∈ gs, Q g.1.1) → (∀ x ∈ ls, ∀ c ∈ (finAt fs x.1).2.2.2, Q (snF c.2)) → ∀ g ∈ ixF snF fs gs ls, Q g.1.1
  | [], gs, h, _ => h
  | x :: r, gs, h, hc => ixF_key fs r (ixC_key snF x.2.1 _ h (hc x (by simp))) fun y hy => hc y (by simp [hy])
def manyL (fs : List Fi) : List Lea → Int
  | [] => 0
  | x :: r => ((finAt fs x.1).2.2.2.length : Int) + manyL fs r
theorem ixF_tot (fs : List Fi) : ∀ (ls : List Lea) (gs : List Grp), totI (ixF snF fs gs ls) = totI gs + manyL fs ls
  | [], gs => by simp [ixF, manyL]
  | x :: r, gs => by
    have := ixF_tot fs r (ixC snF x.2.1 gs (finAt fs x.1).2.2.2)
    rw [ixC_tot] at this
    simp only [manyL]
    unfold ixF at *
    simp only [List.foldl_cons]
    omega
theorem ixF_ok (fs : List Fi) : ∀ (ls : List Lea) {gs : List Grp}, (gs.map (·.1)).Nodup → (∀ g ∈ gs, g.2 ≠ []) → ((ixF snF fs gs ls).map (·.1)).Nodup ∧ ∀ g ∈ ixF snF fs gs ls, g.2 ≠ []
  | [], gs, h, h2 => ⟨h, h2⟩
  | x :: r, gs, h, h2 => by
    obtain ⟨h3, h4⟩ := ixC_ok snF x.2.1 (finAt fs x.1).2.2.2 h h2
    exact ixF_ok fs r h3 h4
end
theorem totI_perm {a b : List Grp} (h : a.Perm b) : totI a = totI b := by
  induction h with
  | nil => rfl
  | cons x _ ih => simp only [totI, ih]
  | swap x y l => simp only [totI]; omega
  | trans _ _ ih1 ih2 => rw [ih1, ih2]
theorem totI_app (a b : List Grp) : totI (a ++ b) = totI a + totI b := by
  induction a with
  | nil => simp [totI]
  | cons x r ih => simp only [List.cons_append, totI, ih]; omega
end Go.AX

namespace Go.AX
open Go Go.Proofs Go.RowKit
end Go.AX

namespace Go.AX
open Go Go.Proofs Go.RowKit
theorem wrap_small' (n : Nat) (h : n ≤ 1000000) : IntKind.u64.wrap (n : Int) = n := by
  have e : IntKind.u64.wrap (n : Int) = (n : Int) % 18446744073709551616 := by simp [IntKind.wrap, IntKind.signed, IntKind.bits]
  omega
theorem final1_any (f : Fi) (p : Str) : Does Tryz.prog 97 [.d (fiD f), S p] [] (I (Lib.compareBytes f.1 p)) [] := by
  refine Does.of_AW (n := 9) Tryz.func97 rfl rfl rfl fun cx hcx => ?_
  repeat' (first | ((first | refine AW.sreg rfl fun K hK => ?_ | refine run_call _ _ _ ((compareStr_any _ _).pure rfl rfl _ _) rfl rfl (dstOk_of rfl) rfl rfl rfl ?_); simp only [go_sem, Nat.reduceAdd, Nat.reduceMul, Int.reduceToNat, Nat.reduceLT, Nat.reduceLeDiff, Nat.le_refl, Nat.reduceEqDiff, ↓reduceIte, beq_self_eq_true, bne_self_eq_false, Int.reduceBEq, Int.reduceBNe, or_self, true_or, or_true, Option.map_some, Option.map_none]) | (refine hK _ ?_; clear hK K) | (refine AW.ret (Fin.data rfl (by first | (simp only [go_sem]; done) | (simp [go_sem, *]; done) | (simp [go_sem]; omega) | rfl) rfl)))
def RisF (gs : List Fi) : Prop := gs.Pairwise fun a b => ltS a.1 b.1 = true
theorem risF_of {gs : List Fi} (h : (gs.map (·.1)).Sublist P4) : RisF gs := by
  have hp : P4.Pairwise fun a b => ltS a b = true := by decide
  have := hp.sublist h
  exact List.pairwise_map.1 this
theorem bsearchF (gs : List Fi) (hl : gs.length ≤ 1000) (hr : RisF gs) (p : Str) :
    ∃ m : Nat, (∀ (i : Nat) (f : Fi), gs[i]? = some f → f.1 = p → i = m) ∧ Does Tryz.prog 96 [.d (.sl (gs.map fiD)), S p, .fn 97 []] [] (.tup [I m, B (decide (p ∈ gs.map (·.1)))]) [] := by
  obtain ⟨m, hm, hm1, hm2⟩ : ∃ m, m ≤ gs.length ∧ (∀ k y, gs[k]? = some y → k < m → ltS y.1 p = true) ∧ (∀ k y, gs[k]? = some y → m ≤ k → ltS y.1 p = false) := by
    have : ∀ (l : List Fi), RisF l → ∃ m, m ≤ l.length ∧ (∀ k y, l[k]? = some y → k < m → ltS y.1 p = true) ∧ (∀ k y, l[k]? = some y → m ≤ k → ltS y.1 p = false) := by
      intro l
      induction l with
      | nil => exact fun _ => ⟨0, by simp, by simp, by simp⟩
      | cons x l ih =>
        intro hl
        have hl := List.pairwise_cons.1 hl
        cases hx : ltS x.1 p with
        | false =>
          refine ⟨0, by simp, by simp, ?_⟩
          rintro (_ | k) y hy -
          · simp at hy; subst hy; exact hx
          · have hy : l[k]? = some y := by simpa using hy
            cases hyp : ltS y.1 p with
            | false => rfl
            | true => have := ltS_trans (hl.1 y (List.mem_of_getElem? hy)) hyp; rw [hx] at this; cases this
        | true =>
          obtain ⟨m, h1, h2, h3⟩ := ih hl.2
          refine ⟨m + 1, by simp; omega, ?_, ?_⟩
          · rintro (_ | k) y hy hk
            · simp at hy; subst hy; exact hx
            · exact h2 k y (by simpa using hy) (by omega)
          · rintro (_ | k) y hy hk
            · omega
            · exact h3 k y (by simpa using hy) (by omega)
    exact this gs hr
  have hone : ∀ (i : Nat) (f : Fi), gs[i]? = some f → f.1 = p → i = m := by
    intro i f hf he
    subst he
    rcases Nat.lt_or_ge i m with h | h
    · have := hm1 i f hf h
      rw [ltS_irrefl] at this; cases this
    · rcases Nat.lt_or_eq_of_le h with h | h
      · have hil : i < gs.length := by
          rcases Nat.lt_or_ge i gs.length with h' | h'
          · exact h'
          · simp [List.getElem?_eq_none h'] at hf
        obtain ⟨y, hy, -, -⟩ := get_some (l := gs) (i := m) (by omega)
        have h1 := pairwise_at hr hy hf h
        rw [hm2 m y hy (Nat.le_refl _)] at h1; cases h1
      · exact h.symm
  have hmem : decide (p ∈ gs.map (·.1)) = (match gs[m]? with | some y => Lib.compareBytes y.1 p == 0 | none => false) := by
    cases hy : gs[m]? with
    | none =>
      simp only [decide_eq_false_iff_not]
      intro hp
      obtain ⟨f, hf, he⟩ := List.mem_map.1 hp
      obtain ⟨k, hk⟩ := List.mem_iff_getElem?.1 hf
      have := hone k f hk he
      subst this
      rw [hy] at hk; cases hk
    | some y =>
      simp only
      by_cases e : y.1 = p
      · rw [(cmpB_eq y.1 p).2 e]
        exact (decide_eq_true (List.mem_map.2 ⟨y, List.mem_of_getElem? hy, e⟩)).trans rfl
      · have h0 : ¬ Lib.compareBytes y.1 p = 0 := fun h => e ((cmpB_eq y.1 p).1 h)
        have : ¬ p ∈ gs.map (·.1) := by
          intro hp
          obtain ⟨f, hf, he⟩ := List.mem_map.1 hp
          obtain ⟨k, hk⟩ := List.mem_iff_getElem?.1 hf
          have := hone k f hk he
          subst this
          rw [hy] at hk
          cases hk
          exact e he
        simp only [this, decide_false]
        simp [h0]
  refine ⟨m, hone, ?_⟩
  rw [hmem]
  refine Does.of_AW (n := 49) Tryz.func96 rfl rfl rfl fun cx hcx => ?_
  repeat' (first | (refine AW.sreg rfl fun K hK => ?_; simp only [go_sem, Nat.reduceAdd, Nat.reduceMul, Int.reduceToNat, Nat.reduceLT, Nat.reduceLeDiff, Nat.le_refl, Nat.reduceEqDiff, ↓reduceIte, beq_self_eq_true, bne_self_eq_false, Int.reduceBEq, Int.reduceBNe, or_self, true_or, or_true, Option.map_some, Option.map_none, List.length_map]) | (refine AW.seq_k fun K hK => ?_) | (refine AW.block ?_) | (refine hK _ ?_; clear hK K))
  refine AW.loopF (ι := Nat × Nat) [0, 1, 2, 8] (fun p => [(9, I p.1), (10, I p.2)]) (fun p => []) 1 (fun p => p.1 ≤ m ∧ m ≤ p.2 ∧ p.2 ≤ gs.length) (fun p => p.2 - p.1) (0, gs.length) ⟨by simp, hm, by simp⟩ (Weak.auto hcx rfl rfl (Nat.le_of_ble_eq_true rfl) (by simp [go_sem, gL, kL, renOf, V.obj, lk, Nat.blt, Nat.ble, List.map_append, dv_push]) (by simp [go_sem, gL, kL, renOf, V.obj, lk, Nat.blt, Nat.ble, List.map_append, dv_push]) (by first | exact pk0 | exact pk1 ⟨_, rfl⟩ | exact pk2 ⟨_, rfl⟩ ⟨_, rfl⟩ | exact pk3 ⟨_, rfl⟩ ⟨_, rfl⟩ ⟨_, rfl⟩ | exact pk4 ⟨_, rfl⟩ ⟨_, rfl⟩ ⟨_, rfl⟩ ⟨_, rfl⟩) (by simp [go_sem, gL, kL, lk, renOf, V.obj, Nat.blt, Nat.ble])) ?_; simp only [St.at_nil, St.at_cons, lk, Nat.reduceEqDiff, ↓reduceIte, Option.getD_some, Option.getD_none, List.cons_append, List.nil_append, List.append_nil]
  rintro ⟨i, j⟩ ⟨h1, h2, h3⟩
  simp only at h1 h2 h3 ⊢
  by_cases hij : i < j
  · have hh : (IntKind.u64.wrap ((i : Int) + (j : Int))).fdiv (2 ^ min 1 64) = ((i + j) / 2 : Nat) := by
      rw [show ((i : Int) + (j : Int)) = ((i + j : Nat) : Int) by omega, wrap_small' (i + j) (by omega), show (2 : Int) ^ min 1 64 = 2 from rfl, Int.fdiv_eq_ediv_of_nonneg _ (by omega)]
      omega
    have hlt : (i + j) / 2 < gs.length := by omega
    generalize hgh : (i + j) / 2 = h at hh hlt
    obtain ⟨y, hy, -, -⟩ := get_some hlt
    have hget : (gs.map fiD)[h]? = some (fiD y) := by simp [hy]
    have hc : decide (Lib.compareBytes y.1 p < 0) = ltS y.1 p := cmpB_lt y.1 p
    cases hb : ltS y.1 p with
    | true =>
      rw [hb] at hc
      have : h < m := by
        rcases Nat.lt_or_ge h m with h' | h'
        · exact h'
        · rw [hm2 h y hy h'] at hb; cases hb
      repeat' (first | ((first | refine AW.sreg rfl fun K hK => ?_ | refine AW.reg rfl ?_ | refine run_call _ _ _ ((final1_any y p).pure rfl rfl _ _) rfl rfl (dstOk_of rfl) rfl rfl rfl ?_); simp only [go_sem, Nat.reduceAdd, Nat.reduceMul, Int.reduceToNat, Nat.reduceLT, Nat.reduceLeDiff, Nat.le_refl, Nat.reduceEqDiff, ↓reduceIte, beq_self_eq_true, bne_self_eq_false, Int.reduceBEq, Int.reduceBNe, or_self, true_or, or_true, Option.map_some, Option.map_none, List.length_map, hh, hget, hc]) | (refine AW.seq_k fun K hK => ?_) | (refine AW.block ?_) | (refine AW.skip ?_; simp only [Then, InBlock]) | (refine AW.condT rfl (by first | rfl | (simp; omega) | (simp [*]; done) | fail) ?_) | (refine hK _ ?_; clear hK K) | (with_reducible refine And.intro ?_ ?_; first | omega | assumption | (focus (decide)) | (focus (simp; done)) | (focus (simp; omega)) | (focus (constructor <;> omega)) | fail))
      exact ⟨(h + 1, j), ⟨by simp only; omega, h2, h3⟩, by simp only; omega, (Weak.auto hcx rfl rfl (Nat.le_of_ble_eq_true rfl) (by simp [go_sem, gL, kL, renOf, V.obj, lk, Nat.blt, Nat.ble, List.map_append, dv_push]) (by simp [go_sem, gL, kL, renOf, V.obj, lk, Nat.blt, Nat.ble, List.map_append, dv_push]) (by first | exact pk0 | exact pk1 ⟨_, rfl⟩ | exact pk2 ⟨_, rfl⟩ ⟨_, rfl⟩ | exact pk3 ⟨_, rfl⟩ ⟨_, rfl⟩ ⟨_, rfl⟩ | exact pk4 ⟨_, rfl⟩ ⟨_, rfl⟩ ⟨_, rfl⟩ ⟨_, rfl⟩) (by simp [go_sem, gL, kL, lk, renOf, V.obj, Nat.blt, Nat.ble]))⟩
    | false =>
      rw [hb] at hc
      have : m ≤ h := by
        rcases Nat.lt_or_ge h m with h' | h'
        · rw [hm1 h y hy h'] at hb; cases hb
        · exact h'
      repeat' (first | ((first | refine AW.sreg rfl fun K hK => ?_ | refine AW.reg rfl ?_ | refine run_call _ _ _ ((final1_any y p).pure rfl rfl _ _) rfl rfl (dstOk_of rfl) rfl rfl rfl ?_); simp only [go_sem, Nat.reduceAdd, Nat.reduceMul, Int.reduceToNat, Nat.reduceLT, Nat.reduceLeDiff, Nat.le_refl, Nat.reduceEqDiff, ↓reduceIte, beq_self_eq_true, bne_self_eq_false, Int.reduceBEq, Int.reduceBNe, or_self, true_or, or_true, Option.map_some, Option.map_none, List.length_map, hh, hget, hc]) | (refine AW.seq_k fun K hK => ?_) | (refine AW.block ?_) | (refine AW.skip ?_; simp only [Then, InBlock]) | (refine AW.condT rfl (by first | rfl | (simp; omega) | (simp [*]; done) | fail) ?_) | (refine AW.condF rfl (by first | rfl | (simp; omega) | (simp [*]; done) | fail) ?_) | (refine hK _ ?_; clear hK K) | (with_reducible refine And.intro ?_ ?_; first | omega | assumption | (focus (decide)) | (focus (simp; done)) | (focus (simp; omega)) | (focus (constructor <;> omega)) | fail))
      exact ⟨(i, h), ⟨h1, this, by simp only; omega⟩, by simp only; omega, (Weak.auto hcx rfl rfl (Nat.le_of_ble_eq_true rfl) (by simp [go_sem, gL, kL, renOf, V.obj, lk, Nat.blt, Nat.ble, List.map_append, dv_push]) (by simp [go_sem, gL, kL, renOf, V.obj, lk, Nat.blt, Nat.ble, List.map_append, dv_push]) (by first | exact pk0 | exact pk1 ⟨_, rfl⟩ | exact pk2 ⟨_, rfl⟩ ⟨_, rfl⟩ | exact pk3 ⟨_, rfl⟩ ⟨_, rfl⟩ ⟨_, rfl⟩ | exact pk4 ⟨_, rfl⟩ ⟨_, rfl⟩ ⟨_, rfl⟩ ⟨_, rfl⟩) (by simp [go_sem, gL, kL, lk, renOf, V.obj, Nat.blt, Nat.ble]))⟩
  · obtain rfl : i = j := by omega
    obtain rfl : i = m := by omega
    cases hy : gs[i]? with
    | none =>
      have : gs.length ≤ i := List.getElem?_eq_none_iff.1 hy
      repeat' (first | (refine AW.sreg rfl fun K hK => ?_; simp only [go_sem, Nat.reduceAdd, Nat.reduceMul, Int.reduceToNat, Nat.reduceLT, Nat.reduceLeDiff, Nat.le_refl, Nat.reduceEqDiff, ↓reduceIte, beq_self_eq_true, bne_self_eq_false, Int.reduceBEq, Int.reduceBNe, or_self, true_or, or_true, Option.map_some, Option.map_none, List.length_map]) | (refine AW.seq_k fun K hK => ?_) | (refine AW.exit ?_; simp only [go_sem, ↓reduceIte]) | (refine AW.condF rfl (by first | rfl | (simp; omega) | (simp [*]; done) | fail) ?_) | (refine hK _ ?_; clear hK K) | (clear hK K; refine hK _ ?_; clear hK K) | (refine stepB_split (fun h => ?_) (fun h => ?_) <;> (have hb0 := h) <;> (try simp only [Bool.not_eq_true', Bool.not_eq_false'] at hb0) <;> (try simp only [decide_eq_true_eq, decide_eq_false_iff_not, Bool.not_eq_true', Bool.not_eq_false', Bool.not_eq_eq_eq_not, Bool.not_true, Bool.not_false, beq_iff_eq, bne_iff_ne, beq_eq_false_iff_ne, ne_eq, Bool.and_eq_true, Bool.or_eq_true, Bool.or_eq_false_iff] at h) <;> simp only [go_sem, Nat.reduceAdd, Nat.reduceMul, Int.reduceToNat, Nat.reduceLT, Nat.reduceLeDiff, Nat.le_refl, Nat.reduceEqDiff, ↓reduceIte, beq_self_eq_true, bne_self_eq_false, Int.reduceBEq, Int.reduceBNe, or_self, true_or, or_true, Option.map_some, Option.map_none, hb0, h, decide_true, decide_false, List.length_map] <;> (try clear hb0)) | (refine AW.ret (Fin.data rfl (by first | (simp only [go_sem]; done) | (simp [go_sem, *]; done) | (simp [go_sem]; omega) | rfl) rfl)) | (exfalso; omega))
    | some y =>
      have hil : i < gs.length := by
        rcases Nat.lt_or_ge i gs.length with h | h
        · exact h
        · simp [List.getElem?_eq_none h] at hy
      have hget : (gs.map fiD)[i]? = some (fiD y) := by simp [hy]
      repeat' (first | ((first | refine AW.sreg rfl fun K hK => ?_ | refine run_call _ _ _ ((final1_any y p).pure rfl rfl _ _) rfl rfl (dstOk_of rfl) rfl rfl rfl ?_); simp only [go_sem, Nat.reduceAdd, Nat.reduceMul, Int.reduceToNat, Nat.reduceLT, Nat.reduceLeDiff, Nat.le_refl, Nat.reduceEqDiff, ↓reduceIte, beq_self_eq_true, bne_self_eq_false, Int.reduceBEq, Int.reduceBNe, or_self, true_or, or_true, Option.map_some, Option.map_none, List.length_map, hget]) | (refine AW.seq_k fun K hK => ?_) | (refine AW.exit ?_; simp only [go_sem, ↓reduceIte]) | (refine AW.condF rfl (by first | rfl | (simp; omega) | (simp [*]; done) | fail) ?_) | (refine hK _ ?_; clear hK K) | (clear hK K; refine hK _ ?_; clear hK K) | (refine stepB_split (fun h => ?_) (fun h => ?_) <;> (have hb0 := h) <;> (try simp only [Bool.not_eq_true', Bool.not_eq_false'] at hb0) <;> (try simp only [decide_eq_true_eq, decide_eq_false_iff_not, Bool.not_eq_true', Bool.not_eq_false', Bool.not_eq_eq_eq_not, Bool.not_true, Bool.not_false, beq_iff_eq, bne_iff_ne, beq_eq_false_iff_ne, ne_eq, Bool.and_eq_true, Bool.or_eq_true, Bool.or_eq_false_iff] at h) <;> simp only [go_sem, Nat.reduceAdd, Nat.reduceMul, Int.reduceToNat, Nat.reduceLT, Nat.reduceLeDiff, Nat.le_refl, Nat.reduceEqDiff, ↓reduceIte, beq_self_eq_true, bne_self_eq_false, Int.reduceBEq, Int.reduceBNe, or_self, true_or, or_true, Option.map_some, Option.map_none, hb0, h, decide_true, decide_false, List.length_map, hget] <;> (try clear hb0)) | (with_reducible refine And.intro ?_ ?_; first | omega | assumption | (focus (decide)) | (focus (simp; done)) | (focus (simp; omega)) | (focus (constructor <;> omega)) | fail) | (exfalso; omega))
      exact AW.ret (Fin.data rfl (by simp only [go_sem, Nat.reduceAdd, Nat.reduceMul, Int.reduceToNat, Nat.reduceLT, Nat.reduceLeDiff, Nat.le_refl, Nat.reduceEqDiff, ↓reduceIte, beq_self_eq_true, bne_self_eq_false, Int.reduceBEq, Int.reduceBNe, or_self, true_or, or_true, Option.map_some, Option.map_none, hy]) rfl)
theorem final_any (gs : List Fi) (hl : gs.length ≤ 1000) (hr : RisF gs) (p : Str) :
    ∃ m : Nat, (∀ (i : Nat) (f : Fi), gs[i]? = some f → f.1 = p → i = m) ∧ Does Tryz.prog 61 [.d (.sl (gs.map fiD)), S p] [] (.tup [I m, B (decide (p ∈ gs.map (·.1)))]) [] := by
  obtain ⟨m, h1, hb⟩ := bsearchF gs hl hr p
  refine ⟨m, h1, ?_⟩
  refine Does.of_AW (n := 11) Tryz.func61 rfl rfl rfl fun cx hcx => ?_
  repeat' (first | ((first | refine AW.sreg rfl fun K hK => ?_ | refine run_call _ _ _ ((hb).pure rfl rfl _ _) rfl rfl (dstOk_of rfl) rfl rfl rfl ?_); simp only [go_sem, Nat.reduceAdd, Nat.reduceMul, Int.reduceToNat, Nat.reduceLT, Nat.reduceLeDiff, Nat.le_refl, Nat.reduceEqDiff, ↓reduceIte, beq_self_eq_true, bne_self_eq_false, Int.reduceBEq, Int.reduceBNe, or_self, true_or, or_true, Option.map_some, Option.map_none]) | (refine hK _ ?_; clear hK K) | (refine AW.ret (Fin.data rfl (by first | (simp only [go_sem]; done) | (simp [go_sem, *]; done) | (simp [go_sem]; omega) | rfl) rfl)))
end Go.AX

namespace Go.AX
open Go Go.Proofs Go.RowKit
abbrev u8D (b : UInt8) : D := .int .u8 (b.toNat : Int)
theorem strOf_u8 : ∀ bs : Str, strOf (dv (bs.map u8D)) = some bs
  | [] => rfl
  | c :: bs => by
    have h := strOf_u8 bs
    simp only [dv, List.map_map] at h
    simp only [dv, List.map_cons, List.map_map, strOf, h]
    simp
theorem all_u8 (bs : Str) : (dv (bs.map u8D)).all (elemOk 1) = true := by
  simp only [dv, List.map_map, List.all_eq_true, List.mem_map, Function.comp_apply, forall_exists_index, and_imp, forall_apply_eq_imp_iff₂]
  intro x _
  rfl
theorem take_u8 (bs : Str) {n : Nat} (h : bs.length = n) : List.take n (dv (bs.map u8D)) = dv (bs.map u8D) := List.take_of_length_le (by simp [dv, h])
def kpB (d : UInt8) : Prop := (97 ≤ d.toNat ∧ d.toNat ≤ 122) ∨ (48 ≤ d.toNat ∧ d.toNat ≤ 57) ∨ d.toNat = 32 ∨ 127 < d.toNat
instance (d : UInt8) : Decidable (kpB d) := by unfold kpB; infer_instance
def lowC (c : UInt8) : UInt8 := if 65 ≤ c.toNat ∧ c.toNat ≤ 90 then c + 32 else c
def kpC (d : UInt8) : Str := if kpB d then [d] else []
def foldS : Str → Str
  | [] => []
  | c :: r => kpC (lowC c) ++ foldS r
theorem fold_any (s : Str) (hl : s.length ≤ 10000) : Does Tryz.prog 67 [S s] [] (S (foldS s)) [] := by
  refine Does.of_AW (n := 51) Tryz.func67 rfl rfl rfl fun cx hcx => ?_
  generalize hR : foldS s = R
  repeat' (first | (refine AW.sreg rfl fun K hK => ?_; simp only [go_sem, Nat.reduceAdd, Nat.reduceMul, Int.reduceToNat, Nat.reduceLT, Nat.reduceLeDiff, Nat.le_refl, Nat.reduceEqDiff, ↓reduceIte, beq_self_eq_true, bne_self_eq_false, Int.reduceBEq, Int.reduceBNe, or_self, true_or, or_true, Option.map_some, Option.map_none]) | (refine AW.seq_k fun K hK => ?_) | (refine AW.block ?_) | (refine hK _ ?_; clear hK K))
  refine AW.weak (Weak.nil 3 5 1 rfl) ?_
  refine AW.loopF (ι := Nat × Str) [0] (fun p => [(3, .slr 192 0 p.2.length), (4, I p.1)]) (fun p => [(192, some (O.vec 5 1 (dv (p.2.map u8D))))]) 20 (fun p => p.1 ≤ s.length ∧ p.2 ++ foldS (s.drop p.1) = R ∧ p.2.length ≤ p.1) (fun p => s.length - p.1) (0, []) ⟨Nat.zero_le _, by simpa using hR, Nat.le_refl _⟩ (Weak.auto hcx rfl rfl (Nat.le_of_ble_eq_true rfl) (by simp [go_sem, gL, kL, renOf, V.obj, lk, Nat.blt, Nat.ble, List.map_append, dv_push]) (by simp [go_sem, gL, kL, renOf, V.obj, lk, Nat.blt, Nat.ble, List.map_append, dv_push]) (by first | exact pk0 | exact pk1 ⟨_, rfl⟩ | exact pk2 ⟨_, rfl⟩ ⟨_, rfl⟩ | exact pk3 ⟨_, rfl⟩ ⟨_, rfl⟩ ⟨_, rfl⟩ | exact pk4 ⟨_, rfl⟩ ⟨_, rfl⟩ ⟨_, rfl⟩ ⟨_, rfl⟩) (by simp [go_sem, gL, kL, lk, renOf, V.obj, Nat.blt, Nat.ble])) ?_; simp only [St.at_nil, St.at_cons, lk, Nat.reduceEqDiff, ↓reduceIte, Option.getD_some, Option.getD_none, List.cons_append, List.nil_append, List.append_nil]
  rintro ⟨i, bs⟩ ⟨h1, h2, h3⟩
  dsimp only at h1 h2 h3 ⊢
  by_cases hi : i < s.length
  · obtain ⟨c, hc, hcm, hcd⟩ := get_some hi
    have hget : s[i]? = some c := hc
    rw [hcd, foldS] at h2
    have ht := take_u8 bs rfl
    have hcl := c.toNat_lt
    have hnext : ∀ d : UInt8, lowC c = d → (kpB d → (bs ++ [d]) ++ foldS (s.drop (i + 1)) = R) ∧ (¬ kpB d → bs ++ foldS (s.drop (i + 1)) = R) := by
      intro d hd
      rw [hd] at h2
      constructor
      · intro hk; rw [← h2, kpC, if_pos hk]; simp
      · intro hk; rw [← h2, kpC, if_neg hk]; simp
    by_cases hcap : 65 ≤ c.toNat ∧ c.toNat ≤ 90
    · have e : lowC c = c + 32 := if_pos hcap
      have e2 : (c + 32).toNat = c.toNat + 32 := by rw [UInt8.toNat_add]; simp; omega
      have hw : IntKind.u8.wrap ((c.toNat : Int) + 32) = ((c + 32 : UInt8).toNat : Int) := by
        rw [e2]
        have : IntKind.u8.wrap ((c.toNat : Int) + 32) = ((c.toNat : Int) + 32) % 256 := by simp [IntKind.wrap, IntKind.signed, IntKind.bits]
        omega
      obtain ⟨n1, n2⟩ := hnext _ e
      generalize c + 32 = d at *
      have hk : kpB d := .inl (by omega)
      have := n1 hk
      repeat' (first | ((first | refine AW.sreg rfl fun K hK => ?_ | refine AW.reg rfl ?_); simp only [go_sem, Nat.reduceAdd, Nat.reduceMul, Int.reduceToNat, Nat.reduceLT, Nat.reduceLeDiff, Nat.le_refl, Nat.reduceEqDiff, ↓reduceIte, beq_self_eq_true, bne_self_eq_false, Int.reduceBEq, Int.reduceBNe, or_self, true_or, or_true, Option.map_some, Option.map_none, hget, ht, hw]) | (refine AW.seq_k fun K hK => ?_) | (refine AW.block ?_) | (refine AW.skip ?_; simp only [Then, InBlock]) | (refine AW.condT rfl (by first | rfl | (simp; omega) | (simp [*]; done) | fail) ?_) | (refine hK _ ?_; clear hK K) | (refine stepB_split (fun h => ?_) (fun h => ?_) <;> (have hb0 := h) <;> (try simp only [Bool.not_eq_true', Bool.not_eq_false'] at hb0) <;> (try simp only [decide_eq_true_eq, decide_eq_false_iff_not, Bool.not_eq_true', Bool.not_eq_false', Bool.not_eq_eq_eq_not, Bool.not_true, Bool.not_false, beq_iff_eq, bne_iff_ne, beq_eq_false_iff_ne, ne_eq, Bool.and_eq_true, Bool.or_eq_true, Bool.or_eq_false_iff] at h) <;> simp only [go_sem, Nat.reduceAdd, Nat.reduceMul, Int.reduceToNat, Nat.reduceLT, Nat.reduceLeDiff, Nat.le_refl, Nat.reduceEqDiff, ↓reduceIte, beq_self_eq_true, bne_self_eq_false, Int.reduceBEq, Int.reduceBNe, or_self, true_or, or_true, Option.map_some, Option.map_none, hb0, h, decide_true, decide_false, hget, ht, hw] <;> (try clear hb0)) | (with_reducible refine And.intro ?_ ?_; first | omega | assumption | (focus (decide)) | (focus (simp; done)) | (focus (simp; omega)) | (focus (constructor <;> omega)) | fail) | (exfalso; omega))
      all_goals first | (exfalso; omega) | exact ⟨(i + 1, bs ++ [d]), ⟨hi, n1 hk, by simp only [List.length_append, List.length_cons, List.length_nil]; omega⟩, by simp only; omega, (Weak.auto hcx rfl rfl (Nat.le_of_ble_eq_true rfl) (by simp [go_sem, gL, kL, renOf, V.obj, lk, Nat.blt, Nat.ble, List.map_append, dv_push]) (by simp [go_sem, gL, kL, renOf, V.obj, lk, Nat.blt, Nat.ble, List.map_append, dv_push]) (by first | exact pk0 | exact pk1 ⟨_, rfl⟩ | exact pk2 ⟨_, rfl⟩ ⟨_, rfl⟩ | exact pk3 ⟨_, rfl⟩ ⟨_, rfl⟩ ⟨_, rfl⟩ | exact pk4 ⟨_, rfl⟩ ⟨_, rfl⟩ ⟨_, rfl⟩ ⟨_, rfl⟩) (by simp [go_sem, gL, kL, lk, renOf, V.obj, Nat.blt, Nat.ble]))⟩ | trace_state
    · have e : lowC c = c := if_neg hcap
      obtain ⟨n1, n2⟩ := hnext _ e
      repeat' (first | ((first | refine AW.sreg rfl fun K hK => ?_ | refine AW.reg rfl ?_); simp only [go_sem, Nat.reduceAdd, Nat.reduceMul, Int.reduceToNat, Nat.reduceLT, Nat.reduceLeDiff, Nat.le_refl, Nat.reduceEqDiff, ↓reduceIte, beq_self_eq_true, bne_self_eq_false, Int.reduceBEq, Int.reduceBNe, or_self, true_or, or_true, Option.map_some, Option.map_none, hget, ht]) | (refine AW.seq_k fun K hK => ?_) | (refine AW.block ?_) | (refine AW.skip ?_; simp only [Then, InBlock]) | (refine AW.condT rfl (by first | rfl | (simp; omega) | (simp [*]; done) | fail) ?_) | (refine AW.condF rfl (by first | rfl | (simp; omega) | (simp [*]; done) | fail) ?_) | (refine AW.cond rfl (fun h => ?_) (fun h => ?_) <;> (try simp only [decide_eq_true_eq, decide_eq_false_iff_not, Bool.not_eq_true', Bool.not_eq_false', Bool.not_eq_eq_eq_not, Bool.not_true, Bool.not_false, beq_iff_eq, bne_iff_ne, beq_eq_false_iff_ne, ne_eq, Bool.and_eq_true, Bool.or_eq_true, Bool.or_eq_false_iff] at h)) | (refine hK _ ?_; clear hK K) | (refine stepB_split (fun h => ?_) (fun h => ?_) <;> (have hb0 := h) <;> (try simp only [Bool.not_eq_true', Bool.not_eq_false'] at hb0) <;> (try simp only [decide_eq_true_eq, decide_eq_false_iff_not, Bool.not_eq_true', Bool.not_eq_false', Bool.not_eq_eq_eq_not, Bool.not_true, Bool.not_false, beq_iff_eq, bne_iff_ne, beq_eq_false_iff_ne, ne_eq, Bool.and_eq_true, Bool.or_eq_true, Bool.or_eq_false_iff] at h) <;> simp only [go_sem, Nat.reduceAdd, Nat.reduceMul, Int.reduceToNat, Nat.reduceLT, Nat.reduceLeDiff, Nat.le_refl, Nat.reduceEqDiff, ↓reduceIte, beq_self_eq_true, bne_self_eq_false, Int.reduceBEq, Int.reduceBNe, or_self, true_or, or_true, Option.map_some, Option.map_none, hb0, h, decide_true, decide_false, hget, ht] <;> (try clear hb0)) | (with_reducible refine And.intro ?_ ?_; first | omega | assumption | (focus (decide)) | (focus (simp; done)) | (focus (simp; omega)) | (focus (constructor <;> omega)) | fail) | (exfalso; omega))
      all_goals first | (exfalso; omega) | (have hc32 : c = 32 := UInt8.toNat_inj.1 (by simp; omega); subst hc32; have e32 : u8D 32 = D.int IntKind.u8 32 := rfl; exact ⟨(i + 1, bs ++ [32]), ⟨hi, n1 (by decide), by simp only [List.length_append, List.length_cons, List.length_nil]; omega⟩, by simp only; omega, (Weak.auto hcx rfl rfl (Nat.le_of_ble_eq_true rfl) (by simp [go_sem, gL, kL, renOf, V.obj, lk, Nat.blt, Nat.ble, List.map_append, dv_push, e32]) (by simp [go_sem, gL, kL, renOf, V.obj, lk, Nat.blt, Nat.ble, List.map_append, dv_push, e32]) (by first | exact pk0 | exact pk1 ⟨_, rfl⟩ | exact pk2 ⟨_, rfl⟩ ⟨_, rfl⟩ | exact pk3 ⟨_, rfl⟩ ⟨_, rfl⟩ ⟨_, rfl⟩ | exact pk4 ⟨_, rfl⟩ ⟨_, rfl⟩ ⟨_, rfl⟩ ⟨_, rfl⟩) (by simp [go_sem, gL, kL, lk, renOf, V.obj, Nat.blt, Nat.ble, e32]))⟩) | exact ⟨(i + 1, bs ++ [c]), ⟨hi, n1 (by unfold kpB; omega), by simp only [List.length_append, List.length_cons, List.length_nil]; omega⟩, by simp only; omega, (Weak.auto hcx rfl rfl (Nat.le_of_ble_eq_true rfl) (by simp [go_sem, gL, kL, renOf, V.obj, lk, Nat.blt, Nat.ble, List.map_append, dv_push]) (by simp [go_sem, gL, kL, renOf, V.obj, lk, Nat.blt, Nat.ble, List.map_append, dv_push]) (by first | exact pk0 | exact pk1 ⟨_, rfl⟩ | exact pk2 ⟨_, rfl⟩ ⟨_, rfl⟩ | exact pk3 ⟨_, rfl⟩ ⟨_, rfl⟩ ⟨_, rfl⟩ | exact pk4 ⟨_, rfl⟩ ⟨_, rfl⟩ ⟨_, rfl⟩ ⟨_, rfl⟩) (by simp [go_sem, gL, kL, lk, renOf, V.obj, Nat.blt, Nat.ble]))⟩ | exact ⟨(i + 1, bs), ⟨hi, n2 (by unfold kpB; omega), by simp only; omega⟩, by simp only; omega, (Weak.auto hcx rfl rfl (Nat.le_of_ble_eq_true rfl) (by simp [go_sem, gL, kL, renOf, V.obj, lk, Nat.blt, Nat.ble, List.map_append, dv_push]) (by simp [go_sem, gL, kL, renOf, V.obj, lk, Nat.blt, Nat.ble, List.map_append, dv_push]) (by first | exact pk0 | exact pk1 ⟨_, rfl⟩ | exact pk2 ⟨_, rfl⟩ ⟨_, rfl⟩ | exact pk3 ⟨_, rfl⟩ ⟨_, rfl⟩ ⟨_, rfl⟩ | exact pk4 ⟨_, rfl⟩ ⟨_, rfl⟩ ⟨_, rfl⟩ ⟨_, rfl⟩) (by simp [go_sem, gL, kL, lk, renOf, V.obj, Nat.blt, Nat.ble]))⟩ | trace_state
  · obtain rfl : i = s.length := by omega
    have ht := take_u8 bs rfl
    rw [List.drop_length, foldS, List.append_nil] at h2
    subst h2
    repeat' (first | (refine AW.sreg rfl fun K hK => ?_; simp only [go_sem, Nat.reduceAdd, Nat.reduceMul, Int.reduceToNat, Nat.reduceLT, Nat.reduceLeDiff, Nat.le_refl, Nat.reduceEqDiff, ↓reduceIte, beq_self_eq_true, bne_self_eq_false, Int.reduceBEq, Int.reduceBNe, or_self, true_or, or_true, Option.map_some, Option.map_none, List.length_map, Nat.zero_add, ht, strOf_u8, all_u8]) | (refine AW.seq_k fun K hK => ?_) | (refine AW.exit ?_; simp only [go_sem, ↓reduceIte]) | (refine AW.condF rfl (by first | rfl | (simp; omega) | (simp [*]; done) | fail) ?_) | (refine hK _ ?_; clear hK K) | (clear hK K; refine hK _ ?_; clear hK K))
    exact AW.ret (Fin.data rfl (by simp [go_sem]) rfl)
def PT : List Str := [[100, 97], [100, 101], [100, 101, 108], [100, 101, 110], [100, 101, 114], [100, 105], [108, 97], [108, 101], [118, 97, 110], [118, 111, 110]]
def partB (w : Str) : Bool := decide (w ∈ PT)
theorem isParticle_any (w : Str) : Does Tryz.prog 129 [S w] [] (B (partB w)) [] := by
  refine Does.of_AW (n := 15) Tryz.func129 rfl rfl rfl fun cx hcx => ?_
  repeat' (first | ((first | refine AW.sreg rfl fun K hK => ?_ | refine AW.reg rfl ?_); simp only [go_sem, Nat.reduceAdd, Nat.reduceMul, Int.reduceToNat, Nat.reduceLT, Nat.reduceLeDiff, Nat.le_refl, Nat.reduceEqDiff, ↓reduceIte, beq_self_eq_true, bne_self_eq_false, Int.reduceBEq, Int.reduceBNe, or_self, true_or, or_true, Option.map_some, Option.map_none]) | (refine AW.seq_k fun K hK => ?_) | (refine AW.block ?_) | (refine AW.skip ?_; simp only [Then, InBlock]) | (refine AW.condT rfl (by first | rfl | (simp; omega) | (simp [*]; done) | fail) ?_) | (refine AW.cond rfl (fun h => ?_) (fun h => ?_) <;> (try simp only [decide_eq_true_eq, decide_eq_false_iff_not, Bool.not_eq_true', Bool.not_eq_false', Bool.not_eq_eq_eq_not, Bool.not_true, Bool.not_false, beq_iff_eq, bne_iff_ne, beq_eq_false_iff_ne, ne_eq, Bool.and_eq_true, Bool.or_eq_true, Bool.or_eq_false_iff] at h)) | (refine hK _ ?_; clear hK K))
  all_goals exact AW.ret (Fin.data rfl (by simp_all [go_sem, partB, PT]) rfl)
end Go.AX

namespace Go.AX
open Go Go.Proofs Go.RowKit
theorem RDels_strs {w : World} {ok : Nat → Prop} : ∀ (bs : List ByteArray) (pre : List Value), RDels w ok (pre ++ bs.map Value.string).toArray 1 pre.length (bs.map fun b => D.str b.data.toList)
  | [], pre => by simp [RDels]
  | b :: r, pre => by
    have := RDels_strs (w := w) (ok := ok) r (pre ++ [.string b])
    simp only [List.length_append, List.length_cons, List.length_nil, List.append_assoc, List.singleton_append, List.cons_append, List.nil_append] at this
    simp only [List.map_cons, RDels]
    exact ⟨⟨.string b, ⟨rfl, by simp⟩, rfl⟩, this⟩
theorem alloc_lt (w : World) (o : Obj) : w.heap.size < (w.alloc o).heap.size := by
  show w.heap.size < (w.heap.push o).size
  rw [Array.size_push]; exact Nat.lt_succ_self _
theorem alloc_get (w : World) (o : Obj) : (w.alloc o).heap[w.heap.size]? = some o := by
  show (w.heap.push o)[w.heap.size]? = some o
  exact Array.getElem?_push_size
theorem split_does (s : Str) (c : UInt8) (h : s.length ≤ 1000000) : Does Tryz.prog 111 [S s, S [c]] [] (.d (.sl ((Lib.split s [c]).map D.str))) [] := by
  refine Does.of_below ⟨Tryz.f111, Tryz.func111, rfl, by kernel_rfl⟩ fun w ok vs hg hok hargs => ?_
  simp only [RVl, RV, RD] at hargs
  obtain ⟨v1, r1, e1, rfl, v2, r2, e2, rfl, rfl⟩ := hargs
  subst e2
  obtain rfl : vs = #[.string ⟨s.toArray⟩, .string ⟨#[c]⟩] := by cases vs; simp_all
  obtain ⟨m, hm⟩ := hg.max (g := 0) (by kernel_rfl)
  refine (Any.strings_Split Tryz.l146 (by kernel_rfl) ⟨s.toArray⟩ ⟨#[c]⟩ m w (by simp [ByteArray.size]; omega) hm (by simp [ByteArray.size])).mono fun e w' ⟨h1, h2⟩ => ?_
  have hd := Lib.splitB_data ⟨#[c]⟩ 0 (Lib.countB ⟨s.toArray⟩ ⟨#[c]⟩) ⟨s.toArray⟩
  have hlen := Lib.splitB_all ⟨#[c]⟩ (by simp [ByteArray.size]) 0 _ ⟨s.toArray⟩ rfl
  subst h2
  refine ⟨_, h1, ?_, ?_⟩
  · exact (Below.refl _ _).alloc (Nat.le_refl _) _
  · have hq : (Lib.split s [c]).map D.str = (Lib.splitB ⟨#[c]⟩ 0 (Lib.countB ⟨s.toArray⟩ ⟨#[c]⟩) ⟨s.toArray⟩).map (fun b => D.str b.data.toList) := by
      have e3 : Lib.countB ⟨s.toArray⟩ ⟨#[c]⟩ = Lib.count s [c] := rfl
      rw [Lib.split, ← e3]
      have := congrArg (List.map D.str) hd
      rw [List.map_map] at this
      exact this.symm
    rw [hq]
    simp only [RV, RD]
    refine ⟨_, _, _, rfl, ?_, Nat.le_refl _, .inr ⟨w.heap.size, 0, _, _, _, 1, rfl, .inr ⟨Nat.le_refl _, alloc_lt _ _⟩, alloc_get _ _, ?_⟩⟩
    · rw [List.length_map, hlen]
    · exact RDels_strs _ []
theorem ext156 : Builder.Extra Tryz.prog Tryz.l156_ren where
  sizeBuilder := by kernel_rfl
  liesBuilder := by kernel_rfl
  t5 := Tryz.underlying5
  a5 := Tryz.isAgg5
  z5 := Tryz.sizeOf5
  v5 := Tryz.zeroValue5
  infoByte := by kernel_rfl
  cellsByte := by kernel_rfl
  sizeByte := by kernel_rfl
  neB5 := by decide
theorem join_any (ws : List Str) (h0 : 0 < ws.length) (hl : ws.length ≤ 1000) (hj : (Lib.join ws [32]).length ≤ 1000000) :
    Does Tryz.prog 99 [.d (.sl (ws.map .str)), S [32]] [] (S (Lib.join ws [32])) [] := by
  refine Does.of_below ⟨Tryz.f99, Tryz.func99, rfl, by kernel_rfl⟩ fun w ok vs hg hok hargs => ?_
  simp only [RVl, RV] at hargs
  obtain ⟨v1, r1, e1, h1, v2, r2, e2, h2, rfl⟩ := hargs
  subst e2
  simp only [RD] at h1 h2
  subst h2
  obtain ⟨a, n, cap, rfl, hn, hcap, hx⟩ := h1
  simp only [List.length_map] at hn
  subst hn
  rcases hx with hx | ⟨b, off, c, e, fr, s, rfl, hb, hh, hr⟩
  · have : ws = [] := by simpa using hx
    subst this
    exact absurd h0 (by simp)
  · obtain rfl : vs = #[.slice (some ⟨b, off, none⟩) ws.length cap, .string ⟨#[32]⟩] := by cases vs; simp_all
    have e1 : (ws.map fun s => ByteArray.mk s.toArray).map (·.data.toList) = ws := by
      rw [List.map_map]
      conv => rhs; rw [← List.map_id ws]
      exact List.map_congr_left fun _ _ => by simp
    have hc : ∀ (j : Nat) x, (ws.map fun s => ByteArray.mk s.toArray)[j]? = some x → w.cell? ⟨b, off + j, none⟩ = some (.string x) := by
      intro j x hx
      rw [List.getElem?_map] at hx
      obtain ⟨s0, hs, rfl⟩ := Option.map_eq_some_iff.1 hx
      obtain ⟨v, hv, hrd⟩ := RDels_get hr (i := j) (x := .str s0) (by rw [List.getElem?_map, hs]; rfl)
      simp only [RD] at hrd
      subst hrd
      simp only [ElemAt] at hv
      obtain ⟨rfl, hv⟩ := hv
      rw [Nat.mul_one] at hv
      simp only [World.cell?, hh]
      exact hv
    have := Any.strings_Join Tryz.l156 ext156 b off cap (ws.map fun s => ByteArray.mk s.toArray) ⟨#[32]⟩ w hc (hok b hb) (by simp; omega) (by simpa using hcap) (by rw [e1]; exact Nat.le_trans hj (by omega))
    rw [e1, List.length_map] at this
    refine this.mono fun e w' ⟨h1, h2⟩ => ⟨_, h1, h2, ?_⟩
    simp only [RV, RD]
theorem split_ne (s : Str) (c : UInt8) : Lib.split s [c] ≠ [] := by
  unfold Lib.split
  generalize Lib.count s [c] = k
  cases k <;> simp [Lib.splitK]
  split <;> simp
def dvAt (w : List Str) : Nat → Nat
  | 0 => 0
  | k + 1 => if 0 < k ∧ partB (w.getD k []) = true then dvAt w k else k + 1
theorem dvAt_le (w : List Str) : ∀ n, dvAt w n ≤ n
  | 0 => Nat.le_refl _
  | k + 1 => by
    unfold dvAt
    split
    · exact Nat.le_trans (dvAt_le w k) (Nat.le_succ k)
    · exact Nat.le_refl _
def dvN (s : Str) : Nat := dvAt (Lib.split s [32]) ((Lib.split s [32]).length - 1)
theorem all_ok_S (xs : List Str) : (xs.map D.str).all (elemOkD 1) = true := by simp [elemOkD, D.cells, D.single]
theorem divide_any (s : Str) (hl : s.length ≤ 1000000) (hw : (Lib.split s [32]).length ≤ 1000) : Does Tryz.prog 98 [S s] [] (.tup [.d (.sl (((Lib.split s [32]).drop (dvN s)).map D.str)), .d (.sl (((Lib.split s [32]).take (dvN s)).map D.str))]) [] := by
  have hs := split_does s 32 hl
  have hne := split_ne s 32
  have hpos : 0 < (Lib.split s [32]).length := List.length_pos_iff.2 hne
  unfold dvN
  generalize Lib.split s [32] = w at *
  generalize hR : dvAt w (w.length - 1) = R
  have hRle : R ≤ w.length := by have := dvAt_le w (w.length - 1); omega
  have hdr : ∀ i, List.take (w.length - i) (List.drop i (w.map D.str)) = (w.drop i).map D.str := fun i => by rw [← List.map_drop, List.take_of_length_le (by simp)]
  have htk : ∀ i, List.take (i - 0) (w.map D.str) = (w.take i).map D.str := fun i => by rw [Nat.sub_zero, ← List.map_take]
  have ec : ((w.length : Int) - 1) = ((w.length - 1 : Nat) : Int) := by omega
  refine Does.of_AW (n := 29) Tryz.func98 rfl rfl rfl fun cx hcx => ?_
  repeat' (first | ((first | refine AW.sreg rfl fun K hK => ?_ | refine run_call _ _ _ ((hs).pure rfl rfl _ _) rfl rfl (dstOk_of rfl) rfl rfl rfl ?_); simp only [go_sem, Nat.reduceAdd, Nat.reduceMul, Int.reduceToNat, Nat.reduceLT, Nat.reduceLeDiff, Nat.le_refl, Nat.reduceEqDiff, ↓reduceIte, beq_self_eq_true, bne_self_eq_false, Int.reduceBEq, Int.reduceBNe, or_self, true_or, or_true, Option.map_some, Option.map_none, List.length_map, ec]) | (refine AW.seq_k fun K hK => ?_) | (refine AW.block ?_) | (refine hK _ ?_; clear hK K) | (with_reducible refine And.intro ?_ ?_; first | omega | assumption | (focus (decide)) | (focus (simp; done)) | (focus (simp; omega)) | (focus (constructor <;> omega)) | fail))
  refine AW.loopF (ι := Nat) [4] (fun p => [(5, I p)]) (fun p => []) 40 (fun p => p < w.length ∧ dvAt w p = R) (fun p => p) (w.length - 1) ⟨by omega, hR⟩ (Weak.auto hcx rfl rfl (Nat.le_of_ble_eq_true rfl) (by simp [go_sem, gL, kL, renOf, V.obj, lk, Nat.blt, Nat.ble, List.map_append, dv_push]) (by simp [go_sem, gL, kL, renOf, V.obj, lk, Nat.blt, Nat.ble, List.map_append, dv_push]) (by first | exact pk0 | exact pk1 ⟨_, rfl⟩ | exact pk2 ⟨_, rfl⟩ ⟨_, rfl⟩ | exact pk3 ⟨_, rfl⟩ ⟨_, rfl⟩ ⟨_, rfl⟩ | exact pk4 ⟨_, rfl⟩ ⟨_, rfl⟩ ⟨_, rfl⟩ ⟨_, rfl⟩) (by simp [go_sem, gL, kL, lk, renOf, V.obj, Nat.blt, Nat.ble])) ?_; simp only [St.at_nil, St.at_cons, lk, Nat.reduceEqDiff, ↓reduceIte, Option.getD_some, Option.getD_none, List.cons_append, List.nil_append, List.append_nil]
  rintro i ⟨h1, h2⟩
  by_cases hi : 1 < i
  · obtain ⟨k, rfl⟩ : ∃ k, i = k + 1 := ⟨i - 1, by omega⟩
    obtain ⟨x, hx, -, -⟩ := get_some (l := w) (i := k) (by omega)
    have e1 : (((k + 1 : Nat) : Int) - 1) = (k : Int) := by omega
    have hget : (w.map D.str)[k]? = some (.str x) := by simp [hx]
    have hp := isParticle_any x
    have hxd : w.getD k [] = x := by simp [List.getD, hx]
    rw [dvAt, hxd] at h2
    have e2 : decide ((1 : Int) < ((k + 1 : Nat) : Int)) = true := decide_eq_true (by omega)
    cases hb : partB x with
    | true =>
      rw [hb] at hp h2
      rw [if_pos ⟨by omega, rfl⟩] at h2
      repeat' (first | ((first | refine AW.sreg rfl fun K hK => ?_ | refine AW.reg rfl ?_ | refine run_call _ _ _ ((hp).pure rfl rfl _ _) rfl rfl (dstOk_of rfl) rfl rfl rfl ?_); simp only [go_sem, Nat.reduceAdd, Nat.reduceMul, Int.reduceToNat, Nat.reduceLT, Nat.reduceLeDiff, Nat.le_refl, Nat.reduceEqDiff, ↓reduceIte, beq_self_eq_true, bne_self_eq_false, Int.reduceBEq, Int.reduceBNe, or_self, true_or, or_true, Option.map_some, Option.map_none, List.length_map, hget, e1, e2, Int.toNat_natCast, all_ok_S, hdr, htk, and_true]) | (refine AW.seq_k fun K hK => ?_) | (refine AW.block ?_) | (refine AW.skip ?_; simp only [Then, InBlock]) | (refine AW.condT rfl (by first | rfl | (simp; omega) | (simp [*]; done) | fail) ?_) | (refine hK _ ?_; clear hK K) | (with_reducible refine And.intro ?_ ?_; first | omega | assumption | (focus (decide)) | (focus (simp; done)) | (focus (simp; omega)) | (focus (constructor <;> omega)) | fail))
      all_goals first | (exfalso; omega) | exact ⟨k, ⟨by omega, h2⟩, by omega, (Weak.auto hcx rfl rfl (Nat.le_of_ble_eq_true rfl) (by simp [go_sem, gL, kL, renOf, V.obj, lk, Nat.blt, Nat.ble, List.map_append, dv_push]) (by simp [go_sem, gL, kL, renOf, V.obj, lk, Nat.blt, Nat.ble, List.map_append, dv_push]) (by first | exact pk0 | exact pk1 ⟨_, rfl⟩ | exact pk2 ⟨_, rfl⟩ ⟨_, rfl⟩ | exact pk3 ⟨_, rfl⟩ ⟨_, rfl⟩ ⟨_, rfl⟩ | exact pk4 ⟨_, rfl⟩ ⟨_, rfl⟩ ⟨_, rfl⟩ ⟨_, rfl⟩) (by simp [go_sem, gL, kL, lk, renOf, V.obj, Nat.blt, Nat.ble]))⟩ | trace_state
    | false =>
      rw [hb] at hp h2
      rw [if_neg (by simp)] at h2
      subst h2
      have hk1 : k + 1 ≤ w.length := by omega
      repeat' (first | ((first | refine AW.sreg rfl fun K hK => ?_ | refine AW.sregD hmix rfl fun K hK => ?_ | refine run_call _ _ _ ((hp).pure rfl rfl _ _) rfl rfl (dstOk_of rfl) rfl rfl rfl ?_); simp only [go_sem, Nat.reduceAdd, Nat.reduceMul, Int.reduceToNat, Nat.reduceLT, Nat.reduceLeDiff, Nat.le_refl, Nat.reduceEqDiff, ↓reduceIte, beq_self_eq_true, bne_self_eq_false, Int.reduceBEq, Int.reduceBNe, or_self, true_or, or_true, Option.map_some, Option.map_none, List.length_map, hget, e1, e2, Int.toNat_natCast, all_ok_S, hdr, htk, and_true]) | (refine AW.seq_k fun K hK => ?_) | (refine AW.exit ?_; simp only [go_sem, ↓reduceIte]) | (refine AW.condF rfl (by first | rfl | (simp; omega) | (simp [*]; done) | fail) ?_) | (refine hK _ ?_; clear hK K) | (clear hK K; refine hK _ ?_; clear hK K) | (with_reducible refine And.intro (?_ : regOk _ _ = true) ?_; kernel_rfl) | (with_reducible refine And.intro ?_ ?_; first | omega | assumption | (focus (decide)) | (focus (simp; done)) | (focus (simp; omega)) | (focus (constructor <;> omega)) | fail))
      all_goals first | (exfalso; omega) | exact AW.ret (Fin.data rfl (by simp [go_sem]) rfl) | trace_state
  · have h2' : i = R := by
      rw [← h2]
      rcases i with _ | _ | i
      · rfl
      · rw [dvAt, if_neg (by simp)]
      · omega
    subst h2'
    repeat' (first | ((first | refine AW.sreg rfl fun K hK => ?_ | refine AW.sregD hmix rfl fun K hK => ?_); simp only [go_sem, Nat.reduceAdd, Nat.reduceMul, Int.reduceToNat, Nat.reduceLT, Nat.reduceLeDiff, Nat.le_refl, Nat.reduceEqDiff, ↓reduceIte, beq_self_eq_true, bne_self_eq_false, Int.reduceBEq, Int.reduceBNe, or_self, true_or, or_true, Option.map_some, Option.map_none, List.length_map, Int.toNat_natCast, all_ok_S, hdr, htk, and_true]) | (refine AW.seq_k fun K hK => ?_) | (refine AW.exit ?_; simp only [go_sem, ↓reduceIte]) | (refine AW.condF rfl (by first | rfl | (simp; omega) | (simp [*]; done) | fail) ?_) | (refine hK _ ?_; clear hK K) | (clear hK K; refine hK _ ?_; clear hK K) | (refine stepB_split (fun h => ?_) (fun h => ?_) <;> (have hb0 := h) <;> (try simp only [Bool.not_eq_true', Bool.not_eq_false'] at hb0) <;> (try simp only [decide_eq_true_eq, decide_eq_false_iff_not, Bool.not_eq_true', Bool.not_eq_false', Bool.not_eq_eq_eq_not, Bool.not_true, Bool.not_false, beq_iff_eq, bne_iff_ne, beq_eq_false_iff_ne, ne_eq, Bool.and_eq_true, Bool.or_eq_true, Bool.or_eq_false_iff] at h) <;> simp only [go_sem, Nat.reduceAdd, Nat.reduceMul, Int.reduceToNat, Nat.reduceLT, Nat.reduceLeDiff, Nat.le_refl, Nat.reduceEqDiff, ↓reduceIte, beq_self_eq_true, bne_self_eq_false, Int.reduceBEq, Int.reduceBNe, or_self, true_or, or_true, Option.map_some, Option.map_none, hb0, h, decide_true, decide_false, List.length_map, Int.toNat_natCast, all_ok_S, hdr, htk, and_true] <;> (try clear hb0)) | (with_reducible refine And.intro (?_ : regOk _ _ = true) ?_; kernel_rfl) | (with_reducible refine And.intro ?_ ?_; first | omega | assumption | (focus (decide)) | (focus (simp; done)) | (focus (simp; omega)) | (focus (constructor <;> omega)) | fail) | (exfalso; omega))
    all_goals first | (exfalso; omega) | exact AW.ret (Fin.data rfl (by simp [go_sem]) rfl) | trace_state
def snF (s : Str) : Str := Lib.join ((Lib.split s [32]).drop (dvN s)) [32] ++ (if dvN s = 0 then [] else [44, 32] ++ Lib.join ((Lib.split s [32]).take (dvN s)) [32])
theorem sortName_any (s : Str) (hl : s.length ≤ 1000) (hw : (Lib.split s [32]).length ≤ 1000) (hj1 : (Lib.join ((Lib.split s [32]).drop (dvN s)) [32]).length ≤ 1000) (hj2 : (Lib.join ((Lib.split s [32]).take (dvN s)) [32]).length ≤ 1000) : Does Tryz.prog 62 [S s] [] (S (snF s)) [] := by
  have hd := divide_any s (by omega) hw
  have hpos : 0 < (Lib.split s [32]).length := List.length_pos_iff.2 (split_ne s 32)
  have hle : dvN s < (Lib.split s [32]).length := by
    have := dvAt_le (Lib.split s [32]) ((Lib.split s [32]).length - 1)
    unfold dvN
    omega
  have h1 := join_any ((Lib.split s [32]).drop (dvN s)) (by simp; omega) (by simp; omega) (by omega)
  have h2 : 0 < dvN s → _ := fun h => join_any ((Lib.split s [32]).take (dvN s)) (by simp; omega) (by simp; omega) (by omega)
  unfold snF
  generalize dvN s = k at *
  have hlt : ((Lib.split s [32]).take k).length = k := by simp; omega
  have hlt2 : (((Lib.split s [32]).take k).map D.str).length = k := by rw [List.length_map, hlt]
  generalize (Lib.split s [32]).drop k = A at *
  generalize (Lib.split s [32]).take k = B at *
  generalize Lib.join A [32] = ja at *
  generalize Lib.join B [32] = jb at *
  refine Does.of_AW (n := 22) Tryz.func62 rfl rfl rfl fun cx hcx => ?_
  by_cases h0 : 0 < k
  · have h2 := h2 h0
    rw [if_neg (by omega)]
    repeat' (first | ((first | refine AW.sreg rfl fun K hK => ?_ | refine AW.reg rfl ?_ | refine run_call _ _ _ ((hd).pure rfl rfl _ _) rfl rfl (dstOk_of rfl) rfl rfl rfl ?_ | refine run_call _ _ _ ((h1).pure rfl rfl _ _) rfl rfl (dstOk_of rfl) rfl rfl rfl ?_ | refine run_call _ _ _ ((h2).pure rfl rfl _ _) rfl rfl (dstOk_of rfl) rfl rfl rfl ?_); simp only [go_sem, Nat.reduceAdd, Nat.reduceMul, Int.reduceToNat, Nat.reduceLT, Nat.reduceLeDiff, Nat.le_refl, Nat.reduceEqDiff, ↓reduceIte, beq_self_eq_true, bne_self_eq_false, Int.reduceBEq, Int.reduceBNe, or_self, true_or, or_true, Option.map_some, Option.map_none, hlt2]) | (refine AW.seq_k fun K hK => ?_) | (refine AW.condT rfl (by first | rfl | (simp; omega) | (simp [*]; done) | fail) ?_) | (refine hK _ ?_; clear hK K) | (with_reducible refine And.intro ?_ ?_; first | omega | assumption | (focus (decide)) | (focus (simp; done)) | (focus (simp; omega)) | (focus (constructor <;> omega)) | fail))
    all_goals first | (exfalso; omega) | exact AW.ret (Fin.data rfl (by simp [go_sem]) rfl) | trace_state
  · rw [if_pos (by omega), List.append_nil]
    repeat' (first | ((first | refine AW.sreg rfl fun K hK => ?_ | refine run_call _ _ _ ((hd).pure rfl rfl _ _) rfl rfl (dstOk_of rfl) rfl rfl rfl ?_ | refine run_call _ _ _ ((h1).pure rfl rfl _ _) rfl rfl (dstOk_of rfl) rfl rfl rfl ?_); simp only [go_sem, Nat.reduceAdd, Nat.reduceMul, Int.reduceToNat, Nat.reduceLT, Nat.reduceLeDiff, Nat.le_refl, Nat.reduceEqDiff, ↓reduceIte, beq_self_eq_true, bne_self_eq_false, Int.reduceBEq, Int.reduceBNe, or_self, true_or, or_true, Option.map_some, Option.map_none, hlt2]) | (refine AW.seq_k fun K hK => ?_) | (refine AW.skip ?_; simp only [Then, InBlock]) | (refine AW.condF rfl (by first | rfl | (simp; omega) | (simp [*]; done) | fail) ?_) | (refine hK _ ?_; clear hK K))
    all_goals first | (exfalso; omega) | exact AW.ret (Fin.data rfl (by simp [go_sem]) rfl) | trace_state
end Go.AX

namespace Go.AX
open Go Go.Proofs
section
variable {α : Type} (lt : α → α → Bool)
def insP : List α → α → List α → List α
  | [], x, q => x :: q
  | y :: pr, x, q => if lt x y = true then insP pr x (y :: q) else (y :: pr).reverse ++ x :: q
def isGo : List α → List α → List α
  | d, [] => d
  | d, x :: r => isGo (insP lt d.reverse x []) r
def isort (xs : List α) : List α := isGo lt (xs.take 1) (xs.drop 1)
theorem insP_perm : ∀ (pr : List α) (x : α) (q : List α), (insP lt pr x q).Perm (pr.reverse ++ x :: q)
  | [], x, q => by simp [insP]
  | y :: pr, x, q => by
    simp only [insP]
    split
    · refine (insP_perm pr x (y :: q)).trans ?_
      rw [List.reverse_cons, List.append_assoc]
      exact List.Perm.append_left _ (List.Perm.swap y x q)
    · exact List.Perm.refl _
theorem isGo_perm : ∀ (r d : List α), (isGo lt d r).Perm (d ++ r)
  | [], d => by simp [isGo]
  | x :: r, d => by
    simp only [isGo]
    refine (isGo_perm r _).trans ?_
    have := insP_perm lt d.reverse x []
    rw [List.reverse_reverse] at this
    refine (List.Perm.append_right r this).trans ?_
    simp
theorem isort_perm (xs : List α) : (isort lt xs).Perm xs := by
  refine (isGo_perm lt _ _).trans ?_
  rw [List.take_append_drop]
end
section
variable {α : Type} {lt : α → α → Bool}
end
theorem take1_tail {α : Type} (l : List α) : l.take 1 ++ l.tail = l := by cases l <;> simp
theorem get_mid {α : Type} (a : List α) (x : α) (b : List α) : (a ++ x :: b)[a.length]? = some x := by simp
theorem set_mid {α : Type} : ∀ (a : List α) (x : α) (b : List α) (z : α), (a ++ x :: b).set a.length z = a ++ z :: b
  | [], _, _, _ => rfl
  | y :: a, x, b, z => by simp [set_mid a x b z]
theorem swap_mid {α : Type} (a : List α) (x y : α) (b : List α) : ((a ++ y :: x :: b).set (0 + (a.length + 1)) y).set (0 + a.length) x = a ++ x :: y :: b := by
  rw [Nat.zero_add, Nat.zero_add]
  have h := set_mid (a ++ [y]) x b y
  simp only [List.length_append, List.length_cons, List.length_nil, Nat.zero_add, List.append_assoc, List.cons_append, List.nil_append] at h
  rw [h, set_mid]
theorem wrap_small (n : Nat) (h : n ≤ 1000) : IntKind.u64.wrap (n : Int) = n := by
  have e : IntKind.u64.wrap (n : Int) = (n : Int) % 18446744073709551616 := by simp [IntKind.wrap, IntKind.signed, IntKind.bits]
  omega
def lens : List Int := [0, 1, 2, 2, 3, 3, 3, 3, 4, 4, 4, 4, 4]
theorem len_all : ((List.range 13).all fun n => evalsTo Tryz.prog (CS Tryz.prog) 101 [.d (.int .u64 (n : Nat))] (I (lens.getD n 0))) = true := by kernel_rfl
theorem len_ok (n : Nat) (h : n ≤ 12) : Does Tryz.prog 101 [.d (.int .u64 (n : Nat))] [] (I (lens.getD n 0)) [] := evalsTo_ok CS_ok hmix (List.all_eq_true.1 len_all n (List.mem_range.2 (by omega)))
end Go.AX

namespace Go.AX
open Go Go.Proofs Go.RowKit
/-- An entry of the index: name and key, pages; its name is not long. -/
abbrev GrpS := {g : (Str × Str) × List Int // g.1.1.length ≤ 1000}
abbrev liD (g : (Str × Str) × List Int) : D := .agg [.str g.1.1, .str g.1.2, .sl (g.2.map (D.int .i64))]
abbrev liS (g : GrpS) : D := liD g.1
def cvI (a b : GrpS) : Int := orI [Lib.compareBytes (foldS a.1.1.1) (foldS b.1.1.1), Lib.compareBytes a.1.1.1 b.1.1.1, Lib.compareBytes a.1.1.2 b.1.1.2]
theorem cmpIx (a b : GrpS) : Does Tryz.prog 64 [.d (liS a), .d (liS b)] [] (I (cvI a b)) [] := by
  obtain ⟨⟨⟨an, ak⟩, ap⟩, ha⟩ := a
  obtain ⟨⟨⟨bn, bk⟩, bp⟩, hb⟩ := b
  have ha : an.length ≤ 1000 := ha
  have hb : bn.length ≤ 1000 := hb
  have f1 := fold_any an (by omega)
  have f2 := fold_any bn (by omega)
  have hor := cmpOr_any [Lib.compareBytes (foldS an) (foldS bn), Lib.compareBytes an bn, Lib.compareBytes ak bk] (by simp)
  unfold cvI
  simp only
  generalize orI _ = v at *
  refine Does.of_AW (n := 24) Tryz.func64 rfl rfl rfl fun cx hcx => ?_
  repeat' (first | ((first | refine AW.sreg rfl fun K hK => ?_ | refine AW.sregD hmix rfl fun K hK => ?_ | refine runT_call _ _ [] (fun hv _ => (f1).pure rfl rfl hv _) rfl rfl (dstOk_of rfl) rfl rfl ?_ | refine runT_call _ _ [] (fun hv _ => (f2).pure rfl rfl hv _) rfl rfl (dstOk_of rfl) rfl rfl ?_ | refine runT_call _ _ [] (fun hv _ => (compareStr_any _ _).pure rfl rfl hv _) rfl rfl (dstOk_of rfl) rfl rfl ?_ | refine runT_call _ _ [1280] (fun hv hag => (hor).lend (by repeat' (first | exact frzL_nil | refine frzL_cons (by first | exact frz_d | exact frz_slr rfl ((hag 1280 (by simp)).trans rfl) (by first | (simp; done) | (simp; omega) | (simp [*]; done) | fail) | rfl) ?_)) rfl rfl rfl) rfl rfl (dstOk_of rfl) rfl rfl ?_); simp only [go_sem, Nat.reduceAdd, Nat.reduceMul, Int.reduceToNat, Nat.reduceLT, Nat.reduceLeDiff, Nat.le_refl, Nat.reduceEqDiff, ↓reduceIte, beq_self_eq_true, bne_self_eq_false, Int.reduceBEq, Int.reduceBNe, or_self, true_or, or_true, Option.map_some, Option.map_none]) | (refine hK _ ?_; clear hK K) | (with_reducible refine And.intro (?_ : regOk _ _ = true) ?_; kernel_rfl))
  exact AW.ret (Fin.data rfl (by simp [go_sem]) rfl)
theorem insertionSort_Li (lt : GrpS → GrpS → Bool) (cv : GrpS → GrpS → Int) (hlt : ∀ x y, lt x y = decide (cv x y < 0)) (c : Nat) (hc : ∀ x y, Does Tryz.prog c [.d (liS x), .d (liS y)] [] (I (cv x y)) []) (xs : List GrpS) (hl : xs.length ≤ 1000) :
    Does Tryz.prog 133 [.slr 0 0 xs.length, I 0, I xs.length, .fn c []] [.vec 88 3 (dv (xs.map liS))] (.tup []) [.vec 88 3 (dv ((isort lt xs).map liS))] := by
  refine Does.of_AW (n := 53) Tryz.func133 rfl rfl rfl fun cx hcx => ?_
  generalize hR : isort lt xs = R
  repeat' (first | (refine AW.sreg rfl fun K hK => ?_; simp only [go_sem, Nat.reduceAdd, Nat.reduceMul, Int.reduceToNat, Nat.reduceLT, Nat.reduceLeDiff, Nat.le_refl, Nat.reduceEqDiff, ↓reduceIte, beq_self_eq_true, bne_self_eq_false, Int.reduceBEq, Int.reduceBNe, or_self, true_or, or_true, Option.map_some, Option.map_none, List.length_map]) | (refine AW.block ?_) | (refine hK _ ?_; clear hK K) | (with_reducible refine And.intro ?_ ?_; first | omega | assumption | (focus (decide)) | (focus (simp; done)) | (focus (simp; omega)) | (focus (constructor <;> omega)) | fail))
  refine AW.loopF (ι := Nat × List GrpS × List GrpS) [0, 1, 2, 3] (fun p => [(8, I p.1)]) (fun p => [(0, some (O.vec 88 3 (dv ((p.2.1 ++ p.2.2).map liS))))]) 1 (fun p => 1 ≤ p.1 ∧ p.2.1.length + p.2.2.length = xs.length ∧ (p.2.1.length = p.1 ∨ xs.length = 0) ∧ isGo lt p.2.1 p.2.2 = R) (fun p => xs.length - p.1) (1, xs.take 1, xs.drop 1) ⟨by simp, by simp only [List.length_take, List.length_drop]; omega, by simp only [List.length_take]; omega, hR⟩ (Weak.auto hcx rfl rfl (Nat.le_of_ble_eq_true rfl) (by simp [go_sem, gL, kL, renOf, V.obj, lk, Nat.blt, Nat.ble, List.map_append, dv_push, take1_tail]) (by simp [go_sem, gL, kL, renOf, V.obj, lk, Nat.blt, Nat.ble, List.map_append, dv_push, take1_tail]) (by first | exact pk0 | exact pk1 ⟨_, rfl⟩ | exact pk2 ⟨_, rfl⟩ ⟨_, rfl⟩ | exact pk3 ⟨_, rfl⟩ ⟨_, rfl⟩ ⟨_, rfl⟩ | exact pk4 ⟨_, rfl⟩ ⟨_, rfl⟩ ⟨_, rfl⟩ ⟨_, rfl⟩) (by simp [go_sem, gL, kL, lk, renOf, V.obj, Nat.blt, Nat.ble, take1_tail])) ?_; simp only [St.at_nil, St.at_cons, lk, Nat.reduceEqDiff, ↓reduceIte, Option.getD_some, Option.getD_none, List.cons_append, List.nil_append, List.append_nil]
  rintro ⟨i, d, r⟩ ⟨h1, h2, h3, h4⟩
  simp only at h1 h2 h3 h4 ⊢
  by_cases hi : i < xs.length
  · obtain ⟨x, r, rfl⟩ : ∃ x r', r = x :: r' := by
      cases r with
      | nil => simp at h2; omega
      | cons x r' => exact ⟨x, r', rfl⟩
    obtain rfl : i = d.length := by omega
    simp only [isGo] at h4
    repeat' (first | (refine AW.sreg rfl fun K hK => ?_; simp only [go_sem, Nat.reduceAdd, Nat.reduceMul, Int.reduceToNat, Nat.reduceLT, Nat.reduceLeDiff, Nat.le_refl, Nat.reduceEqDiff, ↓reduceIte, beq_self_eq_true, bne_self_eq_false, Int.reduceBEq, Int.reduceBNe, or_self, true_or, or_true, Option.map_some, Option.map_none, List.length_map]) | (refine AW.seq_k fun K hK => ?_) | (refine AW.block ?_) | (refine AW.skip ?_; simp only [Then, InBlock]) | (refine AW.condT rfl (by first | rfl | (simp; omega) | (simp [*]; done) | fail) ?_) | (refine hK _ ?_; clear hK K))
    generalize hR2 : insP lt d.reverse x [] = R2 at h4
    refine AW.loopF (ι := List GrpS × List GrpS) [0, 1, 2, 3, 8] (fun p => [(9, I p.1.length)]) (fun p => [(0, some (O.vec 88 3 (dv ((p.1.reverse ++ x :: (p.2 ++ r)).map liS))))]) 1 (fun p => p.1.length + p.2.length = d.length ∧ insP lt p.1 x p.2 = R2) (fun p => p.1.length) (d.reverse, []) ⟨by simp, hR2⟩ (Weak.auto hcx rfl rfl (Nat.le_of_ble_eq_true rfl) (by simp [go_sem, gL, kL, renOf, V.obj, lk, Nat.blt, Nat.ble, List.map_append, dv_push]) (by simp [go_sem, gL, kL, renOf, V.obj, lk, Nat.blt, Nat.ble, List.map_append, dv_push]) (by first | exact pk0 | exact pk1 ⟨_, rfl⟩ | exact pk2 ⟨_, rfl⟩ ⟨_, rfl⟩ | exact pk3 ⟨_, rfl⟩ ⟨_, rfl⟩ ⟨_, rfl⟩ | exact pk4 ⟨_, rfl⟩ ⟨_, rfl⟩ ⟨_, rfl⟩ ⟨_, rfl⟩) (by simp [go_sem, gL, kL, lk, renOf, V.obj, Nat.blt, Nat.ble])) ?_; simp only [St.at_nil, St.at_cons, lk, Nat.reduceEqDiff, ↓reduceIte, Option.getD_some, Option.getD_none, List.cons_append, List.nil_append, List.append_nil]
    rintro ⟨pr, q⟩ ⟨g1, g2⟩
    simp only at g1 g2 ⊢
    rcases pr with _ | ⟨y, pr⟩
    · simp only [insP] at g2
      subst g2
      simp only [List.length_cons, List.length_nil] at g1 h2
      repeat' (first | ((first | refine AW.sregD hmix rfl fun K hK => ?_ | refine AW.reg rfl ?_); simp only [go_sem, Nat.reduceAdd, Nat.reduceMul, Int.reduceToNat, Nat.reduceLT, Nat.reduceLeDiff, Nat.le_refl, Nat.reduceEqDiff, ↓reduceIte, beq_self_eq_true, bne_self_eq_false, Int.reduceBEq, Int.reduceBNe, or_self, true_or, or_true, Option.map_some, Option.map_none, List.length_map]) | (refine AW.seq_k fun K hK => ?_) | (refine AW.exit ?_; simp only [go_sem, ↓reduceIte]) | (refine AW.condF rfl (by first | rfl | (simp; omega) | (simp [*]; done) | fail) ?_) | (refine hK _ ?_; clear hK K) | (clear hK K; refine hK _ ?_; clear hK K) | (refine stepBT_split (fun h => ?_) (fun h => ?_) <;> (have hb0 := h) <;> (try simp only [Bool.not_eq_true', Bool.not_eq_false'] at hb0) <;> (try simp only [decide_eq_true_eq, decide_eq_false_iff_not, Bool.not_eq_true', Bool.not_eq_false', Bool.not_eq_eq_eq_not, Bool.not_true, Bool.not_false, beq_iff_eq, bne_iff_ne, beq_eq_false_iff_ne, ne_eq, Bool.and_eq_true, Bool.or_eq_true, Bool.or_eq_false_iff] at h) <;> simp only [go_sem, Nat.reduceAdd, Nat.reduceMul, Int.reduceToNat, Nat.reduceLT, Nat.reduceLeDiff, Nat.le_refl, Nat.reduceEqDiff, ↓reduceIte, beq_self_eq_true, bne_self_eq_false, Int.reduceBEq, Int.reduceBNe, or_self, true_or, or_true, Option.map_some, Option.map_none, hb0, h, decide_true, decide_false, List.length_map] <;> (try clear hb0)) | (with_reducible refine And.intro (?_ : regOk _ _ = true) ?_; kernel_rfl) | (with_reducible refine And.intro ?_ ?_; first | omega | assumption | (focus (decide)) | (focus (simp; done)) | (focus (simp; omega)) | (focus (constructor <;> omega)) | fail) | (exfalso; omega))
      exact ⟨(d.length + 1, x :: q, r), ⟨by simp only; omega, by simp only [List.length_cons]; omega, .inl (by simp only [List.length_cons]; omega), h4⟩, by simp only; omega, (Weak.auto hcx rfl rfl (Nat.le_of_ble_eq_true rfl) (by simp [go_sem, gL, kL, renOf, V.obj, lk, Nat.blt, Nat.ble, List.map_append, dv_push]) (by simp [go_sem, gL, kL, renOf, V.obj, lk, Nat.blt, Nat.ble, List.map_append, dv_push]) (by first | exact pk0 | exact pk1 ⟨_, rfl⟩ | exact pk2 ⟨_, rfl⟩ ⟨_, rfl⟩ | exact pk3 ⟨_, rfl⟩ ⟨_, rfl⟩ ⟨_, rfl⟩ | exact pk4 ⟨_, rfl⟩ ⟨_, rfl⟩ ⟨_, rfl⟩ ⟨_, rfl⟩) (by simp [go_sem, gL, kL, lk, renOf, V.obj, Nat.blt, Nat.ble]))⟩
    · have e1 : (dv ((List.reverse (y :: pr) ++ x :: (q ++ r)).map liS))[0 + (pr.length + 1)]? = some (.d (liS x)) := by
        have := get_mid (List.reverse (y :: pr)) x (q ++ r)
        simp only [List.length_reverse, List.length_cons] at this
        simp only [dv, Nat.zero_add, List.getElem?_map, this, Option.map_some]
      have e2 : (dv ((List.reverse (y :: pr) ++ x :: (q ++ r)).map liS))[0 + pr.length]? = some (.d (liS y)) := by
        have := get_mid (List.reverse pr) y (x :: (q ++ r))
        simp only [List.length_reverse] at this
        simp only [dv, Nat.zero_add, List.getElem?_map, List.reverse_cons, List.append_assoc, List.cons_append, List.nil_append, this, Option.map_some]
      have e3 : (((pr.length + 1 : Nat) : Int) - 1).toNat = pr.length := by omega
      simp only [List.length_cons] at g1 h2
      simp only [insP, hlt] at g2
      have e4 : (((dv ((List.reverse (y :: pr) ++ x :: (q ++ r)).map liS)).set (0 + (pr.length + 1)) (.d (liS y))).set (0 + pr.length) (.d (liS x))) = dv ((pr.reverse ++ x :: ((y :: q) ++ r)).map liS) := by
        have := swap_mid (dv (pr.reverse.map liS)) (V.d (liS x)) (V.d (liS y)) (dv ((q ++ r).map liS))
        simp only [dv, List.length_map, List.length_reverse, List.map_append, List.map_cons, List.reverse_cons, List.append_assoc, List.cons_append, List.nil_append, List.map_nil] at this ⊢
        exact this
      have e5 : ((dv ((List.reverse (y :: pr) ++ x :: (q ++ r)).map liS)).set (0 + (pr.length + 1)) (.d (liS y)))[0 + pr.length]? = some (.d (liS y)) := by
        rw [List.getElem?_set_ne (by omega)]
        exact e2
      repeat' (first | ((first | refine AW.sregD hmix rfl fun K hK => ?_ | refine AW.reg rfl ?_ | refine AW.regD hmix rfl ?_ | refine runT_call _ _ [] (fun hv _ => (hc x y).pure rfl rfl hv _) rfl rfl (dstOk_of rfl) rfl rfl ?_); simp only [go_sem, Nat.reduceAdd, Nat.reduceMul, Int.reduceToNat, Nat.reduceLT, Nat.reduceLeDiff, Nat.le_refl, Nat.reduceEqDiff, ↓reduceIte, beq_self_eq_true, bne_self_eq_false, Int.reduceBEq, Int.reduceBNe, or_self, true_or, or_true, Option.map_some, Option.map_none, List.length_map, e1, e2, e3, e4, e5, List.length_cons, or_self, true_or, or_true]) | (refine AW.seq_k fun K hK => ?_) | (refine AW.block ?_) | (refine AW.skip ?_; simp only [Then, InBlock]) | (refine AW.exit ?_; simp only [go_sem, ↓reduceIte]) | (refine AW.condT rfl (by first | rfl | (simp; omega) | (simp [*]; done) | fail) ?_) | (refine AW.cond rfl (fun h => ?_) (fun h => ?_) <;> (try simp only [decide_eq_true_eq, decide_eq_false_iff_not, Bool.not_eq_true', Bool.not_eq_false', Bool.not_eq_eq_eq_not, Bool.not_true, Bool.not_false, beq_iff_eq, bne_iff_ne, beq_eq_false_iff_ne, ne_eq, Bool.and_eq_true, Bool.or_eq_true, Bool.or_eq_false_iff] at h)) | (refine hK _ ?_; clear hK K) | (clear hK K; refine hK _ ?_; clear hK K) | (refine stepBT_split (fun h => ?_) (fun h => ?_) <;> (have hb0 := h) <;> (try simp only [Bool.not_eq_true', Bool.not_eq_false'] at hb0) <;> (try simp only [decide_eq_true_eq, decide_eq_false_iff_not, Bool.not_eq_true', Bool.not_eq_false', Bool.not_eq_eq_eq_not, Bool.not_true, Bool.not_false, beq_iff_eq, bne_iff_ne, beq_eq_false_iff_ne, ne_eq, Bool.and_eq_true, Bool.or_eq_true, Bool.or_eq_false_iff] at h) <;> simp only [go_sem, Nat.reduceAdd, Nat.reduceMul, Int.reduceToNat, Nat.reduceLT, Nat.reduceLeDiff, Nat.le_refl, Nat.reduceEqDiff, ↓reduceIte, beq_self_eq_true, bne_self_eq_false, Int.reduceBEq, Int.reduceBNe, or_self, true_or, or_true, Option.map_some, Option.map_none, hb0, h, decide_true, decide_false, List.length_map, e1, e2, e3, e4, e5, List.length_cons, or_self, true_or, or_true] <;> (try clear hb0)) | (with_reducible refine And.intro (?_ : regOk _ _ = true) ?_; kernel_rfl) | (with_reducible refine And.intro ?_ ?_; first | omega | assumption | (focus (decide)) | (focus (simp; done)) | (focus (simp; omega)) | (focus (constructor <;> omega)) | fail) | (exfalso; omega))
      · rw [if_pos (by simpa using h)] at g2
        exact ⟨(pr, y :: q), ⟨by simp only [List.length_cons]; omega, g2⟩, by simp only [List.length_cons]; omega, (Weak.auto hcx rfl rfl (Nat.le_of_ble_eq_true rfl) (by simp [go_sem, gL, kL, renOf, V.obj, lk, Nat.blt, Nat.ble, List.map_append, dv_push]) (by simp [go_sem, gL, kL, renOf, V.obj, lk, Nat.blt, Nat.ble, List.map_append, dv_push]) (by first | exact pk0 | exact pk1 ⟨_, rfl⟩ | exact pk2 ⟨_, rfl⟩ ⟨_, rfl⟩ | exact pk3 ⟨_, rfl⟩ ⟨_, rfl⟩ ⟨_, rfl⟩ | exact pk4 ⟨_, rfl⟩ ⟨_, rfl⟩ ⟨_, rfl⟩ ⟨_, rfl⟩) (by simp [go_sem, gL, kL, lk, renOf, V.obj, Nat.blt, Nat.ble]))⟩
      · rw [if_neg (by simpa using h)] at g2
        subst g2
        exact ⟨(d.length + 1, (y :: pr).reverse ++ x :: q, r), ⟨by simp only; omega, by simp only [List.length_append, List.length_reverse, List.length_cons]; omega, .inl (by simp only [List.length_append, List.length_reverse, List.length_cons]; omega), h4⟩, by simp only; omega, (Weak.auto hcx rfl rfl (Nat.le_of_ble_eq_true rfl) (by simp [go_sem, gL, kL, renOf, V.obj, lk, Nat.blt, Nat.ble, List.map_append, dv_push]) (by simp [go_sem, gL, kL, renOf, V.obj, lk, Nat.blt, Nat.ble, List.map_append, dv_push]) (by first | exact pk0 | exact pk1 ⟨_, rfl⟩ | exact pk2 ⟨_, rfl⟩ ⟨_, rfl⟩ | exact pk3 ⟨_, rfl⟩ ⟨_, rfl⟩ ⟨_, rfl⟩ | exact pk4 ⟨_, rfl⟩ ⟨_, rfl⟩ ⟨_, rfl⟩ ⟨_, rfl⟩) (by simp [go_sem, gL, kL, lk, renOf, V.obj, Nat.blt, Nat.ble]))⟩
  · have hr : r = [] := by
      cases r with
      | nil => rfl
      | cons x r => simp only [List.length_cons] at h2; omega
    subst hr
    simp only [isGo] at h4
    subst h4
    repeat' (first | (refine AW.sreg rfl fun K hK => ?_; simp only [go_sem, Nat.reduceAdd, Nat.reduceMul, Int.reduceToNat, Nat.reduceLT, Nat.reduceLeDiff, Nat.le_refl, Nat.reduceEqDiff, ↓reduceIte, beq_self_eq_true, bne_self_eq_false, Int.reduceBEq, Int.reduceBNe, or_self, true_or, or_true, Option.map_some, Option.map_none, List.length_map, List.append_nil]) | (refine AW.seq_k fun K hK => ?_) | (refine AW.exit ?_; simp only [go_sem, ↓reduceIte]) | (refine AW.condF rfl (by first | rfl | (simp; omega) | (simp [*]; done) | fail) ?_) | (refine hK _ ?_; clear hK K))
    exact Fin.one rfl rfl ⟨_, rfl, by simp [go_sem]⟩ rfl (by simp [go_sem]) rfl
theorem pdqsort_Li (lt : GrpS → GrpS → Bool) (cv : GrpS → GrpS → Int) (hlt : ∀ x y, lt x y = decide (cv x y < 0)) (c : Nat) (hc : ∀ x y, Does Tryz.prog c [.d (liS x), .d (liS y)] [] (I (cv x y)) []) (xs : List GrpS) (hl : xs.length ≤ 12) (m : Int) :
    Does Tryz.prog 100 [.slr 0 0 xs.length, I 0, I xs.length, I m, .fn c []] [.vec 88 3 (dv (xs.map liS))] (.tup []) [.vec 88 3 (dv ((isort lt xs).map liS))] := by
  refine Does.of_AW (n := 148) Tryz.func100 rfl rfl rfl fun cx hcx => ?_
  repeat' (first | (refine AW.sreg rfl fun K hK => ?_; simp only [go_sem, Nat.reduceAdd, Nat.reduceMul, Int.reduceToNat, Nat.reduceLT, Nat.reduceLeDiff, Nat.le_refl, Nat.reduceEqDiff, ↓reduceIte, beq_self_eq_true, bne_self_eq_false, Int.reduceBEq, Int.reduceBNe, or_self, true_or, or_true, Option.map_some, Option.map_none, List.length_map]) | (refine AW.block ?_) | (refine hK _ ?_; clear hK K))
  refine AW.loopF (ι := Unit) [0, 4] (fun p => [(1, I 0), (2, I xs.length), (3, I m), (10, B true), (11, B true)]) (fun p => [(0, some (O.vec 88 3 (dv (xs.map liS))))]) 1 (fun p => True) (fun p => 0) () trivial (Weak.auto hcx rfl rfl (Nat.le_of_ble_eq_true rfl) (by simp [go_sem, gL, kL, renOf, V.obj, lk, Nat.blt, Nat.ble, List.map_append, dv_push]) (by simp [go_sem, gL, kL, renOf, V.obj, lk, Nat.blt, Nat.ble, List.map_append, dv_push]) (by first | exact pk0 | exact pk1 ⟨_, rfl⟩ | exact pk2 ⟨_, rfl⟩ ⟨_, rfl⟩ | exact pk3 ⟨_, rfl⟩ ⟨_, rfl⟩ ⟨_, rfl⟩ | exact pk4 ⟨_, rfl⟩ ⟨_, rfl⟩ ⟨_, rfl⟩ ⟨_, rfl⟩) (by simp [go_sem, gL, kL, lk, renOf, V.obj, Nat.blt, Nat.ble])) ?_; simp only [St.at_nil, St.at_cons, lk, Nat.reduceEqDiff, ↓reduceIte, Option.getD_some, Option.getD_none, List.cons_append, List.nil_append, List.append_nil]
  rintro ⟨⟩ _
  repeat' (first | ((first | refine AW.sreg rfl fun K hK => ?_ | refine run_call _ _ _ ((insertionSort_Li lt cv hlt c hc xs (by omega)).objs [0] ⟨rfl, trivial⟩ rfl (by decide) (by simp [go_sem, renOs]) (by simp) (by simp) (by simp [go_sem]) (by simp [go_sem]) (by simp [go_sem]) (by simp [go_sem])) rfl rfl (dstOk_of rfl) rfl rfl rfl ?_); simp only [go_sem, Nat.reduceAdd, Nat.reduceMul, Int.reduceToNat, Nat.reduceLT, Nat.reduceLeDiff, Nat.le_refl, Nat.reduceEqDiff, ↓reduceIte, beq_self_eq_true, bne_self_eq_false, Int.reduceBEq, Int.reduceBNe, or_self, true_or, or_true, Option.map_some, Option.map_none, List.length_map, Int.sub_zero]) | (refine AW.seq_k fun K hK => ?_) | (refine AW.block ?_) | (refine AW.condT rfl (by first | rfl | (simp; omega) | (simp [*]; done) | fail) ?_) | (refine hK _ ?_; clear hK K) | (with_reducible refine And.intro ?_ ?_; first | omega | assumption | (focus (decide)) | (focus (simp; done)) | (focus (simp; omega)) | (focus (constructor <;> omega)) | fail))
  exact AW.ret (Fin.one rfl rfl ⟨_, rfl, by simp [go_sem]⟩ rfl (by simp [go_sem]) rfl)
theorem sortFunc_Li (lt : GrpS → GrpS → Bool) (cv : GrpS → GrpS → Int) (hlt : ∀ x y, lt x y = decide (cv x y < 0)) (c : Nat) (hc : ∀ x y, Does Tryz.prog c [.d (liS x), .d (liS y)] [] (I (cv x y)) []) (xs : List GrpS) (hl : xs.length ≤ 12) :
    Does Tryz.prog 63 [.slr 0 0 xs.length, .fn c []] [.vec 88 3 (dv (xs.map liS))] (.tup []) [.vec 88 3 (dv ((isort lt xs).map liS))] := by
  refine Does.of_AW (n := 14) Tryz.func63 rfl rfl rfl fun cx hcx => ?_
  have hw := wrap_small xs.length (by omega)
  repeat' (first | ((first | refine AW.sreg rfl fun K hK => ?_ | refine AW.reg rfl ?_ | refine run_call _ _ _ ((len_ok xs.length hl).pure rfl rfl _ _) rfl rfl (dstOk_of rfl) rfl rfl rfl ?_ | refine run_call _ _ _ ((pdqsort_Li lt cv hlt c hc xs hl _).objs [0] ⟨rfl, trivial⟩ rfl (by decide) (by simp [go_sem, renOs]) (by simp) (by simp) (by simp [go_sem]) (by simp [go_sem]) (by simp [go_sem]) (by simp [go_sem])) rfl rfl (dstOk_of rfl) rfl rfl rfl ?_); simp only [go_sem, Nat.reduceAdd, Nat.reduceMul, Int.reduceToNat, Nat.reduceLT, Nat.reduceLeDiff, Nat.le_refl, Nat.reduceEqDiff, ↓reduceIte, beq_self_eq_true, bne_self_eq_false, Int.reduceBEq, Int.reduceBNe, or_self, true_or, or_true, Option.map_some, Option.map_none, List.length_map, hw]) | (refine hK _ ?_; clear hK K))
  exact Fin.one rfl rfl ⟨_, rfl, by simp [go_sem]⟩ rfl (by simp [go_sem]) rfl

end Go.AX
