/- AX, part 14: the rule for a region that draws its order; weakening of states; the top. -/
import Derived.Test.YtecggjfjafnepaaGreatDoorAx12
set_option linter.unusedSimpArgs false
set_option linter.unusedVariables false
namespace Go.AX
open Go

section
variable {P : Program} {cx : Cx}

theorem Rel.world {st : St} {F : Nat → Prop} {σ : Nat → Option Loc} {a : Act} {w w' : World} (h : Rel cx st F σ a w) (h1 : w'.heap = w.heap) (h2 : w'.os = w.os) (h3 : w'.tape = w.tape) (h4 : w'.output = w.output) : Rel cx st F σ a w' := by
 refine ⟨h.hr.same h1 h2 h3 h4, h.fresh, h.par, h.tmps, h.defers, fun t v hv => ?_⟩
 exact RV_mono (fun b hb => ⟨⟨hb.1, by rw [h1]; exact hb.2.1, hb.2.2⟩, by rw [h1]⟩) (fun _ _ h => h) _ _ (h.env t v hv)

theorem AW.regionD {id : Nat} {ops : Array Oper} {Q : Exit → St → Prop} {st : St} (hm : P.follows .mixedOrders = true)
  (h : aRunT P ops (List.range ops.size) st [] fun st' tr => regOk ops tr = true ∧ Q .normal (st'.bump ops.size)) : AW P cx (.region id ops true) Q st := by
 intro hgl σ a w hr
 obtain ⟨tr, hl, hs, hk, hq⟩ := aRunT_split (P := P) (ops := ops) (st := st) (K := fun st' tr => regOk ops tr = true ∧ Q .normal (st'.bump ops.size)) ops.size [] (by simp) (by simp) (by simpa [stAt] using h)
 refine wp_region_any hm ?_
 have hr1 : Rel cx st (fun id => st.c ≤ id / 64) σ a { w with drawn := w.drawn + 1 } := hr.world rfl rfl rfl rfl
 have gl : ∀ i, (Array.replicate ops.size false).getD i false = false := by
  intro i
  by_cases hi : i < ops.size <;> simp [hi]
 have e0 : ∀ m t, eV st ops tr (fun i => (Array.replicate ops.size false).getD i false) m t = lk st.env t := by
  intro m t
  induction m with
  | zero => rfl
  | succ m ih => rw [eV, gl m, if_neg (by simp)]; exact ih
 have h0 : ∀ m i, hV st tr (fun i => (Array.replicate ops.size false).getD i false) m i = st.hv i := by
  intro m i
  induction m with
  | zero => rfl
  | succ m ih => rw [hV, gl m, if_neg (by simp)]; exact ih
 refine wpAny_of_run hgl (F0 := fun id => st.c ≤ id / 64) hl (RegOk.of hk) hs (fun i _ id hid => by omega) ?_ ops.size _ st σ a _ (by simp) ?_ ?_ rfl rfl (fun t => (e0 _ t).symm) (fun i => (h0 _ i).symm) (hr1.congr rfl (fun _ => rfl) (fun _ => rfl) fun _ h => h.1)
 ·intro σ' a' w' hr'
  refine ⟨_, σ', hq, ?_⟩
  refine ⟨hr'.hr, fun id hid => hr'.fresh id ?_, hr'.par, hr'.tmps, hr'.defers, hr'.env⟩
  simp only [St.bump] at hid
  rw [(stAt_n (st := st) (ops := ops) (tr := tr) ops.size).2] at hid
  exact ⟨by omega, fun i hi => by omega⟩
 ·have := List.length_filter_le (fun i => !(Array.replicate ops.size false).getD i false) (List.range ops.size)
  simpa using this
 ·intro i o _ hi
  simp only [gl] at hi
  cases hi

/-! ### weakening -/
/-- Every concrete state of st is one of st'. -/
def Weak (cx : Cx) (st st' : St) : Prop := ∀ σ a w, Rel cx st (fun id => st.c ≤ id / 64) σ a w → ∃ σ', Rel cx st' (fun id => st'.c ≤ id / 64) σ' a w

theorem AW.weak {c : Code} {Q : Exit → St → Prop} {st st' : St} (h : Weak cx st st') (hw : AW P cx c Q st') : AW P cx c Q st := fun hgl σ a w hr => by
 obtain ⟨σ', hr'⟩ := h σ a w hr
 exact hw hgl σ' a w hr'

/-- The slots that st' names hold there what they hold in st; its objects, by the numbers that g gives, are those of st; what is not kept is data. -/
theorem Weak.of {st st' : St} (g : Nat → Nat) (keep : Nat → Bool) (k : Nat) (hk : ∀ i l, cx.ps i = some l → i < k) (hpb : ∀ b, cx.pb b → ∃ i K s, i < k ∧ cx.ps i = some (.blk b K s))
  (hn : st'.n = st.n) (hg : ∀ i, i < k → g i = i) (hkc : k ≤ st'.c)
  (he : ∀ p ∈ st'.env, ∃ v, lk st.env p.1 = some v ∧ frz st.hv keep v = p.2.ren g ∧ p.2.bel (64 * st'.c) = true)
  (hh : ∀ p ∈ st'.H, ∃ o, p.2 = some o ∧ p.1 < 64 * st'.c ∧ o.bel (64 * st'.c) = true ∧ keep (g p.1) = true ∧ ∃ o', st.hv (g p.1) = some o' ∧ o'.frz st.hv keep = o.ren g)
  (hpk : ∀ i, i < k → keep i = true ∧ ∃ o, st.hv i = some o)
  (hinj : ∀ p ∈ st'.H, ∀ q ∈ st'.H, g p.1 = g q.1 → p.1 = q.1) : Weak cx st st' := by
 intro σ a w h
 have mem_lk : ∀ {α : Type} (l : List (Nat × α)) (i : Nat) (x : α), lk l i = some x → (i, x) ∈ l := by
  intro α l i x hl
  induction l with
  | nil => simp [lk] at hl
  | cons p l ih =>
   obtain ⟨k, y⟩ := p
   simp only [lk] at hl
   split at hl
   ·rename_i e; cases hl; subst e; simp
   ·simp [ih hl]
 have own' : ∀ i o, st'.hv i = some o → i < 64 * st'.c ∧ o.bel (64 * st'.c) = true ∧ keep (g i) = true ∧ ∃ o', st.hv (g i) = some o' ∧ o'.frz st.hv keep = o.ren g := by
  intro i o ho
  simp only [St.hv] at ho
  cases hl : lk st'.H i with
  | none => rw [hl] at ho; cases ho
  | some q =>
   rw [hl] at ho
   obtain ⟨o2, e1, e2⟩ := hh (i, q) (mem_lk _ _ _ hl)
   simp only at e1 e2
   subst e1
   simp at ho
   subst ho
   exact e2
 have mem' : ∀ i o, st'.hv i = some o → ∃ q, (i, q) ∈ st'.H := by
  intro i o ho
  simp only [St.hv] at ho
  cases hl : lk st'.H i with
  | none => rw [hl] at ho; cases ho
  | some q => exact ⟨q, mem_lk _ _ _ hl⟩
 have hpb' : ∀ b, cx.pb b → ∃ i K s, keep i = true ∧ (∃ o, st.hv i = some o) ∧ σ i = some (.blk b K s) := by
  intro b hb
  obtain ⟨i, K, s, hi, hs⟩ := hpb b hb
  exact ⟨i, K, s, (hpk i hi).1, (hpk i hi).2, h.par i _ hs⟩
 let σ2 : Nat → Option Loc := fun i => if i < 64 * st'.c then σ (g i) else none
 have s2 : ∀ i, i < 64 * st'.c → σ2 i = σ (g i) := fun i hi => by simp [σ2, hi]
 have back : ∀ i l, i < 64 * st'.c → σ (g i) = some l → σ2 i = some l := fun i l hi hs => by rw [s2 i hi]; exact hs
 have okc : ∀ b, okB cx w (only st.hv keep) σ b → okB cx w st'.hv σ2 b := by
  intro b hb
  refine ⟨hb.1, hb.2.1, fun i o K s ho hs => ?_⟩
  obtain ⟨h1, _, h3, o', h4, _⟩ := own' i o ho
  rw [s2 i h1] at hs
  exact hb.2.2 (g i) o' K s (by unfold only; rw [if_pos h3]; exact h4) hs
 have H := h.hr
 refine ⟨σ2, ?_⟩
 constructor
 ·constructor
  ·exact H.os
  ·exact H.tape
  ·exact H.output
  ·exact H.size
  ·exact H.frame
  ·intro i o ho
   obtain ⟨h1, h2, h3, o', h4, h5⟩ := own' i o ho
   have hro := H.own _ _ h4
   have hro2 : RO w (okB cx w (only st.hv keep) σ) σ (g i) (o'.frz st.hv keep) := by
    cases o' with
    | box e vs =>
     obtain ⟨b, K, s, c, fr, e1, e2, e3, e4⟩ := hro
     exact ⟨b, K, s, c, fr, e1, e2, e3, RVl_frz H hpb' _ _ e4⟩
    | vec e s xs =>
     rcases hro with ⟨e1, e2⟩ | ⟨b, K, c, fr, e1, e2, e3, e4, e5, e6⟩
     ·exact .inl ⟨e1, by subst e2; simp only [frzL]⟩
     ·exact .inr ⟨b, K, c, fr, e1, e2, e3, e4, by rw [frzL_length]; exact e5, RVels_frzA (fun x v r => RV_frz H hpb' x v r) _ _ e6⟩
    | map ks vs =>
     obtain ⟨b, K, s, es, clock, e1, e2, e0, e3, e4, e5⟩ := hro
     exact ⟨b, K, s, es, clock, e1, e2, e0, e3, RDcs_mono (fun b hb => ⟨okB_only hb, rfl⟩) _ _ _ e4, RVl_frz H hpb' _ _ e5⟩
    | miter x m cur left =>
     obtain ⟨b, K, s, mb, seen, e1, e2, e3, e4⟩ := hro
     exact ⟨b, K, s, mb, seen, e1, e2, RV_frz H hpb' _ _ e3, e4⟩
    | dead => exact hro.elim
   rw [h5] at hro2
   exact RO_mono (fun b hb => ⟨okc b hb, rfl⟩) (fun _ _ h => h) (fun _ _ _ _ => rfl) (RO_back back h1 h2 hro2)
  ·intro i o b K s ho hs
   obtain ⟨h1, _, _, o', h4, _⟩ := own' i o ho
   rw [s2 i h1] at hs
   exact H.new _ _ b K s h4 hs
  ·intro i j o1 o2 b K s K' s' e1 e2 e3 e4
   obtain ⟨h1, _, _, o1', h4, _⟩ := own' i _ e1
   obtain ⟨j1, _, _, o2', j4, _⟩ := own' j _ e2
   rw [s2 i h1] at e3
   rw [s2 j j1] at e4
   obtain ⟨q1, m1⟩ := mem' i _ e1
   obtain ⟨q2, m2⟩ := mem' j _ e2
   exact hinj _ m1 _ m2 (H.inj _ _ _ _ b K s K' s' h4 j4 e3 e4)
 ·intro id hid
  simp only [σ2]
  rw [if_neg (by omega)]
 ·intro i l hl
  have hi := hk i l hl
  rw [s2 i (by omega), hg i hi]
  exact h.par i l hl
 ·rw [hn]; exact h.tmps
 ·exact h.defers
 ·intro t v hv
  obtain ⟨u, e1, e2, e3⟩ := he (t, v) (mem_lk _ _ _ hv)
  simp only at e1 e2 e3
  have := RV_frz H hpb' _ _ (h.env t u e1)
  rw [e2] at this
  exact RV_mono (fun b hb => ⟨okc b hb, rfl⟩) (fun _ _ h => h) _ _ (RV_back back v _ e3 this)
end

/-- The top: a function that is handed data alone, as a statement on calls in whatever world. -/
theorem Does.calls {P : Program} {f : FuncId} {as : List V} {x : V} {os' : List O} (hd : Does P f as [] x os') (w : World) (vs : Array Value) (ok : Nat → Prop) (hok : ∀ b, ok b → b < w.heap.size)
  (hargs : ∀ σ, RVl w ok σ as vs.toList) (hgl : ∀ g k, gloT P g = some k → ok g ∧ ∃ c e fr, w.heap[g]? = some (.cells c e fr) ∧ gloCells c k) : Calls P f vs w fun e w' => ∃ v, e = .returned v ∧ Go.RowKit.Below w.heap.size w w' ∧ ∃ ok' σ', RV w' ok' σ' x v := by
 let cx : Cx := ⟨w, fun _ => False, ok, fun _ => none⟩
 have hr : HR cx (fun i => ([] : List O)[i]?) (fun _ => none) w := by
  constructor
  ·rfl
  ·rfl
  ·rfl
  ·exact Nat.le_refl _
  ·intro b _ _; rfl
  ·intro i o ho; simp at ho
  ·intro i o b K s ho; simp at ho
  ·intro i j o o' b K s K' s' ho; simp at ho
 refine (hd.2 cx (fun _ => none) w vs (fun g k hg => ⟨fun h => h, hgl g k hg⟩) hr (fun _ _ => rfl) (fun _ _ h => h) (fun _ _ h => h) (fun b hb => hb.elim) ?_).mono fun e w' he => ?_
 ·refine RVl_mono (fun b hb => ⟨⟨.inl hb, hok b hb, fun i o K s ho => by simp at ho⟩, rfl⟩) (fun _ _ h => h) _ _ (hargs _)
 ·obtain ⟨v, rfl, σ', h1, _, _, h4⟩ := he
  exact ⟨v, rfl, ⟨h1.os, h1.tape, h1.output, h1.size, fun k hk => h1.frame k hk (fun h => h.elim)⟩, _, σ', h4⟩
end Go.AX
