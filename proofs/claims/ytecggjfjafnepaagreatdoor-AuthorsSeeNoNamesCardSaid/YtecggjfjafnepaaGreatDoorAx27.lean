/- AX, part 27: a slice that may be nil, held against nil. -/
import Derived.Test.YtecggjfjafnepaaGreatDoorAx25
set_option linter.unusedSimpArgs false
set_option linter.unusedVariables false
namespace Go.AX
open Go
def nilCmp (P : Program) (st : St) (o : Oper) (K : St → Prop) : Prop := match o.op with
 | .binOp .eql t x y _ => match tiOf P t with
  | some ⟨.slice _, _, _, _⟩ => match st.ev x, st.ev y with
   | .d (.sl xs), .nils => ∀ b : Bool, (b = true → xs = []) → K (st.put o.dst (.d (.bool b)) [])
   | .slr _ _ n, .nils => ∀ b : Bool, (b = true → n = 0) → K (st.put o.dst (.d (.bool b)) [])
   | _, _ => False
  | _ => False
 | _ => False
/-- A variable of the library. -/
def gLoad (P : Program) (st : St) (o : Oper) (K : St → Prop) : Prop := match o.op with
 | .load t (.global g) => match tiOf P t with
  | some ⟨.int .i64, _, _, _⟩ => match gloT P g with
   | some none => ∀ m : Int, K (st.put o.dst (.d (.int .i64 m)) [])
   | _ => False
  | _ => False
 | _ => False
def evG (P : Program) (st : St) (x : Operand) : V := match x with
 | .global g => match gloT P g with
  | some (some l) => .d (.ptr (l.map fun p => D.int p.1 p.2) 0)
  | _ => .top
 | x => st.ev x
def gAop (P : Program) (st : St) (i : Nat) (o : Oper) (K : St → Prop) : Prop := match aop P st.hv (evG P st) (64 * (st.c + i)) o.op with
 | some r => r.ob ∧ K (st.put o.dst r.v r.upd)
 | none => False
def aStepN (P : Program) (st : St) (i : Nat) (o : Oper) (K : St → Prop) : Prop := aStep P st i o K ∨ nilCmp P st o K ∨ gLoad P st o K ∨ gAop P st i o K
theorem RDcs_ints {w : World} {ok : Nat → Prop} : ∀ (l : List (IntKind × Int)) (p : Nat) (c : Array Value), (∀ i q, l[i]? = some q → c[p + i]? = some (.int q.1 q.2)) → RDcs w ok c p (l.map fun q => D.int q.1 q.2)
 | [], p, c, _ => by simp only [List.map_nil, RDcs]
 | q :: l, p, c, h => by
  simp only [List.map_cons, RDcs]
  refine ⟨⟨_, h 0 q rfl, by simp only [RD]⟩, RDcs_ints l (p + 1) c fun i q' hq => ?_⟩
  have := h (i + 1) q' (by simpa using hq)
  rw [← this]; congr 1; omega
def aRunN (P : Program) (ops : Array Oper) : List Nat → St → (St → Prop) → Prop
 | [], st, K => K st
 | i :: rest, st, K => match ops[i]? with
  | none => aRunN P ops rest st K
  | some o => match st.want ops o with
   | some true => (∀ d, o.dst = some d → d < st.n) ∧ aStepN P st i o (fun st' => aRunN P ops rest st' K)
   | some false => aRunN P ops rest (st.skip o.dst) K
   | none => False

section
variable {P : Program} {cx : Cx}
theorem aStepN_sound (hgl : Gl P cx) {st : St} {F : Nat → Prop} {σ : Nat → Option Loc} {a : Act} {w : World} (h : Rel cx st F σ a w) {i : Nat} (hF : ∀ id, id / 64 = st.c + i → F id) {o : Oper} (hd : ∀ d, o.dst = some d → d < st.n)
  {K : St → Prop} (hs : aStepN P st i o K) {K' : Act → World → Prop} {Q : Exit → Act → World → Prop}
  (hK : ∀ st' σ' a' w', st'.c = st.c → K st' → Rel cx st' (fun id => F id ∧ id / 64 ≠ st.c + i) σ' a' w' → K' a' w') (hns : ∀ v u, (st.put o.dst v u).c = st.c) : o.wp P a w K' Q := by
 rcases hs with hs | hs | hs | hs
 ·exact aStep_sound hgl h hF hd hs hK hns
 case inr.inr.inl =>
  unfold gLoad at hs
  split at hs
  case h_2 => cases hs
  rename_i t g ho
  split at hs
  case h_2 => cases hs
  rename_i _ _ _ hti
  split at hs
  case h_2 => cases hs
  rename_i hg
  obtain ⟨ii, d, z, h1, h2, h3, h4, h5, _⟩ := tiOf_spec hti
  obtain ⟨_, c, e, fr, hb, m, hm⟩ := hgl.inner h.hr hg
  have hlv := (run_loadVar' (P := P) (off := 0) h1 h2 hb).2 (by rw [← h4]; rfl) (.int .i64 m) hm
  have hs' : Sound P cx st.hv σ w (64 * (st.c + i)) a.eval o ⟨.d (.int .i64 m), [], True⟩ := by
   refine sound_value h.hr rfl (v := .int .i64 m) ?_ (by simp only [RV, RD])
   exact loadAt_run ho rfl hlv
  obtain ⟨v, w', σ', hy, g⟩ := hs'
  unfold Oper.wp
  rcases hy with hy | ⟨hy, rfl⟩
  ·rw [hy]; exact hK _ σ' _ _ (hns _ _) (hs m) (h.put g.toN o.dst hd)
  ·rw [hy]; exact hK _ σ' _ _ (hns _ _) (hs m) (h.put g.toN o.dst hd)
 case inr.inr.inr =>
  unfold gAop at hs
  split at hs
  ·rename_i r hr
   obtain ⟨hob, hk⟩ := hs
   have hev : ∀ x, RV w (okB cx w st.hv σ) σ (evG P st x) (a.eval x) := by
    intro x
    cases x with
    | global g =>
     simp only [evG]
     split
     ·rename_i l hg
      obtain ⟨ok, c, e, fr, hb, hc⟩ := hgl.inner h.hr hg
      simp only [RV, RD, Act.eval]
      refine ⟨g, 0, c, e, fr, rfl, ok, hb, RDcs_ints l 0 c fun i q hq => ?_⟩
      simpa using hc.1 i q hq
     ·simp only [RV]
    | tmp t => exact h.ev (.tmp t)
    | const v => exact h.ev (.const v)
    | func f => exact h.ev (.func f)
   obtain ⟨v, w', σ', hy, g⟩ := aop_sound h.hr (h.fresh _ (hF _ (by omega))) hev hr hob
   unfold Oper.wp
   rcases hy with hy | ⟨hy, rfl⟩
   ·rw [hy]; exact hK _ σ' _ _ (hns _ _) hk (h.put g.toN o.dst hd)
   ·rw [hy]; exact hK _ σ' _ _ (hns _ _) hk (h.put g.toN o.dst hd)
  ·cases hs
 unfold nilCmp at hs
 split at hs
 case h_2 => cases hs
 rename_i t x y yt ho
 split at hs
 case h_2 => cases hs
 rename_i e _ _ _ hti
 obtain ⟨ii, d, zv, h1, h2, h3, h4, _⟩ := tiOf_spec hti
 have := tuOf_slice h4
 subst this
 have go : ∀ a' n c, a.eval x = .slice a' n c → a.eval y = .slice none 0 0 → K (st.put o.dst (.d (.bool a'.isNone)) []) → o.wp P a w K' Q := by
  intro a' n c e1 e2 hk
  have e3 : (Op.equal t (.slice a' n c) (.slice none 0 0)).run P w = .ok a'.isNone w := by
   have : ∀ m, (Op.equalIn (m + 1) t (.slice a' n c) (.slice none 0 0)).run P w = .ok a'.isNone w := fun m => by
    cases a' <;> simp [Op.equalIn, run_underlying' h2]
   exact this 9999
  have hs : Sound P cx st.hv σ w (64 * (st.c + i)) a.eval o ⟨.d (.bool a'.isNone), [], True⟩ := by
   refine sound_value h.hr rfl (v := .bool a'.isNone) ?_ (by simp only [RV, RD])
   simp only [execOp, ho, e1, e2, eqGuard, Sem.run_bind, Result.andThen_ok, binOp, e3, Sem.run_pure, Bool.not_true, Bool.false_eq_true, if_false]
  obtain ⟨v, w', σ', hy, g⟩ := hs
  unfold Oper.wp
  rcases hy with hy | ⟨hy, rfl⟩
  ·rw [hy]; exact hK _ σ' _ _ (hns _ _) hk (h.put g.toN o.dst hd)
  ·rw [hy]; exact hK _ σ' _ _ (hns _ _) hk (h.put g.toN o.dst hd)
 have hx := h.ev x
 have hy := h.ev y
 split at hs
 ·rename_i xs ex ey
  rw [ex] at hx; rw [ey] at hy
  simp only [RV, RD] at hx hy
  obtain ⟨a', n, cap, hv', _, _, hz⟩ := hx
  refine go a' n cap hv' hy (hs _ fun hb => ?_)
  rcases hz with hz | ⟨b', off, c, e', fr, s, ha, _⟩
  ·exact hz
  ·subst ha; cases hb
 ·rename_i id lo n ex ey
  rw [ex] at hx; rw [ey] at hy
  simp only [RV] at hx hy
  rcases hx with ⟨_, _, h0, a', hv'⟩ | ⟨b', K, s, a', cap, _, hv', _⟩
  ·exact go _ _ _ hv' hy (hs _ fun _ => h0)
  ·exact go _ _ _ hv' hy (hs _ fun hb => by cases hb)
 ·cases hs

/-- A run of operations in the order of a list without repeats. -/
theorem aRunN_sound (hgl : Gl P cx) {ops : Array Oper} {Q : Exit → Act → World → Prop} {K : St → Prop} {c : Nat} : ∀ (l : List Nat) {st : St} {F : Nat → Prop} {σ : Nat → Option Loc} {a : Act} {w : World},
  l.Nodup → st.c = c → (∀ i ∈ l, ∀ id, id / 64 = c + i → F id) → Rel cx st F σ a w → aRunN P ops l st K →
  (∀ st' σ' a' w', st'.c = c → K st' → Rel cx st' (fun id => F id ∧ ∀ i ∈ l, id / 64 ≠ c + i) σ' a' w' → Q .normal a' w') → wpOps P ops Q l a w
 | [], st, F, σ, a, w, _, hc, _, h, hr, hK => by
  simp only [aRunN] at hr
  simp only [wpOps]
  refine hK st σ a w hc hr ?_
  exact ⟨h.hr, fun id hid => h.fresh id hid.1, h.par, h.tmps, h.defers, h.env⟩
 | i :: rest, st, F, σ, a, w, hnd, hc, hF, h, hr, hK => by
  simp only [aRunN] at hr
  simp only [wpOps]
  have hnd' := List.nodup_cons.1 hnd
  split at hr
  ·rename_i ho
   rw [ho]
   refine aRunN_sound hgl rest hnd'.2 hc (fun j hj => hF j (by simp [hj])) h hr fun st' σ' a' w' h1 h2 h3 => hK st' σ' a' w' h1 h2 ?_
   exact ⟨h3.hr, fun id hid => h3.fresh id ⟨hid.1, fun j hj => hid.2 j (by simp [hj])⟩, h3.par, h3.tmps, h3.defers, h3.env⟩
  ·rename_i o ho
   rw [ho]
   simp only
   split at hr
   ·rename_i hw
    rw [h.want hw]
    simp only [if_true]
    obtain ⟨hd, hstep⟩ := hr
    refine .inl (aStepN_sound hgl h (by rw [hc]; exact hF i (by simp)) hd hstep (fun st' σ' a' w' h1 h2 h3 => ?_) (fun v u => rfl))
    refine aRunN_sound hgl rest hnd'.2 (h1.trans hc) (fun j hj id hid => ⟨hF j (by simp [hj]) id hid, ?_⟩) h3 h2 fun st2 σ2 a2 w2 g1 g2 g3 => hK st2 σ2 a2 w2 g1 g2 ?_
    ·refine ⟨g3.hr, fun id hid => g3.fresh id ⟨⟨hid.1, ?_⟩, fun j hj => hid.2 j (by simp [hj])⟩, g3.par, g3.tmps, g3.defers, g3.env⟩
     rw [hc]
     exact hid.2 i (by simp)
    ·rw [hc]
     intro e
     have : j = i := by omega
     subst this
     exact hnd'.1 hj
   ·rename_i hw
    rw [h.want hw]
    simp only [Bool.false_eq_true, if_false]
    refine aRunN_sound hgl (st := st.skip o.dst) rest hnd'.2 hc (fun j hj => hF j (by simp [hj])) (h.skip o.dst) hr fun st' σ' a' w' h1 h2 h3 => hK st' σ' a' w' h1 h2 ?_
    exact ⟨h3.hr, fun id hid => h3.fresh id ⟨hid.1, fun j hj => hid.2 j (by simp [hj])⟩, h3.par, h3.tmps, h3.defers, h3.env⟩
   ·cases hr

theorem AW.regionN {id : Nat} {ops : Array Oper} {Q : Exit → St → Prop} {st : St} (h : aRunN P ops (List.range ops.size) st fun st' => Q .normal (st'.bump ops.size)) : AW P cx (.region id ops false) Q st := by
 intro hgl σ a w hr
 refine wp_region (aRunN_sound hgl (c := st.c) _ List.nodup_range rfl (fun i _ id hid => by omega) hr h fun st' σ' a' w' h1 h2 h3 => ?_)
 refine ⟨_, σ', h2, ?_⟩
 refine ⟨h3.hr, fun id hid => h3.fresh id ?_, h3.par, h3.tmps, h3.defers, h3.env⟩
 simp only [St.bump] at hid
 refine ⟨by omega, fun i hi => ?_⟩
 have := List.mem_range.1 hi
 omega

/-- A region of two operations: a slice is taken up and held against nil. -/
theorem AW.nilCmp {id : Nat} {o1 o2 : Oper} {Q : Exit → St → Prop} {st : St} {t s d : Nat} {ty yt e : TypeId} {n1 n2 : Nat} {z : V} {xs : List D}
  (h1 : o1.op = .move (.tmp t)) (g1 : o1.guard = none) (d1 : o1.dst = some s) (h2 : o2.op = .binOp .eql ty (.tmp s) (.const (.slice none 0 0)) yt) (g2 : o2.guard = none) (d2 : o2.dst = some d)
  (hti : tiOf P ty = some ⟨.slice e, n1, n2, z⟩) (hs : s < st.n) (hdn : d < st.n) (ht : lk st.env t = some (.d (.sl xs)))
  (hQ : ∀ b : Bool, (b = true → xs = []) → Q .normal ⟨st.n, (d, .d (.bool b)) :: (s, .d (.sl xs)) :: st.env, st.H, st.c + 2⟩) : AW P cx (.region id #[o1, o2] false) Q st := by
 refine AW.regionN ?_
 have w1 : st.want #[o1, o2] o1 = some true := by simp [St.want, g1]
 have e1 : st.ev (.tmp t) = .d (.sl xs) := by simp [St.ev, ht]
 have i0 : (#[o1, o2] : Array Oper)[0]? = some o1 := rfl
 have i1 : (#[o1, o2] : Array Oper)[1]? = some o2 := rfl
 have w2 : ∀ s' : St, s'.want #[o1, o2] o2 = some true := by intro s'; simp [St.want, g2]
 generalize hops : (#[o1, o2] : Array Oper) = ops at *
 have hr : List.range ops.size = [0, 1] := by subst hops; rfl
 have hz : ops.size = 2 := by subst hops; rfl
 rw [hr, aRunN, i0]
 simp only [w1]
 refine ⟨fun d' hd' => by rw [d1] at hd'; cases hd'; exact hs, .inl ?_⟩
 unfold aStep
 rw [h1]
 simp only [aop, e1]
 refine ⟨trivial, ?_⟩
 rw [aRunN, i1]
 simp only [w2]
 refine ⟨fun d' hd' => by rw [d2] at hd'; cases hd'; exact hdn, .inr (.inl ?_)⟩
 unfold Go.AX.nilCmp
 rw [h2]
 simp only [hti]
 have e2 : (st.put o1.dst (.d (.sl xs)) []).ev (.tmp s) = .d (.sl xs) := by simp [St.ev, St.put, d1, lk]
 have e3 : (st.put o1.dst (.d (.sl xs)) []).ev (.const (.slice none 0 0)) = .nils := rfl
 rw [e2, e3]
 intro b hb
 have := hQ b hb
 simpa [St.put, St.bump, d1, d2, aRunN, hz] using this
/-- The same of a slice of one's own. -/
theorem AW.nilCmpO {id : Nat} {o1 o2 : Oper} {Q : Exit → St → Prop} {st : St} {t s d : Nat} {ty yt e : TypeId} {n1 n2 : Nat} {z : V} {id' lo n : Nat}
  (h1 : o1.op = .move (.tmp t)) (g1 : o1.guard = none) (d1 : o1.dst = some s) (h2 : o2.op = .binOp .eql ty (.tmp s) (.const (.slice none 0 0)) yt) (g2 : o2.guard = none) (d2 : o2.dst = some d)
  (hti : tiOf P ty = some ⟨.slice e, n1, n2, z⟩) (hs : s < st.n) (hdn : d < st.n) (ht : lk st.env t = some (.slr id' lo n))
  (hQ : ∀ b : Bool, (b = true → n = 0) → Q .normal ⟨st.n, (d, .d (.bool b)) :: (s, .slr id' lo n) :: st.env, st.H, st.c + 2⟩) : AW P cx (.region id #[o1, o2] false) Q st := by
 refine AW.regionN ?_
 have w1 : st.want #[o1, o2] o1 = some true := by simp [St.want, g1]
 have e1 : st.ev (.tmp t) = .slr id' lo n := by simp [St.ev, ht]
 have i0 : (#[o1, o2] : Array Oper)[0]? = some o1 := rfl
 have i1 : (#[o1, o2] : Array Oper)[1]? = some o2 := rfl
 have w2 : ∀ s' : St, s'.want #[o1, o2] o2 = some true := by intro s'; simp [St.want, g2]
 generalize hops : (#[o1, o2] : Array Oper) = ops at *
 have hr : List.range ops.size = [0, 1] := by subst hops; rfl
 have hz : ops.size = 2 := by subst hops; rfl
 rw [hr, aRunN, i0]
 simp only [w1]
 refine ⟨fun d' hd' => by rw [d1] at hd'; cases hd'; exact hs, .inl ?_⟩
 unfold aStep
 rw [h1]
 simp only [aop, e1]
 refine ⟨trivial, ?_⟩
 rw [aRunN, i1]
 simp only [w2]
 refine ⟨fun d' hd' => by rw [d2] at hd'; cases hd'; exact hdn, .inr (.inl ?_)⟩
 unfold Go.AX.nilCmp
 rw [h2]
 simp only [hti]
 have e2 : (st.put o1.dst (.slr id' lo n) []).ev (.tmp s) = .slr id' lo n := by simp [St.ev, St.put, d1, lk]
 have e3 : (st.put o1.dst (.slr id' lo n) []).ev (.const (.slice none 0 0)) = .nils := rfl
 rw [e2, e3]
 intro b hb
 have := hQ b hb
 simpa [St.put, St.bump, d1, d2, aRunN, hz] using this
end
end Go.AX
