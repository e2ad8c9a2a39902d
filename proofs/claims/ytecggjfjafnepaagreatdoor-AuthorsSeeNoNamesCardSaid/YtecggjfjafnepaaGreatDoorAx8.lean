/- AX, part 8: the operations together; regions; code; calls. -/
import Derived.Test.YtecggjfjafnepaaGreatDoorAx7h
import GoSem.PinnedTables
set_option linter.unusedSimpArgs false
set_option linter.unusedVariables false
namespace Go.AX
open Go

def aop (P : Program) (hv : Nat → Option O) (ev : Operand → V) (nid : Nat) (o : Op) : Option Res := match o with
 | .move x => some ⟨ev x, [], True⟩
 | .assign x => some ⟨ev x, [], True⟩
 | .pick c a b => aPick (ev c) (ev a) (ev b)
 | .alloc t => aAlloc P t nid
 | .box t x => aBox t (ev x) nid
 | .build t parts => aBuild P t (parts.toList.map fun (i, x) => (i, ev x))
 | .buildSlice t n parts => aBuildSlice P t n (parts.toList.map fun (i, x) => (i, ev x)) nid
 | .load t a => aLoad P hv t (ev a)
 | .store t a x => aStore P hv t (ev a) (ev x)
 | .nilCheck x => aNilCheck (ev x)
 | .binOp op t x y _ => aBin3 P op t (ev x) (ev y) (Operand.lit x || Operand.lit y)
 | .unOp op _ x => aUn op (ev x)
 | .convert s d x => aConvert3 P hv s d (ev x) nid
 | .fieldAddr t x f => aFieldAddr P t (ev x) f
 | .field t x f => aField P t (ev x) f
 | .indexAddr t x i => aIndexAddr P hv t (ev x) (ev i)
 | .index t x i => aIndex P t (ev x) (ev i)
 | .extract x i => aExtract (ev x) i
 | .call ⟨.builtin .len, ⟨[x]⟩, ⟨[t]⟩⟩ => aLen P hv t (ev x)
 | .call ⟨.builtin .max, ⟨[x, y]⟩, _⟩ => aMax (ev x) (ev y)
 | .call ⟨.builtin .min, ⟨[x, y]⟩, _⟩ => aMin (ev x) (ev y)
 | .call ⟨.builtin .max, ⟨[x, y, z]⟩, _⟩ => aMax3 (ev x) (ev y) (ev z)
 | .call ⟨.builtin .min, ⟨[x, y, z]⟩, _⟩ => aMin3 (ev x) (ev y) (ev z)
 | .call ⟨.builtin .append, ⟨[a, x]⟩, ⟨[t, xt]⟩⟩ => aAppend P hv t xt (ev a) (ev x) nid
 | .call ⟨.builtin .copy, ⟨[d, x]⟩, ⟨[t, _]⟩⟩ => aCopy P hv t (ev d) (ev x)
 | .call ⟨.builtin .unsafeSliceData, ⟨[x]⟩, ⟨[_]⟩⟩ => aSliceData (ev x)
 | .call ⟨.builtin .unsafeString, ⟨[p, n]⟩, ⟨[pt, _]⟩⟩ => aUString P hv pt (ev p) (ev n)
 | .call ⟨.builtin .cap, ⟨[x]⟩, ⟨[t]⟩⟩ => aCap2 P t (ev x)
 | .slice t x lo hi mx => aSlice P hv t (ev x) (lo.map ev) (hi.map ev) (mx.map ev) nid
 | .makeSlice t l c => aMakeSlice P t (ev l) (ev c) nid
 | .range t x => aRange P hv t (ev x) nid
 | .makeMap _ none => aMakeMap nid
 | .lookup t x i c => aLookup P hv t (ev x) (ev i) c
 | .mapUpdate t m k x => aMapUpdate P hv t (ev m) (ev k) (ev x)
 | .makeFunc fn first caps => aMakeFunc fn (first.toList.map ev) (caps.toList.map ev)
 | .call ⟨.builtin .clear, ⟨[x]⟩, ⟨[t]⟩⟩ => aClear P hv t (ev x)
 | .mapEntry t m k => aMapEntry P hv t (ev m) (ev k)
 | .entryStore _ m s x => aEntryStore hv (ev m) (ev s) (ev x)
 | _ => none

theorem aop_sound {P : Program} {cx : Cx} {hv : Nat → Option O} {σ : Nat → Option Loc} {w : World} {nid : Nat} {ρ : Operand → Value} {ev : Operand → V}
  (h : HR cx hv σ w) (hn : σ nid = none) (hev : ∀ x, RV w (okB cx w hv σ) σ (ev x) (ρ x)) {o : Oper} {r : Res} (hr : aop P hv ev nid o.op = some r) (hob : r.ob) : Sound P cx hv σ w nid ρ o r := by
 unfold aop at hr
 split at hr
 ·rename_i x ho; cases hr; exact sound_value h rfl (v := ρ x) (by simp only [execOp, ho, Sem.run_pure]) (hev x)
 ·rename_i x ho; cases hr; exact sound_value h rfl (v := ρ x) (by simp only [execOp, ho, Sem.run_pure]) (hev x)
 ·rename_i ho; exact aPick_sound h hev ho hr
 ·rename_i ho; exact aAlloc_sound h hn ho hr
 ·rename_i ho; exact aBox_sound h hn hev ho hr
 ·rename_i ho; exact aBuild_sound h hev ho hr
 ·rename_i ho; exact aBuildSlice_sound h hn hev ho hr
 ·rename_i ho; exact aLoad_sound h hev ho hr
 ·rename_i ho; exact aStore_sound h hev ho hr
 ·rename_i ho; exact aNilCheck_sound h hev ho hr
 ·rename_i ho; exact aBin3_sound h hev ho hr hob
 ·rename_i ho; exact aUn_sound h hev ho hr hob
 ·rename_i ho; exact aConvert3_sound h hn hev ho hr hob
 ·rename_i ho; exact aFieldAddr_sound h hev ho hr
 ·rename_i ho; exact aField_sound h hev ho hr
 ·rename_i ho; exact aIndexAddr_sound h hev ho hr hob
 ·rename_i ho; exact aIndex_sound h hev ho hr hob
 ·rename_i ho; exact aExtract_sound h hev ho hr
 ·rename_i ho; exact aLen_sound h hev ho hr
 ·rename_i ho; exact aMax_sound h hev ho hr
 ·rename_i ho; exact aMin_sound h hev ho hr
 ·rename_i ho; exact aMax3_sound h hev ho hr
 ·rename_i ho; exact aMin3_sound h hev ho hr
 ·rename_i ho; exact aAppend_sound h hn hev ho hr hob
 ·rename_i ho; exact aCopy_sound h hev ho hr hob
 ·rename_i ho; exact aSliceData_sound h hev ho hr
 ·rename_i ho; exact aUString_sound h hev ho hr hob
 ·rename_i ho; exact aCap2_sound h hev ho hr
 ·rename_i ho; exact aSlice_sound h hn hev ho hr hob
 ·rename_i ho; exact aMakeSlice_sound h hn hev ho hr hob
 ·rename_i ho; exact aRange_sound h hn hev ho hr
 ·rename_i ho; exact aMakeMap_sound h hn ho hr
 ·rename_i ho; exact aLookup_sound h hev ho hr
 ·rename_i ho; exact aMapUpdate_sound h hev ho hr
 ·rename_i ho; exact aMakeFunc_sound h hev ho hr
 ·rename_i ho; exact aClear_sound h hev ho hr hob
 ·rename_i ho; exact aMapEntry_sound h hev ho hr
 ·rename_i ho; exact aEntryStore_sound h hev ho hr hob
 ·cases hr

/-- The function has a body of its own. -/
def Enters (P : Program) (f : FuncId) : Prop := ∃ fn, P.funcs[f]? = some fn ∧ fn.body.isNone = false ∧ (fn.name == "runtime.NumGoroutine") = false
theorem Enters.run {P : Program} {f : FuncId} (h : Enters P f) (vs : Array Value) (w : World) : (callFunc f vs).run P w = .ok (.enter f vs) w := by
 obtain ⟨fn, h1, h2, h3⟩ := h
 simp only [callFunc, Sem.run_bind, run_program, Result.andThen_ok, h1, h2, h3, Bool.false_eq_true, if_false, Sem.run_pure]
/-- The call is entered and ends so; or the model stands in for it. -/
def Met (P : Program) (f : FuncId) (vs : Array Value) (w : World) (R : Value → World → Prop) : Prop :=
 (Enters P f ∧ Calls P f vs w fun e w' => ∃ v, e = .returned v ∧ R v w') ∨ ∃ v w', (callFunc f vs).run P w = .ok (.value v) w' ∧ R v w'

/-- What is known of variables of the library: of one nothing but that it is an integer; of the others the cells. -/
def gloTab : List (String × Option (List (IntKind × Int))) :=
  [("internal/bytealg.MaxLen", none),
   ("unicode/utf8.first", some (Go.Pinned.utf8FirstZ.map fun n => (.u8, Int.ofNat n))),
   ("unicode/utf8.acceptRanges", some ([128, 191, 160, 191, 128, 159, 144, 191, 128, 143, 0, 0, 0, 0, 0, 0, 0, 0, 0, 0, 0, 0, 0, 0, 0, 0, 0, 0, 0, 0, 0, 0].map fun n => (.u8, Int.ofNat n))),
   ("internal/strconv.uint64pow10", some ([1, 10, 100, 1000, 10000, 100000, 1000000, 10000000, 100000000, 1000000000, 10000000000, 100000000000, 1000000000000, 10000000000000, 100000000000000, 1000000000000000, 10000000000000000, 100000000000000000, 1000000000000000000, 10000000000000000000].map fun n => (.u64, Int.ofNat n)))]
def gloT (P : Program) (g : Nat) : Option (Option (List (IntKind × Int))) := match P.globals[g]? with
 | some v => (gloTab.find? fun p => p.1 == v.name).map (·.2)
 | none => none
def gloCells (c : Array Value) : Option (List (IntKind × Int)) → Prop
 | none => ∃ m, c[0]? = some (.int .i64 m)
 | some l => (∀ (i : Nat) (q : IntKind × Int), l[i]? = some q → c[i]? = some (Value.int q.1 q.2)) ∧ (l.length = 20 → c.size = 20)
def Gl (P : Program) (cx : Cx) : Prop := ∀ g k, gloT P g = some k → ¬ cx.pb g ∧ cx.okA g ∧ ∃ c e fr, cx.w0.heap[g]? = some (.cells c e fr) ∧ gloCells c k
theorem Gl.inner {P : Program} {cx : Cx} (h : Gl P cx) {hv : Nat → Option O} {σ : Nat → Option Loc} {w : World} (hr : HR cx hv σ w) {g : Nat} {k : Option (List (IntKind × Int))} (hg : gloT P g = some k) :
  okB cx w hv σ g ∧ ∃ c e fr, w.heap[g]? = some (.cells c e fr) ∧ gloCells c k := by
 obtain ⟨h1, h0, c, e, fr, h2, h3⟩ := h g k hg
 have hlt : g < cx.w0.heap.size := by
  rcases Nat.lt_or_ge g cx.w0.heap.size with h' | h'
  ·exact h'
  ·simp [Array.getElem?_eq_none h'] at h2
 refine ⟨⟨.inl h0, Nat.lt_of_lt_of_le hlt hr.size, fun id o K s ho hs => ?_⟩, c, e, fr, by rw [← h2]; exact hr.frame g hlt h1, h3⟩
 rcases (hr.new id o g K s ho hs).1 with h' | h'
 ·omega
 ·exact h1 h'
/-- A call of function f that is met by a contract. -/
def CallStep (P : Program) (hv : Nat → Option O) (nid : Nat) (f : FuncId) (as : List V) (x : V) (u : List (Nat × Option O)) : Prop :=
 ∀ (cx : Cx) (σ : Nat → Option Loc) (w : World) (vs : Array Value), Gl P cx → HR cx hv σ w → (∀ id, id / 64 = nid → σ id = none) → RVl w (okB cx w hv σ) σ as vs.toList →
  Met P f vs w fun v w' => ∃ σ', GoodN cx hv σ w nid x u v w' σ'

/-- A call that is met by a contract of which only this is known: for some i of which p holds, it hands back x i and makes the updates u i. -/
def CallStepI (P : Program) (hv : Nat → Option O) (nid : Nat) (f : FuncId) (as : List V) {ι : Type} (p : ι → Prop) (x : ι → V) (u : ι → List (Nat × Option O)) : Prop :=
 ∀ (cx : Cx) (σ : Nat → Option Loc) (w : World) (vs : Array Value), Gl P cx → HR cx hv σ w → (∀ id, id / 64 = nid → σ id = none) → RVl w (okB cx w hv σ) σ as vs.toList →
  Met P f vs w fun v w' => ∃ i, p i ∧ ∃ σ', GoodN cx hv σ w nid (x i) (u i) v w' σ'
theorem Met.mono {P : Program} {f : FuncId} {vs : Array Value} {w : World} {R R' : Value → World → Prop} (h : Met P f vs w R) (hr : ∀ v w', R v w' → R' v w') : Met P f vs w R' := by
 rcases h with ⟨h1, h2⟩ | ⟨v, w', h1, h2⟩
 ·exact .inl ⟨h1, h2.mono fun e w' ⟨v, he, hv⟩ => ⟨v, he, hr _ _ hv⟩⟩
 ·exact .inr ⟨v, w', h1, hr _ _ h2⟩
theorem CallStep.toI {P : Program} {hv : Nat → Option O} {nid : Nat} {f : FuncId} {as : List V} {x : V} {u : List (Nat × Option O)} (h : CallStep P hv nid f as x u) : CallStepI P hv nid f as (fun _ : Unit => True) (fun _ => x) (fun _ => u) :=
 fun cx σ w vs hg hr hn ha => (h cx σ w vs hg hr hn ha).mono fun _ _ h => ⟨(), trivial, h⟩
theorem CallStepI.toU {P : Program} {hv : Nat → Option O} {nid : Nat} {f : FuncId} {as : List V} {x : V} {u : List (Nat × Option O)} (h : CallStepI P hv nid f as (fun _ : Unit => True) (fun _ => x) (fun _ => u)) : CallStep P hv nid f as x u :=
 fun cx σ w vs hg hr hn ha => (h cx σ w vs hg hr hn ha).mono fun _ _ ⟨_, _, h⟩ => h

def St.ev (st : St) : Operand → V
 | .tmp t => (lk st.env t).getD .top
 | .const v => constV v
 | .global _ => .top
 | .func f => .fn f []

def St.put (st : St) (dst : Option Nat) (x : V) (u : List (Nat × Option O)) : St :=
 { st with env := match dst with | some d => (d, x) :: st.env | none => st.env, H := u ++ st.H }

theorem lk_append {α : Type} (a b : List (Nat × α)) (i : Nat) : lk (a ++ b) i = (lk a i).or (lk b i) := by
 induction a with
 | nil => simp [lk]
 | cons p a ih =>
  obtain ⟨k, x⟩ := p
  simp only [List.cons_append, lk]
  split
  ·simp
  ·exact ih
theorem hv_put (st : St) (dst : Option Nat) (x : V) (u : List (Nat × Option O)) : (st.put dst x u).hv = app st.hv u := by
 funext id
 simp only [St.hv, St.put, app, lk_append]
 cases lk u id <;> simp

section
variable {P : Program} {cx : Cx} {st : St} {F : Nat → Prop} {σ : Nat → Option Loc} {a : Act} {w : World}

theorem Rel.ev (h : Rel cx st F σ a w) (x : Operand) : RV w (okB cx w st.hv σ) σ (st.ev x) (a.eval x) := by
 cases x with
 | tmp t =>
  simp only [St.ev, Act.eval]
  cases hl : lk st.env t with
  | none => simp only [Option.getD_none, RV]
  | some v => exact h.env t v hl
 | const v => exact RV_constV v
 | global g => simp only [St.ev, RV]
 | func f => simp only [St.ev, Act.eval, RV]; exact ⟨#[], rfl, by simp only [RVl]⟩

theorem Rel.put (h : Rel cx st F σ a w) {nid : Nat} {x : V} {u : List (Nat × Option O)} {v : Value} {w' : World} {σ' : Nat → Option Loc} (g : GoodN cx st.hv σ w nid x u v w' σ') (dst : Option Nat) (hd : ∀ d, dst = some d → d < st.n) :
  Rel cx (st.put dst x u) (fun id => F id ∧ id / 64 ≠ nid) σ' (a.put dst v) w' := by
 constructor
 ·rw [hv_put]; exact g.hr
 ·intro id ⟨h1, h2⟩; rw [g.only id h2]; exact h.fresh id h1
 ·intro id l hl; exact g.ext id l (h.par id l hl)
 ·cases dst with
  | none => exact h.tmps
  | some d => simpa [Act.put, St.put] using h.tmps
 ·cases dst with
  | none => exact h.defers
  | some d => exact h.defers
 ·rw [hv_put]
  intro t y hy
  have old : ∀ y, lk st.env t = some y → RV w' (okB cx w' (app st.hv u) σ') σ' y (a.tmps.getD t undef) := fun y hy => RV_mono g.ok g.ext y _ (h.env t y hy)
  cases dst with
  | none => exact old y hy
  | some d =>
   simp only [St.put, lk] at hy
   split at hy
   ·rename_i e
    cases hy
    subst e
    have hlt : d < a.tmps.size := by rw [h.tmps]; exact hd d rfl
    have e2 : (a.put (some d) v).tmps.getD d undef = v := by
     simp [Act.put, hlt]
    rw [e2]
    exact g.val
   ·rename_i e
    have e2 : (a.put (some d) v).tmps.getD t undef = a.tmps.getD t undef := by
     simp [Act.put, Array.getElem?_setIfInBounds_ne e]
    rw [e2]
    exact old y hy

/-- The slot is forgotten. -/
def St.skip (st : St) (dst : Option Nat) : St := { st with env := match dst with | some d => (d, .tup []) :: st.env | none => st.env }
theorem Rel.skip (h : Rel cx st F σ a w) (dst : Option Nat) : Rel cx (st.skip dst) F σ (a.put dst undef) w := by
 constructor
 ·exact h.hr
 ·exact h.fresh
 ·exact h.par
 ·cases dst with
  | none => exact h.tmps
  | some d => simpa [Act.put, St.skip] using h.tmps
 ·cases dst with
  | none => exact h.defers
  | some d => exact h.defers
 ·intro t y hy
  cases dst with
  | none => exact h.env t y hy
  | some d =>
   simp only [St.skip, lk] at hy
   split at hy
   ·rename_i e
    cases hy
    subst e
    have e2 : (a.put (some d) undef).tmps.getD d undef = undef := by
     simp only [Act.put]
     rcases Nat.lt_or_ge d a.tmps.size with h' | h'
     ·simp [h']
     ·simp [h']
    rw [e2]
    simp only [RV]
    exact ⟨#[], rfl, by simp only [RVl]⟩
   ·rename_i e
    have e2 : (a.put (some d) undef).tmps.getD t undef = a.tmps.getD t undef := by
     simp [Act.put, Array.getElem?_setIfInBounds_ne e]
    rw [e2]
    exact h.env t y hy
end

/-- Is the operation carried out? -/
def St.want (st : St) (ops : Array Oper) (o : Oper) : Option Bool := match o.guard with
 | none => some true
 | some (j, b) => match (ops[j]?).bind (·.dst) with
  | some t => match lk st.env t with
   | some (.d (.bool c)) => some (c == b)
   | some (.tup []) => some false
   | _ => none
  | none => none
theorem Rel.want {cx : Cx} {st : St} {F : Nat → Prop} {σ : Nat → Option Loc} {a : Act} {w : World} (h : Rel cx st F σ a w) {ops : Array Oper} {o : Oper} {b : Bool} (hw : st.want ops o = some b) : Region.wanted o (yielded ops a.tmps) = b := by
 unfold St.want at hw
 unfold Region.wanted
 split at hw
 ·rename_i hg; rw [hg]; cases hw; rfl
 ·rename_i j c hg
  rw [hg]
  simp only
  split at hw
  ·rename_i t ht
   split at hw
   ·rename_i c' hl
    cases hw
    have := h.env t _ hl
    simp only [RV, RD] at this
    unfold yielded
    rw [ht]
    simp only [Option.bind_some]
    have hlt : t < a.tmps.size := by
     rcases Nat.lt_or_ge t a.tmps.size with h' | h'
     ·exact h'
     ·simp [h', undef] at this
    rw [Array.getElem?_eq_getElem hlt]
    have e : a.tmps[t] = .bool c' := by simpa [hlt] using this
    rw [e]
    simp
   ·rename_i hl
    cases hw
    have := h.env t _ hl
    simp only [RV] at this
    obtain ⟨c', hc', _⟩ := this
    unfold yielded
    rw [ht]
    simp only [Option.bind_some]
    rcases Nat.lt_or_ge t a.tmps.size with h' | h'
    ·rw [Array.getElem?_eq_getElem h']
     have e : a.tmps[t] = .tuple c' := by simpa [h'] using hc'
     rw [e]
     rfl
    ·rw [Array.getElem?_eq_none h']
     rfl
   ·cases hw
  ·cases hw

/-- A step over a map: nothing is left, or any entry may come. -/
def aNext (st : St) (o : Oper) (it : V) (K : St → Prop) : Prop := match it with
 | .ptr id 0 => match st.hv id with
  | some (.miter m n _ left) => match mapOf st.hv m with
   | some (ks, vs) => ks.length = n ∧ vs.length = n ∧ (left.done n → K (st.put o.dst (.tup [.d (.bool false)]) [])) ∧
     (∀ (j : Nat) (k : D) (v : V), left.may j → ks[j]? = some k → vs[j]? = some v → K (st.put o.dst (.tup [.d (.bool true), .d k, v]) [(id, some (.miter m n (some j) (left.next j)))]))
   | none => False
  | _ => False
 | _ => False
/-- One operation: by its own function, or a call by a contract. -/
def aStep (P : Program) (st : St) (i : Nat) (o : Oper) (K : St → Prop) : Prop :=
 match o.op with
 | .call ⟨.value fo, args, _⟩ => match st.ev fo with
  | .fn f caps => ∃ (ι : Type) (p : ι → Prop) (x : ι → V) (u : ι → List (Nat × Option O)), CallStepI P st.hv (st.c + i) f (args.toList.map st.ev ++ caps) p x u ∧ ∀ j, p j → K (st.put o.dst (x j) (u j))
  | _ => False
 | .next it false => aNext st o (st.ev it) K
 | .entry it => match aEntry st.hv (st.ev it) with
  | some r => K (st.put o.dst r.v r.upd)
  | none => False
 | op => match aop P st.hv st.ev (64 * (st.c + i)) op with
  | some r => r.ob ∧ K (st.put o.dst r.v r.upd)
  | none => False

def aRun (P : Program) (ops : Array Oper) : List Nat → St → (St → Prop) → Prop
 | [], st, K => K st
 | i :: rest, st, K => match ops[i]? with
  | none => aRun P ops rest st K
  | some o => match st.want ops o with
   | some true => (∀ d, o.dst = some d → d < st.n) ∧ aStep P st i o (fun st' => aRun P ops rest st' K)
   | some false => aRun P ops rest (st.skip o.dst) K
   | none => False

section
variable {P : Program} {cx : Cx}

/-- What holds of the concrete state. -/
def Hat (cx : Cx) (Q : Exit → St → Prop) (e : Exit) (a : Act) (w : World) : Prop := ∃ st σ, Q e st ∧ Rel cx st (fun id => st.c ≤ id / 64) σ a w

theorem aStep_sound (hgl : Gl P cx) {st : St} {F : Nat → Prop} {σ : Nat → Option Loc} {a : Act} {w : World} (h : Rel cx st F σ a w) {i : Nat} (hF : ∀ id, id / 64 = st.c + i → F id) {o : Oper} (hd : ∀ d, o.dst = some d → d < st.n)
  {K : St → Prop} (hs : aStep P st i o K) {K' : Act → World → Prop} {Q : Exit → Act → World → Prop}
  (hK : ∀ st' σ' a' w', st'.c = st.c → K st' → Rel cx st' (fun id => F id ∧ id / 64 ≠ st.c + i) σ' a' w' → K' a' w') (hns : ∀ v u, (st.put o.dst v u).c = st.c) : o.wp P a w K' Q := by
 unfold aStep at hs
 split at hs
 ·rename_i fo args ats ho
  split at hs
  ·rename_i f caps hfo
   obtain ⟨ι, p, x, u, hc, hk⟩ := hs
   have hfv := h.ev fo
   rw [hfo] at hfv
   simp only [RV] at hfv
   obtain ⟨cv, hcv, hcl⟩ := hfv
   have hargs : RVl w (okB cx w st.hv σ) σ (args.toList.map st.ev ++ caps) (args.map a.eval ++ cv).toList := by
    rw [Array.toList_append, Array.toList_map]
    refine RVl_append ?_ hcl
    refine RVl_of (by simp) fun j y v hy hv' => ?_
    rw [List.getElem?_map] at hy hv'
    cases hx : args.toList[j]? with
    | none => rw [hx] at hy; cases hy
    | some z =>
     rw [hx] at hy hv'
     simp at hy hv'
     subst hy
     subst hv'
     exact h.ev z
   have hcall := hc cx σ w (args.map a.eval ++ cv) hgl h.hr (fun id hid => h.fresh _ (hF id hid)) hargs
   unfold Oper.wp
   have hinv : (execOp a.eval o).run P w = (callFunc f (args.map a.eval ++ cv)).run P w := by
    simp only [execOp, ho, resolve, hcv, Deferred.ofValue, invoke, Sem.run_bind, Sem.run_pure, Result.andThen_ok, Array.empty_append]
   rw [hinv]
   rcases hcall with ⟨hen, hcall⟩ | ⟨v, w', hrun, j, hp, σ', g⟩
   ·rw [hen.run]
    show Calls P f _ w _
    refine hcall.mono fun e w' he => ?_
    obtain ⟨v, rfl, j, hp, σ', g⟩ := he
    exact hK _ σ' _ _ (hns _ _) (hk j hp) (h.put g o.dst hd)
   ·rw [hrun]
    exact hK _ σ' _ _ (hns _ _) (hk j hp) (h.put g o.dst hd)
  ·cases hs
 ·rename_i it ho
  unfold aNext at hs
  split at hs
  case h_2 => cases hs
  rename_i id hit
  split at hs
  case h_2 => cases hs
  rename_i m n cur left hid
  split at hs
  case h_2 => cases hs
  rename_i ks vs hm
  obtain ⟨hkn, hvn, hk0, hk1⟩ := hs
  have hxv := h.ev it
  rw [hit] at hxv
  have go : ∀ r : Res, Sound P cx st.hv σ w (64 * (st.c + i)) a.eval o r → K (st.put o.dst r.v r.upd) → o.wp P a w K' Q := by
   rintro r ⟨v, w', σ', hy, g⟩ hk
   unfold Oper.wp
   rcases hy with hy | ⟨hy, rfl⟩
   ·rw [hy]; exact hK _ σ' _ _ (hns _ _) hk (h.put g.toN o.dst hd)
   ·rw [hy]; exact hK _ σ' _ _ (hns _ _) hk (h.put g.toN o.dst hd)
  rcases next_sound (P := P) (nid := 64 * (st.c + i)) h.hr ho hxv hid hm hkn hvn with ⟨h0, hs⟩ | ⟨j, k, v, h0, h1, h2, hs⟩
  ·exact go _ hs (hk0 h0)
  ·exact go _ hs (hk1 j k v h0 h1 h2)
 ·rename_i it ho
  split at hs
  ·rename_i r hr
   obtain ⟨v, w', σ', hy, g⟩ := aEntry_sound (P := P) (nid := 64 * (st.c + i)) h.hr (fun x => h.ev x) ho hr
   unfold Oper.wp
   rcases hy with hy | ⟨hy, rfl⟩
   ·rw [hy]; exact hK _ σ' _ _ (hns _ _) hs (h.put g.toN o.dst hd)
   ·rw [hy]; exact hK _ σ' _ _ (hns _ _) hs (h.put g.toN o.dst hd)
  ·cases hs
 ·rename_i op hno hno2 hno3
  split at hs
  ·rename_i r hr
   obtain ⟨hob, hk⟩ := hs
   obtain ⟨v, w', σ', hy, g⟩ := aop_sound h.hr (h.fresh _ (hF _ (by omega))) (fun x => h.ev x) hr hob
   unfold Oper.wp
   rcases hy with hy | ⟨hy, rfl⟩
   ·rw [hy]; exact hK _ σ' _ _ (hns _ _) hk (h.put g.toN o.dst hd)
   ·rw [hy]; exact hK _ σ' _ _ (hns _ _) hk (h.put g.toN o.dst hd)
  ·cases hs

/-- A run of operations in the order of a list without repeats. -/
theorem aRun_sound (hgl : Gl P cx) {ops : Array Oper} {Q : Exit → Act → World → Prop} {K : St → Prop} {c : Nat} : ∀ (l : List Nat) {st : St} {F : Nat → Prop} {σ : Nat → Option Loc} {a : Act} {w : World},
  l.Nodup → st.c = c → (∀ i ∈ l, ∀ id, id / 64 = c + i → F id) → Rel cx st F σ a w → aRun P ops l st K →
  (∀ st' σ' a' w', st'.c = c → K st' → Rel cx st' (fun id => F id ∧ ∀ i ∈ l, id / 64 ≠ c + i) σ' a' w' → Q .normal a' w') → wpOps P ops Q l a w
 | [], st, F, σ, a, w, _, hc, _, h, hr, hK => by
  simp only [aRun] at hr
  simp only [wpOps]
  refine hK st σ a w hc hr ?_
  exact ⟨h.hr, fun id hid => h.fresh id hid.1, h.par, h.tmps, h.defers, h.env⟩
 | i :: rest, st, F, σ, a, w, hnd, hc, hF, h, hr, hK => by
  simp only [aRun] at hr
  simp only [wpOps]
  have hnd' := List.nodup_cons.1 hnd
  split at hr
  ·rename_i ho
   rw [ho]
   refine aRun_sound hgl rest hnd'.2 hc (fun j hj => hF j (by simp [hj])) h hr fun st' σ' a' w' h1 h2 h3 => hK st' σ' a' w' h1 h2 ?_
   exact ⟨h3.hr, fun id hid => h3.fresh id ⟨hid.1, fun j hj => hid.2 j (by simp [hj])⟩, h3.par, h3.tmps, h3.defers, h3.env⟩
  ·rename_i o ho
   rw [ho]
   simp only
   split at hr
   ·rename_i hw
    rw [h.want hw]
    simp only [if_true]
    obtain ⟨hd, hstep⟩ := hr
    refine .inl (aStep_sound hgl h (by rw [hc]; exact hF i (by simp)) hd hstep (fun st' σ' a' w' h1 h2 h3 => ?_) (fun v u => rfl))
    refine aRun_sound hgl rest hnd'.2 (h1.trans hc) (fun j hj id hid => ⟨hF j (by simp [hj]) id hid, ?_⟩) h3 h2 fun st2 σ2 a2 w2 g1 g2 g3 => hK st2 σ2 a2 w2 g1 g2 ?_
    ·refine ⟨g3.hr, fun id hid => g3.fresh id ⟨⟨hid.1, ?_⟩, fun j hj => hid.2 j (by simp [hj])⟩, g3.par, g3.tmps, g3.defers, g3.env⟩
     rw [hc]
     exact hid.2 i (by simp)
    ·rw [hc]
     intro e
     have : j = i := by omega
     subst this
     exact hnd'.1 hj
   ·rename_i hw
    rw [h.want hw]
    simp only [Bool.false_eq_true, if_false]
    refine aRun_sound hgl (st := st.skip o.dst) rest hnd'.2 hc (fun j hj => hF j (by simp [hj])) (h.skip o.dst) hr fun st' σ' a' w' h1 h2 h3 => hK st' σ' a' w' h1 h2 ?_
    exact ⟨h3.hr, fun id hid => h3.fresh id ⟨hid.1, fun j hj => hid.2 j (by simp [hj])⟩, h3.par, h3.tmps, h3.defers, h3.env⟩
   ·cases hr

/-- The judgement on code. -/
def AW (P : Program) (cx : Cx) (c : Code) (Q : Exit → St → Prop) (st : St) : Prop :=
 Gl P cx → ∀ σ a w, Rel cx st (fun id => st.c ≤ id / 64) σ a w → c.wp P (Hat cx Q) a w

/-- Ids move on behind a region. -/
def St.bump (st : St) (n : Nat) : St := { st with c := st.c + n }

theorem AW.region {id : Nat} {ops : Array Oper} {Q : Exit → St → Prop} {st : St} (h : aRun P ops (List.range ops.size) st fun st' => Q .normal (st'.bump ops.size)) : AW P cx (.region id ops false) Q st := by
 intro hgl σ a w hr
 refine wp_region (aRun_sound hgl (c := st.c) _ List.nodup_range rfl (fun i _ id hid => by omega) hr h fun st' σ' a' w' h1 h2 h3 => ?_)
 refine ⟨_, σ', h2, ?_⟩
 refine ⟨h3.hr, fun id hid => h3.fresh id ?_, h3.par, h3.tmps, h3.defers, h3.env⟩
 simp only [St.bump] at hid
 refine ⟨by omega, fun i hi => ?_⟩
 have := List.mem_range.1 hi
 omega

def Then (next : St → Prop) (Q : Exit → St → Prop) : Exit → St → Prop
 | .normal, st => next st
 | e, st => Q e st
theorem AW.seq {x y : Code} {Q : Exit → St → Prop} {st : St} (h : AW P cx x (Then (AW P cx y Q) Q) st) : AW P cx (.seq x y) Q st := by
 intro hgl σ a w hr
 refine wp_seq (wp_mono (h hgl σ a w hr) fun e a' w' he => ?_)
 obtain ⟨st', σ', hq, hr'⟩ := he
 cases e with
 | normal => exact hq hgl σ' a' w' hr'
 | _ => exact ⟨st', σ', hq, hr'⟩
theorem AW.skip {Q : Exit → St → Prop} {st : St} (h : Q .normal st) : AW P cx .skip Q st := fun _ σ _ _ hr => wp_skip ⟨st, σ, h, hr⟩
theorem AW.label {l : Nat} {Q : Exit → St → Prop} {st : St} (h : Q .normal st) : AW P cx (.label l) Q st := fun _ σ _ _ hr => wp_label ⟨st, σ, h, hr⟩
theorem AW.exit {id : Nat} {Q : Exit → St → Prop} {st : St} (h : Q (.exit id) st) : AW P cx (.exit id) Q st := fun _ σ _ _ hr => wp_exit ⟨st, σ, h, hr⟩
theorem AW.ret {Q : Exit → St → Prop} {st : St} (h : Q .ret st) : AW P cx .ret Q st := fun _ σ _ _ hr => wp_ret ⟨st, σ, h, hr⟩
theorem AW.cond {c : Operand} {x y : Code} {Q : Exit → St → Prop} {st : St} {b : Bool} (hc : st.ev c = .d (.bool b)) (h1 : b = true → AW P cx x Q st) (h2 : b = false → AW P cx y Q st) : AW P cx (.cond c x y) Q st := by
 intro hgl σ a w hr
 have := hr.ev c
 rw [hc] at this
 simp only [RV, RD] at this
 refine wp_cond_split this (fun hb => h1 hb hgl σ a w hr) (fun hb => h2 hb hgl σ a w hr)
def InBlock (id : Nat) (Q : Exit → St → Prop) : Exit → St → Prop
 | .exit id', st => if id' = id then Q .normal st else Q (.exit id') st
 | e, st => Q e st
theorem AW.block {id : Nat} {c : Code} {Q : Exit → St → Prop} {st : St} (h : AW P cx c (InBlock id Q) st) : AW P cx (.block id c) Q st := by
 intro hgl σ a w hr
 refine wp_block (wp_mono (h hgl σ a w hr) fun e a' w' he => ?_)
 obtain ⟨st', σ', hq, hr'⟩ := he
 cases e with
 | exit id' =>
  simp only [InBlock] at hq
  simp only [Exit.inBlock]
  split
  ·rename_i e; rw [if_pos e] at hq; exact ⟨st', σ', hq, hr'⟩
  ·rename_i e; rw [if_neg e] at hq; exact ⟨st', σ', hq, hr'⟩
 | _ => exact ⟨st', σ', hq, hr'⟩
theorem AW.mono {c : Code} {Q Q' : Exit → St → Prop} {st : St} (h : AW P cx c Q st) (hq : ∀ e st, Q e st → Q' e st) : AW P cx c Q' st :=
 fun hgl σ a w hr => wp_mono (h hgl σ a w hr) fun e _ _ ⟨st', σ', hq', hr'⟩ => ⟨st', σ', hq e st' hq', hr'⟩

/-- A loop, by an invariant on abstract states that are numbered by a measure. -/
theorem AW.loop {c : Code} {Q : Exit → St → Prop} {st : St} (I : Nat → St → Prop) (n0 : Nat) (h0 : I n0 st)
  (round : ∀ n st, I n st → AW P cx c (Then (fun st' => ∃ m, m < n ∧ I m st') Q) st) : AW P cx (.loop c) Q st := by
 intro hgl σ a w hr
 -- the measure: the least number for which the invariant holds of some abstract state
 classical
 let J : Nat → Act → World → Prop := fun n a w => ∃ st σ, I n st ∧ Rel cx st (fun id => st.c ≤ id / 64) σ a w
 have hex : ∃ n, J n a w := ⟨n0, st, σ, h0, hr⟩
 refine wp_loop (fun a w => ∃ n, J n a w) (fun a w => if h : ∃ n, J n a w then Classical.choose (p := fun n => J n a w ∧ ∀ m, m < n → ¬ J m a w) (by
   obtain ⟨n, hn⟩ := h
   induction n using Nat.strongRecOn with
   | _ n ih =>
    by_cases hm : ∃ m, m < n ∧ J m a w
    ·obtain ⟨m, h1, h2⟩ := hm; exact ih m h1 h2
    ·exact ⟨n, hn, fun m hm' hj => hm ⟨m, hm', hj⟩⟩) else 0) hex ?_
 intro a w h
 have hsp := Classical.choose_spec (p := fun n => J n a w ∧ ∀ m, m < n → ¬ J m a w) (by
   obtain ⟨n, hn⟩ := h
   induction n using Nat.strongRecOn with
   | _ n ih =>
    by_cases hm : ∃ m, m < n ∧ J m a w
    ·obtain ⟨m, h1, h2⟩ := hm; exact ih m h1 h2
    ·exact ⟨n, hn, fun m hm' hj => hm ⟨m, hm', hj⟩⟩)
 simp only [dif_pos h]
 generalize hN : Classical.choose (p := fun n => J n a w ∧ ∀ m, m < n → ¬ J m a w) _ = N at hsp ⊢
 obtain ⟨⟨st1, σ1, hI, hrel⟩, _⟩ := hsp
 refine wp_mono (round N st1 hI hgl σ1 a w hrel) fun e a' w' he => ?_
 obtain ⟨st', σ', hq, hr'⟩ := he
 cases e with
 | normal =>
  obtain ⟨m, hm, hI'⟩ := hq
  have hj : J m a' w' := ⟨st', σ', hI', hr'⟩
  refine ⟨⟨m, hj⟩, ?_⟩
  rw [dif_pos ⟨m, hj⟩]
  generalize hM : Classical.choose (p := fun n => J n a' w' ∧ ∀ m, m < n → ¬ J m a' w') _ = M
  have hs2 := Classical.choose_spec (p := fun n => J n a' w' ∧ ∀ m, m < n → ¬ J m a' w') (by
   have h : ∃ n, J n a' w' := ⟨m, hj⟩
   obtain ⟨n, hn⟩ := h
   induction n using Nat.strongRecOn with
   | _ n ih =>
    by_cases hm : ∃ m, m < n ∧ J m a' w'
    ·obtain ⟨m, h1, h2⟩ := hm; exact ih m h1 h2
    ·exact ⟨n, hn, fun m hm' hj => hm ⟨m, hm', hj⟩⟩)
  rw [hM] at hs2
  rcases Nat.lt_or_ge m M with h' | h'
  ·exact absurd hj (hs2.2 m h')
  ·omega
 | _ => exact ⟨st', σ', hq, hr'⟩
end
end Go.AX
