/- AX, part 16: the rules by which the walk is reckoned ('simp only [go_sem, ..]'). -/
import Derived.Test.YtecggjfjafnepaaGreatDoorAx15
set_option linter.unusedSimpArgs false
set_option linter.unusedVariables false
namespace Go.AX
open Go

def Op.plain : Op → Bool
 | .call ⟨.value _, _, _⟩ => false
 | .next _ _ => false
 | .entry _ => false
 | _ => true

/-- What a plain operation asks and leaves. -/
def aDo (P : Program) (ops : Array Oper) (i : Nat) (dst : Option Nat) (rest : List Oper) (st : St) (K : St → Prop) : Option Res → Prop
 | some r => r.ob ∧ aRunO P ops (i + 1) rest (st.put dst r.v r.upd) K
 | none => False
def aDoT (P : Program) (ops : Array Oper) (i : Nat) (dst : Option Nat) (rd : List Nat) (rest : List Oper) (st : St) (tr : List Tr) (K : St → List Tr → Prop) : Option Res → Prop
 | some r => r.ob ∧ aRunTO P ops (i + 1) rest (st.put dst r.v r.upd) (tr ++ [.step r.v r.upd rd]) K
 | none => False
def dstOk (dst : Option Nat) (n : Nat) : Prop := ∀ d, dst = some d → d < n
@[go_sem] theorem dstOk_none (n : Nat) : dstOk none n = True := by simp [dstOk]
@[go_sem] theorem dstOk_some (d n : Nat) : dstOk (some d) n = (d < n) := by simp [dstOk]

/-- A run that stands before a call, or before a guard that is not decided. -/
def callRun (P : Program) (ops : Array Oper) (i : Nat) (o : Oper) (rest : List Oper) (st : St) (K : St → Prop) : Prop := aRunO P ops i (o :: rest) st K
def callRunT (P : Program) (ops : Array Oper) (i : Nat) (o : Oper) (rest : List Oper) (st : St) (tr : List Tr) (K : St → List Tr → Prop) : Prop := aRunTO P ops i (o :: rest) st tr K
def stepB (P : Program) (ops : Array Oper) (i : Nat) (o : Oper) (rest : List Oper) (st : St) (K : St → Prop) : Bool → Option Bool → Prop
 | true, some true => dstOk o.dst st.n ∧ aDo P ops i o.dst rest st K (aop P st.hv st.ev (64 * (st.c + i)) o.op)
 | false, some true => callRun P ops i o rest st K
 | _, some false => aRunO P ops (i + 1) rest (st.skip o.dst) K
 | _, none => callRun P ops i o rest st K
def stepBT (P : Program) (ops : Array Oper) (i : Nat) (o : Oper) (rest : List Oper) (st : St) (tr : List Tr) (K : St → List Tr → Prop) : Bool → Option Bool → Prop
 | true, some true => dstOk o.dst st.n ∧ aDoT P ops i o.dst (opIds st.ev o.op) rest st tr K (aop P st.hv st.ev (64 * (st.c + i)) o.op)
 | false, some true => callRunT P ops i o rest st tr K
 | _, some false => aRunTO P ops (i + 1) rest (st.skip o.dst) (tr ++ [.skip]) K
 | _, none => callRunT P ops i o rest st tr K

section
variable {P : Program} {cx : Cx} {ops : Array Oper} {i : Nat} {o : Oper} {rest : List Oper} {st : St} {K : St → Prop} {tr : List Tr} {KT : St → List Tr → Prop}
@[go_sem] theorem run_nil : aRunO P ops i [] st K = K st := rfl
@[go_sem] theorem run_cons' : aRunO P ops i (o :: rest) st K = stepB P ops i o rest st K (Op.plain o.op) (st.want ops o) := by
 unfold stepB
 split
 ·rename_i hp hw
  simp only [aRunO, hw, dstOk]
  congr 1
  unfold aStep aDo
  split
  ·rename_i fo args ats ho; rw [ho] at hp; cases hp
  ·rename_i it ho; rw [ho] at hp; cases hp
  ·rename_i it ho; rw [ho] at hp; cases hp
  ·rfl
 ·rfl
 ·rename_i hw; simp only [aRunO, hw]
 ·rfl
@[go_sem] theorem stepB_do : stepB P ops i o rest st K true (some true) = (dstOk o.dst st.n ∧ aDo P ops i o.dst rest st K (aop P st.hv st.ev (64 * (st.c + i)) o.op)) := rfl
@[go_sem] theorem stepB_call : stepB P ops i o rest st K false (some true) = callRun P ops i o rest st K := rfl
@[go_sem] theorem stepB_skip (b : Bool) : stepB P ops i o rest st K b (some false) = aRunO P ops (i + 1) rest (st.skip o.dst) K := by cases b <;> rfl
@[go_sem] theorem do_some (dst : Option Nat) (r : Res) : aDo P ops i dst rest st K (some r) = (r.ob ∧ aRunO P ops (i + 1) rest (st.put dst r.v r.upd) K) := rfl
@[go_sem] theorem runT_nil : aRunTO P ops i [] st tr KT = KT st tr := rfl
@[go_sem] theorem runT_cons : aRunTO P ops i (o :: rest) st tr KT = stepBT P ops i o rest st tr KT (Op.plain o.op) (st.want ops o) := by
 unfold stepBT
 split
 ·rename_i hp hw
  simp only [aRunTO, hw, dstOk]
  congr 1
  unfold aStepT aDoT
  split
  ·rename_i fo args ats ho; rw [ho] at hp; cases hp
  ·rename_i it ho; rw [ho] at hp; cases hp
  ·rename_i it ho; rw [ho] at hp; cases hp
  ·rfl
 ·rfl
 ·rename_i hw; simp only [aRunTO, hw]
 ·rfl
@[go_sem] theorem stepBT_do : stepBT P ops i o rest st tr KT true (some true) = (dstOk o.dst st.n ∧ aDoT P ops i o.dst (opIds st.ev o.op) rest st tr KT (aop P st.hv st.ev (64 * (st.c + i)) o.op)) := rfl
@[go_sem] theorem stepBT_call : stepBT P ops i o rest st tr KT false (some true) = callRunT P ops i o rest st tr KT := rfl
@[go_sem] theorem stepBT_skip (b : Bool) : stepBT P ops i o rest st tr KT b (some false) = aRunTO P ops (i + 1) rest (st.skip o.dst) (tr ++ [.skip]) KT := by cases b <;> rfl
@[go_sem] theorem doT_some (dst : Option Nat) (rd : List Nat) (r : Res) : aDoT P ops i dst rd rest st tr KT (some r) = (r.ob ∧ aRunTO P ops (i + 1) rest (st.put dst r.v r.upd) (tr ++ [.step r.v r.upd rd]) KT) := rfl

/-- A call, met by its contract. -/
theorem run_call {dst : Option Nat} {fo : Operand} {args : Array Operand} {ats : Array TypeId} {ty : TypeId} {pos : String} {af : Array Edge} {gd : Option (Nat × Bool)} {f : FuncId} {caps : List V} {x : V} {u : List (Nat × Option O)}
  (as : List V) (nid : Nat) (hv : Nat → Option O) (hc : CallStep P hv nid f as x u)
  (hf : st.ev fo = .fn f caps) (hw : st.want ops ⟨dst, .call ⟨.value fo, args, ats⟩, ty, pos, af, gd⟩ = some true) (hd : dstOk dst st.n) (has : args.toList.map st.ev ++ caps = as) (hn : st.c + i = nid) (hh : st.hv = hv)
  (k : aRunO P ops (i + 1) rest (st.put dst x u) K) : callRun P ops i ⟨dst, .call ⟨.value fo, args, ats⟩, ty, pos, af, gd⟩ rest st K := by
 simp only [callRun, aRunO, hw, aStep, hf]
 exact ⟨hd, Unit, _, _, _, CallStep.toI (by rw [has, hn, hh]; exact hc), fun _ _ => k⟩
/-- A call, met by a contract of which only this is known. -/
theorem run_callI {dst : Option Nat} {fo : Operand} {args : Array Operand} {ats : Array TypeId} {ty : TypeId} {pos : String} {af : Array Edge} {gd : Option (Nat × Bool)} {f : FuncId} {caps : List V} {ι : Type} {p : ι → Prop} {x : ι → V} {u : ι → List (Nat × Option O)}
  (as : List V) (nid : Nat) (hv : Nat → Option O) (hc : CallStepI P hv nid f as p x u)
  (hf : st.ev fo = .fn f caps) (hw : st.want ops ⟨dst, .call ⟨.value fo, args, ats⟩, ty, pos, af, gd⟩ = some true) (hd : dstOk dst st.n) (has : args.toList.map st.ev ++ caps = as) (hn : st.c + i = nid) (hh : st.hv = hv)
  (k : ∀ j, p j → aRunO P ops (i + 1) rest (st.put dst (x j) (u j)) K) : callRun P ops i ⟨dst, .call ⟨.value fo, args, ats⟩, ty, pos, af, gd⟩ rest st K := by
 simp only [callRun, aRunO, hw, aStep, hf]
 exact ⟨hd, ι, p, x, u, by rw [has, hn, hh]; exact hc, k⟩
theorem runT_call {dst : Option Nat} {fo : Operand} {args : Array Operand} {ats : Array TypeId} {ty : TypeId} {pos : String} {af : Array Edge} {gd : Option (Nat × Bool)} {f : FuncId} {caps : List V} {x : V} {u : List (Nat × Option O)}
  (as : List V) (nid : Nat) (rd : List Nat) (hc : ∀ hv, (∀ id ∈ rd, hv id = st.hv id) → CallStep P hv nid f as x u)
  (hf : st.ev fo = .fn f caps) (hw : st.want ops ⟨dst, .call ⟨.value fo, args, ats⟩, ty, pos, af, gd⟩ = some true) (hd : dstOk dst st.n) (has : args.toList.map st.ev ++ caps = as) (hn : st.c + i = nid)
  (k : aRunTO P ops (i + 1) rest (st.put dst x u) (tr ++ [.step x u rd]) KT) : callRunT P ops i ⟨dst, .call ⟨.value fo, args, ats⟩, ty, pos, af, gd⟩ rest st tr KT := by
 simp only [callRunT, aRunTO, hw, aStepT, hf]
 exact ⟨hd, x, u, rd, by rw [has, hn]; exact hc, k⟩

/-- A call of a function that is handed data alone and hands back data. -/
theorem Does.pure {f : FuncId} {as : List V} {x : V} (hd : Does P f as [] x []) (hb : as.all (V.bel 0) = true) (hbx : x.bel 0 = true) (hv : Nat → Option O) (nid : Nat) : CallStep P hv nid f (renL (gOf [] nid) as) (x.ren (gOf [] nid)) [] := by
 have := CallStep.of_does hd (hv := hv) (nid := nid) [] rfl (by simp) (by simp) (by simp) (by simp) hb rfl hbx rfl
 simpa [updsOf] using this
/-- A call of a function that is handed one object. -/
theorem Does.one {f : FuncId} {as as' : List V} {x : V} {o o' : O} (hd : Does P f as [o] x [o']) (id : Nat) {hv : Nat → Option O} {nid : Nat} (h1 : renL (gOf [id] nid) as = as') (hid : hv id = some o)
  (h2 : x.ren (gOf [id] nid) = x) (h3 : o'.ren (gOf [id] nid) = o') (h4 : o.ren (gOf [id] nid) = o) (hb : as.all (V.bel 1) = true) (hbo : o.bel 1 = true) (hbx : x.bel 1 = true) (hbo' : o'.bel 1 = true) (hlv : o'.lv = some o') :
  CallStep P hv nid f as' x [(id, some o')] := by
 have := CallStep.of_does hd (hv := hv) (nid := nid) [id] rfl (by simp) (fun i q hq => by
  cases i with
  | zero => simp at hq; subst hq; rw [h4]; exact hid
  | succ i => simp at hq) (Nat.le_refl _) (by simp) hb (by simp [hbo]) hbx (by simp [hbo'])
 rw [h1, h2] at this
 have e : updsOf (gOf [id] nid) 0 [o'] = [(id, some o')] := by
  simp only [updsOf, h3, hlv]; rfl
 rwa [e] at this
end

@[go_sem] theorem isCut0_max (a b : Option Int) : isCut0 a b none = false := by
 unfold isCut0
 split
 ·rename_i h; cases h
 ·rfl
@[go_sem] theorem isCut0_lo (a : Int) (b c : Option Int) : isCut0 (some a) b c = false := rfl
@[go_sem] theorem isCut0_hi (c : Option Int) : isCut0 none none c = false := rfl
@[go_sem] theorem isCut0_yes : isCut0 none (some 0) (some 0) = true := rfl
theorem beqTrue (b : Bool) : (b == true) = b := by cases b <;> rfl
theorem beqFalse (b : Bool) : (b == false) = !b := by cases b <;> rfl
attribute [go_sem] Nat.reduceAdd Nat.reduceMul Int.reduceToNat Nat.reduceLT Nat.reduceLeDiff Nat.reduceEqDiff Int.reduceBEq Int.reduceBNe
attribute [go_sem] Nat.le_refl beq_self_eq_true bne_self_eq_false or_self true_or or_true Option.map_some Option.map_none Bool.true_or Bool.false_or aSlNil V.isSl aCopy aClear aBin3 V.isPtr V.isNili Operand.lit aPtrEq aNilI aConvert3 V.ownPtr aConvP aSliceData aUString aCap2 aCap strOfR Bool.or_false Bool.or_true Op.plain aop St.want St.ev St.put St.skip St.bump lk aBin2 aEq eqD eqFs aBin aInt aStr aPick aNilCheck aExtract aUn aConvert aLen aMax aMin aLoad aStore aFieldAddr aField aIndexAddr aIndex aBox aAlloc aBuild aBuildSlice elemV chunkV topL fillV places partV partD
  V.storable V.single V.cells D.cells D.single V.asD pureL mkAgg putL TU.agg constV constS entry enumL St.hv Then InBlock resL resV frz frzL O.frz V.ren renL O.ren V.bel belL O.bel updsOf O.lv hvL fits V.ids idsL opIds opIdsL
  aAppend aSlice aMakeSlice aMakeMap aLookup aMapUpdate aMakeFunc aConvert2 elemsOf elemOk elemOkD bytesD gOf V.isAgg intV sameK sameP sameL fieldsK aggK keyOk fndK plainK mapOf pairV strOf TU.isInt TU.isByte V.isStr numR IntKind.uns aShift BinOp.isSh toD toDL
attribute [go_sem] Op.operands Call.operands Bool.false_eq_true if_false
attribute [go_sem] Option.some.injEq forall_eq' true_and and_true if_true Option.getD_some Option.getD_none Option.bind_some Option.bind_none decide_true beqTrue beqFalse Bool.not_true Bool.not_false
  List.getElem?_cons_succ List.getElem?_cons_zero List.getElem?_nil List.map_nil List.map_cons List.nil_append List.cons_append List.length_cons List.length_nil List.drop_zero List.drop_succ_cons List.take_succ_cons List.take_zero List.all_cons List.all_nil Bool.and_true Bool.true_and
  List.getElem?_toArray List.toList_toArray Int.toNat_natCast List.take_nil List.drop_nil List.append_nil

theorem dstOk_of {d n : Nat} (h : Nat.blt d n = true) : dstOk (some d) n := fun d' hd => by cases hd; exact Nat.le_of_ble_eq_true h
/-- The end of a function that hands back data. -/
theorem Fin.data {P : Program} {fn : Func} {st : St} {x : V} {l : List V} (hl : resL P st.hv st.ev fn.results.toList = some l) (hx : frz st.hv (fun _ => false) (resV l) = x.ren id) (hb : x.bel 0 = true) : Fin P fn 0 x [] st :=
 ⟨id, fun _ => false, l, hl, hx, by simp [hvL], .inl (by simp), by simp, by simp, by simp, hb, rfl⟩
/-- The end of a function that hands back data and leaves one object that it was handed. -/
theorem Fin.one {P : Program} {fn : Func} {st : St} {x : V} {o : O} {l : List V} (hl : resL P st.hv st.ev fn.results.toList = some l) (hx : frz st.hv (fun i => Nat.beq i 0) (resV l) = x.ren id) (ho : ∃ o', st.hv 0 = some o' ∧ o'.frz st.hv (fun i => Nat.beq i 0) = o.ren id) (hb : x.bel 1 = true) (hbo : o.bel 1 = true) (hlv : o.lv = some o) : Fin P fn 1 x [o] st := by
 refine ⟨id, fun i => Nat.beq i 0, l, hl, hx, ?_, .inl ?_, ?_, ?_, Nat.le_refl _, hb, by simp [hbo]⟩
 ·intro i q hq
  obtain ⟨hq, _⟩ := hvL_get hq
  cases i with
  | zero => simp at hq; subst hq; exact ⟨rfl, ho⟩
  | succ i => simp at hq
 ·intro i hi
  have : i = 0 := by omega
  subst this
  exact ⟨o, hlv⟩
 ·intro i j hi hj h; simpa using h
 ·intro i _; rfl

section
variable {P : Program} {cx : Cx} {Q : Exit → St → Prop} {st : St}
theorem AW.condT {c : Operand} {x y : Code} {b : Bool} (hc : st.ev c = .d (.bool b)) (hb : b = true) (h : AW P cx x Q st) : AW P cx (.cond c x y) Q st := AW.cond hc (fun _ => h) (fun e => by rw [hb] at e; cases e)
theorem AW.condF {c : Operand} {x y : Code} {b : Bool} (hc : st.ev c = .d (.bool b)) (hb : b = false) (h : AW P cx y Q st) : AW P cx (.cond c x y) Q st := AW.cond hc (fun e => by rw [hb] at e; cases e) (fun _ => h)
/-- The same; what is known is found. -/
theorem AW.cT {c : Operand} {x y : Code} {b : Bool} (h : AW P cx x Q st) (hc : st.ev c = .d (.bool b) := by exact rfl) (hb : b = true := by first | rfl | (simp; omega) | (simp [*]; done) | fail) : AW P cx (.cond c x y) Q st := AW.condT hc hb h
theorem AW.cF {c : Operand} {x y : Code} {b : Bool} (h : AW P cx y Q st) (hc : st.ev c = .d (.bool b) := by exact rfl) (hb : b = false := by first | rfl | (simp; omega) | (simp [*]; done) | fail) : AW P cx (.cond c x y) Q st := AW.condF hc hb h
theorem andI {p q : Prop} (hq : q) (hp : p := by first | omega | assumption | (focus (decide)) | (focus (simp; done)) | (focus (simp; omega)) | (focus (constructor <;> omega)) | fail) : p ∧ q := ⟨hp, hq⟩
end

mutual
theorem bel_mono {n m : Nat} (h : n ≤ m) : ∀ (x : V), x.bel n = true → x.bel m = true
 | .top, _ => rfl
 | .k _, _ => rfl
 | .d _, _ => rfl
 | .nils, _ => rfl
 | .agg cs, b => by simp only [V.bel] at b ⊢; exact belL_mono h cs b
 | .tup cs, b => by simp only [V.bel] at b ⊢; exact belL_mono h cs b
 | .fn _ cs, b => by simp only [V.bel] at b ⊢; exact belL_mono h cs b
 | .ptr id _, b => by simp only [V.bel, decide_eq_true_eq] at b ⊢; omega
 | .pe id _ _, b => by simp only [V.bel, decide_eq_true_eq] at b ⊢; omega
 | .slr id _ _, b => by simp only [V.bel, decide_eq_true_eq] at b ⊢; omega
 | .mpr id, b => by simp only [V.bel, decide_eq_true_eq] at b ⊢; omega
theorem belL_mono {n m : Nat} (h : n ≤ m) : ∀ (xs : List V), belL n xs = true → belL m xs = true
 | [], _ => rfl
 | x :: xs, b => by
  simp only [belL, Bool.and_eq_true] at b ⊢
  exact ⟨bel_mono h x b.1, belL_mono h xs b.2⟩
end
section
variable {P : Program} {cx : Cx}
/-- A loop, by states that an index numbers. -/
theorem AW.loopS {ι : Type} {c : Code} {Q : Exit → St → Prop} {st : St} (S : ι → St) (J : ι → Prop) (μ : ι → Nat) (i0 : ι) (hJ : J i0) (h0 : Weak cx st (S i0))
  (round : ∀ i, J i → AW P cx c (Then (fun st' => ∃ j, J j ∧ μ j < μ i ∧ Weak cx st' (S j)) Q) (S i)) : AW P cx (.loop c) Q st := by
 refine AW.loop (fun n s => ∃ i, J i ∧ μ i = n ∧ Weak cx s (S i)) (μ i0) ⟨i0, hJ, rfl, h0⟩ ?_
 rintro n s ⟨i, hi, rfl, hw⟩
 refine AW.weak hw (AW.mono (round i hi) fun e s' hq => ?_)
 cases e with
 | normal =>
  obtain ⟨j, h1, h2, h3⟩ := hq
  exact ⟨μ j, h2, j, h1, rfl, h3⟩
 | _ => exact hq

/-- Weakening to a state with the objects that were handed in (numbers below k, unchanged) and, behind them, own ones. -/
theorem Weak.go {k : Nat} (hcx : CxOk cx k) {st st' : St} (g : Nat → Nat) (keep : Nat → Bool) (hn : st'.n = st.n) (hg : ∀ i, i < k → g i = i) (hkc : k ≤ st'.c)
  (he : ∀ p ∈ st'.env, ∃ v, lk st.env p.1 = some v ∧ frz st.hv keep v = p.2.ren g ∧ p.2.bel (64 * st'.c) = true)
  (hh : ∀ p ∈ st'.H, ∃ o, p.2 = some o ∧ p.1 < 64 * st'.c ∧ o.bel (64 * st'.c) = true ∧ keep (g p.1) = true ∧ ∃ o', st.hv (g p.1) = some o' ∧ o'.frz st.hv keep = o.ren g)
  (hpk : ∀ i, i < k → keep i = true ∧ ∃ o, st.hv i = some o)
  (hinj : ∀ p ∈ st'.H, ∀ q ∈ st'.H, g p.1 = g q.1 → p.1 = q.1) : Weak cx st st' := Weak.of g keep k hcx.ps hcx.pb hn hg hkc he hh hpk hinj
/-- Weakening to a state of data alone. -/
theorem Weak.data (hcx : CxOk cx 0) {st st' : St} (hn : st'.n = st.n) (hH : st'.H = []) (he : ∀ p ∈ st'.env, ∃ v, lk st.env p.1 = some v ∧ frz st.hv (fun _ => false) v = p.2.ren id ∧ p.2.bel 0 = true) : Weak cx st st' := by
 refine Weak.go hcx id (fun _ => false) hn (by simp) (Nat.zero_le _) (fun p hp => ?_) (by simp [hH]) (by simp) (by simp [hH])
 obtain ⟨v, h1, h2, h3⟩ := he p hp
 exact ⟨v, h1, h2, bel_mono (Nat.zero_le _) _ h3⟩
end
end Go.AX
