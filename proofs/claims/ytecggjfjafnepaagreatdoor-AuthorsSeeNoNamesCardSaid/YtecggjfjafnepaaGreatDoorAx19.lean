/- AX, part 19: the run of code at known data, reckoned by a function; its soundness. -/
import Derived.Test.YtecggjfjafnepaaGreatDoorAx17
set_option linter.unusedSimpArgs false
set_option linter.unusedVariables false
namespace Go.AX
open Go

/-- A call, reckoned: what it hands back, what it changes, what it reads. -/
abbrev Orc := FuncId → List V → (Nat → Option O) → Nat → Option (V × List (Nat × Option O) × List Nat)
def OrcOk (P : Program) (C : Orc) : Prop := ∀ f as hv n x u rd, C f as hv n = some (x, u, rd) → ∀ hv', (∀ id ∈ rd, hv' id = hv id) → CallStep P hv' n f as x u

def stepS (P : Program) (C : Orc) (d : Bool) (c : Nat) (ev : Operand → V) (hv : Nat → Option O) (i : Nat) (o : Oper) : Option (V × List (Nat × Option O) × List Nat) :=
 match o.op with
 | .call ⟨.value fo, args, _⟩ => match ev fo with
  | .fn f caps => C f (args.toList.map ev ++ caps) hv (c + i)
  | _ => none
 | .next _ _ => none
 | .entry it => match d with
  | true => none
  | false => match aEntry hv (ev it) with
   | some r => some (r.v, r.upd, [])
   | none => none
 | op => match aop P hv ev (64 * (c + i)) op with
  | some r => match @decide r.ob r.dec with
   | true => some (r.v, r.upd, opIds ev op)
   | false => none
  | none => none
def stepE (P : Program) (C : Orc) (d : Bool) (st : St) (i : Nat) (o : Oper) : Option (V × List (Nat × Option O) × List Nat) := stepS P C d st.c st.ev st.hv i o

/-! ### the frequent operations, reckoned with few steps -/
def lkF {α : Type} : List (Nat × α) → Nat → Option α
 | [], _ => none
 | p :: r, i => match Nat.beq p.1 i with
  | true => some p.2
  | false => lkF r i
theorem lkF_eq {α : Type} : ∀ (l : List (Nat × α)) (i : Nat), lkF l i = lk l i
 | [], _ => rfl
 | (k, x) :: r, i => by
  simp only [lkF, lk]
  cases h : Nat.beq k i with
  | true => simp [Nat.eq_of_beq_eq_true h]
  | false => simp [Nat.ne_of_beq_eq_false h, lkF_eq r i]
/-- Slots, by their numbers in binary. -/
inductive Tri where
 | leaf
 | node (v : Option V) (l r : Tri)
def tget : Tri → Nat → Option V
 | .leaf, _ => none
 | .node v l r, k => match k with
  | 0 => v
  | k + 1 => match Nat.beq (k % 2) 0 with
   | true => tget l (k / 2)
   | false => tget r (k / 2)
def tset : Nat → Tri → Nat → V → Tri
 | 0, T, _, _ => T
 | f + 1, T, k, x => match T with
  | .leaf => match k with
   | 0 => .node (some x) .leaf .leaf
   | k + 1 => match Nat.beq (k % 2) 0 with
    | true => .node none (tset f .leaf (k / 2) x) .leaf
    | false => .node none .leaf (tset f .leaf (k / 2) x)
  | .node v l r => match k with
   | 0 => .node (some x) l r
   | k + 1 => match Nat.beq (k % 2) 0 with
    | true => .node v (tset f l (k / 2) x) r
    | false => .node v l (tset f r (k / 2) x)
theorem half_same {a b : Nat} (h : Nat.beq (a % 2) 0 = Nat.beq (b % 2) 0) (h2 : a / 2 = b / 2) : a = b := by
 have h1 : (a % 2 = 0 ↔ b % 2 = 0) := by
  constructor
  ·intro e
   have : Nat.beq (a % 2) 0 = true := by rw [e]; rfl
   rw [this] at h
   exact Nat.eq_of_beq_eq_true h.symm
  ·intro e
   have : Nat.beq (b % 2) 0 = true := by rw [e]; rfl
   rw [this] at h
   exact Nat.eq_of_beq_eq_true h
 omega
theorem tget_tset : ∀ (f : Nat) (T : Tri) (k : Nat) (x : V), k + 2 ≤ 2 ^ f → ∀ i, tget (tset f T k x) i = if k = i then some x else tget T i
  | 0, T, k, x, h, i => by simp at h
  | f + 1, T, k, x, h, i => by
    have hf : ∀ m, m + 1 + 2 ≤ 2 ^ (f + 1) → m / 2 + 2 ≤ 2 ^ f := by
      intro m hm
      rw [Nat.pow_succ] at hm
      omega
    have ih := fun T m (hm : m + 1 + 2 ≤ 2 ^ (f + 1)) => tget_tset f T (m / 2) x (hf m hm)
    cases T with
    | leaf =>
      cases k with
      | zero =>
        cases i with
        | zero => simp [tset, tget]
        | succ i => simp only [tset, tget]; cases Nat.beq (i % 2) 0 <;> simp
      | succ k =>
        simp only [tset]
        cases hb : Nat.beq (k % 2) 0 with
        | true =>
          simp only
          cases i with
          | zero => simp [tget]
          | succ i =>
            simp only [tget]
            cases hi : Nat.beq (i % 2) 0 with
            | true =>
              simp only [ih _ k h]
              by_cases e : k / 2 = i / 2
              · rw [if_pos e, if_pos (by rw [half_same (hb.trans hi.symm) e])]
              · rw [if_neg e, if_neg (by intro e'; apply e; have : k = i := by omega
                                         rw [this])]
                rfl
            | false =>
              rw [if_neg (by intro e'; have : k = i := by omega
                             rw [this, hi] at hb; cases hb)]
        | false =>
          simp only
          cases i with
          | zero => simp [tget]
          | succ i =>
            simp only [tget]
            cases hi : Nat.beq (i % 2) 0 with
            | true =>
              rw [if_neg (by intro e'; have : k = i := by omega
                             rw [this, hi] at hb; cases hb)]
            | false =>
              simp only [ih _ k h]
              by_cases e : k / 2 = i / 2
              · rw [if_pos e, if_pos (by rw [half_same (hb.trans hi.symm) e])]
              · rw [if_neg e, if_neg (by intro e'; apply e; have : k = i := by omega
                                         rw [this])]
                rfl
    | node v l r =>
      cases k with
      | zero => cases i <;> simp [tset, tget]
      | succ k =>
        simp only [tset]
        cases hb : Nat.beq (k % 2) 0 with
        | true =>
          simp only
          cases i with
          | zero => simp [tget]
          | succ i =>
            simp only [tget]
            cases hi : Nat.beq (i % 2) 0 with
            | true =>
              simp only [ih _ k h]
              by_cases e : k / 2 = i / 2
              · rw [if_pos e, if_pos (by rw [half_same (hb.trans hi.symm) e])]
              · rw [if_neg e, if_neg (by intro e'; apply e; have : k = i := by omega
                                         rw [this])]
            | false =>
              rw [if_neg (by intro e'; have : k = i := by omega
                             rw [this, hi] at hb; cases hb)]
        | false =>
          simp only
          cases i with
          | zero => simp [tget]
          | succ i =>
            simp only [tget]
            cases hi : Nat.beq (i % 2) 0 with
            | true =>
              rw [if_neg (by intro e'; have : k = i := by omega
                             rw [this, hi] at hb; cases hb)]
            | false =>
              simp only [ih _ k h]
              by_cases e : k / 2 = i / 2
              · rw [if_pos e, if_pos (by rw [half_same (hb.trans hi.symm) e])]
              · rw [if_neg e, if_neg (by intro e'; apply e; have : k = i := by omega
                                         rw [this])]
def getTmp (env : Tri) (t : Nat) : V := match tget env t with
 | some v => v
 | none => .top
def evF1 (env : Tri) (x : Operand) : V := match x with
 | .tmp t => getTmp env t
 | .const v => constV v
 | .global _ => .top
 | .func f => .fn f []
theorem evF1_eq {env : Tri} {st : St} (h : ∀ t, lk st.env t = tget env t) (x : Operand) : evF1 env x = st.ev x := by
 cases x with
 | tmp t =>
  simp only [evF1, St.ev, getTmp, h]
  cases tget env t <;> rfl
 | _ => rfl
def fitF : IntKind → Int → Bool
 | .i64, n => match n with
  | .ofNat m => Nat.ble m 9223372036854775807
  | .negSucc m => Nat.ble m 9223372036854775807
 | _, _ => false
theorem fitF_ok {k : IntKind} {n : Int} (h : fitF k n = true) : fits k n ∧ IntKind.uns k = false := by
  cases k <;> simp only [fitF] at h <;> first | (exfalso; cases h; done) | skip
  cases n with
  | ofNat m =>
    have := Nat.le_of_ble_eq_true h
    exact ⟨⟨by have : (Int.ofNat m) = (m : Int) := rfl
               omega, by have : (Int.ofNat m) = (m : Int) := rfl
                         omega⟩, rfl⟩
  | negSucc m =>
    have := Nat.le_of_ble_eq_true h
    exact ⟨⟨by omega, by omega⟩, rfl⟩
def leI : Int → Int → Bool
 | .ofNat a, .ofNat b => Nat.ble a b
 | .negSucc _, .ofNat _ => true
 | .ofNat _, .negSucc _ => false
 | .negSucc a, .negSucc b => Nat.ble b a
theorem leI_eq (a b : Int) : leI a b = decide (a ≤ b) := by
 cases a <;> cases b <;> simp only [leI]
 ·rename_i a b
  by_cases h : a ≤ b
  ·rw [Nat.ble_eq_true_of_le h]; symm; simpa using h
  ·have : Nat.ble a b = false := by cases hb : Nat.ble a b with | true => exact absurd (Nat.le_of_ble_eq_true hb) h | false => rfl
   rw [this]; symm; simpa using h
 ·symm; simp <;> omega
 ·symm; simp <;> omega
 ·rename_i a b
  by_cases h : b ≤ a
  ·rw [Nat.ble_eq_true_of_le h]; symm; simp; omega
  ·have : Nat.ble b a = false := by cases hb : Nat.ble b a with | true => exact absurd (Nat.le_of_ble_eq_true hb) h | false => rfl
   rw [this]; symm; simp; omega
def eqI : Int → Int → Bool
 | .ofNat a, .ofNat b => Nat.beq a b
 | .negSucc a, .negSucc b => Nat.beq a b
 | _, _ => false
theorem eqI_eq (a b : Int) : eqI a b = (a == b) := by
 cases a <;> cases b <;> simp only [eqI]
 ·rename_i a b
  cases h : Nat.beq a b with
  | true => simp [Nat.eq_of_beq_eq_true h]
  | false => have := Nat.ne_of_beq_eq_false h; symm; simp; omega
 ·symm; simp
 ·symm; simp
 ·rename_i a b
  cases h : Nat.beq a b with
  | true => simp [Nat.eq_of_beq_eq_true h]
  | false => have := Nat.ne_of_beq_eq_false h; symm; simp; omega
def numF (k : IntKind) (n : Int) : Option V := match fitF k n with
 | true => some (.d (.int k n))
 | false => none
def intF (op : BinOp) (k : IntKind) (a b : Int) : Option V := match op with
 | .add => numF k (a + b)
 | .sub => numF k (a - b)
 | .mul => numF k (a * b)
 | .eql => some (.d (.bool (eqI a b)))
 | .neq => some (.d (.bool (not (eqI a b))))
 | .lss => some (.d (.bool (not (leI b a))))
 | .leq => some (.d (.bool (leI a b)))
 | .gtr => some (.d (.bool (not (leI a b))))
 | .geq => some (.d (.bool (leI b a)))
 | _ => none
def VInt : V → Option (IntKind × Int)
 | .d x => match x with
  | .int k a => some (k, a)
  | _ => none
 | _ => none
theorem VInt_ok {v : V} {k : IntKind} {a : Int} (h : VInt v = some (k, a)) : v = .d (.int k a) := by
 cases v <;> simp only [VInt] at h <;> first | (exfalso; cases h; done) | skip
 rename_i x
 cases x <;> simp only at h <;> first | (exfalso; cases h; done) | skip
 injection h with h
 injection h with h1 h2
 subst h1 h2
 rfl
def eqK : IntKind → IntKind → Bool
 | .i64, .i64 => true
 | .u8, .u8 => true
 | .i32, .i32 => true
 | _, _ => false
theorem eqK_ok {k k' : IntKind} (h : eqK k k' = true) : k = k' := by
 cases k <;> cases k' <;> first | rfl | cases h
def binF (op : BinOp) (x y : V) : Option V := match VInt x with
 | some p => match VInt y with
  | some q => match eqK p.1 q.1 with
   | true => intF op p.1 p.2 q.2
   | false => none
  | none => none
 | none => none
def pickF (c a b : V) : Option V := match c with
 | .d x => match x with
  | .bool t => match t with
   | true => some a
   | false => some b
  | _ => none
 | _ => none
def stepF (env : Tri) (o : Op) : Option V := match o with
 | .move x => some (evF1 env x)
 | .assign x => some (evF1 env x)
 | .pick c a b => pickF (evF1 env c) (evF1 env a) (evF1 env b)
 | .binOp op _ x y _ => binF op (evF1 env x) (evF1 env y)
 | _ => none

theorem stepF_ok {P : Program} {C : Orc} {d : Bool} {env : Tri} {st : St} (he : ∀ t, lk st.env t = tget env t) {i : Nat} {o : Oper} {v : V} (h : stepF env o.op = some v) : stepE P C d st i o = some (v, [], []) := by
 cases ho : o.op <;> rw [ho] at h <;> simp only [stepF] at h <;> first | (exfalso; cases h; done) | skip
 ·injection h with h; subst h; simp only [stepE, stepS, ho, aop, evF1_eq he, opIds, decide_true]
 ·injection h with h; subst h; simp only [stepE, stepS, ho, aop, evF1_eq he, opIds, decide_true]
 ·rename_i c a b
  simp only [evF1_eq he, pickF] at h
  split at h
  ·rename_i x hx
   split at h
   ·split at h
    ·injection h with h
     subst h
     simp only [stepE, stepS, ho, aop, aPick, hx, if_true, opIds, decide_true]
    ·injection h with h
     subst h
     simp only [stepE, stepS, ho, aop, aPick, hx, Bool.false_eq_true, if_false, opIds, decide_true]
   ·cases h
  ·cases h
 ·rename_i op t x y yt
  simp only [evF1_eq he, binF] at h
  split at h
  case h_2 => cases h
  rename_i p hp
  split at h
  case h_2 => cases h
  rename_i q hq
  split at h
  case h_2 => cases h
  rename_i hk
  obtain ⟨k, a⟩ := p
  obtain ⟨k', b⟩ := q
  simp only at hk h
  have := eqK_ok hk
  subst this
  have e1 := VInt_ok hp
  have e2 := VInt_ok hq
  have num : ∀ n, numF k n = some v → ∃ r : Res, numR k n = some r ∧ r.v = v ∧ r.upd = [] ∧ r.ob := by
   intro n hn
   unfold numF at hn
   split at hn
   ·rename_i hf
    injection hn with hn
    obtain ⟨f1, f2⟩ := fitF_ok hf
    refine ⟨⟨.d (.int k n), [], fits k n⟩, ?_, hn, rfl, f1⟩
    unfold numR
    rw [f2]
    rfl
   ·cases hn
  have fin : ∀ r : Res, aop P st.hv st.ev (64 * (st.c + i)) (.binOp op t x y yt) = some r → r.v = v → r.upd = [] → r.ob → stepE P C d st i o = some (v, [], []) := by
   intro r hr h1 h2 h3
   have hd : @decide r.ob r.dec = true := @decide_eq_true _ r.dec h3
   simp only [stepE, stepS, ho, hr, hd, h1, h2, opIds]
  have ha : ∀ r, (if BinOp.isSh op = true then aShift op k a b else aInt op k a b) = some r → aop P st.hv st.ev (64 * (st.c + i)) (.binOp op t x y yt) = some r := by
   intro r hr
   simp only [aop, aBin3, e1, e2, V.isPtr, V.isSl, V.isNili, aBin2, aBin, Bool.false_eq_true, if_false, if_true]
   exact hr
  cases op <;> simp only [intF] at h <;> first | (exfalso; cases h; done) | skip
  ·obtain ⟨r, r1, r2, r3, r4⟩ := num _ h; exact fin r (ha r (by simpa [BinOp.isSh, aInt] using r1)) r2 r3 r4
  ·obtain ⟨r, r1, r2, r3, r4⟩ := num _ h; exact fin r (ha r (by simpa [BinOp.isSh, aInt] using r1)) r2 r3 r4
  ·obtain ⟨r, r1, r2, r3, r4⟩ := num _ h; exact fin r (ha r (by simpa [BinOp.isSh, aInt] using r1)) r2 r3 r4
  all_goals
   injection h with h
   subst h
   refine fin _ (ha _ (by simp only [BinOp.isSh, aInt, Bool.false_eq_true, if_false]; rfl)) ?_ rfl trivial
   simp only [eqI_eq, leI_eq, bne]
   try rfl
  all_goals
   congr 2
   rw [Bool.eq_iff_iff]
   simp
   try omega

def dstB (dst : Option Nat) (n : Nat) : Bool := match dst with
 | none => true
 | some d => Nat.blt d n
theorem dstB_ok {dst : Option Nat} {n : Nat} (h : dstB dst n = true) : ∀ d, dst = some d → d < n := by
 intro d hd
 subst hd
 exact Nat.le_of_ble_eq_true h

def runE (P : Program) (C : Orc) (d : Bool) (ops : Array Oper) : Nat → List Oper → St → List Tr → Option (St × List Tr)
 | _, [], st, tr => some (st, tr)
 | i, o :: rest, st, tr => match st.want ops o with
  | some true => match dstB o.dst st.n with
   | true => match stepE P C d st i o with
    | some (x, u, rd) => runE P C d ops (i + 1) rest (st.put o.dst x u) (tr ++ [.step x u rd])
    | none => none
   | false => none
  | some false => runE P C d ops (i + 1) rest (st.skip o.dst) (tr ++ [.skip])
  | none => none

section
variable {P : Program} {C : Orc} {ops : Array Oper}
theorem stepE_T (hC : OrcOk P C) {st : St} {i : Nat} {o : Oper} {x : V} {u : List (Nat × Option O)} {rd : List Nat} (h : stepE P C true st i o = some (x, u, rd)) {K : St → Tr → Prop} (hK : K (st.put o.dst x u) (.step x u rd)) : aStepT P st i o K := by
 unfold stepE stepS at h
 unfold aStepT
 split at h
 ·rename_i fo args ats ho
  split at h
  ·rename_i f caps hf
   rw [ho]
   simp only [hf]
   exact ⟨x, u, rd, hC _ _ _ _ _ _ _ h, hK⟩
  ·cases h
 ·cases h
 ·cases h
 ·rename_i op hno hno2 hno3
  split at h
  ·rename_i r hr
   split at h
   ·rename_i hd
    injection h with h
    injection h with h1 h2
    injection h2 with h2 h3
    subst h1 h2 h3
    split
    ·rename_i fo args ats ho; exact absurd ho (by intro hh'; exact hno _ _ _ hh')
    ·rename_i it ho; exact absurd ho (by intro hh'; exact hno2 _ _ hh')
    ·rename_i it ho; exact absurd ho (by intro hh'; exact hno3 _ hh')
    ·rw [hr]
     exact ⟨@of_decide_eq_true _ r.dec hd, hK⟩
   ·cases h
  ·cases h
theorem stepE_O (hC : OrcOk P C) {st : St} {i : Nat} {o : Oper} {x : V} {u : List (Nat × Option O)} {rd : List Nat} (h : stepE P C false st i o = some (x, u, rd)) {K : St → Prop} (hK : K (st.put o.dst x u)) : aStep P st i o K := by
 unfold stepE stepS at h
 unfold aStep
 split at h
 ·rename_i fo args ats ho
  split at h
  ·rename_i f caps hf
   rw [ho]
   simp only [hf]
   exact ⟨Unit, _, _, _, (hC _ _ _ _ _ _ _ h _ (fun _ _ => rfl)).toI, fun _ _ => hK⟩
  ·cases h
 ·cases h
 ·rename_i it ho
  rw [ho]
  simp only at h ⊢
  split at h
  ·rename_i r hr
   injection h with h
   injection h with h1 h2
   injection h2 with h2 h3
   subst h1 h2 h3
   rw [hr]
   exact hK
  ·cases h
 ·rename_i op hno hno2 hno3
  split at h
  ·rename_i r hr
   split at h
   ·rename_i hd
    injection h with h
    injection h with h1 h2
    injection h2 with h2 h3
    subst h1 h2 h3
    split
    ·rename_i fo args ats ho; exact absurd ho (by intro hh'; exact hno _ _ _ hh')
    ·rename_i it ho; exact absurd ho (by intro hh'; exact hno2 _ _ hh')
    ·rename_i it ho; exact absurd ho (by intro hh'; exact hno3 _ hh')
    ·rw [hr]
     exact ⟨@of_decide_eq_true _ r.dec hd, hK⟩
   ·cases h
  ·cases h
theorem runE_T (hC : OrcOk P C) : ∀ (l : List Oper) (i : Nat) (st : St) (tr : List Tr) (st' : St) (tr' : List Tr), runE P C true ops i l st tr = some (st', tr') → ∀ K : St → List Tr → Prop, K st' tr' → aRunTO P ops i l st tr K
 | [], i, st, tr, st', tr', h, K, hK => by
  simp only [runE] at h
  injection h with h
  injection h with h1 h2
  subst h1 h2
  exact hK
 | o :: rest, i, st, tr, st', tr', h, K, hK => by
  simp only [runE] at h
  simp only [aRunTO]
  split at h
  ·rename_i hw
   split at h
   ·rename_i hd
    split at h
    ·rename_i x u rd hs
     rw [hw]
     exact ⟨dstB_ok hd, stepE_T hC hs (runE_T hC rest (i + 1) _ _ _ _ h K hK)⟩
    ·cases h
   ·cases h
  ·rename_i hw
   rw [hw]
   exact runE_T hC rest (i + 1) _ _ _ _ h K hK
  ·cases h
theorem runE_O (hC : OrcOk P C) : ∀ (l : List Oper) (i : Nat) (st : St) (tr : List Tr) (st' : St) (tr' : List Tr), runE P C false ops i l st tr = some (st', tr') → ∀ K : St → Prop, K st' → aRunO P ops i l st K
 | [], i, st, tr, st', tr', h, K, hK => by
  simp only [runE] at h
  injection h with h
  injection h with h1 h2
  subst h1
  exact hK
 | o :: rest, i, st, tr, st', tr', h, K, hK => by
  simp only [runE] at h
  simp only [aRunO]
  split at h
  ·rename_i hw
   split at h
   ·rename_i hd
    split at h
    ·rename_i x u rd hs
     rw [hw]
     exact ⟨dstB_ok hd, stepE_O hC hs (runE_O hC rest (i + 1) _ _ _ _ h K hK)⟩
    ·cases h
   ·cases h
  ·rename_i hw
   rw [hw]
   exact runE_O hC rest (i + 1) _ _ _ _ h K hK
  ·cases h
end

/-! ### a state put in order -/
def setA {α : Type} (k : Nat) (x : α) : List (Nat × α) → List (Nat × α)
 | [] => [(k, x)]
 | (k', y) :: r => match Nat.beq k' k with
  | true => (k, x) :: r
  | false => (k', y) :: setA k x r
def delA {α : Type} (k : Nat) : List (Nat × α) → List (Nat × α)
 | [] => []
 | (k', y) :: r => match Nat.beq k' k with
  | true => delA k r
  | false => (k', y) :: delA k r
def tidyH : List (Nat × Option O) → List (Nat × Option O)
 | [] => []
 | (k, some x) :: r => setA k (some x) (tidyH r)
 | (k, none) :: r => delA k (tidyH r)
theorem lk_setA {α : Type} (k : Nat) (x : α) (i : Nat) : ∀ l : List (Nat × α), lk (setA k x l) i = if k = i then some x else lk l i
 | [] => by simp [setA, lk]
 | (k', y) :: r => by
  simp only [setA]
  split
  ·rename_i h
   have := Nat.eq_of_beq_eq_true h
   subst this
   simp only [lk]
   split <;> rfl
  ·rename_i h
   have hne : k' ≠ k := Nat.ne_of_beq_eq_false h
   simp only [lk, lk_setA k x i r]
   by_cases h1 : k' = i
   ·subst h1; simp [Ne.symm hne]
   ·simp [h1]
theorem lk_delA {α : Type} (k : Nat) (i : Nat) : ∀ l : List (Nat × α), lk (delA k l) i = if k = i then none else lk l i
 | [] => by simp [delA, lk]
 | (k', y) :: r => by
  simp only [delA]
  split
  ·rename_i h
   have := Nat.eq_of_beq_eq_true h
   subst this
   rw [lk_delA k' i r]
   simp only [lk]
   split <;> rfl
  ·rename_i h
   have hne : k' ≠ k := Nat.ne_of_beq_eq_false h
   simp only [lk, lk_delA k i r]
   by_cases h1 : k' = i
   ·subst h1; simp [Ne.symm hne]
   ·simp [h1]
theorem lk_tidyH (i : Nat) : ∀ H : List (Nat × Option O), (lk (tidyH H) i).getD none = (lk H i).getD none
 | [] => rfl
 | (k, some x) :: r => by
  simp only [tidyH, lk_setA, lk]
  split
  ·rfl
  ·exact lk_tidyH i r
 | (k, none) :: r => by
  simp only [tidyH, lk_delA, lk]
  split
  ·rfl
  ·exact lk_tidyH i r
/-- The place of a number in a list. -/
def idx : List Nat → Nat → Nat
 | [], _ => 0
 | x :: r, i => match Nat.beq x i with
  | true => 0
  | false => idx r i + 1
def hasN : List Nat → Nat → Bool
 | [], _ => false
 | x :: r, i => match Nat.beq x i with
  | true => true
  | false => hasN r i
theorem idx_get : ∀ {l : List Nat} {i : Nat}, hasN l i = true → l[idx l i]? = some i
 | [], i, h => by simp [hasN] at h
 | x :: r, i, h => by
  simp only [hasN] at h
  simp only [idx]
  split at h
  ·rename_i hb
   simp [Nat.eq_of_beq_eq_true hb]
  ·rename_i hb
   simpa using idx_get h
def nodupN : List Nat → Bool
 | [] => true
 | x :: r => match hasN r x with
  | true => false
  | false => nodupN r
theorem hasN_mem : ∀ {l : List Nat} {i : Nat}, i ∈ l → hasN l i = true
 | [], i, h => by simp at h
 | x :: r, i, h => by
  simp only [hasN]
  split
  ·rfl
  ·rename_i hb
   rcases List.mem_cons.1 h with rfl | h
   ·exact absurd (Nat.beq_refl i) (by rw [hb]; simp)
   ·exact hasN_mem h
theorem nodupN_ok : ∀ {l : List Nat}, nodupN l = true → l.Nodup
 | [], _ => List.nodup_nil
 | x :: r, h => by
  simp only [nodupN] at h
  split at h
  ·cases h
  ·rename_i hh
   refine List.nodup_cons.2 ⟨fun hx => ?_, nodupN_ok h⟩
   rw [hasN_mem hx] at hh
   cases hh

def allN (f : Nat → Bool) : List Nat → Bool
 | [] => true
 | x :: r => match f x with
  | true => allN f r
  | false => false
theorem allN_ok {f : Nat → Bool} : ∀ {l : List Nat}, allN f l = true → ∀ i ∈ l, f i = true
 | [], _, i, h => by simp at h
 | x :: r, h, i, hi => by
  simp only [allN] at h
  split at h
  ·rename_i hx
   rcases List.mem_cons.1 hi with rfl | hi
   ·exact hx
   ·exact allN_ok h i hi
  ·cases h

/-- Those from k on. -/
def filN (k : Nat) : List Nat → List Nat
 | [] => []
 | x :: r => match Nat.ble k x with
  | true => x :: filN k r
  | false => filN k r
def countN : Nat → Nat → List Nat
 | _, 0 => []
 | i, n + 1 => i :: countN (i + 1) n
theorem countN_get : ∀ (n i j : Nat), j < n → (countN i n)[j]? = some (i + j)
 | 0, _, _, h => by omega
 | n + 1, i, 0, _ => by simp [countN]
 | n + 1, i, j + 1, h => by
  simp only [countN, List.getElem?_cons_succ]
  rw [countN_get n (i + 1) j (by omega)]
  congr 1
  omega
theorem countN_length : ∀ (n i : Nat), (countN i n).length = n
 | 0, _ => rfl
 | n + 1, i => by simp [countN, countN_length n]


/-! ### equal values -/
mutual
def eqDb : D → D → Bool
 | .bool a, .bool b => a == b
 | .int k a, .int k' b => decide (k = k') && decide (a = b)
 | .str a, .str b => decide (a = b)
 | .agg xs, .agg ys => eqDL xs ys
 | .sl xs, .sl ys => eqDL xs ys
 | .map a b, .map c d => eqDL a c && eqDL b d
 | .nilp, .nilp => true
 | .ptr a i, .ptr b j => eqDL a b && Nat.beq i j
 | .nili, .nili => true
 | _, _ => false
def eqDL : List D → List D → Bool
 | [], [] => true
 | x :: xs, y :: ys => eqDb x y && eqDL xs ys
 | _, _ => false
end
mutual
theorem eqDb_ok : ∀ (x y : D), eqDb x y = true → x = y
 | .bool a, y, h => by cases y <;> simp [eqDb] at h; simp [h]
 | .int k a, y, h => by cases y <;> simp [eqDb] at h; simp [h]
 | .str a, y, h => by cases y <;> simp [eqDb] at h; simp [h]
 | .agg xs, y, h => by cases y <;> simp [eqDb] at h; rw [eqDL_ok xs _ h]
 | .sl xs, y, h => by cases y <;> simp [eqDb] at h; rw [eqDL_ok xs _ h]
 | .map a b, y, h => by cases y <;> simp [eqDb] at h; rw [eqDL_ok a _ h.1, eqDL_ok b _ h.2]
 | .nilp, y, h => by cases y <;> simp [eqDb] at h; rfl
 | .ptr a i, y, h => by cases y <;> simp [eqDb] at h; rw [eqDL_ok a _ h.1, h.2]
 | .nili, y, h => by cases y <;> simp [eqDb] at h; rfl
theorem eqDL_ok : ∀ (x y : List D), eqDL x y = true → x = y
 | [], y, h => by cases y <;> simp [eqDL] at h; rfl
 | x :: xs, y, h => by
  cases y with
  | nil => simp [eqDL] at h
  | cons y ys =>
   simp only [eqDL, Bool.and_eq_true] at h
   rw [eqDb_ok x y h.1, eqDL_ok xs ys h.2]
end
mutual
def eqVb : V → V → Bool
 | .top, .top => true
 | .d a, .d b => eqDb a b
 | .nils, .nils => true
 | .agg xs, .agg ys => eqVL xs ys
 | .tup xs, .tup ys => eqVL xs ys
 | .ptr a b, .ptr c d => Nat.beq a c && Nat.beq b d
 | .pe a b c, .pe a' b' c' => Nat.beq a a' && Nat.beq b b' && Nat.beq c c'
 | .slr a b c, .slr a' b' c' => Nat.beq a a' && Nat.beq b b' && Nat.beq c c'
 | .mpr a, .mpr b => Nat.beq a b
 | .fn f xs, .fn g ys => Nat.beq f g && eqVL xs ys
 | _, _ => false
def eqVL : List V → List V → Bool
 | [], [] => true
 | x :: xs, y :: ys => eqVb x y && eqVL xs ys
 | _, _ => false
end
mutual
theorem eqVb_ok : ∀ (x y : V), eqVb x y = true → x = y
 | .top, y, h => by cases y <;> simp [eqVb] at h; rfl
 | .k _, y, h => by cases y <;> simp [eqVb] at h
 | .d a, y, h => by cases y <;> simp [eqVb] at h; rw [eqDb_ok a _ h]
 | .nils, y, h => by cases y <;> simp [eqVb] at h; rfl
 | .agg xs, y, h => by cases y <;> simp [eqVb] at h; rw [eqVL_ok xs _ h]
 | .tup xs, y, h => by cases y <;> simp [eqVb] at h; rw [eqVL_ok xs _ h]
 | .ptr a b, y, h => by cases y <;> simp [eqVb] at h; simp [h]
 | .pe a b c, y, h => by cases y <;> simp [eqVb] at h; simp [h]
 | .slr a b c, y, h => by cases y <;> simp [eqVb] at h; simp [h]
 | .mpr a, y, h => by cases y <;> simp [eqVb] at h; simp [h]
 | .fn f xs, y, h => by cases y <;> simp [eqVb] at h; rw [eqVL_ok xs _ h.2, h.1]
theorem eqVL_ok : ∀ (x y : List V), eqVL x y = true → x = y
 | [], y, h => by cases y <;> simp [eqVL] at h; rfl
 | x :: xs, y, h => by
  cases y with
  | nil => simp [eqVL] at h
  | cons y ys =>
   simp only [eqVL, Bool.and_eq_true] at h
   rw [eqVb_ok x y h.1, eqVL_ok xs ys h.2]
end
def eqLf : Lf → Lf → Bool
 | .cnt l, .cnt l' => Nat.beq l l'
 | _, _ => false
theorem eqLf_ok : ∀ (x y : Lf), eqLf x y = true → x = y := by
 intro x y h
 unfold eqLf at h
 split at h
 ·rw [Nat.eq_of_beq_eq_true h]
 ·cases h
def eqOb : O → O → Bool
 | .box e xs, .box e' ys => Nat.beq e e' && eqVL xs ys
 | .vec e s xs, .vec e' s' ys => Nat.beq e e' && Nat.beq s s' && eqVL xs ys
 | .map ks vs, .map ks' vs' => eqDL ks ks' && eqVL vs vs'
 | .miter x n none l, .miter y m none l' => eqVb x y && Nat.beq n m && eqLf l l'
 | _, _ => false
theorem eqOb_ok : ∀ (x y : O), eqOb x y = true → x = y := by
 intro x y h
 unfold eqOb at h
 split at h
 ·simp at h; rw [h.1, eqVL_ok _ _ h.2]
 ·simp at h; rw [h.1.1, h.1.2, eqVL_ok _ _ h.2]
 ·simp at h; rw [eqDL_ok _ _ h.1, eqVL_ok _ _ h.2]
 ·simp at h; rw [eqVb_ok _ _ h.1.1, h.1.2, eqLf_ok _ _ h.2]
 ·cases h

/-! ### forgetting -/
mutual
theorem ren_id : ∀ x : V, x.ren (fun i => i) = x
 | .top => rfl | .k _ => rfl | .d _ => rfl | .nils => rfl | .ptr _ _ => rfl | .pe _ _ _ => rfl | .slr _ _ _ => rfl | .mpr _ => rfl
 | .agg cs => by simp only [V.ren, renL_id cs]
 | .tup cs => by simp only [V.ren, renL_id cs]
 | .fn _ cs => by simp only [V.ren, renL_id cs]
theorem renL_id : ∀ xs : List V, renL (fun i => i) xs = xs
 | [] => rfl
 | x :: xs => by simp only [renL, ren_id x, renL_id xs]
end
theorem O.ren_id (o : O) : o.ren (fun i => i) = o := by
 cases o <;> simp only [O.ren, renL_id, Go.AX.ren_id]
/-- The iterator's place in its round is forgotten. -/
def O.calm : O → O
 | .miter x n _ l => .miter x n none (.cnt (l.num n))
 | o => o
theorem RO_calm {w : World} {ok : Nat → Prop} {σ : Nat → Option Loc} {id : Nat} {o : O} (h : RO w ok σ id o) : RO w ok σ id o.calm := by
 cases o with
 | miter x n cur l =>
  obtain ⟨b, K, s, m, seen, h1, h2, h3, h4, h5, h6, h7, _⟩ := h
  refine ⟨b, K, s, m, seen, h1, h2, h3, h4, h5, h6, ?_, by simp⟩
  cases l with
  | cnt l => exact h7
  | lst s => show _ + (n - s.length) = n; rw [h7.1]; have := h7.2; omega
 | _ => exact h

theorem Weak.forget {cx : Cx} {k : Nat} (hcx : CxOk cx k) {s t : St} (hn : t.n = s.n) (hk : k ≤ 64 * t.c) (he : ∀ i v, lk t.env i = some v → lk s.env i = some v ∧ v.bel (64 * t.c) = true)
  (hh : ∀ i o, t.hv i = some o → i < 64 * t.c ∧ o.bel (64 * t.c) = true ∧ ∃ o', s.hv i = some o' ∧ (o = o' ∨ o = o'.calm)) : Weak cx s t := by
 intro σ a w h
 let σ2 : Nat → Option Loc := fun i => if i < 64 * t.c then σ i else none
 have s2 : ∀ i, i < 64 * t.c → σ2 i = σ i := fun i hi => by simp [σ2, hi]
 have back : ∀ i l, i < 64 * t.c → σ ((fun i => i) i) = some l → σ2 i = some l := fun i l hi hs => by rw [s2 i hi]; exact hs
 have okc : ∀ b, okB cx w s.hv σ b → okB cx w t.hv σ2 b := by
  intro b hb
  refine ⟨hb.1, hb.2.1, fun i o K s' ho hs => ?_⟩
  obtain ⟨h1, _, o', h2, _⟩ := hh i o ho
  rw [s2 i h1] at hs
  exact hb.2.2 i o' K s' h2 hs
 have H := h.hr
 refine ⟨σ2, ?_⟩
 constructor
 ·constructor
  ·exact H.os
  ·exact H.tape
  ·exact H.output
  ·exact H.size
  ·exact H.frame
  ·intro i o ho
   obtain ⟨h1, h2, o', h3, h4⟩ := hh i o ho
   have hro : RO w (okB cx w s.hv σ) σ i o := by
    rcases h4 with rfl | rfl
    ·exact H.own i _ h3
    ·exact RO_calm (H.own i _ h3)
   have hro2 : RO w (okB cx w s.hv σ) σ ((fun i => i) i) (o.ren fun i => i) := by rw [O.ren_id]; exact hro
   exact RO_mono (fun b hb => ⟨okc b hb, rfl⟩) (fun _ _ h => h) (fun _ _ _ _ => rfl) (RO_back back h1 h2 hro2)
  ·intro i o b K s' ho hs
   obtain ⟨h1, _, o', h3, _⟩ := hh i o ho
   rw [s2 i h1] at hs
   exact H.new _ _ b K s' h3 hs
  ·intro i j o1 o2 b K s' K' s'' e1 e2 e3 e4
   obtain ⟨h1, _, o1', h3, _⟩ := hh i _ e1
   obtain ⟨j1, _, o2', j3, _⟩ := hh j _ e2
   rw [s2 i h1] at e3
   rw [s2 j j1] at e4
   exact H.inj _ _ _ _ b K s' K' s'' h3 j3 e3 e4
 ·intro id hid
  simp only [σ2]
  rw [if_neg (by omega)]
 ·intro i l hl
  have hi := hcx.ps i l hl
  rw [s2 i (by omega)]
  exact h.par i l hl
 ·rw [hn]; exact h.tmps
 ·exact h.defers
 ·intro i v hv
  obtain ⟨h1, h2⟩ := he i v hv
  have hr := h.env i v h1
  have hr2 : RV w (okB cx w s.hv σ) σ (v.ren fun i => i) (a.tmps.getD i undef) := by rw [ren_id]; exact hr
  exact RV_mono (fun b hb => ⟨okc b hb, rfl⟩) (fun _ _ h => h) _ _ (RV_back back v _ h2 hr2)

theorem Weak.same {cx : Cx} {s t : St} (hn : t.n = s.n) (hc : t.c = s.c) (he : ∀ i, lk t.env i = lk s.env i) (hh : ∀ i, t.hv i = s.hv i) : Weak cx s t := fun σ _ _ h => ⟨σ, h.congr hn he hh (fun id hid => by rw [hc] at hid; exact hid)⟩

theorem Weak.calmAt {cx : Cx} {s t : St} (hn : t.n = s.n) (hc : t.c = s.c) (he : ∀ i, lk t.env i = lk s.env i) (hh : ∀ i, t.hv i = s.hv i ∨ ∃ o, s.hv i = some o ∧ t.hv i = some o.calm) : Weak cx s t := by
 intro σ a w h
 have hb : ∀ i o, t.hv i = some o → ∃ o', s.hv i = some o' ∧ (o = o' ∨ o = o'.calm) := by
  intro i o ho
  rcases hh i with e | ⟨o', e1, e2⟩
  ·exact ⟨o, by rw [← e]; exact ho, .inl rfl⟩
  ·rw [e2] at ho; cases ho; exact ⟨o', e1, .inr rfl⟩
 have okc : ∀ b, okB cx w s.hv σ b → okB cx w t.hv σ b := by
  intro b hb'
  refine ⟨hb'.1, hb'.2.1, fun i o K s' ho hs => ?_⟩
  obtain ⟨o', h2, _⟩ := hb i o ho
  exact hb'.2.2 i o' K s' h2 hs
 have H := h.hr
 refine ⟨σ, ?_⟩
 constructor
 ·constructor
  ·exact H.os
  ·exact H.tape
  ·exact H.output
  ·exact H.size
  ·exact H.frame
  ·intro i o ho
   obtain ⟨o', h3, h4⟩ := hb i o ho
   have hro : RO w (okB cx w s.hv σ) σ i o := by
    rcases h4 with rfl | rfl
    ·exact H.own i _ h3
    ·exact RO_calm (H.own i _ h3)
   exact RO_mono (fun b hb => ⟨okc b hb, rfl⟩) (fun _ _ h => h) (fun _ _ _ _ => rfl) hro
  ·intro i o b K s' ho hs
   obtain ⟨o', h3, _⟩ := hb i o ho
   exact H.new _ _ b K s' h3 hs
  ·intro i j o1 o2 b K s' K' s'' e1 e2 e3 e4
   obtain ⟨o1', h3, _⟩ := hb i _ e1
   obtain ⟨o2', j3, _⟩ := hb j _ e2
   exact H.inj _ _ _ _ b K s' K' s'' h3 j3 e3 e4
 ·intro id hid
  rw [hc] at hid
  exact h.fresh id hid
 ·exact h.par
 ·rw [hn]; exact h.tmps
 ·exact h.defers
 ·intro i v hv
  rw [he] at hv
  exact RV_mono (fun b hb => ⟨okc b hb, rfl⟩) (fun _ _ h => h) _ _ (h.env i v hv)

/-! ### the state of a run -/
structure ES where
 n : Nat
 c : Nat
 env : Tri
 H : List (Nat × Option O)
def hvE (H : List (Nat × Option O)) (i : Nat) : Option O := match lkF H i with
 | some o => o
 | none => none
theorem hvE_eq (H : List (Nat × Option O)) (i : Nat) : hvE H i = (lk H i).getD none := by
 unfold hvE
 rw [lkF_eq]
 cases lk H i <;> rfl
structure Sim (s : ES) (st : St) : Prop where
 n : st.n = s.n
 c : st.c = s.c
 hv : ∀ i, st.hv i = hvE s.H i
 env : ∀ t, lk st.env t = tget s.env t
theorem Sim.hvf {s : ES} {st : St} (h : Sim s st) : st.hv = hvE s.H := funext h.hv
theorem Sim.evf {s : ES} {st : St} (h : Sim s st) : st.ev = evF1 s.env := funext fun x => (evF1_eq h.env x).symm
theorem Sim.weak {cx : Cx} {s : ES} {st st' : St} (h : Sim s st) (h' : Sim s st') : Weak cx st st' := Weak.same (h'.n.trans h.n.symm) (h'.c.trans h.c.symm) (fun i => (h'.env i).trans (h.env i).symm) (fun i => (h'.hv i).trans (h.hv i).symm)

def wantT (ops : Array Oper) (env : Tri) (o : Oper) : Option Bool := match o.guard with
 | none => some true
 | some g => match (ops[g.1]?).bind (·.dst) with
  | some t => match tget env t with
   | some v => match v with
    | .d x => match x with
     | .bool c => some (c == g.2)
     | _ => none
    | .tup l => match l with
     | [] => some false
     | _ => none
    | _ => none
   | none => none
  | none => none
theorem wantT_eq {env : Tri} {st : St} (h : ∀ t, lk st.env t = tget env t) (ops : Array Oper) (o : Oper) : wantT ops env o = st.want ops o := by
 unfold wantT St.want
 cases o.guard with
 | none => rfl
 | some g =>
  obtain ⟨j, b⟩ := g
  simp only [h]
  cases (ops[j]?).bind (·.dst) with
  | none => rfl
  | some t =>
   simp only
   cases tget env t with
   | none => rfl
   | some v =>
    cases v with
    | d x => cases x <;> rfl
    | tup l => cases l <;> rfl
    | _ => rfl
def consT (d : Option Nat) (x : V) (env : Tri) : Tri := match d with
 | some d => tset 20 env d x
 | none => env
def appH (u H : List (Nat × Option O)) : List (Nat × Option O) := match u with
 | [] => H
 | p :: r => p :: appH r H
theorem appH_eq : ∀ u H : List (Nat × Option O), appH u H = u ++ H
 | [], _ => rfl
 | p :: r, H => by simp only [appH, appH_eq r H, List.cons_append]
def stepT (P : Program) (C : Orc) (d : Bool) (c : Nat) (env : Tri) (H : List (Nat × Option O)) (i : Nat) (o : Oper) : Option (V × List (Nat × Option O) × List Nat) := match stepF env o.op with
 | some v => some (v, [], [])
 | none => stepS P C d c (evF1 env) (hvE H) i o
theorem stepT_eq {P : Program} {C : Orc} {d : Bool} {s : ES} {st : St} (h : Sim s st) (i : Nat) (o : Oper) : stepT P C d s.c s.env s.H i o = stepE P C d st i o := by
 unfold stepT
 split
 ·rename_i v hv; exact (stepF_ok h.env hv).symm
 ·unfold stepE; rw [h.hvf, h.evf, h.c]
theorem Sim.put {s : ES} {st : St} (h : Sim s st) (d : Option Nat) (x : V) (u : List (Nat × Option O)) (hd : ∀ q, d = some q → q + 2 ≤ 2 ^ 20) : Sim ⟨s.n, s.c, consT d x s.env, appH u s.H⟩ (st.put d x u) := by
 refine ⟨h.n, h.c, fun i => ?_, fun t => ?_⟩
 ·rw [hv_put]
  simp only [app, hvE_eq, appH_eq, lk_append, h.hv]
  cases lk u i <;> simp
 ·cases d with
  | none => exact h.env t
  | some q =>
   simp only [St.put, consT, lk, tget_tset 20 s.env q x (hd q rfl) t, h.env]
theorem Sim.skip {s : ES} {st : St} (h : Sim s st) (d : Option Nat) (hd : ∀ q, d = some q → q + 2 ≤ 2 ^ 20) : Sim ⟨s.n, s.c, consT d (.tup []) s.env, s.H⟩ (st.skip d) := by
 refine ⟨h.n, h.c, h.hv, fun t => ?_⟩
 cases d with
 | none => exact h.env t
 | some q => simp only [St.skip, consT, lk, tget_tset 20 s.env q (.tup []) (hd q rfl) t, h.env]

def runT (P : Program) (C : Orc) (d : Bool) (ops : Array Oper) (n c : Nat) : Nat → List Oper → Tri → List (Nat × Option O) → List Tr → Option (Tri × List (Nat × Option O) × List Tr)
 | _, [], env, H, tr => some (env, H, tr)
 | i, o :: rest, env, H, tr => match wantT ops env o with
  | some b => match dstB o.dst n with
   | true => match b with
    | true => match stepF env o.op with
     | some v => runT P C d ops n c (i + 1) rest (consT o.dst v env) H (tr ++ [.step v [] []])
     | none => match stepS P C d c (evF1 env) (hvE H) i o with
      | some r => match r.2.1 with
       | [] => runT P C d ops n c (i + 1) rest (consT o.dst r.1 env) H (tr ++ [.step r.1 [] r.2.2])
       | p :: u => runT P C d ops n c (i + 1) rest (consT o.dst r.1 env) (appH (p :: u) H) (tr ++ [.step r.1 (p :: u) r.2.2])
      | none => none
    | false => runT P C d ops n c (i + 1) rest (consT o.dst (.tup []) env) H (tr ++ [.skip])
   | false => none
  | none => none
theorem runT_ok {P : Program} {C : Orc} {d : Bool} {ops : Array Oper} {n c : Nat} (hn : n ≤ 1000000) : ∀ (l : List Oper) (i : Nat) (env : Tri) (H : List (Nat × Option O)) (tr : List Tr) (env' : Tri) (H' : List (Nat × Option O)) (tr' : List Tr), runT P C d ops n c i l env H tr = some (env', H', tr') →
  ∀ st, Sim ⟨n, c, env, H⟩ st → ∃ st', runE P C d ops i l st tr = some (st', tr') ∧ Sim ⟨n, c, env', H'⟩ st'
 | [], i, env, H, tr, env', H', tr', h, st, hs => by
  simp only [runT] at h
  injection h with h
  injection h with h1 h2
  injection h2 with h2 h3
  subst h1 h2 h3
  exact ⟨st, rfl, hs⟩
 | o :: rest, i, env, H, tr, env', H', tr', h, st, hs => by
  simp only [runT] at h
  have hw := wantT_eq (st := st) hs.env ops o
  split at h
  ·rename_i b hb
   have hw : some b = st.want ops o := hb.symm.trans hw
   split at h
   ·rename_i hd
    have hb20 : ∀ q : Nat, o.dst = some q → q + 2 ≤ 2 ^ 20 := fun q hq => by
     have h1 := dstB_ok hd q hq
     have h2 : (2 : Nat) ^ 20 = 1048576 := rfl
     rw [h2]
     omega
    have hd' : dstB o.dst st.n = true := by rw [hs.n]; exact hd
    split at h
    ·split at h
     ·rename_i v hv
      have hse : stepE P C d st i o = some (v, [], []) := stepF_ok hs.env hv
      obtain ⟨st', e1, e2⟩ := runT_ok hn rest (i + 1) _ _ _ _ _ _ h (st.put o.dst v []) (hs.put o.dst v [] hb20)
      exact ⟨st', by simp only [runE, ← hw, hd', hse]; exact e1, e2⟩
     ·rename_i hf
      split at h
      ·rename_i r hr
       have hse : stepE P C d st i o = some (r.1, r.2.1, r.2.2) := by
        rw [← stepT_eq hs i o]
        unfold stepT
        rw [hf]
        exact hr
       split at h
       ·rename_i hu
        rw [hu] at hse
        obtain ⟨st', e1, e2⟩ := runT_ok hn rest (i + 1) _ _ _ _ _ _ h (st.put o.dst r.1 []) (hs.put o.dst r.1 [] hb20)
        exact ⟨st', by simp only [runE, ← hw, hd', hse]; exact e1, e2⟩
       ·rename_i p u hu
        rw [hu] at hse
        obtain ⟨st', e1, e2⟩ := runT_ok hn rest (i + 1) _ _ _ _ _ _ h (st.put o.dst r.1 (p :: u)) (hs.put o.dst r.1 (p :: u) hb20)
        exact ⟨st', by simp only [runE, ← hw, hd', hse]; exact e1, e2⟩
      ·cases h
    ·obtain ⟨st', e1, e2⟩ := runT_ok hn rest (i + 1) _ _ _ _ _ _ h (st.skip o.dst) (hs.skip o.dst hb20)
     exact ⟨st', by simp only [runE, ← hw]; exact e1, e2⟩
   ·cases h
  ·cases h

/-! ### one state knows less than another -/
def subTri (c : Nat) : Tri → Tri → Bool
 | .leaf, _ => true
 | .node v l r, T => match T with
  | .leaf => match v with
   | some _ => false
   | none => match subTri c l .leaf with
    | true => subTri c r .leaf
    | false => false
  | .node v' l' r' => match (match v with
    | none => true
    | some x => match v' with
     | some y => eqVb x y && x.bel c
     | none => false) with
   | true => match subTri c l l' with
    | true => subTri c r r'
    | false => false
   | false => false
theorem subTri_ok {c : Nat} : ∀ (T S : Tri), subTri c T S = true → ∀ i v, tget T i = some v → tget S i = some v ∧ v.bel c = true
 | .leaf, S, _, i, v, h => by simp [tget] at h
 | .node x l r, S, hs, i, v, h => by
  cases S with
  | leaf =>
   simp only [subTri] at hs
   cases x with
   | some _ => simp at hs
   | none =>
    simp only at hs
    split at hs
    ·rename_i hl
     cases i with
     | zero => simp [tget] at h
     | succ i =>
      simp only [tget] at h
      split at h
      ·have := subTri_ok l .leaf hl _ v h; simp [tget] at this
      ·have := subTri_ok r .leaf hs _ v h; simp [tget] at this
    ·cases hs
  | node y l' r' =>
   simp only [subTri] at hs
   split at hs
   ·rename_i hx
    split at hs
    ·rename_i hl
     cases i with
     | zero =>
      simp only [tget] at h ⊢
      subst h
      simp only at hx
      cases y with
      | none => simp at hx
      | some y =>
       simp only [Bool.and_eq_true] at hx
       have e := eqVb_ok _ _ hx.1
       subst e
       exact ⟨rfl, hx.2⟩
     | succ i =>
      simp only [tget] at h ⊢
      cases hb : Nat.beq (i % 2) 0 with
      | true => rw [hb] at h; exact subTri_ok l l' hl _ v h
      | false => rw [hb] at h; exact subTri_ok r r' hs _ v h
    ·cases hs
   ·cases hs
def hB (H : List (Nat × Option O)) (c : Nat) : List (Nat × Option O) → Bool
 | [] => true
 | (_, none) :: r => hB H c r
 | (i, some o) :: r => match hvE H i with
  | some o' => match eqOb o o'.calm && o.bel c && Nat.blt i c with
   | true => hB H c r
   | false => false
  | none => false
theorem hB_ok {H : List (Nat × Option O)} {c : Nat} : ∀ {l : List (Nat × Option O)}, hB H c l = true → ∀ i o, (lk l i).getD none = some o → i < c ∧ o.bel c = true ∧ ∃ o', hvE H i = some o' ∧ (o = o' ∨ o = o'.calm)
 | [], _, _, _, h => by simp [lk] at h
 | (j, none) :: r, h, i, o, hl => by
  simp only [hB] at h
  simp only [lk] at hl
  split at hl
  ·cases hl
  ·exact hB_ok h i o hl
 | (j, some q) :: r, h, i, o, hl => by
  simp only [hB] at h
  split at h
  ·rename_i o' ho'
   split at h
   ·rename_i hb
    simp only [Bool.and_eq_true] at hb
    simp only [lk] at hl
    split at hl
    ·rename_i e
     simp at hl
     subst hl e
     exact ⟨Nat.le_of_ble_eq_true hb.2, hb.1.2, o', ho', .inr (eqOb_ok _ _ hb.1.1)⟩
    ·exact hB_ok h i o hl
   ·cases h
  ·cases h
def subB (s t : ES) : Bool := Nat.beq t.n s.n && subTri (64 * t.c) t.env s.env && hB s.H (64 * t.c) t.H
theorem subB_weak {cx : Cx} {k : Nat} (hcx : CxOk cx k) {s t : ES} (hk : k ≤ 64 * t.c) (h : subB s t = true) {a b : St} (ha : Sim s a) (hb : Sim t b) : Weak cx a b := by
 simp only [subB, Bool.and_eq_true] at h
 refine Weak.forget hcx (by rw [hb.n, ha.n]; exact Nat.eq_of_beq_eq_true h.1.1) (by rw [hb.c]; exact hk) (fun i v hv => ?_) (fun i o ho => ?_)
 ·rw [hb.env] at hv
  rw [ha.env, hb.c]
  exact subTri_ok _ _ h.1.2 i v hv
 ·rw [hb.hv, hvE_eq] at ho
  rw [hb.c, ha.hv]
  exact hB_ok h.2 i o ho

/-! ### code -/
def loopE (b : ES → Option (Exit × ES)) : Nat → ES → Option (Exit × ES)
 | 0, _ => none
 | n + 1, st => match b st with
  | some r => match r.1 with
   | .normal => loopE b n r.2
   | e => some (e, r.2)
  | none => none

def tidT (n c : Nat) (env : Tri) (H : List (Nat × Option O)) (m h : Nat) : ES := ⟨n, c + m, env, match Nat.beq H.length h with | true => H | false => tidyH H⟩
def regE (P : Program) (C : Orc) (ops : Array Oper) (d : Bool) (st : ES) : Option (Exit × ES) := match st with
 | ⟨n, c, env, H⟩ => match Nat.ble n 1000000 with
  | true => match runT P C d ops n c 0 ops.toList env H [] with
   | some r => match d with
    | false => some (.normal, tidT n c r.1 r.2.1 ops.size H.length)
    | true => match regOk ops r.2.2 with
     | true => some (.normal, tidT n c r.1 r.2.1 ops.size H.length)
     | false => none
   | none => none
  | false => none
/-- The rest of a round behind its step over the map. -/
def afterE (P : Program) (C : Orc) (rest : ES → Option (Exit × ES)) (o : Oper) (ops : List Oper) (s : ES) : Option (Exit × ES) := match s with
 | ⟨n, c, env, H⟩ => match runT P C false ⟨o :: ops⟩ n c 1 ops env H [] with
  | some r => rest (tidT n c r.1 r.2.1 (ops.length + 1) H.length)
  | none => none
def withIt (st : ES) (id : Nat) (m : V) (n l : Nat) : ES := match st with
 | ⟨n', c, env, H⟩ => ⟨n', c, env, setA id (some (.miter m n none (.cnt l))) H⟩
def putT (s : ES) (d : Option Nat) (x : V) (u : List (Nat × Option O)) : ES := match s with
 | ⟨n, c, env, H⟩ => ⟨n, c, consT d x env, appH u H⟩
/-- A loop over a map whose rounds change nothing that was known ahead of it. -/
def mapLoopE (P : Program) (C : Orc) (k : Nat) (rest : ES → Option (Exit × ES)) (o : Oper) (ops : List Oper) (it : Operand) (st : ES) : Option (Exit × ES) :=
 match evF1 st.env it with
 | .ptr id 0 => match hvE st.H id with
  | some (.miter m n none lf) => match mapOf (hvE st.H) m with
   | some (ks, vs) =>
    match Nat.beq ks.length n && Nat.beq vs.length n && dstB o.dst st.n && Nat.ble st.n 1000000 && Nat.ble k (64 * st.c) && !hasN m.ids id &&
     allN (fun l => allN (fun j => match ks[j]?, vs[j]? with
      | some kk, some v => match afterE P C rest o ops (putT (withIt st id m n (l + 1)) o.dst (.tup [.d (.bool true), .d kk, v]) [(id, some (.miter m n (some j) (.cnt l)))]) with
       | some (.normal, s) => subB s (withIt st id m n l)
       | _ => false
      | _, _ => false) (countN 0 n)) (countN 0 (lf.num n)) with
    | true => match afterE P C rest o ops (putT (withIt st id m n 0) o.dst (.tup [.d (.bool false)]) []) with
     | some (.normal, _) => none
     | r => r
    | false => none
   | none => none
  | _ => none
 | _ => none

def isNext (o : Oper) : Option Operand := match o.op, o.guard with
 | .next it false, none => some it
 | _, _ => none
def headOf : Code → Option (Oper × List Oper × Operand)
 | .seq (.region _ ⟨o :: ops⟩ false) _ => match isNext o with
  | some it => some (o, ops, it)
  | none => none
 | _ => none
/-- Code, run; and what comes behind the first part of a sequence, run. -/
def codeE2 (P : Program) (C : Orc) (L k : Nat) : Code → (ES → Option (Exit × ES)) × (ES → Option (Exit × ES))
 | .skip => (fun st => some (.normal, st), fun _ => none)
 | .label _ => (fun st => some (.normal, st), fun _ => none)
 | .region _ ops d => (fun st => regE P C ops d st, fun _ => none)
 | .seq x y => (fun st => match (codeE2 P C L k x).1 st with
  | some r => match r.1 with
   | .normal => (codeE2 P C L k y).1 r.2
   | e => some (e, r.2)
  | none => none, (codeE2 P C L k y).1)
 | .cond c x y => (fun st => match evF1 st.env c with
  | .d (.bool true) => (codeE2 P C L k x).1 st
  | .d (.bool false) => (codeE2 P C L k y).1 st
  | _ => none, fun _ => none)
 | .block id c => (fun st => match (codeE2 P C L k c).1 st with
  | some r => match r.1 with
   | .exit j => match Nat.beq j id with
    | true => some (.normal, r.2)
    | false => some (.exit j, r.2)
   | e => some (e, r.2)
  | none => none, fun _ => none)
 | .loop c => (fun st => match headOf c with
  | some (o, ops, it) => mapLoopE P C k (codeE2 P C L k c).2 o ops it st
  | none => loopE (codeE2 P C L k c).1 L st, fun _ => none)
 | .exit id => (fun st => some (.exit id, st), fun _ => none)
 | .ret => (fun st => some (.ret, st), fun _ => none)
 | _ => (fun _ => none, fun _ => none)
def codeE (P : Program) (C : Orc) (L k : Nat) (c : Code) (st : ES) : Option (Exit × ES) := (codeE2 P C L k c).1 st

section
variable {P : Program} {C : Orc} {cx : Cx}
/-- A run of code is sound. -/
def Snd (P : Program) (cx : Cx) (c : Code) (b : ES → Option (Exit × ES)) : Prop := ∀ s e s', b s = some (e, s') → ∀ st, Sim s st → ∀ Q : Exit → St → Prop, (∀ st', Sim s' st' → Q e st') → AW P cx c Q st

theorem tidT_sim {n c : Nat} {env : Tri} {H : List (Nat × Option O)} {st : St} (h : Sim ⟨n, c, env, H⟩ st) (m l : Nat) : Sim (tidT n c env H m l) (st.bump m) := by
 refine ⟨h.n, by simp only [tidT, St.bump, h.c], fun i => ?_, h.env⟩
 have e : (st.bump m).hv i = st.hv i := rfl
 rw [e, h.hv]
 simp only [tidT]
 split
 ·rfl
 ·rw [hvE_eq, hvE_eq, lk_tidyH]

theorem loopE_sound {c : Code} {b : ES → Option (Exit × ES)} (hb : Snd P cx c b) : ∀ n, Snd P cx (.loop c) (loopE b n) := by
 intro n s e s' h st hs Q hq
 refine AW.loop (fun m st => ∃ s, loopE b m s = some (e, s') ∧ Sim s st) n ⟨s, h, hs⟩ ?_
 rintro m st ⟨s, hm, hs⟩
 cases m with
 | zero => simp [loopE] at hm
 | succ m =>
  simp only [loopE] at hm
  split at hm
  ·rename_i r hr
   have hr' : b s = some (r.1, r.2) := hr
   split at hm
   ·rename_i hn
    rw [hn] at hr'
    exact hb _ _ _ hr' st hs _ fun st' hst' => ⟨m, by omega, r.2, hm, hst'⟩
   ·rename_i hn
    injection hm with hm
    injection hm with h1 h2
    subst h1 h2
    refine hb _ _ _ hr' st hs _ fun st' hst' => ?_
    have hq' := hq st' hst'
    cases hr1 : r.1 with
    | normal => exact absurd hr1 hn
    | _ => rw [hr1] at hq'; exact hq'
  ·cases hm

theorem isNext_ok {o : Oper} {it : Operand} (h : isNext o = some it) : o.op = .next it false ∧ o.guard = none := by
 unfold isNext at h
 split at h
 ·rename_i h1 h2; cases h; exact ⟨h1, h2⟩
 ·cases h

theorem withIt_hv (st : ES) (id : Nat) (m : V) (n l i : Nat) : hvE (withIt st id m n l).H i = if id = i then some (.miter m n none (.cnt l)) else hvE st.H i := by
 simp only [withIt, hvE_eq, lk_setA]
 split <;> rfl

theorem mapLoopE_sound (hC : OrcOk P C) {k : Nat} (hcx : CxOk cx k) {rest : Code} {b : ES → Option (Exit × ES)} (hb : Snd P cx rest b)
  {rid : Nat} {o : Oper} {ops : List Oper} {it : Operand} (hit : isNext o = some it) : Snd P cx (.loop (.seq (.region rid ⟨o :: ops⟩ false) rest)) (mapLoopE P C k b o ops it) := by
 intro s0 e s1 h st hsim Q hq
 obtain ⟨hop, hgd⟩ := isNext_ok hit
 unfold mapLoopE at h
 split at h
 case h_2 => cases h
 rename_i id hev
 split at h
 case h_2 => cases h
 rename_i m n lf hid
 split at h
 case h_2 => cases h
 rename_i ks vs hm
 split at h
 case h_2 => cases h
 rename_i hc
 simp only [Bool.and_eq_true, Bool.not_eq_true'] at hc
 obtain ⟨⟨⟨⟨⟨⟨c1, c2⟩, c3⟩, c9⟩, c4⟩, c5⟩, c6⟩ := hc
 obtain ⟨left, hleft⟩ : ∃ left, left = lf.num n := ⟨_, rfl⟩
 rw [← hleft] at c6
 have hk : k ≤ 64 * s0.c := Nat.le_of_ble_eq_true c4
 have hn6 : s0.n ≤ 1000000 := Nat.le_of_ble_eq_true c9
 have hb20 : ∀ q : Nat, o.dst = some q → q + 2 ≤ 2 ^ 20 := fun q hq => by
  have h1 := dstB_ok c3 q hq
  have h2 : (2 : Nat) ^ 20 = 1048576 := rfl
  rw [h2]
  omega
 -- the abstract states of the loop's head
 let T : Nat → St := fun l => { st with H := setA id (some (.miter m n none (.cnt l))) st.H }
 have hT : ∀ l, Sim (withIt s0 id m n l) (T l) := by
  intro l
  refine ⟨hsim.n, hsim.c, fun i => ?_, hsim.env⟩
  rw [withIt_hv]
  simp only [T, St.hv, lk_setA]
  split
  ·rfl
  ·exact hsim.hv i
 have hm' : ∀ l, mapOf (T l).hv m = some (ks, vs) := by
  intro l
  rw [← hm]
  refine mapOf_congr fun i hi => ?_
  rw [(hT l).hv, withIt_hv, if_neg]
  rintro rfl
  rw [hasN_mem hi] at c5
  cases c5
 have hrun : ∀ (s2 : ES) (st2 : St), Sim s2 st2 → s2.n = s0.n → ∀ (Q1 : Exit → St → Prop) (e1 : Exit) (s3 : ES), afterE P C b o ops s2 = some (e1, s3) → (∀ st', Sim s3 st' → Q1 e1 st') → aRunO P ⟨o :: ops⟩ 1 ops st2 fun st' => AW P cx rest Q1 (st'.bump (ops.length + 1)) := by
  intro s2 st2 hs2 hn2 Q1 e1 s3 ha hq1
  obtain ⟨n2, cc2, env2, H2⟩ := s2
  simp only at hn2
  subst hn2
  simp only [afterE] at ha
  split at ha
  ·rename_i r hr
   obtain ⟨st3, e2, e3⟩ := runT_ok hn6 ops 1 _ _ _ _ _ _ (show runT P C false ⟨o :: ops⟩ s0.n cc2 1 ops env2 H2 [] = some (r.1, r.2.1, r.2.2) from hr) st2 hs2
   exact runE_O hC ops 1 st2 [] _ _ e2 _ (hb _ _ _ ha _ (tidT_sim e3 _ _) Q1 hq1)
  ·cases ha
 refine AW.loopS (ι := Nat) T (fun l => l ≤ left) (fun l => l) left (Nat.le_refl _) ?_ ?_
 ·refine Weak.calmAt rfl rfl (fun _ => rfl) fun i => ?_
  simp only [T, St.hv, lk_setA]
  split
  ·rename_i e
   subst e
   have := hsim.hv id
   rw [hid] at this
   exact .inr ⟨_, by simpa [St.hv] using this, by simp only [Option.getD_some, O.calm, hleft]⟩
  ·exact .inl rfl
 ·intro l hl
  refine AW.seq ?_
  refine AW.reg rfl ?_
  have hw : (T l).want ⟨o :: ops⟩ o = some true := by simp only [St.want, hgd]
  simp only [aRunO, hw]
  refine ⟨fun d hd => by have := dstB_ok c3 d hd; show d < st.n; rw [hsim.n]; exact this, ?_⟩
  simp only [aStep, hop]
  have hev' : (T l).ev it = .ptr id 0 := by
   rw [(hT l).evf, ← hev]
   rfl
  rw [hev']
  have hid' : (T l).hv id = some (.miter m n none (.cnt l)) := by rw [(hT l).hv, withIt_hv, if_pos rfl]
  simp only [aNext, hid', hm' l]
  have hsput : ∀ (l : Nat) (x : V) (u : List (Nat × Option O)), Sim (putT (withIt s0 id m n l) o.dst x u) ((T l).put o.dst x u) := by
   intro l x u
   exact (hT l).put o.dst x u hb20
  refine ⟨Nat.eq_of_beq_eq_true c1, Nat.eq_of_beq_eq_true c2, fun h0 => ?_, fun j kk v h0 hkj hvj => ?_⟩
  all_goals simp only [Lf.done, Lf.may] at h0
  ·subst h0
   split at h
   ·cases h
   rename_i hne
   refine hrun _ _ (hsput 0 _ _) rfl (Then (fun st' => ∃ j, j ≤ left ∧ j < 0 ∧ Weak cx st' (T j)) Q) e s1 h fun st' hst' => ?_
   cases e with
   | normal => exact absurd h (hne _)
   | _ => exact hq st' hst'
  ·have hjn : j < n := by
    have : j < ks.length := by
     rcases Nat.lt_or_ge j ks.length with h' | h'
     ·exact h'
     ·simp [List.getElem?_eq_none h'] at hkj
    have := Nat.eq_of_beq_eq_true c1
    omega
   obtain ⟨l', rfl⟩ : ∃ l', l = l' + 1 := ⟨l - 1, by omega⟩
   have hm1 := countN_get left 0 l' (by omega)
   rw [Nat.zero_add] at hm1
   have c7 := allN_ok c6 l' (List.mem_of_getElem? hm1)
   have hm2 := countN_get n 0 j hjn
   rw [Nat.zero_add] at hm2
   have c8 := allN_ok c7 j (List.mem_of_getElem? hm2)
   rw [hkj, hvj] at c8
   simp only at c8
   split at c8
   ·rename_i s2 hs2
    refine hrun _ _ (hsput (l' + 1) _ _) rfl (Then (fun st' => ∃ j, j ≤ left ∧ j < l' + 1 ∧ Weak cx st' (T j)) Q) .normal s2 hs2 fun st' hst' => ?_
    exact ⟨l', by omega, by omega, subB_weak (t := withIt s0 id m n l') hcx hk c8 hst' (hT l')⟩
   ·cases c8

theorem headOf_ok {c : Code} {o : Oper} {ops : List Oper} {it : Operand} (h : headOf c = some (o, ops, it)) : ∃ rid rest, c = .seq (.region rid ⟨o :: ops⟩ false) rest ∧ isNext o = some it := by
 unfold headOf at h
 split at h
 ·rename_i rid o' ops' rest
  split at h
  ·rename_i it' hit
   injection h with h
   injection h with h1 h2
   injection h2 with h2 h3
   subst h1 h2 h3
   exact ⟨rid, rest, rfl, hit⟩
  ·cases h
 ·cases h

theorem codeE2_sound (hC : OrcOk P C) (hm : P.follows .mixedOrders = true) (L : Nat) {k : Nat} (hcx : CxOk cx k) : ∀ (c : Code), Snd P cx c (codeE2 P C L k c).1 ∧ (∀ x y, c = .seq x y → Snd P cx y (codeE2 P C L k c).2)
 | .skip => ⟨fun s e s' h st hs Q hq => by
  simp only [codeE2] at h
  injection h with h; injection h with h1 h2; subst h1 h2
  exact AW.skip (hq st hs), fun _ _ h => by cases h⟩
 | .label _ => ⟨fun s e s' h st hs Q hq => by
  simp only [codeE2] at h
  injection h with h; injection h with h1 h2; subst h1 h2
  exact AW.label (hq st hs), fun _ _ h => by cases h⟩
 | .exit _ => ⟨fun s e s' h st hs Q hq => by
  simp only [codeE2] at h
  injection h with h; injection h with h1 h2; subst h1 h2
  exact AW.exit (hq st hs), fun _ _ h => by cases h⟩
 | .ret => ⟨fun s e s' h st hs Q hq => by
  simp only [codeE2] at h
  injection h with h; injection h with h1 h2; subst h1 h2
  exact AW.ret (hq st hs), fun _ _ h => by cases h⟩
 | .region id ⟨l⟩ d => ⟨fun s e s' h st hs Q hq => by
  simp only [codeE2] at h
  obtain ⟨n, c, env, H⟩ := s
  simp only [regE] at h
  split at h
  ·rename_i hn
   have hn := Nat.le_of_ble_eq_true hn
   split at h
   ·rename_i r hrun
    obtain ⟨st3, e2, e3⟩ := runT_ok hn l 0 _ _ _ _ _ _ (show runT P C d ⟨l⟩ n c 0 l env H [] = some (r.1, r.2.1, r.2.2) from hrun) st hs
    cases d with
    | false =>
     simp only at h
     injection h with h; injection h with h1 h2; subst h1 h2
     refine AW.reg (n := l.length) rfl ?_
     exact runE_O hC l 0 _ [] _ _ e2 _ (hq _ (tidT_sim e3 _ _))
    | true =>
     simp only at h
     split at h
     ·rename_i hk
      injection h with h; injection h with h1 h2; subst h1 h2
      refine AW.regD (n := l.length) hm rfl ?_
      exact runE_T hC l 0 _ [] _ _ e2 _ ⟨hk, hq _ (tidT_sim e3 _ _)⟩
     ·cases h
   ·cases h
  ·(cases h), fun _ _ h => by cases h⟩
 | .seq x y => by
  have hy := (codeE2_sound hC hm L hcx y).1
  refine ⟨fun s e s' h st hs Q hq => ?_, fun x' y' he => ?_⟩
  ·simp only [codeE2] at h
   refine AW.seq ?_
   split at h
   ·rename_i r hr
    have hr' : (codeE2 P C L k x).1 s = some (r.1, r.2) := hr
    split at h
    ·rename_i hn
     rw [hn] at hr'
     exact (codeE2_sound hC hm L hcx x).1 _ _ _ hr' st hs _ fun st' hst' => hy _ _ _ h st' hst' Q hq
    ·rename_i hn
     injection h with h
     injection h with h1 h2
     subst h1 h2
     refine (codeE2_sound hC hm L hcx x).1 _ _ _ hr' st hs _ fun st' hst' => ?_
     have hq' := hq st' hst'
     cases hr1 : r.1 with
     | normal => exact absurd hr1 hn
     | _ => rw [hr1] at hq'; exact hq'
   ·cases h
  ·cases he
   exact hy
 | .cond c x y => ⟨fun s e s' h st hs Q hq => by
  simp only [codeE2] at h
  have hev : st.ev c = evF1 s.env c := by rw [hs.evf]
  split at h
  ·rename_i hc
   exact AW.condT (hev.trans hc) rfl ((codeE2_sound hC hm L hcx x).1 _ _ _ h st hs Q hq)
  ·rename_i hc
   exact AW.condF (hev.trans hc) rfl ((codeE2_sound hC hm L hcx y).1 _ _ _ h st hs Q hq)
  ·(cases h), fun _ _ h => by cases h⟩
 | .block id c => ⟨fun s e s' h st hs Q hq => by
  simp only [codeE2] at h
  refine AW.block ?_
  split at h
  ·rename_i r hr
   have hr' : (codeE2 P C L k c).1 s = some (r.1, r.2) := hr
   split at h
   ·rename_i j hj
    rw [hj] at hr'
    refine (codeE2_sound hC hm L hcx c).1 _ _ _ hr' st hs _ fun st' hst' => ?_
    simp only [InBlock]
    split at h
    ·rename_i hj2
     injection h with h; injection h with h1 h2; subst h1 h2
     rw [if_pos (Nat.eq_of_beq_eq_true hj2)]
     exact hq st' hst'
    ·rename_i hj2
     injection h with h; injection h with h1 h2; subst h1 h2
     rw [if_neg (Nat.ne_of_beq_eq_false hj2)]
     exact hq st' hst'
   ·rename_i hn
    injection h with h
    injection h with h1 h2
    subst h1 h2
    refine (codeE2_sound hC hm L hcx c).1 _ _ _ hr' st hs _ fun st' hst' => ?_
    have hq' := hq st' hst'
    cases hr1 : r.1 with
    | exit j => exact absurd hr1 (hn j)
    | _ => rw [hr1] at hq'; exact hq'
  ·(cases h), fun _ _ h => by cases h⟩
 | .loop c => ⟨fun s e s' h st hs Q hq => by
  have ih := codeE2_sound hC hm L hcx c
  simp only [codeE2] at h
  split at h
  ·rename_i o ops it hh
   obtain ⟨rid, rest, hc, hit⟩ := headOf_ok hh
   subst hc
   exact mapLoopE_sound hC hcx (ih.2 _ _ rfl) hit _ _ _ h st hs Q hq
  ·exact loopE_sound ih.1 L _ _ _ h st hs Q hq, fun _ _ h => by cases h⟩
 | .rangeFunc .. => ⟨fun s e s' h => by simp [codeE2] at h, fun _ _ h => by cases h⟩
 | .scope .. => ⟨fun s e s' h => by simp [codeE2] at h, fun _ _ h => by cases h⟩
 | .goto .. => ⟨fun s e s' h => by simp [codeE2] at h, fun _ _ h => by cases h⟩
 | .refuse .. => ⟨fun s e s' h => by simp [codeE2] at h, fun _ _ h => by cases h⟩
theorem codeE_sound (hC : OrcOk P C) (hm : P.follows .mixedOrders = true) (L : Nat) {k : Nat} (hcx : CxOk cx k) (c : Code) : Snd P cx c (codeE P C L k c) := (codeE2_sound hC hm L hcx c).1
end

/-! ### calls -/
def O.ids : O → List Nat
 | .box _ vs => idsL vs
 | .map _ vs => idsL vs
 | .vec _ _ xs => idsL xs
 | .miter x _ _ _ => x.ids
 | .dead => []
/-- The objects that are met from some. -/
def reach (hv : Nat → Option O) : Nat → List Nat → List Nat → List Nat
 | 0, _, seen => seen
 | _ + 1, [], seen => seen
 | n + 1, id :: r, seen => match hasN seen id with
  | true => reach hv n r seen
  | false => match hv id with
   | some o => reach hv n (o.ids ++ r) (seen ++ [id])
   | none => reach hv n r seen

mutual
theorem ren_back {g r : Nat → Nat} : ∀ (x : V), (∀ i ∈ x.ids, g (r i) = i) → (x.ren r).ren g = x
 | .top, _ => rfl
 | .k _, _ => rfl
 | .d _, _ => rfl
 | .nils, _ => rfl
 | .agg cs, h => by simp only [V.ren]; rw [renL_back cs (by simpa only [V.ids] using h)]
 | .tup cs, h => by simp only [V.ren]; rw [renL_back cs (by simpa only [V.ids] using h)]
 | .fn f cs, h => by simp only [V.ren]; rw [renL_back cs (by simpa only [V.ids] using h)]
 | .ptr id j, h => by simp only [V.ren]; rw [h id (by simp [V.ids])]
 | .pe id i j, h => by simp only [V.ren]; rw [h id (by simp [V.ids])]
 | .slr id lo n, h => by simp only [V.ren]; rw [h id (by simp [V.ids])]
 | .mpr id, h => by simp only [V.ren]; rw [h id (by simp [V.ids])]
theorem renL_back {g r : Nat → Nat} : ∀ (xs : List V), (∀ i ∈ idsL xs, g (r i) = i) → renL g (renL r xs) = xs
 | [], _ => rfl
 | x :: xs, h => by
  simp only [idsL, List.mem_append] at h
  simp only [renL]
  rw [ren_back x (fun i hi => h i (.inl hi)), renL_back xs (fun i hi => h i (.inr hi))]
end
theorem O.ren_back {g r : Nat → Nat} (o : O) (h : ∀ i ∈ o.ids, g (r i) = i) : (o.ren r).ren g = o := by
 cases o with
 | box e vs => simp only [O.ren]; rw [renL_back vs h]
 | map ks vs => simp only [O.ren]; rw [renL_back vs h]
 | vec e s xs => simp only [O.ren]; rw [renL_back xs h]
 | miter x n cur left => simp only [O.ren]; rw [Go.AX.ren_back x h]
 | dead => rfl

def liveAt (hv : Nat → Option O) (id : Nat) : Bool := match hv id with
 | some .dead => false
 | some _ => true
 | none => false
theorem liveAt_ok {hv : Nat → Option O} {id : Nat} (h : liveAt hv id = true) : ∃ o, hv id = some o ∧ o ≠ .dead := by
 unfold liveAt at h
 split at h
 ·cases h
 ·rename_i o hne ho; exact ⟨o, ho, hne⟩
 ·cases h
/-- The end of a body: what is handed back, and the objects behind it. 'z': what is new is data from now on. -/
def finE (P : Program) (fn : Func) (k : Nat) (z : Bool) (hv : Nat → Option O) (ev : Operand → V) : Option (V × List O) :=
 match resL P hv ev fn.results.toList with
 | none => none
 | some l =>
  let live := allN (liveAt hv) (countN 0 k)
  let M := match z && live with
   | true => countN 0 k
   | false => countN 0 k ++ filN k (reach hv 100000 (countN 0 k ++ (resV l).ids) [])
  let keep : Nat → Bool := match live with
   | true => hasN M
   | false => fun _ => true
  let x := frz hv keep (resV l)
  let os := M.map fun id => match hv id with
   | some o => o.frz hv keep
   | none => .dead
  match nodupN M && allN (hasN M) x.ids && os.all (fun o => allN (hasN M) o.ids) && (x.ren (idx M)).bel M.length && os.all (fun o => (o.ren (idx M)).bel M.length) with
  | true => some (x.ren (idx M), os.map (O.ren (idx M)))
  | false => none

theorem frz_dead {hv : Nat → Option O} {keep : Nat → Bool} {o : O} : o.frz hv keep = .dead ↔ o = .dead := by
 cases o <;> simp [O.frz]

theorem finE_ok {P : Program} {fn : Func} {k : Nat} {z : Bool} {st : St} {x : V} {os : List O} (h : finE P fn k z st.hv st.ev = some (x, os)) : Fin P fn k x os st := by
 unfold finE at h
 split at h
 ·cases h
 rename_i l hl
 simp only at h
 have hM : ∃ r, (match z && allN (liveAt st.hv) (countN 0 k) with
   | true => countN 0 k
   | false => countN 0 k ++ filN k (reach st.hv 100000 (countN 0 k ++ (resV l).ids) [])) = countN 0 k ++ r := by
  split
  ·exact ⟨[], by simp⟩
  ·exact ⟨_, rfl⟩
 generalize (match z && allN (liveAt st.hv) (countN 0 k) with
   | true => countN 0 k
   | false => countN 0 k ++ filN k (reach st.hv 100000 (countN 0 k ++ (resV l).ids) [])) = M at h hM
 obtain ⟨r, hM⟩ := hM
 have hkeep : (∀ i, hasN M i = true → (match allN (liveAt st.hv) (countN 0 k) with
   | true => hasN M
   | false => fun _ => true : Nat → Bool) i = true) ∧ ((∀ i, i < k → liveAt st.hv i = true) ∨ ∀ i, (match allN (liveAt st.hv) (countN 0 k) with
   | true => hasN M
   | false => fun _ => true : Nat → Bool) i = true) := by
  cases hlive : allN (liveAt st.hv) (countN 0 k) with
  | true =>
   refine ⟨fun i hi => hi, .inl fun i hi => ?_⟩
   have hm := countN_get k 0 i hi
   rw [Nat.zero_add] at hm
   exact allN_ok hlive i (List.mem_of_getElem? hm)
  | false => exact ⟨fun _ _ => rfl, .inr fun _ => rfl⟩
 generalize (match allN (liveAt st.hv) (countN 0 k) with
   | true => hasN M
   | false => fun _ => true : Nat → Bool) = keep at h hkeep
 split at h
 case h_2 => cases h
 rename_i hc
 simp only [Bool.and_eq_true] at hc
 obtain ⟨⟨⟨⟨c2, c3⟩, c4⟩, c5⟩, c6⟩ := hc
 injection h with h
 injection h with h1 h2
 subst h1 h2
 have gr : ∀ i, hasN M i = true → (fun i => M.getD i 0) (idx M i) = i := fun i hi => by
  show M.getD (idx M i) 0 = i
  rw [List.getD_eq_getElem?_getD, idx_get hi]; rfl
 have gk : ∀ i, i < k → M.getD i 0 = i := by
  intro i hi
  have hm := countN_get k 0 i hi
  rw [Nat.zero_add] at hm
  rw [hM, List.getD_eq_getElem?_getD, List.getElem?_append_left (by rw [countN_length]; exact hi), hm]
  rfl
 have hlen : k ≤ M.length := by rw [hM]; simp [countN_length]
 have back : ∀ (i : Nat) (o : O), hvL ((M.map fun id => match st.hv id with
   | some o => o.frz st.hv keep
   | none => .dead).map (O.ren (idx M))) i = some o → ∃ id q, M[i]? = some id ∧ ∃ o', st.hv id = some o' ∧ q = o'.frz st.hv keep ∧ o = q.ren (idx M) ∧ (M.map fun id => match st.hv id with
   | some o => o.frz st.hv keep
   | none => .dead)[i]? = some q := by
  intro i o hi
  obtain ⟨hi, hne⟩ := hvL_get hi
  rw [List.getElem?_map] at hi
  cases hq : (M.map fun id => match st.hv id with
   | some o => o.frz st.hv keep
   | none => .dead)[i]? with
  | none => rw [hq] at hi; cases hi
  | some q =>
   rw [hq] at hi
   simp only [Option.map_some, Option.some.injEq] at hi
   rw [List.getElem?_map] at hq
   cases hMi : M[i]? with
   | none => rw [hMi] at hq; cases hq
   | some id =>
    rw [hMi] at hq
    simp only [Option.map_some, Option.some.injEq] at hq
    cases ho : st.hv id with
    | none =>
     rw [ho] at hq
     simp only at hq
     subst hq
     exact absurd hi.symm hne
    | some o' =>
     rw [ho] at hq
     exact ⟨id, q, rfl, o', ho, hq.symm, hi.symm, rfl⟩
 refine ⟨fun i => M.getD i 0, keep, l, hl, ?_, ?_, ?_, ?_, ?_, ?_, ?_, ?_⟩
 ·exact (ren_back _ fun i hi => gr i (allN_ok c3 i hi)).symm
 ·intro i o hi
  obtain ⟨id, q, e1, o', e2, e3, e4, e5⟩ := back i o hi
  have e6 : M.getD i 0 = id := by rw [List.getD_eq_getElem?_getD, e1]; rfl
  simp only [e6]
  refine ⟨hkeep.1 id (hasN_mem (List.mem_of_getElem? e1)), o', e2, ?_⟩
  rw [e4, ← e3]
  refine (O.ren_back q fun j hj => gr j ?_).symm
  exact allN_ok (List.all_eq_true.1 c4 q (List.mem_of_getElem? e5)) j hj
 ·rcases hkeep.2 with hs | hs
  ·refine .inl fun i hi => ?_
   have hMi : M[i]? = some i := by
    have := gk i hi
    rw [List.getD_eq_getElem?_getD, List.getElem?_eq_getElem (by omega)] at this
    rw [List.getElem?_eq_getElem (by omega)]
    simpa using this
   obtain ⟨o', ho, hdead⟩ := liveAt_ok (hs i hi)
   refine ⟨(o'.frz st.hv keep).ren (idx M), hvL_of ?_ ?_⟩
   ·rw [List.getElem?_map, List.getElem?_map, hMi]
    simp [ho]
   ·intro e; exact hdead (frz_dead.1 (ren_dead.1 e))
  ·exact .inr hs
 ·intro i j hi hj e
  simp only [List.length_map] at hi hj
  simp only [List.getD_eq_getElem?_getD, List.getElem?_eq_getElem hi, List.getElem?_eq_getElem hj, Option.getD_some] at e
  exact (List.getElem_inj (nodupN_ok c2)).1 e
 ·exact gk
 ·simpa using hlen
 ·simpa using c5
 ·rw [List.all_eq_true] at c6 ⊢
  intro o ho
  obtain ⟨q, hq, rfl⟩ := List.mem_map.1 ho
  simpa using c6 q hq

def envT : Nat → List V → Tri → Tri
 | _, [], T => T
 | i, x :: xs, T => envT (i + 1) xs (tset 20 T i x)
theorem envT_get : ∀ (xs : List V) (i : Nat) (T : Tri), i + xs.length ≤ 1000000 → ∀ t, tget (envT i xs T) t = if i ≤ t ∧ t < i + xs.length then xs[t - i]? else tget T t
 | [], i, T, _, t => by simp only [envT, List.length_nil]; rw [if_neg (by omega)]
 | x :: xs, i, T, h, t => by
  simp only [List.length_cons] at h
  simp only [envT]
  have hi : i + 2 ≤ 2 ^ 20 := by
   have h2 : (2 : Nat) ^ 20 = 1048576 := rfl
   rw [h2]
   omega
  rw [envT_get xs (i + 1) _ (by omega) t, tget_tset 20 T i x hi t]
  by_cases h1 : i + 1 ≤ t ∧ t < i + 1 + xs.length
  ·rw [if_pos h1, if_pos (by simp; omega)]
   have : t - i = (t - (i + 1)) + 1 := by omega
   rw [this, List.getElem?_cons_succ]
  ·rw [if_neg h1]
   by_cases h2 : i = t
   ·subst h2; simp
   ·rw [if_neg h2, if_neg (by simp; omega)]
/-- The state at a function's start. -/
def entryE (n : Nat) (as : List V) (os : List O) : ES := ⟨n, os.length, envT 0 as .leaf, enumL 0 (os.map some)⟩
theorem entry_sim {n : Nat} {as : List V} {os : List O} (h : as.length ≤ 1000000) : Sim (entryE n as os) (entry n as os) := by
 refine ⟨rfl, rfl, fun i => ?_, fun t => ?_⟩
 ·simp only [entryE, hvE_eq]
  rfl
 ·simp only [entry, entryE, lk_enumL, Nat.zero_le, if_true, Nat.sub_zero]
  rw [envT_get as 0 .leaf (by omega) t]
  by_cases h1 : t < as.length
  ·rw [if_pos (by omega)]; simp
  ·rw [if_neg (by omega), List.getElem?_eq_none (by omega)]; rfl
/-- The body of a function, run. -/
def bodyE (P : Program) (C : Orc) (Z : FuncId → Bool) (L : Nat) (f : FuncId) (as : List V) (os : List O) : Option (V × List O) :=
 match P.funcs[f]? with
 | none => none
 | some fn => match fn.body with
  | none => none
  | some c => match !(fn.name == "runtime.NumGoroutine") && Nat.ble as.length 1000000 with
   | false => none
   | true => match codeE P C L os.length c (entryE (as.length + (fn.ntmps - as.length)) as os) with
    | some r => match r.1 with
     | .normal => finE P fn os.length (Z f) (hvE r.2.H) (evF1 r.2.env)
     | .ret => finE P fn os.length (Z f) (hvE r.2.H) (evF1 r.2.env)
     | _ => none
    | none => none

theorem bodyE_does {P : Program} {C : Orc} (hC : OrcOk P C) (hm : P.follows .mixedOrders = true) {Z : FuncId → Bool} {L : Nat} {f : FuncId} {as : List V} {os : List O} {x : V} {os' : List O} (h : bodyE P C Z L f as os = some (x, os')) : Does P f as os x os' := by
 unfold bodyE at h
 split at h
 ·cases h
 rename_i fn hf
 split at h
 ·cases h
 rename_i c hc
 split at h
 ·cases h
 rename_i hname
 simp only [Bool.and_eq_true, Bool.not_eq_true'] at hname
 refine Does.of_AW hf hc hname.1 rfl fun cx hcx => ?_
 split at h
 ·rename_i r hr
  have hr' : codeE P C L os.length c (entryE (as.length + (fn.ntmps - as.length)) as os) = some (r.1, r.2) := hr
  refine codeE_sound hC hm L hcx c _ _ _ hr' _ (entry_sim (Nat.le_of_ble_eq_true hname.2)) _ fun st' hst' => ?_
  rw [← hst'.hvf, ← hst'.evf] at h
  split at h
  ·rename_i hn; rw [hn]; exact finE_ok h
  ·rename_i hn; rw [hn]; exact finE_ok h
  ·cases h
 ·cases h

/-! ### values written out (so that a call that was run once is found again) -/
section
variable {α : Type}
def fNat (n : Nat) (k : Nat → α) : α := match n with
 | 0 => k 0
 | m + 1 => k (m + 1)
def fInt (n : Int) (k : Int → α) : α := match n with
 | .ofNat m => fNat m fun m => k (.ofNat m)
 | .negSucc m => fNat m fun m => k (.negSucc m)
def fBool (b : Bool) (k : Bool → α) : α := match b with
 | true => k true
 | false => k false
def fKind (x : IntKind) (k : IntKind → α) : α := match x with
 | .i8 => k .i8
 | .i16 => k .i16
 | .i32 => k .i32
 | .i64 => k .i64
 | .u8 => k .u8
 | .u16 => k .u16
 | .u32 => k .u32
 | .u64 => k .u64
def fByte (b : UInt8) (k : UInt8 → α) : α := fNat b.toNat fun n => k (UInt8.ofNat n)
def fStr : List UInt8 → (List UInt8 → α) → α
 | [], k => k []
 | b :: r, k => fByte b fun b => fStr r fun r => k (b :: r)
mutual
def fD : D → (D → α) → α
 | .bool b, k => fBool b fun b => k (.bool b)
 | .int i n, k => fKind i fun i => fInt n fun n => k (.int i n)
 | .str s, k => fStr s fun s => k (.str s)
 | .agg xs, k => fDL xs fun xs => k (.agg xs)
 | .sl xs, k => fDL xs fun xs => k (.sl xs)
 | .map a b, k => fDL a fun a => fDL b fun b => k (.map a b)
 | .nilp, k => k .nilp
 | .ptr xs j, k => fDL xs fun xs => fNat j fun j => k (.ptr xs j)
 | .nili, k => k .nili
def fDL : List D → (List D → α) → α
 | [], k => k []
 | x :: xs, k => fD x fun x => fDL xs fun xs => k (x :: xs)
end
mutual
def fV : V → (V → α) → α
 | .top, k => k .top
 | .k v, k => k (.k v)
 | .d x, k => fD x fun x => k (.d x)
 | .nils, k => k .nils
 | .agg xs, k => fVL xs fun xs => k (.agg xs)
 | .tup xs, k => fVL xs fun xs => k (.tup xs)
 | .ptr a b, k => fNat a fun a => fNat b fun b => k (.ptr a b)
 | .pe a b c, k => fNat a fun a => fNat b fun b => fNat c fun c => k (.pe a b c)
 | .slr a b c, k => fNat a fun a => fNat b fun b => fNat c fun c => k (.slr a b c)
 | .mpr a, k => fNat a fun a => k (.mpr a)
 | .fn f xs, k => fNat f fun f => fVL xs fun xs => k (.fn f xs)
def fVL : List V → (List V → α) → α
 | [], k => k []
 | x :: xs, k => fV x fun x => fVL xs fun xs => k (x :: xs)
end
def fO (o : O) (k : O → α) : α := match o with
 | .box e xs => fNat e fun e => fVL xs fun xs => k (.box e xs)
 | .vec e s xs => fNat e fun e => fNat s fun s => fVL xs fun xs => k (.vec e s xs)
 | .map a b => fDL a fun a => fVL b fun b => k (.map a b)
 | .miter x n c l => k (.miter x n c l)
 | .dead => k .dead
def fOL : List O → (List O → α) → α
 | [], k => k []
 | x :: xs, k => fO x fun x => fOL xs fun xs => k (x :: xs)
theorem fNat_eq (n : Nat) (k : Nat → α) : fNat n k = k n := by cases n <;> rfl
theorem fInt_eq (n : Int) (k : Int → α) : fInt n k = k n := by cases n <;> simp only [fInt, fNat_eq]
theorem fBool_eq (n : Bool) (k : Bool → α) : fBool n k = k n := by cases n <;> rfl
theorem fKind_eq (n : IntKind) (k : IntKind → α) : fKind n k = k n := by cases n <;> rfl
theorem fByte_eq (n : UInt8) (k : UInt8 → α) : fByte n k = k n := by simp only [fByte, fNat_eq, UInt8.ofNat_toNat]
theorem fStr_eq : ∀ (s : List UInt8) (k : List UInt8 → α), fStr s k = k s
 | [], _ => rfl
 | b :: r, k => by simp only [fStr, fByte_eq, fStr_eq r]
mutual
theorem fD_eq : ∀ (x : D) (k : D → α), fD x k = k x
 | .bool b, k => by simp only [fD, fBool_eq]
 | .int i n, k => by simp only [fD, fKind_eq, fInt_eq]
 | .str s, k => by simp only [fD, fStr_eq]
 | .agg xs, k => by simp only [fD, fDL_eq xs]
 | .sl xs, k => by simp only [fD, fDL_eq xs]
 | .map a b, k => by simp only [fD, fDL_eq a, fDL_eq b]
 | .nilp, k => by simp only [fD]
 | .ptr xs j, k => by simp only [fD, fDL_eq xs, fNat_eq]
 | .nili, k => by simp only [fD]
theorem fDL_eq : ∀ (x : List D) (k : List D → α), fDL x k = k x
 | [], _ => by simp only [fDL]
 | x :: xs, k => by simp only [fDL, fD_eq x, fDL_eq xs]
end
mutual
theorem fV_eq : ∀ (x : V) (k : V → α), fV x k = k x
 | .top, k => by simp only [fV]
 | .k v, k => by simp only [fV]
 | .d x, k => by simp only [fV, fD_eq]
 | .nils, k => by simp only [fV]
 | .agg xs, k => by simp only [fV, fVL_eq xs]
 | .tup xs, k => by simp only [fV, fVL_eq xs]
 | .ptr a b, k => by simp only [fV, fNat_eq]
 | .pe a b c, k => by simp only [fV, fNat_eq]
 | .slr a b c, k => by simp only [fV, fNat_eq]
 | .mpr a, k => by simp only [fV, fNat_eq]
 | .fn f xs, k => by simp only [fV, fNat_eq, fVL_eq xs]
theorem fVL_eq : ∀ (x : List V) (k : List V → α), fVL x k = k x
 | [], _ => by simp only [fVL]
 | x :: xs, k => by simp only [fVL, fV_eq x, fVL_eq xs]
end
theorem fO_eq (o : O) (k : O → α) : fO o k = k o := by
 cases o <;> simp only [fO, fNat_eq, fVL_eq, fDL_eq]
theorem fOL_eq : ∀ (x : List O) (k : List O → α), fOL x k = k x
 | [], _ => by simp only [fOL]
 | x :: xs, k => by simp only [fOL, fO_eq x, fOL_eq xs]
end
def bodyF (P : Program) (C : Orc) (Z : FuncId → Bool) (L : Nat) (f : FuncId) (as : List V) (os : List O) : Option (V × List O) := match bodyE P C Z L f as os with
 | some r => fV r.1 fun x => fOL r.2 fun os => some (x, os)
 | none => none
theorem bodyF_eq (P : Program) (C : Orc) (Z : FuncId → Bool) (L : Nat) (f : FuncId) (as : List V) (os : List O) : bodyF P C Z L f as os = bodyE P C Z L f as os := by
 unfold bodyF
 split
 ·rename_i r h; simp only [fV_eq, fOL_eq, h]
 ·rename_i h; rw [h]

/-- A call, run in its caller's state. -/
def callE (P : Program) (C : Orc) (Z : FuncId → Bool) (L : Nat) : Orc := fun f as hv n =>
 let R := reach hv 100000 (idsL as) []
 let as' := renL (idx R) as
 let os := R.map fun id => ((hv id).getD (.box 0 [])).ren (idx R)
 match allN (fun id => match hv id with | some o => allN (hasN R) o.ids | none => false) R && nodupN R && allN (hasN R) (idsL as) && as'.all (V.bel R.length) && os.all (O.bel R.length) with
 | true => match (fNat f fun f => fVL as' fun as => fOL os fun os => bodyF P C Z L f as os) with
  | some (x, os') => match Nat.ble R.length os'.length && Nat.ble os'.length (R.length + 64) && x.bel os'.length && os'.all (O.bel os'.length) with
   | true => some (x.ren (gOf R n), updsOf (gOf R n) 0 os', R)
   | false => none
  | none => none
 | false => none

theorem callE_ok {P : Program} {C : Orc} (hC : OrcOk P C) (hm : P.follows .mixedOrders = true) {Z : FuncId → Bool} {L : Nat} : OrcOk P (callE P C Z L) := by
 intro f as hv n x u rd h hv' hagree
 unfold callE at h
 simp only at h
 generalize reach hv 100000 (idsL as) [] = R at h
 split at h
 case h_2 => cases h
 rename_i hc
 simp only [Bool.and_eq_true] at hc
 obtain ⟨⟨⟨⟨c1, c2⟩, c3⟩, c4⟩, c5⟩ := hc
 split at h
 case h_2 => cases h
 rename_i y os' hb
 simp only [fNat_eq, fVL_eq, fOL_eq, bodyF_eq] at hb
 split at h
 case h_2 => cases h
 rename_i hd
 simp only [Bool.and_eq_true] at hd
 obtain ⟨⟨⟨d1, d2⟩, d3⟩, d4⟩ := hd
 injection h with h
 injection h with h1 h2
 injection h2 with h2 h3
 subst h1 h2 h3
 have hdoes := bodyE_does hC hm hb
 have gr : ∀ i, hasN R i = true → gOf R n (idx R i) = i := fun i hi => by simp only [gOf, idx_get hi]
 have hcall := CallStep.of_does hdoes (hv := hv') (nid := n) R (by simp) (nodupN_ok c2) (fun i o ho => by
  rw [List.getElem?_map] at ho
  cases hR : R[i]? with
  | none => rw [hR] at ho; cases ho
  | some id =>
   rw [hR] at ho
   simp only [Option.map_some, Option.some.injEq] at ho
   have hs := allN_ok c1 id (List.mem_of_getElem? hR)
   have e1 : gOf R n i = id := by simp only [gOf, hR]
   rw [e1, hagree id (List.mem_of_getElem? hR)]
   cases hq : hv id with
   | none => rw [hq] at hs; cases hs
   | some q =>
    rw [hq] at ho hs
    simp only [Option.getD_some] at ho
    rw [← ho, O.ren_back q fun j hj => gr j (allN_ok hs j hj)]) (by simpa using Nat.le_of_ble_eq_true d1) (by simpa using Nat.le_of_ble_eq_true d2) (by simpa using c4) (by simpa using c5) d3 d4
 rwa [renL_back as fun i hi => gr i (allN_ok c3 i hi)] at hcall

/-- Calls, run to a depth; what the table knows is taken from it. -/
def evF (P : Program) (T : Orc) (Z : FuncId → Bool) (L : Nat) : Nat → Orc
 | 0 => T
 | n + 1 => fun f as hv w => match T f as hv w with
  | some r => some r
  | none => callE P (evF P T Z L n) Z L f as hv w
theorem evF_ok {P : Program} {T : Orc} (hT : OrcOk P T) (hm : P.follows .mixedOrders = true) {Z : FuncId → Bool} {L : Nat} : ∀ n, OrcOk P (evF P T Z L n)
 | 0 => hT
 | n + 1 => by
  intro f as hv w x u rd h hv' ha
  simp only [evF] at h
  split at h
  ·rename_i r hr
   injection h with h
   subst h
   exact hT _ _ _ _ _ _ _ hr hv' ha
  ·exact callE_ok (evF_ok hT hm n) hm _ _ _ _ _ _ _ h hv' ha

end Go.AX
