/- AX, part 4: operations on abstract values, and that they are sound. -/
import Derived.Test.YtecggjfjafnepaaGreatDoorAx3
import Derived.IntWalk
namespace Go.AX
open Go

structure Res where
 v : V
 upd : List (Nat × Option O)
 ob : Prop
 [dec : Decidable ob]

def app (hv : Nat → Option O) (u : List (Nat × Option O)) : Nat → Option O := fun id => match lk u id with
 | some o => o
 | none => hv id

structure Good (cx : Cx) (hv : Nat → Option O) (σ : Nat → Option Loc) (w : World) (nid : Nat) (x : V) (u : List (Nat × Option O)) (v : Value) (w' : World) (σ' : Nat → Option Loc) : Prop where
 hr : HR cx (app hv u) σ' w'
 only : ∀ id, id ≠ nid → σ' id = σ id
 ext : ∀ id l, σ id = some l → σ' id = some l
 ok : ∀ b, okB cx w hv σ b → okB cx w' (app hv u) σ' b ∧ w'.heap[b]? = w.heap[b]?
 val : RV w' (okB cx w' (app hv u) σ') σ' x v

/-- The same for a window of 64 numbers: n is the window of 64 * n .. 64 * n + 63. -/
structure GoodN (cx : Cx) (hv : Nat → Option O) (σ : Nat → Option Loc) (w : World) (n : Nat) (x : V) (u : List (Nat × Option O)) (v : Value) (w' : World) (σ' : Nat → Option Loc) : Prop where
 hr : HR cx (app hv u) σ' w'
 only : ∀ id, id / 64 ≠ n → σ' id = σ id
 ext : ∀ id l, σ id = some l → σ' id = some l
 ok : ∀ b, okB cx w hv σ b → okB cx w' (app hv u) σ' b ∧ w'.heap[b]? = w.heap[b]?
 val : RV w' (okB cx w' (app hv u) σ') σ' x v
theorem Good.toN {cx : Cx} {hv : Nat → Option O} {σ : Nat → Option Loc} {w : World} {n : Nat} {x : V} {u : List (Nat × Option O)} {v : Value} {w' : World} {σ' : Nat → Option Loc} (g : Good cx hv σ w (64 * n) x u v w' σ') : GoodN cx hv σ w n x u v w' σ' :=
 ⟨g.hr, fun id h => g.only id (by rintro rfl; exact h (by omega)), g.ext, g.ok, g.val⟩

/-- The operation yields the value in the world. -/
def Yields (P : Program) (ρ : Operand → Value) (o : Oper) (w : World) (v : Value) (w' : World) : Prop :=
 (execOp ρ o).run P w = .ok (.value v) w' ∨ ((execOp ρ o).run P w = .ok .skip w' ∧ v = undef)

def Sound (P : Program) (cx : Cx) (hv : Nat → Option O) (σ : Nat → Option Loc) (w : World) (nid : Nat) (ρ : Operand → Value) (o : Oper) (r : Res) : Prop :=
 ∃ v w' σ', Yields P ρ o w v w' ∧ Good cx hv σ w nid r.v r.upd v w' σ'

section
variable {P : Program} {cx : Cx} {hv : Nat → Option O} {σ : Nat → Option Loc} {w : World} {nid : Nat}

theorem app_nil : app hv [] = hv := rfl
theorem app_one (i : Nat) (o : Option O) : app hv [(i, o)] = upd hv i o := by
 funext j
 simp only [app, lk, upd]
 by_cases h : i = j
 ·subst h; simp
 ·rw [if_neg h, if_neg (Ne.symm h)]

theorem Good.pure (h : HR cx hv σ w) {x : V} {v : Value} (r : RV w (okB cx w hv σ) σ x v) : Good cx hv σ w nid x [] v w σ :=
 ⟨h, fun _ _ => rfl, fun _ _ h => h, fun _ hb => ⟨hb, rfl⟩, r⟩

/-- The operation yields a value and leaves the world alone. -/
def SoundV (P : Program) (cx : Cx) (hv : Nat → Option O) (σ : Nat → Option Loc) (w : World) (ρ : Operand → Value) (o : Oper) (r : Res) : Prop :=
 ∃ v, (execOp ρ o).run P w = .ok (.value v) w ∧ r.upd = [] ∧ RV w (okB cx w hv σ) σ r.v v
theorem soundV_value {ρ : Operand → Value} {o : Oper} {r : Res} {v : Value} (_ : HR cx hv σ w) (hu : r.upd = []) (hrun : (execOp ρ o).run P w = .ok (.value v) w) (hr : RV w (okB cx w hv σ) σ r.v v) : SoundV P cx hv σ w ρ o r :=
 ⟨v, hrun, hu, hr⟩
theorem SoundV.sound {ρ : Operand → Value} {o : Oper} {r : Res} (h : HR cx hv σ w) (hs : SoundV P cx hv σ w ρ o r) : Sound P cx hv σ w nid ρ o r := by
 obtain ⟨v, hrun, hu, hr⟩ := hs
 exact ⟨v, w, σ, .inl hrun, by rw [hu]; exact Good.pure h hr⟩
/-- What the operation's own function must give. -/
theorem sound_value {ρ : Operand → Value} {o : Oper} {r : Res} {v : Value} (h : HR cx hv σ w) (hu : r.upd = []) (hrun : (execOp ρ o).run P w = .ok (.value v) w) (hr : RV w (okB cx w hv σ) σ r.v v) : Sound P cx hv σ w nid ρ o r :=
 ⟨v, w, σ, .inl hrun, by rw [hu]; exact Good.pure h hr⟩
end

/-! ### integers -/
def fits : IntKind → Int → Prop
 | .i8, n => -128 ≤ n ∧ n ≤ 127
 | .i16, n => -32768 ≤ n ∧ n ≤ 32767
 | .i32, n => -2147483648 ≤ n ∧ n ≤ 2147483647
 | .i64, n => -9223372036854775808 ≤ n ∧ n ≤ 9223372036854775807
 | .u8, n => 0 ≤ n ∧ n ≤ 255
 | .u16, n => 0 ≤ n ∧ n ≤ 65535
 | .u32, n => 0 ≤ n ∧ n ≤ 4294967295
 | .u64, n => 0 ≤ n ∧ n ≤ 18446744073709551615
instance instDecFits : (k : IntKind) → (n : Int) → Decidable (fits k n)
 | .i8, n => inferInstanceAs (Decidable (-128 ≤ n ∧ n ≤ 127))
 | .i16, n => inferInstanceAs (Decidable (-32768 ≤ n ∧ n ≤ 32767))
 | .i32, n => inferInstanceAs (Decidable (-2147483648 ≤ n ∧ n ≤ 2147483647))
 | .i64, n => inferInstanceAs (Decidable (-9223372036854775808 ≤ n ∧ n ≤ 9223372036854775807))
 | .u8, n => inferInstanceAs (Decidable (0 ≤ n ∧ n ≤ 255))
 | .u16, n => inferInstanceAs (Decidable (0 ≤ n ∧ n ≤ 65535))
 | .u32, n => inferInstanceAs (Decidable (0 ≤ n ∧ n ≤ 4294967295))
 | .u64, n => inferInstanceAs (Decidable (0 ≤ n ∧ n ≤ 18446744073709551615))
theorem wrap_fits {k : IntKind} {n : Int} (h : fits k n) : k.wrap n = n := by
 cases k
 ·exact IntWalk.i8_in n h
 ·exact IntWalk.i16_in n h
 ·exact IntWalk.i32_in n h
 ·exact IntWalk.i64_in n h
 ·exact IntWalk.u8_in n h
 ·exact IntWalk.u16_in n h
 ·exact IntWalk.u32_in n h
 ·exact IntWalk.u64_in n h

def IntKind.uns : IntKind → Bool
 | .u8 | .u16 | .u32 | .u64 => true
 | _ => false
/-- A number of a kind: a signed one must fit, another one is wrapped. -/
def numR (k : IntKind) (n : Int) : Option Res := if IntKind.uns k = true then some ⟨.d (.int k (k.wrap n)), [], True⟩ else some ⟨.d (.int k n), [], fits k n⟩
def bitsI (op : BinOp) (k : IntKind) (a b : Int) : Int :=
 let x := BitVec.ofInt k.bits a
 let y := BitVec.ofInt k.bits b
 k.wrap (match op with | .and => x &&& y | .or => x ||| y | .xor => x ^^^ y | _ => x &&& ~~~y).toNat
def BinOp.isSh : BinOp → Bool
 | .shl => true
 | .shr => true
 | _ => false
def aShift (op : BinOp) (k : IntKind) (a b : Int) : Option Res := match op with
 | .shl => some ⟨.d (.int k (k.wrap (a * 2 ^ (min b.toNat k.bits)))), [], 0 ≤ b⟩
 | .shr => some ⟨.d (.int k (a.fdiv (2 ^ (min b.toNat k.bits)))), [], 0 ≤ b⟩
 | _ => none
def aInt (op : BinOp) (k : IntKind) (a b : Int) : Option Res :=
 match op with
 | .add => numR k (a + b)
 | .sub => numR k (a - b)
 | .mul => numR k (a * b)
 | .quo => some ⟨.d (.int k (a.tdiv b)), [], b ≠ 0 ∧ fits k (a.tdiv b)⟩
 | .rem => some ⟨.d (.int k (a.tmod b)), [], b ≠ 0⟩
 | .eql => some ⟨.d (.bool (a == b)), [], True⟩
 | .neq => some ⟨.d (.bool (a != b)), [], True⟩
 | .lss => some ⟨.d (.bool (decide (a < b))), [], True⟩
 | .leq => some ⟨.d (.bool (decide (a ≤ b))), [], True⟩
 | .gtr => some ⟨.d (.bool (decide (b < a))), [], True⟩
 | .geq => some ⟨.d (.bool (decide (b ≤ a))), [], True⟩
 | .and => some ⟨.d (.int k (bitsI .and k a b)), [], True⟩
 | .or => some ⟨.d (.int k (bitsI .or k a b)), [], True⟩
 | .xor => some ⟨.d (.int k (bitsI .xor k a b)), [], True⟩
 | .andNot => some ⟨.d (.int k (bitsI .andNot k a b)), [], True⟩
 | _ => none

def aStr (op : BinOp) (a b : List UInt8) : Option Res :=
 match op with
 | .add => some ⟨.d (.str (a ++ b)), [], ((a.length + b.length : Nat) : Int) ≤ 9223372036854775807⟩
 | .eql => some ⟨.d (.bool (a == b)), [], True⟩
 | .neq => some ⟨.d (.bool (!(a == b))), [], True⟩
 | .lss => some ⟨.d (.bool (Op.bytesLess a b)), [], True⟩
 | .leq => some ⟨.d (.bool (Op.bytesLess a b || a == b)), [], True⟩
 | .gtr => some ⟨.d (.bool (!(Op.bytesLess a b || a == b))), [], True⟩
 | .geq => some ⟨.d (.bool (!Op.bytesLess a b)), [], True⟩
 | _ => none

def aBin (P : Program) (op : BinOp) (t : TypeId) (x y : V) : Option Res :=
 match x, y with
 | .d (.int k a), .d (.int k' b) => if BinOp.isSh op = true then aShift op k a b else if k = k' then aInt op k a b else none
 | .d (.str a), .d (.str b) => aStr op a b
 | .d (.bool a), .d (.bool b) => match op, tiOf P t with
  | .eql, some ⟨.bool, _, _, _⟩ => some ⟨.d (.bool (a == b)), [], True⟩
  | .neq, some ⟨.bool, _, _, _⟩ => some ⟨.d (.bool (!(a == b))), [], True⟩
  | _, _ => none
 | _, _ => none

theorem toList_loop (s : ByteArray) : ∀ (n i : Nat) (acc : List UInt8), s.size - i = n → ByteArray.toList.loop s i acc = acc.reverse ++ s.data.toList.drop i := by
 intro n
 induction n with
 | zero =>
  intro i acc h
  unfold ByteArray.toList.loop
  rw [if_neg (by omega)]
  have hs : s.size = s.data.toList.length := rfl
  rw [List.drop_eq_nil_of_le (by omega)]
  simp
 | succ n ih =>
  intro i acc h
  unfold ByteArray.toList.loop
  have hi : i < s.size := by omega
  rw [if_pos hi, ih (i + 1) _ (by omega)]
  have hi' : i < s.data.toList.length := hi
  rw [List.drop_eq_getElem_cons hi']
  have hg : s.get! i = s.data.toList[i] := by
   have h1 : i < s.data.size := hi
   cases s with
   | mk data =>
    show data.getD i default = _
    simp at h1
    simp [h1]
  rw [hg]
  simp
theorem toList_mk (l : List UInt8) : (ByteArray.mk l.toArray).toList = l := by
 unfold ByteArray.toList
 rw [toList_loop _ _ 0 [] rfl]
 simp

theorem run_equalIn_bool {P : Program} {w : World} {t : TypeId} (n : Nat) (h : P.underlying t = some .bool) (a b : Bool) : (Op.equalIn (n + 1) t (.bool a) (.bool b)).run P w = .ok (a == b) w := by
 simp only [Op.equalIn, Sem.run_bind, run_underlying' h, Result.andThen_ok, Sem.run_pure]
theorem run_equal_bool {P : Program} {w : World} {t : TypeId} (h : P.underlying t = some .bool) (a b : Bool) : (Op.equal t (.bool a) (.bool b)).run P w = .ok (a == b) w := run_equalIn_bool 9999 h a b

section
variable {P : Program} {cx : Cx} {hv : Nat → Option O} {σ : Nat → Option Loc} {w : World} {nid : Nat} {ρ : Operand → Value} {ev : Operand → V}

theorem aBin_sound (h : HR cx hv σ w) (hev : ∀ x, RV w (okB cx w hv σ) σ (ev x) (ρ x)) {op : BinOp} {t yt : TypeId} {x y : Operand} {o : Oper} {r : Res} (ho : o.op = .binOp op t x y yt) (hr : aBin P op t (ev x) (ev y) = some r) (hob : r.ob) :
  Sound P cx hv σ w nid ρ o r := by
 have hx := hev x
 have hy := hev y
 have key : ∀ u v : Value, ρ x = u → ρ y = v → eqGuard op t x y u v = Pure.pure () → ∀ z, (binOp op t u v).run P w = .ok z w → (execOp ρ o).run P w = .ok (.value z) w := by
  intro u v hu hv' hg z hz
  simp only [execOp, ho, hu, hv', hg, Sem.run_bind, Sem.run_pure, Result.andThen_ok, hz]
 unfold aBin at hr
 split at hr
 ·rename_i k a k' b e1 e2
  rw [e1] at hx
  rw [e2] at hy
  simp only [RV, RD] at hx hy
  split at hr
  ·rename_i hsh
   have hg : eqGuard op t x y (Value.int k a) (Value.int k' b) = Pure.pure () := by cases op <;> rfl
   unfold aShift at hr
   split at hr <;> cases hr <;> simp only at hob
   ·exact sound_value h rfl (key _ _ hx hy hg (.int k (k.wrap (a * 2 ^ (min b.toNat k.bits)))) (by simp only [binOp, Op.shift, Int.not_lt.2 hob, if_false, Sem.run_pure])) (by simp only [RV, RD])
   ·exact sound_value h rfl (key _ _ hx hy hg (.int k (a.fdiv (2 ^ (min b.toNat k.bits)))) (by simp only [binOp, Op.shift, Int.not_lt.2 hob, if_false, Sem.run_pure])) (by simp only [RV, RD])
  split at hr
  ·rename_i hk
   subst hk
   have num : ∀ n r, numR k n = some r → r.ob → (binOp op t (.int k a) (.int k b)).run P w = .ok (.int k (k.wrap n)) w → Sound P cx hv σ w nid ρ o r := by
    intro n r hr hob hrun
    have hg : eqGuard op t x y (Value.int k a) (Value.int k b) = Pure.pure () := by cases op <;> rfl
    unfold numR at hr
    split at hr <;> cases hr
    ·exact sound_value h rfl (key _ _ hx hy hg _ hrun) (by simp only [RV, RD])
    ·rw [wrap_fits hob] at hrun
     exact sound_value h rfl (key _ _ hx hy hg _ hrun) (by simp only [RV, RD])
   have hg : eqGuard op t x y (Value.int k a) (Value.int k b) = Pure.pure () := by cases op <;> rfl
   unfold aInt at hr
   split at hr
   ·exact num _ _ hr hob (by simp [binOp, Op.intArith])
   ·exact num _ _ hr hob (by simp [binOp, Op.intArith])
   ·exact num _ _ hr hob (by simp [binOp, Op.intArith])
   all_goals cases hr
   all_goals simp only at hob
   ·exact sound_value h rfl (key _ _ hx hy hg (.int k (a.tdiv b)) (by simp [binOp, Op.intDiv, hob.1, wrap_fits hob.2])) (by simp only [RV, RD])
   ·exact sound_value h rfl (key _ _ hx hy hg (.int k (a.tmod b)) (by simp [binOp, Op.intDiv, hob])) (by simp only [RV, RD])
   ·exact sound_value h rfl (key _ _ hx hy hg (.bool (a == b)) (by simp [binOp, Op.intCmp])) (by simp only [RV, RD])
   ·exact sound_value h rfl (key _ _ hx hy hg (.bool (a != b)) (by simp [binOp, Op.intCmp])) (by simp only [RV, RD])
   ·exact sound_value h rfl (key _ _ hx hy hg (.bool (decide (a < b))) (by simp [binOp, Op.intCmp])) (by simp only [RV, RD])
   ·exact sound_value h rfl (key _ _ hx hy hg (.bool (decide (a ≤ b))) (by simp [binOp, Op.intCmp])) (by simp only [RV, RD])
   ·exact sound_value h rfl (key _ _ hx hy hg (.bool (decide (b < a))) (by simp [binOp, Op.intCmp])) (by simp only [RV, RD])
   ·exact sound_value h rfl (key _ _ hx hy hg (.bool (decide (b ≤ a))) (by simp [binOp, Op.intCmp])) (by simp only [RV, RD])
   ·exact sound_value h rfl (key _ _ hx hy hg (.int k (bitsI .and k a b)) (by simp only [binOp, ne_eq, not_true_eq_false, if_false, Op.intBits, Sem.run_pure, bitsI])) (by simp only [RV, RD])
   ·exact sound_value h rfl (key _ _ hx hy hg (.int k (bitsI .or k a b)) (by simp only [binOp, ne_eq, not_true_eq_false, if_false, Op.intBits, Sem.run_pure, bitsI])) (by simp only [RV, RD])
   ·exact sound_value h rfl (key _ _ hx hy hg (.int k (bitsI .xor k a b)) (by simp only [binOp, ne_eq, not_true_eq_false, if_false, Op.intBits, Sem.run_pure, bitsI])) (by simp only [RV, RD])
   ·exact sound_value h rfl (key _ _ hx hy hg (.int k (bitsI .andNot k a b)) (by simp only [binOp, ne_eq, not_true_eq_false, if_false, Op.intBits, Sem.run_pure, bitsI])) (by simp only [RV, RD])
  ·cases hr
 ·rename_i a b e1 e2
  rw [e1] at hx
  rw [e2] at hy
  simp only [RV, RD] at hx hy
  have hg : eqGuard op t x y (Value.string ⟨a.toArray⟩) (Value.string ⟨b.toArray⟩) = Pure.pure () := by cases op <;> rfl
  unfold aStr at hr
  split at hr <;> cases hr <;> simp only at hob
  ·refine sound_value h rfl (key _ _ hx hy hg (.string ⟨(a ++ b).toArray⟩) ?_) (by simp only [RV, RD])
   have e : (ByteArray.mk a.toArray ++ ByteArray.mk b.toArray) = ByteArray.mk (a ++ b).toArray := by
    apply ByteArray.ext
    simp
   have hs : ¬ (((ByteArray.mk a.toArray).size + (ByteArray.mk b.toArray).size : Nat) : Int) > IntKind.i64.max := by
    simp only [ByteArray.size, List.size_toArray]
    have : IntKind.i64.max = 9223372036854775807 := by decide
    omega
   simp only [binOp, Op.stringOp, hs, if_false, Sem.run_pure, e]
  ·exact sound_value h rfl (key _ _ hx hy hg (.bool (a == b)) (by simp [binOp, Op.stringOp, toList_mk])) (by simp only [RV, RD])
  ·exact sound_value h rfl (key _ _ hx hy hg (.bool (!(a == b))) (by simp [binOp, Op.stringOp, toList_mk])) (by simp only [RV, RD])
  ·exact sound_value h rfl (key _ _ hx hy hg (.bool (Op.bytesLess a b)) (by simp [binOp, Op.stringOp, toList_mk])) (by simp only [RV, RD])
  ·exact sound_value h rfl (key _ _ hx hy hg (.bool (Op.bytesLess a b || a == b)) (by simp [binOp, Op.stringOp, toList_mk])) (by simp only [RV, RD])
  ·exact sound_value h rfl (key _ _ hx hy hg (.bool (!(Op.bytesLess a b || a == b))) (by simp only [binOp, Op.stringOp, toList_mk, Sem.run_pure])) (by simp only [RV, RD])
  ·exact sound_value h rfl (key _ _ hx hy hg (.bool (!Op.bytesLess a b)) (by simp [binOp, Op.stringOp, toList_mk])) (by simp only [RV, RD])
 ·rename_i a b e1 e2
  rw [e1] at hx
  rw [e2] at hy
  simp only [RV, RD] at hx hy
  split at hr <;> cases hr
  ·rename_i hti
   obtain ⟨i, d, z, h1, h2, h3, h4, _⟩ := tiOf_spec hti
   have hd : d = .bool := by cases d <;> simp [tuOf] at h4; rfl
   subst hd
   refine sound_value h rfl (key _ _ hx hy rfl (.bool (a == b)) ?_) (by simp only [RV, RD])
   simp only [binOp, Sem.run_bind, run_equal_bool h2, Result.andThen_ok, Sem.run_pure]
  ·rename_i hti
   obtain ⟨i, d, z, h1, h2, h3, h4, _⟩ := tiOf_spec hti
   have hd : d = .bool := by cases d <;> simp [tuOf] at h4; rfl
   subst hd
   refine sound_value h rfl (key _ _ hx hy rfl (.bool (!(a == b))) ?_) (by simp only [RV, RD])
   simp only [binOp, Sem.run_bind, run_equal_bool h2, Result.andThen_ok, Sem.run_pure]
 ·cases hr
end
end Go.AX
