/- AX, part 12: regions that draw their order. -/
import Derived.Test.YtcjdlbdoffchfaaGreatDoorAx11
import Derived.Orders
set_option linter.unusedSimpArgs false
set_option linter.unusedVariables false
namespace Go.AX
open Go

mutual
/-- The objects that a value refers to. -/
def V.ids : V → List Nat
  | .agg cs => idsL cs
  | .tup cs => idsL cs
  | .ptr id _ => [id]
  | .pe id _ _ => [id]
  | .slr id _ _ => [id]
  | .mpr id => [id]
  | .fn _ cs => idsL cs
  | _ => []
def idsL : List V → List Nat
  | [] => []
  | x :: xs => x.ids ++ idsL xs
end

def opIdsL (ev : Operand → V) : List Operand → List Nat
  | [] => []
  | x :: xs => (ev x).ids ++ opIdsL ev xs
def opIds (ev : Operand → V) (o : Op) : List Nat := match o with
  | .move _ => []
  | .assign _ => []
  | .pick _ _ _ => []
  | .binOp _ _ _ _ _ => []
  | .unOp _ _ _ => []
  | .build _ _ => []
  | .buildSlice _ _ _ => []
  | .extract _ _ => []
  | .field _ _ _ => []
  | .fieldAddr _ _ _ => []
  | .nilCheck _ => []
  | .box _ _ => []
  | .makeFunc _ _ _ => []
  | .index _ _ _ => []
  | _ => opIdsL ev o.operands.toList
theorem mem_opIdsL {ev : Operand → V} {x : Operand} {id : Nat} : ∀ {l : List Operand}, x ∈ l → id ∈ (ev x).ids → id ∈ opIdsL ev l
  | [], h, _ => by cases h
  | y :: l, h, hid => by
    simp only [opIdsL, List.mem_append]
    rcases List.mem_cons.1 h with rfl | h
    · exact .inl hid
    · exact .inr (mem_opIdsL h hid)

section
variable {P : Program} {hv hv' : Nat → Option O}
theorem aLoad_congr {t : TypeId} {p : V} (h : ∀ id ∈ p.ids, hv' id = hv id) : aLoad P hv' t p = aLoad P hv t p := by
  unfold aLoad
  cases p with
  | d y => cases y <;> rfl
  | _ => simp only [V.ids, List.mem_singleton, forall_eq] at h <;> first | rfl | (simp only [h]; done)
theorem aStore_congr {t : TypeId} {p x : V} (h : ∀ id ∈ p.ids, hv' id = hv id) : aStore P hv' t p x = aStore P hv t p x := by
  unfold aStore
  cases p with
  | d y => cases y <;> rfl
  | _ => simp only [V.ids, List.mem_singleton, forall_eq] at h <;> first | rfl | (simp only [h]; done)
theorem aIndexAddr_congr {t : TypeId} {x i : V} (h : ∀ id ∈ x.ids, hv' id = hv id) : aIndexAddr P hv' t x i = aIndexAddr P hv t x i := by
  unfold aIndexAddr
  cases x with
  | d y => cases y <;> rfl
  | _ => simp only [V.ids, List.mem_singleton, forall_eq] at h <;> first | rfl | (simp only [h]; done)
theorem aLen_congr {t : TypeId} {x : V} (h : ∀ id ∈ x.ids, hv' id = hv id) : aLen P hv' t x = aLen P hv t x := by
  unfold aLen
  cases x with
  | d y => cases y <;> rfl
  | _ => simp only [V.ids, List.mem_singleton, forall_eq] at h <;> first | rfl | (simp only [h]; done)

theorem elemsOf_congr {s : Nat} {x : V} (h : ∀ id ∈ x.ids, hv' id = hv id) : elemsOf hv' s x = elemsOf hv s x := by
  unfold elemsOf
  cases x with
  | d y => cases y <;> rfl
  | _ => simp only [V.ids, List.mem_singleton, forall_eq] at h <;> first | rfl | (simp only [h]; done)
theorem mapOf_congr {x : V} (h : ∀ id ∈ x.ids, hv' id = hv id) : mapOf hv' x = mapOf hv x := by
  unfold mapOf
  cases x with
  | d y => cases y <;> rfl
  | _ => simp only [V.ids, List.mem_singleton, forall_eq] at h <;> first | rfl | (simp only [h]; done)
theorem aAppend_congr {t xt : TypeId} {a x : V} {nid : Nat} (ha : ∀ id ∈ a.ids, hv' id = hv id) (hx : ∀ id ∈ x.ids, hv' id = hv id) : aAppend P hv' t xt a x nid = aAppend P hv t xt a x nid := by
  unfold aAppend
  simp only [elemsOf_congr hx]
  cases a with
  | slr id lo n =>
    simp only [V.ids, List.mem_singleton, forall_eq] at ha
    cases lo with
    | zero => simp only [ha]
    | succ lo => rfl
  | _ => rfl
theorem aSlice_congr {t : TypeId} {x : V} {lo hi mx : Option V} {nid : Nat} (h : ∀ id ∈ x.ids, hv' id = hv id) : aSlice P hv' t x lo hi mx nid = aSlice P hv t x lo hi mx nid := by
  unfold aSlice
  cases x with
  | d y => cases y <;> rfl
  | _ => simp only [V.ids, List.mem_singleton, forall_eq] at h <;> first | rfl | (simp only [h]; done)
theorem aLookup_congr {t : TypeId} {x i : V} {c : Bool} (h : ∀ id ∈ x.ids, hv' id = hv id) : aLookup P hv' t x i c = aLookup P hv t x i c := by
  unfold aLookup
  simp only [mapOf_congr h]
theorem aMapUpdate_congr {t : TypeId} {m k x : V} (h : ∀ id ∈ m.ids, hv' id = hv id) : aMapUpdate P hv' t m k x = aMapUpdate P hv t m k x := by
  unfold aMapUpdate
  cases hti : tiOf P t with
  | none => rfl
  | some i =>
    obtain ⟨u, _, _, _⟩ := i
    cases u with
    | map kt et =>
      simp only
      cases tiOf P kt with
      | none => cases m <;> rfl
      | some ki =>
        cases m with
        | mpr id =>
          have := h id (by simp [V.ids])
          cases k with
          | d k => simp only [this]
          | _ => rfl
        | _ => rfl
    | _ => rfl
theorem aConvert2_congr {s d : TypeId} {x : V} {nid : Nat} (h : ∀ id ∈ x.ids, hv' id = hv id) : aConvert2 P hv' s d x nid = aConvert2 P hv s d x nid := by
  unfold aConvert2
  simp only [elemsOf_congr h]
theorem aConvert3_congr {s d : TypeId} {x : V} {nid : Nat} (h : ∀ id ∈ x.ids, hv' id = hv id) : aConvert3 P hv' s d x nid = aConvert3 P hv s d x nid := by
  unfold aConvert3
  cases x with
  | ptr id j => simp only [V.ownPtr, aConvP, h id (by simp [V.ids])]
  | _ => simp only [V.ownPtr, aConvert2_congr h]
theorem aUString_congr {pt : TypeId} {p n : V} (h : ∀ id ∈ p.ids, hv' id = hv id) : aUString P hv' pt p n = aUString P hv pt p n := by
  unfold aUString
  split
  · rfl
  · rename_i id m
    rw [h id (by simp [V.ids])]
  · rfl

theorem aRange_congr {t : TypeId} {x : V} {nid : Nat} (h : ∀ id ∈ x.ids, hv' id = hv id) : aRange P hv' t x nid = aRange P hv t x nid := by
  unfold aRange
  split
  · split
    · rename_i id; rw [h id (by simp [V.ids])]
    · rfl
    · rfl
  · rfl
theorem aCopy_congr {t : TypeId} {d x : V} (hd : ∀ id ∈ d.ids, hv' id = hv id) (hx : ∀ id ∈ x.ids, hv' id = hv id) : aCopy P hv' t d x = aCopy P hv t d x := by
  unfold aCopy
  simp only [elemsOf_congr hx]
  cases d with
  | slr id lo n => simp only [hd id (by simp [V.ids])]
  | _ => rfl
theorem aMapEntry_congr {t : TypeId} {m k : V} (hm : ∀ id ∈ m.ids, hv' id = hv id) : aMapEntry P hv' t m k = aMapEntry P hv t m k := by
  unfold aMapEntry
  cases hti : tiOf P t with
  | none => rfl
  | some i =>
    obtain ⟨u, _, _, _⟩ := i
    cases u with
    | map kt et =>
      simp only
      cases tiOf P kt with
      | none => rfl
      | some ki =>
        cases tiOf P et with
        | none => rfl
        | some ei =>
          cases m with
          | mpr id =>
            cases k with
            | d k => simp only [hm id (by simp [V.ids])]
            | _ => rfl
          | _ => rfl
    | _ => rfl
theorem aEntryStore_congr {m s x : V} (hm : ∀ id ∈ m.ids, hv' id = hv id) : aEntryStore hv' m s x = aEntryStore hv m s x := by
  unfold aEntryStore
  cases m with
  | mpr id =>
    have := hm id (by simp [V.ids])
    cases s with
    | d y =>
      cases y with
      | int k n => cases k <;> first | rfl | simp only [this]
      | _ => rfl
    | _ => rfl
  | _ => rfl
theorem aClear_congr {t : TypeId} {x : V} (hx : ∀ id ∈ x.ids, hv' id = hv id) : aClear P hv' t x = aClear P hv t x := by
  unfold aClear
  cases x with
  | slr id lo n => simp only [hx id (by simp [V.ids])]
  | _ => rfl
theorem aop_congr {ev ev' : Operand → V} {nid : Nat} {o : Op} (he : ∀ x ∈ o.operands, ev' x = ev x) (hh : ∀ id ∈ opIds ev o, hv' id = hv id) : aop P hv' ev' nid o = aop P hv ev nid o := by
  have hid : opIds ev o = opIdsL ev o.operands.toList → ∀ x ∈ o.operands, ∀ id ∈ (ev x).ids, hv' id = hv id := fun e x hx id hid => hh id (by rw [e]; exact mem_opIdsL (by simpa using hx) hid)
  have hparts : ∀ parts : Array (Nat × Operand), (∀ x ∈ (parts.toList.map (·.2)).toArray, ev' x = ev x) → (parts.toList.map fun (i, x) => (i, ev' x)) = parts.toList.map fun (i, x) => (i, ev x) := by
    intro parts hp
    refine List.map_congr_left fun p hm => ?_
    obtain ⟨i, x⟩ := p
    simp only [hp x (by simpa using ⟨i, by simpa using hm⟩)]
  unfold aop
  split <;> first
    | (replace hid := hid rfl; simp only [Op.operands, Call.operands] at he hid)
    | (clear hid hh; simp only [Op.operands, Call.operands] at he)
    | skip
  all_goals first
    | rfl
    | (simp only [hparts _ he]; done)
    | (simp_all; done)
    | (rename_i t a; rw [he a (by simp)]; exact aLoad_congr (hid a (by simp)))
    | (rename_i t a x; rw [he a (by simp), he x (by simp)]; exact aStore_congr (hid a (by simp)))
    | (rename_i t x i; rw [he x (by simp), he i (by simp)]; exact aIndexAddr_congr (hid x (by simp)))
    | (rename_i x t; rw [he x (by simp)]; exact aLen_congr (hid x (by simp)))
    | (rename_i x t; rw [he x (by simp)]; exact aClear_congr (hid x (by simp)))
    | (rename_i s d x; rw [he x (by simp)]; exact aConvert3_congr (hid x (by simp)))
    | (rename_i d x t xt; rw [he d (by simp), he x (by simp)]; exact aCopy_congr (hid d (by simp)) (hid x (by simp)))
    | (rename_i t x; rw [he x (by simp)]; exact aRange_congr (hid x (by simp)))
    | (rename_i p n pt it; rw [he p (by simp), he n (by simp)]; exact aUString_congr (hid p (by simp)))
    | (rename_i a x t xt; rw [he a (by simp), he x (by simp)]; exact aAppend_congr (hid a (by simp)) (hid x (by simp)))
    | (rename_i t x i c; rw [he x (by simp), he i (by simp)]; exact aLookup_congr (hid x (by simp)))
    | (rename_i t m k x; rw [he m (by simp), he k (by simp), he x (by simp)]; exact aMapUpdate_congr (hid m (by simp)))
    | (rename_i t m k; rw [he m (by simp), he k (by simp)]; exact aMapEntry_congr (hid m (by simp)))
    | (rename_i t m s x; rw [he m (by simp), he s (by simp), he x (by simp)]; exact aEntryStore_congr (hid m (by simp)))
    | (rename_i t x lo hi mx
       have e1 : lo.map ev' = lo.map ev := by cases lo with | none => rfl | some y => simp [he y (by simp)]
       have e2 : hi.map ev' = hi.map ev := by cases hi with | none => rfl | some y => simp [he y (by simp)]
       have e3 : mx.map ev' = mx.map ev := by cases mx with | none => rfl | some y => simp [he y (by simp)]
       rw [he x (by simp), e1, e2, e3]; exact aSlice_congr (hid x (by simp)))
    | (rename_i fn first caps
       have e1 : first.toList.map ev' = first.toList.map ev := List.map_congr_left fun y hy => he y (by simp at hy ⊢; exact .inl hy)
       have e2 : caps.toList.map ev' = caps.toList.map ev := List.map_congr_left fun y hy => he y (by simp at hy ⊢; exact .inr hy)
       rw [e1, e2])
end

/-- What an operation did. -/
inductive Tr where
  | skip
  | step (x : V) (u : List (Nat × Option O)) (rd : List Nat)

def Tr.wids : Tr → List Nat
  | .skip => []
  | .step _ u _ => u.map (·.1)
def Tr.rids : Tr → List Nat
  | .skip => []
  | .step _ _ rd => rd
def St.doT (s : St) (dst : Option Nat) : Tr → St
  | .skip => s.skip dst
  | .step x u _ => s.put dst x u

/-- One operation, its step written down. -/
def aStepT (P : Program) (st : St) (i : Nat) (o : Oper) (K : St → Tr → Prop) : Prop :=
  match o.op with
  | .call ⟨.value fo, args, _⟩ => match st.ev fo with
    | .fn f caps => ∃ x u rd, (∀ hv', (∀ id ∈ rd, hv' id = st.hv id) → CallStep P hv' (st.c + i) f (args.toList.map st.ev ++ caps) x u) ∧ K (st.put o.dst x u) (.step x u rd)
    | _ => False
  | .next _ false => False
  | .entry _ => False
  | op => match aop P st.hv st.ev (64 * (st.c + i)) op with
    | some r => r.ob ∧ K (st.put o.dst r.v r.upd) (.step r.v r.upd (opIds st.ev op))
    | none => False

def aRunT (P : Program) (ops : Array Oper) : List Nat → St → List Tr → (St → List Tr → Prop) → Prop
  | [], st, tr, K => K st tr
  | i :: rest, st, tr, K => match ops[i]? with
    | none => False
    | some o => match st.want ops o with
      | some true => (∀ d, o.dst = some d → d < st.n) ∧ aStepT P st i o (fun st' t => aRunT P ops rest st' (tr ++ [t]) K)
      | some false => aRunT P ops rest (st.skip o.dst) (tr ++ [.skip]) K
      | none => False

def rtmps (ops : Array Oper) (o : Oper) : List Nat :=
  (o.op.operands.toList.filterMap fun | .tmp t => some t | _ => none) ++ (match o.guard with
    | some (j, _) => ((ops[j]?).bind (·.dst)).toList
    | none => [])

def befOf (ops : List Oper) (acc : List Nat) : List Nat := match ops with
  | [] => acc
  | o :: rest => befOf rest (acc ++ [o.after.toList.foldl (fun s e => if Region.binds .any e = true then s ||| 2 ^ e.on ||| acc.getD e.on 0 else s) 0])

def inter (a b : List Nat) : Bool := a.any fun x => b.contains x
def confl (ops : Array Oper) (oi oj : Oper) (ti tj : Tr) : Bool :=
  inter oi.dst.toList (rtmps ops oj ++ oj.dst.toList) || inter oj.dst.toList (rtmps ops oi) || inter ti.wids (tj.rids ++ tj.wids) || inter tj.wids ti.rids
def regOk (ops : Array Oper) (tr : List Tr) : Bool :=
  let b := befOf ops.toList []
  (ops.toList.zipIdx.all fun (o, i) => o.after.toList.all fun e => !Region.binds .any e || decide (e.on < i)) &&
  (ops.toList.zip tr).zipIdx.all fun (oj, j) => ((ops.toList.zip tr).take j).zipIdx.all fun (oi, i) => !confl ops oi.1 oj.1 oi.2 oj.2 || (b.getD j 0).testBit i

section
variable {P : Program} {cx : Cx}

/-- The values of the slots when the operations of L have been carried out. -/
def eV (st : St) (ops : Array Oper) (tr : List Tr) (L : Nat → Bool) : Nat → Nat → Option V
  | 0, t => lk st.env t
  | m + 1, t => if L m = true ∧ (ops[m]?).bind (·.dst) = some t then (match tr[m]? with
      | some (.step x _ _) => some x
      | _ => some (.tup [])) else eV st ops tr L m t
def hV (st : St) (tr : List Tr) (L : Nat → Bool) : Nat → Nat → Option O
  | 0, id => st.hv id
  | m + 1, id => if L m = true then (match tr[m]? with
      | some (.step _ u _) => (match lk u id with
        | some o => o
        | none => hV st tr L m id)
      | _ => hV st tr L m id) else hV st tr L m id

theorem eV_agree {st : St} {ops : Array Oper} {tr : List Tr} {L L' : Nat → Bool} {t : Nat} : ∀ m, (∀ j, j < m → (ops[j]?).bind (·.dst) = some t → L j = L' j) → eV st ops tr L m t = eV st ops tr L' m t
  | 0, _ => rfl
  | m + 1, h => by
    have ih := eV_agree (st := st) (tr := tr) m fun j hj hd => h j (by omega) hd
    simp only [eV]
    by_cases hd : (ops[m]?).bind (·.dst) = some t
    · rw [h m (by omega) hd, ih]
    · simp [hd, ih]
theorem eV_past {st : St} {ops : Array Oper} {tr : List Tr} {L : Nat → Bool} {t i : Nat} : ∀ m, i ≤ m → (∀ j, i ≤ j → j < m → (ops[j]?).bind (·.dst) = some t → L j = false) → eV st ops tr L m t = eV st ops tr L i t
  | 0, h, _ => by have : i = 0 := by omega
                  subst this; rfl
  | m + 1, h, hj => by
    by_cases e : i = m + 1
    · subst e; rfl
    · have ih := eV_past (st := st) (tr := tr) m (by omega) fun j h1 h2 hd => hj j h1 (by omega) hd
      simp only [eV]
      rw [if_neg, ih]
      rintro ⟨h1, h2⟩
      rw [hj m (by omega) (by omega) h2] at h1
      cases h1
theorem hV_agree {st : St} {tr : List Tr} {L L' : Nat → Bool} {id : Nat} : ∀ m, (∀ j t, j < m → tr[j]? = some t → id ∈ t.wids → L j = L' j) → hV st tr L m id = hV st tr L' m id
  | 0, _ => rfl
  | m + 1, h => by
    have ih := hV_agree (st := st) m fun j t hj ht hd => h j t (by omega) ht hd
    simp only [hV]
    cases htr : tr[m]? with
    | none => simp [ih]
    | some t =>
      cases t with
      | skip => simp [ih]
      | step x u rd =>
        simp only
        cases hl : lk u id with
        | none => simp [ih]
        | some o =>
          have hmem : id ∈ (Tr.step x u rd).wids := by
            simp only [Tr.wids]
            clear htr ih h
            induction u with
            | nil => simp [lk] at hl
            | cons p u ihu =>
              obtain ⟨k, y⟩ := p
              simp only [lk] at hl
              split at hl
              · rename_i e; simp [e]
              · simp [ihu hl]
          rw [h m _ (by omega) htr hmem, ih]
theorem mem_wids {x : V} {u : List (Nat × Option O)} {rd : List Nat} {id : Nat} {o : Option O} (hl : lk u id = some o) : id ∈ (Tr.step x u rd).wids := by
  simp only [Tr.wids]
  induction u with
  | nil => simp [lk] at hl
  | cons p u ihu =>
    obtain ⟨k, y⟩ := p
    simp only [lk] at hl
    split at hl
    · rename_i e; simp [e]
    · simp [ihu hl]
theorem hV_past {st : St} {tr : List Tr} {L : Nat → Bool} {id i : Nat} : ∀ m, i ≤ m → (∀ j t, i ≤ j → j < m → tr[j]? = some t → id ∈ t.wids → L j = false) → hV st tr L m id = hV st tr L i id
  | 0, h, _ => by have : i = 0 := by omega
                  subst this; rfl
  | m + 1, h, hj => by
    by_cases e : i = m + 1
    · subst e; rfl
    · have ih := hV_past (st := st) m (by omega) fun j t h1 h2 ht hd => hj j t h1 (by omega) ht hd
      simp only [hV]
      split
      · rename_i hL
        cases htr : tr[m]? with
        | none => simp [ih]
        | some t =>
          cases t with
          | skip => simp [ih]
          | step x u rd =>
            simp only
            cases hl : lk u id with
            | none => exact ih
            | some o =>
              have := hj m _ (by omega) (by omega) htr (mem_wids hl)
              rw [hL] at this
              cases this
      · exact ih

/-- The state ahead of operation i, in the order of the text. -/
def stAt (st : St) (ops : Array Oper) (tr : List Tr) : Nat → St
  | 0 => st
  | i + 1 => match tr[i]? with
    | some t => (stAt st ops tr i).doT ((ops[i]?).bind (·.dst)) t
    | none => stAt st ops tr i

theorem stAt_env {st : St} {ops : Array Oper} {tr : List Tr} (t : Nat) : ∀ m, m ≤ tr.length → lk (stAt st ops tr m).env t = eV st ops tr (fun _ => true) m t
  | 0, _ => rfl
  | m + 1, hm => by
    have ih := stAt_env (st := st) (ops := ops) (tr := tr) t m (by omega)
    have hl : m < tr.length := by omega
    simp only [stAt, eV, List.getElem?_eq_getElem hl]
    cases tr[m] with
    | skip =>
      simp only [St.doT, St.skip]
      cases hd : (ops[m]?).bind (·.dst) with
      | none => simpa using ih
      | some d =>
        simp only [lk, true_and, Option.some.injEq]
        split
        · rfl
        · exact ih
    | step x u rd =>
      simp only [St.doT, St.put]
      cases hd : (ops[m]?).bind (·.dst) with
      | none => simpa using ih
      | some d =>
        simp only [lk, true_and, Option.some.injEq]
        split
        · rfl
        · exact ih
theorem doT_hv (s : St) (d : Option Nat) (x : V) (u : List (Nat × Option O)) (rd : List Nat) (id : Nat) : (s.doT d (.step x u rd)).hv id = match lk u id with
    | some o => o
    | none => s.hv id := by
  simp only [St.doT]
  rw [hv_put]
  rfl
theorem stAt_hv {st : St} {ops : Array Oper} {tr : List Tr} (id : Nat) : ∀ m, m ≤ tr.length → (stAt st ops tr m).hv id = hV st tr (fun _ => true) m id
  | 0, _ => rfl
  | m + 1, hm => by
    have ih := stAt_hv (st := st) (ops := ops) (tr := tr) id m (by omega)
    have hl : m < tr.length := by omega
    simp only [stAt, hV, List.getElem?_eq_getElem hl, if_true]
    cases tr[m] with
    | skip => exact ih
    | step x u rd => rw [doT_hv]; simp only [ih]
theorem stAt_n {st : St} {ops : Array Oper} {tr : List Tr} : ∀ m, (stAt st ops tr m).n = st.n ∧ (stAt st ops tr m).c = st.c
  | 0 => ⟨rfl, rfl⟩
  | m + 1 => by
    have ih := stAt_n (st := st) (ops := ops) (tr := tr) m
    simp only [stAt]
    split
    · rename_i t _
      cases t <;> exact ih
    · exact ih

/-- What the run in the order of the text has shown. -/
def StepOk (P : Program) (ops : Array Oper) (s : St) (i : Nat) (t : Tr) : Prop := ∃ o, ops[i]? = some o ∧ match t with
  | .skip => s.want ops o = some false
  | .step x u rd => s.want ops o = some true ∧ (∀ d, o.dst = some d → d < s.n) ∧ aStepT P s i o (fun _ t => t = .step x u rd)

theorem aStepT_split {s : St} {i : Nat} {o : Oper} {K : St → Tr → Prop} (h : aStepT P s i o K) : ∃ x u rd, aStepT P s i o (fun _ t => t = .step x u rd) ∧ K (s.put o.dst x u) (.step x u rd) := by
  unfold aStepT at h ⊢
  split at h
  · split at h
    · obtain ⟨x, u, rd, h1, h2⟩ := h
      exact ⟨x, u, rd, ⟨x, u, rd, h1, rfl⟩, h2⟩
    · cases h
  · cases h
  · cases h
  · split at h
    · rename_i r hr
      exact ⟨r.v, r.upd, _, ⟨h.1, rfl⟩, h.2⟩
    · cases h

theorem stAt_snoc {st : St} {ops : Array Oper} {tr : List Tr} (t : Tr) : ∀ m, m ≤ tr.length → stAt st ops (tr ++ [t]) m = stAt st ops tr m
  | 0, _ => rfl
  | m + 1, h => by
    simp only [stAt, stAt_snoc (st := st) (ops := ops) (tr := tr) t m (by omega), List.getElem?_append_left (show m < tr.length by omega)]

theorem aRunT_split {ops : Array Oper} {st : St} {K : St → List Tr → Prop} : ∀ (k : Nat) (tr : List Tr), tr.length + k = ops.size → (∀ i t, tr[i]? = some t → StepOk P ops (stAt st ops tr i) i t) →
    aRunT P ops ((List.range ops.size).drop tr.length) (stAt st ops tr tr.length) tr K → ∃ tr', tr'.length = ops.size ∧ (∀ i t, tr'[i]? = some t → StepOk P ops (stAt st ops tr' i) i t) ∧ K (stAt st ops tr' ops.size) tr'
  | 0, tr, hk, hs, h => by
    have e : (List.range ops.size).drop tr.length = [] := List.drop_eq_nil_of_le (by simp; omega)
    rw [e] at h
    simp only [aRunT] at h
    exact ⟨tr, by omega, hs, by have : tr.length = ops.size := by omega
                                rwa [this] at h⟩
  | k + 1, tr, hk, hs, h => by
    have hlt : tr.length < ops.size := by omega
    have e : (List.range ops.size).drop tr.length = tr.length :: (List.range ops.size).drop (tr.length + 1) := by
      rw [List.drop_eq_getElem_cons (by simpa using hlt)]
      simp
    rw [e] at h
    simp only [aRunT, Array.getElem?_eq_getElem hlt] at h
    have next : ∀ t, StepOk P ops (stAt st ops tr tr.length) tr.length t → aRunT P ops ((List.range ops.size).drop (tr.length + 1)) ((stAt st ops tr tr.length).doT (ops[tr.length]).dst t) (tr ++ [t]) K →
        ∃ tr', tr'.length = ops.size ∧ (∀ i t, tr'[i]? = some t → StepOk P ops (stAt st ops tr' i) i t) ∧ K (stAt st ops tr' ops.size) tr' := by
      intro t ht hrest
      refine aRunT_split k (tr ++ [t]) (by simp; omega) ?_ ?_
      · intro i t' hi
        rcases Nat.lt_or_ge i tr.length with h' | h'
        · rw [stAt_snoc t i (by omega)]
          rw [List.getElem?_append_left h'] at hi
          exact hs i t' hi
        · have : i = tr.length := by
            rcases Nat.lt_or_ge i (tr ++ [t]).length with h'' | h''
            · simp at h''; omega
            · simp [List.getElem?_eq_none h''] at hi
          subst this
          simp at hi
          subst hi
          rw [stAt_snoc t _ (Nat.le_refl _)]
          exact ht
      · have e2 : stAt st ops (tr ++ [t]) (tr ++ [t]).length = (stAt st ops tr tr.length).doT (ops[tr.length]).dst t := by
          simp only [List.length_append, List.length_cons, List.length_nil, Nat.zero_add, stAt]
          rw [stAt_snoc t _ (Nat.le_refl _)]
          simp [Array.getElem?_eq_getElem hlt]
        rw [e2]
        simpa using hrest
    split at h
    · rename_i hw
      obtain ⟨hd, h⟩ := h
      obtain ⟨x, u, rd, h1, h2⟩ := aStepT_split h
      exact next (.step x u rd) ⟨_, Array.getElem?_eq_getElem hlt, hw, hd, h1⟩ h2
    · rename_i hw
      exact next .skip ⟨_, Array.getElem?_eq_getElem hlt, hw⟩ h
    · cases h
end
end Go.AX
