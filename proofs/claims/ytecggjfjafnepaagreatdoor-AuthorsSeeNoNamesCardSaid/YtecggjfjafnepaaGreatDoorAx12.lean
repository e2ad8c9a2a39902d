/- AX, part 12: regions that draw their order. -/
import Derived.Test.YtecggjfjafnepaaGreatDoorAx11
import Derived.Orders
set_option linter.unusedSimpArgs false
set_option linter.unusedVariables false
namespace Go.AX
open Go

mutual
/-- The objects that a value refers to. -/
def V.ids : V → List Nat
 | .agg cs => idsL cs
 | .tup cs => idsL cs
 | .ptr id _ => [id]
 | .pe id _ _ => [id]
 | .slr id _ _ => [id]
 | .mpr id => [id]
 | .fn _ cs => idsL cs
 | _ => []
def idsL : List V → List Nat
 | [] => []
 | x :: xs => x.ids ++ idsL xs
end

def opIdsL (ev : Operand → V) : List Operand → List Nat
 | [] => []
 | x :: xs => (ev x).ids ++ opIdsL ev xs
def opIds (ev : Operand → V) (o : Op) : List Nat := match o with
 | .move _ => []
 | .assign _ => []
 | .pick _ _ _ => []
 | .binOp _ _ _ _ _ => []
 | .unOp _ _ _ => []
 | .build _ _ => []
 | .buildSlice _ _ _ => []
 | .extract _ _ => []
 | .field _ _ _ => []
 | .fieldAddr _ _ _ => []
 | .nilCheck _ => []
 | .box _ _ => []
 | .makeFunc _ _ _ => []
 | .index _ _ _ => []
 | _ => opIdsL ev o.operands.toList
theorem mem_opIdsL {ev : Operand → V} {x : Operand} {id : Nat} : ∀ {l : List Operand}, x ∈ l → id ∈ (ev x).ids → id ∈ opIdsL ev l
 | [], h, _ => by cases h
 | y :: l, h, hid => by
  simp only [opIdsL, List.mem_append]
  rcases List.mem_cons.1 h with rfl | h
  ·exact .inl hid
  ·exact .inr (mem_opIdsL h hid)

section
variable {P : Program} {hv hv' : Nat → Option O}
theorem aLoad_congr {t : TypeId} {p : V} (h : ∀ id ∈ p.ids, hv' id = hv id) : aLoad P hv' t p = aLoad P hv t p := by
 unfold aLoad
 cases p with
 | d y => cases y <;> rfl
 | _ => simp only [V.ids, List.mem_singleton, forall_eq] at h <;> first | rfl | (simp only [h]; done)
theorem aStore_congr {t : TypeId} {p x : V} (h : ∀ id ∈ p.ids, hv' id = hv id) : aStore P hv' t p x = aStore P hv t p x := by
 unfold aStore
 cases p with
 | d y => cases y <;> rfl
 | _ => simp only [V.ids, List.mem_singleton, forall_eq] at h <;> first | rfl | (simp only [h]; done)
theorem aIndexAddr_congr {t : TypeId} {x i : V} (h : ∀ id ∈ x.ids, hv' id = hv id) : aIndexAddr P hv' t x i = aIndexAddr P hv t x i := by
 unfold aIndexAddr
 cases x with
 | d y => cases y <;> rfl
 | _ => simp only [V.ids, List.mem_singleton, forall_eq] at h <;> first | rfl | (simp only [h]; done)
theorem aLen_congr {t : TypeId} {x : V} (h : ∀ id ∈ x.ids, hv' id = hv id) : aLen P hv' t x = aLen P hv t x := by
 unfold aLen
 cases x with
 | d y => cases y <;> rfl
 | _ => simp only [V.ids, List.mem_singleton, forall_eq] at h <;> first | rfl | (simp only [h]; done)

theorem elemsOf_congr {s : Nat} {x : V} (h : ∀ id ∈ x.ids, hv' id = hv id) : elemsOf hv' s x = elemsOf hv s x := by
 unfold elemsOf
 cases x with
 | d y => cases y <;> rfl
 | _ => simp only [V.ids, List.mem_singleton, forall_eq] at h <;> first | rfl | (simp only [h]; done)
theorem mapOf_congr {x : V} (h : ∀ id ∈ x.ids, hv' id = hv id) : mapOf hv' x = mapOf hv x := by
 unfold mapOf
 cases x with
 | d y => cases y <;> rfl
 | _ => simp only [V.ids, List.mem_singleton, forall_eq] at h <;> first | rfl | (simp only [h]; done)
theorem aAppend_congr {t xt : TypeId} {a x : V} {nid : Nat} (ha : ∀ id ∈ a.ids, hv' id = hv id) (hx : ∀ id ∈ x.ids, hv' id = hv id) : aAppend P hv' t xt a x nid = aAppend P hv t xt a x nid := by
 unfold aAppend
 simp only [elemsOf_congr hx]
 cases a with
 | slr id lo n =>
  simp only [V.ids, List.mem_singleton, forall_eq] at ha
  cases lo with
  | zero => simp only [ha]
  | succ lo => rfl
 | _ => rfl
theorem aSlice_congr {t : TypeId} {x : V} {lo hi mx : Option V} {nid : Nat} (h : ∀ id ∈ x.ids, hv' id = hv id) : aSlice P hv' t x lo hi mx nid = aSlice P hv t x lo hi mx nid := by
 unfold aSlice
 cases x with
 | d y => cases y <;> rfl
 | _ => simp only [V.ids, List.mem_singleton, forall_eq] at h <;> first | rfl | (simp only [h]; done)
theorem aLookup_congr {t : TypeId} {x i : V} {c : Bool} (h : ∀ id ∈ x.ids, hv' id = hv id) : aLookup P hv' t x i c = aLookup P hv t x i c := by
 unfold aLookup
 simp only [mapOf_congr h]
theorem aMapUpdate_congr {t : TypeId} {m k x : V} (h : ∀ id ∈ m.ids, hv' id = hv id) : aMapUpdate P hv' t m k x = aMapUpdate P hv t m k x := by
 unfold aMapUpdate
 cases hti : tiOf P t with
 | none => rfl
 | some i =>
  obtain ⟨u, _, _, _⟩ := i
  cases u with
  | map kt et =>
   simp only
   cases tiOf P kt with
   | none => cases m <;> rfl
   | some ki =>
    cases m with
    | mpr id =>
     have := h id (by simp [V.ids])
     cases k with
     | d k => simp only [this]
     | _ => rfl
    | _ => rfl
  | _ => rfl
theorem aConvert2_congr {s d : TypeId} {x : V} {nid : Nat} (h : ∀ id ∈ x.ids, hv' id = hv id) : aConvert2 P hv' s d x nid = aConvert2 P hv s d x nid := by
 unfold aConvert2
 simp only [elemsOf_congr h]
theorem aConvert3_congr {s d : TypeId} {x : V} {nid : Nat} (h : ∀ id ∈ x.ids, hv' id = hv id) : aConvert3 P hv' s d x nid = aConvert3 P hv s d x nid := by
 unfold aConvert3
 cases x with
 | ptr id j => simp only [V.ownPtr, aConvP, h id (by simp [V.ids])]
 | _ => simp only [V.ownPtr, aConvert2_congr h]
theorem aUString_congr {pt : TypeId} {p n : V} (h : ∀ id ∈ p.ids, hv' id = hv id) : aUString P hv' pt p n = aUString P hv pt p n := by
 unfold aUString
 split
 ·rfl
 ·rename_i id m
  rw [h id (by simp [V.ids])]
 ·rfl

theorem aRange_congr {t : TypeId} {x : V} {nid : Nat} (h : ∀ id ∈ x.ids, hv' id = hv id) : aRange P hv' t x nid = aRange P hv t x nid := by
 unfold aRange
 split
 ·split
  ·rename_i id; rw [h id (by simp [V.ids])]
  ·rfl
  ·rfl
 ·rfl
theorem aCopy_congr {t : TypeId} {d x : V} (hd : ∀ id ∈ d.ids, hv' id = hv id) (hx : ∀ id ∈ x.ids, hv' id = hv id) : aCopy P hv' t d x = aCopy P hv t d x := by
 unfold aCopy
 simp only [elemsOf_congr hx]
 cases d with
 | slr id lo n => simp only [hd id (by simp [V.ids])]
 | _ => rfl
theorem aMapEntry_congr {t : TypeId} {m k : V} (hm : ∀ id ∈ m.ids, hv' id = hv id) : aMapEntry P hv' t m k = aMapEntry P hv t m k := by
 unfold aMapEntry
 cases hti : tiOf P t with
 | none => rfl
 | some i =>
  obtain ⟨u, _, _, _⟩ := i
  cases u with
  | map kt et =>
   simp only
   cases tiOf P kt with
   | none => rfl
   | some ki =>
    cases tiOf P et with
    | none => rfl
    | some ei =>
     cases m with
     | mpr id =>
      cases k with
      | d k => simp only [hm id (by simp [V.ids])]
      | _ => rfl
     | _ => rfl
  | _ => rfl
theorem aEntryStore_congr {m s x : V} (hm : ∀ id ∈ m.ids, hv' id = hv id) : aEntryStore hv' m s x = aEntryStore hv m s x := by
 unfold aEntryStore
 cases m with
 | mpr id =>
  have := hm id (by simp [V.ids])
  cases s with
  | d y =>
   cases y with
   | int k n => cases k <;> first | rfl | simp only [this]
   | _ => rfl
  | _ => rfl
 | _ => rfl
theorem aClear_congr {t : TypeId} {x : V} (hx : ∀ id ∈ x.ids, hv' id = hv id) : aClear P hv' t x = aClear P hv t x := by
 unfold aClear
 cases x with
 | slr id lo n => simp only [hx id (by simp [V.ids])]
 | _ => rfl
theorem aop_congr {ev ev' : Operand → V} {nid : Nat} {o : Op} (he : ∀ x ∈ o.operands, ev' x = ev x) (hh : ∀ id ∈ opIds ev o, hv' id = hv id) : aop P hv' ev' nid o = aop P hv ev nid o := by
  have hid : opIds ev o = opIdsL ev o.operands.toList → ∀ x ∈ o.operands, ∀ id ∈ (ev x).ids, hv' id = hv id := fun e x hx id hid => hh id (by rw [e]; exact mem_opIdsL (by simpa using hx) hid)
  have hparts : ∀ parts : Array (Nat × Operand), (∀ x ∈ (parts.toList.map (·.2)).toArray, ev' x = ev x) → (parts.toList.map fun (i, x) => (i, ev' x)) = parts.toList.map fun (i, x) => (i, ev x) := by
    intro parts hp
    refine List.map_congr_left fun p hm => ?_
    obtain ⟨i, x⟩ := p
    simp only [hp x (by simpa using ⟨i, by simpa using hm⟩)]
  unfold aop
  split <;> first
    | (replace hid := hid rfl; simp only [Op.operands, Call.operands] at he hid)
    | (clear hid hh; simp only [Op.operands, Call.operands] at he)
    | skip
  all_goals first
    | rfl
    | (simp only [hparts _ he]; done)
    | (simp_all; done)
    | (rename_i t a; rw [he a (by simp)]; exact aLoad_congr (hid a (by simp)))
    | (rename_i t a x; rw [he a (by simp), he x (by simp)]; exact aStore_congr (hid a (by simp)))
    | (rename_i t x i; rw [he x (by simp), he i (by simp)]; exact aIndexAddr_congr (hid x (by simp)))
    | (rename_i x t; rw [he x (by simp)]; exact aLen_congr (hid x (by simp)))
    | (rename_i x t; rw [he x (by simp)]; exact aClear_congr (hid x (by simp)))
    | (rename_i s d x; rw [he x (by simp)]; exact aConvert3_congr (hid x (by simp)))
    | (rename_i d x t xt; rw [he d (by simp), he x (by simp)]; exact aCopy_congr (hid d (by simp)) (hid x (by simp)))
    | (rename_i t x; rw [he x (by simp)]; exact aRange_congr (hid x (by simp)))
    | (rename_i p n pt it; rw [he p (by simp), he n (by simp)]; exact aUString_congr (hid p (by simp)))
    | (rename_i a x t xt; rw [he a (by simp), he x (by simp)]; exact aAppend_congr (hid a (by simp)) (hid x (by simp)))
    | (rename_i t x i c; rw [he x (by simp), he i (by simp)]; exact aLookup_congr (hid x (by simp)))
    | (rename_i t m k x; rw [he m (by simp), he k (by simp), he x (by simp)]; exact aMapUpdate_congr (hid m (by simp)))
    | (rename_i t m k; rw [he m (by simp), he k (by simp)]; exact aMapEntry_congr (hid m (by simp)))
    | (rename_i t m s x; rw [he m (by simp), he s (by simp), he x (by simp)]; exact aEntryStore_congr (hid m (by simp)))
    | (rename_i t x lo hi mx
       have e1 : lo.map ev' = lo.map ev := by cases lo with | none => rfl | some y => simp [he y (by simp)]
       have e2 : hi.map ev' = hi.map ev := by cases hi with | none => rfl | some y => simp [he y (by simp)]
       have e3 : mx.map ev' = mx.map ev := by cases mx with | none => rfl | some y => simp [he y (by simp)]
       rw [he x (by simp), e1, e2, e3]; exact aSlice_congr (hid x (by simp)))
    | (rename_i fn first caps
       have e1 : first.toList.map ev' = first.toList.map ev := List.map_congr_left fun y hy => he y (by simp at hy ⊢; exact .inl hy)
       have e2 : caps.toList.map ev' = caps.toList.map ev := List.map_congr_left fun y hy => he y (by simp at hy ⊢; exact .inr hy)
       rw [e1, e2])
end

/-- What an operation did. -/
inductive Tr where
 | skip
 | step (x : V) (u : List (Nat × Option O)) (rd : List Nat)

def Tr.wids : Tr → List Nat
 | .skip => []
 | .step _ u _ => u.map (·.1)
def Tr.rids : Tr → List Nat
 | .skip => []
 | .step _ _ rd => rd
def St.doT (s : St) (dst : Option Nat) : Tr → St
 | .skip => s.skip dst
 | .step x u _ => s.put dst x u

/-- One operation, its step written down. -/
def aStepT (P : Program) (st : St) (i : Nat) (o : Oper) (K : St → Tr → Prop) : Prop :=
 match o.op with
 | .call ⟨.value fo, args, _⟩ => match st.ev fo with
  | .fn f caps => ∃ x u rd, (∀ hv', (∀ id ∈ rd, hv' id = st.hv id) → CallStep P hv' (st.c + i) f (args.toList.map st.ev ++ caps) x u) ∧ K (st.put o.dst x u) (.step x u rd)
  | _ => False
 | .next _ false => False
 | .entry _ => False
 | op => match aop P st.hv st.ev (64 * (st.c + i)) op with
  | some r => r.ob ∧ K (st.put o.dst r.v r.upd) (.step r.v r.upd (opIds st.ev op))
  | none => False

def aRunT (P : Program) (ops : Array Oper) : List Nat → St → List Tr → (St → List Tr → Prop) → Prop
 | [], st, tr, K => K st tr
 | i :: rest, st, tr, K => match ops[i]? with
  | none => False
  | some o => match st.want ops o with
   | some true => (∀ d, o.dst = some d → d < st.n) ∧ aStepT P st i o (fun st' t => aRunT P ops rest st' (tr ++ [t]) K)
   | some false => aRunT P ops rest (st.skip o.dst) (tr ++ [.skip]) K
   | none => False

def rtmps (ops : Array Oper) (o : Oper) : List Nat :=
 (o.op.operands.toList.filterMap fun | .tmp t => some t | _ => none) ++ (match o.guard with
  | some (j, _) => ((ops[j]?).bind (·.dst)).toList
  | none => [])

def befOf (ops : List Oper) (acc : List Nat) : List Nat := match ops with
 | [] => acc
 | o :: rest => befOf rest (acc ++ [o.after.toList.foldl (fun s e => if Region.binds .any e = true then s ||| 2 ^ e.on ||| acc.getD e.on 0 else s) 0])

def inter (a b : List Nat) : Bool := a.any fun x => b.contains x
def confl (ops : Array Oper) (oi oj : Oper) (ti tj : Tr) : Bool :=
 inter oi.dst.toList (rtmps ops oj ++ oj.dst.toList) || inter oj.dst.toList (rtmps ops oi) || inter ti.wids (tj.rids ++ tj.wids) || inter tj.wids ti.rids
def regOk (ops : Array Oper) (tr : List Tr) : Bool :=
 let b := befOf ops.toList []
 (ops.toList.zipIdx.all fun (o, i) => o.after.toList.all fun e => !Region.binds .any e || decide (e.on < i)) &&
 (ops.toList.zip tr).zipIdx.all fun (oj, j) => ((ops.toList.zip tr).take j).zipIdx.all fun (oi, i) => !confl ops oi.1 oj.1 oi.2 oj.2 || (b.getD j 0).testBit i

section
variable {P : Program} {cx : Cx}

/-- The values of the slots when the operations of L have been carried out. -/
def eV (st : St) (ops : Array Oper) (tr : List Tr) (L : Nat → Bool) : Nat → Nat → Option V
 | 0, t => lk st.env t
 | m + 1, t => if L m = true ∧ (ops[m]?).bind (·.dst) = some t then (match tr[m]? with
   | some (.step x _ _) => some x
   | _ => some (.tup [])) else eV st ops tr L m t
def hV (st : St) (tr : List Tr) (L : Nat → Bool) : Nat → Nat → Option O
 | 0, id => st.hv id
 | m + 1, id => if L m = true then (match tr[m]? with
   | some (.step _ u _) => (match lk u id with
    | some o => o
    | none => hV st tr L m id)
   | _ => hV st tr L m id) else hV st tr L m id

theorem eV_agree {st : St} {ops : Array Oper} {tr : List Tr} {L L' : Nat → Bool} {t : Nat} : ∀ m, (∀ j, j < m → (ops[j]?).bind (·.dst) = some t → L j = L' j) → eV st ops tr L m t = eV st ops tr L' m t
 | 0, _ => rfl
 | m + 1, h => by
  have ih := eV_agree (st := st) (tr := tr) m fun j hj hd => h j (by omega) hd
  simp only [eV]
  by_cases hd : (ops[m]?).bind (·.dst) = some t
  ·rw [h m (by omega) hd, ih]
  ·simp [hd, ih]
theorem eV_past {st : St} {ops : Array Oper} {tr : List Tr} {L : Nat → Bool} {t i : Nat} : ∀ m, i ≤ m → (∀ j, i ≤ j → j < m → (ops[j]?).bind (·.dst) = some t → L j = false) → eV st ops tr L m t = eV st ops tr L i t
  | 0, h, _ => by have : i = 0 := by omega
                  subst this; rfl
  | m + 1, h, hj => by
    by_cases e : i = m + 1
    · subst e; rfl
    · have ih := eV_past (st := st) (tr := tr) m (by omega) fun j h1 h2 hd => hj j h1 (by omega) hd
      simp only [eV]
      rw [if_neg, ih]
      rintro ⟨h1, h2⟩
      rw [hj m (by omega) (by omega) h2] at h1
      cases h1
theorem hV_agree {st : St} {tr : List Tr} {L L' : Nat → Bool} {id : Nat} : ∀ m, (∀ j t, j < m → tr[j]? = some t → id ∈ t.wids → L j = L' j) → hV st tr L m id = hV st tr L' m id
 | 0, _ => rfl
 | m + 1, h => by
  have ih := hV_agree (st := st) m fun j t hj ht hd => h j t (by omega) ht hd
  simp only [hV]
  cases htr : tr[m]? with
  | none => simp [ih]
  | some t =>
   cases t with
   | skip => simp [ih]
   | step x u rd =>
    simp only
    cases hl : lk u id with
    | none => simp [ih]
    | some o =>
     have hmem : id ∈ (Tr.step x u rd).wids := by
      simp only [Tr.wids]
      clear htr ih h
      induction u with
      | nil => simp [lk] at hl
      | cons p u ihu =>
       obtain ⟨k, y⟩ := p
       simp only [lk] at hl
       split at hl
       ·rename_i e; simp [e]
       ·simp [ihu hl]
     rw [h m _ (by omega) htr hmem, ih]
theorem mem_wids {x : V} {u : List (Nat × Option O)} {rd : List Nat} {id : Nat} {o : Option O} (hl : lk u id = some o) : id ∈ (Tr.step x u rd).wids := by
 simp only [Tr.wids]
 induction u with
 | nil => simp [lk] at hl
 | cons p u ihu =>
  obtain ⟨k, y⟩ := p
  simp only [lk] at hl
  split at hl
  ·rename_i e; simp [e]
  ·simp [ihu hl]
theorem hV_past {st : St} {tr : List Tr} {L : Nat → Bool} {id i : Nat} : ∀ m, i ≤ m → (∀ j t, i ≤ j → j < m → tr[j]? = some t → id ∈ t.wids → L j = false) → hV st tr L m id = hV st tr L i id
  | 0, h, _ => by have : i = 0 := by omega
                  subst this; rfl
  | m + 1, h, hj => by
    by_cases e : i = m + 1
    · subst e; rfl
    · have ih := hV_past (st := st) m (by omega) fun j t h1 h2 ht hd => hj j t h1 (by omega) ht hd
      simp only [hV]
      split
      · rename_i hL
        cases htr : tr[m]? with
        | none => simp [ih]
        | some t =>
          cases t with
          | skip => simp [ih]
          | step x u rd =>
            simp only
            cases hl : lk u id with
            | none => exact ih
            | some o =>
              have := hj m _ (by omega) (by omega) htr (mem_wids hl)
              rw [hL] at this
              cases this
      · exact ih

/-- The state ahead of operation i, in the order of the text. -/
def stAt (st : St) (ops : Array Oper) (tr : List Tr) : Nat → St
 | 0 => st
 | i + 1 => match tr[i]? with
  | some t => (stAt st ops tr i).doT ((ops[i]?).bind (·.dst)) t
  | none => stAt st ops tr i

theorem stAt_env {st : St} {ops : Array Oper} {tr : List Tr} (t : Nat) : ∀ m, m ≤ tr.length → lk (stAt st ops tr m).env t = eV st ops tr (fun _ => true) m t
 | 0, _ => rfl
 | m + 1, hm => by
  have ih := stAt_env (st := st) (ops := ops) (tr := tr) t m (by omega)
  have hl : m < tr.length := by omega
  simp only [stAt, eV, List.getElem?_eq_getElem hl]
  cases tr[m] with
  | skip =>
   simp only [St.doT, St.skip]
   cases hd : (ops[m]?).bind (·.dst) with
   | none => simpa using ih
   | some d =>
    simp only [lk, true_and, Option.some.injEq]
    split
    ·rfl
    ·exact ih
  | step x u rd =>
   simp only [St.doT, St.put]
   cases hd : (ops[m]?).bind (·.dst) with
   | none => simpa using ih
   | some d =>
    simp only [lk, true_and, Option.some.injEq]
    split
    ·rfl
    ·exact ih
theorem doT_hv (s : St) (d : Option Nat) (x : V) (u : List (Nat × Option O)) (rd : List Nat) (id : Nat) : (s.doT d (.step x u rd)).hv id = match lk u id with
  | some o => o
  | none => s.hv id := by
 simp only [St.doT]
 rw [hv_put]
 rfl
theorem stAt_hv {st : St} {ops : Array Oper} {tr : List Tr} (id : Nat) : ∀ m, m ≤ tr.length → (stAt st ops tr m).hv id = hV st tr (fun _ => true) m id
 | 0, _ => rfl
 | m + 1, hm => by
  have ih := stAt_hv (st := st) (ops := ops) (tr := tr) id m (by omega)
  have hl : m < tr.length := by omega
  simp only [stAt, hV, List.getElem?_eq_getElem hl, if_true]
  cases tr[m] with
  | skip => exact ih
  | step x u rd => rw [doT_hv]; simp only [ih]
theorem stAt_n {st : St} {ops : Array Oper} {tr : List Tr} : ∀ m, (stAt st ops tr m).n = st.n ∧ (stAt st ops tr m).c = st.c
 | 0 => ⟨rfl, rfl⟩
 | m + 1 => by
  have ih := stAt_n (st := st) (ops := ops) (tr := tr) m
  simp only [stAt]
  split
  ·rename_i t _
   cases t <;> exact ih
  ·exact ih

/-- What the run in the order of the text has shown. -/
def StepOk (P : Program) (ops : Array Oper) (s : St) (i : Nat) (t : Tr) : Prop := ∃ o, ops[i]? = some o ∧ match t with
 | .skip => s.want ops o = some false
 | .step x u rd => s.want ops o = some true ∧ (∀ d, o.dst = some d → d < s.n) ∧ aStepT P s i o (fun _ t => t = .step x u rd)

theorem aStepT_split {s : St} {i : Nat} {o : Oper} {K : St → Tr → Prop} (h : aStepT P s i o K) : ∃ x u rd, aStepT P s i o (fun _ t => t = .step x u rd) ∧ K (s.put o.dst x u) (.step x u rd) := by
 unfold aStepT at h ⊢
 split at h
 ·split at h
  ·obtain ⟨x, u, rd, h1, h2⟩ := h
   exact ⟨x, u, rd, ⟨x, u, rd, h1, rfl⟩, h2⟩
  ·cases h
 ·cases h
 ·cases h
 ·split at h
  ·rename_i r hr
   exact ⟨r.v, r.upd, _, ⟨h.1, rfl⟩, h.2⟩
  ·cases h

theorem stAt_snoc {st : St} {ops : Array Oper} {tr : List Tr} (t : Tr) : ∀ m, m ≤ tr.length → stAt st ops (tr ++ [t]) m = stAt st ops tr m
 | 0, _ => rfl
 | m + 1, h => by
  simp only [stAt, stAt_snoc (st := st) (ops := ops) (tr := tr) t m (by omega), List.getElem?_append_left (show m < tr.length by omega)]

theorem aRunT_split {ops : Array Oper} {st : St} {K : St → List Tr → Prop} : ∀ (k : Nat) (tr : List Tr), tr.length + k = ops.size → (∀ i t, tr[i]? = some t → StepOk P ops (stAt st ops tr i) i t) →
    aRunT P ops ((List.range ops.size).drop tr.length) (stAt st ops tr tr.length) tr K → ∃ tr', tr'.length = ops.size ∧ (∀ i t, tr'[i]? = some t → StepOk P ops (stAt st ops tr' i) i t) ∧ K (stAt st ops tr' ops.size) tr'
  | 0, tr, hk, hs, h => by
    have e : (List.range ops.size).drop tr.length = [] := List.drop_eq_nil_of_le (by simp; omega)
    rw [e] at h
    simp only [aRunT] at h
    exact ⟨tr, by omega, hs, by have : tr.length = ops.size := by omega
                                rwa [this] at h⟩
  | k + 1, tr, hk, hs, h => by
    have hlt : tr.length < ops.size := by omega
    have e : (List.range ops.size).drop tr.length = tr.length :: (List.range ops.size).drop (tr.length + 1) := by
      rw [List.drop_eq_getElem_cons (by simpa using hlt)]
      simp
    rw [e] at h
    simp only [aRunT, Array.getElem?_eq_getElem hlt] at h
    have next : ∀ t, StepOk P ops (stAt st ops tr tr.length) tr.length t → aRunT P ops ((List.range ops.size).drop (tr.length + 1)) ((stAt st ops tr tr.length).doT (ops[tr.length]).dst t) (tr ++ [t]) K →
        ∃ tr', tr'.length = ops.size ∧ (∀ i t, tr'[i]? = some t → StepOk P ops (stAt st ops tr' i) i t) ∧ K (stAt st ops tr' ops.size) tr' := by
      intro t ht hrest
      refine aRunT_split k (tr ++ [t]) (by simp; omega) ?_ ?_
      · intro i t' hi
        rcases Nat.lt_or_ge i tr.length with h' | h'
        · rw [stAt_snoc t i (by omega)]
          rw [List.getElem?_append_left h'] at hi
          exact hs i t' hi
        · have : i = tr.length := by
            rcases Nat.lt_or_ge i (tr ++ [t]).length with h'' | h''
            · simp at h''; omega
            · simp [List.getElem?_eq_none h''] at hi
          subst this
          simp at hi
          subst hi
          rw [stAt_snoc t _ (Nat.le_refl _)]
          exact ht
      · have e2 : stAt st ops (tr ++ [t]) (tr ++ [t]).length = (stAt st ops tr tr.length).doT (ops[tr.length]).dst t := by
          simp only [List.length_append, List.length_cons, List.length_nil, Nat.zero_add, stAt]
          rw [stAt_snoc t _ (Nat.le_refl _)]
          simp [Array.getElem?_eq_getElem hlt]
        rw [e2]
        simpa using hrest
    split at h
    · rename_i hw
      obtain ⟨hd, h⟩ := h
      obtain ⟨x, u, rd, h1, h2⟩ := aStepT_split h
      exact next (.step x u rd) ⟨_, Array.getElem?_eq_getElem hlt, hw, hd, h1⟩ h2
    · rename_i hw
      exact next .skip ⟨_, Array.getElem?_eq_getElem hlt, hw⟩ h
    · cases h
end
end Go.AX

namespace Go.AX
open Go

theorem foldl_bits (f : Nat → Nat) (l : List Edge) : ∀ (s j : Nat), (l.foldl (fun s e => if Region.binds .any e = true then s ||| 2 ^ e.on ||| f e.on else s) s).testBit j = true →
  s.testBit j = true ∨ ∃ e ∈ l, Region.binds .any e = true ∧ (e.on = j ∨ (f e.on).testBit j = true) := by
 induction l with
 | nil => intro s j h; exact .inl h
 | cons e l ih =>
  intro s j h
  simp only [List.foldl_cons] at h
  rcases ih _ _ h with h' | ⟨e', h1, h2, h3⟩
  ·split at h'
   ·rename_i hb
    simp only [Nat.testBit_or, Bool.or_eq_true] at h'
    rcases h' with (h' | h') | h'
    ·exact .inl h'
    ·right
     refine ⟨e, by simp, hb, .inl ?_⟩
     simpa [Nat.testBit_two_pow] using h'
    ·exact .inr ⟨e, by simp, hb, .inr h'⟩
   ·exact .inl h'
  ·exact .inr ⟨e', by simp [h1], h2, h3⟩

theorem befOf_prefix : ∀ (ops : List Oper) (acc : List Nat), ∃ r, befOf ops acc = acc ++ r
 | [], acc => ⟨[], by simp [befOf]⟩
 | o :: ops, acc => by
  simp only [befOf]
  obtain ⟨r, hr⟩ := befOf_prefix ops (acc ++ [o.after.toList.foldl (fun s e => if Region.binds .any e = true then s ||| 2 ^ e.on ||| acc.getD e.on 0 else s) 0])
  rw [hr]
  exact ⟨_, List.append_assoc _ _ _⟩
theorem befOf_spec : ∀ (ops : List Oper) (acc : List Nat) (k : Nat) (o : Oper), ops[k]? = some o → ∀ j, ((befOf ops acc).getD (acc.length + k) 0).testBit j = true →
  ∃ e ∈ o.after.toList, Region.binds .any e = true ∧ (e.on = j ∨ ((befOf ops acc).getD e.on 0).testBit j = true)
 | [], _, k, o, h, _, _ => by simp at h
 | o :: ops, acc, 0, o', h, j, hj => by
  simp at h
  subst h
  simp only [befOf, Nat.add_zero] at hj ⊢
  obtain ⟨r, hr⟩ := befOf_prefix ops (acc ++ [o.after.toList.foldl (fun s e => if Region.binds .any e = true then s ||| 2 ^ e.on ||| acc.getD e.on 0 else s) 0])
  rw [hr] at hj ⊢
  have e1 : (acc ++ [o.after.toList.foldl (fun s e => if Region.binds .any e = true then s ||| 2 ^ e.on ||| acc.getD e.on 0 else s) 0] ++ r).getD acc.length 0 = o.after.toList.foldl (fun s e => if Region.binds .any e = true then s ||| 2 ^ e.on ||| acc.getD e.on 0 else s) 0 := by
   simp [List.getD_eq_getElem?_getD]
  rw [e1] at hj
  rcases foldl_bits (fun k => acc.getD k 0) _ _ _ hj with h' | ⟨e, h1, h2, h3⟩
  ·simp at h'
  ·refine ⟨e, h1, h2, h3.imp id fun h => ?_⟩
   rcases Nat.lt_or_ge e.on acc.length with hl | hl
   ·simp only [List.getD_eq_getElem?_getD, List.append_assoc] at h ⊢
    rw [List.getElem?_append_left hl]
    exact h
   ·simp [List.getD_eq_getElem?_getD, List.getElem?_eq_none hl] at h
 | o :: ops, acc, k + 1, o', h, j, hj => by
  simp only [befOf] at hj ⊢
  have := befOf_spec ops (acc ++ [o.after.toList.foldl (fun s e => if Region.binds .any e = true then s ||| 2 ^ e.on ||| acc.getD e.on 0 else s) 0]) k o' (by simpa using h) j (by
   have e : (acc ++ [o.after.toList.foldl (fun s e => if Region.binds .any e = true then s ||| 2 ^ e.on ||| acc.getD e.on 0 else s) 0]).length + k = acc.length + (k + 1) := by simp; omega
   rw [e]; exact hj)
  exact this

section
variable {P : Program} {cx : Cx} {ops : Array Oper}

/-- Listed operations have all that must come ahead of them listed. -/
def Closed (ops : Array Oper) (L : Nat → Bool) : Prop := ∀ i o, ops[i]? = some o → L i = true → ∀ e ∈ o.after, Region.binds .any e = true → L e.on = true

theorem closed_bits {L : Nat → Bool} (hc : Closed ops L) (he : ∀ i o, ops[i]? = some o → ∀ e ∈ o.after, Region.binds .any e = true → e.on < i) : ∀ i o, ops[i]? = some o → (∀ e ∈ o.after, Region.binds .any e = true → L e.on = true) →
  ∀ j, ((befOf ops.toList []).getD i 0).testBit j = true → L j = true := by
 intro i
 induction i using Nat.strongRecOn with
 | _ i ih =>
  intro o ho hp j hj
  obtain ⟨e, h1, h2, h3⟩ := befOf_spec ops.toList [] i o (by simpa using ho) j (by simpa using hj)
  have h1' : e ∈ o.after := by simpa using h1
  have hL := hp e h1' h2
  rcases h3 with h3 | h3
  ·rw [← h3]; exact hL
  ·have hlt := he i o ho e h1' h2
   have hsz : i < ops.size := by
    rcases Nat.lt_or_ge i ops.size with h' | h'
    ·exact h'
    ·simp [Array.getElem?_eq_none h'] at ho
   have ho' : ops[e.on]? = some ops[e.on] := Array.getElem?_eq_getElem (by omega)
   exact ih e.on hlt _ ho' (fun e' he' hb' => hc _ _ ho' hL e' he' hb') j h3

structure RegOk (ops : Array Oper) (tr : List Tr) : Prop where
 edge : ∀ i o, ops[i]? = some o → ∀ e ∈ o.after, Region.binds .any e = true → e.on < i
 ord : ∀ i j oi oj ti tj, i < j → ops[i]? = some oi → ops[j]? = some oj → tr[i]? = some ti → tr[j]? = some tj → confl ops oi oj ti tj = true → ((befOf ops.toList []).getD j 0).testBit i = true

theorem RegOk.of {tr : List Tr} (h : regOk ops tr = true) : RegOk ops tr := by
 simp only [regOk, Bool.and_eq_true] at h
 obtain ⟨h1, h2⟩ := h
 constructor
 ·intro i o ho e he hb
  have := List.all_eq_true.1 h1 (o, i) (List.mem_zipIdx_iff_getElem?.2 (by simpa using ho))
  have := List.all_eq_true.1 this e (by simpa using he)
  simpa [hb] using this
 ·intro i j oi oj ti tj hij hoi hoj hti htj hcf
  have z : ∀ (k : Nat) o t, ops[k]? = some o → tr[k]? = some t → (ops.toList.zip tr)[k]? = some (o, t) := by
   intro k o t h1 h2
   rw [List.getElem?_zip_eq_some]
   exact ⟨by simpa using h1, h2⟩
  have := List.all_eq_true.1 h2 ((oj, tj), j) (List.mem_zipIdx_iff_getElem?.2 (z j oj tj hoj htj))
  have := List.all_eq_true.1 this ((oi, ti), i) (List.mem_zipIdx_iff_getElem?.2 (by rw [List.getElem?_take_of_lt hij]; exact z i oi ti hoi hti))
  simpa [hcf] using this

theorem Rel.congr {st st' : St} {F F' : Nat → Prop} {σ : Nat → Option Loc} {a : Act} {w : World} (h : Rel cx st F σ a w) (hn : st'.n = st.n) (he : ∀ t, lk st'.env t = lk st.env t) (hh : ∀ id, st'.hv id = st.hv id) (hF : ∀ id, F' id → F id) : Rel cx st' F' σ a w := by
 have e : st'.hv = st.hv := funext hh
 exact ⟨by rw [e]; exact h.hr, fun id hid => h.fresh id (hF id hid), h.par, by rw [hn]; exact h.tmps, h.defers, fun t v hv => by rw [e]; exact h.env t v (by rw [← he]; exact hv)⟩

theorem getD_set {l : Array Bool} {i j : Nat} (hi : i < l.size) : (l.setIfInBounds i true).getD j false = if j = i then true else l.getD j false := by
 by_cases h : j = i
 ·subst h; simp [hi]
 ·rw [if_neg h]
  simp [Array.getElem?_setIfInBounds_ne (Ne.symm h)]

theorem inter_mem {a b : List Nat} {x : Nat} (h1 : x ∈ a) (h2 : x ∈ b) : inter a b = true := by
 unfold inter
 rw [List.any_eq_true]
 exact ⟨x, h1, by simpa using h2⟩

theorem mem_rtmps {o : Oper} {t : Nat} (h : Operand.tmp t ∈ o.op.operands) : t ∈ rtmps ops o := by
 unfold rtmps
 exact List.mem_append_left _ (List.mem_filterMap.2 ⟨.tmp t, by simpa using h, rfl⟩)

/-- One step of the run, taken in another state that agrees with the text's on all that the operation looks at. -/
theorem step_other (hgl : Gl P cx) {s S : St} {F : Nat → Prop} {σ : Nat → Option Loc} {a : Act} {w : World} (h : Rel cx S F σ a w) {i : Nat} {o : Oper} {x : V} {u : List (Nat × Option O)} {rd : List Nat} (hc : S.c = s.c) (hF : ∀ id, id / 64 = s.c + i → F id)
  (hst : aStepT P s i o (fun _ t => t = .step x u rd)) (ht : ∀ t, t ∈ rtmps ops o → lk S.env t = lk s.env t) (hh : ∀ id ∈ rd, S.hv id = s.hv id) (hd : ∀ d, o.dst = some d → d < S.n)
  {K' : Act → World → Prop} {Q : Exit → Act → World → Prop} (hK : ∀ σ' a' w', Rel cx (S.put o.dst x u) (fun id => F id ∧ id / 64 ≠ s.c + i) σ' a' w' → K' a' w') : o.wp P a w K' Q := by
 have hev : ∀ y ∈ o.op.operands, S.ev y = s.ev y := by
  intro y hy
  cases y with
  | tmp t => simp only [St.ev, ht t (mem_rtmps hy)]
  | _ => rfl
 have hs : aStep P S i o (fun st' => st' = S.put o.dst x u) := by
  unfold aStepT at hst
  unfold aStep
  split at hst
  ·rename_i fo args ats ho
   rw [ho] at hev
   simp only [Op.operands, Call.operands] at hev
   have e1 : S.ev fo = s.ev fo := hev fo (by simp)
   have e2 : args.toList.map S.ev = args.toList.map s.ev := List.map_congr_left fun y hy => hev y (by simp; exact .inr (by simpa using hy))
   rw [ho]
   simp only [e1, e2, hc]
   split at hst
   ·rename_i f caps hfo
    rw [hfo]
    obtain ⟨x', u', rd', h1, h2⟩ := hst
    cases h2
    exact ⟨Unit, _, _, _, (h1 _ hh).toI, fun _ _ => rfl⟩
   ·cases hst
  ·cases hst
  ·cases hst
  ·rename_i op hno hno2 hno3
   split at hst
   ·rename_i r hr
    obtain ⟨h1, h2⟩ := hst
    cases h2
    have e := aop_congr (P := P) (hv := s.hv) (hv' := S.hv) (ev := s.ev) (ev' := S.ev) (nid := 64 * (s.c + i)) (o := o.op) hev hh
    split
    ·rename_i fo args ats ho; exact absurd ho (by intro hh'; exact hno _ _ _ hh')
    ·rename_i it ho; exact absurd ho (by intro hh'; exact hno2 _ hh')
    ·rename_i it ho; exact absurd ho (by intro hh'; exact hno3 _ hh')
    ·rw [hc, e, hr]
     exact ⟨h1, rfl⟩
   ·cases hst
 refine aStep_sound hgl h (i := i) (by rw [hc]; exact hF) hd hs (fun st' σ' a' w' _ e hr => ?_) (fun v u => rfl)
 subst e
 rw [hc] at hr
 exact hK σ' a' w' hr

theorem want_congr {s S : St} {o : Oper} (ht : ∀ t, t ∈ rtmps ops o → lk S.env t = lk s.env t) : S.want ops o = s.want ops o := by
 unfold St.want
 cases hg : o.guard with
 | none => rfl
 | some p =>
  obtain ⟨j, b⟩ := p
  simp only
  cases hd : (ops[j]?).bind (·.dst) with
  | none => rfl
  | some t =>
   simp only
   have hm : t ∈ rtmps ops o := by
    unfold rtmps
    rw [hg]
    refine List.mem_append_right _ ?_
    simp [hd]
   rw [ht t hm]

theorem wpAny_of_run (hgl : Gl P cx) {st : St} {tr : List Tr} {Q : Exit → Act → World → Prop} {F0 : Nat → Prop} (hl : tr.length = ops.size) (hok : RegOk ops tr) (hs : ∀ i t, tr[i]? = some t → StepOk P ops (stAt st ops tr i) i t)
  (hF0 : ∀ i, i < ops.size → ∀ id, id / 64 = st.c + i → F0 id)
  (hQ : ∀ σ a w, Rel cx (stAt st ops tr ops.size) (fun id => F0 id ∧ ∀ i, i < ops.size → id / 64 ≠ st.c + i) σ a w → Q .normal a w) :
  ∀ (fuel : Nat) (listed : Array Bool) (S : St) (σ : Nat → Option Loc) (a : Act) (w : World), listed.size = ops.size → ((List.range ops.size).filter fun i => !listed.getD i false).length ≤ fuel → Closed ops (fun i => listed.getD i false) →
   S.n = st.n → S.c = st.c → (∀ t, lk S.env t = eV st ops tr (fun i => listed.getD i false) ops.size t) → (∀ id, S.hv id = hV st tr (fun i => listed.getD i false) ops.size id) →
   Rel cx S (fun id => F0 id ∧ ∀ i, i < ops.size → listed.getD i false = true → id / 64 ≠ st.c + i) σ a w → wpAny P .any ops Q fuel listed a w := by
 -- all listed: the end
 have fin : ∀ (listed : Array Bool) (S : St) (σ : Nat → Option Loc) (a : Act) (w : World), listed.size = ops.size → (∀ i, i < ops.size → listed.getD i false = true) →
   S.n = st.n → S.c = st.c → (∀ t, lk S.env t = eV st ops tr (fun i => listed.getD i false) ops.size t) → (∀ id, S.hv id = hV st tr (fun i => listed.getD i false) ops.size id) →
   Rel cx S (fun id => F0 id ∧ ∀ i, i < ops.size → listed.getD i false = true → id / 64 ≠ st.c + i) σ a w → Q .normal a w := by
  intro listed S σ a w _ hall hn hc he hh hr
  refine hQ σ a w (hr.congr ?_ ?_ ?_ ?_)
  ·rw [hn]; exact (stAt_n _).1
  ·intro t
   rw [he, stAt_env t _ (by omega)]
   exact (eV_agree _ fun j hj _ => hall j hj).symm
  ·intro id
   rw [hh, stAt_hv id _ (by omega)]
   exact (hV_agree _ fun j t hj _ _ => hall j hj).symm
  ·intro id ⟨h1, h2⟩
   exact ⟨h1, fun i hi _ => h2 i hi⟩
 -- nothing ready: all listed
 have done : ∀ (listed : Array Bool), listed.size = ops.size → Region.ready .any ops listed = [] → ∀ i, i < ops.size → listed.getD i false = true := by
  intro listed hsz hr i
  induction i using Nat.strongRecOn with
  | _ i ih =>
   intro hi
   cases hli : listed.getD i false with
   | true => rfl
   | false =>
    exfalso
    have hm : i ∈ Region.ready .any ops listed := by
     rw [mem_ready]
     refine ⟨?_, ops[i], Array.getElem?_eq_getElem hi, fun e he hb => ?_⟩
     ·have : i < listed.size := by omega
      simp [this] at hli ⊢
      exact hli
     ·have := hok.edge i _ (Array.getElem?_eq_getElem hi) e he hb
      exact ih e.on this (by omega)
    rw [hr] at hm
    cases hm
 intro fuel
 induction fuel with
 | zero =>
  intro listed S σ a w hsz hcnt hcl hn hc he hh hr
  have hall : ∀ i, i < ops.size → listed.getD i false = true := by
   intro i hi
   cases hli : listed.getD i false with
   | true => rfl
   | false =>
    exfalso
    have : i ∈ (List.range ops.size).filter fun i => !listed.getD i false := List.mem_filter.2 ⟨List.mem_range.2 hi, by simp only [hli]; rfl⟩
    have := List.length_pos_of_mem this
    omega
  refine ⟨?_, fin listed S σ a w hsz hall hn hc he hh hr⟩
  cases hrd : Region.ready .any ops listed with
  | nil => rfl
  | cons i r =>
   exfalso
   have hm : i ∈ Region.ready .any ops listed := by rw [hrd]; simp
   rw [mem_ready] at hm
   obtain ⟨h1, o, ho, _⟩ := hm
   have hi : i < ops.size := by
    rcases Nat.lt_or_ge i ops.size with h' | h'
    ·exact h'
    ·simp [Array.getElem?_eq_none h'] at ho
   have h2 := hall i hi
   have h3 : i < listed.size := by omega
   simp [h3] at h1 h2
   rw [h1] at h2
   cases h2
 | succ fuel ih =>
  intro listed S σ a w hsz hcnt hcl hn hc he hh hr
  refine ⟨fun hrd => fin listed S σ a w hsz (done listed hsz hrd) hn hc he hh hr, fun i hi => ?_⟩
  rw [mem_ready] at hi
  obtain ⟨hun, o, ho, hpre⟩ := hi
  have hi : i < ops.size := by
   rcases Nat.lt_or_ge i ops.size with h' | h'
   ·exact h'
   ·simp [Array.getElem?_eq_none h'] at ho
  have hil : i < listed.size := by omega
  have hun' : listed.getD i false = false := by simp [hil] at hun ⊢; exact hun
  obtain ⟨t, htr⟩ : ∃ t, tr[i]? = some t := ⟨_, List.getElem?_eq_getElem (by omega)⟩
  obtain ⟨o', ho', hstep⟩ := hs i t htr
  rw [ho] at ho'
  cases ho'
  -- what conflicts with i and is listed comes ahead of it in the text; what comes ahead of it in the text and conflicts is listed
  have before : ∀ j oj tj, ops[j]? = some oj → tr[j]? = some tj → j < i → confl ops oj o tj t = true → listed.getD j false = true := by
   intro j oj tj hoj htj hji hcf
   have hb := hok.ord j i oj o tj t hji hoj ho htj htr hcf
   exact closed_bits hcl hok.edge i o ho hpre j hb
  have behind : ∀ j oj tj, ops[j]? = some oj → tr[j]? = some tj → i ≤ j → listed.getD j false = true → confl ops o oj t tj = true → False := by
   intro j oj tj hoj htj hij hlj hcf
   rcases Nat.lt_or_ge i j with h' | h'
   ·have hb := hok.ord i j o oj t tj h' ho hoj htr htj hcf
    have := closed_bits hcl hok.edge j oj hoj (fun e he hb => hcl j oj hoj hlj e he hb) i hb
    rw [hun'] at this
    cases this
   ·have : i = j := by omega
    subst this
    rw [hun'] at hlj
    cases hlj
  have getO : ∀ j, j < ops.size → ∃ oj tj, ops[j]? = some oj ∧ tr[j]? = some tj := fun j hj => ⟨_, _, Array.getElem?_eq_getElem hj, List.getElem?_eq_getElem (by omega)⟩
  have dstj : ∀ (j : Nat) (oj : Oper), ops[j]? = some oj → ∀ q, (ops[j]?).bind (·.dst) = some q → oj.dst = some q := by
   intro j oj hoj q hq
   rw [hoj] at hq
   simpa using hq
  -- the slots that i looks at
  have agT : ∀ q, q ∈ rtmps ops o → lk S.env q = lk (stAt st ops tr i).env q := by
   intro q hq
   rw [he, stAt_env q i (by omega)]
   rw [eV_past (i := i) ops.size (by omega)]
   ·refine eV_agree i fun j hj hd => ?_
    obtain ⟨oj, tj, hoj, htj⟩ := getO j (by omega)
    refine before j oj tj hoj htj hj ?_
    have := dstj j oj hoj q hd
    simp only [confl, Bool.or_eq_true]
    exact .inl (.inl (.inl (inter_mem (x := q) (by simp [this]) (by simp [hq]))))
   ·intro j hij hj hd
    obtain ⟨oj, tj, hoj, htj⟩ := getO j hj
    cases hlj : listed.getD j false with
    | false => rfl
    | true =>
     exfalso
     refine behind j oj tj hoj htj hij hlj ?_
     have := dstj j oj hoj q hd
     simp only [confl, Bool.or_eq_true]
     exact .inl (.inl (.inr (inter_mem (x := q) (by simp [this]) hq)))
  have agI : ∀ id, id ∈ t.rids → S.hv id = (stAt st ops tr i).hv id := by
   intro id hid
   rw [hh, stAt_hv id i (by omega)]
   rw [hV_past (i := i) ops.size (by omega)]
   ·refine hV_agree i fun j tj hj htj hw => ?_
    obtain ⟨oj, tj', hoj, htj'⟩ := getO j (by omega)
    rw [htj] at htj'
    cases htj'
    refine before j oj tj hoj htj hj ?_
    simp only [confl, Bool.or_eq_true]
    exact .inl (.inr (inter_mem (x := id) hw (by simp [hid])))
   ·intro j tj hij hj htj hw
    obtain ⟨oj, tj', hoj, htj'⟩ := getO j hj
    rw [htj] at htj'
    cases htj'
    cases hlj : listed.getD j false with
    | false => rfl
    | true =>
     exfalso
     refine behind j oj tj hoj htj hij hlj ?_
     simp only [confl, Bool.or_eq_true]
     exact .inr (inter_mem (x := id) hw hid)
  -- the next state
  have sn := stAt_n (st := st) (ops := ops) (tr := tr) i
  have hset : ∀ j, (listed.setIfInBounds i true).getD j false = if j = i then true else listed.getD j false := fun j => getD_set hil
  have cont : ∀ σ' a' w',
    Rel cx (S.doT o.dst t) (fun id => (F0 id ∧ ∀ j, j < ops.size → listed.getD j false = true → id / 64 ≠ st.c + j) ∧ id / 64 ≠ st.c + i) σ' a' w' → wpAny P .any ops Q fuel (listed.setIfInBounds i true) a' w' := by
   intro σ' a' w' hr'
   refine ih (listed.setIfInBounds i true) (S.doT o.dst t) σ' a' w' (by simpa using hsz) ?_ ?_ ?_ ?_ ?_ ?_ (hr'.congr rfl (fun _ => rfl) (fun _ => rfl) ?_)
   ·have hsub : ((List.range ops.size).filter fun j => !(listed.setIfInBounds i true).getD j false) = ((List.range ops.size).filter fun j => !listed.getD j false).filter fun j => j != i := by
     rw [List.filter_filter]
     refine List.filter_congr fun j _ => ?_
     rw [hset]
     by_cases e : j = i
     ·simp [e]
     ·simp [e]
    rw [hsub]
    have hmem : i ∈ (List.range ops.size).filter fun j => !listed.getD j false := List.mem_filter.2 ⟨List.mem_range.2 hi, by simp only [hun']; rfl⟩
    have hlt : (((List.range ops.size).filter fun j => !listed.getD j false).filter fun j => j != i).length < ((List.range ops.size).filter fun j => !listed.getD j false).length := by
     refine List.length_filter_lt_length_iff_exists.2 ⟨i, hmem, by simp⟩
    omega
   ·intro j oj hoj hlj e he' hb
    simp only [hset] at hlj ⊢
    by_cases e1 : e.on = i
    ·simp [e1]
    ·rw [if_neg e1]
     by_cases e2 : j = i
     ·subst e2
      rw [ho] at hoj
      cases hoj
      exact hpre e he' hb
     ·rw [if_neg e2] at hlj
      exact hcl j oj hoj hlj e he' hb
   ·cases t <;> exact hn
   ·cases t <;> exact hc
   ·intro q
    -- slot q behind the step
    have other : ∀ v, (ops[i]?).bind (·.dst) ≠ some q → lk S.env q = v → eV st ops tr (fun j => (listed.setIfInBounds i true).getD j false) ops.size q = v := by
     intro v hne hv'
     rw [← hv', he]
     refine eV_agree _ fun j hj hd => ?_
     simp only [hset]
     rw [if_neg]
     rintro rfl
     exact hne hd
    have same : o.dst = some q → ∀ v, (match tr[i]? with | some (.step x _ _) => some x | _ => some (V.tup [])) = v → eV st ops tr (fun j => (listed.setIfInBounds i true).getD j false) ops.size q = v := by
     intro hdq v hv'
     rw [eV_past (i := i + 1) ops.size (by omega)]
     ·simp only [eV, hset, if_true, ho, Option.bind_some, hdq, and_self]
      exact hv'
     ·intro j hij hj hd
      obtain ⟨oj, tj, hoj, htj⟩ := getO j hj
      simp only [hset]
      rw [if_neg (by omega)]
      cases hlj : listed.getD j false with
      | false => rfl
      | true =>
       exfalso
       refine behind j oj tj hoj htj (by omega) hlj ?_
       have := dstj j oj hoj q hd
       simp only [confl, Bool.or_eq_true]
       exact .inl (.inl (.inl (inter_mem (x := q) (by simp [hdq]) (by simp [this]))))
    cases hdo : o.dst with
    | none =>
     refine (other _ (by rw [ho]; simp [hdo]) ?_).symm
     cases t <;> rfl
    | some d =>
     by_cases e : d = q
     ·subst e
      refine (same hdo _ ?_).symm
      rw [htr]
      cases t with
      | skip => simp [St.doT, St.skip, lk]
      | step x u rd => simp [St.doT, St.put, lk]
     ·refine (other _ (by rw [ho]; simp [hdo, e]) ?_).symm
      cases t with
      | skip => simp [St.doT, St.skip, lk, e]
      | step x u rd => simp [St.doT, St.put, lk, e]
   ·intro id
    have other : id ∉ t.wids → hV st tr (fun j => (listed.setIfInBounds i true).getD j false) ops.size id = S.hv id := by
     intro hne
     rw [hh]
     refine hV_agree _ fun j tj hj htj hw => ?_
     simp only [hset]
     rw [if_neg]
     rintro rfl
     rw [htr] at htj
     cases htj
     exact hne hw
    cases t with
    | skip => exact (other (by simp [Tr.wids])).symm
    | step x u rd =>
     rw [doT_hv]
     cases hl' : lk u id with
     | none =>
      refine (Eq.symm ?_)
      rw [show hV st tr (fun j => (listed.setIfInBounds i true).getD j false) ops.size id = hV st tr (fun j => listed.getD j false) ops.size id from ?_, ← hh]
      -- id is not written by i, though it may stand in its list
      by_cases hmem : id ∈ (Tr.step x u rd).wids
      ·exfalso
       clear other
       simp only [Tr.wids] at hmem
       have : ∀ (u : List (Nat × Option O)), id ∈ u.map (·.1) → lk u id ≠ none := by
        intro u
        induction u with
        | nil => simp
        | cons p u ihu =>
         obtain ⟨k, y⟩ := p
         intro hm
         simp only [lk]
         split
         ·simp
         ·rename_i hk
          refine ihu ?_
          simp only [List.map_cons, List.mem_cons] at hm
          rcases hm with hm | hm
          ·exact absurd hm.symm hk
          ·exact hm
       exact this u hmem hl'
      ·rw [other hmem, hh]
     | some oo =>
      simp only
      rw [hV_past (i := i + 1) ops.size (by omega)]
      ·simp only [hV, hset, if_true, htr, hl']
      ·intro j tj hij hj htj hw
       obtain ⟨oj, tj', hoj, htj'⟩ := getO j hj
       rw [htj] at htj'
       cases htj'
       simp only [hset]
       rw [if_neg (by omega)]
       cases hlj : listed.getD j false with
       | false => rfl
       | true =>
        exfalso
        refine behind j oj tj hoj htj (by omega) hlj ?_
        simp only [confl, Bool.or_eq_true]
        exact .inl (.inr (inter_mem (x := id) (mem_wids hl') (by simp [hw])))
   ·intro id ⟨h1, h2⟩
    refine ⟨⟨h1, fun j hj hlj => h2 j hj ?_⟩, h2 i hi ?_⟩
    ·rw [hset]; split
     ·rfl
     ·exact hlj
    ·rw [hset, if_pos rfl]
  unfold wpOp
  rw [ho]
  simp only
  have hwc := want_congr (s := stAt st ops tr i) (S := S) agT
  cases t with
  | skip =>
   have hw := hr.want (hwc.trans hstep)
   rw [hw]
   simp only [Bool.false_eq_true, if_false]
   refine cont σ _ w ((hr.skip o.dst).congr rfl (fun _ => rfl) (fun _ => rfl) ?_)
   intro id ⟨h1, _⟩
   exact h1
  | step x u rd =>
   obtain ⟨hw, hd, hst⟩ := hstep
   have hw' := hr.want (hwc.trans hw)
   rw [hw']
   simp only [if_true]
   refine .inl (step_other hgl hr (s := stAt st ops tr i) (i := i) (by rw [hc, sn.2]) ?_ hst agT (fun id hid => agI id hid) (by intro d hd'; rw [hn, ← sn.1]; exact hd d hd') ?_)
   ·intro id hid
    rw [sn.2] at hid
    refine ⟨hF0 i hi id hid, fun j hj hlj => ?_⟩
    intro e
    have : i = j := by omega
    subst this
    rw [hun'] at hlj
    cases hlj
   ·intro σ' a' w' hr'
    rw [sn.2] at hr'
    exact cont σ' a' w' hr'
end
end Go.AX
