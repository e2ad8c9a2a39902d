/- AX, part 7e: maps with plain keys. -/
import Derived.Test.YtecggjfjafnepaaGreatDoorAx7d
import Derived.Test.YtecggjfjafnepaaGreatDoorAx4b
import Derived.ChangeKeysEq
namespace Go.AX
open Go

/-- Two plain values, compared. -/
def sameP : D → D → Option Bool
 | .int k a, .int k' b => if k = k' then some (a == b) else none
 | .str a, .str b => some (a == b)
 | .bool a, .bool b => some (a == b)
 | _, _ => none
def sameL : List D → List D → Option Bool
 | [], [] => some true
 | a :: as, b :: bs => match sameP a b, sameL as bs with
  | some r, some s => some (r && s)
  | _, _ => none
 | _, _ => none
/-- Two keys, compared: plain ones, or rows of plain ones. -/
def sameK : D → D → Option Bool
 | .int k a, .int k' b => if k = k' then some (a == b) else none
 | .str a, .str b => some (a == b)
 | .bool a, .bool b => some (a == b)
 | .agg as, .agg bs => sameL as bs
 | _, _ => none
/-- The place of a key. -/
def fndK (k : D) : List D → Option (Option Nat)
 | [] => some none
 | x :: xs => match sameK k x with
  | some true => some (some 0)
  | some false => match fndK k xs with
   | some (some i) => some (some (i + 1))
   | some none => some none
   | none => none
  | none => none
def plainK (u : TU) : D → Bool
 | .int k _ => match u with
  | .int k' => k == k'
  | _ => false
 | .str _ => match u with
  | .str => true
  | _ => false
 | .bool _ => match u with
  | .bool => true
  | _ => false
 | _ => false

/-- The fields of a struct, one cell each, in order, are plain. -/
def fieldsK (P : Program) : Nat → List D → List (Nat × Nat) → Bool
 | _, [], [] => true
 | i, c :: cs, (off, ft) :: fs => Nat.beq off i && (match tiOf P ft with
  | some fi => plainK fi.u c
  | none => false) && fieldsK P (i + 1) cs fs
 | _, _, _ => false
/-- A row of plain values is a key of the type. -/
def aggK (P : Program) (kt : TypeId) (u : TU) : D → Bool
 | .agg cs => match u with
  | .struct fs => eqOk P kt && fieldsK P 0 cs fs
  | .arr n e => Nat.beq n cs.length && (match tiOf P e with
   | some ei => Nat.beq ei.size 1 && cs.all (plainK ei.u)
   | none => false)
  | _ => false
 | _ => false
def keyOk (P : Program) (kt : TypeId) (u : TU) (k : D) : Bool := plainK u k || aggK P kt u k

def aMakeMap (nid : Nat) : Option Res := some ⟨.mpr nid, [(nid, some (.map [] []))], True⟩
def mapOf (hv : Nat → Option O) : V → Option (List D × List V)
 | .d (.map ks vs) => some (ks, vs.map .d)
 | .mpr id => match hv id with
  | some (.map ks vs) => some (ks, vs)
  | _ => none
 | _ => none
def pairV (commaOk : Bool) (v : V) (ok : Bool) : V := if commaOk = true then .tup [v, .d (.bool ok)] else v
def aLookup (P : Program) (hv : Nat → Option O) (t : TypeId) (x i : V) (commaOk : Bool) : Option Res := match tiOf P t with
 | some ⟨.map kt et, _, _, _⟩ => match tiOf P kt, tiOf P et, mapOf hv x, i with
  | some ki, some ei, some (ks, vs), .d k => if keyOk P kt ki.u k = true then match fndK k ks with
   | some (some j) => match vs[j]? with
    | some v => some ⟨pairV commaOk v true, [], True⟩
    | none => none
   | some none => some ⟨pairV commaOk ei.zero false, [], True⟩
   | none => none
   else none
  | _, _, _, _ => none
 | _ => none
def aMapUpdate (P : Program) (hv : Nat → Option O) (t : TypeId) (m k x : V) : Option Res := match tiOf P t with
 | some ⟨.map kt _, _, _, _⟩ => match tiOf P kt, m, k with
  | some ki, .mpr id, .d k => match hv id with
   | some (.map ks vs) => if keyOk P kt ki.u k = true then match fndK k ks with
    | some (some j) => some ⟨.top, [(id, some (.map ks (vs.set j x)))], True⟩
    | some none => some ⟨.top, [(id, some (.map (ks ++ [k]) (vs ++ [x])))], True⟩
    | none => none
    else none
   | _ => none
  | _, _, _ => none
 | _ => none

section
variable {P : Program} {cx : Cx} {hv : Nat → Option O} {σ : Nat → Option Loc} {w : World} {nid : Nat} {ρ : Operand → Value} {ev : Operand → V}

theorem run_getMap {b : Nat} {es : Array MapEntry} {clock : Nat} (h : w.heap[b]? = some (.map es clock)) : (getObj b).run P w = .ok (.map es clock) w := by
 simp [getObj, Sem.run, h]
theorem run_setMap {b : Nat} {es : Array MapEntry} {clock : Nat} (h : w.heap[b]? = some (.map es clock)) (o : Obj) : (setObj b o).run P w = .ok () (setB w b o) := by
 simp [setObj, Sem.run, h, setB]

theorem checkKey_plain {e : Bool} {n : Nat} {kt : TypeId} {ki : TI} {k : D} {v : Value} {ok : Nat → Prop} (hti : tiOf P kt = some ki) (hp : plainK ki.u k = true) (hk : RD w ok k v) : (Instr.checkKey e (n + 1) kt v).run P w = .ok () w := by
 obtain ⟨ii, d, z, h1, h2, h3, h4, _⟩ := tiOf_spec hti
 cases k with
 | int k a =>
  simp only [RD] at hk; subst hk
  cases d <;> simp [plainK, h4, tuOf] at hp <;> simp [Instr.checkKey, run_underlying' h2]
 | str a =>
  simp only [RD] at hk; subst hk
  cases d <;> simp [plainK, h4, tuOf] at hp <;> simp [Instr.checkKey, run_underlying' h2]
 | bool a =>
  simp only [RD] at hk; subst hk
  cases d <;> simp [plainK, h4, tuOf] at hp <;> simp [Instr.checkKey, run_underlying' h2]
 | _ => simp [plainK] at hp

theorem ba_beq (a b : List UInt8) : ((ByteArray.mk a.toArray) == (ByteArray.mk b.toArray)) = (a == b) := by
 have : ((ByteArray.mk a.toArray) == (ByteArray.mk b.toArray)) = (a.toArray == b.toArray) := rfl
 rw [this]
 simp

theorem sameK_now {ki : TI} {d : TypeDesc} (hd : ki.u = tuOf d) {k x : D} {v u : Value} {ok : Nat → Prop} (hp : plainK ki.u k = true) (hk : RD w ok k v) (hx : RD w ok x u) {b : Bool} (h : sameK k x = some b) : Instr.sameNow d v u = some b := by
 cases k with
 | int kk a =>
  simp only [RD] at hk; subst hk
  cases x <;> simp [sameK] at h
  simp only [RD] at hx; subst hx
  cases d <;> simp [plainK, hd, tuOf] at hp
  obtain ⟨h1, h2⟩ := h
  subst h1
  simp [Instr.sameNow, h2]
 | str a =>
  simp only [RD] at hk; subst hk
  cases x <;> simp [sameK] at h
  simp only [RD] at hx; subst hx
  cases d <;> simp [plainK, hd, tuOf] at hp
  simp only [Instr.sameNow, ba_beq]
  simpa using h
 | bool a =>
  simp only [RD] at hk; subst hk
  cases x <;> simp [sameK] at h
  simp only [RD] at hx; subst hx
  cases d <;> simp [plainK, hd, tuOf] at hp
  simp [Instr.sameNow, h]
 | _ => simp [plainK] at hp

theorem fndK_now {ki : TI} {d : TypeDesc} (hd : ki.u = tuOf d) {k : D} {v : Value} {ok : Nat → Prop} (hp : plainK ki.u k = true) (hk : RD w ok k v) : ∀ (ks : List D) (es : List MapEntry) (r : Option Nat) (i : Nat), es.length = ks.length →
  (∀ (j : Nat) x e, ks[j]? = some x → es[j]? = some e → RD w ok x e.key) → fndK k ks = some r → Instr.findNow d v es i = some (r.bind fun j => (es[j]?).map fun e => (i + j, e.val)) ∧ ∀ j, r = some j → j < es.length
 | [], es, r, i, hl, _, h => by
  have : es = [] := by simpa using hl
  subst this
  simp [fndK] at h
  subst h
  simp [Instr.findNow]
 | x :: ks, [], r, i, hl, _, h => by simp at hl
 | x :: ks, e :: es, r, i, hl, hke, h => by
  simp only [fndK] at h
  have h0 := hke 0 x e rfl rfl
  split at h
  ·rename_i hs
   cases h
   have := sameK_now hd hp hk h0 hs
   simp [Instr.findNow, this]
  ·rename_i hs
   have hn := sameK_now hd hp hk h0 hs
   have ih := fndK_now hd hp hk ks es
   split at h
   ·rename_i j hf
    cases h
    obtain ⟨h1, h2⟩ := ih (some j) (i + 1) (by simpa using hl) (fun j x e hx he => hke (j + 1) x e (by simpa using hx) (by simpa using he)) hf
    have hj := h2 j rfl
    refine ⟨?_, fun j' hj' => by cases hj'; simp; omega⟩
    simp only [Instr.findNow, hn, h1]
    simp only [Option.bind_some, List.getElem?_cons_succ]
    have : i + 1 + j = i + (j + 1) := by omega
    rw [this]
   ·rename_i hf
    cases h
    obtain ⟨h1, h2⟩ := ih none (i + 1) (by simpa using hl) (fun j x e hx he => hke (j + 1) x e (by simpa using hx) (by simpa using he)) hf
    refine ⟨?_, by simp⟩
    simp only [Instr.findNow, hn, h1]
    rfl
   ·cases h
  ·cases h

def D.pl : D → Bool
 | .int _ _ => true
 | .str _ => true
 | .bool _ => true
 | _ => false
theorem plainK_pl {u : TU} {c : D} (h : plainK u c = true) : c.pl = true := by cases c <;> simp_all [plainK, D.pl]
theorem pl_same {c : D} {v u : Value} {ok ok' : Nat → Prop} (hp : c.pl = true) (hv : RD w ok c v) (hu : RD w ok' c u) : v = u := by
 cases c <;> simp [D.pl] at hp <;> (simp only [RD] at hv hu; rw [hv, hu])
theorem pl_bits {c : D} {v : Value} {ok : Nat → Prop} (hp : c.pl = true) (hv : RD w ok c v) (n : Nat) : Instr.sameBits n v v = true := by
 cases c <;> simp [D.pl] at hp <;> (simp only [RD] at hv; subst hv; simp [Instr.sameBits, ba_beq])
theorem sameP_pl {a b : D} {r : Bool} (h : sameP a b = some r) : a.pl = true ∧ b.pl = true := by
 cases a <;> cases b <;> simp_all [sameP, D.pl]
theorem sameP_eq {a b : D} (h : sameP a b = some true) : a = b := by
 cases a <;> cases b <;> simp_all [sameP]
theorem sameL_pl : ∀ {as bs : List D} {r : Bool}, sameL as bs = some r → (∀ a ∈ as, a.pl = true) ∧ (∀ b ∈ bs, b.pl = true) ∧ as.length = bs.length
 | [], [], _, _ => by simp
 | [], b :: bs, _, h => by simp [sameL] at h
 | a :: as, [], _, h => by simp [sameL] at h
 | a :: as, b :: bs, r, h => by
  simp only [sameL] at h
  split at h
  ·rename_i r1 s1 h1 h2
   obtain ⟨g1, g2, g3⟩ := sameL_pl h2
   obtain ⟨k1, k2⟩ := sameP_pl h1
   refine ⟨?_, ?_, by simp [g3]⟩
   ·intro x hx
    rcases List.mem_cons.1 hx with rfl | hx
    ·exact k1
    ·exact g1 x hx
   ·intro x hx
    rcases List.mem_cons.1 hx with rfl | hx
    ·exact k2
    ·exact g2 x hx
  ·cases h
theorem sameL_eq : ∀ {as bs : List D}, sameL as bs = some true → as = bs
 | [], [], _ => rfl
 | [], b :: bs, h => by simp [sameL] at h
 | a :: as, [], h => by simp [sameL] at h
 | a :: as, b :: bs, h => by
  simp only [sameL] at h
  split at h
  ·rename_i r1 s1 h1 h2
   simp only [Option.some.injEq, Bool.and_eq_true] at h
   rw [h.1] at h1
   rw [h.2] at h2
   rw [sameP_eq h1, sameL_eq h2]
  ·cases h
theorem pl_cells {cs : List D} {c d : Array Value} {ok ok' : Nat → Prop} (hp : ∀ x ∈ cs, x.pl = true) (hc : c.size = cs.length) (hd : d.size = cs.length) (rc : RDcs w ok c 0 cs) (rd : RDcs w ok' d 0 cs) : c = d := by
 apply Array.ext_getElem?
 intro i
 rcases Nat.lt_or_ge i cs.length with hi | hi
 ·obtain ⟨v, h1, h2⟩ := RDcs_get rc (List.getElem?_eq_getElem hi)
  obtain ⟨u, g1, g2⟩ := RDcs_get rd (List.getElem?_eq_getElem hi)
  rw [Nat.zero_add] at h1 g1
  rw [h1, g1, pl_same (hp _ (List.getElem_mem hi)) h2 g2]
 ·rw [Array.getElem?_eq_none (by omega), Array.getElem?_eq_none (by omega)]
theorem fieldsK_at : ∀ (fs : List (Nat × Nat)) (cs : List D) (i : Nat), fieldsK P i cs fs = true → cs.length = fs.length ∧ ∀ j off ft, fs[j]? = some (off, ft) → off = i + j ∧ ∃ fi c, tiOf P ft = some fi ∧ cs[j]? = some c ∧ plainK fi.u c = true
 | [], [], i, _ => by simp
 | [], c :: cs, i, h => by simp [fieldsK] at h
 | (off, ft) :: fs, [], i, h => by simp [fieldsK] at h
 | (off, ft) :: fs, c :: cs, i, h => by
  simp only [fieldsK, Bool.and_eq_true] at h
  obtain ⟨⟨h1, h2⟩, h3⟩ := h
  obtain ⟨g1, g2⟩ := fieldsK_at fs cs (i + 1) h3
  refine ⟨by simp [g1], fun j o f hj => ?_⟩
  cases j with
  | zero =>
   simp only [List.getElem?_cons_zero, Option.some.injEq, Prod.mk.injEq] at hj
   obtain ⟨rfl, rfl⟩ := hj
   refine ⟨Nat.eq_of_beq_eq_true h1, ?_⟩
   split at h2
   ·rename_i fi hfi
    exact ⟨fi, c, hfi, rfl, h2⟩
   ·cases h2
  | succ j =>
   obtain ⟨k1, k2⟩ := g2 j o f (by simpa using hj)
   exact ⟨by omega, by simpa using k2⟩
theorem plainK_agg {u : TU} {c : D} (h : plainK u c = true) : u.agg = false := by
 cases c <;> cases u <;> simp_all [plainK, TU.agg]
theorem part_plain {ft : TypeId} {fi : TI} (hti : tiOf P ft = some fi) {cs : List D} {c : Array Value} {ok : Nat → Prop} (hl : c.size = cs.length) (hc : RDcs w ok c 0 cs) {j : Nat} {x : D} (hx : cs[j]? = some x) (hp : plainK fi.u x = true) : ∃ v, (part ft c j).run P w = .ok v w ∧ RD w ok x v :=
 partD_sound hti hl hc (by unfold partD; rw [plainK_agg hp]; simpa using hx)
theorem checkKey_agg {e : Bool} {n : Nat} {kt : TypeId} {ki : TI} {k : D} {v : Value} {ok : Nat → Prop} (hti : tiOf P kt = some ki) (hp : aggK P kt ki.u k = true) (hk : RD w ok k v) : (Instr.checkKey e (n + 2) kt v).run P w = .ok () w := by
 obtain ⟨ii, d, z, h1, h2, h3, h4, _⟩ := tiOf_spec hti
 unfold aggK at hp
 split at hp
 case h_2 => cases hp
 rename_i cs
 simp only [RD] at hk
 obtain ⟨c, rfl, hs, hc⟩ := hk
 split at hp
 ·rename_i fs hu
  rw [Bool.and_eq_true] at hp
  obtain ⟨hok, hf⟩ := hp
  obtain ⟨fa, rfl, rfl⟩ := tuOf_struct (hu.symm.trans h4)
  obtain ⟨hlen, hat⟩ := fieldsK_at _ _ _ hf
  have hfs : P.fieldsOf kt = fa := by simp [Program.fieldsOf, h2]
  simp only [eqOk, Bool.and_eq_true, hfs] at hok
  have each : ∀ f ∈ fa.toList, f.name ≠ "_" ∧ ∃ a, (part f.type c f.offset).run P w = .ok a w ∧ (Instr.checkKey e (n + 1) f.type a).run P w = .ok () w := by
   intro f hfm
   obtain ⟨j, hj⟩ := List.getElem?_of_mem hfm
   obtain ⟨h5, fi, x, h6, h7, h8⟩ := hat j f.offset f.type (by rw [List.getElem?_map, hj]; rfl)
   obtain ⟨a, p1, p2⟩ := part_plain h6 hs hc h7 h8
   rw [Nat.zero_add] at h5
   refine ⟨by simpa using List.all_eq_true.1 hok.1.2 f hfm, a, by rw [h5]; exact p1, checkKey_plain h6 h8 p2⟩
  rw [show n + 2 = (n + 1) + 1 from rfl, Instr.checkKey]
  simp only [Sem.run_bind, run_underlying' h2, Result.andThen_ok]
  rw [← Array.forIn_toList]
  clear hat hf hok hfs hlen hu h4 h2
  generalize fa.toList = L at each
  induction L with
  | nil => simp
  | cons f L ih =>
   obtain ⟨hn, a, p1, p2⟩ := each f (by simp)
   simp only [List.forIn_cons, Sem.run_bind, hn, ne_eq, not_false_eq_true, if_true, Result.andThen_ok, p1, p2, Sem.run_pure]
   exact ih (fun y hy => each y (by simp [hy]))
 ·rename_i m el hu
  rw [Bool.and_eq_true] at hp
  obtain ⟨hm, hp⟩ := hp
  split at hp
  case h_2 => cases hp
  rename_i ei hei
  rw [Bool.and_eq_true] at hp
  obtain ⟨hsz, hal⟩ := hp
  have := tuOf_arr (hu.symm.trans h4)
  subst this
  have hm := Nat.eq_of_beq_eq_true hm
  obtain ⟨ie, de, ze, g1, g2, g3, g4, g5, g6, g7⟩ := tiOf_spec hei
  have hsz1 : ie.size = 1 := by rw [← g5]; exact Nat.eq_of_beq_eq_true hsz
  have each : ∀ j ∈ List.range' 0 m, ∃ a, (part el c (j * 1)).run P w = .ok a w ∧ (Instr.checkKey e (n + 1) el a).run P w = .ok () w := by
   intro j hj
   have hj' : j < cs.length := by simp at hj; omega
   obtain ⟨a, p1, p2⟩ := part_plain (j := j) hei hs hc (List.getElem?_eq_getElem hj') (List.all_eq_true.1 hal _ (List.getElem_mem hj'))
   exact ⟨a, by rw [Nat.mul_one]; exact p1, checkKey_plain hei (List.all_eq_true.1 hal _ (List.getElem_mem hj')) p2⟩
  rw [show n + 2 = (n + 1) + 1 from rfl, Instr.checkKey]
  simp only [Sem.run_bind, run_underlying' h2, Result.andThen_ok]
  simp only [Std.Legacy.Range.forIn_eq_forIn_range', Std.Legacy.Range.size, Nat.sub_zero, Nat.add_one_sub_one, Nat.div_one]
  generalize List.range' 0 m = is at each
  induction is with
  | nil => simp
  | cons j is ih =>
   obtain ⟨a, p1, p2⟩ := each j (by simp)
   simp only [List.forIn_cons, Sem.run_bind, run_sizeOf' g1, hsz1, Result.andThen_ok, p1, p2, Sem.run_pure]
   exact ih (fun y hy => each y (by simp [hy]))
 ·cases hp
theorem checkKey_ok {e : Bool} {n : Nat} {kt : TypeId} {ki : TI} {k : D} {v : Value} {ok : Nat → Prop} (hti : tiOf P kt = some ki) (hp : keyOk P kt ki.u k = true) (hk : RD w ok k v) : (Instr.checkKey e (n + 2) kt v).run P w = .ok () w := by
 rcases Bool.or_eq_true _ _ ▸ hp with hp | hp
 ·exact checkKey_plain (n := n + 1) hti hp hk
 ·exact checkKey_agg hti hp hk
theorem eqD_plain {t : TypeId} {fi : TI} (h : tiOf P t = some fi) {a b : D} (hp : plainK fi.u a = true) {r : Bool} (hs : sameP a b = some r) : eqD P 1 t a b = some r := by
 obtain ⟨u, s, by', z⟩ := fi
 simp only at hp
 cases a <;> cases b <;> simp [sameP] at hs <;> cases u <;> simp [plainK] at hp <;> simp only [eqD, h]
 ·simp [hs]
 ·rw [if_pos hs.1]; simp [hs.2]
 ·simp [hs]
theorem eqFs_same (AS BS : List D) : ∀ (fs : List (Nat × Nat)) (i : Nat) (b : Bool), fieldsK P i (AS.drop i) fs = true → sameL (AS.drop i) (BS.drop i) = some b → eqFs P (eqD P 1) AS BS fs = some b
 | [], i, b, h, hs => by
  cases hA : AS.drop i with
  | nil =>
   rw [hA] at hs
   cases hB : BS.drop i with
   | nil => rw [hB] at hs; simp [sameL] at hs; simp [eqFs, hs]
   | cons => rw [hB] at hs; simp [sameL] at hs
  | cons => rw [hA] at h; simp [fieldsK] at h
 | (off, ft) :: fs, i, b, h, hs => by
  cases hA : AS.drop i with
  | nil => rw [hA] at h; simp [fieldsK] at h
  | cons a as =>
   cases hB : BS.drop i with
   | nil => rw [hA, hB] at hs; simp [sameL] at hs
   | cons c bs =>
    have hi : i < AS.length := by
     rcases Nat.lt_or_ge i AS.length with h' | h'
     ·exact h'
     ·rw [List.drop_eq_nil_of_le h'] at hA; cases hA
    have hi2 : i < BS.length := by
     rcases Nat.lt_or_ge i BS.length with h' | h'
     ·exact h'
     ·rw [List.drop_eq_nil_of_le h'] at hB; cases hB
    rw [List.drop_eq_getElem_cons hi] at hA
    rw [List.drop_eq_getElem_cons hi2] at hB
    injection hA with hA1 hA2
    injection hB with hB1 hB2
    rw [List.drop_eq_getElem_cons hi, hA1, hA2] at h hs
    rw [List.drop_eq_getElem_cons hi2, hB1, hB2] at hs
    simp only [fieldsK, Bool.and_eq_true] at h
    obtain ⟨⟨k1, k2⟩, k3⟩ := h
    have k1 := Nat.eq_of_beq_eq_true k1
    subst k1
    simp only [sameL] at hs
    split at hs
    ·rename_i r s hr hs'
     cases hs
     split at k2
     ·rename_i fi hfi
      have hag := plainK_agg k2
      have hb2 : (partD fi BS off) = some c := by
       unfold partD
       simp [hag, hi2, hB1]
      have ha2 : (partD fi AS off) = some a := by
       unfold partD
       simp [hag, hi, hA1]
      simp only [eqFs, hfi, ha2, hb2, eqD_plain hfi k2 hr, eqFs_same AS BS fs (off + 1) s (by rw [hA2]; exact k3) (by rw [hA2, hB2]; exact hs')]
     ·cases k2
    ·cases hs
theorem eqItems_same {el : TypeId} {ei : TI} (hei : tiOf P el = some ei) {AS BS : List D} {c d : Array Value} {ok ok' : Nat → Prop} (hc : c.size = AS.length) (hd : d.size = BS.length) (rc : RDcs w ok c 0 AS) (rd : RDcs w ok' d 0 BS) (hal : ∀ a ∈ AS, plainK ei.u a = true) (m : Nat) :
  ∀ (k i : Nat) (b : Bool), i + k = AS.length → sameL (AS.drop i) (BS.drop i) = some b → (Op.eqItems (m + 1) el 1 c d (List.range' i k)).run P w = .ok b w
 | 0, i, b, hi, hs => by
  rw [List.drop_eq_nil_of_le (by omega)] at hs
  cases hB : BS.drop i with
  | nil => rw [hB] at hs; simp [sameL] at hs; simp [Op.eqItems, hs]
  | cons => rw [hB] at hs; simp [sameL] at hs
 | k + 1, i, b, hi, hs => by
  have h1 : i < AS.length := by omega
  cases hB : BS.drop i with
  | nil => rw [hB, List.drop_eq_getElem_cons h1] at hs; simp [sameL] at hs
  | cons y bs =>
   have h2 : i < BS.length := by
    rcases Nat.lt_or_ge i BS.length with h' | h'
    ·exact h'
    ·rw [List.drop_eq_nil_of_le h'] at hB; cases hB
   rw [List.drop_eq_getElem_cons h1, List.drop_eq_getElem_cons h2] at hs
   simp only [sameL] at hs
   split at hs
   ·rename_i r s hr hs'
    cases hs
    obtain ⟨a, p1, p2⟩ := part_plain (j := i) hei hc rc (List.getElem?_eq_getElem h1) (hal _ (List.getElem_mem h1))
    have hpb : plainK ei.u (BS[i]) = true := by
     have := hal _ (List.getElem_mem h1)
     revert hr this
     generalize AS[i] = x
     generalize BS[i] = y
     intro hr this
     cases x <;> cases y <;> simp [sameP] at hr <;> cases hu : ei.u <;> simp_all [plainK]
    obtain ⟨u, q1, q2⟩ := part_plain (j := i) hei hd rd (List.getElem?_eq_getElem h2) hpb
    have hrun := eqD_run (P := P) 1 m el _ _ _ a u (eqD_plain hei (hal _ (List.getElem_mem h1)) hr) (RD_mono (ok' := fun _ => True) (fun _ _ => ⟨trivial, rfl⟩) _ _ p2) (RD_mono (ok' := fun _ => True) (fun _ _ => ⟨trivial, rfl⟩) _ _ q2)
    have ih := eqItems_same hei hc hd rc rd hal m k (i + 1) s (by omega) hs'
    simp only [List.range'_succ, Op.eqItems, Nat.mul_one, Sem.run_bind, p1, q1, hrun, Result.andThen_ok]
    cases r
    ·simp only [Bool.not_false, if_true, Sem.run_pure, Bool.false_and]
    ·simp only [Bool.not_true, Bool.false_eq_true, if_false, ih, Bool.true_and]
   ·cases hs
theorem equal_agg {kt : TypeId} {ki : TI} {k x : D} {v u : Value} {ok ok' : Nat → Prop} (hti : tiOf P kt = some ki) (hp : aggK P kt ki.u k = true) (hk : RD w ok k v) (hx : RD w ok' x u) {b : Bool} (h : sameK k x = some b) : (Op.equal kt v u).run P w = .ok b w := by
 obtain ⟨ii, d, z, h1, h2, h3, h4, _⟩ := tiOf_spec hti
 unfold aggK at hp
 split at hp
 case h_2 => cases hp
 rename_i cs
 cases x <;> simp [sameK] at h
 rename_i xs
 simp only [RD] at hk hx
 obtain ⟨c, rfl, hs, hc⟩ := hk
 obtain ⟨d', rfl, hs', hc'⟩ := hx
 have m1 : RDcs w (fun _ => True) c 0 cs := RDcs_mono (fun _ _ => ⟨trivial, rfl⟩) _ _ _ hc
 have m2 : RDcs w (fun _ => True) d' 0 xs := RDcs_mono (fun _ _ => ⟨trivial, rfl⟩) _ _ _ hc'
 split at hp
 ·rename_i fs hu
  rw [Bool.and_eq_true] at hp
  obtain ⟨hok, hf⟩ := hp
  obtain ⟨fa, rfl, rfl⟩ := tuOf_struct (hu.symm.trans h4)
  have hfs : P.fieldsOf kt = fa := by simp [Program.fieldsOf, h2]
  simp only [eqOk, Bool.and_eq_true, Bool.not_eq_true'] at hok
  show (Op.equalIn (9999 + 1) kt (.agg c) (.agg d')).run P w = _
  rw [run_equalIn_struct w _ kt _ _ (by rw [hfs]; exact h2) hok.1.1, hfs]
  rw [hfs] at hok
  exact eqFs_run (d := 9998 + 1) (fun t x y b u v e hu hv => eqD_run 1 9998 t x y b u v e hu hv) hs m1 hs' m2 fa.toList b hok.1.2 (eqFs_same cs xs _ 0 b hf h)
 ·rename_i m el hu
  rw [Bool.and_eq_true] at hp
  obtain ⟨hm, hp⟩ := hp
  split at hp
  case h_2 => cases hp
  rename_i ei hei
  rw [Bool.and_eq_true] at hp
  obtain ⟨hsz, hal⟩ := hp
  have := tuOf_arr (hu.symm.trans h4)
  subst this
  obtain ⟨ie, de, ze, g1, g2, g3, g4, g5, g6, g7⟩ := tiOf_spec hei
  have hsz1 : P.cellsOf el = 1 := by simp [Program.cellsOf, g1, ← g5, Nat.eq_of_beq_eq_true hsz]
  show (Op.equalIn (9999 + 1) kt (.agg c) (.agg d')).run P w = _
  rw [run_equalIn_array (w := w) 9999 c d' h2 g1, hsz1, List.range_eq_range', Nat.eq_of_beq_eq_true hm]
  exact eqItems_same hei hs hs' m1 m2 (fun a ha => List.all_eq_true.1 hal a ha) 9998 cs.length 0 b (by omega) h
 ·cases hp
theorem findAsking_run {kt : TypeId} {k : D} {v : Value} {ok : Nat → Prop} (heq : ∀ x u b, RD w ok x u → sameK k x = some b → (Op.equal kt v u).run P w = .ok b w) : ∀ (ks : List D) (es : List MapEntry) (r : Option Nat) (i : Nat), es.length = ks.length →
  (∀ (j : Nat) x e, ks[j]? = some x → es[j]? = some e → RD w ok x e.key) → fndK k ks = some r → (Instr.findAsking kt v es i).run P w = .ok (r.bind fun j => (es[j]?).map fun e => (i + j, e.val)) w ∧ ∀ j, r = some j → j < es.length
 | [], es, r, i, hl, _, h => by
  have : es = [] := by simpa using hl
  subst this
  simp [fndK] at h
  subst h
  simp [Instr.findAsking]
 | x :: ks, [], r, i, hl, _, h => by simp at hl
 | x :: ks, e :: es, r, i, hl, hke, h => by
  simp only [fndK] at h
  have h0 := hke 0 x e rfl rfl
  split at h
  ·rename_i hs
   cases h
   have := heq _ _ _ h0 hs
   simp [Instr.findAsking, this]
  ·rename_i hs
   have hn := heq _ _ _ h0 hs
   have ih := findAsking_run heq ks es
   split at h
   ·rename_i j hf
    cases h
    obtain ⟨h1, h2⟩ := ih (some j) (i + 1) (by simpa using hl) (fun j x e hx he => hke (j + 1) x e (by simpa using hx) (by simpa using he)) hf
    have hj := h2 j rfl
    refine ⟨?_, fun j' hj' => by cases hj'; simp; omega⟩
    simp only [Instr.findAsking, Sem.run_bind, hn, Result.andThen_ok, Bool.false_eq_true, if_false, h1]
    simp only [Option.bind_some, List.getElem?_cons_succ]
    have : i + 1 + j = i + (j + 1) := by omega
    rw [this]
   ·rename_i hf
    cases h
    obtain ⟨h1, h2⟩ := ih none (i + 1) (by simpa using hl) (fun j x e hx he => hke (j + 1) x e (by simpa using hx) (by simpa using he)) hf
    refine ⟨?_, by simp⟩
    simp only [Instr.findAsking, Sem.run_bind, hn, Result.andThen_ok, Bool.false_eq_true, if_false, h1]
    rfl
   ·cases h
  ·cases h

theorem findKey_plain {kt : TypeId} {ki : TI} (hti : tiOf P kt = some ki) {k : D} {v : Value} {ok : Nat → Prop} (hp : plainK ki.u k = true) (hk : RD w ok k v) {ks : List D} {es : Array MapEntry} {r : Option Nat} (hl : es.size = ks.length)
  (hke : RDcs w ok (es.map (·.key)) 0 ks) (h : fndK k ks = some r) : (Instr.findKey kt v es.toList).run P w = .ok (r.bind fun j => (es[j]?).map fun e => (j, e.val)) w ∧ ∀ j, r = some j → j < es.size := by
 obtain ⟨ii, d, z, h1, h2, h3, h4, _⟩ := tiOf_spec hti
 obtain ⟨g1, g2⟩ := fndK_now h4 hp hk ks es.toList r 0 (by simpa using hl) (fun j x e hx he => by
  obtain ⟨u, hu, hr⟩ := RDcs_get hke hx
  simp only [Nat.zero_add, Array.getElem?_map] at hu
  have he' : es[j]? = some e := by simpa using he
  rw [he'] at hu
  simp at hu
  subst hu
  exact hr) h
 refine ⟨?_, by simpa using g2⟩
 simp only [Instr.findKey, Sem.run_bind, run_underlying' h2, Result.andThen_ok, g1, Sem.run_pure]
 simp

theorem findKey_run {kt : TypeId} {ki : TI} (hti : tiOf P kt = some ki) {k : D} {v : Value} {ok : Nat → Prop} (hp : keyOk P kt ki.u k = true) (hk : RD w ok k v) {ks : List D} {es : Array MapEntry} {r : Option Nat} (hl : es.size = ks.length)
  (hke : RDcs w ok (es.map (·.key)) 0 ks) (h : fndK k ks = some r) : (Instr.findKey kt v es.toList).run P w = .ok (r.bind fun j => (es[j]?).map fun e => (j, e.val)) w ∧ ∀ j, r = some j → j < es.size := by
 rcases Bool.or_eq_true _ _ ▸ hp with hp | hp
 ·exact findKey_plain hti hp hk hl hke h
 obtain ⟨ii, d, z, h1, h2, h3, h4, _⟩ := tiOf_spec hti
 obtain ⟨g1, g2⟩ := findAsking_run (fun x u b hx hs => equal_agg hti hp hk hx hs) ks es.toList r 0 (by simpa using hl) (fun j x e hx he => by
  obtain ⟨u, hu, hr⟩ := RDcs_get hke hx
  simp only [Nat.zero_add, Array.getElem?_map] at hu
  have he' : es[j]? = some e := by simpa using he
  rw [he'] at hu
  simp at hu
  subst hu
  exact hr) h
 refine ⟨?_, by simpa using g2⟩
 have hv : ∃ c, v = .agg c := by
  unfold aggK at hp
  split at hp
  ·simp only [RD] at hk
   obtain ⟨c, rfl, _⟩ := hk
   exact ⟨c, rfl⟩
  ·cases hp
 obtain ⟨c, rfl⟩ := hv
 simp only [Instr.findKey, Sem.run_bind, run_underlying' h2, Result.andThen_ok]
 cases hes : es.toList with
 | nil =>
  rw [hes] at g1
  simp only [Instr.findAsking, Sem.run_pure] at g1
  simp only [Instr.findNow, Sem.run_pure, g1]
  have : es = #[] := by simpa using hes
  subst this
  cases r <;> simp
 | cons e es' =>
  have : Instr.findNow d (.agg c) (e :: es') 0 = none := by
   have hd : ∀ y, Instr.sameNow d (.agg c) y = none := fun y => by cases d <;> rfl
   simp [Instr.findNow, hd]
  rw [hes] at g1
  simp only [this, g1]
  congr 1
  have hq : ∀ j : Nat, (e :: es')[j]? = es[j]? := fun j => by rw [← hes]; simp
  simp only [hq, Nat.zero_add]

theorem RVl_dmap {ok : Nat → Prop} : ∀ {ds : List D} {c : Array Value} {p : Nat}, c.size = p + ds.length → RDcs w ok c p ds → RVl w ok σ (ds.map .d) (c.toList.drop p)
 | [], c, p, hl, _ => by
  simp only [List.map_nil, RVl]
  apply List.drop_eq_nil_of_le
  simp at hl ⊢
  omega
 | d :: ds, c, p, hl, h => by
  simp only [RDcs] at h
  obtain ⟨⟨v, hv, hr⟩, hrest⟩ := h
  simp only [List.map_cons, RVl, RV]
  have hlt : p < c.size := by simp at hl; omega
  refine ⟨v, c.toList.drop (p + 1), ?_, hr, RVl_dmap (by simp at hl; omega) hrest⟩
  have hg : c[p] = v := by simpa [Array.getElem?_eq_getElem hlt] using hv
  rw [List.drop_eq_getElem_cons (by simpa using hlt)]
  simp [hg]

/-- The entries of a map. -/
theorem mapOf_sound (h : HR cx hv σ w) {x : V} {v : Value} (hx : RV w (okB cx w hv σ) σ x v) {ks : List D} {vs : List V} (hm : mapOf hv x = some (ks, vs)) :
  ∃ es : Array MapEntry, (v = .map none ∧ es = #[] ∨ ∃ b clock, v = .map (some b) ∧ w.heap[b]? = some (.map es clock)) ∧ es.size = ks.length ∧ RDcs w (okB cx w hv σ) (es.map (·.key)) 0 ks ∧ RVl w (okB cx w hv σ) σ vs (es.map (·.val)).toList := by
 cases x with
 | d y =>
  cases y with
  | map ks' vs' =>
   simp only [mapOf] at hm
   cases hm
   simp only [RV, RD] at hx
   obtain ⟨r, rfl, hr⟩ := hx
   rcases hr with ⟨rfl, rfl, rfl⟩ | ⟨b, es, clock, rfl, _, hb, hB, h1, h2, h3, h4⟩
   ·exact ⟨#[], .inl ⟨rfl, rfl⟩, rfl, by simp only [RDcs], by simp [RVl]⟩
   ·refine ⟨es, .inr ⟨b, clock, rfl, hb⟩, h1, h3, ?_⟩
    have := RVl_dmap (σ := σ) (p := 0) (by simpa using h2) h4
    simpa using this
  | _ => simp [mapOf] at hm
 | mpr id =>
  simp only [mapOf] at hm
  split at hm
  ·rename_i ks' vs' hid
   cases hm
   simp only [RV] at hx
   obtain ⟨b, K, s, hs, rfl⟩ := hx
   obtain ⟨b', K', s', es, clock, hs', hb, hB, h1, h3, h4⟩ := h.own id _ hid
   rw [hs] at hs'
   cases hs'
   exact ⟨es, .inr ⟨b, clock, rfl, hb⟩, h1, h3, h4⟩
  ·cases hm
 | _ => simp [mapOf] at hm

theorem aLookup_sound (h : HR cx hv σ w) (hev : ∀ x, RV w (okB cx w hv σ) σ (ev x) (ρ x)) {t : TypeId} {x i : Operand} {c : Bool} {o : Oper} {r : Res} (ho : o.op = .lookup t x i c)
  (hr : aLookup P hv t (ev x) (ev i) c = some r) : Sound P cx hv σ w nid ρ o r := by
 have hx := hev x
 have hi := hev i
 unfold aLookup at hr
 split at hr
 case h_2 => cases hr
 rename_i kt et _ _ _ hti
 obtain ⟨ii, d, zv, h1, h2, h3, h4, h5, h6, h7⟩ := tiOf_spec hti
 have := tuOf_map h4
 subst this
 split at hr
 case h_2 => cases hr
 rename_i ki ei ks vs k hki hei hm hik
 obtain ⟨ie, d', z, g1, g2, g3, g4, g5, g6, g7⟩ := tiOf_spec hei
 split at hr
 case isFalse => cases hr
 rename_i hp
 rw [hik] at hi
 simp only [RV] at hi
 obtain ⟨es, hes, hl, hks, hvs⟩ := mapOf_sound h hx hm
 have hrun : ∀ r, fndK k ks = some r → ∀ v b, (match r.bind fun j => (es[j]?).map fun e => (j, e.val) with | some (_, v) => (v, true) | none => (z, false)) = (v, b) → (execOp ρ o).run P w = .ok (.value (if c then .tuple #[v, .bool b] else v)) w := by
  intro r hf v b hvb
  obtain ⟨k1, k2⟩ := findKey_run hki hp hi hl hks hf
  rcases hes with ⟨hv', rfl⟩ | ⟨b', clock, hv', hb⟩
  ·simp only [execOp, ho, Instr.lookup, hv', Sem.run_bind, run_underlying' h2, Result.andThen_ok, Sem.run_pure, checkKey_ok (n := 9998) hki hp hi, k1]
   revert hvb
   cases (r.bind fun j => ((#[] : Array MapEntry)[j]?).map fun e => (j, e.val)) with
   | none => intro hvb; cases hvb; simp only [Sem.run_bind, run_zeroValue' g1 g3, Result.andThen_ok, Sem.run_pure]
   | some q => obtain ⟨q1, q2⟩ := q; intro hvb; cases hvb; simp only [Sem.run_bind, Sem.run_pure, Result.andThen_ok]
  ·simp only [execOp, ho, Instr.lookup, hv', Sem.run_bind, run_underlying' h2, run_getMap hb, Result.andThen_ok, Sem.run_pure, checkKey_ok (n := 9998) hki hp hi, k1]
   revert hvb
   cases (r.bind fun j => (es[j]?).map fun e => (j, e.val)) with
   | none => intro hvb; cases hvb; simp only [Sem.run_bind, run_zeroValue' g1 g3, Result.andThen_ok, Sem.run_pure]
   | some q => obtain ⟨q1, q2⟩ := q; intro hvb; cases hvb; simp only [Sem.run_bind, Sem.run_pure, Result.andThen_ok]
 have pv : ∀ v u b, RV w (okB cx w hv σ) σ v u → RV w (okB cx w hv σ) σ (pairV c v b) (if c then .tuple #[u, .bool b] else u) := by
  intro v u b hvu
  cases c with
  | false => simpa [pairV] using hvu
  | true =>
   simp only [pairV, if_true, RV]
   refine ⟨#[u, .bool b], rfl, ?_⟩
   simp only [RVl, RV, RD]
   exact ⟨u, [.bool b], rfl, hvu, .bool b, [], rfl, rfl, rfl⟩
 split at hr
 ·rename_i j hf
  split at hr
  ·rename_i v hvj
   cases hr
   obtain ⟨u, hu, hru⟩ := RVl_get hvs hvj
   have hj := (findKey_run hki hp hi hl hks hf).2 j rfl
   have hu' : (es[j]).val = u := by
    simpa [hj] using hu
   refine sound_value h rfl (hrun _ hf u true ?_) (pv _ _ _ hru)
   simp [hj, hu']
  ·cases hr
 ·rename_i hf
  cases hr
  refine sound_value h rfl (hrun _ hf z false ?_) (pv _ _ _ (by rw [g7]; exact RV_constV z))
  simp
 ·cases hr

theorem aMakeMap_sound (h : HR cx hv σ w) (hn : σ nid = none) {t : TypeId} {o : Oper} {r : Res} (ho : o.op = .makeMap t none) (hr : aMakeMap nid = some r) : Sound P cx hv σ w nid ρ o r := by
 unfold aMakeMap at hr
 cases hr
 obtain ⟨g1, g2, g3⟩ := h.alloc hn (hv_none_of_fresh h hn) (.map #[] 0) (.map [] []) 0 0 (by
  intro σ' ok' hσ hok hnew
  exact ⟨w.heap.size, 0, 0, #[], 0, hnew, alloc_new _ _, ⟨rfl, by simp⟩, rfl, by simp only [RDcs], by simp [RVl]⟩)
 refine ⟨.map (some w.heap.size), w.alloc (.map #[] 0), _, .inl ?_, ?_, fun id hid => upd_other _ _ hid, g2, ?_, ?_⟩
 ·simp only [execOp, ho, Instr.makeMap, Option.map_none, Sem.run_bind, run_newObj_alloc, Result.andThen_ok, Sem.run_pure]
 ·rw [app_one]; exact g1
 ·rw [app_one]; exact g3
 ·simp only [RV]; exact ⟨w.heap.size, 0, 0, upd_same _ _ _, rfl⟩

theorem RVl_set {ok : Nat → Prop} {xs : List V} {vs : List Value} (h : RVl w ok σ xs vs) {x : V} {v : Value} (hx : RV w ok σ x v) (j : Nat) : RVl w ok σ (xs.set j x) (vs.set j v) := by
 have hl := RVl_length h
 refine RVl_of (by simp [hl]) fun i y u hy hu => ?_
 rw [List.getElem?_set] at hy hu
 by_cases hj : j = i
 ·subst hj
  rw [if_pos rfl] at hy hu
  split at hy
  ·rename_i hlt
   rw [if_pos (by omega)] at hu
   cases hy
   cases hu
   exact hx
  ·cases hy
 ·rw [if_neg hj] at hy hu
  obtain ⟨u', h1, h2⟩ := RVl_get h hy
  rw [h1] at hu
  cases hu
  exact h2

theorem sameK_eq {k x : D} {v u : Value} {ok : Nat → Prop} (hk : RD w ok k v) (hx : RD w ok x u) (h : sameK k x = some true) : u = v ∧ x = k := by
 cases k with
 | int kk a =>
  simp only [RD] at hk; subst hk
  cases x <;> simp [sameK] at h
  simp only [RD] at hx; subst hx
  obtain ⟨h1, h2⟩ := h
  subst h1; subst h2
  exact ⟨rfl, rfl⟩
 | str a =>
  simp only [RD] at hk; subst hk
  cases x <;> simp [sameK] at h
  simp only [RD] at hx; subst hx
  subst h
  exact ⟨rfl, rfl⟩
 | bool a =>
  simp only [RD] at hk; subst hk
  cases x <;> simp [sameK] at h
  simp only [RD] at hx; subst hx
  subst h
  exact ⟨rfl, rfl⟩
 | agg as =>
  cases x <;> simp [sameK] at h
  rename_i bs
  have e := sameL_eq h
  subst e
  simp only [RD] at hk hx
  obtain ⟨c, rfl, h1, h2⟩ := hk
  obtain ⟨d, rfl, h3, h4⟩ := hx
  exact ⟨by rw [pl_cells (sameL_pl h).1 h1 h3 h2 h4], rfl⟩
 | _ => simp [sameK] at h
theorem fndK_same {k : D} : ∀ {ks : List D} {j : Nat}, fndK k ks = some (some j) → ∃ x, ks[j]? = some x ∧ sameK k x = some true
 | [], j, h => by simp [fndK] at h
 | x :: ks, j, h => by
  simp only [fndK] at h
  split at h
  ·rename_i hs
   cases h
   exact ⟨x, rfl, hs⟩
  ·split at h
   ·rename_i i hf
    cases h
    simpa using fndK_same hf
   ·cases h
   ·cases h
  ·cases h
theorem keyStays_run {k : D} {u v : Value} {ok : Nat → Prop} {kt : TypeId} {ki : TU} (hp : keyOk P kt ki k = true) (hk : RD w ok k v) (e : u = v) : (Instr.keyThatStays u v).run P w = .ok v w := by
 subst e
 have : Instr.sameBits 10000 u u = true := by
  rcases Bool.or_eq_true _ _ ▸ hp with hp | hp
  ·exact pl_bits (plainK_pl hp) hk 10000
  ·have hag : ∃ cs, k = .agg cs := by cases k <;> first | exact ⟨_, rfl⟩ | simp [aggK] at hp
   obtain ⟨cs, rfl⟩ := hag
   simp only [aggK] at hp
   have hpl : ∀ x ∈ cs, x.pl = true := by
    split at hp
    ·rw [Bool.and_eq_true] at hp
     obtain ⟨g1, g2⟩ := fieldsK_at _ _ _ hp.2
     intro x hx
     obtain ⟨j, hj⟩ := List.getElem?_of_mem hx
     have hj' : j < cs.length := by
      rcases Nat.lt_or_ge j cs.length with h | h
      ·exact h
      ·simp [List.getElem?_eq_none h] at hj
     rename_i fs _
     obtain ⟨-, fi, c, -, q2, q3⟩ := g2 j (fs[j]'(by omega)).1 (fs[j]'(by omega)).2 (by rw [List.getElem?_eq_getElem])
     rw [q2] at hj
     cases hj
     exact plainK_pl q3
    ·rw [Bool.and_eq_true] at hp
     obtain ⟨-, hp⟩ := hp
     split at hp
     ·rw [Bool.and_eq_true] at hp
      exact fun x hx => plainK_pl (List.all_eq_true.1 hp.2 x hx)
     ·cases hp
    ·cases hp
   simp only [RD] at hk
   obtain ⟨c, rfl, h1, h2⟩ := hk
   show Instr.sameBits (9999 + 1) (.agg c) (.agg c) = true
   simp only [Instr.sameBits, beq_self_eq_true, Bool.true_and, List.all_eq_true]
   intro p hpz
   obtain ⟨i, hi, e⟩ := List.getElem_of_mem hpz
   rw [List.getElem_zip] at e
   rw [← e]
   have hi' : i < cs.length := by simp at hi; omega
   obtain ⟨v, q1, q2⟩ := RDcs_get h2 (List.getElem?_eq_getElem hi')
   have : c.toList[i]'(by simp; omega) = v := by
    rw [Nat.zero_add] at q1
    have := (Array.getElem?_eq_some_iff.1 q1).2
    simpa using this
   simp only [this]
   exact pl_bits (hpl _ (List.getElem_mem hi')) q2 9999
 simp [Instr.keyThatStays, this]

theorem aMapUpdate_sound (h : HR cx hv σ w) (hev : ∀ x, RV w (okB cx w hv σ) σ (ev x) (ρ x)) {t : TypeId} {m k x : Operand} {o : Oper} {r : Res} (ho : o.op = .mapUpdate t m k x)
  (hr : aMapUpdate P hv t (ev m) (ev k) (ev x) = some r) : Sound P cx hv σ w nid ρ o r := by
 have hm := hev m
 have hk := hev k
 have hx := hev x
 unfold aMapUpdate at hr
 split at hr
 case h_2 => cases hr
 rename_i kt et _ _ _ hti
 obtain ⟨ii, d, zv, h1, h2, h3, h4, h5, h6, h7⟩ := tiOf_spec hti
 have := tuOf_map h4
 subst this
 split at hr
 case h_2 => cases hr
 rename_i ki id kd hki em ek
 split at hr
 case h_2 => cases hr
 rename_i ks vs hid
 split at hr
 case isFalse => cases hr
 rename_i hp
 rw [em] at hm
 rw [ek] at hk
 simp only [RV] at hm hk
 obtain ⟨b, K, s, hs, hmv⟩ := hm
 obtain ⟨b', K', s', es, clock, hs', hb, hB, hl, hks, hvs⟩ := h.own id _ hid
 rw [hs] at hs'
 cases hs'
 have hvl := RVl_length hvs
 have hrun : ∀ r, fndK kd ks = some r → ∀ ob, (match r with | some j => Obj.map (es.modify j fun e => { e with key := ρ k, val := ρ x }) clock | none => .map (es.push { key := ρ k, val := ρ x, born := clock }) (clock + 1)) = ob → (execOp ρ o).run P w = .ok .skip (setB w b ob) := by
  intro r hf ob hob
  obtain ⟨k1, k2⟩ := findKey_run hki hp hk hl hks hf
  cases r with
  | none =>
   simp only [Option.bind_none] at k1
   simp only [execOp, ho, Instr.mapUpdate, hmv, Sem.run_bind, run_underlying' h2, run_getMap hb, Result.andThen_ok, checkKey_ok (n := 9998) hki hp hk, k1, run_setMap hb, Sem.run_pure]
   simp only at hob
   rw [hob]
  | some j =>
   have hj := k2 j rfl
   have hej : es[j]? = some es[j] := Array.getElem?_eq_getElem hj
   simp only [Option.bind_some, hej, Option.map_some] at k1
   obtain ⟨y, hy1, hy2⟩ := fndK_same hf
   obtain ⟨u, hu1, hu2⟩ := RDcs_get hks hy1
   have hue : u = es[j].key := by
    simp only [Nat.zero_add, Array.getElem?_map, hej, Option.map_some] at hu1
    exact (Option.some.inj hu1).symm
   have hst := keyStays_run (P := P) hp hk (sameK_eq hk hu2 hy2).1
   rw [hue] at hst
   simp only [execOp, ho, Instr.mapUpdate, hmv, Sem.run_bind, run_underlying' h2, run_getMap hb, Result.andThen_ok, checkKey_ok (n := 9998) hki hp hk, k1, hej, Option.map_some, Option.getD_some, hst, run_setMap hb, Sem.run_pure]
   simp only at hob
   rw [hob]
 split at hr
 ·rename_i j hf
  cases hr
  have hj := (findKey_run hki hp hk hl hks hf).2 j rfl
  obtain ⟨y, hy1, hy2⟩ := fndK_same hf
  obtain ⟨g1, g2⟩ := h.write hid hs (.map (es.modify j fun e => { e with key := ρ k, val := ρ x }) clock) (.map ks (vs.set j (ev x))) (by
   intro ok' hok
   refine ⟨b, K, s, _, clock, hs, setB_same (heap_lt hb), ⟨by simpa using hB.1, fun i e he => ?_⟩, by simpa using hl, ?_, ?_⟩
   ·rw [Array.getElem?_modify] at he
    split at he
    ·rename_i e1
     subst e1
     rw [Array.getElem?_eq_getElem hj] at he
     simp at he
     subst he
     exact hB.2 j es[j] (Array.getElem?_eq_getElem hj)
    ·exact hB.2 i e he
   ·refine RDcs_of fun i y' hy' => ?_
    obtain ⟨u, hu, hru⟩ := RDcs_get hks hy'
    simp only [Nat.zero_add, Array.getElem?_map, Array.getElem?_modify] at hu ⊢
    by_cases e1 : j = i
    ·subst e1
     rw [hy1] at hy'
     cases hy'
     have := (sameK_eq hk hru hy2).2
     subst this
     refine ⟨ρ k, by simp [hj], RD_mono hok _ _ hk⟩
    ·rw [if_neg e1]
     exact ⟨u, hu, RD_mono hok _ _ hru⟩
   ·have e1 : (Array.map (fun x => x.val) (es.modify j fun e => { e with key := ρ k, val := ρ x })).toList = (Array.map (fun x => x.val) es).toList.set j (ρ x) := by
     apply List.ext_getElem?
     intro i
     rw [List.getElem?_set]
     simp only [Array.getElem?_toList, Array.getElem?_map, Array.getElem?_modify]
     by_cases e2 : j = i
     ·subst e2; simp [hj]
     ·simp [e2]
    rw [e1]
    exact RVl_set (RVl_mono hok (fun _ _ h => h) _ _ hvs) (RV_mono hok (fun _ _ h => h) _ _ hx) j)
  refine ⟨undef, _, σ, .inr ⟨hrun _ hf _ rfl, rfl⟩, ?_, fun _ _ => rfl, fun _ _ h => h, ?_, ?_⟩
  ·rw [app_one]; exact g1
  ·rw [app_one]; exact g2
  ·simp only [RV]
 ·rename_i hf
  cases hr
  obtain ⟨g1, g2⟩ := h.write hid hs (.map (es.push { key := ρ k, val := ρ x, born := clock }) (clock + 1)) (.map (ks ++ [kd]) (vs ++ [ev x])) (by
   intro ok' hok
   refine ⟨b, K, s, _, clock + 1, hs, setB_same (heap_lt hb), ⟨by simp [hB.1], fun i e he => ?_⟩, by simp [hl], ?_, ?_⟩
   ·rw [Array.getElem?_push] at he
    split at he
    ·rename_i e1
     cases he
     simp [e1, hB.1]
    ·exact hB.2 i e he
   ·refine RDcs_of fun i y hy => ?_
    simp only [Nat.zero_add, Array.getElem?_map, Array.getElem?_push]
    rcases Nat.lt_or_ge i ks.length with hi | hi
    ·rw [List.getElem?_append_left hi] at hy
     obtain ⟨u, hu, hru⟩ := RDcs_get hks hy
     simp only [Nat.zero_add, Array.getElem?_map] at hu
     rw [if_neg (by omega)]
     exact ⟨u, hu, RD_mono hok _ _ hru⟩
    ·rw [List.getElem?_append_right hi] at hy
     have : i - ks.length = 0 := by
      rcases Nat.eq_zero_or_pos (i - ks.length) with h' | h'
      ·exact h'
      ·obtain ⟨q, hq⟩ : ∃ q, i - ks.length = q + 1 := ⟨i - ks.length - 1, by omega⟩
       rw [hq] at hy
       simp at hy
     rw [this] at hy
     simp at hy
     subst hy
     rw [if_pos (by omega)]
     exact ⟨ρ k, rfl, RD_mono hok _ _ hk⟩
   ·have e1 : (Array.map (fun x => x.val) (es.push { key := ρ k, val := ρ x, born := clock })).toList = (Array.map (fun x => x.val) es).toList ++ [ρ x] := by simp
    rw [e1]
    exact RVl_append (RVl_mono hok (fun _ _ h => h) _ _ hvs) (RVl_one (RV_mono hok (fun _ _ h => h) _ _ hx)))
  refine ⟨undef, _, σ, .inr ⟨hrun _ hf _ rfl, rfl⟩, ?_, fun _ _ => rfl, fun _ _ h => h, ?_, ?_⟩
  ·rw [app_one]; exact g1
  ·rw [app_one]; exact g2
  ·simp only [RV]
 ·cases hr
end
end Go.AX
