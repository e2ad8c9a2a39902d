/- people.Read. -/
import Derived.Test.YtcjdlbdoffchfaaGreatDoorCF
import Derived.Test.YtcjdlbdoffchfaaGreatDoorCD
set_option linter.unusedSimpArgs false
set_option linter.unusedVariables false
set_option linter.unnecessarySimpa false
set_option maxRecDepth 1000000
set_option maxHeartbeats 4000000
namespace Go.AX
open Go Go.Proofs Go.RowKit
/-- Lines of a world. -/
inductive Ln where
  | pl (p : Pl)
  | pe (k : Str)
  | nm (n : Nm)
  | hm (h : Hm)
  | ml (m : Str)
  | ad (a : Str)
  | wk (x : Wk)
  | bo (b : Bo)
def Ln.tx : Ln → Str
  | .pl p => [112, 108, 97, 99, 101] ++ 32 :: Lib.join [p.1, dashS p.2] [32]
  | .pe k => [112, 101, 114, 115, 111, 110] ++ 32 :: Lib.join [k] [32]
  | .nm n => [110, 97, 109, 101] ++ 32 :: (Lib.itoa n.2 ++ 32 :: n.1)
  | .hm h => [104, 111, 109, 101] ++ 32 :: Lib.join [h.1, Lib.itoa h.2.1, Lib.itoa h.2.2] [32]
  | .ml m => [109, 97, 105, 108] ++ 32 :: Lib.join [m] [32]
  | .ad a => [97, 100, 118, 105, 115, 101, 114] ++ 32 :: Lib.join [a] [32]
  | .wk x => [119, 111, 114, 107] ++ 32 :: Lib.join (Lib.itoa x.1 :: x.2) [32]
  | .bo b => [98, 111, 110, 100] ++ 32 :: Lib.join [b.1, b.2] [32]
/-- What was read, from the first person on. -/
structure R2 where
  pls : List Pl
  ps : List Pe
  p : Pe
  wks : List Wk
  bos : List Bo
  rk : Int
/-- What was read: only places, or more. -/
abbrev RSt := List Pl ⊕ R2
def RSt.wo : RSt → Wo
  | .inl pls => ⟨pls, [], [], []⟩
  | .inr r => ⟨r.pls, r.ps ++ [r.p], r.wks, r.bos⟩
def stp : RSt → Ln → RSt
  | .inl pls, .pl p => .inl (pls ++ [p])
  | .inl pls, .pe k => .inr ⟨pls, [], ⟨k, [], [], [], []⟩, [], [], 1⟩
  | .inl pls, _ => .inl pls
  | .inr r, .pl _ => .inr r
  | .inr r, .pe k => .inr ⟨r.pls, r.ps ++ [r.p], ⟨k, [], [], [], []⟩, r.wks, r.bos, 1⟩
  | .inr r, .nm n => .inr { r with p := { r.p with names := r.p.names ++ [n] }, rk := 2 }
  | .inr r, .hm h => .inr { r with p := { r.p with homes := r.p.homes ++ [h] }, rk := 3 }
  | .inr r, .ml m => .inr { r with p := { r.p with mails := r.p.mails ++ [m] }, rk := 4 }
  | .inr r, .ad a => .inr { r with p := { r.p with advs := r.p.advs ++ [a] }, rk := 5 }
  | .inr r, .wk x => .inr { r with wks := r.wks ++ [x], rk := 6 }
  | .inr r, .bo b => .inr { r with bos := r.bos ++ [b], rk := 7 }
/-- A line can stand there. -/
def good : RSt → Ln → Prop
  | .inl pls, .pl p => pls.length ≤ 1000 ∧ p.2 ≠ [45] ∧ W1 [p.1, dashS p.2]
  | .inl _, .pe k => W1 [k]
  | .inl _, _ => False
  | .inr _, .pl _ => False
  | .inr r, .pe k => r.rk < 6 ∧ r.ps.length ≤ 1000 ∧ W1 [k]
  | .inr r, .nm n => (1 ≤ r.rk ∧ r.rk ≤ 2) ∧ r.ps.length ≤ 1000 ∧ r.p.names.length ≤ 1000 ∧ n.2 ∈ DY ∧ n.1 ≠ [] ∧ n.1.length ≤ 10000
  | .inr r, .hm h => (1 ≤ r.rk ∧ r.rk ≤ 3) ∧ r.ps.length ≤ 1000 ∧ r.p.homes.length ≤ 1000 ∧ h.2.1 ∈ DY ∧ h.2.2 ∈ DY ∧ W1 [h.1, Lib.itoa h.2.1, Lib.itoa h.2.2]
  | .inr r, .ml m => (1 ≤ r.rk ∧ r.rk ≤ 4) ∧ r.ps.length ≤ 1000 ∧ r.p.mails.length ≤ 1000 ∧ W1 [m]
  | .inr r, .ad a => (1 ≤ r.rk ∧ r.rk ≤ 5) ∧ r.ps.length ≤ 1000 ∧ r.p.advs.length ≤ 1000 ∧ W1 [a]
  | .inr r, .wk x => r.rk ≤ 6 ∧ r.ps.length ≤ 1000 ∧ r.wks.length ≤ 1000 ∧ x.1 ∈ DY ∧ x.2.length ≤ 1000 ∧ W1 (Lib.itoa x.1 :: x.2)
  | .inr r, .bo b => r.rk ≤ 7 ∧ r.ps.length ≤ 1000 ∧ r.bos.length ≤ 1000 ∧ W1 [b.1, b.2]
def Runs (Q : RSt → Prop) : RSt → List Ln → Prop
  | st, [] => Q st
  | st, l :: ls => good st l ∧ Runs Q (stp st l) ls
theorem Runs.app {Q : RSt → Prop} : ∀ {ys zs : List Ln} {st : RSt}, Runs (fun s => Runs Q s zs) st ys → Runs Q st (ys ++ zs)
  | [], _, _, h => h
  | _ :: _, _, _, h => ⟨h.1, Runs.app h.2⟩
theorem Runs.mono {Q Q' : RSt → Prop} (hq : ∀ s, Q s → Q' s) : ∀ {ys : List Ln} {st : RSt}, Runs Q st ys → Runs Q' st ys
  | [], _, h => hq _ h
  | _ :: _, _, h => ⟨h.1, Runs.mono hq h.2⟩
theorem frz_pe {hv : Nat → Option O} {keep : Nat → Bool} {X : List D} {key : Str} {a b c d y : V} {a' b' c' d' : D} (h1 : frz hv keep a = .d a') (h2 : frz hv keep b = .d b') (h3 : frz hv keep c = .d c') (h4 : frz hv keep d = .d d') :
    frzL hv keep (dv X ++ [.agg [S key, a, b, c, d]] ++ [y]) = dv X ++ [.d (.agg [.str key, a', b', c', d'])] ++ [frz hv keep y] := by
  have h5 : frz hv keep (.agg [S key, a, b, c, d]) = .d (.agg [.str key, a', b', c', d']) := frz_agg5 rfl h1 h2 h3 h4
  simp only [frzL_appR, frzL, h5]
  simp [go_sem]
theorem frz_pe1 {hv : Nat → Option O} {keep : Nat → Bool} {X : List D} {key : Str} {a b c d : V} {a' b' c' d' : D} (h1 : frz hv keep a = .d a') (h2 : frz hv keep b = .d b') (h3 : frz hv keep c = .d c') (h4 : frz hv keep d = .d d') :
    frzL hv keep (dv X ++ [.agg [S key, a, b, c, d]]) = dv (X ++ [.agg [.str key, a', b', c', d']]) := by
  have h5 : frz hv keep (.agg [S key, a, b, c, d]) = .d (.agg [.str key, a', b', c', d']) := frz_agg5 rfl h1 h2 h3 h4
  simp only [frzL_appR, frzL, h5, ← dv_snoc]
  simp [go_sem]
theorem frzL5 {hv : Nat → Option O} {keep : Nat → Bool} {a b c d : V} {w x y z e : D} (h1 : frz hv keep a = .d w) (h2 : frz hv keep b = .d x) (h3 : frz hv keep c = .d y) (h4 : frz hv keep d = .d z) : frzL hv keep [a, b, c, d, .d e] = [.d w, .d x, .d y, .d z, .d e] := by
  simp only [frzL, h1, h2, h3, h4, frz]
def rdH : RSt → List (Nat × Option O)
  | .inl pls => [(0, some (O.box 31 [.nils, .nils, .nils, .nils])), (448, some (RdB (.slr 1216 0 pls.length) (.slr 1280 0 0) (.slr 1344 0 0) (.slr 1408 0 0) 0)), (1216, some (oPl (pls.map plD))), (1280, some (.vec 50 5 [])), (1344, some (oWk [])), (1408, some (oBo []))]
  | .inr ⟨pls, ps, ⟨key, nms, hms, mls, ads⟩, wks, bos, rk⟩ => [(0, some (O.box 31 [.nils, .nils, .nils, .nils])), (448, some (RdB (.slr 1216 0 pls.length) (.slr 1280 0 (ps.length + 1)) (.slr 1344 0 wks.length) (.slr 1408 0 bos.length) rk)), (1216, some (oPl (pls.map plD))), (1280, some (oPe (ps.map peD) key (.slr 1472 0 nms.length) (.slr 1536 0 hms.length) (.slr 1600 0 mls.length) (.slr 1664 0 ads.length))), (1344, some (oWk (wks.map wkD))), (1408, some (oBo (bos.map boD))), (1472, some (oNm (nms.map nmD))), (1536, some (oHm (hms.map hmD))), (1600, some (oSt (mls.map D.str))), (1664, some (oSt (ads.map D.str)))]
theorem rdH_l (pls : List Pl) : rdH (.inl pls) = [(0, some (O.box 31 [.nils, .nils, .nils, .nils])), (448, some (RdB (.slr 1216 0 pls.length) (.slr 1280 0 0) (.slr 1344 0 0) (.slr 1408 0 0) 0)), (1216, some (oPl (pls.map plD))), (1280, some (.vec 50 5 [])), (1344, some (oWk [])), (1408, some (oBo []))] := rfl
theorem rdH_r (pls : List Pl) (ps : List Pe) (key : Str) (nms : List Nm) (hms : List Hm) (mls ads : List Str) (wks : List Wk) (bos : List Bo) (rk : Int) : rdH (.inr ⟨pls, ps, ⟨key, nms, hms, mls, ads⟩, wks, bos, rk⟩) = [(0, some (O.box 31 [.nils, .nils, .nils, .nils])), (448, some (RdB (.slr 1216 0 pls.length) (.slr 1280 0 (ps.length + 1)) (.slr 1344 0 wks.length) (.slr 1408 0 bos.length) rk)), (1216, some (oPl (pls.map plD))), (1280, some (oPe (ps.map peD) key (.slr 1472 0 nms.length) (.slr 1536 0 hms.length) (.slr 1600 0 mls.length) (.slr 1664 0 ads.length))), (1344, some (oWk (wks.map wkD))), (1408, some (oBo (bos.map boD))), (1472, some (oNm (nms.map nmD))), (1536, some (oHm (hms.map hmD))), (1600, some (oSt (mls.map D.str))), (1664, some (oSt (ads.map D.str)))] := rfl
theorem read_ok {w : Wo} (T : Str) (L : List Ln) (hT : T.length ≤ 200000) (hLn : L.length ≤ 100000) (hl : Does Tryz.prog 42 [S T] [] (.tup [.d (.sl ((L.map Ln.tx).map D.str)), B true]) [])
    (hck : Does Tryz.prog 35 [.d (woD w)] [] (I 0) []) (hr : Runs (fun st => RSt.wo st = w) (.inl []) L) : Does Tryz.prog 10 [S T] [] (.tup [.d (woD w), I 0, I 0]) [] := by
  refine Does.of_AW (n := 60) Tryz.func10 rfl rfl rfl fun cx hcx => ?_
  repeat' (first | ((first | refine AW.sreg rfl fun K hK => ?_ | refine run_call _ _ _ ((hl).pure rfl rfl _ _) rfl rfl (dstOk_of rfl) rfl rfl rfl ?_); simp only [go_sem, ↓reduceIte, List.length_map]) | (refine AW.seq_k fun K hK => ?_) | (refine AW.block ?_) | (refine AW.skip ?_; simp only [Then, InBlock]) | (refine AW.cF ?_) | (refine hK _ ?_; clear hK K))
  refine AW.weak (Weak.nilB 448 0 91 60 2 rfl rfl) ?_
  simp only [List.set_cons_zero, List.set_cons_succ, Nat.reduceMul, Nat.reduceAdd]
  refine AW.weak (Weak.nilB 448 1 91 50 5 rfl rfl) ?_
  simp only [List.set_cons_zero, List.set_cons_succ, Nat.reduceMul, Nat.reduceAdd]
  refine AW.weak (Weak.nilB 448 2 91 68 2 rfl rfl) ?_
  simp only [List.set_cons_zero, List.set_cons_succ, Nat.reduceMul, Nat.reduceAdd]
  refine AW.weak (Weak.nilB 448 3 91 70 2 rfl rfl) ?_
  simp only [List.set_cons_zero, List.set_cons_succ, Nat.reduceMul, Nat.reduceAdd]
  refine AW.loopF (ι := Nat × RSt) [2, 5, 6, 7, 22, 23] (fun p => [(24, I p.1)]) (fun p => rdH p.2) 100 (fun p => p.1 ≤ L.length ∧ Runs (fun st => RSt.wo st = w) p.2 (L.drop p.1)) (fun p => L.length - p.1) (0, .inl []) ⟨Nat.zero_le _, hr⟩ (Weak.oC hcx [(0, 0), (448, 448), (1216, 1216), (1280, 1280), (1344, 1344), (1408, 1408)] (by refine ⟨?_, ?_, ?_⟩ <;> simp [go_sem, gL, kL, List.map_append, dv_push, rdH, dv])) ?_; simp only [St.at_nil, St.at_cons, lk, Nat.reduceEqDiff, ↓reduceIte, Option.getD_some, Option.getD_none, List.cons_append, List.nil_append, List.append_nil]
  rintro ⟨i, s⟩ ⟨h1, h2⟩
  simp only at h1 h2
  by_cases hi : i < L.length
  · obtain ⟨l, hx, hxm, hxd⟩ := get_some hi
    have hget : ((L.map Ln.tx).map D.str)[i]? = some (D.str l.tx) := by simp [hx]
    rw [hxd] at h2
    obtain ⟨g, h3⟩ := h2
    clear hr hxd
    rcases s with pls | ⟨pls, ps, ⟨key, nms, hms, mls, ads⟩, wks, bos, rk⟩
    · rcases l with p | k | n | h | m | a | x | b
      · have c := line_place p g.2.1 (pls.map plD) (by have := g.1; simp only [List.length_map]; omega) g.2.2
        simp only [List.length_map] at c
        have c : Does _ _ [.ptr 0 0, S (Ln.tx (.pl p))] _ _ _ := c
        generalize Ln.tx (.pl p) = TT at *
        rw [rdH_l]
        repeat' (first | ((first | refine AW.sreg rfl fun K hK => ?_ | refine AW.reg rfl ?_ | refine run_call _ _ _ ((c).robjs [448, 1216, 1280, 1344, 1408] ⟨(by first | rfl | (simp [go_sem]; done) | (simp [go_sem]; rfl)), (by first | rfl | (simp [go_sem]; done) | (simp [go_sem]; rfl)), (by first | rfl | (simp [go_sem]; done) | (simp [go_sem]; rfl)), (by first | rfl | (simp [go_sem]; done) | (simp [go_sem]; rfl)), (by first | rfl | (simp [go_sem]; done) | (simp [go_sem]; rfl)), trivial⟩ rfl (by decide) (by simp) (by simp) (by simp [go_sem]) (by simp [go_sem]) (by simp [go_sem]) (by simp [go_sem])) rfl rfl (dstOk_of rfl) rfl rfl rfl ?_); simp only [go_sem, ↓reduceIte, List.length_map, hget, Nat.reduceSub, Nat.add_zero, Nat.reduceAdd]) | (refine AW.seq_k fun K hK => ?_) | (refine AW.block ?_) | (refine AW.skip ?_; simp only [Then, InBlock]) | (refine AW.cT ?_) | (refine AW.cF ?_) | (refine hK _ ?_; clear hK K) | (with_reducible refine andI ?_))
        refine ⟨(i + 1, .inl (pls ++ [p])), ⟨hi, h3⟩, by simp only; omega, ?_⟩
        simp only [rdH_l, rdH_r, List.map_append, List.map_cons, List.map_nil, List.length_append, List.length_cons, List.length_nil, Nat.zero_add]
        exact (Weak.oC hcx [(0, 0), (448, 448), (1216, 6912), (1280, 1280), (1344, 1344), (1408, 1408)] (by refine ⟨?_, ?_, ?_⟩ <;> simp [go_sem, gL, kL, List.map_append, dv_push]))
      · have c := line_person1 k (pls.map plD) g
        simp only [List.length_map] at c
        have c : Does _ _ [.ptr 0 0, S (Ln.tx (.pe k))] _ _ _ := c
        generalize Ln.tx (.pe k) = TT at *
        rw [rdH_l]
        repeat' (first | ((first | refine AW.sreg rfl fun K hK => ?_ | refine AW.reg rfl ?_ | refine run_call _ _ _ ((c).robjs [448, 1216, 1280, 1344, 1408] ⟨(by first | rfl | (simp [go_sem]; done) | (simp [go_sem]; rfl)), (by first | rfl | (simp [go_sem]; done) | (simp [go_sem]; rfl)), (by first | rfl | (simp [go_sem]; done) | (simp [go_sem]; rfl)), (by first | rfl | (simp [go_sem]; done) | (simp [go_sem]; rfl)), (by first | rfl | (simp [go_sem]; done) | (simp [go_sem]; rfl)), trivial⟩ rfl (by decide) (by simp) (by simp) (by simp [go_sem]) (by simp [go_sem]) (by simp [go_sem]) (by simp [go_sem])) rfl rfl (dstOk_of rfl) rfl rfl rfl ?_); simp only [go_sem, ↓reduceIte, List.length_map, hget, Nat.reduceSub, Nat.add_zero, Nat.reduceAdd]) | (refine AW.seq_k fun K hK => ?_) | (refine AW.block ?_) | (refine AW.skip ?_; simp only [Then, InBlock]) | (refine AW.cT ?_) | (refine AW.cF ?_) | (refine hK _ ?_; clear hK K) | (with_reducible refine andI ?_))
        refine ⟨(i + 1, .inr ⟨pls, [], ⟨k, [], [], [], []⟩, [], [], 1⟩), ⟨hi, h3⟩, by simp only; omega, ?_⟩
        simp only [rdH_l, rdH_r, List.map_append, List.map_cons, List.map_nil, List.length_append, List.length_cons, List.length_nil, Nat.zero_add]
        exact (Weak.oC hcx [(0, 0), (448, 448), (1216, 1216), (1280, 6912), (1344, 1344), (1408, 1408), (1472, 6913), (1536, 6914), (1600, 6915), (1664, 6916)] (by refine ⟨?_, ?_, ?_⟩ <;> simp [go_sem, gL, kL, List.map_append, dv_push]))
      all_goals exact g.elim
    · rcases l with p | k | n | h | m | a | x | b
      · exact g.elim
      · simp only [good] at g
        simp only [stp] at h3
        have gg := g.2.1
        have c := line_person k key rk (pls.map plD) (ps.map peD) (wks.map wkD) (bos.map boD) (nms.map nmD) (hms.map hmD) (mls.map D.str) (ads.map D.str) (by simp only [List.length_map]; omega) g.1 g.2.2
        simp only [List.length_map] at c
        have c : Does _ _ [.ptr 0 0, S (Ln.tx (.pe k))] _ _ _ := c
        generalize Ln.tx (.pe k) = TT at *
        rw [rdH_r]
        repeat' (first | ((first | refine AW.sreg rfl fun K hK => ?_ | refine AW.reg rfl ?_ | refine run_call _ _ _ ((c).robjs [448, 1216, 1280, 1344, 1408, 1472, 1536, 1600, 1664] ⟨(by first | rfl | (simp [go_sem]; done) | (simp [go_sem]; rfl)), (by first | rfl | (simp [go_sem]; done) | (simp [go_sem]; rfl)), (by first | rfl | (simp [go_sem]; done) | (simp [go_sem]; rfl)), (by first | rfl | (simp [go_sem]; done) | (simp [go_sem]; rfl)), (by first | rfl | (simp [go_sem]; done) | (simp [go_sem]; rfl)), (by first | rfl | (simp [go_sem]; done) | (simp [go_sem]; rfl)), (by first | rfl | (simp [go_sem]; done) | (simp [go_sem]; rfl)), (by first | rfl | (simp [go_sem]; done) | (simp [go_sem]; rfl)), (by first | rfl | (simp [go_sem]; done) | (simp [go_sem]; rfl)), trivial⟩ rfl (by decide) (by simp) (by simp) (by simp [go_sem]) (by simp [go_sem]) (by simp [go_sem]) (by simp [go_sem])) rfl rfl (dstOk_of rfl) rfl rfl rfl ?_); simp only [go_sem, ↓reduceIte, List.length_map, hget, Nat.reduceSub, Nat.add_zero, Nat.reduceAdd]) | (refine AW.seq_k fun K hK => ?_) | (refine AW.block ?_) | (refine AW.skip ?_; simp only [Then, InBlock]) | (refine AW.cT ?_) | (refine AW.cF ?_) | (refine hK _ ?_; clear hK K) | (with_reducible refine andI ?_))
        refine ⟨(i + 1, .inr ⟨pls, ps ++ [⟨key, nms, hms, mls, ads⟩], ⟨k, [], [], [], []⟩, wks, bos, 1⟩), ⟨hi, h3⟩, by simp only; omega, ?_⟩
        simp only [rdH_l, rdH_r, List.map_append, List.map_cons, List.map_nil, List.length_append, List.length_cons, List.length_nil, Nat.zero_add]
        refine Weak.objs hcx [(0, 0), (448, 448), (1216, 1216), (1280, 6912), (1344, 1344), (1408, 1408), (1472, 6913), (1536, 6914), (1600, 6915), (1664, 6916)] rfl rfl (Nat.le_of_ble_eq_true rfl) (by simp [go_sem, gL, kL]) ?_ pk0 (by simp [gL, lk])
        intro q hq
        simp only [List.mem_cons, List.not_mem_nil, or_false] at hq
        rcases hq with rfl | rfl | rfl | rfl | rfl | rfl | rfl | rfl | rfl | rfl
        · exact ⟨_, rfl, Nat.le_of_ble_eq_true rfl, rfl, rfl, _, rfl, by simp [go_sem, gL, kL]⟩
        · exact ⟨_, rfl, Nat.le_of_ble_eq_true rfl, rfl, rfl, _, rfl, by simp [go_sem, gL, kL]⟩
        · exact ⟨_, rfl, Nat.le_of_ble_eq_true rfl, by simp [go_sem], rfl, _, rfl, by simp [go_sem, gL, kL]⟩
        · refine ⟨_, rfl, Nat.le_of_ble_eq_true rfl, by simp [go_sem], rfl, _, rfl, ?_⟩
          refine Eq.trans (congrArg (O.vec _ _) (frz_pe (frz_slr (xs := nms.map nmD) rfl rfl (by simp)) (frz_slr (xs := hms.map hmD) rfl rfl (by simp)) (frz_slr (xs := mls.map D.str) rfl rfl (by simp)) (frz_slr (xs := ads.map D.str) rfl rfl (by simp)))) ?_
          simp [go_sem, gL, kL, ← dv_snoc]
        · exact ⟨_, rfl, Nat.le_of_ble_eq_true rfl, by simp [go_sem], rfl, _, rfl, by simp [go_sem, gL, kL]⟩
        · exact ⟨_, rfl, Nat.le_of_ble_eq_true rfl, by simp [go_sem], rfl, _, rfl, by simp [go_sem, gL, kL]⟩
        · exact ⟨_, rfl, Nat.le_of_ble_eq_true rfl, by simp [go_sem], rfl, _, rfl, by simp [go_sem, gL, kL]⟩
        · exact ⟨_, rfl, Nat.le_of_ble_eq_true rfl, by simp [go_sem], rfl, _, rfl, by simp [go_sem, gL, kL]⟩
        · exact ⟨_, rfl, Nat.le_of_ble_eq_true rfl, by simp [go_sem], rfl, _, rfl, by simp [go_sem, gL, kL]⟩
        · exact ⟨_, rfl, Nat.le_of_ble_eq_true rfl, by simp [go_sem], rfl, _, rfl, by simp [go_sem, gL, kL]⟩
      · simp only [good] at g
        simp only [stp] at h3
        obtain ⟨g1, g2, g3, g4⟩ := g
        have c := line_name n g4.1 g4.2.1 g4.2.2 key rk (pls.map plD) (ps.map peD) (wks.map wkD) (bos.map boD) (nms.map nmD) (hms.map hmD) (mls.map D.str) (ads.map D.str) (by simp only [List.length_map]; omega) (by simp only [List.length_map]; omega) g1.1 g1.2
        simp only [List.length_map] at c
        have c : Does _ _ [.ptr 0 0, S (Ln.tx (.nm n))] _ _ _ := c
        generalize Ln.tx (.nm n) = TT at *
        rw [rdH_r]
        repeat' (first | ((first | refine AW.sreg rfl fun K hK => ?_ | refine AW.reg rfl ?_ | refine run_call _ _ _ ((c).robjs [448, 1216, 1280, 1344, 1408, 1472, 1536, 1600, 1664] ⟨(by first | rfl | (simp [go_sem]; done) | (simp [go_sem]; rfl)), (by first | rfl | (simp [go_sem]; done) | (simp [go_sem]; rfl)), (by first | rfl | (simp [go_sem]; done) | (simp [go_sem]; rfl)), (by first | rfl | (simp [go_sem]; done) | (simp [go_sem]; rfl)), (by first | rfl | (simp [go_sem]; done) | (simp [go_sem]; rfl)), (by first | rfl | (simp [go_sem]; done) | (simp [go_sem]; rfl)), (by first | rfl | (simp [go_sem]; done) | (simp [go_sem]; rfl)), (by first | rfl | (simp [go_sem]; done) | (simp [go_sem]; rfl)), (by first | rfl | (simp [go_sem]; done) | (simp [go_sem]; rfl)), trivial⟩ rfl (by decide) (by simp) (by simp) (by simp [go_sem]) (by simp [go_sem]) (by simp [go_sem]) (by simp [go_sem])) rfl rfl (dstOk_of rfl) rfl rfl rfl ?_); simp only [go_sem, ↓reduceIte, List.length_map, hget, Nat.reduceSub, Nat.add_zero, Nat.reduceAdd]) | (refine AW.seq_k fun K hK => ?_) | (refine AW.block ?_) | (refine AW.skip ?_; simp only [Then, InBlock]) | (refine AW.cT ?_) | (refine AW.cF ?_) | (refine hK _ ?_; clear hK K) | (with_reducible refine andI ?_))
        refine ⟨(i + 1, .inr ⟨pls, ps, ⟨key, nms ++ [n], hms, mls, ads⟩, wks, bos, 2⟩), ⟨hi, h3⟩, by simp only; omega, ?_⟩
        simp only [rdH_l, rdH_r, List.map_append, List.map_cons, List.map_nil, List.length_append, List.length_cons, List.length_nil, Nat.zero_add]
        exact (Weak.oC hcx [(0, 0), (448, 448), (1216, 1216), (1280, 1280), (1344, 1344), (1408, 1408), (1472, 6912), (1536, 1536), (1600, 1600), (1664, 1664)] (by refine ⟨?_, ?_, ?_⟩ <;> simp [go_sem, gL, kL, List.map_append, dv_push]))
      · simp only [good] at g
        simp only [stp] at h3
        obtain ⟨g1, g2, g3, g4⟩ := g
        have c := line_home h g4.1 g4.2.1 key rk (pls.map plD) (ps.map peD) (wks.map wkD) (bos.map boD) (nms.map nmD) (hms.map hmD) (mls.map D.str) (ads.map D.str) (by simp only [List.length_map]; omega) (by simp only [List.length_map]; omega) g1.1 g1.2 g4.2.2
        simp only [List.length_map] at c
        have c : Does _ _ [.ptr 0 0, S (Ln.tx (.hm h))] _ _ _ := c
        generalize Ln.tx (.hm h) = TT at *
        rw [rdH_r]
        repeat' (first | ((first | refine AW.sreg rfl fun K hK => ?_ | refine AW.reg rfl ?_ | refine run_call _ _ _ ((c).robjs [448, 1216, 1280, 1344, 1408, 1472, 1536, 1600, 1664] ⟨(by first | rfl | (simp [go_sem]; done) | (simp [go_sem]; rfl)), (by first | rfl | (simp [go_sem]; done) | (simp [go_sem]; rfl)), (by first | rfl | (simp [go_sem]; done) | (simp [go_sem]; rfl)), (by first | rfl | (simp [go_sem]; done) | (simp [go_sem]; rfl)), (by first | rfl | (simp [go_sem]; done) | (simp [go_sem]; rfl)), (by first | rfl | (simp [go_sem]; done) | (simp [go_sem]; rfl)), (by first | rfl | (simp [go_sem]; done) | (simp [go_sem]; rfl)), (by first | rfl | (simp [go_sem]; done) | (simp [go_sem]; rfl)), (by first | rfl | (simp [go_sem]; done) | (simp [go_sem]; rfl)), trivial⟩ rfl (by decide) (by simp) (by simp) (by simp [go_sem]) (by simp [go_sem]) (by simp [go_sem]) (by simp [go_sem])) rfl rfl (dstOk_of rfl) rfl rfl rfl ?_); simp only [go_sem, ↓reduceIte, List.length_map, hget, Nat.reduceSub, Nat.add_zero, Nat.reduceAdd]) | (refine AW.seq_k fun K hK => ?_) | (refine AW.block ?_) | (refine AW.skip ?_; simp only [Then, InBlock]) | (refine AW.cT ?_) | (refine AW.cF ?_) | (refine hK _ ?_; clear hK K) | (with_reducible refine andI ?_))
        refine ⟨(i + 1, .inr ⟨pls, ps, ⟨key, nms, hms ++ [h], mls, ads⟩, wks, bos, 3⟩), ⟨hi, h3⟩, by simp only; omega, ?_⟩
        simp only [rdH_l, rdH_r, List.map_append, List.map_cons, List.map_nil, List.length_append, List.length_cons, List.length_nil, Nat.zero_add]
        exact (Weak.oC hcx [(0, 0), (448, 448), (1216, 1216), (1280, 1280), (1344, 1344), (1408, 1408), (1472, 1472), (1536, 6912), (1600, 1600), (1664, 1664)] (by refine ⟨?_, ?_, ?_⟩ <;> simp [go_sem, gL, kL, List.map_append, dv_push]))
      · simp only [good] at g
        simp only [stp] at h3
        obtain ⟨g1, g2, g3, g4⟩ := g
        have c := line_mail m key rk (pls.map plD) (ps.map peD) (wks.map wkD) (bos.map boD) (nms.map nmD) (hms.map hmD) (mls.map D.str) (ads.map D.str) (by simp only [List.length_map]; omega) (by simp only [List.length_map]; omega) g1.1 g1.2 g4
        simp only [List.length_map] at c
        have c : Does _ _ [.ptr 0 0, S (Ln.tx (.ml m))] _ _ _ := c
        generalize Ln.tx (.ml m) = TT at *
        rw [rdH_r]
        repeat' (first | ((first | refine AW.sreg rfl fun K hK => ?_ | refine AW.reg rfl ?_ | refine run_call _ _ _ ((c).robjs [448, 1216, 1280, 1344, 1408, 1472, 1536, 1600, 1664] ⟨(by first | rfl | (simp [go_sem]; done) | (simp [go_sem]; rfl)), (by first | rfl | (simp [go_sem]; done) | (simp [go_sem]; rfl)), (by first | rfl | (simp [go_sem]; done) | (simp [go_sem]; rfl)), (by first | rfl | (simp [go_sem]; done) | (simp [go_sem]; rfl)), (by first | rfl | (simp [go_sem]; done) | (simp [go_sem]; rfl)), (by first | rfl | (simp [go_sem]; done) | (simp [go_sem]; rfl)), (by first | rfl | (simp [go_sem]; done) | (simp [go_sem]; rfl)), (by first | rfl | (simp [go_sem]; done) | (simp [go_sem]; rfl)), (by first | rfl | (simp [go_sem]; done) | (simp [go_sem]; rfl)), trivial⟩ rfl (by decide) (by simp) (by simp) (by simp [go_sem]) (by simp [go_sem]) (by simp [go_sem]) (by simp [go_sem])) rfl rfl (dstOk_of rfl) rfl rfl rfl ?_); simp only [go_sem, ↓reduceIte, List.length_map, hget, Nat.reduceSub, Nat.add_zero, Nat.reduceAdd]) | (refine AW.seq_k fun K hK => ?_) | (refine AW.block ?_) | (refine AW.skip ?_; simp only [Then, InBlock]) | (refine AW.cT ?_) | (refine AW.cF ?_) | (refine hK _ ?_; clear hK K) | (with_reducible refine andI ?_))
        refine ⟨(i + 1, .inr ⟨pls, ps, ⟨key, nms, hms, mls ++ [m], ads⟩, wks, bos, 4⟩), ⟨hi, h3⟩, by simp only; omega, ?_⟩
        simp only [rdH_l, rdH_r, List.map_append, List.map_cons, List.map_nil, List.length_append, List.length_cons, List.length_nil, Nat.zero_add]
        exact (Weak.oC hcx [(0, 0), (448, 448), (1216, 1216), (1280, 1280), (1344, 1344), (1408, 1408), (1472, 1472), (1536, 1536), (1600, 6912), (1664, 1664)] (by refine ⟨?_, ?_, ?_⟩ <;> simp [go_sem, gL, kL, List.map_append, dv_push]))
      · simp only [good] at g
        simp only [stp] at h3
        obtain ⟨g1, g2, g3, g4⟩ := g
        have c := line_adviser a key rk (pls.map plD) (ps.map peD) (wks.map wkD) (bos.map boD) (nms.map nmD) (hms.map hmD) (mls.map D.str) (ads.map D.str) (by simp only [List.length_map]; omega) (by simp only [List.length_map]; omega) g1.1 g1.2 g4
        simp only [List.length_map] at c
        have c : Does _ _ [.ptr 0 0, S (Ln.tx (.ad a))] _ _ _ := c
        generalize Ln.tx (.ad a) = TT at *
        rw [rdH_r]
        repeat' (first | ((first | refine AW.sreg rfl fun K hK => ?_ | refine AW.reg rfl ?_ | refine run_call _ _ _ ((c).robjs [448, 1216, 1280, 1344, 1408, 1472, 1536, 1600, 1664] ⟨(by first | rfl | (simp [go_sem]; done) | (simp [go_sem]; rfl)), (by first | rfl | (simp [go_sem]; done) | (simp [go_sem]; rfl)), (by first | rfl | (simp [go_sem]; done) | (simp [go_sem]; rfl)), (by first | rfl | (simp [go_sem]; done) | (simp [go_sem]; rfl)), (by first | rfl | (simp [go_sem]; done) | (simp [go_sem]; rfl)), (by first | rfl | (simp [go_sem]; done) | (simp [go_sem]; rfl)), (by first | rfl | (simp [go_sem]; done) | (simp [go_sem]; rfl)), (by first | rfl | (simp [go_sem]; done) | (simp [go_sem]; rfl)), (by first | rfl | (simp [go_sem]; done) | (simp [go_sem]; rfl)), trivial⟩ rfl (by decide) (by simp) (by simp) (by simp [go_sem]) (by simp [go_sem]) (by simp [go_sem]) (by simp [go_sem])) rfl rfl (dstOk_of rfl) rfl rfl rfl ?_); simp only [go_sem, ↓reduceIte, List.length_map, hget, Nat.reduceSub, Nat.add_zero, Nat.reduceAdd]) | (refine AW.seq_k fun K hK => ?_) | (refine AW.block ?_) | (refine AW.skip ?_; simp only [Then, InBlock]) | (refine AW.cT ?_) | (refine AW.cF ?_) | (refine hK _ ?_; clear hK K) | (with_reducible refine andI ?_))
        refine ⟨(i + 1, .inr ⟨pls, ps, ⟨key, nms, hms, mls, ads ++ [a]⟩, wks, bos, 5⟩), ⟨hi, h3⟩, by simp only; omega, ?_⟩
        simp only [rdH_l, rdH_r, List.map_append, List.map_cons, List.map_nil, List.length_append, List.length_cons, List.length_nil, Nat.zero_add]
        exact (Weak.oC hcx [(0, 0), (448, 448), (1216, 1216), (1280, 1280), (1344, 1344), (1408, 1408), (1472, 1472), (1536, 1536), (1600, 1600), (1664, 6912)] (by refine ⟨?_, ?_, ?_⟩ <;> simp [go_sem, gL, kL, List.map_append, dv_push]))
      · simp only [good] at g
        simp only [stp] at h3
        obtain ⟨g1, g2, g3, g4⟩ := g
        have c := line_work x g4.1 g4.2.1 key rk (pls.map plD) (ps.map peD) (wks.map wkD) (bos.map boD) (nms.map nmD) (hms.map hmD) (mls.map D.str) (ads.map D.str) (by simp only [List.length_map]; omega) (by simp only [List.length_map]; omega) g1 g4.2.2
        simp only [List.length_map] at c
        have c : Does _ _ [.ptr 0 0, S (Ln.tx (.wk x))] _ _ _ := c
        generalize Ln.tx (.wk x) = TT at *
        rw [rdH_r]
        repeat' (first | ((first | refine AW.sreg rfl fun K hK => ?_ | refine AW.reg rfl ?_ | refine run_call _ _ _ ((c).robjs [448, 1216, 1280, 1344, 1408, 1472, 1536, 1600, 1664] ⟨(by first | rfl | (simp [go_sem]; done) | (simp [go_sem]; rfl)), (by first | rfl | (simp [go_sem]; done) | (simp [go_sem]; rfl)), (by first | rfl | (simp [go_sem]; done) | (simp [go_sem]; rfl)), (by first | rfl | (simp [go_sem]; done) | (simp [go_sem]; rfl)), (by first | rfl | (simp [go_sem]; done) | (simp [go_sem]; rfl)), (by first | rfl | (simp [go_sem]; done) | (simp [go_sem]; rfl)), (by first | rfl | (simp [go_sem]; done) | (simp [go_sem]; rfl)), (by first | rfl | (simp [go_sem]; done) | (simp [go_sem]; rfl)), (by first | rfl | (simp [go_sem]; done) | (simp [go_sem]; rfl)), trivial⟩ rfl (by decide) (by simp) (by simp) (by simp [go_sem]) (by simp [go_sem]) (by simp [go_sem]) (by simp [go_sem])) rfl rfl (dstOk_of rfl) rfl rfl rfl ?_); simp only [go_sem, ↓reduceIte, List.length_map, hget, Nat.reduceSub, Nat.add_zero, Nat.reduceAdd]) | (refine AW.seq_k fun K hK => ?_) | (refine AW.block ?_) | (refine AW.skip ?_; simp only [Then, InBlock]) | (refine AW.cT ?_) | (refine AW.cF ?_) | (refine hK _ ?_; clear hK K) | (with_reducible refine andI ?_))
        refine ⟨(i + 1, .inr ⟨pls, ps, ⟨key, nms, hms, mls, ads⟩, wks ++ [x], bos, 6⟩), ⟨hi, h3⟩, by simp only; omega, ?_⟩
        simp only [rdH_l, rdH_r, List.map_append, List.map_cons, List.map_nil, List.length_append, List.length_cons, List.length_nil, Nat.zero_add]
        exact (Weak.oC hcx [(0, 0), (448, 448), (1216, 1216), (1280, 1280), (1344, 6912), (1408, 1408), (1472, 1472), (1536, 1536), (1600, 1600), (1664, 1664)] (by refine ⟨?_, ?_, ?_⟩ <;> simp [go_sem, gL, kL, List.map_append, dv_push]))
      · simp only [good] at g
        simp only [stp] at h3
        obtain ⟨g1, g2, g3, g4⟩ := g
        have c := line_bond b key rk (pls.map plD) (ps.map peD) (wks.map wkD) (bos.map boD) (nms.map nmD) (hms.map hmD) (mls.map D.str) (ads.map D.str) (by simp only [List.length_map]; omega) (by simp only [List.length_map]; omega) g1 g4
        simp only [List.length_map] at c
        have c : Does _ _ [.ptr 0 0, S (Ln.tx (.bo b))] _ _ _ := c
        generalize Ln.tx (.bo b) = TT at *
        rw [rdH_r]
        repeat' (first | ((first | refine AW.sreg rfl fun K hK => ?_ | refine AW.reg rfl ?_ | refine run_call _ _ _ ((c).robjs [448, 1216, 1280, 1344, 1408, 1472, 1536, 1600, 1664] ⟨(by first | rfl | (simp [go_sem]; done) | (simp [go_sem]; rfl)), (by first | rfl | (simp [go_sem]; done) | (simp [go_sem]; rfl)), (by first | rfl | (simp [go_sem]; done) | (simp [go_sem]; rfl)), (by first | rfl | (simp [go_sem]; done) | (simp [go_sem]; rfl)), (by first | rfl | (simp [go_sem]; done) | (simp [go_sem]; rfl)), (by first | rfl | (simp [go_sem]; done) | (simp [go_sem]; rfl)), (by first | rfl | (simp [go_sem]; done) | (simp [go_sem]; rfl)), (by first | rfl | (simp [go_sem]; done) | (simp [go_sem]; rfl)), (by first | rfl | (simp [go_sem]; done) | (simp [go_sem]; rfl)), trivial⟩ rfl (by decide) (by simp) (by simp) (by simp [go_sem]) (by simp [go_sem]) (by simp [go_sem]) (by simp [go_sem])) rfl rfl (dstOk_of rfl) rfl rfl rfl ?_); simp only [go_sem, ↓reduceIte, List.length_map, hget, Nat.reduceSub, Nat.add_zero, Nat.reduceAdd]) | (refine AW.seq_k fun K hK => ?_) | (refine AW.block ?_) | (refine AW.skip ?_; simp only [Then, InBlock]) | (refine AW.cT ?_) | (refine AW.cF ?_) | (refine hK _ ?_; clear hK K) | (with_reducible refine andI ?_))
        refine ⟨(i + 1, .inr ⟨pls, ps, ⟨key, nms, hms, mls, ads⟩, wks, bos ++ [b], 7⟩), ⟨hi, h3⟩, by simp only; omega, ?_⟩
        simp only [rdH_l, rdH_r, List.map_append, List.map_cons, List.map_nil, List.length_append, List.length_cons, List.length_nil, Nat.zero_add]
        exact (Weak.oC hcx [(0, 0), (448, 448), (1216, 1216), (1280, 1280), (1344, 1344), (1408, 6912), (1472, 1472), (1536, 1536), (1600, 1600), (1664, 1664)] (by refine ⟨?_, ?_, ?_⟩ <;> simp [go_sem, gL, kL, List.map_append, dv_push]))
  obtain rfl : i = L.length := by omega
  rw [List.drop_length] at h2
  have hw : RSt.wo s = w := h2
  subst hw
  clear h1 h2 hr hi
  rcases s with pls | ⟨pls, ps, ⟨key, nms, hms, mls, ads⟩, wks, bos, rk⟩
  · rw [rdH_l]
    refine AW.weak (?wk : Weak cx _ (⟨60, [(24, I L.length), (2, .ptr 0 0), (5, .ptr 448 0), (6, .d (.sl ((L.map Ln.tx).map D.str))), (7, B true), (22, .d (.sl ((L.map Ln.tx).map D.str))), (23, I L.length)], [(0, some (O.box 31 [.nils, .nils, .nils, .nils])), (448, some (RdB (.d (.sl (pls.map plD))) (.d (.sl [])) (.d (.sl [])) (.d (.sl [])) 0))], 100⟩ : St)) ?_
    case wk =>
      refine Weak.objs hcx [(0, 0), (448, 448)] rfl rfl (Nat.le_of_ble_eq_true rfl) (by simp [go_sem, gL, kL]) ?_ pk0 (by simp [gL, lk])
      intro q hq
      simp only [List.mem_cons, List.not_mem_nil, or_false] at hq
      rcases hq with rfl | rfl
      · exact ⟨_, rfl, Nat.le_of_ble_eq_true rfl, rfl, rfl, _, rfl, by simp [go_sem, gL, kL]⟩
      · exact ⟨_, rfl, Nat.le_of_ble_eq_true rfl, rfl, rfl, _, rfl, congrArg (O.box _) (frzL5 (frz_slr (xs := pls.map plD) rfl rfl (by simp)) (frz_slr (xs := []) rfl rfl (by simp)) (frz_slr (xs := []) rfl rfl (by simp)) (frz_slr (xs := []) rfl rfl (by simp)))⟩
    repeat' (first | ((first | refine AW.sreg rfl fun K hK => ?_ | refine AW.exit ?_ | refine run_call _ _ _ ((hck).pure rfl rfl _ _) rfl rfl (dstOk_of rfl) rfl rfl rfl ?_); simp only [go_sem, ↓reduceIte]) | (refine AW.seq_k fun K hK => ?_) | (refine AW.skip ?_; simp only [Then, InBlock]) | (refine AW.cF ?_) | (refine hK _ ?_; clear hK K) | (clear hK K; refine hK _ ?_; clear hK K))
    all_goals exact AW.ret (Fin.data rfl rfl rfl)
  · rw [rdH_r]
    refine AW.weak (?wk : Weak cx _ (⟨60, [(24, I L.length), (2, .ptr 0 0), (5, .ptr 448 0), (6, .d (.sl ((L.map Ln.tx).map D.str))), (7, B true), (22, .d (.sl ((L.map Ln.tx).map D.str))), (23, I L.length)], [(0, some (O.box 31 [.nils, .nils, .nils, .nils])), (448, some (RdB (.slr 1216 0 pls.length) (.slr 1280 0 (ps.length + 1)) (.slr 1344 0 wks.length) (.slr 1408 0 bos.length) rk)), (1216, some (oPl (pls.map plD))), (1280, some (.vec 50 5 (dv (ps.map peD ++ [peD ⟨key, nms, hms, mls, ads⟩])))), (1344, some (oWk (wks.map wkD))), (1408, some (oBo (bos.map boD)))], 100⟩ : St)) ?_
    case wk =>
      refine Weak.objs hcx [(0, 0), (448, 448), (1216, 1216), (1280, 1280), (1344, 1344), (1408, 1408)] rfl rfl (Nat.le_of_ble_eq_true rfl) (by simp [go_sem, gL, kL]) ?_ pk0 (by simp [gL, lk])
      intro q hq
      simp only [List.mem_cons, List.not_mem_nil, or_false] at hq
      rcases hq with rfl | rfl | rfl | rfl | rfl | rfl
      · exact ⟨_, rfl, Nat.le_of_ble_eq_true rfl, rfl, rfl, _, rfl, by simp [go_sem, gL, kL]⟩
      · exact ⟨_, rfl, Nat.le_of_ble_eq_true rfl, rfl, rfl, _, rfl, by simp [go_sem, gL, kL]⟩
      · exact ⟨_, rfl, Nat.le_of_ble_eq_true rfl, by simp [go_sem], rfl, _, rfl, by simp [go_sem, gL, kL]⟩
      · exact ⟨_, rfl, Nat.le_of_ble_eq_true rfl, by simp [go_sem], rfl, _, rfl, (Eq.trans (congrArg (O.vec _ _) (frz_pe1 (frz_slr (xs := nms.map nmD) rfl rfl (by simp)) (frz_slr (xs := hms.map hmD) rfl rfl (by simp)) (frz_slr (xs := mls.map D.str) rfl rfl (by simp)) (frz_slr (xs := ads.map D.str) rfl rfl (by simp)))) (by simp [go_sem, gL, kL]))⟩
      · exact ⟨_, rfl, Nat.le_of_ble_eq_true rfl, by simp [go_sem], rfl, _, rfl, by simp [go_sem, gL, kL]⟩
      · exact ⟨_, rfl, Nat.le_of_ble_eq_true rfl, by simp [go_sem], rfl, _, rfl, by simp [go_sem, gL, kL]⟩
    refine AW.weak (?wk : Weak cx _ (⟨60, [(24, I L.length), (2, .ptr 0 0), (5, .ptr 448 0), (6, .d (.sl ((L.map Ln.tx).map D.str))), (7, B true), (22, .d (.sl ((L.map Ln.tx).map D.str))), (23, I L.length)], [(0, some (O.box 31 [.nils, .nils, .nils, .nils])), (448, some (RdB (.d (.sl (pls.map plD))) (.d (.sl (ps.map peD ++ [peD ⟨key, nms, hms, mls, ads⟩]))) (.d (.sl (wks.map wkD))) (.d (.sl (bos.map boD))) rk))], 100⟩ : St)) ?_
    case wk =>
      refine Weak.objs hcx [(0, 0), (448, 448)] rfl rfl (Nat.le_of_ble_eq_true rfl) (by simp [go_sem, gL, kL]) ?_ pk0 (by simp [gL, lk])
      intro q hq
      simp only [List.mem_cons, List.not_mem_nil, or_false] at hq
      rcases hq with rfl | rfl
      · exact ⟨_, rfl, Nat.le_of_ble_eq_true rfl, rfl, rfl, _, rfl, by simp [go_sem, gL, kL]⟩
      · exact ⟨_, rfl, Nat.le_of_ble_eq_true rfl, rfl, rfl, _, rfl, congrArg (O.box _) (frzL5 (frz_slr (xs := pls.map plD) rfl rfl (by simp)) (frz_slr (xs := ps.map peD ++ [peD ⟨key, nms, hms, mls, ads⟩]) rfl rfl (by simp)) (frz_slr (xs := wks.map wkD) rfl rfl (by simp)) (frz_slr (xs := bos.map boD) rfl rfl (by simp)))⟩
    have hwo : woD (RSt.wo (.inr ⟨pls, ps, ⟨key, nms, hms, mls, ads⟩, wks, bos, rk⟩)) = .agg [.sl (pls.map plD), .sl (ps.map peD ++ [peD ⟨key, nms, hms, mls, ads⟩]), .sl (wks.map wkD), .sl (bos.map boD)] := by simp [woD, RSt.wo]
    rw [hwo] at hck
    repeat' (first | ((first | refine AW.sreg rfl fun K hK => ?_ | refine AW.exit ?_ | refine run_call _ _ _ ((hck).pure rfl rfl _ _) rfl rfl (dstOk_of rfl) rfl rfl rfl ?_); simp only [go_sem, ↓reduceIte]) | (refine AW.seq_k fun K hK => ?_) | (refine AW.skip ?_; simp only [Then, InBlock]) | (refine AW.cF ?_) | (refine hK _ ?_; clear hK K) | (clear hK K; refine hK _ ?_; clear hK K))
    all_goals exact AW.ret (Fin.data rfl (by rw [hwo]; rfl) rfl)
end Go.AX

namespace Go.AX
open Go Go.Proofs Go.RowKit
theorem equal_Pl (xs : List Pl) (hl : xs.length ≤ 100000) : Does Tryz.prog 48 [.d (.sl (xs.map plD)), .d (.sl (xs.map plD))] [] (B true) [] := by
  refine Does.of_AW (n := 26) Tryz.func48 rfl rfl rfl fun cx hcx => ?_
  repeat' (first | (refine AW.sreg rfl fun K hK => ?_; simp only [go_sem, ↓reduceIte, List.length_map]) | (refine AW.seq_k fun K hK => ?_) | (refine AW.block ?_) | (refine AW.skip ?_; simp only [Then, InBlock]) | (refine AW.cF ?_) | (refine hK _ ?_; clear hK K))
  refine AW.loopF (ι := Nat) [0, 1, 12] (fun p => [(13, I p)]) (fun p => []) 20 (fun p => p ≤ xs.length) (fun p => xs.length - p) 0 (Nat.zero_le _) (Weak.aC hcx (by refine ⟨?_, ?_, ?_⟩ <;> simp [go_sem, gL, kL, renOf, V.obj, Nat.blt, Nat.ble, List.map_append, dv_push])) ?_; simp only [St.at_nil, St.at_cons, lk, Nat.reduceEqDiff, ↓reduceIte, Option.getD_some, Option.getD_none, List.cons_append, List.nil_append, List.append_nil]
  intro i h1
  by_cases hi : i < xs.length
  · obtain ⟨x, hx, hxm, hxd⟩ := get_some hi
    have hget : (xs.map plD)[i]? = some (plD x) := by simp [hx]
    repeat' (first | ((first | refine AW.sreg rfl fun K hK => ?_ | refine AW.sregD hmix rfl fun K hK => ?_ | refine AW.reg rfl ?_); simp only [go_sem, ↓reduceIte, List.length_map, hget]) | (refine AW.seq_k fun K hK => ?_) | (refine AW.block ?_) | (refine AW.skip ?_; simp only [Then, InBlock]) | (refine AW.cT ?_) | (refine AW.cF ?_) | (refine hK _ ?_; clear hK K) | (with_reducible refine And.intro (?_ : regOk _ _ = true) ?_; kernel_rfl) | (with_reducible refine andI ?_))
    all_goals first | exact ⟨_ + 1, hi, by omega, (Weak.aC hcx (by refine ⟨?_, ?_, ?_⟩ <;> simp [go_sem, gL, kL, renOf, V.obj, Nat.blt, Nat.ble, List.map_append, dv_push]))⟩ | trace_state
  · obtain rfl : i = xs.length := by omega
    repeat' (first | (refine AW.sreg rfl fun K hK => ?_; simp only [go_sem, ↓reduceIte, List.length_map]) | (refine AW.seq_k fun K hK => ?_) | (refine AW.exit ?_; simp only [go_sem, ↓reduceIte]) | (refine AW.cF ?_) | (refine hK _ ?_; clear hK K) | (clear hK K; refine hK _ ?_; clear hK K) | (refine AW.ret (Fin.data rfl (by first | (simp only [go_sem]; done) | (simp [go_sem, *]; done) | (simp [go_sem]; omega) | rfl) rfl)))
theorem equal_Bo (xs : List Bo) (hl : xs.length ≤ 100000) : Does Tryz.prog 50 [.d (.sl (xs.map boD)), .d (.sl (xs.map boD))] [] (B true) [] := by
  refine Does.of_AW (n := 26) Tryz.func50 rfl rfl rfl fun cx hcx => ?_
  repeat' (first | (refine AW.sreg rfl fun K hK => ?_; simp only [go_sem, ↓reduceIte, List.length_map]) | (refine AW.seq_k fun K hK => ?_) | (refine AW.block ?_) | (refine AW.skip ?_; simp only [Then, InBlock]) | (refine AW.cF ?_) | (refine hK _ ?_; clear hK K))
  refine AW.loopF (ι := Nat) [0, 1, 12] (fun p => [(13, I p)]) (fun p => []) 20 (fun p => p ≤ xs.length) (fun p => xs.length - p) 0 (Nat.zero_le _) (Weak.aC hcx (by refine ⟨?_, ?_, ?_⟩ <;> simp [go_sem, gL, kL, renOf, V.obj, Nat.blt, Nat.ble, List.map_append, dv_push])) ?_; simp only [St.at_nil, St.at_cons, lk, Nat.reduceEqDiff, ↓reduceIte, Option.getD_some, Option.getD_none, List.cons_append, List.nil_append, List.append_nil]
  intro i h1
  by_cases hi : i < xs.length
  · obtain ⟨x, hx, hxm, hxd⟩ := get_some hi
    have hget : (xs.map boD)[i]? = some (boD x) := by simp [hx]
    repeat' (first | ((first | refine AW.sreg rfl fun K hK => ?_ | refine AW.sregD hmix rfl fun K hK => ?_ | refine AW.reg rfl ?_); simp only [go_sem, ↓reduceIte, List.length_map, hget]) | (refine AW.seq_k fun K hK => ?_) | (refine AW.block ?_) | (refine AW.skip ?_; simp only [Then, InBlock]) | (refine AW.cT ?_) | (refine AW.cF ?_) | (refine hK _ ?_; clear hK K) | (with_reducible refine And.intro (?_ : regOk _ _ = true) ?_; kernel_rfl) | (with_reducible refine andI ?_))
    all_goals first | exact ⟨_ + 1, hi, by omega, (Weak.aC hcx (by refine ⟨?_, ?_, ?_⟩ <;> simp [go_sem, gL, kL, renOf, V.obj, Nat.blt, Nat.ble, List.map_append, dv_push]))⟩ | trace_state
  · obtain rfl : i = xs.length := by omega
    repeat' (first | (refine AW.sreg rfl fun K hK => ?_; simp only [go_sem, ↓reduceIte, List.length_map]) | (refine AW.seq_k fun K hK => ?_) | (refine AW.exit ?_; simp only [go_sem, ↓reduceIte]) | (refine AW.cF ?_) | (refine hK _ ?_; clear hK K) | (clear hK K; refine hK _ ?_; clear hK K) | (refine AW.ret (Fin.data rfl (by first | (simp only [go_sem]; done) | (simp [go_sem, *]; done) | (simp [go_sem]; omega) | rfl) rfl)))
theorem equal_Nm (xs : List Nm) (hl : xs.length ≤ 100000) : Does Tryz.prog 45 [.d (.sl (xs.map nmD)), .d (.sl (xs.map nmD))] [] (B true) [] := by
  refine Does.of_AW (n := 26) Tryz.func45 rfl rfl rfl fun cx hcx => ?_
  repeat' (first | (refine AW.sreg rfl fun K hK => ?_; simp only [go_sem, ↓reduceIte, List.length_map]) | (refine AW.seq_k fun K hK => ?_) | (refine AW.block ?_) | (refine AW.skip ?_; simp only [Then, InBlock]) | (refine AW.cF ?_) | (refine hK _ ?_; clear hK K))
  refine AW.loopF (ι := Nat) [0, 1, 12] (fun p => [(13, I p)]) (fun p => []) 20 (fun p => p ≤ xs.length) (fun p => xs.length - p) 0 (Nat.zero_le _) (Weak.aC hcx (by refine ⟨?_, ?_, ?_⟩ <;> simp [go_sem, gL, kL, renOf, V.obj, Nat.blt, Nat.ble, List.map_append, dv_push])) ?_; simp only [St.at_nil, St.at_cons, lk, Nat.reduceEqDiff, ↓reduceIte, Option.getD_some, Option.getD_none, List.cons_append, List.nil_append, List.append_nil]
  intro i h1
  by_cases hi : i < xs.length
  · obtain ⟨x, hx, hxm, hxd⟩ := get_some hi
    have hget : (xs.map nmD)[i]? = some (nmD x) := by simp [hx]
    repeat' (first | ((first | refine AW.sreg rfl fun K hK => ?_ | refine AW.sregD hmix rfl fun K hK => ?_ | refine AW.reg rfl ?_); simp only [go_sem, ↓reduceIte, List.length_map, hget]) | (refine AW.seq_k fun K hK => ?_) | (refine AW.block ?_) | (refine AW.skip ?_; simp only [Then, InBlock]) | (refine AW.cT ?_) | (refine AW.cF ?_) | (refine hK _ ?_; clear hK K) | (with_reducible refine And.intro (?_ : regOk _ _ = true) ?_; kernel_rfl) | (with_reducible refine andI ?_))
    all_goals first | exact ⟨_ + 1, hi, by omega, (Weak.aC hcx (by refine ⟨?_, ?_, ?_⟩ <;> simp [go_sem, gL, kL, renOf, V.obj, Nat.blt, Nat.ble, List.map_append, dv_push]))⟩ | trace_state
  · obtain rfl : i = xs.length := by omega
    repeat' (first | (refine AW.sreg rfl fun K hK => ?_; simp only [go_sem, ↓reduceIte, List.length_map]) | (refine AW.seq_k fun K hK => ?_) | (refine AW.exit ?_; simp only [go_sem, ↓reduceIte]) | (refine AW.cF ?_) | (refine hK _ ?_; clear hK K) | (clear hK K; refine hK _ ?_; clear hK K) | (refine AW.ret (Fin.data rfl (by first | (simp only [go_sem]; done) | (simp [go_sem, *]; done) | (simp [go_sem]; omega) | rfl) rfl)))
theorem equal_Hm (xs : List Hm) (hl : xs.length ≤ 100000) : Does Tryz.prog 46 [.d (.sl (xs.map hmD)), .d (.sl (xs.map hmD))] [] (B true) [] := by
  refine Does.of_AW (n := 26) Tryz.func46 rfl rfl rfl fun cx hcx => ?_
  repeat' (first | (refine AW.sreg rfl fun K hK => ?_; simp only [go_sem, ↓reduceIte, List.length_map]) | (refine AW.seq_k fun K hK => ?_) | (refine AW.block ?_) | (refine AW.skip ?_; simp only [Then, InBlock]) | (refine AW.cF ?_) | (refine hK _ ?_; clear hK K))
  refine AW.loopF (ι := Nat) [0, 1, 12] (fun p => [(13, I p)]) (fun p => []) 20 (fun p => p ≤ xs.length) (fun p => xs.length - p) 0 (Nat.zero_le _) (Weak.aC hcx (by refine ⟨?_, ?_, ?_⟩ <;> simp [go_sem, gL, kL, renOf, V.obj, Nat.blt, Nat.ble, List.map_append, dv_push])) ?_; simp only [St.at_nil, St.at_cons, lk, Nat.reduceEqDiff, ↓reduceIte, Option.getD_some, Option.getD_none, List.cons_append, List.nil_append, List.append_nil]
  intro i h1
  by_cases hi : i < xs.length
  · obtain ⟨x, hx, hxm, hxd⟩ := get_some hi
    have hget : (xs.map hmD)[i]? = some (hmD x) := by simp [hx]
    repeat' (first | ((first | refine AW.sreg rfl fun K hK => ?_ | refine AW.sregD hmix rfl fun K hK => ?_ | refine AW.reg rfl ?_); simp only [go_sem, ↓reduceIte, List.length_map, hget]) | (refine AW.seq_k fun K hK => ?_) | (refine AW.block ?_) | (refine AW.skip ?_; simp only [Then, InBlock]) | (refine AW.cT ?_) | (refine AW.cF ?_) | (refine hK _ ?_; clear hK K) | (with_reducible refine And.intro (?_ : regOk _ _ = true) ?_; kernel_rfl) | (with_reducible refine andI ?_))
    all_goals first | exact ⟨_ + 1, hi, by omega, (Weak.aC hcx (by refine ⟨?_, ?_, ?_⟩ <;> simp [go_sem, gL, kL, renOf, V.obj, Nat.blt, Nat.ble, List.map_append, dv_push]))⟩ | trace_state
  · obtain rfl : i = xs.length := by omega
    repeat' (first | (refine AW.sreg rfl fun K hK => ?_; simp only [go_sem, ↓reduceIte, List.length_map]) | (refine AW.seq_k fun K hK => ?_) | (refine AW.exit ?_; simp only [go_sem, ↓reduceIte]) | (refine AW.cF ?_) | (refine hK _ ?_; clear hK K) | (clear hK K; refine hK _ ?_; clear hK K) | (refine AW.ret (Fin.data rfl (by first | (simp only [go_sem]; done) | (simp [go_sem, *]; done) | (simp [go_sem]; omega) | rfl) rfl)))
theorem equal_St (xs : List Str) (hl : xs.length ≤ 100000) : Does Tryz.prog 47 [.d (.sl (xs.map D.str)), .d (.sl (xs.map D.str))] [] (B true) [] := by
  refine Does.of_AW (n := 26) Tryz.func47 rfl rfl rfl fun cx hcx => ?_
  repeat' (first | (refine AW.sreg rfl fun K hK => ?_; simp only [go_sem, ↓reduceIte, List.length_map]) | (refine AW.seq_k fun K hK => ?_) | (refine AW.block ?_) | (refine AW.skip ?_; simp only [Then, InBlock]) | (refine AW.cF ?_) | (refine hK _ ?_; clear hK K))
  refine AW.loopF (ι := Nat) [0, 1, 12] (fun p => [(13, I p)]) (fun p => []) 20 (fun p => p ≤ xs.length) (fun p => xs.length - p) 0 (Nat.zero_le _) (Weak.aC hcx (by refine ⟨?_, ?_, ?_⟩ <;> simp [go_sem, gL, kL, renOf, V.obj, Nat.blt, Nat.ble, List.map_append, dv_push])) ?_; simp only [St.at_nil, St.at_cons, lk, Nat.reduceEqDiff, ↓reduceIte, Option.getD_some, Option.getD_none, List.cons_append, List.nil_append, List.append_nil]
  intro i h1
  by_cases hi : i < xs.length
  · obtain ⟨x, hx, hxm, hxd⟩ := get_some hi
    have hget : (xs.map D.str)[i]? = some (D.str x) := by simp [hx]
    repeat' (first | ((first | refine AW.sreg rfl fun K hK => ?_ | refine AW.sregD hmix rfl fun K hK => ?_ | refine AW.reg rfl ?_); simp only [go_sem, ↓reduceIte, List.length_map, hget]) | (refine AW.seq_k fun K hK => ?_) | (refine AW.block ?_) | (refine AW.skip ?_; simp only [Then, InBlock]) | (refine AW.cT ?_) | (refine AW.cF ?_) | (refine hK _ ?_; clear hK K) | (with_reducible refine And.intro (?_ : regOk _ _ = true) ?_; kernel_rfl) | (with_reducible refine andI ?_))
    all_goals first | exact ⟨_ + 1, hi, by omega, (Weak.aC hcx (by refine ⟨?_, ?_, ?_⟩ <;> simp [go_sem, gL, kL, renOf, V.obj, Nat.blt, Nat.ble, List.map_append, dv_push]))⟩ | trace_state
  · obtain rfl : i = xs.length := by omega
    repeat' (first | (refine AW.sreg rfl fun K hK => ?_; simp only [go_sem, ↓reduceIte, List.length_map]) | (refine AW.seq_k fun K hK => ?_) | (refine AW.exit ?_; simp only [go_sem, ↓reduceIte]) | (refine AW.cF ?_) | (refine hK _ ?_; clear hK K) | (clear hK K; refine hK _ ?_; clear hK K) | (refine AW.ret (Fin.data rfl (by first | (simp only [go_sem]; done) | (simp [go_sem, *]; done) | (simp [go_sem]; omega) | rfl) rfl)))
theorem same_Pe (p : Pe) (h : SmP p) : Does Tryz.prog 44 [.d (peD p), .d (peD p)] [] (B true) [] := by
  obtain ⟨s1, s2, s3, s4⟩ := h
  have e1 := equal_Nm p.names (by omega)
  have e2 := equal_Hm p.homes (by omega)
  have e3 := equal_St p.mails (by omega)
  have e4 := equal_St p.advs (by omega)
  obtain ⟨key, ns, hs, ms, ads⟩ := p
  simp only at *
  refine Does.of_AW (n := 38) Tryz.func44 rfl rfl rfl fun cx hcx => ?_
  repeat' (first | ((first | refine AW.sreg rfl fun K hK => ?_ | refine run_call _ _ _ ((e1).pure rfl rfl _ _) rfl rfl (dstOk_of rfl) rfl rfl rfl ?_ | refine run_call _ _ _ ((e2).pure rfl rfl _ _) rfl rfl (dstOk_of rfl) rfl rfl rfl ?_ | refine run_call _ _ _ ((e3).pure rfl rfl _ _) rfl rfl (dstOk_of rfl) rfl rfl rfl ?_ | refine run_call _ _ _ ((e4).pure rfl rfl _ _) rfl rfl (dstOk_of rfl) rfl rfl rfl ?_); simp only [go_sem, ↓reduceIte]) | (refine hK _ ?_; clear hK K) | (refine AW.ret (Fin.data rfl (by first | (simp only [go_sem]; done) | (simp [go_sem, *]; done) | (simp [go_sem]; omega) | rfl) rfl)))
theorem same_Wk (x : Wk) (h : wkB x) : Does Tryz.prog 52 [.d (wkD x), .d (wkD x)] [] (B true) [] := by
  have e1 := workOrder_any ⟨x, h⟩ ⟨x, h⟩
  have e2 : cpW x x = 0 := (cp_work.eq x x).2 rfl
  rw [e2] at e1
  refine Does.of_AW (n := 9) Tryz.func52 rfl rfl rfl fun cx hcx => ?_
  repeat' (first | ((first | refine AW.sreg rfl fun K hK => ?_ | refine run_call _ _ _ ((e1).pure rfl rfl _ _) rfl rfl (dstOk_of rfl) rfl rfl rfl ?_); simp only [go_sem, ↓reduceIte]) | (refine hK _ ?_; clear hK K) | (refine AW.ret (Fin.data rfl (by first | (simp only [go_sem]; done) | (simp [go_sem, *]; done) | (simp [go_sem]; omega) | rfl) rfl)))
theorem equalF_Pe (xs : List Pe) (hl : xs.length ≤ 100000) (hc : ∀ x ∈ xs, SmP x) : Does Tryz.prog 49 [.d (.sl (xs.map peD)), .d (.sl (xs.map peD)), .fn 44 []] [] (B true) [] := by
  refine Does.of_AW (n := 32) Tryz.func49 rfl rfl rfl fun cx hcx => ?_
  repeat' (first | (refine AW.sreg rfl fun K hK => ?_; simp only [go_sem, ↓reduceIte, List.length_map]) | (refine AW.seq_k fun K hK => ?_) | (refine AW.block ?_) | (refine AW.skip ?_; simp only [Then, InBlock]) | (refine AW.cF ?_) | (refine hK _ ?_; clear hK K))
  refine AW.loopF (ι := Nat) [1, 2, 15, 16] (fun p => [(17, I p)]) (fun p => []) 1 (fun p => p ≤ xs.length) (fun p => xs.length - p) 0 (Nat.zero_le _) (Weak.aC hcx (by refine ⟨?_, ?_, ?_⟩ <;> simp [go_sem, gL, kL, renOf, V.obj, Nat.blt, Nat.ble, List.map_append, dv_push])) ?_; simp only [St.at_nil, St.at_cons, lk, Nat.reduceEqDiff, ↓reduceIte, Option.getD_some, Option.getD_none, List.cons_append, List.nil_append, List.append_nil]
  intro i h1
  by_cases hi : i < xs.length
  · obtain ⟨x, hx, hxm, hxd⟩ := get_some hi
    have hget : (xs.map peD)[i]? = some (peD x) := by simp [hx]
    have hs := same_Pe x (hc x hxm)
    repeat' (first | ((first | refine AW.sreg rfl fun K hK => ?_ | refine AW.reg rfl ?_ | refine run_call _ _ _ ((hs).pure rfl rfl _ _) rfl rfl (dstOk_of rfl) rfl rfl rfl ?_); simp only [go_sem, ↓reduceIte, List.length_map, hget]) | (refine AW.seq_k fun K hK => ?_) | (refine AW.block ?_) | (refine AW.skip ?_; simp only [Then, InBlock]) | (refine AW.cT ?_) | (refine AW.cF ?_) | (refine hK _ ?_; clear hK K) | (with_reducible refine andI ?_))
    all_goals first | exact ⟨_ + 1, hi, by omega, (Weak.aC hcx (by refine ⟨?_, ?_, ?_⟩ <;> simp [go_sem, gL, kL, renOf, V.obj, Nat.blt, Nat.ble, List.map_append, dv_push]))⟩ | trace_state
  · obtain rfl : i = xs.length := by omega
    repeat' (first | (refine AW.sreg rfl fun K hK => ?_; simp only [go_sem, ↓reduceIte, List.length_map]) | (refine AW.seq_k fun K hK => ?_) | (refine AW.exit ?_; simp only [go_sem, ↓reduceIte]) | (refine AW.cF ?_) | (refine hK _ ?_; clear hK K) | (clear hK K; refine hK _ ?_; clear hK K) | (refine AW.ret (Fin.data rfl (by first | (simp only [go_sem]; done) | (simp [go_sem, *]; done) | (simp [go_sem]; omega) | rfl) rfl)))
theorem equalF_Wk (xs : List Wk) (hl : xs.length ≤ 100000) (hc : ∀ x ∈ xs, wkB x) : Does Tryz.prog 51 [.d (.sl (xs.map wkD)), .d (.sl (xs.map wkD)), .fn 52 []] [] (B true) [] := by
  refine Does.of_AW (n := 32) Tryz.func51 rfl rfl rfl fun cx hcx => ?_
  repeat' (first | (refine AW.sreg rfl fun K hK => ?_; simp only [go_sem, ↓reduceIte, List.length_map]) | (refine AW.seq_k fun K hK => ?_) | (refine AW.block ?_) | (refine AW.skip ?_; simp only [Then, InBlock]) | (refine AW.cF ?_) | (refine hK _ ?_; clear hK K))
  refine AW.loopF (ι := Nat) [1, 2, 15, 16] (fun p => [(17, I p)]) (fun p => []) 1 (fun p => p ≤ xs.length) (fun p => xs.length - p) 0 (Nat.zero_le _) (Weak.aC hcx (by refine ⟨?_, ?_, ?_⟩ <;> simp [go_sem, gL, kL, renOf, V.obj, Nat.blt, Nat.ble, List.map_append, dv_push])) ?_; simp only [St.at_nil, St.at_cons, lk, Nat.reduceEqDiff, ↓reduceIte, Option.getD_some, Option.getD_none, List.cons_append, List.nil_append, List.append_nil]
  intro i h1
  by_cases hi : i < xs.length
  · obtain ⟨x, hx, hxm, hxd⟩ := get_some hi
    have hget : (xs.map wkD)[i]? = some (wkD x) := by simp [hx]
    have hs := same_Wk x (hc x hxm)
    repeat' (first | ((first | refine AW.sreg rfl fun K hK => ?_ | refine AW.reg rfl ?_ | refine run_call _ _ _ ((hs).pure rfl rfl _ _) rfl rfl (dstOk_of rfl) rfl rfl rfl ?_); simp only [go_sem, ↓reduceIte, List.length_map, hget]) | (refine AW.seq_k fun K hK => ?_) | (refine AW.block ?_) | (refine AW.skip ?_; simp only [Then, InBlock]) | (refine AW.cT ?_) | (refine AW.cF ?_) | (refine hK _ ?_; clear hK K) | (with_reducible refine andI ?_))
    all_goals first | exact ⟨_ + 1, hi, by omega, (Weak.aC hcx (by refine ⟨?_, ?_, ?_⟩ <;> simp [go_sem, gL, kL, renOf, V.obj, Nat.blt, Nat.ble, List.map_append, dv_push]))⟩ | trace_state
  · obtain rfl : i = xs.length := by omega
    repeat' (first | (refine AW.sreg rfl fun K hK => ?_; simp only [go_sem, ↓reduceIte, List.length_map]) | (refine AW.seq_k fun K hK => ?_) | (refine AW.exit ?_; simp only [go_sem, ↓reduceIte]) | (refine AW.cF ?_) | (refine hK _ ?_; clear hK K) | (clear hK K; refine hK _ ?_; clear hK K) | (refine AW.ret (Fin.data rfl (by first | (simp only [go_sem]; done) | (simp [go_sem, *]; done) | (simp [go_sem]; omega) | rfl) rfl)))
theorem sameWorld_ok (w : Wo) (h1 : w.pls.length ≤ 1000) (h2 : w.pes.length ≤ 1000) (h3 : ∀ p ∈ w.pes, SmP p) (h4 : w.wks.length ≤ 1000) (h5 : ∀ x ∈ w.wks, wkB x) (h6 : w.bos.length ≤ 1000) :
    Does Tryz.prog 11 [.d (woD w), .d (woD w)] [] (B true) [] := by
  have e1 := equal_Pl w.pls (by omega)
  have e2 := equalF_Pe w.pes (by omega) h3
  have e3 := equal_Bo w.bos (by omega)
  have e4 := equalF_Wk w.wks (by omega) h5
  obtain ⟨pls, pes, wks, bos⟩ := w
  simp only at *
  refine Does.of_AW (n := 33) Tryz.func11 rfl rfl rfl fun cx hcx => ?_
  repeat' (first | ((first | refine AW.sreg rfl fun K hK => ?_ | refine run_call _ _ _ ((e1).pure rfl rfl _ _) rfl rfl (dstOk_of rfl) rfl rfl rfl ?_ | refine run_call _ _ _ ((e2).pure rfl rfl _ _) rfl rfl (dstOk_of rfl) rfl rfl rfl ?_ | refine run_call _ _ _ ((e3).pure rfl rfl _ _) rfl rfl (dstOk_of rfl) rfl rfl rfl ?_ | refine run_call _ _ _ ((e4).pure rfl rfl _ _) rfl rfl (dstOk_of rfl) rfl rfl rfl ?_); simp only [go_sem, ↓reduceIte]) | (refine hK _ ?_; clear hK K) | (refine AW.ret (Fin.data rfl (by first | (simp only [go_sem]; done) | (simp [go_sem, *]; done) | (simp [go_sem]; omega) | rfl) rfl)))
end Go.AX

namespace Go.AX
open Go Go.Proofs Go.RowKit
theorem keyR_mem : ∀ (s : Str) (i : Nat), keyR i s = true → ∀ c ∈ s, c ≠ 32 ∧ c ≠ 10
  | [], _, _, c, h => by simp at h
  | x :: r, i, h, c, hc => by
    simp only [keyR] at h
    split at h
    · rename_i hx
      rcases List.mem_cons.1 hc with rfl | hc
      · constructor
        · rintro rfl; simp [okC] at hx
        · rintro rfl; simp [okC] at hx
      · exact keyR_mem r (i + 1) h c hc
    · cases h
/-- A plain word. -/
def Pw (s : Str) : Prop := s ≠ [] ∧ (32 : UInt8) ∉ s ∧ (10 : UInt8) ∉ s ∧ s.length ≤ 40
theorem keyB_pw {s : Str} (h : keyB s = true) : Pw s := by
  simp only [keyB, Bool.and_eq_true, Bool.not_eq_true', beq_eq_false_iff_ne, decide_eq_true_eq] at h
  exact ⟨h.2.1, fun hc => (keyR_mem s 0 h.1 _ hc).1 rfl, fun hc => (keyR_mem s 0 h.1 _ hc).2 rfl, by omega⟩
theorem dy_pw {n : Int} (h : n ∈ DY) : Pw (Lib.itoa n) := by
  obtain ⟨_, d2, d3, d4, d5⟩ := dy_plain h
  exact ⟨d2, d3, d4, by omega⟩
theorem MG_pw0 : ∀ s ∈ MG, s ≠ [] ∧ (32 : UInt8) ∉ s ∧ (10 : UInt8) ∉ s ∧ s.length ≤ 40 := by decide
theorem MG_pw : ∀ s ∈ MG, Pw s := MG_pw0
theorem NG_pw : ∀ s ∈ NG, s ≠ [] ∧ s.length ≤ 100 ∧ (10 : UInt8) ∉ s := by decide
theorem lens_le : ∀ ws : List Str, (∀ x ∈ ws, x.length ≤ 100) → Lib.lens ws ≤ 100 * ws.length
  | [], _ => by simp [Lib.lens]
  | x :: r, h => by
    have h1 := lens_le r fun y hy => h y (by simp [hy])
    have h2 := h x (by simp)
    simp only [Lib.lens, List.map_cons, List.sum_cons, List.length_cons] at h1 ⊢
    omega
theorem join_le (ws : List Str) (hl : ws.length ≤ 9) (h : ∀ x ∈ ws, x.length ≤ 100) : (Lib.join ws [32]).length ≤ 1000 := by
  have h1 := lens_le ws h
  cases ws with
  | nil => simp [Lib.join_nil]
  | cons x r =>
    rw [Lib.join_length]
    simp only [List.length_cons, List.length_nil] at *
    omega
theorem join_mem {c : UInt8} : ∀ {ws : List Str}, c ∈ Lib.join ws [32] → c = 32 ∨ ∃ x ∈ ws, c ∈ x
  | [], h => by simp [Lib.join_nil] at h
  | [a], h => by rw [Lib.join_one] at h; exact .inr ⟨a, by simp, h⟩
  | a :: b :: r, h => by
    rw [joinS_cons, List.mem_append, List.mem_cons] at h
    rcases h with h | h | h
    · exact .inr ⟨a, by simp, h⟩
    · exact .inl h
    · rcases join_mem h with h | ⟨x, h1, h2⟩
      · exact .inl h
      · exact .inr ⟨x, by simp [h1], h2⟩
theorem W1_of (ws : List Str) (h0 : ws ≠ []) (hl : ws.length ≤ 9) (h : ∀ x ∈ ws, Pw x) : W1 ws := by
  have := join_le ws hl fun x hx => by have := (h x hx).2.2.2; omega
  exact ⟨h0, by omega, fun x hx => ⟨(h x hx).1, (h x hx).2.1⟩, by omega⟩
def Ln.ws : Ln → List Str
  | .pl p => wPl p
  | .pe k => [[112, 101, 114, 115, 111, 110], k]
  | .nm n => wNm n
  | .hm h => wHm h
  | .ml m => wMl m
  | .ad a => wAd a
  | .wk x => wWk x
  | .bo b => wBo b
theorem Ln.tx_ws (l : Ln) : l.tx = Lib.join l.ws [32] := by
  cases l with
  | nm n => simp only [Ln.tx, Ln.ws, wNm, joinS_cons, Lib.join_one]
  | _ => simp only [Ln.tx, Ln.ws, joinS_cons]
def LnOk : Ln → Prop
  | .pl p => Pw p.1 ∧ Pw (dashS p.2) ∧ p.2 ≠ [45]
  | .pe k => Pw k
  | .nm n => n.2 ∈ DY ∧ n.1 ≠ [] ∧ n.1.length ≤ 100 ∧ (10 : UInt8) ∉ n.1
  | .hm h => Pw h.1 ∧ h.2.1 ∈ DY ∧ h.2.2 ∈ DY
  | .ml m => Pw m
  | .ad a => Pw a
  | .wk x => x.1 ∈ DY ∧ x.2.length ≤ 5 ∧ ∀ a ∈ x.2, Pw a
  | .bo b => Pw b.1 ∧ Pw b.2
theorem LnOk.words {l : Ln} (h : LnOk l) : 0 < l.ws.length ∧ l.ws.length ≤ 9 ∧ ∀ x ∈ l.ws, x.length ≤ 100 ∧ (10 : UInt8) ∉ x := by
  have P : ∀ {x : Str}, Pw x → x.length ≤ 100 ∧ (10 : UInt8) ∉ x := fun h => ⟨by have := h.2.2.2; omega, h.2.2.1⟩
  cases l with
  | wk x =>
    obtain ⟨h1, h2, h3⟩ := h
    refine ⟨by simp [Ln.ws], by simp only [Ln.ws, List.length_cons]; omega, fun y hy => ?_⟩
    simp only [Ln.ws, List.mem_cons] at hy
    rcases hy with rfl | rfl | hy
    · decide
    · exact P (dy_pw h1)
    · exact P (h3 y hy)
  | pl p =>
    obtain ⟨h1, h2, h3⟩ := h
    refine ⟨by simp [Ln.ws], by simp [Ln.ws], fun y hy => ?_⟩
    simp only [Ln.ws, wPl, List.mem_cons, List.not_mem_nil, or_false] at hy
    rcases hy with rfl | rfl | rfl
    · decide
    · exact P h1
    · exact P h2
  | nm n =>
    obtain ⟨h1, h2, h3, h4⟩ := h
    refine ⟨by simp [Ln.ws], by simp [Ln.ws], fun y hy => ?_⟩
    simp only [Ln.ws, wNm, List.mem_cons, List.not_mem_nil, or_false] at hy
    rcases hy with rfl | rfl | rfl
    · decide
    · exact P (dy_pw h1)
    · exact ⟨h3, h4⟩
  | hm n =>
    obtain ⟨h1, h2, h3⟩ := h
    refine ⟨by simp [Ln.ws], by simp [Ln.ws], fun y hy => ?_⟩
    simp only [Ln.ws, wHm, List.mem_cons, List.not_mem_nil, or_false] at hy
    rcases hy with rfl | rfl | rfl | rfl
    · decide
    · exact P h1
    · exact P (dy_pw h2)
    · exact P (dy_pw h3)
  | bo n =>
    obtain ⟨h1, h2⟩ := h
    refine ⟨by simp [Ln.ws], by simp [Ln.ws], fun y hy => ?_⟩
    simp only [Ln.ws, wBo, List.mem_cons, List.not_mem_nil, or_false] at hy
    rcases hy with rfl | rfl | rfl
    · decide
    · exact P h1
    · exact P h2
  | _ =>
    refine ⟨by simp [Ln.ws], by simp [Ln.ws], fun y hy => ?_⟩
    simp only [Ln.ws, wMl, wAd, List.mem_cons, List.not_mem_nil, or_false] at hy
    rcases hy with rfl | rfl
    · decide
    · exact P h
theorem LnOk.lw {l : Ln} (h : LnOk l) : LW l.ws := by
  obtain ⟨h1, h2, h3⟩ := h.words
  exact ⟨h1, by omega, join_le _ h2 fun x hx => (h3 x hx).1⟩
theorem LnOk.nl {l : Ln} (h : LnOk l) : (10 : UInt8) ∉ l.tx := by
  obtain ⟨h1, h2, h3⟩ := h.words
  rw [Ln.tx_ws]
  intro hc
  rcases join_mem hc with hc | ⟨x, hx, hc⟩
  · exact absurd hc (by decide)
  · exact (h3 x hx).2 hc
def linesP (p : Pe) : List Ln := .pe p.key :: (p.names.map .nm ++ (p.homes.map .hm ++ (p.mails.map .ml ++ p.advs.map .ad)))
def linesW (w : Wo) : List Ln := w.pls.map .pl ++ (w.pes.flatMap linesP ++ (w.wks.map .wk ++ w.bos.map .bo))
theorem tx_map {α : Type} (C : α → Ln) (w : α → List Str) (hw : ∀ x, (C x).ws = w x) (xs : List α) : (xs.map C).flatMap (fun l => l.tx ++ [10]) = txB w xs := by
  unfold txB
  rw [List.flatMap_map]
  congr 1
  funext x
  simp only [Ln.tx_ws, hw, lnS]
theorem tx_P (p : Pe) : (linesP p).flatMap (fun l => l.tx ++ [10]) = txP p := by
  unfold linesP txP
  rw [List.flatMap_cons, List.flatMap_append, List.flatMap_append, List.flatMap_append, tx_map .nm wNm (fun _ => rfl), tx_map .hm wHm (fun _ => rfl), tx_map .ml wMl (fun _ => rfl), tx_map .ad wAd (fun _ => rfl), Ln.tx_ws]
  rfl
theorem tx_W (w : Wo) : (linesW w).flatMap (fun l => l.tx ++ [10]) = txW w := by
  unfold linesW txW txQ
  rw [List.flatMap_append, List.flatMap_append, List.flatMap_append, tx_map .pl wPl (fun _ => rfl), tx_map .wk wWk (fun _ => rfl), tx_map .bo wBo (fun _ => rfl), List.flatMap_assoc]
  congr 2
  congr 1
  funext p
  exact tx_P p
theorem run_pl {Q : RSt → Prop} {zs : List Ln} : ∀ (xs pls : List Pl), pls.length + xs.length ≤ 1000 → (∀ x ∈ xs, LnOk (.pl x)) → Runs Q (.inl (pls ++ xs)) zs → Runs Q (.inl pls) (xs.map .pl ++ zs)
  | [], pls, _, _, h => by simpa using h
  | x :: xs, pls, hl, hk, h => by
    obtain ⟨k1, k2, k3⟩ := hk x (by simp)
    simp only [List.length_cons] at hl
    refine ⟨⟨by omega, k3, W1_of _ (by simp) (by simp) (by simp [k1, k2])⟩, ?_⟩
    refine run_pl xs (pls ++ [x]) (by simp only [List.length_append, List.length_cons, List.length_nil]; omega) (fun y hy => hk y (by simp [hy])) ?_
    rw [List.append_assoc]
    exact h
theorem run_nm {Q : RSt → Prop} {zs : List Ln} {pls : List Pl} {ps : List Pe} {key : Str}  {hms : List Hm} {mls ads : List Str} {wks : List Wk} {bos : List Bo} (hp : ps.length ≤ 1000) : ∀ (xs nms : List Nm) (rk : Int), 1 ≤ rk ∧ rk ≤ 2 → nms.length + xs.length ≤ 1000 → (∀ x ∈ xs, LnOk (.nm x)) → (∀ rk' : Int, 1 ≤ rk' ∧ rk' ≤ 2 → Runs Q (.inr ⟨pls, ps, ⟨key, nms ++ xs, hms, mls, ads⟩, wks, bos, rk'⟩) zs) → Runs Q (.inr ⟨pls, ps, ⟨key, nms, hms, mls, ads⟩, wks, bos, rk⟩) (xs.map .nm ++ zs)
  | [], nms, rk, hr, _, _, h => by simpa using h rk hr
  | x :: xs, nms, rk, hr, hl, hk, h => by
    obtain ⟨k1, k2, k3, k4⟩ := hk x (by simp)
    simp only [List.length_cons] at hl
    refine ⟨⟨hr, hp, (by omega : nms.length ≤ 1000), k1, k2, by show x.1.length ≤ 10000; omega⟩, ?_⟩
    refine run_nm hp xs (nms ++ [x]) 2 (by omega) (by simp only [List.length_append, List.length_cons, List.length_nil]; omega) (fun y hy => hk y (by simp [hy])) fun rk' hr' => ?_
    rw [List.append_assoc]
    exact h rk' hr'
theorem run_hm {Q : RSt → Prop} {zs : List Ln} {pls : List Pl} {ps : List Pe} {key : Str} {nms : List Nm}  {mls ads : List Str} {wks : List Wk} {bos : List Bo} (hp : ps.length ≤ 1000) : ∀ (xs hms : List Hm) (rk : Int), 1 ≤ rk ∧ rk ≤ 3 → hms.length + xs.length ≤ 1000 → (∀ x ∈ xs, LnOk (.hm x)) → (∀ rk' : Int, 1 ≤ rk' ∧ rk' ≤ 3 → Runs Q (.inr ⟨pls, ps, ⟨key, nms, hms ++ xs, mls, ads⟩, wks, bos, rk'⟩) zs) → Runs Q (.inr ⟨pls, ps, ⟨key, nms, hms, mls, ads⟩, wks, bos, rk⟩) (xs.map .hm ++ zs)
  | [], hms, rk, hr, _, _, h => by simpa using h rk hr
  | x :: xs, hms, rk, hr, hl, hk, h => by
    obtain ⟨k1, k2, k3⟩ := hk x (by simp)
    simp only [List.length_cons] at hl
    refine ⟨⟨hr, hp, (by omega : hms.length ≤ 1000), k2, k3, W1_of _ (by simp) (by simp) (by simp [k1, dy_pw k2, dy_pw k3])⟩, ?_⟩
    refine run_hm hp xs (hms ++ [x]) 3 (by omega) (by simp only [List.length_append, List.length_cons, List.length_nil]; omega) (fun y hy => hk y (by simp [hy])) fun rk' hr' => ?_
    rw [List.append_assoc]
    exact h rk' hr'
theorem run_ml {Q : RSt → Prop} {zs : List Ln} {pls : List Pl} {ps : List Pe} {key : Str} {nms : List Nm} {hms : List Hm} {ads : List Str} {wks : List Wk} {bos : List Bo} (hp : ps.length ≤ 1000) : ∀ (xs mls : List Str) (rk : Int), 1 ≤ rk ∧ rk ≤ 4 → mls.length + xs.length ≤ 1000 → (∀ x ∈ xs, LnOk (.ml x)) → (∀ rk' : Int, 1 ≤ rk' ∧ rk' ≤ 4 → Runs Q (.inr ⟨pls, ps, ⟨key, nms, hms, mls ++ xs, ads⟩, wks, bos, rk'⟩) zs) → Runs Q (.inr ⟨pls, ps, ⟨key, nms, hms, mls, ads⟩, wks, bos, rk⟩) (xs.map .ml ++ zs)
  | [], mls, rk, hr, _, _, h => by simpa using h rk hr
  | x :: xs, mls, rk, hr, hl, hk, h => by
    have k1 : Pw x := hk x (by simp)
    simp only [List.length_cons] at hl
    refine ⟨⟨hr, hp, (by omega : mls.length ≤ 1000), W1_of _ (by simp) (by simp) (by simp [k1])⟩, ?_⟩
    refine run_ml hp xs (mls ++ [x]) 4 (by omega) (by simp only [List.length_append, List.length_cons, List.length_nil]; omega) (fun y hy => hk y (by simp [hy])) fun rk' hr' => ?_
    rw [List.append_assoc]
    exact h rk' hr'
theorem run_ad {Q : RSt → Prop} {zs : List Ln} {pls : List Pl} {ps : List Pe} {key : Str} {nms : List Nm} {hms : List Hm} {mls : List Str} {wks : List Wk} {bos : List Bo} (hp : ps.length ≤ 1000) : ∀ (xs ads : List Str) (rk : Int), 1 ≤ rk ∧ rk ≤ 5 → ads.length + xs.length ≤ 1000 → (∀ x ∈ xs, LnOk (.ad x)) → (∀ rk' : Int, 1 ≤ rk' ∧ rk' ≤ 5 → Runs Q (.inr ⟨pls, ps, ⟨key, nms, hms, mls, ads ++ xs⟩, wks, bos, rk'⟩) zs) → Runs Q (.inr ⟨pls, ps, ⟨key, nms, hms, mls, ads⟩, wks, bos, rk⟩) (xs.map .ad ++ zs)
  | [], ads, rk, hr, _, _, h => by simpa using h rk hr
  | x :: xs, ads, rk, hr, hl, hk, h => by
    have k1 : Pw x := hk x (by simp)
    simp only [List.length_cons] at hl
    refine ⟨⟨hr, hp, (by omega : ads.length ≤ 1000), W1_of _ (by simp) (by simp) (by simp [k1])⟩, ?_⟩
    refine run_ad hp xs (ads ++ [x]) 5 (by omega) (by simp only [List.length_append, List.length_cons, List.length_nil]; omega) (fun y hy => hk y (by simp [hy])) fun rk' hr' => ?_
    rw [List.append_assoc]
    exact h rk' hr'
theorem run_wk {Q : RSt → Prop} {zs : List Ln} {pls : List Pl} {ps : List Pe} {key : Str} {nms : List Nm} {hms : List Hm} {mls ads : List Str}  {bos : List Bo} (hp : ps.length ≤ 1000) : ∀ (xs wks : List Wk) (rk : Int), rk ≤ 6 → wks.length + xs.length ≤ 1000 → (∀ x ∈ xs, LnOk (.wk x)) → (∀ rk' : Int, rk' ≤ 6 → Runs Q (.inr ⟨pls, ps, ⟨key, nms, hms, mls, ads⟩, wks ++ xs, bos, rk'⟩) zs) → Runs Q (.inr ⟨pls, ps, ⟨key, nms, hms, mls, ads⟩, wks, bos, rk⟩) (xs.map .wk ++ zs)
  | [], wks, rk, hr, _, _, h => by simpa using h rk hr
  | x :: xs, wks, rk, hr, hl, hk, h => by
    obtain ⟨k1, k2, k3⟩ := hk x (by simp)
    simp only [List.length_cons] at hl
    refine ⟨⟨hr, hp, (by omega : wks.length ≤ 1000), k1, (by omega : x.2.length ≤ 1000), W1_of _ (by simp) (by simp only [List.length_cons]; omega) (fun y hy => by rcases List.mem_cons.1 hy with rfl | hy; exact dy_pw k1; exact k3 y hy)⟩, ?_⟩
    refine run_wk hp xs (wks ++ [x]) 6 (by omega) (by simp only [List.length_append, List.length_cons, List.length_nil]; omega) (fun y hy => hk y (by simp [hy])) fun rk' hr' => ?_
    rw [List.append_assoc]
    exact h rk' hr'
theorem run_bo {Q : RSt → Prop} {zs : List Ln} {pls : List Pl} {ps : List Pe} {key : Str} {nms : List Nm} {hms : List Hm} {mls ads : List Str} {wks : List Wk}  (hp : ps.length ≤ 1000) : ∀ (xs bos : List Bo) (rk : Int), rk ≤ 7 → bos.length + xs.length ≤ 1000 → (∀ x ∈ xs, LnOk (.bo x)) → (∀ rk' : Int, rk' ≤ 7 → Runs Q (.inr ⟨pls, ps, ⟨key, nms, hms, mls, ads⟩, wks, bos ++ xs, rk'⟩) zs) → Runs Q (.inr ⟨pls, ps, ⟨key, nms, hms, mls, ads⟩, wks, bos, rk⟩) (xs.map .bo ++ zs)
  | [], bos, rk, hr, _, _, h => by simpa using h rk hr
  | x :: xs, bos, rk, hr, hl, hk, h => by
    obtain ⟨k1, k2⟩ := hk x (by simp)
    simp only [List.length_cons] at hl
    refine ⟨⟨hr, hp, (by omega : bos.length ≤ 1000), W1_of _ (by simp) (by simp) (by simp [k1, k2])⟩, ?_⟩
    refine run_bo hp xs (bos ++ [x]) 7 (by omega) (by simp only [List.length_append, List.length_cons, List.length_nil]; omega) (fun y hy => hk y (by simp [hy])) fun rk' hr' => ?_
    rw [List.append_assoc]
    exact h rk' hr'
theorem run_rest {Q : RSt → Prop} {zs : List Ln} {pls : List Pl} {ps : List Pe} (hp : ps.length ≤ 1000) (p : Pe) (hs : SmP p) (hk : ∀ l ∈ linesP p, LnOk l) (h : ∀ rk' : Int, 1 ≤ rk' ∧ rk' ≤ 5 → Runs Q (.inr ⟨pls, ps, p, [], [], rk'⟩) zs) :
    Runs Q (.inr ⟨pls, ps, ⟨p.key, [], [], [], []⟩, [], [], 1⟩) (p.names.map .nm ++ (p.homes.map .hm ++ (p.mails.map .ml ++ p.advs.map .ad)) ++ zs) := by
  obtain ⟨s1, s2, s3, s4⟩ := hs
  obtain ⟨key, ns, hs, ms, ads⟩ := p
  simp only at *
  have hk1 : ∀ x ∈ ns, LnOk (.nm x) := fun x hx => hk _ (by simp [linesP, hx])
  have hk2 : ∀ x ∈ hs, LnOk (.hm x) := fun x hx => hk _ (by simp [linesP, hx])
  have hk3 : ∀ x ∈ ms, LnOk (.ml x) := fun x hx => hk _ (by simp [linesP, hx])
  have hk4 : ∀ x ∈ ads, LnOk (.ad x) := fun x hx => hk _ (by simp [linesP, hx])
  simp only [List.append_assoc]
  refine run_nm hp ns [] 1 (by omega) (by simp only [List.length_nil]; omega) hk1 fun r1 g1 => ?_
  refine run_hm hp hs [] r1 (by omega) (by simp only [List.length_nil]; omega) hk2 fun r2 g2 => ?_
  refine run_ml hp ms [] r2 (by omega) (by simp only [List.length_nil]; omega) hk3 fun r3 g3 => ?_
  refine run_ad hp ads [] r3 (by omega) (by simp only [List.length_nil]; omega) hk4 fun r4 g4 => ?_
  simp only [List.nil_append]
  exact h r4 g4
theorem run_people {Q : RSt → Prop} {zs : List Ln} {pls : List Pl} : ∀ (qs ps : List Pe) (p : Pe) (rk : Int), 1 ≤ rk ∧ rk ≤ 5 → ps.length + qs.length ≤ 900 → (∀ q ∈ qs, SmP q ∧ ∀ l ∈ linesP q, LnOk l) → (∀ (r : List Pe) (q : Pe) (rk' : Int), r ++ [q] = ps ++ p :: qs → 1 ≤ rk' ∧ rk' ≤ 5 → Runs Q (.inr ⟨pls, r, q, [], [], rk'⟩) zs) →
    Runs Q (.inr ⟨pls, ps, p, [], [], rk⟩) (qs.flatMap linesP ++ zs)
  | [], ps, p, rk, hr, _, _, h => h ps p rk rfl hr
  | q :: qs, ps, p, rk, hr, hl, hk, h => by
    obtain ⟨k1, k2⟩ := hk q (by simp)
    simp only [List.length_cons] at hl
    have k0 : Pw q.key := k2 (.pe q.key) (by simp [linesP])
    rw [List.flatMap_cons, List.append_assoc]
    refine ⟨⟨(by omega : rk < 6), (by omega : ps.length ≤ 1000), W1_of _ (by simp) (by simp) (by simp [k0])⟩, ?_⟩
    refine run_rest (ps := ps ++ [p]) (by simp only [List.length_append, List.length_cons, List.length_nil]; omega) q k1 k2 fun r1 g1 => ?_
    refine run_people qs (ps ++ [p]) q r1 g1 (by simp only [List.length_append, List.length_cons, List.length_nil]; omega) (fun y hy => hk y (by simp [hy])) fun r q2 rk2 he hr2 => ?_
    exact h r q2 rk2 (by rw [he]; simp) hr2
/-- The lines of a world are read back. -/
theorem runs_W (w : Wo) (hk : ∀ l ∈ linesW w, LnOk l) (hs : ∀ p ∈ w.pes, SmP p) (h1 : w.pls.length ≤ 100) (h2 : w.pes.length ≤ 100) (h3 : w.wks.length ≤ 100) (h4 : w.bos.length ≤ 100) (h0 : w.pes = [] → w.wks = [] ∧ w.bos = []) :
    Runs (fun st => RSt.wo st = w) (.inl []) (linesW w) := by
  obtain ⟨pls, pes, wks, bos⟩ := w
  simp only at *
  unfold linesW
  simp only
  refine run_pl pls [] (by simp only [List.length_nil]; omega) (fun x hx => hk _ (by simp [linesW, hx])) ?_
  rw [List.nil_append]
  cases pes with
  | nil =>
    obtain ⟨rfl, rfl⟩ := h0 rfl
    rfl
  | cons p qs =>
    have hkq : ∀ q ∈ p :: qs, SmP q ∧ ∀ l ∈ linesP q, LnOk l := fun q hq => ⟨hs q hq, fun l hl => hk l (by
      simp only [linesW, List.mem_append, List.mem_flatMap]
      exact .inr (.inl ⟨q, hq, hl⟩))⟩
    obtain ⟨k1, k2⟩ := hkq p (by simp)
    have k0 : Pw p.key := k2 (.pe p.key) (by simp [linesP])
    rw [List.flatMap_cons, List.append_assoc]
    refine ⟨W1_of _ (by simp) (by simp) (by simp [k0]), ?_⟩
    refine run_rest (ps := []) (by simp) p k1 k2 fun r1 g1 => ?_
    simp only [List.length_cons] at h2
    refine run_people qs [] p r1 g1 (by simp only [List.length_nil]; omega) (fun y hy => hkq y (by simp [hy])) fun r q rk2 he hr2 => ?_
    have hrl : r.length ≤ 1000 := by have := congrArg List.length he; simp only [List.length_append, List.length_cons, List.length_nil] at this; omega
    obtain ⟨key, ns, hms, ms, ads⟩ := q
    refine run_wk hrl wks [] rk2 (by omega) (by simp only [List.length_nil]; omega) (fun x hx => hk _ (by simp [linesW, hx])) fun r3 g3 => ?_
    have hb := run_bo (Q := fun st => RSt.wo st = ⟨pls, p :: qs, wks, bos⟩) (zs := []) (pls := pls) (key := key) (nms := ns) (hms := hms) (mls := ms) (ads := ads) (wks := [] ++ wks) hrl bos [] r3 (by omega) (by simp only [List.length_nil]; omega) (fun x hx => hk _ (by simp [linesW, hx])) fun r4 g4 => by
      show RSt.wo _ = _
      simp only [RSt.wo, he, List.nil_append]
    rwa [List.append_nil] at hb
end Go.AX

namespace Go.AX
open Go Go.Proofs Go.RowKit
theorem dash_pw : Pw (dashS []) := by
  have h : dashS [] = [45] := rfl
  rw [h]
  have h2 : ([45] : Str) ≠ [] ∧ (32 : UInt8) ∉ ([45] : Str) ∧ (10 : UInt8) ∉ ([45] : Str) ∧ ([45] : Str).length ≤ 40 := by decide
  exact h2
theorem key_dash {s : Str} (h : keyB s = true) : s ≠ [45] := by
  rintro rfl
  exact absurd h (by decide)
theorem lnOk_pl {w : Wo} (ho : OkW w) {p : Pl} (hp : p ∈ w.pls) : LnOk (.pl p) := by
  refine ⟨keyB_pw (ho.pl.key p hp).1, ?_, ?_⟩
  · by_cases h : p.2 = []
    · rw [h]; exact dash_pw
    · have := keyB_pw (ho.pl.pk hp h).1
      rwa [show dashS p.2 = p.2 from if_neg h]
  · by_cases h : p.2 = []
    · rw [h]; simp
    · exact key_dash (ho.pl.pk hp h).1
theorem lnOk_P {w : Wo} (ho : OkW w) {p : Pe} (hp : p ∈ w.pes) : ∀ l ∈ linesP p, LnOk l := by
  have hk := ho.pe p hp
  intro l hl
  simp only [linesP, List.mem_cons, List.mem_append, List.mem_map] at hl
  rcases hl with rfl | ⟨x, hx, rfl⟩ | ⟨x, hx, rfl⟩ | ⟨x, hx, rfl⟩ | ⟨x, hx, rfl⟩
  · exact keyB_pw (K7_key _ (ho.key p hp)).1
  · obtain ⟨h1, h2, h3⟩ := hk.nm.nm x hx
    obtain ⟨g1, g2, g3⟩ := NG_pw x.1 h1
    exact ⟨h3, g1, g2, g3⟩
  · obtain ⟨h1, h2, h3, h4, h5, h6⟩ := hk.hm.hm x hx
    obtain ⟨q, hq, e⟩ := List.mem_map.1 h1
    exact ⟨by rw [← e]; exact keyB_pw (ho.pl.key q hq).1, h5, h6⟩
  · exact MG_pw x (hk.ml.ml x hx)
  · exact keyB_pw (K7_key _ (hk.ad.ky x hx).1).1
theorem mem_key {w : Wo} (ho : OkW w) {k : Str} (h : k ∈ w.pes.map (·.key)) : Pw k := by
  obtain ⟨p, hp, rfl⟩ := List.mem_map.1 h
  exact keyB_pw (K7_key _ (ho.key p hp)).1
theorem lnOk_W {n : Nat} {w : Wo} (h : RWR n w) : ∀ l ∈ linesW w, LnOk l := by
  have ho := h.ok
  intro l hl
  simp only [linesW, List.mem_append, List.mem_map, List.mem_flatMap] at hl
  rcases hl with ⟨x, hx, rfl⟩ | ⟨p, hp, hl⟩ | ⟨x, hx, rfl⟩ | ⟨x, hx, rfl⟩
  · exact lnOk_pl ho hx
  · exact lnOk_P ho hp l hl
  · have hw := ho.wk.wk x hx
    exact ⟨hw.dy, by have := h.wa x hx; omega, fun a ha => mem_key ho (hw.ky a ha)⟩
  · obtain ⟨h1, h2, h3⟩ := ho.bo.bo x hx
    exact ⟨mem_key ho h1, mem_key ho h2⟩
theorem woW_of {n : Nat} {w : Wo} (h : RWR n w) (hn : n ≤ 7) (hpl : w.pls.length ≤ 7) : WoW w := by
  have ho := h.ok
  have hk := lnOk_W h
  have hM : ∀ {l : Ln}, l ∈ linesW w → LW l.ws := fun hl => (hk _ hl).lw
  have hP : ∀ {p : Pe}, p ∈ w.pes → ∀ l ∈ linesP p, l ∈ linesW w := fun hp l hl => by
    simp only [linesW, List.mem_append, List.mem_flatMap]
    exact .inr (.inl ⟨_, hp, hl⟩)
  have hlen : w.pes.length ≤ 7 := by
    have := congrArg List.length h.ky
    rw [List.length_map, List.length_take] at this
    omega
  have dyB : ∀ {d : Int}, d ∈ DY → 0 ≤ d ∧ d ≤ 100000 := fun hd => by have := (dy_plain hd).1; omega
  refine ⟨fun x hx => hM (l := .pl x) (by simp [linesW, hx]), fun p hp => ?_, fun x hx => ⟨hM (l := .wk x) (by simp [linesW, hx]), dyB (ho.wk.wk x hx).dy⟩, fun x hx => hM (l := .bo x) (by simp [linesW, hx]), hpl, hlen, by have := h.wl; omega, by have := h.bl; omega⟩
  have hq := ho.pe p hp
  refine ⟨hM (hP hp (.pe p.key) (by simp [linesP])), fun x hx => ⟨hM (hP hp (.nm x) (by simp [linesP, hx])), dyB (hq.nm.nm x hx).2.2⟩, fun x hx => ⟨hM (hP hp (.hm x) (by simp [linesP, hx])), dyB (hq.hm.hm x hx).2.2.2.2.1, dyB (hq.hm.hm x hx).2.2.2.2.2⟩, fun x hx => hM (hP hp (.ml x) (by simp [linesP, hx])), fun x hx => hM (hP hp (.ad x) (by simp [linesP, hx])), h.sm p hp⟩
theorem txW_len {w : Wo} (h : WoW w) : (txW w).length ≤ 100000 := by
  obtain ⟨n1, n2, n3, n4⟩ := h.len
  have l1 := txB_len h.pl
  have l2 := txQ_len h.pe
  have l3 := txB_len (w := wWk) fun x hx => (h.wk x hx).1
  have l4 := txB_len h.bo
  simp only [txW, List.length_append]
  omega
theorem flat_len {α : Type} (f : α → Str) : ∀ xs : List α, xs.length ≤ (xs.flatMap fun x => f x ++ [10]).length
  | [] => by simp
  | x :: xs => by
    have := flat_len f xs
    simp only [List.flatMap_cons, List.length_append, List.length_cons, List.length_nil] at this ⊢
    omega
theorem text_nil (ho : OkW ⟨[], [], [], []⟩) : Does Tryz.prog 9 [.d (woD ⟨[], [], [], []⟩)] [] (.tup [S [], I 0]) [] := by
  have hck := check_ok ho
  refine Does.of_AW (n := 89) Tryz.func9 rfl rfl rfl fun cx hcx => ?_
  repeat' (first | ((first | refine AW.sreg rfl fun K hK => ?_ | refine run_call _ _ _ ((hck).pure rfl rfl _ _) rfl rfl (dstOk_of rfl) rfl rfl rfl ?_ | refine run_call _ _ _ ((len0).robjs [_] ⟨(by first | rfl | (simp [go_sem]; done) | (simp [go_sem]; rfl)), trivial⟩ rfl (by decide) (by simp) (by simp) (by simp [go_sem]) (by simp [go_sem]) (by simp [go_sem]) (by simp [go_sem])) rfl rfl (dstOk_of rfl) rfl rfl rfl ?_ | refine run_call _ _ _ ((str0).robjs [_] ⟨(by first | rfl | (simp [go_sem]; done) | (simp [go_sem]; rfl)), trivial⟩ rfl (by decide) (by simp) (by simp) (by simp [go_sem]) (by simp [go_sem]) (by simp [go_sem]) (by simp [go_sem])) rfl rfl (dstOk_of rfl) rfl rfl rfl ?_); simp only [go_sem, ↓reduceIte, List.length_map]) | (refine AW.seq_k fun K hK => ?_) | (refine AW.block ?_) | (refine AW.skip ?_; simp only [Then, InBlock]) | (refine AW.exit ?_; simp only [go_sem, ↓reduceIte]) | (refine AW.cF ?_) | (refine hK _ ?_; clear hK K) | (clear hK K; refine hK _ ?_; clear hK K) | (refine AW.unroll 1 ?_; simp only [AWr]))
  exact AW.ret (Fin.data rfl (by simp [go_sem]) rfl)
/-- No persons: no works and no bonds. -/
theorem none_of {w : Wo} (ho : OkW w) (h : w.pes = []) : w.wks = [] ∧ w.bos = [] := by
  constructor
  · refine List.eq_nil_iff_forall_not_mem.2 fun x hx => ?_
    have hw := ho.wk.wk x hx
    obtain ⟨a, ha⟩ := List.exists_mem_of_length_pos (show 0 < x.2.length by have := hw.len.1; omega)
    have := hw.ky a ha
    rw [h] at this
    simp at this
  · refine List.eq_nil_iff_forall_not_mem.2 fun x hx => ?_
    have := (ho.bo.bo x hx).1
    rw [h] at this
    simp at this
theorem text_W {n : Nat} {w : Wo} (h : RWR n w) (hn : n ≤ 7) : Does Tryz.prog 9 [.d (woD w)] [] (.tup [S (txW w), I 0]) [] := by
  by_cases hne : 0 < w.pls.length + w.pes.length
  · exact text_ok h.ok (woW_of h hn (by have := h.pl.len; omega)) hne
  · have h1 : w.pls = [] := List.length_eq_zero_iff.1 (by omega)
    have h2 : w.pes = [] := List.length_eq_zero_iff.1 (by omega)
    obtain ⟨h3, h4⟩ := none_of h.ok h2
    have ho := h.ok
    obtain ⟨pls, pes, wks, bos⟩ := w
    simp only at h1 h2 h3 h4
    subst h1 h2 h3 h4
    exact text_nil ho
theorem read_W {n : Nat} {w : Wo} (h : RWR n w) (hn : n ≤ 7) : Does Tryz.prog 10 [S (txW w)] [] (.tup [.d (woD w), I 0, I 0]) [] := by
  have hk := lnOk_W h
  have hw := woW_of h hn (by have := h.pl.len; omega)
  obtain ⟨n1, n2, n3, n4⟩ := hw.len
  have hT := txW_len hw
  have htx : txW w = ((linesW w).map Ln.tx).flatMap (· ++ [10]) := by rw [← tx_W, List.flatMap_map]
  have hL : (linesW w).length ≤ (txW w).length := by rw [← tx_W]; exact flat_len Ln.tx (linesW w)
  have hs : splitB 10 (txW w) = (linesW w).map Ln.tx ++ [[]] := by
    rw [htx]
    exact splitB_lines 10 _ fun x hx => by
      obtain ⟨l, hl, rfl⟩ := List.mem_map.1 hx
      exact (hk l hl).nl
  have hl := lines_any (txW w) (by omega) _ hs (by rw [List.length_map]; omega)
  exact read_ok (txW w) (linesW w) (by omega) (by omega) hl (check_ok h.ok) (runs_W w hk h.sm (by omega) (by omega) (by omega) (by omega) (none_of h.ok))
theorem same_W {n : Nat} {w : Wo} (h : RWR n w) (hn : n ≤ 7) : Does Tryz.prog 11 [.d (woD w), .d (woD w)] [] (B true) [] := by
  obtain ⟨n1, n2, n3, n4⟩ := (woW_of h hn (by have := h.pl.len; omega)).len
  refine sameWorld_ok w (by omega) (by omega) h.sm (by omega) (fun x hx => ?_) (by omega)
  have hw := h.ok.wk.wk x hx
  have := hw.day
  have := h.wa x hx
  exact ⟨by omega, by omega, by omega⟩
theorem law_ok (l : List Int) (hl : l.length ≤ 9223372036854775807) : Does Tryz.prog 3 [Ls l] [] (B true) [] := by
  have hr1 := range_any l hl 0 0 7 (by omega) (by omega) (by omega) (by omega) (by omega)
  have hr2 := nextV_range l 0 (7 - 0 + 1) (by omega)
  obtain ⟨n, hn, hn7⟩ : ∃ n : Nat, 0 + nextV l 0 (7 - 0 + 1) = (n : Int) ∧ n ≤ 7 := ⟨(0 + nextV l 0 (7 - 0 + 1)).toNat, by omega, by omega⟩
  rw [hn] at hr1
  have hrw := rightWorldI l hl (0 + 1) (by omega) (by omega) n hn7
  refine Does.of_AW (n := 39) Tryz.func3 rfl rfl rfl fun cx hcx => ?_
  repeat' (first | ((first | refine AW.sreg rfl fun K hK => ?_ | refine run_call _ _ _ ((hr1).objA [_]) rfl rfl (dstOk_of rfl) rfl rfl rfl ?_); simp only [go_sem, ↓reduceIte]) | (refine hK _ ?_; clear hK K) | (refine run_callI _ _ _ ((hrw).objs [_] ⟨rfl, trivial⟩ rfl (by decide) (by simp [go_sem, renOs]) (by simp [go_sem]) (by simp [go_sem]) (fun j hj => ⟨by simp, by simp, by simp [go_sem], by simp [go_sem]⟩)) rfl rfl (dstOk_of rfl) rfl rfl rfl ?_; rintro ⟨w, p1⟩ ⟨hw, a2, a3⟩; (try dsimp only at w); (try dsimp only at p1); (try dsimp only at hw); (try dsimp only at a2); (try dsimp only at a3); simp only [go_sem, ↓reduceIte]))
  have h1 := text_W hw hn7
  have h2 := read_W hw hn7
  have h3 := same_W hw hn7
  generalize txW w = T at h1 h2
  repeat' (first | ((first | refine AW.sreg rfl fun K hK => ?_ | refine run_call _ _ _ ((h1).pure rfl rfl _ _) rfl rfl (dstOk_of rfl) rfl rfl rfl ?_ | refine run_call _ _ _ ((h2).pure rfl rfl _ _) rfl rfl (dstOk_of rfl) rfl rfl rfl ?_ | refine run_call _ _ _ ((h3).pure rfl rfl _ _) rfl rfl (dstOk_of rfl) rfl rfl rfl ?_ | refine run_call _ _ _ ((stands_ok).pure rfl rfl _ _) rfl rfl (dstOk_of rfl) rfl rfl rfl ?_); simp only [go_sem, ↓reduceIte, woD]) | (refine AW.seq_k fun K hK => ?_) | (refine AW.skip ?_; simp only [Then, InBlock]) | (refine AW.cF ?_) | (refine hK _ ?_; clear hK K))
  all_goals exact AW.ret (Fin.data rfl (by simp [go_sem]) rfl)
end Go.AX
