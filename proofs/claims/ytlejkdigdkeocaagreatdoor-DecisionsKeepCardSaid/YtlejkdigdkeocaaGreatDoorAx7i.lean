/- AX, part 7i: clear. -/
import Derived.Test.YtlejkdigdkeocaaGreatDoorAx7h
set_option linter.unusedSimpArgs false
set_option linter.unusedVariables false
namespace Go.AX
open Go
def aClear (P : Program) (hv : Nat → Option O) (t : TypeId) (x : V) : Option Res := match tiOf P t with
  | some ⟨.slice e, _, _, _⟩ => match tiOf P e with
    | some ei => if elemOk ei.size ei.zero = true ∧ 0 < ei.size then match x with
        | .nils => some ⟨.tup [], [], True⟩
        | .slr id lo n => match hv id with
          | some (.vec e' s xs) => if s = ei.size then some ⟨.tup [], [(id, some (.vec e' s (xs.take lo ++ List.replicate n ei.zero ++ xs.drop (lo + n))))], lo + n ≤ xs.length⟩ else none
          | _ => none
        | _ => none
      else none
    | none => none
  | _ => none
section
variable {P : Program} {cx : Cx} {hv : Nat → Option O} {σ : Nat → Option Loc} {w : World} {nid : Nat} {ρ : Operand → Value} {ev : Operand → V}
theorem aClear_sound (h : HR cx hv σ w) (hev : ∀ x, RV w (okB cx w hv σ) σ (ev x) (ρ x)) {t : TypeId} {x : Operand} {o : Oper} {r : Res} (ho : o.op = .call ⟨.builtin .clear, #[x], #[t]⟩) (hr : aClear P hv t (ev x) = some r) (hob : r.ob) : Sound P cx hv σ w nid ρ o r := by
  have hd := hev x
  unfold aClear at hr
  split at hr
  case h_2 => cases hr
  rename_i e _ _ _ hti
  obtain ⟨ii, dd, zv, h1, h2, h3, h4, _⟩ := tiOf_spec hti
  have := tuOf_slice h4
  subst this
  split at hr
  case h_2 => cases hr
  rename_i ei hei
  obtain ⟨ie, d', z, g1, g2, g3, g4, g5, g6, g7⟩ := tiOf_spec hei
  split at hr
  case isFalse => cases hr
  rename_i hcond
  obtain ⟨hok, hsp⟩ := hcond
  rw [g5] at hok hsp
  have hrz : RV w (okB cx w hv σ) σ ei.zero z := by rw [g7]; exact RV_constV z
  have hok' := hok
  simp only [elemOk, Bool.and_eq_true, beq_iff_eq] at hok
  have hzs : z.cells.size = ie.size := by
    have := RVl_length (RVl_cells hrz (storable_cases hok.2))
    rw [hok.1.1] at this
    simpa using this
  have run : ∀ w', (Builtin.clear_ #[t] o.type #[ρ x]).run P w = .ok (.tuple #[]) w' → (execOp ρ o).run P w = .ok (.value (.tuple #[])) w' := by
    intro w' hv'
    rw [builtin_run ho]
    have : (#[x].map ρ) = #[ρ x] := by simp
    simp only [builtin, Sem.run_bind, this, hv', Result.andThen_ok, Sem.run_pure]
  have htup : ∀ (w : World) ok σ, RV w ok σ (.tup []) (.tuple #[]) := fun w ok σ => by simp only [RV]; exact ⟨#[], rfl, by simp only [RVl]⟩
  split at hr
  · rename_i ex
    cases hr
    rw [ex] at hd
    simp only [RV] at hd
    refine sound_value h rfl (v := .tuple #[]) (run w ?_) (htup _ _ _)
    rw [hd]
    simp [Builtin.clear_, run_underlying' h2]
  · rename_i id lo n ed
    split at hr
    case h_2 => cases hr
    rename_i e' s xs hid
    split at hr
    case isFalse => cases hr
    rename_i hse
    cases hr
    subst hse
    rw [g5] at hid ⊢
    rw [ed] at hd
    simp only [RV] at hd
    have ho' := h.own id _ hid
    simp only [RO] at ho'
    have ho2 : lo + n ≤ xs.length := hob
    rcases hd with ⟨hsn, rfl, rfl, a0, hav⟩ | ⟨b, K, s2, aa, cap, hs, hav, hnc, hlc, hca⟩
    · rcases ho' with ⟨_, rfl⟩ | ⟨b', K', c, fr, hs', _⟩
      · have e9 : app hv [(id, some (O.vec e' ie.size (([] : List V).take 0 ++ List.replicate 0 ei.zero ++ ([] : List V).drop (0 + 0))))] = hv := by
          rw [app_one]
          funext k
          by_cases hk : k = id
          · subst hk; rw [upd_same]; simpa using hid.symm
          · rw [upd_other _ _ hk]
        refine ⟨.tuple #[], w, σ, .inl (run w ?_), ?_, fun _ _ => rfl, fun _ _ h => h, ?_, htup _ _ _⟩
        · rw [hav]
          cases a0 <;> simp [Builtin.clear_, run_underlying' h2]
        · rw [e9]; exact h
        · rw [e9]; exact fun b hb => ⟨hb, rfl⟩
      · rw [hsn] at hs'; cases hs'
    · rcases ho' with ⟨hn', _⟩ | ⟨b', K', c, fr, hs', hb, hf, hcs, hxl, hel⟩
      · rw [hs] at hn'; cases hn'
      rw [hs] at hs'
      cases hs'
      let new : Array Value := Builtin.zeroCells z.cells n
      have hns : new.size = n * ie.size := by simp [new, zeroCells_size, hzs]
      have hroom : lo * ie.size + new.toList.length ≤ c.size := by
        rw [hcs]
        have := Nat.mul_le_mul_right ie.size (show lo + n ≤ K by omega)
        rw [Nat.add_mul] at this
        simp only [Array.length_toList, hns]
        exact this
      have helz : ∀ i, i < n → ElemAt new ie.size (i * ie.size) z := by
        intro i hi
        refine elemAt_of hzs fun j hj => ?_
        have hlt : i * ie.size + j < n * ie.size := by
          have := Nat.mul_le_mul_right ie.size hi
          rw [Nat.succ_mul] at this
          omega
        have hm : (i * ie.size + j) % ie.size = j := by
          rw [Nat.add_comm, Nat.add_mul_mod_self_right, Nat.mod_eq_of_lt hj]
        simp only [new, Builtin.zeroCells, Array.getElem?_map]
        rw [Array.getElem?_eq_getElem (by simpa [hzs] using hlt)]
        simp only [Array.getElem_range, Option.map_some, hzs, hm]
        rw [Array.getElem?_eq_getElem (by omega), getElem!_pos z.cells j (by omega)]
      have hnr : RVels w (okB cx w hv σ) σ new ie.size 0 (List.replicate n ei.zero) := by
        refine RVels_of fun i x hx => ?_
        rw [List.getElem?_replicate] at hx
        split at hx
        · rename_i hi
          cases hx
          exact ⟨z, by rw [Nat.zero_add]; exact helz i hi, hrz⟩
        · cases hx
      have hn1 : ∀ u ∈ new.toList, u.oneCell' = true := by
        intro u hu
        obtain ⟨j, hj⟩ := List.getElem?_of_mem hu
        have hjl : j < n * ie.size := by
          rcases Nat.lt_or_ge j new.toList.length with h' | h'
          · rw [Array.length_toList, hns] at h'; exact h'
          · rw [List.getElem?_eq_none h'] at hj; cases hj
        obtain ⟨v, hv1, hv2⟩ := els_cells hnr (by rw [List.all_eq_true]; intro y hy; rw [List.eq_of_mem_replicate hy]; exact hok') j (by rw [List.length_replicate]; exact hjl)
        rw [Array.getElem?_toList] at hj
        rw [Nat.zero_add, hj] at hv1
        cases hv1
        exact hv2
      have hlt : (xs.take lo).length = lo := by simp; omega
      have hst := run_storeCells' (P := P) new.toList 0 w c (off := lo * ie.size) hb (by simpa using hroom) hf hn1
      have hw' : (if new.toList = [] then w else setB w b (.cells (setL c (lo * ie.size + 0) new.toList) e' fr)) = setB w b (.cells (setL c (lo * ie.size) new.toList) e' fr) := by
        split
        · rename_i h0
          rw [h0]
          simp only [setL]
          rw [setB_self hb]
        · rfl
      rw [hw'] at hst
      have hw := h.write (o0 := .vec e' ie.size xs) hid hs (.cells (setL c (lo * ie.size) new.toList) e' fr) (.vec e' ie.size (xs.take lo ++ List.replicate n ei.zero ++ xs.drop (lo + n))) (by
        intro ok' hok
        refine .inr ⟨b, K, _, fr, hs, setB_same (heap_lt hb), by rw [setL_size]; exact hf, by rw [setL_size]; exact hcs, by simp; omega, ?_⟩
        refine RVels_append (RVels_append (RVels_transfer (RVels_mono hok (fun _ _ h => h) _ _ _ _ (RVels_take hel lo)) fun j hj => ?_) (RVels_transfer (RVels_mono hok (fun _ _ h => h) _ _ _ _ hnr) fun j hj => ?_)) (RVels_transfer (RVels_mono hok (fun _ _ h => h) _ _ _ _ (RVels_drop hel (lo + n))) fun j hj => ?_)
        · rw [hlt] at hj
          rw [setL_get _ _ _ _ hroom, if_neg (by omega)]
        · rw [List.length_replicate] at hj
          rw [hlt, setL_get _ _ _ _ hroom, if_pos (by simp only [Array.length_toList, hns]; omega)]
          rw [Array.getElem?_toList]
          congr 1
          omega
        · rw [List.length_append, hlt, List.length_replicate, Nat.add_mul, setL_get _ _ _ _ hroom, if_neg (by simp only [Array.length_toList, hns]; omega)])
      refine ⟨.tuple #[], setB w b (.cells (setL c (lo * ie.size) new.toList) e' fr), σ, .inl (run _ ?_), ?_, fun _ _ => rfl, fun _ _ h => h, ?_, htup _ _ _⟩
      · rw [hav]
        by_cases hn0 : n = 0
        · subst hn0
          have hnil : new = #[] := by
            have : new.size = 0 := by rw [hns]; simp
            simpa using this
          simp only [hnil, setL, setB_self hb]
          simp [Builtin.clear_, run_underlying' h2, setL, setB_self hb]
        · rcases hca with hc0 | rfl
          · omega
          · obtain ⟨m, rfl⟩ : ∃ m, n = m + 1 := ⟨n - 1, by omega⟩
            simp only [Builtin.clear_, Sem.run_bind, run_underlying' h2, Result.andThen_ok, run_zeroValue' g1 g3, Sem.run_pure]
            have hst' : (storeCells ⟨b, lo * ie.size, none⟩ (Builtin.zeroCells z.cells (m + 1)).toList).run P w = .ok () (setB w b (.cells (setL c (lo * ie.size) new.toList) e' fr)) := hst
            simp [run_underlying' h2, run_zeroValue' g1 g3, hst']
      · rw [app_one]; exact hw.1
      · rw [app_one]; exact hw.2
  · cases hr
end
end Go.AX
