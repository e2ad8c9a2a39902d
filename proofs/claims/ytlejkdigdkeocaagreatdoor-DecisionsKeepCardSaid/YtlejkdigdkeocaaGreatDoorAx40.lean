/- AX, part 40: the number of draws does not fall. -/
import Derived.Calls
set_option linter.unusedSimpArgs false
set_option linter.unusedVariables false
set_option maxHeartbeats 2000000
set_option maxHeartbeats 4000000
namespace Go.AX
open Go
/-- A result's world has at least as many draws. -/
def RUp {α : Type} (d : Nat) : Result α → Prop
  | .ok _ w => d ≤ w.drawn
  | .halt _ w => d ≤ w.drawn
def GUp (d : Nat) : GStep → Prop
  | .go _ w _ => d ≤ w.drawn
  | .comm _ _ _ _ w _ => d ≤ w.drawn
  | .spawn _ _ w _ => d ≤ w.drawn
  | .count _ w _ => d ≤ w.drawn
  | .timer _ _ w _ => d ≤ w.drawn
  | .alone _ _ w _ => d ≤ w.drawn
  | .newcoro _ _ _ w _ => d ≤ w.drawn
  | .coroswitch _ _ _ w _ => d ≤ w.drawn
  | .collect _ w _ => d ≤ w.drawn
  | .watch _ w _ => d ≤ w.drawn
  | .ended _ _ _ => True
def SUp (d : Nat) : Stepped → Prop
  | .next m => d ≤ m.world.drawn
  | .ended _ _ => True
theorem GUp.after {d : Nat} {s : GStep} {es : Array Event} (h : GUp d s) : GUp d (s.after es) := by cases s <;> exact h
theorem RUp.le {α : Type} {a b : Nat} {r : Result α} (h : RUp b r) (hab : a ≤ b) : RUp a r := by cases r <;> exact Nat.le_trans hab h
theorem GUp.le {a b : Nat} {r : GStep} (h : GUp b r) (hab : a ≤ b) : GUp a r := by cases r <;> first | exact Nat.le_trans hab h | trivial
theorem ask_up {α : Type} : ∀ (a : Ask α) (w : World), w.drawn ≤ (w.ask a).2.drawn := by
  intro a
  induction a with
  | done x => intro w; exact Nat.le_refl _
  | ask what range k ih =>
    intro w
    unfold World.ask
    simp only
    split
    · exact ih _ w
    · exact Nat.le_trans (Nat.le_succ _) (ih _ { w with drawn := w.drawn + 1 })
theorem sys_up (w : World) (c : Sys) : w.drawn ≤ (w.sys c).2.drawn := by
  have h := ask_up (Kernel.perform c w.os) w
  unfold World.sys
  split
  · exact Nat.le_refl _
  · rename_i r os w' _ e
    rw [e] at h
    exact h
theorem setCell_up (w : World) (a : Addr) (v : Value) : (w.setCell a v).drawn = w.drawn := by
  unfold World.setCell
  repeat' split
  all_goals rfl
theorem freeze_up (w : World) (a : Addr) (n : Nat) : (w.freeze a n).drawn = w.drawn := by
  unfold World.freeze
  repeat' split
  all_goals rfl
theorem viewStore_up {p : Program} {w w' : World} {at_ : Addr} {u : TypeId} {k : Addr} {v : Value} {b : Bool} {x : List Addr} (h : w.viewStore p at_ u k v b = .ok (w', x)) : w'.drawn = w.drawn := by
  unfold World.viewStore at h
  simp only [bind, Except.bind, pure, Except.pure, throw, throwThe, MonadExceptOf.throw] at h
  repeat' (split at h)
  all_goals first
    | (cases h; rfl)
    | cases h
theorem farStore_up {p : Program} {w w' : World} {a : Addr} {v : Value} {b : Bool} {x : List Addr} (h : w.farStore p a v b = .ok (w', x)) : w'.drawn = w.drawn := by
  unfold World.farStore at h
  split at h
  · split at h
    · rename_i r e
      cases h
      exact viewStore_up e
    · cases h
  · cases h
theorem run_up {α : Type} (p : Program) : ∀ (s : Sem α) (w : World), RUp w.drawn (s.run p w) := by
  intro s
  induction s with
  | pure a => intro w; exact Nat.le_refl _
  | load m a k ih =>
    intro w
    simp only [Sem.run]
    split
    · exact ih _ w
    · split
      · exact ih _ w
      · exact Nat.le_refl _
  | store m a v k ih =>
    intro w
    cases v
    all_goals simp only [Sem.run]
    all_goals first
      | exact Nat.le_refl _
      | skip
    all_goals split
    all_goals first
      | (split
         · exact Nat.le_refl _
         · exact (ih _).le (Nat.le_of_eq (setCell_up _ _ _).symm))
      | (split
         · rename_i e; exact (ih _).le (Nat.le_of_eq (farStore_up e).symm)
         · exact Nat.le_refl _)
  | new o k ih => intro w; simp only [Sem.run]; exact ih _ { w with heap := w.heap.push o }
  | shape r k ih => intro w; simp only [Sem.run]; exact ih _ w
  | freeze a n k ih => intro w; simp only [Sem.run]; exact (ih _).le (Nat.le_of_eq (freeze_up _ _ _).symm)
  | frozen a k ih => intro w; simp only [Sem.run]; exact ih _ w
  | getObj r k ih =>
    intro w
    simp only [Sem.run]
    split
    · exact Nat.le_refl _
    · exact ih _ w
    · exact Nat.le_refl _
  | setObj r o k ih =>
    intro w
    simp only [Sem.run]
    split
    · exact Nat.le_refl _
    · exact ih { w with heap := w.heap.setIfInBounds r o }
    · exact Nat.le_refl _
  | choose q k ih =>
    intro w
    simp only [Sem.run]
    split
    · exact ih _ w
    · exact (ih _ { w with drawn := w.drawn + 1 }).le (Nat.le_succ _)
  | sys c k ih => intro w; simp only [Sem.run]; exact (ih _ _).le (sys_up _ _)
  | program k ih => intro w; simp only [Sem.run]; exact ih _ w
  | mark m k ih => intro w; simp only [Sem.run]; exact ih w
  | halt h => intro w; exact Nat.le_refl _
theorem runT_run {α : Type} (p : Program) : ∀ (s : Sem α) (w : World) (es : Array Event), RUp w.drawn (s.runT p w es).1 := by
  intro s
  induction s with
  | pure a => intro w es; exact Nat.le_refl _
  | load m a k ih =>
    intro w es
    simp only [Sem.runT]
    split
    · exact ih _ w _
    · split
      · exact ih _ w _
      · exact Nat.le_refl _
  | store m a v k ih =>
    intro w es
    cases v
    all_goals simp only [Sem.runT]
    all_goals first
      | exact Nat.le_refl _
      | skip
    all_goals split
    all_goals first
      | (split
         · exact Nat.le_refl _
         · exact (ih _ _).le (Nat.le_of_eq (setCell_up _ _ _).symm))
      | (split
         · rename_i e; exact (ih _ _).le (Nat.le_of_eq (farStore_up e).symm)
         · exact Nat.le_refl _)
  | new o k ih => intro w es; simp only [Sem.runT]; exact ih _ { w with heap := w.heap.push o } _
  | shape r k ih => intro w es; simp only [Sem.runT]; exact ih _ w _
  | freeze a n k ih => intro w es; simp only [Sem.runT]; exact (ih _ _).le (Nat.le_of_eq (freeze_up _ _ _).symm)
  | frozen a k ih => intro w es; simp only [Sem.runT]; exact ih _ w _
  | getObj r k ih =>
    intro w es
    simp only [Sem.runT]
    split
    · exact Nat.le_refl _
    · exact ih _ w _
    · exact Nat.le_refl _
  | setObj r o k ih =>
    intro w es
    simp only [Sem.runT]
    split
    · exact Nat.le_refl _
    · exact ih { w with heap := w.heap.setIfInBounds r o } _
    · exact Nat.le_refl _
  | choose q k ih =>
    intro w es
    simp only [Sem.runT]
    split
    · exact ih _ w _
    · exact (ih _ { w with drawn := w.drawn + 1 } _).le (Nat.le_succ _)
  | sys c k ih => intro w es; simp only [Sem.runT]; exact (ih _ _ _).le (sys_up _ _)
  | program k ih => intro w es; simp only [Sem.runT]; exact ih _ w _
  | mark m k ih => intro w es; simp only [Sem.runT]; exact ih w _
  | halt h => intro w es; exact Nat.le_refl _
theorem run_of {α : Type} {p : Program} {s : Sem α} {w : World} {r : Result α} (e : s.run p w = r) : RUp w.drawn r := e ▸ run_up p s w
theorem runT_of {α : Type} {p : Program} {s : Sem α} {w : World} {es es' : Array Event} {r : Result α} (e : s.runT p w es = (r, es')) : RUp w.drawn r := by
  have h := runT_run p s w es
  rw [e] at h
  exact h
theorem runT_of1 {α : Type} {p : Program} {s : Sem α} {w : World} {es : Array Event} {r : Result α} (e : (s.runT p w es).1 = r) : RUp w.drawn r := e ▸ runT_run p s w es
theorem runT_h {α : Type} {p : Program} {s : Sem α} {w w' : World} {es : Array Event} {h : Halt} (e : (s.runT p w es).1 = .halt h w') : w.drawn ≤ w'.drawn := runT_of1 e
theorem runT_k {α : Type} {p : Program} {s : Sem α} {w w' : World} {es : Array Event} {a : α} (e : (s.runT p w es).1 = .ok a w') : w.drawn ≤ w'.drawn := runT_of1 e
theorem run_k {α : Type} {p : Program} {s : Sem α} {w w' : World} {a : α} (e : s.run p w = .ok a w') : w.drawn ≤ w'.drawn := run_of e
theorem run_h {α : Type} {p : Program} {s : Sem α} {w w' : World} {h : Halt} (e : s.run p w = .halt h w') : w.drawn ≤ w'.drawn := run_of e
end Go.AX

namespace Go.AX
open Go
theorem endWith_up (w : World) (fd : Nat) (t : ByteArray) (o : Outcome) : GUp w.drawn (endWith w fd t o) := by
  unfold endWith
  simp only
  repeat' split
  all_goals trivial
theorem endThrow_up (fr : Frame) (m : String) (w : World) : GUp w.drawn (endThrow fr m w) := Nat.le_refl _
theorem endPrinting_up (p : Program) (fr : Frame) (v : Value) (w : World) : GUp w.drawn (endPrinting p fr v w) := by
  unfold endPrinting
  simp only
  split
  · exact endThrow_up _ _ _
  · trivial
theorem endFatal_up (p : Program) (fr : Frame) (cs : List Frame) (d : Option Dying) (m : String) (w : World) : GUp w.drawn (endFatal p fr cs d m w) := by
  unfold endFatal
  simp only
  split
  · rename_i e; exact run_of e
  · trivial
  · trivial
theorem writeOn_up (p : Program) (fr : Frame) (d : Dying) (f : Fatal) (w : World) : GUp w.drawn (writeOn p fr d f w) := by
  unfold writeOn
  simp only
  split
  · trivial
  · split
    all_goals first
      | trivial
      | (rename_i e; exact runT_of e)
theorem die_up (p : Program) (fr : Frame) (d : Dying) (w : World) : GUp w.drawn (die p fr d w) := by
  unfold die
  split
  · exact writeOn_up _ _ _ _ _
  · simp only
    repeat' split
    all_goals first
    | exact endWith_up _ _ _ _
    | exact Nat.le_refl _
    | trivial
    | exact run_of (by assumption)
    | exact runT_of (by assumption)
    | exact runT_of1 (by assumption)
    | exact (endPrinting_up _ _ _ _).le (run_k (by assumption))
    | exact (endPrinting_up _ _ _ _).le (runT_h (by assumption))
    | exact (endFatal_up _ _ _ _ _ _).le (runT_h (by assumption))
    | exact (endThrow_up _ _ _).le (runT_h (by assumption))
    | (refine GUp.after ?_; repeat' split
       all_goals first
        | exact Nat.le_refl _
        | trivial
        | exact run_of (by assumption)
        | exact runT_of (by assumption)
        | exact runT_of1 (by assumption)
        | exact (endPrinting_up _ _ _ _).le (run_k (by assumption))
        | exact (endPrinting_up _ _ _ _).le (runT_h (by assumption))
        | exact (endFatal_up _ _ _ _ _ _).le (runT_h (by assumption))
        | exact (endThrow_up _ _ _).le (runT_h (by assumption))
       )
theorem doReturn_up (p : Program) (main : Bool) (fr : Frame) (cs : List Frame) (d : Option Dying) (v : Value) (w : World) : GUp w.drawn (doReturn p main fr cs d v w) := by
  unfold doReturn
  repeat' split
  all_goals first | exact Nat.le_refl _ | trivial
theorem callDeferred_up (p : Program) (fr : Frame) (cs : List Frame) (dy : Option Dying) (d : Deferred) (w : World) : GUp w.drawn (callDeferred p fr cs dy d w) := by
  unfold callDeferred
  simp only
  repeat' split
  all_goals first
    | exact Nat.le_refl _
    | trivial
    | exact run_of (by assumption)
    | exact runT_of (by assumption)
    | exact runT_of1 (by assumption)
    | exact (endPrinting_up _ _ _ _).le (run_k (by assumption))
    | exact (endPrinting_up _ _ _ _).le (runT_h (by assumption))
    | exact (endFatal_up _ _ _ _ _ _).le (runT_h (by assumption))
    | exact (endThrow_up _ _ _).le (runT_h (by assumption))
    | (refine GUp.after ?_; repeat' split
       all_goals first
        | exact Nat.le_refl _
        | trivial
        | exact run_of (by assumption)
        | exact runT_of (by assumption)
        | exact runT_of1 (by assumption)
        | exact (endPrinting_up _ _ _ _).le (run_k (by assumption))
        | exact (endPrinting_up _ _ _ _).le (runT_h (by assumption))
        | exact (endFatal_up _ _ _ _ _ _).le (runT_h (by assumption))
        | exact (endThrow_up _ _ _).le (runT_h (by assumption))
       )
theorem unwind_up (p : Program) (main : Bool) (fr : Frame) (cs : List Frame) (dy : Option Dying) (w : World) : GUp w.drawn (unwind p main fr cs dy w) := by
  unfold unwind
  simp only
  repeat' split
  all_goals first
    | exact callDeferred_up _ _ _ _ _ _
    | exact endPrinting_up _ _ _ _
    | exact doReturn_up _ _ _ _ _ _ _
    | exact Nat.le_refl _
    | trivial
    | exact run_of (by assumption)
    | exact runT_of (by assumption)
    | exact runT_of1 (by assumption)
    | exact (endPrinting_up _ _ _ _).le (run_k (by assumption))
    | exact (endPrinting_up _ _ _ _).le (runT_h (by assumption))
    | exact (endFatal_up _ _ _ _ _ _).le (runT_h (by assumption))
    | exact (endThrow_up _ _ _).le (runT_h (by assumption))
    | (refine GUp.after ?_; repeat' split
       all_goals first
         | exact (doReturn_up _ _ _ _ _ _ _).le (runT_k (by assumption))
         | exact Nat.le_refl _
         | trivial
         | exact run_of (by assumption)
         | exact runT_of (by assumption)
         | exact runT_of1 (by assumption)
         | exact (endPrinting_up _ _ _ _).le (run_k (by assumption))
         | exact (endPrinting_up _ _ _ _).le (runT_h (by assumption))
         | exact (endFatal_up _ _ _ _ _ _).le (runT_h (by assumption))
         | exact (endThrow_up _ _ _).le (runT_h (by assumption))
       )
theorem early_up (p : Program) (fr : Frame) (cs : List Frame) (dy : Option Dying) (g : Nat) (w : World) : GUp w.drawn (early p fr cs dy g w) := by
  unfold early
  simp only
  repeat' split
  all_goals first
    | exact Nat.le_refl _
    | trivial
    | exact run_of (by assumption)
theorem apply_up (p : Program) (main : Bool) (listen : Bool) (fr : Frame) (cs : List Frame) (dy : Option Dying) (s : Sem Next) (w : World) : GUp w.drawn (stepG.apply p listen fr cs dy s w) := by
  unfold stepG.apply
  simp only
  have h : RUp w.drawn (if listen then s.runT p w #[] else (s.run p w, #[])).1 := by
    split
    · exact runT_run _ _ _ _
    · exact run_up _ _ _
  revert h
  generalize (if listen then s.runT p w #[] else (s.run p w, #[])) = q
  obtain ⟨r, es⟩ := q
  intro h
  simp only at h ⊢
  refine GUp.after ?_
  repeat' split
  all_goals first
    | exact h
    | trivial
    | exact (endFatal_up _ _ _ _ _ _).le h
    | exact (endThrow_up _ _ _).le h
    | exact (early_up _ _ _ _ _ _).le h
end Go.AX

namespace Go.AX
open Go
theorem elim_up {α : Type} {d : Nat} {o : Option α} {a : GStep} {f : α → GStep} (h1 : GUp d a) (h2 : ∀ x, GUp d (f x)) : GUp d (o.elim a f) := by
  cases o with
  | none => exact h1
  | some x => exact h2 x
theorem oper_up (p : Program) (listen : Bool) (fr : Frame) (cs : List Frame) (dy : Option Dying) (w : World) : GUp w.drawn (stepG.oper p listen fr cs dy w) := by
  unfold stepG.oper
  repeat' split
  all_goals first
    | trivial
    | exact apply_up _ true _ _ _ _ _ _
theorem exec_up (p : Program) (main listen : Bool) (fr : Frame) (cs : List Frame) (dy : Option Dying) (w : World) : GUp w.drawn (stepG.exec p main listen fr cs dy w) := by
  unfold stepG.exec
  simp only
  repeat' split
  all_goals first
    | exact Nat.le_refl _
    | trivial
    | exact apply_up _ true _ _ _ _ _ _
    | exact oper_up _ _ _ _ _ _
    | exact (apply_up _ true _ _ _ _ _ _).le (runT_k (by assumption))
    | exact runT_of1 (by assumption)
    | exact run_of (by assumption)
    | (refine elim_up ?_ ?_
       · first
           | trivial
           | exact (doReturn_up _ _ _ _ _ _ _).after.le (runT_k (by assumption))
       · intro x; first | exact Nat.le_refl _ | exact apply_up _ true _ _ _ _ _ _)
    | exact (apply_up _ true _ _ _ _ _ _).after.le (runT_k (by assumption))
    | exact (doReturn_up _ _ _ _ _ _ _).after.le (runT_k (by assumption))
theorem stepG_up (p : Program) (main listen : Bool) (g : Goroutine) (w : World) : GUp w.drawn (stepG p main g w listen) := by
  obtain ⟨fr, cs, st, dy, off⟩ := g
  unfold stepG
  simp only
  split
  · exact die_up _ _ _ _
  · exact exec_up _ _ _ _ _ _ _
  · exact unwind_up _ _ _ _ _ _
theorem waitingAt_up {rest : Rest} {cases : Array CommCase} {w w' : World} (h : waitingAt rest cases w = some w') : w'.drawn = w.drawn := by
  unfold waitingAt at h
  split at h
  · split at h
    · cases h; rfl
    · cases h
  · cases h; rfl
theorem run_kk {α β : Type} {p : Program} {s : Sem α} {t : Sem β} {w w1 w2 : World} {a : α} {b : β} (e : s.run p w = .ok a w1) (e2 : t.run p w1 = .ok b w2) : w.drawn ≤ w2.drawn := Nat.le_trans (run_k e) (run_k e2)
theorem run_kh {α β : Type} {p : Program} {s : Sem α} {t : Sem β} {w w1 w2 : World} {a : α} {b : Halt} (e : s.run p w = .ok a w1) (e2 : t.run p w1 = .halt b w2) : w.drawn ≤ w2.drawn := Nat.le_trans (run_k e) (run_h e2)
theorem run_k3 {α β γ : Type} {p : Program} {s : Sem α} {t : Sem β} {u : Sem γ} {w w1 w2 w3 : World} {a : α} {b : β} {c : γ} (e : s.run p w = .ok a w1) (e2 : t.run p w1 = .ok b w2) (e3 : u.run p w2 = .ok c w3) : w.drawn ≤ w3.drawn := Nat.le_trans (run_kk e e2) (run_k e3)
theorem run_k4 {α β γ δ : Type} {p : Program} {s : Sem α} {t : Sem β} {u : Sem γ} {v : Sem δ} {w w1 w2 w3 w4 : World} {a : α} {b : β} {c : γ} {d : δ} (e : s.run p w = .ok a w1) (e2 : t.run p w1 = .ok b w2) (e3 : u.run p w2 = .ok c w3) (e4 : v.run p w3 = .ok d w4) : w.drawn ≤ w4.drawn := Nat.le_trans (run_k3 e e2 e3) (run_k e4)
theorem run_k3a {α β γ : Type} {p : Program} {s : Sem α} {t : Sem β} {u : Sem γ} {w w1 w2 wx w3 : World} {a : α} {b : β} {c : γ} (e3 : u.run p wx = .ok c w3) (e : s.run p w = .ok a w1) (e2 : t.run p w1 = .ok b w2) (h : w2.drawn ≤ wx.drawn) : w.drawn ≤ w3.drawn := Nat.le_trans (Nat.le_trans (run_kk e e2) h) (run_k e3)
theorem run_k4a {α β γ δ : Type} {p : Program} {s : Sem α} {t : Sem β} {u : Sem γ} {v : Sem δ} {w w1 w2 wx w3 w4 : World} {a : α} {b : β} {c : γ} {d : δ} (e4 : v.run p w3 = .ok d w4) (e3 : u.run p wx = .ok c w3) (e : s.run p w = .ok a w1) (e2 : t.run p w1 = .ok b w2) (h : w2.drawn ≤ wx.drawn) : w.drawn ≤ w4.drawn := Nat.le_trans (run_k3a e3 e e2 h) (run_k e4)
theorem SUp.le {a b : Nat} {s : Stepped} (h : SUp b s) (hab : a ≤ b) : SUp a s := by
  cases s with
  | next m => exact Nat.le_trans hab h
  | ended o w => trivial
theorem communicate_up (p : Program) (rest : Rest) (gs : Array Goroutine) (i : Nat) (g : Goroutine) (cases : Array CommCase) (b : Bool) (sh : CommShape) (w : World) : SUp w.drawn (communicate p rest gs i g cases b sh w).1 := by
  unfold communicate
  simp only
  repeat' split
  all_goals first
    | trivial
    | exact Nat.le_refl _
    | (rename_i e; exact Nat.le_of_eq (waitingAt_up e).symm)
    | (have h9 := run_kk (w := w) (by assumption) (by assumption); exact h9)
    | (have h9 := run_kh (w := w) (by assumption) (by assumption); exact h9)
    | (have h9 := run_k (w := w) (by assumption); exact h9)
    | trace_state
theorem look_up (p : Program) (gs : Array Goroutine) (rest : Rest) (w : World) : SUp w.drawn (look p gs rest w) := by
  unfold look
  simp only
  repeat' split
  all_goals first
    | trivial
    | exact Nat.le_refl _
    | (have h9 := run_kk (w := w) (by assumption) (by assumption); exact h9)
    | (have h9 := run_k (w := w) (by assumption); exact h9)
    | trace_state
theorem drain_up (w : World) (c : Nat) : (drain w c).2.drawn = w.drawn := by
  unfold drain
  split <;> rfl
theorem retime_up (m : Machine) (k : Nat) (t : Timer) (a b : Nat) : (retime m k t a b).2.world.drawn = m.world.drawn := by
  unfold retime
  simp only
  split
  · exact drain_up _ _
  · rfl
theorem named_up {m : Machine} {v : Addr} {f : Nat → Timer → Value × Machine} {x : Value} {m' : Machine} {d : Nat} (hf : ∀ k t, (f k t).2.world.drawn = d) (h : timerOp.named m v f = .ok (x, m')) : m'.world.drawn = d := by
  unfold timerOp.named at h
  split at h
  · rename_i k _
    have := hf k (m.rest.timers.getD k default)
    simp only [Except.ok.injEq] at h
    rw [h] at this
    exact this
  · cases h
theorem opened_up {m m' : Machine} {v : Addr} (h : timerOp.opened m v = some m') : m'.world.drawn = m.world.drawn := by
  unfold timerOp.opened at h
  repeat' (split at h)
  all_goals first | (cases h; rfl) | cases h
theorem timerOp_up {m m' : Machine} {op : TimerOp} {v : Value} (h : timerOp m op = .ok (v, m')) : m'.world.drawn = m.world.drawn := by
  unfold timerOp at h
  repeat' (split at h)
  all_goals first
    | (cases h; rfl)
    | cases h
    | exact named_up (fun _ _ => retime_up _ _ _ _ _) h
    | (rename_i e; exact named_up (fun _ _ => (retime_up _ _ _ _ _).trans (opened_up e)) h)
    | trace_state
theorem serve_up (p : Program) (m : Machine) (k : Nat) : SUp m.world.drawn (serve p m k) := by
  unfold serve
  simp only
  repeat' split
  all_goals first | exact Nat.le_refl _ | trivial
theorem runTm_up (p : Program) (m : Machine) (i : Nat) (listen : Bool) : SUp m.world.drawn (runT p m i listen).1 := by
  unfold runT
  simp only
  have hg := stepG_up p (i == 0) listen (m.gs.swapAt! i { (default : Goroutine) with status := .finished }).1 m.world
  revert hg
  generalize stepG p (i == 0) (m.gs.swapAt! i { (default : Goroutine) with status := .finished }).1 m.world listen = s
  intro hg
  cases s with
  | ended o w es => trivial
  | comm g cs b sh w es =>
    have hc : m.world.drawn ≤ w.drawn := hg
    have := communicate_up p m.rest (m.gs.swapAt! i { (default : Goroutine) with status := .finished }).2 i g cs b sh w
    revert this
    simp only
    generalize (communicate p m.rest (m.gs.swapAt! i { (default : Goroutine) with status := .finished }).2 i g cs b sh w) = q
    obtain ⟨r, ops⟩ := q
    intro h
    cases r with
    | next m2 => exact Nat.le_trans hc h
    | ended o w => trivial
  | go g w es => exact hg
  | spawn g c w es => exact hg
  | count g w es =>
    simp only
    split
    · trivial
    · exact hg
  | alone g on w es => exact hg
  | collect g w es =>
    have hc : m.world.drawn ≤ w.drawn := hg
    have := look_up p ((m.gs.swapAt! i { (default : Goroutine) with status := .finished }).2.setIfInBounds i g) m.rest w
    simp only
    revert this
    generalize look p ((m.gs.swapAt! i { (default : Goroutine) with status := .finished }).2.setIfInBounds i g) m.rest w = r
    intro h
    cases r with
    | next m2 => exact Nat.le_trans hc h
    | ended o w => trivial
  | watch g w es => exact hg
  | newcoro g c d w es => exact hg
  | coroswitch g c ex w es =>
    have hc : m.world.drawn ≤ w.drawn := hg
    simp only
    split
    · exact hc
    · exact hc
    · trivial
  | timer g op w es =>
    have hc : m.world.drawn ≤ w.drawn := hg
    simp only
    split
    · rename_i e
      have h := timerOp_up e
      exact Nat.le_trans hc (Nat.le_of_eq h.symm)
    · exact hc
    · trivial
    · trivial
def MUp (d : Nat) : Move → Prop
  | .goroutine m _ => d ≤ m.world.drawn
  | .machine s _ => SUp d s
theorem askOn_up (p : Program) (m : Machine) : MUp m.world.drawn (askOn p m) := by
  unfold askOn
  simp only
  repeat' split
  all_goals first
    | trivial
    | exact Nat.le_refl _
    | (have h9 := run_k4 (w := m.world) (by assumption) (by assumption) (by assumption) (by assumption); exact h9)
    | (have h9 := run_k3 (w := m.world) (by assumption) (by assumption) (by assumption); exact h9)
    | (have h9 := run_kk (w := m.world) (by assumption) (by assumption); exact h9)
    | (have h9 := run_k (w := m.world) (by assumption); exact h9)
    | (have h9 := run_k (w := m.world) (by assumption); exact (serve_up _ _ _).le h9)
    | (have h9 := run_k3a (w := m.world) (by assumption) (by assumption) (by assumption) (by exact Nat.le_refl _); exact h9)
    | (have h9 := run_k4a (w := m.world) (by assumption) (by assumption) (by assumption) (by assumption) (by exact Nat.le_refl _); exact h9)
    | trace_state
theorem MUp.le {a b : Nat} {q : Move} (h : MUp b q) (hab : a ≤ b) : MUp a q := by
  cases q with
  | goroutine m i => exact Nat.le_trans hab h
  | machine s ops => exact SUp.le h hab
theorem ask_mup (p : Program) (m : Machine) : MUp m.world.drawn (Go.ask p m) := by
  unfold Go.ask
  repeat' split
  · trivial
  · rename_i e _ _ e2
    have h : SUp _ (Stepped.next _) := e2 ▸ look_up p m.gs m.rest _
    exact (askOn_up _ _).le (Nat.le_trans (run_k e) h)
  · rename_i e _ _
    exact (look_up _ _ _ _).le (run_k e)
  · exact (askOn_up _ _).le (run_k (by assumption))
  · exact askOn_up _ _
theorem move_up (p : Program) (m : Machine) : MUp m.world.drawn (move p m) := by
  unfold move
  repeat' split
  all_goals first
    | trivial
    | exact Nat.le_refl _
    | exact ask_mup _ _
    | trace_state
theorem step_up {p : Program} {m m' : Machine} (h : step p m = .next m') : m.world.drawn ≤ m'.world.drawn := by
  unfold step stepT at h
  have hm := move_up p m
  revert hm h
  generalize move p m = q
  intro h hm
  cases q with
  | goroutine m2 i =>
    have h2 := runTm_up p m2 i true
    simp only at h
    rw [h] at h2
    exact Nat.le_trans hm h2
  | machine s ops =>
    simp only at h
    subst h
    exact hm
theorem runN_up {p : Program} : ∀ {n : Nat} {m m' : Machine}, runN p n m = .next m' → m.world.drawn ≤ m'.world.drawn
  | 0, m, m', h => by cases h; exact Nat.le_refl _
  | n + 1, m, m', h => by
    unfold runN at h
    split at h
    · rename_i e
      exact Nat.le_trans (step_up e) (runN_up h)
    · rename_i hne
      exact absurd h (hne _)
theorem Calls.up {P : Program} {f : FuncId} {args : Array Value} {w : World} {R : Ending → World → Prop} (h : Calls P f args w R) (hr : ∀ e w', R e w' → e ≠ .outgrown) : Calls P f args w fun e w' => R e w' ∧ w.drawn ≤ w'.drawn := by
  intro cs
  obtain ⟨e, w', fr, h1, h2, h3⟩ := h cs
  refine ⟨e, w', fr, ⟨h1, ?_⟩, h2, h3⟩
  cases e with
  | returned v => obtain ⟨n, hn⟩ := h2; exact runN_up hn
  | panicked c => obtain ⟨n, hn⟩ := h2; exact runN_up hn
  | outgrown => exact absurd rfl (hr _ _ h1)
end Go.AX
