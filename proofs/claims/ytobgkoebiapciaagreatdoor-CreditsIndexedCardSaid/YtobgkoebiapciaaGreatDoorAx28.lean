/- AX, part 28: objects of one's own, lent. -/
import Derived.Test.YtobgkoebiapciaaGreatDoorAx27
set_option linter.unusedSimpArgs false
set_option linter.unusedVariables false
namespace Go.AX
open Go
theorem frzL_cons {hv : Nat → Option O} {keep : Nat → Bool} {a a' : V} {as as' : List V} (h : frz hv keep a = a') (hs : frzL hv keep as = as') : frzL hv keep (a :: as) = a' :: as' := by simp only [frzL, h, hs]
theorem frzL_nil {hv : Nat → Option O} {keep : Nat → Bool} : frzL hv keep [] = [] := rfl
theorem Does.lend {P : Program} {f : FuncId} {as bs : List V} {x : V} (hd : Does P f as [] x []) {hv : Nat → Option O} {nid : Nat} (hb : frzL hv (fun _ => false) bs = as) (hr : renL id as = as) (hbel : as.all (V.bel 0) = true) (hx : x.flat = true) : CallStep P hv nid f bs x [] :=
  hd.borrow (hb.trans hr.symm) hbel hx
end Go.AX
