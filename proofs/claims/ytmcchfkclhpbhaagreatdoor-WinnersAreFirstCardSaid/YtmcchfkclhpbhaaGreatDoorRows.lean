/-
  NARROWER THAN 'FOR EVERY INPUT', by the rows' own cells (each row's printed sentence says how): AgreeWholly: laid · MarksStay: laid · PlacesHold: laid · WinnersAreFirst: laid.
  DERIVED. THE GIVEN ROWS OF THIS SEAT. 4 by the template 'for every input the law returns true; each argument reads behind the call as it read before'; 0 by the template 'total and deterministic' (their statements: YtmcchfkclhpbhaaGreatDoorTotals.lean).
  GIVEN WITH THE SEED: the statements are not yours to turn. If you find one false, say at which input.
  Laid BY PROGRAM, IN A SANDBOX (cutbox-rows.mjs): the forced cells as the released guide's own fill.sh prints them over the translation 7d09569cbcb910e2… (all of the seat's roots in one cut). By AI agents, Wed Nov 11 2026. No macro, syntax, notation, axiom, sorry.
-/
import Derived.Test.YtmcchfkclhpbhaaGreatDoorChecked
import GoSem.PinnedTables
import GoSem.Claim
import GoSem.ClaimJoined
import GoSem.ClaimMapViews
import Derived.JoinedTies
import Derived.KernelRfl
namespace Go.Proofs.YtmcchfkclhpbhaaGreatDoor
/- THE CELL 'sum', in the pinned program and in every row, IS THE sha256 OF THE DUMP (.gsa) THAT YtmcchfkclhpbhaaGreatDoorProg.lean LOADS. Nothing in Lean hashes anything: it is a label: what it is worth is what the hold of that sum in a sandbox is worth. -/
noncomputable def Tryz.pinned : Pinned := { name := "ytmcchfkclhpbhaagreatdoor", sum := "7d09569cbcb910e27c7f971aec42b8909c423020013724a4939e77a5eaa58d47", checked := Tryz.checked }
namespace Rows
def none {H : Type} : Left H := { results := [], args := [] }

/- WHAT THE LISTED PACKAGE-LEVEL VARIABLES READ AS WHEN THE CALL BEGINS. Each datum BY PROGRAM (the guide's laid-datum.mjs) off the statement by which the dump's own 'gosem.cut.vars' lays the variable. In a bare row this is a premise. The card (YtmcchfkclhpbhaaGreatDoorCards.lean) ties it to the program's text. -/
def laid_unicode_utf8_acceptRanges {H : Type} : DataW H := .agg [.agg [.lit (.int .u8 128), .lit (.int .u8 191)], .agg [.lit (.int .u8 160), .lit (.int .u8 191)], .agg [.lit (.int .u8 128), .lit (.int .u8 159)], .agg [.lit (.int .u8 144), .lit (.int .u8 191)], .agg [.lit (.int .u8 128), .lit (.int .u8 143)], .agg [.lit (.int .u8 0), .lit (.int .u8 0)], .agg [.lit (.int .u8 0), .lit (.int .u8 0)], .agg [.lit (.int .u8 0), .lit (.int .u8 0)], .agg [.lit (.int .u8 0), .lit (.int .u8 0)], .agg [.lit (.int .u8 0), .lit (.int .u8 0)], .agg [.lit (.int .u8 0), .lit (.int .u8 0)], .agg [.lit (.int .u8 0), .lit (.int .u8 0)], .agg [.lit (.int .u8 0), .lit (.int .u8 0)], .agg [.lit (.int .u8 0), .lit (.int .u8 0)], .agg [.lit (.int .u8 0), .lit (.int .u8 0)], .agg [.lit (.int .u8 0), .lit (.int .u8 0)]]
/-- One of Go's own tables, pinned by name: the form's constant. -/
def laid_unicode_utf8_first : DataW Unit := Go.Pinned.utf8First

/-- 'committeekeep1.AgreeWholly': WHATEVER THE INPUT: true; the input reads as it did. -/
def agreeWhollySpec : ChangeSpec := { name := "agreeWholly", fn := fun _ => fun
  | [d] => { results := [.lit (.bool true)], args := [d] }
  | _ => none }
def agreeWhollyRow : OpenClaim := { program := "ytmcchfkclhpbhaagreatdoor", sum := "7d09569cbcb910e27c7f971aec42b8909c423020013724a4939e77a5eaa58d47", func := "rebuttal/committeekeep1.AgreeWholly", spec := "agreeWholly", inPlace := ["internal/bytealg.IndexByteString", "internal/bytealg.IndexString", "internal/bytealg.abigen_runtime_cmpstring"], unfollowed := true, recurses := true, named := ["unicode/utf8.first", "unicode/utf8.acceptRanges", "internal/bytealg.MaxLen"], apart := false, laid := [("unicode/utf8.acceptRanges", laid_unicode_utf8_acceptRanges), ("unicode/utf8.first", laid_unicode_utf8_first)] }
def AgreeWhollySaid : Prop := agreeWhollyRow.holds Tryz.pinned (OpenSpec.ofChange agreeWhollySpec)

/-- ITS FALSE NEIGHBOUR: 'it returns false'. Refute it at one input. -/
def agreeWhollyWrong : ChangeSpec := { name := "agreeWholly", fn := fun _ => fun
  | [d] => { results := [.lit (.bool false)], args := [d] }
  | _ => none }
def AgreeWhollyWrongFalsely : Prop := agreeWhollyRow.holds Tryz.pinned (OpenSpec.ofChange agreeWhollyWrong)

/-- 'committeekeep1.MarksStay': WHATEVER THE INPUT: true; the input reads as it did. -/
def marksStaySpec : ChangeSpec := { name := "marksStay", fn := fun _ => fun
  | [d] => { results := [.lit (.bool true)], args := [d] }
  | _ => none }
def marksStayRow : OpenClaim := { program := "ytmcchfkclhpbhaagreatdoor", sum := "7d09569cbcb910e27c7f971aec42b8909c423020013724a4939e77a5eaa58d47", func := "rebuttal/committeekeep1.MarksStay", spec := "marksStay", inPlace := ["internal/bytealg.IndexByteString", "internal/bytealg.IndexString", "internal/bytealg.abigen_runtime_cmpstring"], unfollowed := true, recurses := true, named := ["unicode/utf8.first", "unicode/utf8.acceptRanges", "internal/bytealg.MaxLen"], apart := false, laid := [("unicode/utf8.acceptRanges", laid_unicode_utf8_acceptRanges), ("unicode/utf8.first", laid_unicode_utf8_first)] }
def MarksStaySaid : Prop := marksStayRow.holds Tryz.pinned (OpenSpec.ofChange marksStaySpec)

/-- ITS FALSE NEIGHBOUR: 'it returns false'. Refute it at one input. -/
def marksStayWrong : ChangeSpec := { name := "marksStay", fn := fun _ => fun
  | [d] => { results := [.lit (.bool false)], args := [d] }
  | _ => none }
def MarksStayWrongFalsely : Prop := marksStayRow.holds Tryz.pinned (OpenSpec.ofChange marksStayWrong)

/-- 'committeekeep1.PlacesHold': WHATEVER THE INPUT: true; the input reads as it did. -/
def placesHoldSpec : ChangeSpec := { name := "placesHold", fn := fun _ => fun
  | [d] => { results := [.lit (.bool true)], args := [d] }
  | _ => none }
def placesHoldRow : OpenClaim := { program := "ytmcchfkclhpbhaagreatdoor", sum := "7d09569cbcb910e27c7f971aec42b8909c423020013724a4939e77a5eaa58d47", func := "rebuttal/committeekeep1.PlacesHold", spec := "placesHold", inPlace := ["internal/bytealg.IndexByteString", "internal/bytealg.IndexString", "internal/bytealg.abigen_runtime_cmpstring"], unfollowed := true, recurses := true, named := ["unicode/utf8.first", "unicode/utf8.acceptRanges", "internal/bytealg.MaxLen"], apart := false, laid := [("unicode/utf8.acceptRanges", laid_unicode_utf8_acceptRanges), ("unicode/utf8.first", laid_unicode_utf8_first)] }
def PlacesHoldSaid : Prop := placesHoldRow.holds Tryz.pinned (OpenSpec.ofChange placesHoldSpec)

/-- ITS FALSE NEIGHBOUR: 'it returns false'. Refute it at one input. -/
def placesHoldWrong : ChangeSpec := { name := "placesHold", fn := fun _ => fun
  | [d] => { results := [.lit (.bool false)], args := [d] }
  | _ => none }
def PlacesHoldWrongFalsely : Prop := placesHoldRow.holds Tryz.pinned (OpenSpec.ofChange placesHoldWrong)

/-- 'committeekeep1.WinnersAreFirst': WHATEVER THE INPUT: true; the input reads as it did. -/
def winnersAreFirstSpec : ChangeSpec := { name := "winnersAreFirst", fn := fun _ => fun
  | [d] => { results := [.lit (.bool true)], args := [d] }
  | _ => none }
def winnersAreFirstRow : OpenClaim := { program := "ytmcchfkclhpbhaagreatdoor", sum := "7d09569cbcb910e27c7f971aec42b8909c423020013724a4939e77a5eaa58d47", func := "rebuttal/committeekeep1.WinnersAreFirst", spec := "winnersAreFirst", inPlace := ["internal/bytealg.IndexByteString", "internal/bytealg.IndexString", "internal/bytealg.abigen_runtime_cmpstring"], unfollowed := true, recurses := true, named := ["unicode/utf8.first", "unicode/utf8.acceptRanges", "internal/bytealg.MaxLen"], apart := false, laid := [("unicode/utf8.acceptRanges", laid_unicode_utf8_acceptRanges), ("unicode/utf8.first", laid_unicode_utf8_first)] }
def WinnersAreFirstSaid : Prop := winnersAreFirstRow.holds Tryz.pinned (OpenSpec.ofChange winnersAreFirstSpec)

/-- ITS FALSE NEIGHBOUR: 'it returns false'. Refute it at one input. -/
def winnersAreFirstWrong : ChangeSpec := { name := "winnersAreFirst", fn := fun _ => fun
  | [d] => { results := [.lit (.bool false)], args := [d] }
  | _ => none }
def WinnersAreFirstWrongFalsely : Prop := winnersAreFirstRow.holds Tryz.pinned (OpenSpec.ofChange winnersAreFirstWrong)

/- THE SECOND FORM. 'bulk': how many values and letters a reading holds, each counted each time it is reached (what is shared counts as often as it is met; a slice's spare places count too). A statement '..UptoSaid' is the law's where the arguments, and the package variables that the reading takes, are together of bulk at most 1048576: NARROWER than '..Said'. Prove '..Said' where nothing that the law and all that it calls make is longer than what came in: it says more and counts as full. Else prove '..UptoSaid'. A law counts once. -/
mutual
def uptoBulk {H : Type} : DataW H → Nat
  | .lit (.string bytes) => bytes.length + 1
  | .lit _ => 1
  | .nil => 1
  | .ptr d => uptoBulk d + 1
  | .slice elems spare => uptoBulkAll elems + uptoBulkAll spare + 1
  | .agg parts => uptoBulkAll parts + 1
  | .iface _ d => uptoBulk d + 1
  | .map entries => uptoBulkEntries entries + 1
  | .held _ => 1
def uptoBulkAll {H : Type} : List (DataW H) → Nat
  | [] => 0
  | d :: r => uptoBulk d + uptoBulkAll r
def uptoBulkEntries {H : Type} : List (Lit × DataW H) → Nat
  | [] => 0
  | x :: r => uptoBulkEntry x + uptoBulkEntries r
def uptoBulkEntry {H : Type} : Lit × DataW H → Nat
  | (.string bytes, d) => bytes.length + uptoBulk d + 1
  | (_, d) => uptoBulk d + 1
 end
def uptoSmall : (H : Type) → List (DataW H) → Bool := fun _ ds => decide (uptoBulkAll ds ≤ 1048576)
def OpenSpec.upto (s : _root_.Go.ChangeSpec) : _root_.Go.OpenSpec := { _root_.Go.OpenSpec.ofChange s with cond := some uptoSmall }

/-- 'committeekeep1.AgreeWholly', WHERE WHAT IT READS IS OF BULK AT MOST 1048576: true; the input reads as it did. -/
def agreeWhollyUptoRow : OpenClaim := { program := "ytmcchfkclhpbhaagreatdoor", sum := "7d09569cbcb910e27c7f971aec42b8909c423020013724a4939e77a5eaa58d47", func := "rebuttal/committeekeep1.AgreeWholly", spec := "agreeWholly", inPlace := ["internal/bytealg.IndexByteString", "internal/bytealg.IndexString", "internal/bytealg.abigen_runtime_cmpstring"], unfollowed := true, recurses := true, named := ["unicode/utf8.first", "unicode/utf8.acceptRanges", "internal/bytealg.MaxLen"], apart := false, laid := [("unicode/utf8.acceptRanges", laid_unicode_utf8_acceptRanges), ("unicode/utf8.first", laid_unicode_utf8_first)], narrowed := true }
def AgreeWhollyUptoSaid : Prop := agreeWhollyUptoRow.holds Tryz.pinned (OpenSpec.upto agreeWhollySpec)

/-- 'committeekeep1.MarksStay', WHERE WHAT IT READS IS OF BULK AT MOST 1048576: true; the input reads as it did. -/
def marksStayUptoRow : OpenClaim := { program := "ytmcchfkclhpbhaagreatdoor", sum := "7d09569cbcb910e27c7f971aec42b8909c423020013724a4939e77a5eaa58d47", func := "rebuttal/committeekeep1.MarksStay", spec := "marksStay", inPlace := ["internal/bytealg.IndexByteString", "internal/bytealg.IndexString", "internal/bytealg.abigen_runtime_cmpstring"], unfollowed := true, recurses := true, named := ["unicode/utf8.first", "unicode/utf8.acceptRanges", "internal/bytealg.MaxLen"], apart := false, laid := [("unicode/utf8.acceptRanges", laid_unicode_utf8_acceptRanges), ("unicode/utf8.first", laid_unicode_utf8_first)], narrowed := true }
def MarksStayUptoSaid : Prop := marksStayUptoRow.holds Tryz.pinned (OpenSpec.upto marksStaySpec)

/-- 'committeekeep1.PlacesHold', WHERE WHAT IT READS IS OF BULK AT MOST 1048576: true; the input reads as it did. -/
def placesHoldUptoRow : OpenClaim := { program := "ytmcchfkclhpbhaagreatdoor", sum := "7d09569cbcb910e27c7f971aec42b8909c423020013724a4939e77a5eaa58d47", func := "rebuttal/committeekeep1.PlacesHold", spec := "placesHold", inPlace := ["internal/bytealg.IndexByteString", "internal/bytealg.IndexString", "internal/bytealg.abigen_runtime_cmpstring"], unfollowed := true, recurses := true, named := ["unicode/utf8.first", "unicode/utf8.acceptRanges", "internal/bytealg.MaxLen"], apart := false, laid := [("unicode/utf8.acceptRanges", laid_unicode_utf8_acceptRanges), ("unicode/utf8.first", laid_unicode_utf8_first)], narrowed := true }
def PlacesHoldUptoSaid : Prop := placesHoldUptoRow.holds Tryz.pinned (OpenSpec.upto placesHoldSpec)

/-- 'committeekeep1.WinnersAreFirst', WHERE WHAT IT READS IS OF BULK AT MOST 1048576: true; the input reads as it did. -/
def winnersAreFirstUptoRow : OpenClaim := { program := "ytmcchfkclhpbhaagreatdoor", sum := "7d09569cbcb910e27c7f971aec42b8909c423020013724a4939e77a5eaa58d47", func := "rebuttal/committeekeep1.WinnersAreFirst", spec := "winnersAreFirst", inPlace := ["internal/bytealg.IndexByteString", "internal/bytealg.IndexString", "internal/bytealg.abigen_runtime_cmpstring"], unfollowed := true, recurses := true, named := ["unicode/utf8.first", "unicode/utf8.acceptRanges", "internal/bytealg.MaxLen"], apart := false, laid := [("unicode/utf8.acceptRanges", laid_unicode_utf8_acceptRanges), ("unicode/utf8.first", laid_unicode_utf8_first)], narrowed := true }
def WinnersAreFirstUptoSaid : Prop := winnersAreFirstUptoRow.holds Tryz.pinned (OpenSpec.upto winnersAreFirstSpec)

end Rows
end Go.Proofs.YtmcchfkclhpbhaaGreatDoor
