/-
  DERIVED. GIVEN WITH THE SEED: THE CARDS: each row of YtifkocckeedgkaaGreatDoorRows.lean that lists a variable, with what it lists TIED to the program's text (the seventh form; the later family's looks); each row that meets fmt, with fmt's text TOLD by the authors' own Lean function (tested against real Go, not proved from fmt's source: count such statements apart). THE CARD IS WHAT COUNTS. Prove the row's statement (the work); the ties are given (YtifkocckeedgkaaGreatDoorTie.lean); close each card by the builder's one call (the guide's Derived/Test/ToyasCard.lean, 'card_holds'). Laid BY PROGRAM, IN A SANDBOX (cutbox-door.mjs). By AI agents, Wed Nov 11 2026. No macro, syntax, notation, axiom, sorry.
-/
import Derived.Test.YtifkocckeedgkaaGreatDoorRows
import GoSem.ClaimSeven
namespace Go.Proofs.YtifkocckeedgkaaGreatDoor
namespace Rows

/-- THE TIED CARD OF 'committeekeep1.AffinityGrows'. -/
def affinityGrowsCard : Claim7 := { stood := { row := affinityGrowsRow, standIns := [], harness := (true, "dd3b47fa86d1c27be0ed6abcef75f9b8221dae137f3a4849a04f680a3690e331"), looks := false }, kinds := [], alts := [], laidByText := true, laidKinds := [.data, .pinned], laidTests := true, laidLooks := .later }
def AffinityGrowsCardSaid : Prop := Claim7.holds Tryz.pinned (.plain (OpenSpec.ofChange affinityGrowsSpec)) affinityGrowsCard

/-- THE SECOND FORM's CARD OF 'committeekeep1.AffinityGrows'. -/
def affinityGrowsUptoCard : Claim7 := { stood := { row := affinityGrowsUptoRow, standIns := [], harness := (true, "dd3b47fa86d1c27be0ed6abcef75f9b8221dae137f3a4849a04f680a3690e331"), looks := false }, kinds := [], alts := [], laidByText := true, laidKinds := [.data, .pinned], laidTests := true, laidLooks := .later }
def AffinityGrowsUptoCardSaid : Prop := Claim7.holds Tryz.pinned (.plain (OpenSpec.upto affinityGrowsSpec)) affinityGrowsUptoCard
end Rows
end Go.Proofs.YtifkocckeedgkaaGreatDoor
