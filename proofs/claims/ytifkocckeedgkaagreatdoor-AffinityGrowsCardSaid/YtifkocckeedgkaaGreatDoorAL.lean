/- AffinityGrows: the law's contract. -/
import Derived.Test.YtifkocckeedgkaaGreatDoorAG
import Derived.Test.YtifkocckeedgkaaGreatDoorAK
set_option linter.unusedSimpArgs false
set_option linter.unusedVariables false
namespace Go.AX
open Go Go.Proofs
theorem law_ok (l : List Int) (hl : l.length ≤ 9223372036854775807) : Does Tryz.prog 3 [Ls l] [] (B true) [] := by
  obtain ⟨fo, nr, at_, hfo, h1, h2, hd⟩ := rightForest_any l hl
  exact affinityGrows_at l hl hfo h1 h2 hd
end Go.AX
