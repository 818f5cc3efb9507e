/- slices.Equal at uint64: it tells whether two lists are equal. The lists are shorter than 2^63. -/
import Derived.Test.YtoandhhkmkgmaaaGreatDoorRows
import Derived.Test.YtoandhhkmkgmaaaGreatDoorBase
import Derived.WalkKit
import Derived.WalkSpells
import Derived.WalkLawsBesides
import Derived.Outline
import Derived.BigQuiet
import Derived.Deep.QuietTactic
import Derived.Lib.Hide
namespace Go.Proofs.YtoandhhkmkgmaaaGreatDoor
open Go.RowKit

theorem eq_of_getD_u {xs ys : List Int} (hl : xs.length = ys.length) (h : ∀ j, j < xs.length → xs[j]?.getD 0 = ys[j]?.getD 0) : xs = ys := by
  apply List.ext_getElem hl
  intro i h1 h2
  have := h i h1
  simpa [h1, h2] using this

end Go.Proofs.YtoandhhkmkgmaaaGreatDoor
