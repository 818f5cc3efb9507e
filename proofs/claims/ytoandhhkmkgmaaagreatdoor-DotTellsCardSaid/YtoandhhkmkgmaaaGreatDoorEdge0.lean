/- Edges in order, plain: the order as a test, the sorted list. -/
import Derived.Test.YtoandhhkmkgmaaaGreatDoorGr1
import Derived.Shelf.SlSortCmp.Insertion
namespace Go.Proofs.YtoandhhkmkgmaaaGreatDoor
open Go.RowKit Go.Sort Go.Lib

theorem ltOf_edge (a b : EdgeT) : ltOf edgeCmp a b = edgeLt a b := by
  have := edgeCmp_lt a b
  unfold ltOf
  rw [Bool.eq_iff_iff]
  rw [Bool.eq_iff_iff] at this
  simp only [decide_eq_true_eq, Bool.not_eq_true'] at this ⊢
  cases h : edgeLt a b with
  | true => rw [h] at this; simp at this; simp; omega
  | false => rw [h] at this; simp at this; simp; omega
def esort (E : List EdgeT) : List EdgeT := E.mergeSort fun x y => !(ltOf edgeCmp) y x
theorem esort_perm (E : List EdgeT) : (esort E).Perm E := List.mergeSort_perm _ _
end Go.Proofs.YtoandhhkmkgmaaaGreatDoor
