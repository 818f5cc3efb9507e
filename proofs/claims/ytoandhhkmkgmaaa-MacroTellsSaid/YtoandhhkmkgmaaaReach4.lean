/- Contracts: back of package reach, Turned of the reference: rows turned, in new memory. Rows are good; the table of math/bits lies. -/
import Derived.Test.YtoandhhkmkgmaaaReach1
import Derived.Test.YtoandhhkmkgmaaaBits4
import Derived.RegionTactic
import Derived.ChangeAlike
namespace Go.Proofs.Ytoandhhkmkgmaaa
open Go.RowKit

theorem map_range_set {α : Type} (n q : Nat) (f : Nat → α) (v : α) : ((List.range n).map f).set q v = (List.range n).map (fun c => if c = q then v else f c) := by
  apply List.ext_getElem?
  intro i
  rw [List.getElem?_set, List.getElem?_map, List.getElem?_map]
  by_cases hi : i < n
  · have h1 : (List.range n)[i]? = some i := by simp [hi]
    rw [h1]
    by_cases hq : q = i
    · subst hq; simp [hi]
    · have : ¬ i = q := fun e => hq e.symm
      simp [hq, this]
  · have h1 : (List.range n)[i]? = none := by simp; omega
    rw [h1]
    by_cases hq : q = i
    · subst hq; simp; omega
    · simp [hq]
/-- Row i half done: which columns have it already. -/
def colMid (l : List Nat) (i : Nat) (done : List Nat) (c : Nat) : Nat := if c ∈ done then addN (colUp l c i) i else colUp l c i
theorem colMid_end {l : List Nat} (hl : Rows64 l) (i c : Nat) : colMid l i (nums (rowAt l i)) c = colUp l c (i + 1) := by
  unfold colMid
  by_cases h : c ∈ nums (rowAt l i)
  · have := (mem_nums (hl i)).1 h
    rw [if_pos h, colUp, if_pos this]
  · have := fun e => h ((mem_nums (hl i)).2 e)
    rw [if_neg h, colUp, if_neg this]
theorem colMid_step {l : List Nat} {i q : Nat} {done : List Nat} (hq : q ∉ done) (c : Nat) : (if c = q then addN (colUp l q i) i else colMid l i done c) = colMid l i (done ++ [q]) c := by
  unfold colMid
  by_cases h : c = q
  · subst h; simp
  · simp [h]
theorem nums_take_not {s j : Nat} (hj : j < (nums s).length) : (nums s)[j]?.getD 0 ∉ (nums s).take j := by
  have hnd := nums_nodup s
  have hs := take_snoc (nums s) 0 j hj
  have h2 : ((nums s).take (j + 1)).Nodup := hnd.sublist (List.take_sublist _ _)
  rw [hs, List.nodup_append] at h2
  intro hm
  exact h2.2.2 _ hm _ (by simp) rfl
theorem zero_rows (n : Nat) (l : List Nat) : List.replicate n (Value.int .u64 0) = ((List.range n).map fun c => colUp l c 0).map uv := by
  apply List.ext_getElem?
  intro i
  rw [List.getElem?_map, List.getElem?_map, List.getElem?_replicate]
  by_cases hi : i < n
  · simp [hi, colUp, uv]
  · simp [hi]

end Go.Proofs.Ytoandhhkmkgmaaa
