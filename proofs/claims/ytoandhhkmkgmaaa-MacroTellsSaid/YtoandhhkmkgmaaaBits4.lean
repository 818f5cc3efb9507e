/- Contracts: Numbers and List: the numbers of a set, rising, in new memory. Sets are below 2^64; the table of math/bits lies. -/
import Derived.Test.YtoandhhkmkgmaaaBits1
import Derived.Test.YtoandhhkmkgmaaaOwn
namespace Go.Proofs.Ytoandhhkmkgmaaa
open Go.RowKit

theorem elInt : ElT Try.prog 75 3 (.int .i64 0) 8 := ElT.mk' Try.underlying75 (by kernel_rfl) rfl
/-- Numbers as values. -/
def nv (k : Nat) : Value := .int .i64 (k : Int)
/-- A slice in new memory, that reads as xs. -/
def OwnPost (E : TypeId) (n : Nat) (xs : List Value) (w : World) (e : Ending) (w' : World) : Prop :=
  ∃ A c, e = .returned (.slice A n c) ∧ w'.ownsRow w.heap.size E 1 (.slice A n c) n xs ∧ Below w.heap.size w w'

theorem numbers_snoc (s k : Nat) : (List.range (k + 1)).filter (fun i => s.testBit i) = (List.range k).filter (fun i => s.testBit i) ++ if s.testBit k then [k] else [] := by
  rw [List.range_succ, List.filter_append]
  cases h : s.testBit k <;> simp [h]
theorem len_range (s k : Nat) : ((List.range k).filter fun i => s.testBit i).length ≤ k := Nat.le_trans (List.length_filter_le _ _) (by simp)

end Go.Proofs.Ytoandhhkmkgmaaa
