/- Contracts: line.Join, line.plain. -/
import Derived.Test.YtbgcbigplegpmaaDoorLn9
namespace Go.Proofs.YtbgcbigplegpmaaDoor
open Go.RowKit

/-- The fault of a text of lines. -/
def lnE (s : List UInt8) : Nat := if 20000 < s.length then 2 else if s.any badB then 3 else 0
def plainL (s : List UInt8) : Bool := if lnE (shownL s) = 0 then (match joinL 0 (linesN (shownL s)) with | [x] => decide (x.2 = s) | _ => false) else false
theorem eq_svL (x y : List UInt8) : ((⟨x.toArray⟩ : ByteArray).toList == (⟨y.toArray⟩ : ByteArray).toList) = decide (x = y) := by
  rw [Lib.toList_data, Lib.toList_data, Bool.eq_iff_iff]; simp
end Go.Proofs.YtbgcbigplegpmaaDoor
