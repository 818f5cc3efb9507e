/- Contract: the reference's aside. -/
import Derived.Test.YtbgcbigplegpmaaDoorLn3
namespace Go.Proofs.YtbgcbigplegpmaaDoor
open Go.RowKit

theorem unesc_take_len (s : List UInt8) (i : Nat) (hl : s.length ≤ 1048576) : (unescL (s.take i)).length ≤ 1048576 := by
  have h := unescL_len _ (s.take i) (Nat.le_refl _)
  rw [List.length_take] at h
  omega
end Go.Proofs.YtbgcbigplegpmaaDoor
