/- Contracts: a piece of a pattern: has, turn, add. -/
import Derived.Test.YtcodncddaemhlaaDoorGlobPlain
import Derived.Test.YtcodncddaemhlaaDoorBits1
import Derived.BigRegion
import Derived.Deep.Cut
import Derived.Deep.RegionHeld3
namespace Go.Proofs.YtcodncddaemhlaaDoor
open Go.RowKit

def pcv (an : Bool) (x0 x1 x2 x3 : Nat) : Value := .agg #[.bool an, .int .u64 (x0 : Int), .int .u64 (x1 : Int), .int .u64 (x2 : Int), .int .u64 (x3 : Int)]
theorem box_five (w : World) (a b c d e : Value) (t : TypeId) :
    (w.alloc (.cells #[a, b, c, d, e] t)).cell? ⟨w.heap.size, 0, none⟩ = some a ∧ (w.alloc (.cells #[a, b, c, d, e] t)).cell? ⟨w.heap.size, 1, none⟩ = some b ∧ (w.alloc (.cells #[a, b, c, d, e] t)).cell? ⟨w.heap.size, 2, none⟩ = some c ∧ (w.alloc (.cells #[a, b, c, d, e] t)).cell? ⟨w.heap.size, 3, none⟩ = some d ∧ (w.alloc (.cells #[a, b, c, d, e] t)).cell? ⟨w.heap.size, 4, none⟩ = some e := by
  refine ⟨?_, ?_, ?_, ?_, ?_⟩ <;> (rw [World.cell?_alloc_at _ _ _ _ rfl]; rfl)
theorem bit_raw (x k : Nat) (hx : x < 18446744073709551616) : (bits .and .u64 ((x : Int) / 2 ^ k) 1 == 1) = x.testBit k := by
  have hlt : x / 2 ^ k < 18446744073709551616 := Nat.lt_of_le_of_lt (Nat.div_le_self _ _) hx
  have e := u64_and_nat (x / 2 ^ k) 1 hlt (by decide)
  have e' : bits .and .u64 ((x : Int) / 2 ^ k) 1 = ((x / 2 ^ k &&& 1 : Nat) : Int) := by simpa using e
  rw [e', Nat.and_one_is_mod, Nat.testBit_eq_decide_div_mod_eq]
  clear e e' hlt hx
  rcases (by omega : x / 2 ^ k % 2 = 0 ∨ x / 2 ^ k % 2 = 1) with h | h <;> rw [h] <;> rfl
end Go.Proofs.YtcodncddaemhlaaDoor
