/- Contracts: the order of times; the reference's. No condition. -/
import Derived.Test.YtcjhkfhogcdobaaDoorRight
namespace Go.Proofs.YtcjhkfhogcdobaaDoor
open Go.RowKit

@[go_sem] theorem run_f64frombits (b : Int) (w : World) : (callFunc 36 #[.int .u64 b]).run Tryd.prog w = .ok (.value (.float .f64 b.toNat)) w := by
  rw [run_callFunc_extern Tryd.func36 (by kernel_rfl) (by kernel_rfl) (by kernel_rfl) (e := Extern.MathFloatBits.float64frombits) (by kernel_rfl)]
  rfl
theorem or_top {b : Nat} (hb : b < 9223372036854775808) : bits .or .u64 (b : Int) 9223372036854775808 = ((b + 9223372036854775808 : Nat) : Int) := by
  have h := u64_or_nat b 9223372036854775808 (by omega) (by omega)
  have e : b ||| 9223372036854775808 = b + 9223372036854775808 := by
    have := Nat.two_pow_add_eq_or_of_lt (i := 63) (b := b) (by omega) 1
    rw [Nat.or_comm]
    simp at this
    omega
  rw [e] at h
  exact h
theorem xor_max {b : Nat} (hb : b < 18446744073709551616) : bits .xor .u64 IntKind.u64.max (b : Int) = ((18446744073709551615 - b : Nat) : Int) := by
  have h := u64_xor_nat 18446744073709551615 b (by omega) hb
  have e : 18446744073709551615 ^^^ b = 18446744073709551615 - b := by
    apply Nat.eq_of_testBit_eq
    intro i
    rw [not_bit hb, Nat.testBit_xor]
    have := Nat.testBit_two_pow_sub_one 64 i
    rw [show (18446744073709551615 : Nat) = 2 ^ 64 - 1 from rfl, this]
    by_cases hi : i < 64
    · cases b.testBit i <;> simp [hi]
    · have hz : b.testBit i = false := B64.ge hb (by omega)
      simp [hi, hz]
  rw [e] at h
  exact h
def cmpN (a b : Nat) : Int := if a < b then -1 else if b < a then 1 else 0
theorem cf_lt {x y : UInt64} (h : keyN x < keyN y) : -1 = cfT x y := by unfold cfT; rw [if_pos h]
theorem cf_gt {x y : UInt64} (h : keyN y < keyN x) : 1 = cfT x y := by unfold cfT; rw [if_neg (by omega), if_pos h]
theorem keyN_lo {x : UInt64} (h : x.toNat < 9223372036854775808) : keyN x = x.toNat + 9223372036854775808 := by unfold keyN; rw [if_pos h]
theorem keyN_hi {x : UInt64} (h : ¬ x.toNat < 9223372036854775808) : keyN x = 18446744073709551615 - x.toNat := by unfold keyN; rw [if_neg h]
theorem hi_is {a : Nat} (h : a < 18446744073709551616) : ((a : Int) / 9223372036854775808 = 0 ∧ a < 9223372036854775808) ∨ ((a : Int) / 9223372036854775808 = 1 ∧ 9223372036854775808 ≤ a) := by omega
end Go.Proofs.YtcjhkfhogcdobaaDoor
