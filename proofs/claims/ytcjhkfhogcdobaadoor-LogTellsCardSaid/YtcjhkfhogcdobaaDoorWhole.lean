/- Contracts: math.Abs, span.Whole, the reference's WholePart and Bits. No condition. -/
import Derived.Test.YtcjhkfhogcdobaaDoorWholePlain
import Derived.Test.YtcjhkfhogcdobaaDoorSpan1
namespace Go.Proofs.YtcjhkfhogcdobaaDoor
open Go.RowKit

theorem clear_top (b : Nat) (hb : b < 18446744073709551616) : bits .andNot .u64 (b : Int) 9223372036854775808 = ((b % 9223372036854775808 : Nat) : Int) := by
  have h := u64_andNot_nat b 9223372036854775808 hb (by omega)
  refine (h : _).trans ?_
  have := Nat.and_two_pow_sub_one_eq_mod b 63
  simp at this
  simp only [Nat.reduceSub]
  rw [this]
def whV (x : UInt64) : Int := if whOk x.toNat then whN x.toNat else 0
def whE (x : UInt64) : Int := if whOk x.toNat then 0 else 4
theorem and_exp (b : Nat) (hb : b < 18446744073709551616) : bits .and .u64 ((b : Int) / 2 ^ 52) 2047 = ((b % 9223372036854775808 / 4503599627370496 : Nat) : Int) := by
  have e0 : ((b : Int) / 2 ^ 52) = ((b / 4503599627370496 : Nat) : Int) := by omega
  have h := u64_and_nat (b / 4503599627370496) 2047 (by omega) (by omega)
  rw [e0]
  refine (h : _).trans ?_
  have := Nat.and_two_pow_sub_one_eq_mod (b / 4503599627370496) 11
  simp at this
  rw [this]
  omega
theorem and_frac (b : Nat) (hb : b < 18446744073709551616) : bits .and .u64 (b : Int) 4503599627370495 = ((b % 4503599627370496 : Nat) : Int) := by
  have h := u64_and_nat b 4503599627370495 hb (by omega)
  refine (h : _).trans ?_
  have := Nat.and_two_pow_sub_one_eq_mod b 52
  simp at this
  rw [this]
theorem or_one (F : Nat) (hF : F < 4503599627370496) : bits .or .i64 (F : Int) 4503599627370496 = ((4503599627370496 + F : Nat) : Int) := by
  show IntKind.i64.wrap ((BitVec.ofInt 64 (F : Int) ||| BitVec.ofInt 64 (4503599627370496 : Int)).toNat : Int) = _
  have e2 : (BitVec.ofInt 64 (4503599627370496 : Int)).toNat = 4503599627370496 := by decide
  rw [BitVec.toNat_or, ofInt_u64 F (by omega), e2]
  have e : F ||| 4503599627370496 = F + 4503599627370496 := by
    have := Nat.two_pow_add_eq_or_of_lt (i := 52) (b := F) (by omega) 1
    rw [Nat.or_comm]
    simp at this
    omega
  rw [e, IntKind.wrap_i64]
  omega
theorem rBits_any (x : UInt64) (w : World) :
    Calls Tryd.prog 41 #[fv x] w fun e w' => e = .returned (.int .u64 (x.toNat : Int)) ∧ w = w' := by
  unfold fv
  go_enter Tryd.func41, Tryd.ntmps41
  go_wp2_with fail
  go_ret
  exact ⟨rfl, rfl⟩
theorem mid_eq {g E : Nat} : (g : Int) / 2 ^ (1075 - E) = ((g / 2 ^ (1075 - E) : Nat) : Int) := by
  push_cast
  rfl
section
variable (b : Nat) (E F : Nat) (fE : bits .and .u64 ((b : Int) / 4503599627370496) 2047 = (E : Int)) (fF : bits .and .u64 (b : Int) 4503599627370495 = (F : Int)) (wE : wrap64 (E : Int) = E) (wF : wrap64 (F : Int) = F)
include fE fF wE wF
end
end Go.Proofs.YtcjhkfhogcdobaaDoor
