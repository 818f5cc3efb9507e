/- Contracts: the order of times; the reference's. No condition. -/
import Derived.Test.YtonmkmghpiagjaaDoorRight
namespace Go.Proofs.YtonmkmghpiagjaaDoor
open Go.RowKit

@[go_sem] theorem run_f64frombits (b : Int) (w : World) : (callFunc 85 #[.int .u64 b]).run Tryd.prog w = .ok (.value (.float .f64 b.toNat)) w := by
  rw [run_callFunc_extern Tryd.func85 (by kernel_rfl) (by kernel_rfl) (by kernel_rfl) (e := Extern.MathFloatBits.float64frombits) (by kernel_rfl)]
  rfl
theorem or_top {b : Nat} (hb : b < 9223372036854775808) : bits .or .u64 (b : Int) 9223372036854775808 = ((b + 9223372036854775808 : Nat) : Int) := by
  have h := u64_or_nat b 9223372036854775808 (by omega) (by omega)
  have e : b ||| 9223372036854775808 = b + 9223372036854775808 := by
    have := Nat.two_pow_add_eq_or_of_lt (i := 63) (b := b) (by omega) 1
    rw [Nat.or_comm]
    simp at this
    omega
  rw [e] at h
  exact h
theorem xor_max {b : Nat} (hb : b < 18446744073709551616) : bits .xor .u64 IntKind.u64.max (b : Int) = ((18446744073709551615 - b : Nat) : Int) := by
  have h := u64_xor_nat 18446744073709551615 b (by omega) hb
  have e : 18446744073709551615 ^^^ b = 18446744073709551615 - b := by
    apply Nat.eq_of_testBit_eq
    intro i
    rw [not_bit hb, Nat.testBit_xor]
    have := Nat.testBit_two_pow_sub_one 64 i
    rw [show (18446744073709551615 : Nat) = 2 ^ 64 - 1 from rfl, this]
    by_cases hi : i < 64
    · cases b.testBit i <;> simp [hi]
    · have hz : b.testBit i = false := B64.ge hb (by omega)
      simp [hi, hz]
  rw [e] at h
  exact h
theorem key_any (x : UInt64) (w : World) :
    Calls Tryd.prog 141 #[fv x] w fun e w' => e = .returned (.int .u64 (keyN x : Nat)) ∧ w = w' := by
  have hx := u64_lt x
  by_cases hb : x.toNat < 9223372036854775808
  · have HK : Hid (bits .or .u64 (x.toNat : Int) 9223372036854775808 = (keyN x : Nat)) := Lib.hid (by rw [or_top hb]; unfold keyN; rw [if_pos hb])
    have h1 : ((x.toNat : Int) / 9223372036854775808 == 1) = false := by simp; omega
    clear hb hx
    unfold fv
    go_enter Tryd.func141, Tryd.ntmps141
    go_wp2_with fail
    go_ret
    exact ⟨ret_int HK.out, rfl⟩
  · have HK : Hid (bits .xor .u64 IntKind.u64.max (x.toNat : Int) = (keyN x : Nat)) := Lib.hid (by rw [xor_max hx]; unfold keyN; rw [if_neg hb])
    have h1 : ((x.toNat : Int) / 9223372036854775808 == 1) = true := by simp; omega
    have h2 : IntKind.u64.signed = false := rfl
    clear hb hx
    unfold fv
    go_enter Tryd.func141, Tryd.ntmps141
    go_wp2_with fail
    go_ret
    exact ⟨ret_int HK.out, rfl⟩
def cmpN (a b : Nat) : Int := if a < b then -1 else if b < a then 1 else 0
theorem compare_any (a b : Nat) (w : World) :
    Calls Tryd.prog 140 #[.int .u64 (a : Int), .int .u64 (b : Int)] w fun e w' => e = .returned (.int .i64 (cmpN a b)) ∧ w = w' := by
  have n1 : ((a : Int) != (a : Int)) = false := by simp
  have n2 : ((b : Int) != (b : Int)) = false := by simp
  rcases Nat.lt_trichotomy a b with h | h | h
  · have HC : Hid (-1 = cmpN a b) := Lib.hid (by unfold cmpN; rw [if_pos h])
    go_enter Tryd.func140, Tryd.ntmps140
    go_wp2
    go_ret
    exact ⟨ret_int HC.out, rfl⟩
  · subst h
    have HC : Hid (0 = cmpN a a) := Lib.hid (by unfold cmpN; simp)
    go_enter Tryd.func140, Tryd.ntmps140
    go_wp2
    go_ret
    exact ⟨ret_int HC.out, rfl⟩
  · have HC : Hid (1 = cmpN a b) := Lib.hid (by unfold cmpN; rw [if_neg (by omega), if_pos h])
    go_enter Tryd.func140, Tryd.ntmps140
    go_wp2
    go_ret
    exact ⟨ret_int HC.out, rfl⟩
theorem tOrder_any (x y : UInt64) (w : World) :
    Calls Tryd.prog 113 #[fv x, fv y] w fun e w' => e = .returned (.int .i64 (cfT x y)) ∧ w = w' := by
  have HC : Hid (cmpN (keyN x) (keyN y) = cfT x y) := Lib.hid rfl
  have K1 := Lib.hid (key_any x)
  have K2 := Lib.hid (key_any y)
  unfold fv at K1 K2 ⊢
  go_enter Tryd.func113, Tryd.ntmps113
  go_wp2_with fail
  refine (K1.out _).mono ?_
  rintro e w' ⟨rfl, rfl⟩
  go_wp2_with fail
  refine (K2.out _).mono ?_
  rintro e w' ⟨rfl, rfl⟩
  go_wp2_with fail
  refine (compare_any _ _ _).mono ?_
  rintro e w' ⟨rfl, rfl⟩
  rw [HC.out]
  go_wp2_with fail
  go_ret
  exact ⟨rfl, rfl⟩
theorem cf_lt {x y : UInt64} (h : keyN x < keyN y) : -1 = cfT x y := by unfold cfT; rw [if_pos h]
theorem cf_gt {x y : UInt64} (h : keyN y < keyN x) : 1 = cfT x y := by unfold cfT; rw [if_neg (by omega), if_pos h]
theorem keyN_lo {x : UInt64} (h : x.toNat < 9223372036854775808) : keyN x = x.toNat + 9223372036854775808 := by unfold keyN; rw [if_pos h]
theorem keyN_hi {x : UInt64} (h : ¬ x.toNat < 9223372036854775808) : keyN x = 18446744073709551615 - x.toNat := by unfold keyN; rw [if_neg h]
theorem hi_is {a : Nat} (h : a < 18446744073709551616) : ((a : Int) / 9223372036854775808 = 0 ∧ a < 9223372036854775808) ∨ ((a : Int) / 9223372036854775808 = 1 ∧ 9223372036854775808 ≤ a) := by omega
theorem rTimeOrder_any (x y : UInt64) (w : World) :
    Calls Tryd.prog 84 #[fv x, fv y] w fun e w' => e = .returned (.int .i64 (cfT x y)) ∧ w = w' := by
  have hx := u64_lt x
  have hy := u64_lt y
  by_cases he : x.toNat = y.toNat
  · have HC : Hid (0 = cfT x y) := Lib.hid (by unfold cfT keyN; rw [he]; simp)
    have h1 : ((x.toNat : Int) == (y.toNat : Int)) = true := by simp [he]
    clear he hx hy
    unfold fv
    go_enter Tryd.func84, Tryd.ntmps84
    go_wp2_with fail
    go_ret
    exact ⟨ret_int HC.out, rfl⟩
  · have h1 : ((x.toNat : Int) == (y.toNat : Int)) = false := by simp; omega
    by_cases hs : ((x.toNat : Int) / 9223372036854775808 != (y.toNat : Int) / 9223372036854775808) = true
    · by_cases h3 : ((x.toNat : Int) / 9223372036854775808 == 1) = true
      · have HC : Hid (-1 = cfT x y) := Lib.hid (by
          simp at hs h3
          exact cf_lt (by rw [keyN_hi (by omega), keyN_lo (x := y) (by omega)]; omega))
        clear he hx hy
        unfold fv
        go_enter Tryd.func84, Tryd.ntmps84
        go_wp2_with fail
        go_ret
        exact ⟨ret_int HC.out, rfl⟩
      · rw [Bool.not_eq_true] at h3
        have HC : Hid (1 = cfT x y) := Lib.hid (by
          simp at hs h3
          exact cf_gt (by rw [keyN_lo (x := x) (by omega), keyN_hi (x := y) (by omega)]; omega))
        clear he hx hy
        unfold fv
        go_enter Tryd.func84, Tryd.ntmps84
        go_wp2_with fail
        go_ret
        exact ⟨ret_int HC.out, rfl⟩
    · rw [Bool.not_eq_true] at hs
      by_cases h3 : (decide ((x.toNat : Int) < (y.toNat : Int)) == ((x.toNat : Int) / 9223372036854775808 == 0)) = true
      · have HC : Hid (-1 = cfT x y) := Lib.hid (by
          rw [beq_iff_eq, Bool.eq_iff_iff] at h3
          simp at hs h3
          rcases hi_is hx with ⟨a1, a2⟩ | ⟨a1, a2⟩
          · exact cf_lt (by rw [keyN_lo a2, keyN_lo (x := y) (by omega)]; omega)
          · exact cf_lt (by rw [keyN_hi (x := x) (by omega), keyN_hi (x := y) (by omega)]; omega))
        have h4 : (decide ((x.toNat : Nat) < y.toNat) == ((x.toNat : Int) / 9223372036854775808 == 0)) = true := by
          rw [← h3]; congr 2; simp
        clear he hx hy
        unfold fv
        go_enter Tryd.func84, Tryd.ntmps84
        go_wp2_with fail
        go_ret
        exact ⟨ret_int HC.out, rfl⟩
      · rw [Bool.not_eq_true] at h3
        have HC : Hid (1 = cfT x y) := Lib.hid (by
          rw [beq_eq_false_iff_ne, ne_eq, Bool.eq_iff_iff] at h3
          simp at hs h3
          rcases hi_is hx with ⟨a1, a2⟩ | ⟨a1, a2⟩
          · exact cf_gt (by rw [keyN_lo a2, keyN_lo (x := y) (by omega)]; omega)
          · exact cf_gt (by rw [keyN_hi (x := x) (by omega), keyN_hi (x := y) (by omega)]; omega))
        have h4 : (decide ((x.toNat : Nat) < y.toNat) == ((x.toNat : Int) / 9223372036854775808 == 0)) = false := by
          rw [← h3]; congr 2; simp
        clear he hx hy
        unfold fv
        go_enter Tryd.func84, Tryd.ntmps84
        go_wp2_with fail
        go_ret
        exact ⟨ret_int HC.out, rfl⟩
end Go.Proofs.YtonmkmghpiagjaaDoor
