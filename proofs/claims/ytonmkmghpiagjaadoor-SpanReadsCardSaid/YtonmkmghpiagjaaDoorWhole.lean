/- Contracts: math.Abs, span.Whole, the reference's WholePart and Bits. No condition. -/
import Derived.Test.YtonmkmghpiagjaaDoorWholePlain
import Derived.Test.YtonmkmghpiagjaaDoorSpan1
namespace Go.Proofs.YtonmkmghpiagjaaDoor
open Go.RowKit

theorem clear_top (b : Nat) (hb : b < 18446744073709551616) : bits .andNot .u64 (b : Int) 9223372036854775808 = ((b % 9223372036854775808 : Nat) : Int) := by
  have h := u64_andNot_nat b 9223372036854775808 hb (by omega)
  refine (h : _).trans ?_
  have := Nat.and_two_pow_sub_one_eq_mod b 63
  simp at this
  simp only [Nat.reduceSub]
  rw [this]
theorem mAbs_any (x : UInt64) (w : World) :
    Calls Tryd.prog 89 #[fv x] w fun e w' => e = .returned (.float .f64 (x.toNat % 9223372036854775808)) ∧ w = w' := by
  have hx := u64_lt x
  unfold fv
  generalize x.toNat = b at *
  have HC := Lib.hid (clear_top b hx)
  go_enter Tryd.func89, Tryd.ntmps89
  go_wp2_with fail
  go_ret
  exact ⟨by show Ending.returned (.float .f64 (bits .andNot .u64 (b : Int) 9223372036854775808).toNat) = _; rw [HC.out, Int.toNat_natCast], rfl⟩
def whV (x : UInt64) : Int := if whOk x.toNat then whN x.toNat else 0
def whE (x : UInt64) : Int := if whOk x.toNat then 0 else 4
theorem sWhole_any (x : UInt64) (w : World) :
    Calls Tryd.prog 48 #[fv x] w fun e w' => e = .returned (.tuple #[.int .i64 (whV x), .int .i64 (whE x)]) ∧ w = w' := by
  have hx := u64_lt x
  have hO := ord_le (r := x.toNat % 9223372036854775808) (Nat.mod_lt _ (by omega))
  rw [show decide (x.toNat % 9223372036854775808 ≤ 4845873199050653696) = whOk x.toNat from rfl] at hO
  have HA := Lib.hid (mAbs_any x)
  have hi := whole_int hx
  unfold whV whE
  unfold fv at *
  generalize x.toNat = b at *
  generalize b % 9223372036854775808 = r at *
  cases hk : whOk b with
  | false =>
    rw [hk] at hO
    rw [if_neg (by decide), if_neg (by decide)]
    clear hk hi
    go_enter Tryd.func48, Tryd.ntmps48
    go_wp2_with fail
    refine (HA.out _).mono ?_
    rintro e w' ⟨rfl, rfl⟩
    go_wp2_with fail
    go_ret2
    exact ⟨rfl, rfl⟩
  | true =>
    rw [hk] at hO
    rw [if_pos rfl, if_pos rfl]
    have hc : ∀ w, (convert 56 2 (.float .f64 b)).run Tryd.prog w = .ok (.int .i64 (whN b)) w := fun w => run_convert_float_int w 56 2 .f64 .i64 b _ (by rw [Tryd.underlying56]; rfl) Tryd.underlying2 (hi hk)
    clear hk hi
    go_enter Tryd.func48, Tryd.ntmps48
    go_wp2_with fail
    refine (HA.out _).mono ?_
    rintro e w' ⟨rfl, rfl⟩
    go_wp2_with fail
    go_ret2
    exact ⟨rfl, rfl⟩
theorem and_exp (b : Nat) (hb : b < 18446744073709551616) : bits .and .u64 ((b : Int) / 2 ^ 52) 2047 = ((b % 9223372036854775808 / 4503599627370496 : Nat) : Int) := by
  have e0 : ((b : Int) / 2 ^ 52) = ((b / 4503599627370496 : Nat) : Int) := by omega
  have h := u64_and_nat (b / 4503599627370496) 2047 (by omega) (by omega)
  rw [e0]
  refine (h : _).trans ?_
  have := Nat.and_two_pow_sub_one_eq_mod (b / 4503599627370496) 11
  simp at this
  rw [this]
  omega
theorem and_frac (b : Nat) (hb : b < 18446744073709551616) : bits .and .u64 (b : Int) 4503599627370495 = ((b % 4503599627370496 : Nat) : Int) := by
  have h := u64_and_nat b 4503599627370495 hb (by omega)
  refine (h : _).trans ?_
  have := Nat.and_two_pow_sub_one_eq_mod b 52
  simp at this
  rw [this]
theorem or_one (F : Nat) (hF : F < 4503599627370496) : bits .or .i64 (F : Int) 4503599627370496 = ((4503599627370496 + F : Nat) : Int) := by
  show IntKind.i64.wrap ((BitVec.ofInt 64 (F : Int) ||| BitVec.ofInt 64 (4503599627370496 : Int)).toNat : Int) = _
  have e2 : (BitVec.ofInt 64 (4503599627370496 : Int)).toNat = 4503599627370496 := by decide
  rw [BitVec.toNat_or, ofInt_u64 F (by omega), e2]
  have e : F ||| 4503599627370496 = F + 4503599627370496 := by
    have := Nat.two_pow_add_eq_or_of_lt (i := 52) (b := F) (by omega) 1
    rw [Nat.or_comm]
    simp at this
    omega
  rw [e, IntKind.wrap_i64]
  omega
theorem rBits_any (x : UInt64) (w : World) :
    Calls Tryd.prog 54 #[fv x] w fun e w' => e = .returned (.int .u64 (x.toNat : Int)) ∧ w = w' := by
  unfold fv
  go_enter Tryd.func54, Tryd.ntmps54
  go_wp2_with fail
  go_ret
  exact ⟨rfl, rfl⟩
theorem mid_eq {g E : Nat} : (g : Int) / 2 ^ (1075 - E) = ((g / 2 ^ (1075 - E) : Nat) : Int) := by
  push_cast
  rfl
section
variable (b : Nat) (E F : Nat) (fE : bits .and .u64 ((b : Int) / 4503599627370496) 2047 = (E : Int)) (fF : bits .and .u64 (b : Int) 4503599627370495 = (F : Int)) (wE : wrap64 (E : Int) = E) (wF : wrap64 (F : Int) = F)
include fE fF wE wF
theorem rWhole_no (w : World) (G : Int) (fG : bits .or .i64 (F : Int) 4503599627370496 = G) (h1 : 1076 < E) :
    Calls Tryd.prog 49 #[.float .f64 b] w fun e w' => e = .returned (.tuple #[.int .i64 0, .bool false]) ∧ w = w' := by
  have h2 : (1076 : Int) < (E : Int) := by omega
  have d1 : decide ((1076 : Int) < (E : Int)) = true := decide_eq_true h2
  clear h1
  go_enter Tryd.func49, Tryd.ntmps49
  go_wp2_with fail
  all_goals (go_ret2; exact ⟨rfl, rfl⟩)
theorem rWhole_no2 (w : World) (G : Int) (fG : bits .or .i64 (F : Int) 4503599627370496 = G) (h1 : E = 1076) (h2 : G ≠ 4503599627370496) :
    Calls Tryd.prog 49 #[.float .f64 b] w fun e w' => e = .returned (.tuple #[.int .i64 0, .bool false]) ∧ w = w' := by
  subst h1
  have hn : (G != 4503599627370496) = true := by simp [h2]
  go_enter Tryd.func49, Tryd.ntmps49
  go_wp2_with fail
  all_goals (go_ret2; exact ⟨rfl, rfl⟩)
theorem rWhole_low (w : World) (G : Int) (fG : bits .or .i64 (F : Int) 4503599627370496 = G) (h1 : E < 1023) :
    Calls Tryd.prog 49 #[.float .f64 b] w fun e w' => e = .returned (.tuple #[.int .i64 0, .bool true]) ∧ w = w' := by
  have h2 : (E : Int) < 1023 := by omega
  have h3 : ¬ (1076 : Int) < (E : Int) := by omega
  have h4 : ((E : Int) == 1076) = false := by simp; omega
  clear h1
  go_enter Tryd.func49, Tryd.ntmps49
  go_wp2_with fail
  all_goals (go_ret2; exact ⟨rfl, rfl⟩)
theorem rWhole_mid (w : World) (g : Nat) (fG : bits .or .i64 (F : Int) 4503599627370496 = (g : Int)) (hg : g < 9007199254740992) (h1 : 1023 ≤ E) (h2 : E < 1075) (S : Bool) (fS : ((b : Int) / 9223372036854775808 == 1) = S) :
    Calls Tryd.prog 49 #[.float .f64 b] w fun e w' => e = .returned (.tuple #[.int .i64 (if S then -((g / 2 ^ (1075 - E) : Nat) : Int) else ((g / 2 ^ (1075 - E) : Nat) : Int)), .bool true]) ∧ w = w' := by
  have h3 : (E : Int) < 1075 := by omega
  have h4 : ¬ (1076 : Int) < (E : Int) := by omega
  have h5 : ((E : Int) == 1076) = false := by simp; omega
  have h6 : ¬ (E : Int) < 1023 := by omega
  have fM := mid_eq (g := g) (E := E)
  have HB : Hid (g / 2 ^ (1075 - E) < 9007199254740992) := Lib.hid (Nat.lt_of_le_of_lt (Nat.div_le_self _ _) hg)
  generalize hq : g / 2 ^ (1075 - E) = q at *
  have fQ : wrap64 (-(q : Int)) = -(q : Int) := by have := HB.out; unfold wrap64; omega
  clear hq h1 h2
  cases S with
  | true =>
    rw [if_pos rfl]
    go_enter Tryd.func49, Tryd.ntmps49
    go_wp2_with fail
    go_ret2
    exact ⟨rfl, rfl⟩
  | false =>
    rw [if_neg (by decide)]
    go_enter Tryd.func49, Tryd.ntmps49
    go_wp2_with fail
    go_ret2
    exact ⟨rfl, rfl⟩
theorem rWhole_75 (w : World) (g : Nat) (fG : bits .or .i64 (F : Int) 4503599627370496 = (g : Int)) (hg : g < 9007199254740992) (h1 : E = 1075) (S : Bool) (fS : ((b : Int) / 9223372036854775808 == 1) = S) :
    Calls Tryd.prog 49 #[.float .f64 b] w fun e w' => e = .returned (.tuple #[.int .i64 (if S then -(g : Int) else (g : Int)), .bool true]) ∧ w = w' := by
  subst h1
  cases S with
  | true =>
    rw [if_pos rfl]
    go_enter Tryd.func49, Tryd.ntmps49
    go_wp2_with fail
    go_ret2
    exact ⟨rfl, rfl⟩
  | false =>
    rw [if_neg (by decide)]
    go_enter Tryd.func49, Tryd.ntmps49
    go_wp2_with fail
    go_ret2
    exact ⟨rfl, rfl⟩
theorem rWhole_76 (w : World) (fG : bits .or .i64 (F : Int) 4503599627370496 = 4503599627370496) (h1 : E = 1076) (S : Bool) (fS : ((b : Int) / 9223372036854775808 == 1) = S) :
    Calls Tryd.prog 49 #[.float .f64 b] w fun e w' => e = .returned (.tuple #[.int .i64 (if S then -9007199254740992 else 9007199254740992), .bool true]) ∧ w = w' := by
  subst h1
  cases S with
  | true =>
    rw [if_pos rfl]
    go_enter Tryd.func49, Tryd.ntmps49
    go_wp2_with fail
    go_ret2
    exact ⟨rfl, rfl⟩
  | false =>
    rw [if_neg (by decide)]
    go_enter Tryd.func49, Tryd.ntmps49
    go_wp2_with fail
    go_ret2
    exact ⟨rfl, rfl⟩
end
theorem rWhole_any (x : UInt64) (w : World) :
    Calls Tryd.prog 49 #[fv x] w fun e w' => e = .returned (.tuple #[.int .i64 (whV x), .bool (whOk x.toNat)]) ∧ w = w' := by
  have hb := u64_lt x
  unfold whV fv
  generalize x.toNat = b at *
  have fE := and_exp b hb
  have fF := and_frac b hb
  rw [show (2 : Int) ^ 52 = 4503599627370496 from rfl] at fE
  have hsig : ((b : Int) / 9223372036854775808 == 1) = decide (9223372036854775808 ≤ b) := by rw [Bool.eq_iff_iff]; simp; omega
  unfold whOk whN
  obtain ⟨M, hM⟩ : ∃ M, M = whMag b := ⟨_, rfl⟩
  rw [← hM]
  rw [whMag] at hM
  have hr : b % 9223372036854775808 / 4503599627370496 * 4503599627370496 + b % 9223372036854775808 % 4503599627370496 = b % 9223372036854775808 := Nat.div_add_mod' _ 4503599627370496
  have hm : b % 9223372036854775808 % 4503599627370496 = b % 4503599627370496 := Nat.mod_mod_of_dvd b ⟨2048, by decide⟩
  rw [hm] at hr
  have hEl : b % 9223372036854775808 / 4503599627370496 < 2048 := by omega
  have hFl : b % 4503599627370496 < 4503599627370496 := Nat.mod_lt _ (by omega)
  have hle : (decide (b % 9223372036854775808 ≤ 4845873199050653696)) = decide (b % 9223372036854775808 / 4503599627370496 < 1076 ∨ b % 9223372036854775808 / 4503599627370496 = 1076 ∧ b % 4503599627370496 = 0) := by
    rw [decide_eq_decide]; omega
  rw [hle]
  generalize b % 9223372036854775808 / 4503599627370496 = E at *
  generalize b % 4503599627370496 = F at *
  have wE : wrap64 (E : Int) = E := by unfold wrap64; omega
  have wF : wrap64 (F : Int) = F := by unfold wrap64; omega
  have fG := or_one F hFl
  have HM := Lib.hid hM
  clear hM hr hm hle
  by_cases h1 : 1076 < E
  · rw [decide_eq_false (by omega)]
    exact rWhole_no b E F fE fF wE wF w _ fG h1
  by_cases h2 : E = 1076
  · by_cases h3 : F = 0
    · rw [decide_eq_true (by omega), if_pos rfl]
      have hM := HM.out
      rw [if_neg (by omega), if_neg (by omega)] at hM
      subst h3
      subst h2
      have h := rWhole_76 b 1076 0 fE fF wE wF w fG rfl _ hsig
      refine h.mono ?_
      rintro e w' ⟨rfl, rfl⟩
      refine ⟨?_, rfl⟩
      rw [hM]
      by_cases hc : 9223372036854775808 ≤ b
      · rw [decide_eq_true hc, if_pos rfl, if_pos hc]; rfl
      · rw [decide_eq_false hc, if_neg (by decide), if_neg hc]; rfl
    · rw [decide_eq_false (by omega), if_neg (by decide)]
      exact rWhole_no2 b E F fE fF wE wF w _ fG h2 (by omega)
  rw [decide_eq_true (by omega), if_pos rfl]
  by_cases h3 : E < 1023
  · have hM := HM.out
    rw [if_pos h3] at hM
    subst hM
    refine (rWhole_low b E F fE fF wE wF w _ fG h3).mono ?_
    rintro e w' ⟨rfl, rfl⟩
    exact ⟨by by_cases hc : 9223372036854775808 ≤ b <;> simp [hc], rfl⟩
  by_cases h4 : E < 1075
  · have h5 : 4503599627370496 + F < 9007199254740992 := by omega
    have h6 : 1023 ≤ E := by omega
    have hM := HM.out
    rw [if_neg h3, if_pos h4] at hM
    subst hM
    refine (rWhole_mid b E F fE fF wE wF w _ fG h5 h6 h4 _ hsig).mono ?_
    rintro e w' ⟨rfl, rfl⟩
    refine ⟨?_, rfl⟩
    by_cases hc : 9223372036854775808 ≤ b
    · rw [decide_eq_true hc, if_pos rfl, if_pos hc]
    · rw [decide_eq_false hc, if_neg (by decide), if_neg hc]
  · have h5 : 4503599627370496 + F < 9007199254740992 := by omega
    have hE : E = 1075 := by omega
    subst hE
    have hM := HM.out
    rw [if_neg (by decide), if_neg (by decide), Nat.sub_self, Nat.pow_zero, Nat.mul_one] at hM
    subst hM
    refine (rWhole_75 b _ F fE fF wE wF w _ fG h5 rfl _ hsig).mono ?_
    rintro e w' ⟨rfl, rfl⟩
    refine ⟨?_, rfl⟩
    by_cases hc : 9223372036854775808 ≤ b
    · rw [decide_eq_true hc, if_pos rfl, if_pos hc]
    · rw [decide_eq_false hc, if_neg (by decide), if_neg hc]
end Go.Proofs.YtonmkmghpiagjaaDoor
