/- Times, plain: the whole part of a time, from its bits. -/
import Derived.Test.YtcjhkfhogcdobaaDoorSpanPlain
namespace Go.Proofs.YtcjhkfhogcdobaaDoor

/-- Is a time's magnitude at most 2^53? -/
def whOk (b : Nat) : Bool := decide (b % 9223372036854775808 ≤ 4845873199050653696)
def whMag (b : Nat) : Nat :=
  if b % 9223372036854775808 / 4503599627370496 < 1023 then 0
  else if b % 9223372036854775808 / 4503599627370496 < 1075 then (4503599627370496 + b % 4503599627370496) / 2 ^ (1075 - b % 9223372036854775808 / 4503599627370496)
  else (4503599627370496 + b % 4503599627370496) * 2 ^ (b % 9223372036854775808 / 4503599627370496 - 1075)
def whN (b : Nat) : Int := if 9223372036854775808 ≤ b then -(whMag b : Int) else (whMag b : Int)

theorem lead : FloatKind.f64.format.leastPlace = -1074 := by decide
theorem ord_le {r : Nat} (hr : r < 9223372036854775808) : (FloatKind.f64.format.order r 4845873199050653696 == some .lt || FloatKind.f64.format.order r 4845873199050653696 == some .eq) = decide (r ≤ 4845873199050653696) := by
  have hmod : r % 9223372036854775808 = r := Nat.mod_eq_of_lt hr
  have hdiv : r / 9223372036854775808 = 0 := Nat.div_eq_of_lt hr
  have e1 : FloatKind.f64.format.signWeight = 9223372036854775808 := rfl
  have e2 : FloatKind.f64.format.binade = 4503599627370496 := rfl
  have e3 : FloatKind.f64.format.infRung = 9218868437227405312 := rfl
  have r0 : FloatKind.f64.format.read 4845873199050653696 = .number false 4503599627370496 1 := by decide
  unfold Ieee.Format.order
  rw [r0]
  unfold Ieee.Format.read
  rw [e1, e2, e3]
  dsimp only
  rw [hmod, hdiv, lead]
  by_cases h1 : r < 4503599627370496
  · rw [if_pos h1, decide_eq_true (by omega)]
    unfold Ieee.Datum.order Ieee.signed
    dsimp only
    have h2 : (((-1074 : Int) - min (-1074) 1).toNat) = 0 := by decide
    have h3 : (((1 : Int) - min (-1074) 1).toNat) = 1075 := by decide
    obtain ⟨K, hK⟩ : ∃ K : Nat, K = 1075 := ⟨_, rfl⟩
    rw [← hK] at h3
    rw [h2, h3]
    clear hK
    have h4 : 4503599627370496 ≤ 4503599627370496 <<< K := by
      rw [Nat.shiftLeft_eq]
      exact Nat.le_mul_of_pos_right _ (Nat.two_pow_pos _)
    generalize 4503599627370496 <<< K = m at *
    have h5 : ((r : Int) < (m : Int)) := by omega
    simp [compare, compareOfLessAndEq, h5]
  · rw [if_neg h1]
    by_cases h2 : r < 9218868437227405312
    · rw [if_pos h2]
      unfold Ieee.Datum.order Ieee.signed
      dsimp only
      have hE : r / 4503599627370496 * 4503599627370496 + r % 4503599627370496 = r := Nat.div_add_mod' r 4503599627370496
      have hF : r % 4503599627370496 < 4503599627370496 := Nat.mod_lt _ (by omega)
      have hE1 : 1 ≤ r / 4503599627370496 := by omega
      generalize r / 4503599627370496 = E at *
      generalize r % 4503599627370496 = F at *
      have hp : (-1074 : Int) + ((E - 1 : Nat) : Int) = (E : Int) - 1075 := by omega
      rw [hp]
      have hb : (if (0 == 1) = true then -(((4503599627370496 : Nat) + F) <<< (((E : Int) - 1075) - min ((E : Int) - 1075) 1).toNat : Nat) else (((4503599627370496 : Nat) + F) <<< (((E : Int) - 1075) - min ((E : Int) - 1075) 1).toNat : Nat) : Int) = ((((4503599627370496 : Nat) + F) <<< (((E : Int) - 1075) - min ((E : Int) - 1075) 1).toNat : Nat) : Int) := rfl
      rw [if_neg (by decide), if_neg (by decide)]
      rcases Nat.lt_trichotomy E 1076 with hc | hc | hc
      · have q1 : (((E : Int) - 1075) - min ((E : Int) - 1075) 1).toNat = 0 := by omega
        have q2 : ((1 : Int) - min ((E : Int) - 1075) 1).toNat = (1075 - E) + 1 := by omega
        rw [q1, q2, decide_eq_true (by omega), Nat.shiftLeft_zero, Nat.shiftLeft_eq, Nat.pow_succ]
        have := Nat.two_pow_pos (1075 - E)
        generalize 2 ^ (1075 - E) = p at *
        have h5 : (((4503599627370496 + F : Nat) : Int) < ((4503599627370496 * (p * 2) : Nat) : Int)) := by omega
        simp only [compare, compareOfLessAndEq, h5, if_true]
        rfl
      · have q1 : (((E : Int) - 1075) - min ((E : Int) - 1075) 1).toNat = 0 := by omega
        have q2 : ((1 : Int) - min ((E : Int) - 1075) 1).toNat = 0 := by omega
        rw [q1, q2, Nat.shiftLeft_zero, Nat.shiftLeft_zero]
        have h5 : ¬ (((4503599627370496 + F : Nat) : Int) < ((4503599627370496 : Nat) : Int)) := by omega
        by_cases hz : F = 0
        · rw [decide_eq_true (by omega)]
          subst hz
          decide
        · rw [decide_eq_false (by omega)]
          have h6 : ¬ (((4503599627370496 + F : Nat) : Int) = ((4503599627370496 : Nat) : Int)) := by omega
          simp only [compare, compareOfLessAndEq, if_neg h5, if_neg h6]
          rfl
      · have q1 : (((E : Int) - 1075) - min ((E : Int) - 1075) 1).toNat = (E - 1077) + 1 := by omega
        have q2 : ((1 : Int) - min ((E : Int) - 1075) 1).toNat = 0 := by omega
        rw [q1, q2, decide_eq_false (by omega), Nat.shiftLeft_zero, Nat.shiftLeft_eq, Nat.pow_succ]
        have hp := Nat.two_pow_pos (E - 1077)
        generalize 2 ^ (E - 1077) = p at *
        have h7 : 4503599627370496 * 2 ≤ (4503599627370496 + F) * (p * 2) := Nat.mul_le_mul (by omega) (by omega)
        generalize (4503599627370496 + F) * (p * 2) = m at *
        have h5 : ¬ ((m : Int) < ((4503599627370496 : Nat) : Int)) := by omega
        have h6 : ¬ ((m : Int) = ((4503599627370496 : Nat) : Int)) := by omega
        simp only [compare, compareOfLessAndEq, if_neg h5, if_neg h6]
        rfl
    · rw [if_neg h2]
      by_cases h5 : r = 9218868437227405312
      · rw [if_pos h5, decide_eq_false (by omega)]
        rfl
      · rw [if_neg h5, decide_eq_false (by omega)]
        rfl
theorem whMag_le {b : Nat} (h : whOk b = true) : whMag b ≤ 9007199254740992 := by
  unfold whOk at h
  rw [decide_eq_true_eq] at h
  unfold whMag
  have hE : b % 9223372036854775808 / 4503599627370496 * 4503599627370496 + b % 9223372036854775808 % 4503599627370496 = b % 9223372036854775808 := Nat.div_add_mod' _ 4503599627370496
  have hm : b % 9223372036854775808 % 4503599627370496 = b % 4503599627370496 := Nat.mod_mod_of_dvd b ⟨2048, by decide⟩
  rw [hm] at hE
  have hF : b % 4503599627370496 < 4503599627370496 := Nat.mod_lt _ (by omega)
  generalize b % 9223372036854775808 / 4503599627370496 = E at *
  generalize b % 4503599627370496 = F at *
  split
  · omega
  · split
    · exact Nat.le_trans (Nat.div_le_self _ _) (by omega)
    · rcases (show E = 1075 ∨ E = 1076 by omega) with h | h <;> subst h
      · simp; omega
      · have : F = 0 := by omega
        subst this
        decide
theorem cut_big {neg : Bool} {n d : Nat} (h : n < 2 ^ d) : Ieee.Toward.zero.cut neg n d = 0 := by
  unfold Ieee.Toward.cut
  dsimp only
  rw [Nat.shiftLeft_eq, Nat.one_mul]
  have h2 : n < 2 ^ (n.log2 + 2) := Nat.lt_of_lt_of_le Nat.lt_log2_self (Nat.pow_le_pow_right (by omega) (by omega))
  have : n < 2 ^ min d (n.log2 + 2) := by
    rcases Nat.le_total d (n.log2 + 2) with hc | hc
    · rw [Nat.min_eq_left hc]; exact h
    · rw [Nat.min_eq_right hc]; exact h2
  rw [Nat.div_eq_of_lt this]
  rfl
theorem cut_far {neg : Bool} {n d e : Nat} (h : n < 2 ^ e) (hd : e ≤ d) : Ieee.Toward.zero.cut neg n d = 0 := cut_big (Nat.lt_of_lt_of_le h (Nat.pow_le_pow_right (by decide) hd))
theorem cut_small {neg : Bool} {n d : Nat} (h : d ≤ n.log2 + 2) : Ieee.Toward.zero.cut neg n d = n / 2 ^ d := by
  unfold Ieee.Toward.cut
  dsimp only
  rw [Nat.shiftLeft_eq, Nat.one_mul, Nat.min_eq_left h]
  rfl
theorem whole_int {b : Nat} (hb : b < 18446744073709551616) (h : whOk b = true) : floatToIntVal .f64 b .i64 = some (whN b) := by
  have hM := whMag_le h
  unfold whOk at h
  rw [decide_eq_true_eq] at h
  have e1 : FloatKind.f64.format.signWeight = 9223372036854775808 := rfl
  have e2 : FloatKind.f64.format.binade = 4503599627370496 := rfl
  have e3 : FloatKind.f64.format.infRung = 9218868437227405312 := rfl
  have key : (FloatKind.f64.decode b).toInt .zero = some (whN b) := by
    unfold FloatKind.decode Ieee.Format.read
    rw [e1, e2, e3]
    dsimp only
    rw [lead]
    have hs : (b / 9223372036854775808 % 2 == 1) = decide (9223372036854775808 ≤ b) := by
      rw [Bool.eq_iff_iff]; simp; omega
    rw [hs]
    have hn : ∀ m : Nat, m = whMag b → Ieee.signed (decide (9223372036854775808 ≤ b)) m 0 = whN b := fun m hm => by
      unfold Ieee.signed whN
      rw [hm, Nat.shiftLeft_zero]
      by_cases hc : 9223372036854775808 ≤ b
      · rw [if_pos hc, if_pos (decide_eq_true hc)]
      · rw [if_neg hc, if_neg (by simp; omega)]
    by_cases h1 : b % 9223372036854775808 < 4503599627370496
    · rw [if_pos h1]
      unfold Ieee.Datum.toInt Ieee.Datum.integral
      dsimp only
      rw [hn]
      have z1 : (-1074 : Int).toNat = 0 := by decide
      have z2 : (-(-1074 : Int)).toNat = 1074 := by decide
      rw [z1, z2, Nat.shiftLeft_zero, cut_far (e := 52) h1 (by decide)]
      unfold whMag
      rw [if_pos (by omega)]
    · rw [if_neg h1, if_pos (by omega)]
      unfold Ieee.Datum.toInt Ieee.Datum.integral
      dsimp only
      rw [hn]
      unfold whMag
      have hE : b % 9223372036854775808 / 4503599627370496 * 4503599627370496 + b % 9223372036854775808 % 4503599627370496 = b % 9223372036854775808 := Nat.div_add_mod' _ 4503599627370496
      have hm : b % 9223372036854775808 % 4503599627370496 = b % 4503599627370496 := Nat.mod_mod_of_dvd b ⟨2048, by decide⟩
      rw [hm] at hE ⊢
      have hF : b % 4503599627370496 < 4503599627370496 := Nat.mod_lt _ (by omega)
      clear hn hM
      generalize b % 9223372036854775808 / 4503599627370496 = E at *
      generalize b % 4503599627370496 = F at *
      have hE1 : 1 ≤ E := by omega
      have hlog : (4503599627370496 + F).log2 = 52 := by
        rw [Nat.log2_eq_iff (by omega)]
        constructor <;> simp <;> omega
      have hp : (-1074 : Int) + ((E - 1 : Nat) : Int) = (E : Int) - 1075 := by omega
      rw [hp]
      by_cases hc : E < 1023
      · rw [if_pos hc]
        have z1 : ((E : Int) - 1075).toNat = 0 := by omega
        have z2 : (-((E : Int) - 1075)).toNat = 1075 - E := by omega
        rw [z1, z2, Nat.shiftLeft_zero]
        exact cut_big (Nat.lt_of_lt_of_le (by omega : _ < 2 ^ 53) (Nat.pow_le_pow_right (by omega) (by omega)))
      · rw [if_neg hc]
        by_cases hd : E < 1075
        · rw [if_pos hd]
          have z1 : ((E : Int) - 1075).toNat = 0 := by omega
          have z2 : (-((E : Int) - 1075)).toNat = 1075 - E := by omega
          rw [z1, z2, Nat.shiftLeft_zero]
          exact cut_small (by rw [hlog]; omega)
        · rw [if_neg hd]
          have z1 : ((E : Int) - 1075).toNat = E - 1075 := by omega
          have z2 : (-((E : Int) - 1075)).toNat = 0 := by omega
          rw [z1, z2, Nat.shiftLeft_eq, cut_small (Nat.zero_le _)]
          simp
  unfold floatToIntVal
  rw [key]
  dsimp only
  have hbd : IntKind.i64.min ≤ whN b ∧ whN b ≤ IntKind.i64.max := by
    have m1 : IntKind.i64.min = -9223372036854775808 := rfl
    have m2 : IntKind.i64.max = 9223372036854775807 := rfl
    rw [m1, m2]
    unfold whN
    split <;> omega
  rw [if_pos hbd]
end Go.Proofs.YtcjhkfhogcdobaaDoor
