/- Sets of numbers below 64 as natural numbers, plain: no program. Each lemma says its own conditions. -/
import Derived.Lib.TrailingZeros
import Derived.Lib.BitFns
import Derived.Laws.BitsAllLaws
namespace Go.Proofs.Ytoandhhkmkgmaaa

/-- The numbers of a set, rising. -/
def nums (s : Nat) : List Nat := (List.range 64).filter fun i => s.testBit i
def B64 (s : Nat) : Prop := s < 18446744073709551616
theorem B64.pow {s : Nat} (h : B64 s) : s < 2 ^ 64 := h
theorem B64.of {s : Nat} (h : s < 2 ^ 64) : B64 s := h
theorem B64.zero : B64 0 := by unfold B64; omega
theorem B64.bit {s i : Nat} (h : B64 s) (hi : s.testBit i = true) : i < 64 := by
  rcases Nat.lt_or_ge i 64 with h' | h'
  · exact h'
  · rw [Nat.testBit_lt_two_pow (Nat.lt_of_lt_of_le h.pow (Nat.pow_le_pow_right (by decide) h'))] at hi; cases hi
theorem B64.ge {s i : Nat} (h : B64 s) (hi : 64 ≤ i) : s.testBit i = false :=
  Nat.testBit_lt_two_pow (Nat.lt_of_lt_of_le h.pow (Nat.pow_le_pow_right (by decide) hi))
theorem B64.of_bits {s : Nat} (h : ∀ i, s.testBit i = true → i < 64) : B64 s := by
  apply B64.of
  apply Nat.lt_pow_two_of_testBit
  intro i hi
  cases hb : s.testBit i with
  | false => rfl
  | true => have := h i hb; omega
theorem B64.and {s t : Nat} (h : B64 s) : B64 (s &&& t) := B64.of (by rw [Nat.and_comm]; exact Nat.and_lt_two_pow _ h.pow)
theorem B64.and' {s t : Nat} (h : B64 t) : B64 (s &&& t) := B64.of (Nat.and_lt_two_pow _ h.pow)
theorem B64.or {s t : Nat} (h : B64 s) (k : B64 t) : B64 (s ||| t) := B64.of (Nat.or_lt_two_pow h.pow k.pow)
theorem B64.xor {s t : Nat} (h : B64 s) (k : B64 t) : B64 (s ^^^ t) := B64.of (Nat.xor_lt_two_pow h.pow k.pow)
theorem B64.two {n : Nat} (h : n < 64) : B64 (2 ^ n) := B64.of (Nat.pow_lt_pow_right (by decide) h)

/-- All numbers below n. -/
def upTo (n : Nat) : Nat := 2 ^ n - 1
theorem upTo_bit (n i : Nat) : (upTo n).testBit i = decide (i < n) := Nat.testBit_two_pow_sub_one n i
theorem upTo_b64 {n : Nat} (h : n ≤ 64) : B64 (upTo n) := B64.of_bits fun i hi => by
  rw [upTo_bit] at hi; simp at hi; omega
/-- s without t, both below 2^64. -/
def minus (s t : Nat) : Nat := s &&& (18446744073709551615 - t)
theorem not_bit {t : Nat} (h : B64 t) (i : Nat) : (18446744073709551615 - t).testBit i = (decide (i < 64) && !t.testBit i) := by
  have := Nat.testBit_two_pow_sub_succ (n := 64) (x := t) h.pow i
  rw [← this]
  congr 1
  omega
theorem minus_bit {s t : Nat} (hs : B64 s) (ht : B64 t) (i : Nat) : (minus s t).testBit i = (s.testBit i && !t.testBit i) := by
  unfold minus
  rw [Nat.testBit_and, not_bit ht]
  cases hb : s.testBit i with
  | false => rfl
  | true => simp [hs.bit hb]
theorem minus_b64 {s t : Nat} (hs : B64 s) : B64 (minus s t) := B64.and hs

theorem mem_nums {s i : Nat} (h : B64 s) : i ∈ nums s ↔ s.testBit i = true := by
  unfold nums
  rw [List.mem_filter, List.mem_range]
  exact ⟨fun h' => h'.2, fun h' => ⟨h.bit h', h'⟩⟩
theorem nums_lt {s i : Nat} (h : i ∈ nums s) : i < 64 := by
  unfold nums at h
  rw [List.mem_filter, List.mem_range] at h
  exact h.1
theorem nums_zero : nums 0 = [] := by
  unfold nums
  simp
theorem nums_sorted (s : Nat) : (nums s).Pairwise (· < ·) := List.Pairwise.filter _ List.pairwise_lt_range
theorem nums_nodup (s : Nat) : (nums s).Nodup := (nums_sorted s).imp (fun h => Nat.ne_of_lt h)
theorem nums_len (s : Nat) : (nums s).length ≤ 64 := by
  unfold nums
  exact Nat.le_trans (List.length_filter_le _ _) (by simp)

/-- The least number of a set that has some. -/
def low (s : Nat) : Nat := Lib.ctz 64 s
theorem low_form {s : Nat} (h : B64 s) (h0 : s ≠ 0) : ∃ m, s = 2 ^ low s * (2 * m + 1) ∧ low s < 64 := by
  unfold low Lib.ctz
  rw [if_neg h0]
  exact Lib.ctzFrom_spec 64 s (by omega) h.pow
theorem odd_bit (k m i : Nat) : (2 ^ k * (2 * m + 1)).testBit i = (decide (i = k) || (decide (k < i) && m.testBit (i - k - 1))) := by
  rw [Nat.testBit_two_pow_mul]
  by_cases h : k ≤ i
  · obtain ⟨j, rfl⟩ : ∃ j, i = k + j := ⟨i - k, by omega⟩
    cases j with
    | zero => simp
    | succ j =>
      have e1 : k + (j + 1) - k = j + 1 := by omega
      have e2 : k + (j + 1) - k - 1 = j := by omega
      rw [e1, Nat.testBit_add_one]
      have : (2 * m + 1) / 2 = m := by omega
      rw [this]
      simp
  · simp [h]
    exact ⟨by omega, fun h' => absurd h' (by omega)⟩
theorem low_bit {s : Nat} (h : B64 s) (h0 : s ≠ 0) : s.testBit (low s) = true := by
  obtain ⟨m, hm, _⟩ := low_form h h0
  generalize low s = k at *
  rw [hm, odd_bit]
  simp
theorem low_lt {s : Nat} (h : B64 s) (h0 : s ≠ 0) : low s < 64 := by
  obtain ⟨_, _, hk⟩ := low_form h h0
  exact hk
theorem low_le {s i : Nat} (h : B64 s) (hi : s.testBit i = true) : low s ≤ i := by
  have h0 : s ≠ 0 := by rintro rfl; simp at hi
  obtain ⟨m, hm, _⟩ := low_form h h0
  generalize low s = k at *
  rw [hm, odd_bit] at hi
  simp at hi
  omega
/-- s without its least number. -/
def drop1 (s : Nat) : Nat := s &&& (s - 1)
theorem drop1_b64 {s : Nat} (h : B64 s) : B64 (drop1 s) := h.and
theorem drop1_bit {s : Nat} (h : B64 s) (h0 : s ≠ 0) (i : Nat) : (drop1 s).testBit i = (s.testBit i && decide (i ≠ low s)) := by
  obtain ⟨m, hm, _⟩ := low_form h h0
  unfold drop1
  generalize low s = k at *
  rw [Nat.testBit_and]
  have e : s - 1 = 2 ^ k * (2 * m) + (2 ^ k - 1) := by
    have hp : 0 < 2 ^ k := Nat.pow_pos (by decide)
    rw [hm, Nat.mul_add, Nat.mul_one]
    omega
  have hb : (s - 1).testBit i = if i < k then true else (m.testBit (i - k - 1) && decide (k < i)) := by
    rw [e, Nat.testBit_two_pow_mul_add _ (by have hp : 0 < 2 ^ k := Nat.pow_pos (by decide); omega)]
    split
    · rename_i h'
      rw [Nat.testBit_two_pow_sub_one]
      simp [h']
    · rename_i h'
      obtain ⟨j, rfl⟩ : ∃ j, i = k + j := ⟨i - k, by omega⟩
      cases j with
      | zero => simp
      | succ j =>
        have e1 : k + (j + 1) - k = j + 1 := by omega
        rw [e1, Nat.testBit_add_one]
        simp
  rw [hb, hm, odd_bit]
  by_cases h1 : i < k
  · have : ¬ i = k := by omega
    simp [h1, this]
  · by_cases h2 : i = k
    · subst h2; simp
    · have : k < i := by omega
      simp [h1, h2, this]
theorem nums_step {s : Nat} (h : B64 s) (h0 : s ≠ 0) : nums s = low s :: nums (drop1 s) := by
  obtain ⟨m, hm, hk⟩ := low_form h h0
  have h1 : ∀ i, s.testBit i = true → low s ≤ i := fun i => low_le h
  have h2 := low_bit h h0
  have h3 := drop1_bit h h0
  generalize low s = k at *
  unfold nums
  have hr : List.range 64 = List.range k ++ k :: (List.range (64 - k - 1)).map (· + (k + 1)) := by
    have e : 64 = k + (1 + (64 - k - 1)) := by omega
    rw [e, List.range_add, List.range_add]
    simp
    intro a _
    omega
  have hlo : ∀ (p : Nat → Bool), (∀ i, i < k → p i = false) → (List.range k).filter p = [] := fun p hp => by
    rw [List.filter_eq_nil_iff]
    intro a ha
    rw [hp a (List.mem_range.1 ha)]
    simp
  rw [hr, List.filter_append, List.filter_append, List.filter_cons, List.filter_cons, hlo _ (fun i hi => by
    cases hb : s.testBit i with
    | false => rfl
    | true => have := h1 i hb; omega), hlo _ (fun i hi => by
    rw [h3]
    cases hb : s.testBit i with
    | false => rfl
    | true => have := h1 i hb; omega), h2, h3]
  simp only [if_true, ne_eq, not_true_eq_false, decide_false, Bool.and_false, List.nil_append, if_false, Bool.false_eq_true]
  congr 1
  apply List.filter_congr
  intro a ha
  obtain ⟨j, _, rfl⟩ := List.mem_map.1 ha
  rw [h3]
  have : ¬ j + (k + 1) = k := by omega
  simp [this]
theorem nums_ne {s : Nat} (h : B64 s) (h0 : s ≠ 0) : nums s ≠ [] := by rw [nums_step h h0]; simp
theorem set_ext {s t : Nat} (h : ∀ i, s.testBit i = t.testBit i) : s = t := Nat.eq_of_testBit_eq h
/-- A sum without a carry. -/
theorem add_or (x y : Nat) (h : x &&& y = 0) : x + y = x ||| y := by
  have hw : x + y < 2 ^ (x + y) := Nat.lt_two_pow_self
  have hx : x < 2 ^ (x + y) := by omega
  have hy : y < 2 ^ (x + y) := by omega
  have ho : x ||| y < 2 ^ (x + y) := Nat.or_lt_two_pow hx hy
  have hb := BitVec.add_eq_or_of_and_eq_zero (BitVec.ofNat (x + y) x) (BitVec.ofNat (x + y) y) (by
    apply BitVec.eq_of_toNat_eq
    rw [BitVec.toNat_and, BitVec.toNat_ofNat, BitVec.toNat_ofNat, Nat.mod_eq_of_lt hx, Nat.mod_eq_of_lt hy, h]
    simp)
  have ht := congrArg BitVec.toNat hb
  rw [BitVec.toNat_add, BitVec.toNat_or, BitVec.toNat_ofNat, BitVec.toNat_ofNat, Nat.mod_eq_of_lt hx, Nat.mod_eq_of_lt hy, Nat.mod_eq_of_lt hw] at ht
  exact ht
end Go.Proofs.Ytoandhhkmkgmaaa
