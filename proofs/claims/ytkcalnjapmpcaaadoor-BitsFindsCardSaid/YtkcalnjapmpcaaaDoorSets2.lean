/- Plain: the parity of a set's lower part; the next greater set within one. -/
import Derived.Test.YtkcalnjapmpcaaaDoorBits2
namespace Go.Proofs.YtkcalnjapmpcaaaDoor

/-! ### Even -/
/-- An odd number of numbers not above i? -/
def par (s : Nat) : Nat → Bool
  | 0 => s.testBit 0
  | i + 1 => (par s i).xor (s.testBit (i + 1))
def evenUp (s : Nat) : Nat → Nat
  | 0 => 0
  | k + 1 => if par s k then addN (evenUp s k) k else evenUp s k
def evenS (s : Nat) : Nat := evenUp s 64
theorem evenUp_bit (s k i : Nat) : (evenUp s k).testBit i = (decide (i < k) && par s i) := by
  induction k with
  | zero => simp [evenUp]
  | succ k ih =>
    unfold evenUp
    split
    · rename_i h
      unfold addN
      rw [or_bit, ih]
      by_cases hi : k = i
      · subst hi; simp [h]
      · have : (i < k + 1) = (i < k) := by apply propext; omega
        simp [hi, this]
    · rename_i h
      rw [ih]
      by_cases hi : i = k
      · subst hi
        have : par s i = false := by simpa using h
        simp [this]
      · have : (i < k + 1) = (i < k) := by apply propext; omega
        simp [this]
theorem evenUp_b64 (s k : Nat) (hk : k ≤ 64) : B64 (evenUp s k) := B64.of_bits fun i hi => by
  rw [evenUp_bit] at hi; simp at hi; omega
/-- The numbers of the m places up to i, counted by twos. -/
def win (s : Nat) : Nat → Nat → Bool
  | 0, _ => false
  | m + 1, i => (win s m i).xor (decide (m ≤ i) && s.testBit (i - m))
theorem win_add (s m k i : Nat) : win s (m + k) i = (win s m i).xor (decide (m ≤ i) && win s k (i - m)) := by
  induction k with
  | zero => simp [win]
  | succ k ih =>
    rw [← Nat.add_assoc]
    simp only [win]
    rw [ih]
    by_cases h1 : m ≤ i
    · have e : (decide (m + k ≤ i)) = (decide (k ≤ i - m)) := by rw [Bool.eq_iff_iff]; simp; omega
      have e2 : i - (m + k) = i - m - k := by omega
      rw [e, e2]
      simp [h1]
    · have h2 : ¬ m + k ≤ i := by omega
      simp [h1, h2]
theorem win_par (s i : Nat) : ∀ m, i < m → win s m i = par s i := by
  have base : ∀ i, win s (i + 1) i = par s i := by
    intro i
    induction i with
    | zero => simp [win, par]
    | succ i ih =>
      rw [show i + 1 + 1 = 1 + (i + 1) from by omega, win_add]
      have : i + 1 - 1 = i := by omega
      rw [this, ih]
      simp [win, par]
      rw [Bool.xor_comm]
  intro m hm
  obtain ⟨k, rfl⟩ : ∃ k, m = (i + 1) + k := ⟨m - (i + 1), by omega⟩
  rw [win_add, base]
  have : ¬ i + 1 ≤ i := by omega
  simp [this]
def evenStep (k s : Nat) : Nat := s ^^^ (s * 2 ^ k % 18446744073709551616)
theorem evenStep_b64 {k s : Nat} (h : B64 s) : B64 (evenStep k s) := h.xor (Nat.mod_lt _ (by decide))
theorem evenStep_bit (k s i : Nat) (hi : i < 64) : (evenStep k s).testBit i = (s.testBit i).xor (decide (k ≤ i) && s.testBit (i - k)) := by
  unfold evenStep
  rw [Nat.testBit_xor, show (18446744073709551616 : Nat) = 2 ^ 64 from rfl, Nat.testBit_mod_two_pow, Nat.mul_comm, Nat.testBit_two_pow_mul]
  simp [hi]
def evenAll (s : Nat) : Nat := evenStep 32 (evenStep 16 (evenStep 8 (evenStep 4 (evenStep 2 (evenStep 1 s)))))
theorem evenStep_win (s x k : Nat) (h : ∀ i, i < 64 → x.testBit i = win s k i) : ∀ i, i < 64 → (evenStep k x).testBit i = win s (k + k) i := by
  intro i hi
  rw [evenStep_bit k x i hi, win_add, h i hi]
  by_cases hk : k ≤ i
  · rw [h (i - k) (by omega)]
  · simp [hk]
theorem evenAll_eq (s : Nat) (h : B64 s) : evenAll s = evenS s := by
  have h0 : ∀ i, i < 64 → s.testBit i = win s 1 i := fun i _ => by simp [win]
  have h6 := evenStep_win s _ 32 (evenStep_win s _ 16 (evenStep_win s _ 8 (evenStep_win s _ 4 (evenStep_win s _ 2 (evenStep_win s _ 1 h0)))))
  apply set_ext
  intro i
  rcases Nat.lt_or_ge i 64 with hi | hi
  · unfold evenAll evenS
    rw [evenUp_bit, h6 i hi, win_par s i _ hi]
    simp [hi]
  · have hb : B64 (evenAll s) := evenStep_b64 (evenStep_b64 (evenStep_b64 (evenStep_b64 (evenStep_b64 (evenStep_b64 h)))))
    have he : (evenS s).testBit i = false := (evenUp_b64 s 64 (by omega)).ge hi
    rw [hb.ge hi, he]

/-! ### The next greater set within one -/
theorem testBit_bitLen {x : Nat} (h : B64 x) (h0 : x ≠ 0) : 1 ≤ Lib.bitLen x ∧ Lib.bitLen x ≤ 64 ∧ x.testBit (Lib.bitLen x - 1) = true ∧ ∀ i, Lib.bitLen x ≤ i → x.testBit i = false := by
  have hle := Lib.bitLen_le x 64 (by omega) h.pow
  have key : ∀ (f x : Nat), x ≠ 0 → x < 2 ^ f → 2 ^ (Lib.bitLenAux f x - 1) ≤ x ∧ x < 2 ^ (Lib.bitLenAux f x) ∧ 1 ≤ Lib.bitLenAux f x := by
    intro f
    induction f with
    | zero => intro x h0 h; simp at h; omega
    | succ f ih =>
      intro x h0 hx
      unfold Lib.bitLenAux
      rw [if_neg h0]
      by_cases h1 : x / 2 = 0
      · have : x = 1 := by omega
        subst this
        have : Lib.bitLenAux f (1 / 2) = 0 := by
          cases f <;> simp [Lib.bitLenAux]
        rw [this]
        simp
      · obtain ⟨a, b, c⟩ := ih (x / 2) h1 (by rw [Nat.pow_succ] at hx; omega)
        generalize Lib.bitLenAux f (x / 2) = L at *
        obtain ⟨L, rfl⟩ : ∃ M, L = M + 1 := ⟨L - 1, by omega⟩
        have e1 : 1 + (L + 1) - 1 = L + 1 := by omega
        have e2 : L + 1 - 1 = L := by omega
        have e3 : 1 + (L + 1) = L + 2 := by omega
        rw [e2] at a
        rw [e1, e3]
        have p1 : 2 ^ (L + 1) = 2 * 2 ^ L := by rw [Nat.pow_succ]; omega
        have p2 : 2 ^ (L + 2) = 2 * 2 ^ (L + 1) := by rw [Nat.pow_succ 2 (L + 1)]; omega
        omega
  obtain ⟨a, b, c⟩ := key 64 x h0 h.pow
  have hd : Lib.bitLen x = Lib.bitLenAux 64 x := rfl
  rw [← hd] at a b c
  refine ⟨c, hle, ?_, fun i hi => Nat.testBit_lt_two_pow (Nat.lt_of_lt_of_le b (Nat.pow_le_pow_right (by decide) hi))⟩
  rw [Nat.testBit_eq_decide_div_mod_eq]
  generalize Lib.bitLen x = L at *
  obtain ⟨L, rfl⟩ : ∃ M, L = M + 1 := ⟨L - 1, by omega⟩
  have e2 : L + 1 - 1 = L := by omega
  rw [e2] at a ⊢
  have p1 : 2 ^ (L + 1) = 2 ^ L * 2 := Nat.pow_succ _ _
  have hp : 0 < 2 ^ L := Nat.pow_pos (by decide)
  have : x / 2 ^ L = 1 := by
    apply Nat.div_eq_of_lt_le
    · omega
    · omega
  rw [this]
  rfl

/-- t raised so that it lies within s. -/
def raised (s t : Nat) : Nat := if minus t s = 0 then t else minus t (upTo (Lib.bitLen (minus t s))) ||| (s &&& upTo (Lib.bitLen (minus t s)))
theorem raised_b64 {s t : Nat} (hs : B64 s) (ht : B64 t) : B64 (raised s t) := by
  unfold raised; split
  · exact ht
  · exact (minus_b64 ht).or hs.and
theorem raised_in {s t : Nat} (hs : B64 s) (ht : B64 t) (i : Nat) (hi : (raised s t).testBit i = true) : s.testBit i = true := by
  have hm : B64 (minus t s) := minus_b64 ht
  unfold raised at hi
  split at hi
  · rename_i h0
    have := minus_bit ht hs i
    rw [h0] at this
    simp [hi] at this
    exact this
  · rename_i h0
    obtain ⟨h1, h2, h3, h4⟩ := testBit_bitLen hm h0
    generalize Lib.bitLen (minus t s) = L at *
    rw [Nat.testBit_or, minus_bit ht (upTo_b64 h2), Nat.testBit_and, upTo_bit] at hi
    simp at hi
    rcases hi with ⟨h5, h6⟩ | ⟨h5, _⟩
    · have := h4 i h6
      rw [minus_bit ht hs, h5] at this
      simpa using this
    · exact h5
/-- What the reference looks for: n is in s, not in t, and what t has from n on lies within s. -/
def cand (s t n : Nat) : Bool := s.testBit n && !t.testBit n && decide (minus (minus t (upTo n)) s = 0)
open Classical in
theorem cand_iff {s t n : Nat} (hs : B64 s) (ht : B64 t) (hn : n < 64) : cand s t n = (s.testBit n && !(raised s t).testBit n) := by
  have hm : B64 (minus t s) := minus_b64 ht
  have hu := upTo_b64 (n := n) (by omega)
  have hz : decide (minus (minus t (upTo n)) s = 0) = decide (∀ i, n ≤ i → t.testBit i = true → s.testBit i = true) := by
    rw [Bool.eq_iff_iff]
    simp only [decide_eq_true_eq]
    constructor
    · intro h i hi hti
      have := minus_bit (s := minus t (upTo n)) (t := s) (minus_b64 ht) hs i
      rw [h, minus_bit ht hu, upTo_bit, hti] at this
      have h' : ¬ i < n := by omega
      simp [h'] at this
      exact this
    · intro h
      apply set_ext
      intro i
      rw [minus_bit (minus_b64 ht) hs, minus_bit ht hu, upTo_bit]
      simp
      intro h1 h2
      exact h i h2 h1
  unfold cand
  rw [hz]
  cases hsn : s.testBit n with
  | false => simp
  | true =>
    simp only [Bool.true_and]
    by_cases h0 : minus t s = 0
    · have hr : raised s t = t := by unfold raised; rw [if_pos h0]
      rw [hr]
      have : ∀ i, n ≤ i → t.testBit i = true → s.testBit i = true := fun i _ hti => raised_in hs ht i (by rw [hr]; exact hti)
      have hd : decide (∀ i, n ≤ i → t.testBit i = true → s.testBit i = true) = true := decide_eq_true this
      rw [hd]
      simp
    · obtain ⟨h1, h2, h3, h4⟩ := testBit_bitLen hm h0
      have hr : raised s t = minus t (upTo (Lib.bitLen (minus t s))) ||| (s &&& upTo (Lib.bitLen (minus t s))) := by unfold raised; rw [if_neg h0]
      rw [hr]
      generalize Lib.bitLen (minus t s) = L at *
      rw [Nat.testBit_or, minus_bit ht (upTo_b64 h2), Nat.testBit_and, upTo_bit, hsn]
      rw [minus_bit ht hs] at h3
      simp at h3
      by_cases hnl : n < L
      · have hd : decide (∀ i, n ≤ i → t.testBit i = true → s.testBit i = true) = false := by
          apply decide_eq_false
          intro h
          have := h (L - 1) (by omega) h3.1
          rw [h3.2] at this
          cases this
        rw [hd]
        simp [hnl]
      · have hd : decide (∀ i, n ≤ i → t.testBit i = true → s.testBit i = true) = true := by
          apply decide_eq_true
          intro i hi hti
          have := h4 i (by omega)
          rw [minus_bit ht hs, hti] at this
          simpa using this
        rw [hd]
        simp [hnl]

/-- The numbers that s has and the raised t has not. -/
def left (s t : Nat) : Nat := minus s (raised s t)
theorem left_b64 {s t : Nat} (hs : B64 s) : B64 (left s t) := minus_b64 hs
theorem left_bit {s t : Nat} (hs : B64 s) (ht : B64 t) (n : Nat) : (left s t).testBit n = (s.testBit n && !(raised s t).testBit n) := minus_bit hs (raised_b64 hs ht) n
theorem cand_left {s t n : Nat} (hs : B64 s) (ht : B64 t) (hn : n < 64) : cand s t n = (left s t).testBit n := by
  rw [cand_iff hs ht hn, left_bit hs ht]
def subNext (s t : Nat) : Nat := if left s t = 0 then 0 else addN (minus t (upTo (low (left s t)))) (low (left s t))
theorem subNext_b64 {s t : Nat} (hs : B64 s) (ht : B64 t) : B64 (subNext s t) := by
  unfold subNext; split
  · exact B64.zero
  · rename_i h; exact addN_b64 (minus_b64 ht) (low_lt (left_b64 hs) h)
/-- Above the least left number, t and the raised t are alike. -/
theorem raised_above {s t : Nat} (hs : B64 s) (ht : B64 t) (h0 : left s t ≠ 0) (i : Nat) (hi : low (left s t) ≤ i) : (raised s t).testBit i = t.testBit i := by
  have hk := low_lt (left_b64 (t := t) hs) h0
  have hb := low_bit (left_b64 (t := t) hs) h0
  rw [← cand_left hs ht hk] at hb
  generalize low (left s t) = k at *
  unfold cand at hb
  simp only [Bool.and_eq_true, decide_eq_true_eq] at hb
  obtain ⟨⟨hsk, _⟩, hz⟩ := hb
  unfold raised
  split
  · rfl
  · rename_i hm0
    obtain ⟨h1, h2, h3, h4⟩ := testBit_bitLen (minus_b64 ht) hm0
    generalize hL : Lib.bitLen (minus t s) = L at *
    have hLk : L ≤ k := by
      rcases Nat.lt_or_ge k L with h | h
      · have hu := upTo_b64 (n := k) (by omega)
        have hx := minus_bit (s := minus t (upTo k)) (t := s) (minus_b64 ht) hs (L - 1)
        rw [hz, minus_bit ht hu, upTo_bit] at hx
        rw [minus_bit ht hs] at h3
        simp only [Bool.and_eq_true] at h3
        rw [h3.1, h3.2] at hx
        have : ¬ L - 1 < k := by omega
        simp [this] at hx
      · exact h
    rw [Nat.testBit_or, minus_bit ht (upTo_b64 h2), Nat.testBit_and, upTo_bit]
    have : ¬ i < L := by omega
    simp [this]
theorem subNext_bit {s t : Nat} (hs : B64 s) (ht : B64 t) (h0 : left s t ≠ 0) (i : Nat) :
    (subNext s t).testBit i = ((decide (low (left s t) < i) && (raised s t).testBit i) || decide (i = low (left s t))) := by
  have hk := low_lt (left_b64 (t := t) hs) h0
  have ha := raised_above hs ht h0 i
  unfold subNext
  rw [if_neg h0]
  generalize low (left s t) = k at *
  unfold addN
  rw [or_bit, minus_bit ht (upTo_b64 (by omega)), upTo_bit]
  by_cases h1 : i = k
  · subst h1; simp
  · by_cases h2 : k < i
    · rw [ha (by omega)]
      have h3 : ¬ i < k := by omega
      have h4 : ¬ k = i := by omega
      simp [h1, h2, h3, h4]
    · have h3 : i < k := by omega
      have h4 : ¬ k = i := by omega
      simp [h1, h2, h3, h4]
theorem split_left {s t : Nat} (hs : B64 s) (ht : B64 t) : s = raised s t + left s t := by
  rw [add_or]
  · apply set_ext
    intro i
    rw [Nat.testBit_or, left_bit hs ht]
    cases hr : (raised s t).testBit i with
    | true => rw [raised_in hs ht i hr]; rfl
    | false => simp
  · apply set_ext
    intro i
    rw [Nat.testBit_and, left_bit hs ht]
    cases hr : (raised s t).testBit i <;> simp
theorem neg_bit {c : Nat} (h : B64 c) (h0 : c ≠ 0) (i : Nat) : (18446744073709551616 - c).testBit i = (decide (i < 64) && (decide (i = low c) || (decide (low c < i) && !c.testBit i))) := by
  have hc : c < 18446744073709551616 := h
  have e : 18446744073709551616 - c = 18446744073709551615 - (c - 1) := by omega
  have hd := drop1_bit h h0 i
  have hb : B64 (c - 1) := by unfold B64; omega
  have hl := low_bit h h0
  have hle : c.testBit i = true → low c ≤ i := low_le h
  rw [e, not_bit hb]
  congr 1
  obtain ⟨m, hm, hk⟩ := low_form h h0
  have hcb : c.testBit i = (decide (i = low c) || (decide (low c < i) && m.testBit (i - low c - 1))) := by
    have := odd_bit (low c) m i
    rw [← hm] at this
    exact this
  have hpb : (c - 1).testBit i = if i < low c then true else (m.testBit (i - low c - 1) && decide (low c < i)) := by
    generalize low c = k at *
    have e : c - 1 = 2 ^ k * (2 * m) + (2 ^ k - 1) := by
      have hp : 0 < 2 ^ k := Nat.pow_pos (by decide)
      rw [hm, Nat.mul_add, Nat.mul_one]
      omega
    rw [e, Nat.testBit_two_pow_mul_add _ (by have hp : 0 < 2 ^ k := Nat.pow_pos (by decide); omega)]
    split
    · rename_i h'
      rw [Nat.testBit_two_pow_sub_one]
      simp [h']
    · rename_i h'
      obtain ⟨j, rfl⟩ : ∃ j, i = k + j := ⟨i - k, by omega⟩
      cases j with
      | zero => simp
      | succ j =>
        have e1 : k + (j + 1) - k = j + 1 := by omega
        rw [e1, Nat.testBit_add_one]
        simp
  rw [hpb, hcb]
  by_cases h1 : i < low c
  · have h2 : ¬ i = low c := by omega
    have h3 : ¬ low c < i := by omega
    simp [h1, h2, h3]
  · by_cases h2 : i = low c
    · rw [h2]; simp
    · have h3 : low c < i := by omega
      simp [h1, h2, h3]
theorem sub_raw {s t : Nat} (hs : B64 s) (ht : B64 t) : bits .and .u64 (IntKind.u64.wrap ((raised s t : Nat) - (s : Int))) (s : Int) = (subNext s t : Nat) := by
  have hsum := split_left hs ht
  have hl : left s t < 18446744073709551616 := left_b64 hs
  by_cases h0 : left s t = 0
  · have e : ((raised s t : Nat) : Int) - (s : Int) = ((0 : Nat) : Int) := by rw [h0] at hsum; omega
    rw [e, wrap_u 0 (by decide), u64_and_nat 0 s (by decide) hs]
    unfold subNext
    rw [if_pos h0]
    simp
  · have e : IntKind.u64.wrap (((raised s t : Nat) : Int) - (s : Int)) = ((18446744073709551616 - left s t : Nat) : Int) := by
      rw [IntKind.wrap_u64]
      omega
    rw [e, u64_and_nat _ s (by omega) hs]
    congr 1
    apply set_ext
    intro i
    rw [Nat.testBit_and, neg_bit (left_b64 hs) h0, subNext_bit hs ht h0]
    have hlb := left_bit hs ht i
    have hll := low_bit (left_b64 (t := t) hs) h0
    rw [left_bit hs ht] at hll
    have hk := low_lt (left_b64 (t := t) hs) h0
    generalize low (left s t) = k at *
    by_cases h1 : i = k
    · subst h1
      simp only [Bool.and_eq_true] at hll
      simp [hk, hll.1]
    · by_cases h2 : k < i
      · rw [hlb]
        cases hr : (raised s t).testBit i with
        | true =>
          have hsi := raised_in hs ht i hr
          have := hs.bit hsi
          simp [h1, h2, hsi, this]
        | false => cases s.testBit i <;> simp [h1, h2]
      · simp [h1, h2]
theorem sub_gt {s t : Nat} (hs : B64 s) (ht : B64 t) : decide (((raised s t : Nat) : Int) < ((subNext s t : Nat) : Int)) = decide (left s t ≠ 0) := by
  by_cases h0 : left s t = 0
  · have : subNext s t = 0 := by unfold subNext; rw [if_pos h0]
    rw [this]
    simp [h0]
  · rw [Bool.eq_iff_iff]
    simp only [decide_eq_true_eq]
    refine ⟨fun _ => h0, fun _ => ?_⟩
    have hb := fun i => subNext_bit hs ht h0 i
    have hlb := left_bit hs ht (low (left s t))
    rw [low_bit (left_b64 (t := t) hs) h0] at hlb
    generalize low (left s t) = k at *
    have h1 : raised s t % 2 ^ k = raised s t % 2 ^ (k + 1) := by
      apply set_ext
      intro i
      rw [Nat.testBit_mod_two_pow, Nat.testBit_mod_two_pow]
      by_cases hi : i = k
      · subst hi
        simp at hlb
        simp [hlb.2]
      · have : (i < k) = (i < k + 1) := by apply propext; omega
        simp [this]
    have h2 : subNext s t / 2 ^ (k + 1) = raised s t / 2 ^ (k + 1) := by
      apply set_ext
      intro i
      rw [Nat.testBit_div_two_pow, Nat.testBit_div_two_pow, hb]
      have a1 : k < i + (k + 1) := by omega
      have a2 : ¬ i + (k + 1) = k := by omega
      simp [a1, a2]
    have h3 : 2 ^ k ≤ subNext s t % 2 ^ (k + 1) := by
      apply Nat.ge_two_pow_of_testBit (i := k)
      rw [Nat.testBit_mod_two_pow, hb]
      simp
    have h4 : raised s t % 2 ^ k < 2 ^ k := Nat.mod_lt _ (Nat.pow_pos (by decide))
    have h5 := Nat.div_add_mod (subNext s t) (2 ^ (k + 1))
    have h6 := Nat.div_add_mod (raised s t) (2 ^ (k + 1))
    rw [h2] at h5
    omega
end Go.Proofs.YtkcalnjapmpcaaaDoor
