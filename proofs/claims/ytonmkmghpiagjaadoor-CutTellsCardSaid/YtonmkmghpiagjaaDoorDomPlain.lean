/- Plain law of package dom: rows without a number; who rules a number. No condition. -/
import Derived.Test.YtonmkmghpiagjaaDoorOrdPlain
namespace Go.Proofs.YtonmkmghpiagjaaDoor

/-- Row i of the rows without number a. -/
def woRow (l : List Nat) (a i : Nat) : Nat := if i = a then 0 else drop (rowAt l i) a
def withoutL (l : List Nat) (a : Nat) : List Nat := (List.range l.length).map (woRow l a)
theorem withoutL_len (l : List Nat) (a : Nat) : (withoutL l a).length = l.length := by simp [withoutL]
theorem rowAt_without {l : List Nat} {a i : Nat} (hi : i < l.length) : rowAt (withoutL l a) i = woRow l a i := by simp [rowAt, withoutL, hi]
theorem withoutL_good {l : List Nat} {a : Nat} (h : Good l) (ha : a < l.length) : Good (withoutL l a) := by
  refine ⟨by rw [withoutL_len]; exact h.1, fun i j hj => ?_⟩
  rw [withoutL_len]
  rcases Nat.lt_or_ge i l.length with hi | hi
  · rw [rowAt_without hi] at hj
    unfold woRow at hj
    split at hj
    · simp at hj
    · rw [drop_bit (h.b64 i) (by have := h.1; omega)] at hj
      simp at hj
      exact h.2 i j hj.1
  · rw [rowAt_ge (by rw [withoutL_len]; exact hi)] at hj
    simp at hj
/-- Is b reached from root? -/
def domR (l : List Nat) (root b : Nat) : Bool := (reachD l (2 ^ root) (-1)).testBit b
/-- Does a rule b, b being reached? -/
def domA (l : List Nat) (root b a : Nat) : Bool := decide (a = root) || decide (a = b) || !domR (withoutL l a) root b
/-- The set of those below k that rule b. -/
def domS (l : List Nat) (root b : Nat) : Nat → Nat
  | 0 => 0
  | k + 1 => if domA l root b k then addN (domS l root b k) k else domS l root b k
def ruledBy (l : List Nat) (root b : Nat) : Nat := if domR l root b then domS l root b l.length else 0
theorem domS_bit (l : List Nat) (root b : Nat) (k j : Nat) : (domS l root b k).testBit j = (decide (j < k) && domA l root b j) := by
  induction k with
  | zero => simp [domS]
  | succ k ih =>
    unfold domS
    by_cases h : domA l root b k = true
    · rw [if_pos h, addN_bit, ih]
      rw [Bool.eq_iff_iff]
      simp only [Bool.or_eq_true, Bool.and_eq_true, decide_eq_true_eq]
      constructor
      · rintro (⟨h1, h2⟩ | h1)
        · exact ⟨by omega, h2⟩
        · subst h1; exact ⟨by omega, h⟩
      · rintro ⟨h1, h2⟩
        rcases Nat.lt_or_ge j k with h3 | h3
        · exact .inl ⟨h3, h2⟩
        · exact .inr (by omega)
    · rw [if_neg h, ih, Bool.eq_iff_iff]
      simp only [Bool.and_eq_true, decide_eq_true_eq]
      constructor
      · rintro ⟨h1, h2⟩
        exact ⟨by omega, h2⟩
      · rintro ⟨h1, h2⟩
        rcases Nat.lt_or_ge j k with h3 | h3
        · exact ⟨h3, h2⟩
        · obtain rfl : j = k := by omega
          exact absurd h2 h
theorem domS_b64 (l : List Nat) (root b : Nat) {k : Nat} (hk : k ≤ 64) : B64 (domS l root b k) := B64.of_bits fun j hj => by
  rw [domS_bit] at hj
  simp at hj
  omega
end Go.Proofs.YtonmkmghpiagjaaDoor
