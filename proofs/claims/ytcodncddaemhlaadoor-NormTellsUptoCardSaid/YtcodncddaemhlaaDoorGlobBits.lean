/- Places among pieces as the bits of a number, in plain Lean. No program in sight. -/
import Derived.Test.YtcodncddaemhlaaDoorGlobPlain
import Derived.Test.YtcodncddaemhlaaDoorBits1
namespace Go.Proofs.YtcodncddaemhlaaDoor

/-- The bits of X up to n are what B says; no others are set. -/
structure Bt (X n : Nat) (B : Nat → Bool) : Prop where
  b64 : X < 18446744073709551616
  at_ : ∀ j, X.testBit j = (decide (j ≤ n) && B j)
theorem bt_ext {X n : Nat} {B C : Nat → Bool} (h : Bt X n B) (hs : ∀ j, j ≤ n → B j = C j) : Bt X n C := ⟨h.b64, fun j => by
  rw [h.at_ j]
  by_cases hj : j ≤ n
  · rw [hs j hj]
  · simp [hj]⟩
theorem bt_set {X n : Nat} {B : Nat → Bool} (h : Bt X n B) {i : Nat} (hi : i ≤ n) (hn : n < 64) : Bt (X ||| 2 ^ i) n (fun j => B j || j == i) := by
  refine ⟨Nat.or_lt_two_pow (n := 64) h.b64 (Nat.pow_lt_pow_right (by decide) (by omega)), fun j => ?_⟩
  rw [Nat.testBit_or, Nat.testBit_two_pow, h.at_ j]
  by_cases hj : j = i
  · subst hj; simp [hi]
  · have : decide (i = j) = false := decide_eq_false (fun e => hj e.symm)
    have h2 : (j == i) = false := by simp [hj]
    rw [this, h2, Bool.or_false, Bool.or_false]
/-- The first i pieces gone through. -/
def skF (l : List GP) (B : Nat → Bool) (i : Nat) : Nat → Bool := fun j => if j ≤ i then clB l B j else B j
theorem skF_zero (l : List GP) (B : Nat → Bool) : skF l B 0 = B := by
  funext j
  unfold skF
  split
  · rename_i h; obtain rfl : j = 0 := by omega
    rfl
  · rfl
theorem skF_yes {l : List GP} {B : Nat → Bool} {i : Nat} (ha : anyAt l i = true) (hb : skF l B i i = true) (j : Nat) : (skF l B i j || j == i + 1) = skF l B (i + 1) j := by
  have hc : clB l B i = true := by unfold skF at hb; rwa [if_pos (Nat.le_refl _)] at hb
  unfold skF
  by_cases h1 : j ≤ i
  · have : (j == i + 1) = false := by simp; omega
    rw [if_pos h1, if_pos (by omega), this, Bool.or_false]
  · rw [if_neg h1]
    by_cases h2 : j = i + 1
    · subst h2; rw [if_pos (Nat.le_refl _), clB, ha, hc]; simp
    · have : (j == i + 1) = false := by simp [h2]
      rw [if_neg (by omega), this, Bool.or_false]
theorem skF_no {l : List GP} {B : Nat → Bool} {i : Nat} (hab : anyAt l i = false ∨ skF l B i i = false) (j : Nat) : skF l B i j = skF l B (i + 1) j := by
  unfold skF
  by_cases h1 : j ≤ i
  · rw [if_pos h1, if_pos (by omega)]
  · rw [if_neg h1]
    by_cases h2 : j = i + 1
    · subst h2
      rw [if_pos (Nat.le_refl _), clB]
      rcases hab with h | h
      · rw [h]; simp
      · have hc : clB l B i = false := by unfold skF at h; rwa [if_pos (Nat.le_refl _)] at h
        rw [hc]; simp
    · rw [if_neg (by omega)]
theorem skF_end (l : List GP) (B : Nat → Bool) (n j : Nat) (h : j ≤ n) : skF l B n j = clB l B j := by unfold skF; rw [if_pos h]
/-- The next places, the first k pieces looked at. -/
def ntF (l : List GP) (A : Nat → Bool) (c : Nat) (k : Nat) : Nat → Bool := fun j => if j < k then nxB l A c j else if j = k then (match k with | 0 => false | q + 1 => A q && !anyAt l q && setAt l q c) else false
theorem ntF_zero (l : List GP) (A : Nat → Bool) (c : Nat) : ntF l A c 0 = fun _ => false := by
  funext j
  unfold ntF
  rw [if_neg (by omega)]
  split <;> rfl
theorem nxB_split (l : List GP) (A : Nat → Bool) (c k : Nat) : nxB l A c k = ((A k && anyAt l k) || (match k with | 0 => false | q + 1 => A q && !anyAt l q && setAt l q c)) := by
  cases k <;> simp [nxB]
theorem ntF_stay {l : List GP} {A : Nat → Bool} {c k : Nat} (h : A k = false ∨ (anyAt l k = false ∧ setAt l k c = false)) (j : Nat) : ntF l A c k j = ntF l A c (k + 1) j := by
  unfold ntF
  by_cases h1 : j < k
  · rw [if_pos h1, if_pos (by omega)]
  · rw [if_neg h1]
    by_cases h2 : j = k
    · subst h2
      rw [if_pos rfl, if_pos (by omega), nxB_split]
      have : (A j && anyAt l j) = false := by rcases h with h | h <;> simp [h]
      rw [this, Bool.false_or]
    · rw [if_neg h2, if_neg (by omega)]
      by_cases h3 : j = k + 1
      · rw [if_pos h3]
        rcases h with h | ⟨h, h'⟩ <;> simp [h]
        simp [h']
      · rw [if_neg h3]
theorem ntF_here {l : List GP} {A : Nat → Bool} {c k : Nat} (ha : A k = true) (hy : anyAt l k = true) (j : Nat) : (ntF l A c k j || j == k) = ntF l A c (k + 1) j := by
  unfold ntF
  by_cases h1 : j < k
  · have : (j == k) = false := by simp; omega
    rw [if_pos h1, if_pos (by omega), this, Bool.or_false]
  · rw [if_neg h1]
    by_cases h2 : j = k
    · subst h2
      rw [if_pos rfl, if_pos (by omega), nxB_split, ha, hy]
      simp
    · have : (j == k) = false := by simp [h2]
      rw [if_neg h2, if_neg (by omega), this]
      by_cases h3 : j = k + 1
      · rw [if_pos h3]; simp [hy]
      · rw [if_neg h3]; rfl
theorem ntF_on {l : List GP} {A : Nat → Bool} {c k : Nat} (ha : A k = true) (hy : anyAt l k = false) (hs : setAt l k c = true) (j : Nat) : (ntF l A c k j || j == k + 1) = ntF l A c (k + 1) j := by
  unfold ntF
  by_cases h1 : j < k
  · have : (j == k + 1) = false := by simp; omega
    rw [if_pos h1, if_pos (by omega), this, Bool.or_false]
  · rw [if_neg h1]
    by_cases h2 : j = k
    · subst h2
      have : (j == j + 1) = false := by simp
      rw [if_pos rfl, if_pos (by omega), nxB_split, hy, this, Bool.or_false]
      simp
    · rw [if_neg h2, if_neg (by omega)]
      by_cases h3 : j = k + 1
      · rw [if_pos h3]; simp [h3, ha, hy, hs]
      · have : (j == k + 1) = false := by simp [h3]
        rw [if_neg h3, this]; rfl
/-- Behind the last piece: nothing goes on. -/
theorem ntF_end {l : List GP} {A : Nat → Bool} {c n j : Nat} (hn : l.length = n) (hj : j ≤ n) : ntF l A c n j = nxB l A c j := by
  unfold ntF
  by_cases h1 : j < n
  · rw [if_pos h1]
  · obtain rfl : j = n := by omega
    rw [if_neg h1, if_pos rfl, nxB_split]
    have : anyAt l j = false := by unfold anyAt; rw [List.getElem?_eq_none (by omega)]
    rw [this, Bool.and_false, Bool.false_or]
theorem clB_ext {l : List GP} {B C : Nat → Bool} {n : Nat} (h : ∀ j, j ≤ n → B j = C j) : ∀ j, j ≤ n → clB l B j = clB l C j
  | 0, hj => h 0 hj
  | j + 1, hj => by rw [clB, clB, h _ hj, clB_ext h j (by omega)]
theorem nxB_ext {l : List GP} {B C : Nat → Bool} {n c : Nat} (h : ∀ j, j ≤ n → B j = C j) : ∀ j, j ≤ n → nxB l B c j = nxB l C c j
  | 0, hj => by rw [nxB, nxB, h _ hj]
  | j + 1, hj => by rw [nxB, nxB, h _ hj, h j (by omega)]
/-- One byte on. -/
theorem bt_step {l : List GP} {s : List Nat} {X n i : Nat} (hn : l.length = n) (h : Bt X n (clB l (ntF l (fun k => bf l s k i) (s[i]?.getD 0) n))) : Bt X n (fun k => bf l s k (i + 1)) :=
  bt_ext h fun j hj => by
    rw [clB_ext (C := nxB l (fun k => bf l s k i) (s[i]?.getD 0)) (fun j hj => ntF_end hn hj) j hj, bf_succ]
theorem bt_start {l : List GP} {s : List Nat} {X n : Nat} (h : Bt X n (clB l (fun k => k == 0))) : Bt X n (fun k => bf l s k 0) := bt_ext h fun j _ => bf_zero l s j
theorem bt_one (n : Nat) : Bt 1 n (fun k => k == 0) := ⟨by decide, fun j => by
  have e : (1 : Nat) = 2 ^ 0 := rfl
  rw [e, Nat.testBit_two_pow]
  by_cases h : j = 0
  · subst h; simp
  · have : decide (0 = j) = false := decide_eq_false (fun e => h e.symm)
    simp [h, this]⟩
theorem bt_none (n : Nat) : Bt 0 n (fun _ => false) := ⟨by decide, fun j => by simp⟩
theorem bt_last {l : List GP} {s : List Nat} {X n i : Nat} (hn : l.length = n) (h : Bt X n (fun k => bf l s k i)) : X.testBit n = rf l s n i := by
  rw [h.at_ n]
  subst hn
  simp [bf_end]
/-- The bit that the program looks at. -/
theorem bit_val {X : Nat} (k : Nat) (hx : X < 18446744073709551616) : bits .and .u64 ((X : Int) / 2 ^ k) 1 = if X.testBit k then 1 else 0 := by
  have hlt : X / 2 ^ k < 18446744073709551616 := Nat.lt_of_le_of_lt (Nat.div_le_self _ _) hx
  have e := u64_and_nat (X / 2 ^ k) 1 hlt (by decide)
  have e' : bits .and .u64 ((X : Int) / 2 ^ k) 1 = ((X / 2 ^ k &&& 1 : Nat) : Int) := by simpa using e
  rw [e', Nat.and_one_is_mod, Nat.testBit_eq_decide_div_mod_eq]
  clear e e' hlt hx
  rcases (by omega : X / 2 ^ k % 2 = 0 ∨ X / 2 ^ k % 2 = 1) with h | h <;> rw [h] <;> rfl
theorem or_val {X i : Nat} (hx : X < 18446744073709551616) (hi : i < 64) : bits .or .u64 (X : Int) (IntKind.u64.wrap (2 ^ i)) = ((X ||| 2 ^ i : Nat) : Int) := by
  rw [shl_raw i hi]
  exact u64_or_nat X (2 ^ i) hx (Nat.lt_of_lt_of_le (Nat.pow_lt_pow_right (by decide) hi) (by decide))
end Go.Proofs.YtcodncddaemhlaaDoor
