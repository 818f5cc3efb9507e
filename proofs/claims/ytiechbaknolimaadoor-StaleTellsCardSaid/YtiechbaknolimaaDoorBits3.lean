/- Contracts: SetOf, Next, Nth, Rank, List and Numbers. Sets are below 2^64; lists are shorter than 2^63; the table of math/bits lies. -/
import Derived.Test.YtiechbaknolimaaDoorBits2
namespace Go.Proofs.YtiechbaknolimaaDoor
open Go.RowKit

/-- Next: the numbers from n on. -/
def fromS (s : Nat) (n : Int) : Nat := if 64 ≤ n then 0 else minus s (upTo (max n 0).toNat)
theorem fromS_b64 {s : Nat} {n : Int} (hs : B64 s) : B64 (fromS s n) := by
  unfold fromS; split
  · exact B64.zero
  · exact minus_b64 hs
theorem fromS_bit {s : Nat} {n : Int} (hs : B64 s) (i : Nat) : (fromS s n).testBit i = (s.testBit i && decide (n ≤ i)) := by
  unfold fromS
  split
  · rename_i h
    cases hb : s.testBit i with
    | false => simp
    | true =>
      have := hs.bit hb
      simp
      omega
  · rename_i h
    rw [minus_bit hs (upTo_b64 (by omega)), upTo_bit]
    congr 1
    rw [Bool.eq_iff_iff]
    simp
    omega
theorem minus_raw (s t : Nat) (hs : B64 s) (ht : B64 t) : bits .andNot .u64 (s : Int) (t : Int) = (minus s t : Nat) := u64_andNot_nat s t hs ht
theorem max_raw (n : Int) : (if n < 0 then (0 : Int) else n) = max n 0 := by omega
/-- What Next does ahead of its answer, at the two kinds of start. -/
theorem fromS_lo {s : Nat} {n : Int} (h : n < 0) : fromS s n = minus s (upTo 0) := by
  unfold fromS
  rw [if_neg (by omega)]
  congr 2
  omega
theorem fromS_mid {s n : Nat} (h : n < 64) : fromS s (n : Int) = minus s (upTo n) := by
  unfold fromS
  rw [if_neg (by omega)]
  congr 2
  omega
theorem next_no (s : Nat) (n : Int) (hs : B64 s) (h : fromS s n = 0) (w : World) :
    Calls Tryd.prog 105 #[.int .u64 s, .int .i64 n] w fun e w' => e = .returned (.tuple #[.int .i64 0, .bool false]) ∧ w = w' := by
  by_cases hn : 64 ≤ n
  · clear hs h
    go_enter Tryd.func105, Tryd.ntmps105
    go_wp2
    go_ret2
    exact ⟨rfl, rfl⟩
  by_cases hp : n < 0
  · have hr := minus_raw s (upTo 0) hs (upTo_b64 (by omega))
    rw [← fromS_lo hp, h] at hr
    have hr' : bits .andNot .u64 (s : Int) ((upTo 0 : Nat) : Int) = 0 := hr
    clear hs h hr
    go_enter Tryd.func105, Tryd.ntmps105
    go_wp2_with fail
    refine (below_any 0 (by omega) _).mono ?_
    rintro e w' ⟨rfl, rfl⟩
    go_wp2_with fail
    go_ret2
    exact ⟨rfl, rfl⟩
  · obtain ⟨m, rfl⟩ := Int.eq_ofNat_of_zero_le (by omega : 0 ≤ n)
    have hr := minus_raw s (upTo m) hs (upTo_b64 (by omega))
    rw [← fromS_mid (by omega), h] at hr
    have hr' : bits .andNot .u64 (s : Int) ((upTo m : Nat) : Int) = 0 := hr
    clear hs h hr
    go_enter Tryd.func105, Tryd.ntmps105
    go_wp2_with fail
    refine (below_any m (by omega) _).mono ?_
    rintro e w' ⟨rfl, rfl⟩
    go_wp2_with fail
    go_ret2
    exact ⟨rfl, rfl⟩
theorem next_yes (s : Nat) (n : Int) (hs : B64 s) (h : fromS s n ≠ 0) (w : World) (ht : Tab w) :
    Calls Tryd.prog 105 #[.int .u64 s, .int .i64 n] w fun e w' => e = .returned (.tuple #[.int .i64 (low (fromS s n) : Nat), .bool true]) ∧ w = w' := by
  have hn : ¬ 64 ≤ n := fun hn => h (by unfold fromS; rw [if_pos hn])
  have HF := Lib.hid (fromS_b64 (n := n) hs)
  have HT := Lib.hid ht
  have H := Lib.hid h
  clear ht
  have hz : (((fromS s n : Nat) : Int) == 0) = false := by simp; omega
  by_cases hp : n < 0
  · have hr := minus_raw s (upTo 0) hs (upTo_b64 (by omega))
    rw [← fromS_lo hp] at hr
    clear hs h
    go_enter Tryd.func105, Tryd.ntmps105
    go_wp2_with fail
    refine (below_any 0 (by omega) _).mono ?_
    rintro e w' ⟨rfl, rfl⟩
    go_wp2_with fail
    refine (least_any _ HF.out H.out _ HT.out).mono ?_
    rintro e w' ⟨rfl, rfl⟩
    go_wp2_with fail
    go_ret2
    exact ⟨rfl, rfl⟩
  · obtain ⟨m, rfl⟩ := Int.eq_ofNat_of_zero_le (by omega : 0 ≤ n)
    have hr := minus_raw s (upTo m) hs (upTo_b64 (by omega))
    rw [← fromS_mid (by omega)] at hr
    clear hs h
    go_enter Tryd.func105, Tryd.ntmps105
    go_wp2_with fail
    refine (below_any m (by omega) _).mono ?_
    rintro e w' ⟨rfl, rfl⟩
    go_wp2_with fail
    refine (least_any _ HF.out H.out _ HT.out).mono ?_
    rintro e w' ⟨rfl, rfl⟩
    go_wp2_with fail
    go_ret2
    exact ⟨rfl, rfl⟩

/-- Rank: how many numbers stand below n. -/
def rankS (s : Nat) (n : Int) : Nat := (nums (s &&& upTo (min (max n 0) 64).toNat)).length
theorem rank_any (s : Nat) (n : Int) (hs : B64 s) (w : World) :
    Calls Tryd.prog 38 #[.int .u64 s, .int .i64 n] w fun e w' => e = .returned (.int .i64 (rankS s n : Nat)) ∧ w = w' := by
  have main : ∀ k : Nat, k ≤ 64 → (min (max n 0) 64).toNat = k → ((n < 0 ∧ k = 0) ∨ (0 ≤ n ∧ n ≤ 64 ∧ (n : Int) = (k : Int)) ∨ (64 < n ∧ k = 64)) →
      Calls Tryd.prog 38 #[.int .u64 s, .int .i64 n] w fun e w' => e = .returned (.int .i64 (rankS s n : Nat)) ∧ w = w' := by
    intro k hk he hc
    have hr := u64_and_nat s (upTo k) hs (upTo_b64 hk)
    have HB := Lib.hid (B64.and (t := upTo k) hs)
    have HE := Lib.hid (show rankS s n = (nums (s &&& upTo k)).length by unfold rankS; rw [he])
    clear he hs
    rcases hc with ⟨h, rfl⟩ | ⟨h1, h2, rfl⟩ | ⟨h, rfl⟩
    all_goals
      go_enter Tryd.func38, Tryd.ntmps38
      go_wp2_with fail
      refine (below_any _ (by omega) _).mono ?_
      rintro e w' ⟨rfl, rfl⟩
      go_wp2_with fail
      refine (count_any _ HB.out _).mono ?_
      rintro e w' ⟨rfl, rfl⟩
      go_wp2_with fail
      go_ret
      exact ⟨ret_int (by rw [HE.out]), rfl⟩
  exact main _ (by omega) rfl (by omega)

/-- Nth: the numbers of s from the j-th on. -/
def dropS (s : Nat) : Nat → Nat
  | 0 => s
  | j + 1 => drop1 (dropS s j)
theorem dropS_b64 {s : Nat} (h : B64 s) (j : Nat) : B64 (dropS s j) := by
  induction j with
  | zero => exact h
  | succ j ih => exact drop1_b64 ih
theorem dropS_nums {s : Nat} (h : B64 s) (j : Nat) (hj : j ≤ (nums s).length) : nums (dropS s j) = (nums s).drop j := by
  induction j with
  | zero => rfl
  | succ j ih =>
    have ih := ih (by omega)
    have h0 : dropS s j ≠ 0 := fun h0 => by
      rw [h0, nums_zero] at ih
      have := congrArg List.length ih
      simp at this
      omega
    have := nums_step (dropS_b64 h j) h0
    rw [ih] at this
    have h2 := congrArg List.tail this
    rw [List.tail_drop, List.tail_cons] at h2
    exact h2.symm
theorem dropS_ne {s : Nat} (h : B64 s) {j : Nat} (hj : j < (nums s).length) : dropS s j ≠ 0 := fun h0 => by
  have := dropS_nums h j (by omega)
  rw [h0, nums_zero] at this
  have := congrArg List.length this
  simp at this
  omega
theorem dropS_low {s : Nat} (h : B64 s) {j : Nat} (hj : j < (nums s).length) : low (dropS s j) = (nums s)[j]?.getD 0 := by
  have h1 := nums_step (dropS_b64 h j) (dropS_ne h hj)
  rw [dropS_nums h j (by omega)] at h1
  have := congrArg List.head? h1
  rw [List.head?_drop] at this
  simp [hj] at this
  simp [hj, this]
theorem drop1_raw (s : Nat) (h : B64 s) (h0 : s ≠ 0) : bits .and .u64 (s : Int) (IntKind.u64.wrap ((s : Int) - 1)) = (drop1 s : Nat) := by
  have h' : s < 18446744073709551616 := h
  have e : (s : Int) - 1 = ((s - 1 : Nat) : Int) := by omega
  rw [e, wrap_u _ (by omega), u64_and_nat s _ h' (by omega)]
  rfl
end Go.Proofs.YtiechbaknolimaaDoor
