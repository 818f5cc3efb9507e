/- The law BitsFinds: its walk: for every pair of sets and every number it returns true and leaves what was there. Conditions: the table of math/bits lies. -/
import Derived.Test.YtkcalnjapmpcaaaDoorBits4
import Derived.Test.YtkcalnjapmpcaaaDoorBits5
namespace Go.Proofs.YtkcalnjapmpcaaaDoor
open Go.RowKit

def firstGe (l : List Nat) (n : Int) : Option Nat := l.find? (fun k : Nat => decide (n ≤ (k : Int)))
def cntLt (l : List Nat) (n : Int) : Nat := (l.filter (fun k : Nat => decide ((k : Int) < n))).length
theorem nums_filter {s t : Nat} (p : Nat → Bool) (h : ∀ i, i < 64 → t.testBit i = (s.testBit i && p i)) : nums t = (nums s).filter p := by
  unfold nums
  rw [List.filter_filter]
  apply List.filter_congr
  intro i hi
  rw [h i (List.mem_range.1 hi), Bool.and_comm]
theorem firstGe_head {s : Nat} {n : Int} (hs : B64 s) : firstGe (nums s) n = (nums (fromS s n)).head? := by
  rw [nums_filter (t := fromS s n) _ (fun i _ => fromS_bit hs i), List.head?_filter]
  rfl
theorem firstGe_no {s : Nat} {n : Int} (hs : B64 s) (h : fromS s n = 0) : firstGe (nums s) n = none := by
  rw [firstGe_head hs, h, nums_zero]; rfl
theorem firstGe_yes {s : Nat} {n : Int} (hs : B64 s) (h : fromS s n ≠ 0) : firstGe (nums s) n = some (low (fromS s n)) := by
  rw [firstGe_head hs, nums_step (fromS_b64 hs) h]; rfl
theorem cntLt_rank {s : Nat} {n : Int} : cntLt (nums s) n = rankS s n := by
  unfold cntLt rankS
  congr 1
  symm
  apply nums_filter
  intro i hi
  rw [Nat.testBit_and, upTo_bit]
  congr 1
  rw [Bool.eq_iff_iff]
  simp
  omega
theorem firstGe_snoc (l : List Nat) (x : Nat) (n : Int) : firstGe (l ++ [x]) n = (firstGe l n).or (if n ≤ (x : Int) then some x else none) := by
  unfold firstGe
  rw [List.find?_append]
  congr 1
  by_cases h : n ≤ (x : Int) <;> simp [h]
theorem cntLt_snoc (l : List Nat) (x : Nat) (n : Int) : cntLt (l ++ [x]) n = cntLt l n + if (x : Int) < n then 1 else 0 := by
  unfold cntLt
  rw [List.filter_append, List.length_append]
  congr 1
  by_cases h : (x : Int) < n <;> simp [h]
theorem cntLt_le (l : List Nat) (n : Int) : cntLt l n ≤ l.length := List.length_filter_le _ _
def FindRel (s : Nat) (n : Int) (k : Nat) (a b c : Value) : Prop :=
  a = .int .i64 (((firstGe ((nums s).take k) n).getD 0 : Nat) : Int) ∧ b = .bool (firstGe ((nums s).take k) n).isSome ∧ c = .int .i64 ((cntLt ((nums s).take k) n : Nat) : Int)

set_option maxHeartbeats 1000000 in
theorem bitsFinds_walk (s t : Nat) (n : Int) (w : World) (hs : B64 s) (ht : B64 t) (hT : Tab w) :
    Calls Tryd.prog 4 #[.int .u64 s, .int .u64 t, .int .i64 n] w fun e w' => e = .returned (.bool true) ∧ Below w.heap.size w w' := by
  have HS := Lib.hid hs
  have HT := Lib.hid ht
  have HTab := Lib.hid hT
  have hlen := nums_len s
  have HR := Lib.hid (cntLt_rank (s := s) (n := n))
  have HN := Lib.hid (firstGe_no (n := n) hs)
  have HY := Lib.hid (firstGe_yes (n := n) hs)
  clear hs ht hT
  go_enter Tryd.func4, Tryd.ntmps4
  go_wp2_with fail
  refine (rNumbers_any _ HS.out _).mono ?_
  rintro e w1 ⟨A1, c1, rfl, hown1, hb1⟩
  have HO := Lib.hid (Rd.of_own hown1)
  have HTab1 := Lib.hid (HTab.out.below hb1)
  clear hown1
  go_wp2_with fail
  go_loop [8, 9, 10, 12, 25] (fun a b c _ i => ∃ k : Nat, k ≤ (nums s).length ∧ i = .int .i64 k ∧ FindRel s n k a b c) (fun _ _ _ _ i => (nums s).length - (intOf i).toNat)
  case atStart => exact ⟨0, by omega, rfl, rfl, rfl, rfl⟩
  case round =>
    obtain ⟨k, hk, rfl, rfl, rfl, rfl⟩ := hrel
    by_cases hlt : k < (nums s).length
    · obtain ⟨b, o, rfl, hc⟩ := HO.out.at_ (k := k) (by simpa using hlt)
      have hc' : w1.cell? ⟨b, o + k, none⟩ = some (.int .i64 ((nums s)[k]?.getD 0 : Nat)) := by rw [hc]; simp [nv, hlt]
      have HK := Lib.hid (take_snoc (nums s) 0 k hlt)
      have hcl := cntLt_le ((nums s).take k) n
      have hcl2 : ((nums s).take k).length ≤ k := List.length_take_le _ _
      clear hc
      generalize (nums s)[k]?.getD 0 = x at *
      have hsn := firstGe_snoc ((nums s).take k) x n
      have hcn := cntLt_snoc ((nums s).take k) x n
      rw [← HK.out] at hsn hcn
      have HF := Lib.hid hsn
      have HC := Lib.hid hcn
      clear hsn hcn
      generalize hf : firstGe ((nums s).take k) n = f at *
      have Hf := Lib.hid hf
      clear hf
      generalize cntLt ((nums s).take k) n = q at *
      by_cases hx : n ≤ (x : Int)
      · have hx' : ¬ (x : Int) < n := by omega
        rw [if_pos hx] at HF
        rw [if_neg hx'] at HC
        cases f with
        | none =>
          go_wp2
          go_round
          case rel => exact ⟨k + 1, by omega, by go_num, by rw [HF.out]; rfl, by rw [HF.out]; rfl, by rw [HC.out]; rfl⟩
          case measure => simp [intOf]; omega
        | some y =>
          go_wp2
          go_round
          case rel => exact ⟨k + 1, by omega, by go_num, by rw [HF.out]; rfl, by rw [HF.out]; rfl, by rw [HC.out]; rfl⟩
          case measure => simp [intOf]; omega
      · have hx' : (x : Int) < n := by omega
        rw [if_neg hx] at HF
        rw [if_pos hx'] at HC
        cases f with
        | none =>
          go_wp2
          go_round
          case rel => exact ⟨k + 1, by omega, by go_num, by rw [HF.out]; rfl, by rw [HF.out]; rfl, by rw [HC.out]; go_num⟩
          case measure => simp [intOf]; omega
        | some y =>
          go_wp2
          go_round
          case rel => exact ⟨k + 1, by omega, by go_num, by rw [HF.out]; rfl, by rw [HF.out]; rfl, by rw [HC.out]; go_num⟩
          case measure => simp [intOf]; omega
    · have hkl : k = (nums s).length := by omega
      have htk : (nums s).take k = nums s := List.take_of_length_le (by omega)
      rw [htk, HR.out]
      clear htk
      have HKL := Lib.hid hkl
      clear hkl
      by_cases hf : fromS s n = 0
      · rw [HN.out hf]
        have HF := Lib.hid hf
        clear hf
        by_cases hr : n < 0
        · go_wp2_with fail
          refine (next_no _ _ HS.out HF.out _).mono ?_
          rintro e w' ⟨rfl, rfl⟩
          go_wp2_with fail
          refine (nth_no _ _ HS.out (by omega) _).mono ?_
          rintro e w' ⟨rfl, rfl⟩
          go_wp2_with fail
          refine (rank_any _ _ HS.out _).mono ?_
          rintro e w' ⟨rfl, rfl⟩
          go_wp2_with fail
          refine (even_any _ HS.out _).mono ?_
          rintro e w' ⟨rfl, rfl⟩
          go_wp2_with fail
          refine (rEvenSet_any _ HS.out _).mono ?_
          rintro e w' ⟨rfl, rfl⟩
          go_wp2_with fail
          refine (sub_any _ _ HS.out HT.out _).mono ?_
          rintro e w' ⟨rfl, rfl⟩
          go_wp2_with fail
          refine (rNextSub_any _ _ HS.out HT.out _).mono ?_
          rintro e w' ⟨rfl, rfl⟩
          go_wp2_with fail
          go_ret
          exact ⟨rfl, hb1⟩
        by_cases hr2 : ((nums s).length : Int) ≤ n
        · go_wp2_with fail
          refine (next_no _ _ HS.out HF.out _).mono ?_
          rintro e w' ⟨rfl, rfl⟩
          go_wp2_with fail
          refine (nth_no _ _ HS.out (by omega) _).mono ?_
          rintro e w' ⟨rfl, rfl⟩
          go_wp2_with fail
          refine (rank_any _ _ HS.out _).mono ?_
          rintro e w' ⟨rfl, rfl⟩
          go_wp2_with fail
          refine (even_any _ HS.out _).mono ?_
          rintro e w' ⟨rfl, rfl⟩
          go_wp2_with fail
          refine (rEvenSet_any _ HS.out _).mono ?_
          rintro e w' ⟨rfl, rfl⟩
          go_wp2_with fail
          refine (sub_any _ _ HS.out HT.out _).mono ?_
          rintro e w' ⟨rfl, rfl⟩
          go_wp2_with fail
          refine (rNextSub_any _ _ HS.out HT.out _).mono ?_
          rintro e w' ⟨rfl, rfl⟩
          go_wp2_with fail
          go_ret
          exact ⟨rfl, hb1⟩
        obtain ⟨m, rfl⟩ := Int.eq_ofNat_of_zero_le (by omega : 0 ≤ n)
        have hmk : m < (nums s).length := by omega
        obtain ⟨b, o, rfl, hc⟩ := HO.out.at_ (k := m) (by simpa using hmk)
        have hc' : w1.cell? ⟨b, o + m, none⟩ = some (.int .i64 ((nums s)[m]?.getD 0 : Nat)) := by rw [hc]; simp [nv, hmk]
        clear hc
        go_wp2_with fail
        refine (next_no _ _ HS.out HF.out _).mono ?_
        rintro e w' ⟨rfl, rfl⟩
        go_wp2_with fail
        refine (nth_yes _ _ HS.out (by omega) _ HTab1.out).mono ?_
        rintro e w' ⟨rfl, rfl⟩
        go_wp2_with fail
        refine (rank_any _ _ HS.out _).mono ?_
        rintro e w' ⟨rfl, rfl⟩
        go_wp2_with fail
        refine (even_any _ HS.out _).mono ?_
        rintro e w' ⟨rfl, rfl⟩
        go_wp2_with fail
        refine (rEvenSet_any _ HS.out _).mono ?_
        rintro e w' ⟨rfl, rfl⟩
        go_wp2_with fail
        refine (sub_any _ _ HS.out HT.out _).mono ?_
        rintro e w' ⟨rfl, rfl⟩
        go_wp2_with fail
        refine (rNextSub_any _ _ HS.out HT.out _).mono ?_
        rintro e w' ⟨rfl, rfl⟩
        go_wp2_with fail
        go_ret
        exact ⟨rfl, hb1⟩
      · rw [HY.out hf]
        have HF := Lib.hid hf
        clear hf
        by_cases hr : n < 0
        · go_wp2_with fail
          refine (next_yes _ _ HS.out HF.out _ HTab1.out).mono ?_
          rintro e w' ⟨rfl, rfl⟩
          go_wp2_with fail
          refine (nth_no _ _ HS.out (by omega) _).mono ?_
          rintro e w' ⟨rfl, rfl⟩
          go_wp2_with fail
          refine (rank_any _ _ HS.out _).mono ?_
          rintro e w' ⟨rfl, rfl⟩
          go_wp2_with fail
          refine (even_any _ HS.out _).mono ?_
          rintro e w' ⟨rfl, rfl⟩
          go_wp2_with fail
          refine (rEvenSet_any _ HS.out _).mono ?_
          rintro e w' ⟨rfl, rfl⟩
          go_wp2_with fail
          refine (sub_any _ _ HS.out HT.out _).mono ?_
          rintro e w' ⟨rfl, rfl⟩
          go_wp2_with fail
          refine (rNextSub_any _ _ HS.out HT.out _).mono ?_
          rintro e w' ⟨rfl, rfl⟩
          go_wp2_with fail
          go_ret
          exact ⟨rfl, hb1⟩
        by_cases hr2 : ((nums s).length : Int) ≤ n
        · go_wp2_with fail
          refine (next_yes _ _ HS.out HF.out _ HTab1.out).mono ?_
          rintro e w' ⟨rfl, rfl⟩
          go_wp2_with fail
          refine (nth_no _ _ HS.out (by omega) _).mono ?_
          rintro e w' ⟨rfl, rfl⟩
          go_wp2_with fail
          refine (rank_any _ _ HS.out _).mono ?_
          rintro e w' ⟨rfl, rfl⟩
          go_wp2_with fail
          refine (even_any _ HS.out _).mono ?_
          rintro e w' ⟨rfl, rfl⟩
          go_wp2_with fail
          refine (rEvenSet_any _ HS.out _).mono ?_
          rintro e w' ⟨rfl, rfl⟩
          go_wp2_with fail
          refine (sub_any _ _ HS.out HT.out _).mono ?_
          rintro e w' ⟨rfl, rfl⟩
          go_wp2_with fail
          refine (rNextSub_any _ _ HS.out HT.out _).mono ?_
          rintro e w' ⟨rfl, rfl⟩
          go_wp2_with fail
          go_ret
          exact ⟨rfl, hb1⟩
        obtain ⟨m, rfl⟩ := Int.eq_ofNat_of_zero_le (by omega : 0 ≤ n)
        have hmk : m < (nums s).length := by omega
        obtain ⟨b, o, rfl, hc⟩ := HO.out.at_ (k := m) (by simpa using hmk)
        have hc' : w1.cell? ⟨b, o + m, none⟩ = some (.int .i64 ((nums s)[m]?.getD 0 : Nat)) := by rw [hc]; simp [nv, hmk]
        clear hc
        go_wp2_with fail
        refine (next_yes _ _ HS.out HF.out _ HTab1.out).mono ?_
        rintro e w' ⟨rfl, rfl⟩
        go_wp2_with fail
        refine (nth_yes _ _ HS.out (by omega) _ HTab1.out).mono ?_
        rintro e w' ⟨rfl, rfl⟩
        go_wp2_with fail
        refine (rank_any _ _ HS.out _).mono ?_
        rintro e w' ⟨rfl, rfl⟩
        go_wp2_with fail
        refine (even_any _ HS.out _).mono ?_
        rintro e w' ⟨rfl, rfl⟩
        go_wp2_with fail
        refine (rEvenSet_any _ HS.out _).mono ?_
        rintro e w' ⟨rfl, rfl⟩
        go_wp2_with fail
        refine (sub_any _ _ HS.out HT.out _).mono ?_
        rintro e w' ⟨rfl, rfl⟩
        go_wp2_with fail
        refine (rNextSub_any _ _ HS.out HT.out _).mono ?_
        rintro e w' ⟨rfl, rfl⟩
        go_wp2_with fail
        go_ret
        exact ⟨rfl, hb1⟩
end Go.Proofs.YtkcalnjapmpcaaaDoor
