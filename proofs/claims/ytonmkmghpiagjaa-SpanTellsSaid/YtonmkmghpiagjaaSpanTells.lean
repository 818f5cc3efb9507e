/- The law SpanTells: its walk: for every two times and every list of times it returns true and leaves what was there. The list takes at most 2^47 bytes. -/
import Derived.Test.YtonmkmghpiagjaaSpan4
import Derived.Test.YtonmkmghpiagjaaSpan6
namespace Go.Proofs.Ytonmkmghpiagjaa
open Go.RowKit

set_option maxRecDepth 100000 in
set_option maxHeartbeats 2000000 in
theorem spanTells_walk (a b : UInt64) (A : Option Addr) (c : Nat) (l : List UInt64) (w : World) (h1 : Rd w A (l.map fv)) (hb0 : l.length * 8 ≤ 140737488351232) :
    Calls Try.prog 3 #[fv a, fv b, .slice A l.length c] w fun e w' => e = .returned (.bool true) ∧ Below w.heap.size w w' := by
  generalize hn : l.length = n at *
  have H1 := Lib.hid h1
  have HN := Lib.hid hn
  have hb : n * 8 ≤ 140737488355328 := by omega
  have hnb : n ≤ 9223372036854775807 := by omega
  have HTL : Hid ((tsort l).length = n) := Lib.hid (by rw [tsort_len]; exact hn)
  have C1 := Lib.hid (right_any a)
  have C2 := Lib.hid (rRight_any a)
  have C3 := Lib.hid (tOrder_any a b)
  have C4 := Lib.hid (rTimeOrder_any a b)
  have r1 : (rightT a == rightT a) = true := by simp
  have r2 : (cfT a b == cfT a b) = true := by simp
  clear h1 hn hb0
  unfold fv at C1 C2 C3 C4 ⊢
  go_enter Try.func3, Try.ntmps3
  go_wp2_with fail
  refine (rTimesSorted_any l _ H1.out HN.out hb).mono ?_
  rintro e w1 ⟨A1, c1, rfl, hown, hb1⟩
  have HS1 := Lib.hid (Rd.of_own hown)
  have B1 := Lib.hid hb1
  clear hown hb1
  rcases Nat.eq_zero_or_pos n with h0 | h0
  · subst h0
    have hl : l = [] := List.eq_nil_of_length_eq_zero HN.out
    have HZ : Hid ((mostT l).toNat = 0) := Lib.hid (by subst hl; simp [mostT, tsort])
    have HY : Hid ((mostT l).toNat = 0) := HZ
    clear hl
    go_wp2_with fail
    refine (C1.out _).mono ?_
    rintro e w' ⟨rfl, rfl⟩
    go_wp2_with fail
    refine (C2.out _).mono ?_
    rintro e w' ⟨rfl, rfl⟩
    go_wp2_with fail
    refine (C3.out _).mono ?_
    rintro e w' ⟨rfl, rfl⟩
    go_wp2_with fail
    refine (C4.out _).mono ?_
    rintro e w' ⟨rfl, rfl⟩
    go_wp2_with fail
    refine (tSum_any l _ (H1.out.below B1.out) HN.out hnb).mono ?_
    rintro e w2 ⟨rfl, hbn⟩
    have B2 := Lib.hid (below_then B1.out hbn)
    have HS2 := Lib.hid (HS1.out.below hbn)
    clear hbn
    go_wp2_with fail
    refine (rTimeSum_any l _ (H1.out.below B2.out) HN.out hnb).mono ?_
    rintro e w3 ⟨rfl, hbn⟩
    have B3 := Lib.hid (below_then B2.out hbn)
    have HS3 := Lib.hid (HS2.out.below hbn)
    clear hbn
    go_wp2_with fail
    refine (sameBits_nat _ _ _).mono ?_
    rintro e w' ⟨rfl, rfl⟩
    rw [decide_eq_true (rfl : sumT l = sumT l)]
    go_wp2_with fail
    refine (tSort_any l _ (H1.out.below B3.out) HN.out hb).mono ?_
    rintro e w4 ⟨A4, c4, rfl, hown, hbn⟩
    have B4 := Lib.hid (below_then B3.out hbn)
    have HS4 := Lib.hid (HS3.out.below hbn)
    have HQ4 := Lib.hid (Rd.of_own hown)
    clear hown hbn
    go_wp2_with fail
    refine (sameTimes_self (tsort l) _ HQ4.out HS4.out HTL.out hnb).mono ?_
    rintro e w5 ⟨rfl, hbn⟩
    have B5 := Lib.hid (below_then B4.out hbn)
    clear hbn
    go_wp2_with fail
    refine (tMost_any l _ (H1.out.below B5.out) HN.out hnb).mono ?_
    rintro e w' ⟨rfl, rfl⟩
    go_wp2_with fail
    refine (sameBits_nat _ _ _).mono ?_
    rintro e w' ⟨rfl, rfl⟩
    rw [decide_eq_true HY.out]
    go_wp2_with fail
    go_ret
    exact ⟨rfl, B5.out⟩
  · obtain ⟨x, hx⟩ : ∃ x, (tsort l)[n - 1]? = some x := ⟨_, List.getElem?_eq_getElem (by rw [HTL.out]; omega)⟩
    have HX : Hid (x = mostT l) := Lib.hid (by
      unfold mostT
      rw [List.getLast?_eq_getElem?, HTL.out, hx]; rfl)
    obtain ⟨bq, oq, rfl, hcq⟩ := HS1.out.fcell hx
    have HY : Hid ((mostT l).toNat = x.toNat) := Lib.hid (by rw [HX.out])
    clear hx
    go_wp2_with fail
    refine (C1.out _).mono ?_
    rintro e w' ⟨rfl, rfl⟩
    go_wp2_with fail
    refine (C2.out _).mono ?_
    rintro e w' ⟨rfl, rfl⟩
    go_wp2_with fail
    refine (C3.out _).mono ?_
    rintro e w' ⟨rfl, rfl⟩
    go_wp2_with fail
    refine (C4.out _).mono ?_
    rintro e w' ⟨rfl, rfl⟩
    go_wp2_with fail
    refine (tSum_any l _ (H1.out.below B1.out) HN.out hnb).mono ?_
    rintro e w2 ⟨rfl, hbn⟩
    have B2 := Lib.hid (below_then B1.out hbn)
    have HS2 := Lib.hid (HS1.out.below hbn)
    clear hbn
    go_wp2_with fail
    refine (rTimeSum_any l _ (H1.out.below B2.out) HN.out hnb).mono ?_
    rintro e w3 ⟨rfl, hbn⟩
    have B3 := Lib.hid (below_then B2.out hbn)
    have HS3 := Lib.hid (HS2.out.below hbn)
    clear hbn
    go_wp2_with fail
    refine (sameBits_nat _ _ _).mono ?_
    rintro e w' ⟨rfl, rfl⟩
    rw [decide_eq_true (rfl : sumT l = sumT l)]
    go_wp2_with fail
    refine (tSort_any l _ (H1.out.below B3.out) HN.out hb).mono ?_
    rintro e w4 ⟨A4, c4, rfl, hown, hbn⟩
    have B4 := Lib.hid (below_then B3.out hbn)
    have HS4 := Lib.hid (HS3.out.below hbn)
    have HQ4 := Lib.hid (Rd.of_own hown)
    clear hown hbn
    go_wp2_with fail
    refine (sameTimes_self (tsort l) _ HQ4.out HS4.out HTL.out hnb).mono ?_
    rintro e w5 ⟨rfl, hbn⟩
    have B5 := Lib.hid (below_then B4.out hbn)
    clear hbn
    go_wp2_with fail
    refine (tMost_any l _ (H1.out.below B5.out) HN.out hnb).mono ?_
    rintro e w' ⟨rfl, rfl⟩
    go_wp2_with fail
    refine (sameBits_nat _ _ _).mono ?_
    rintro e w' ⟨rfl, rfl⟩
    rw [decide_eq_true HY.out]
    go_wp2_with fail
    go_ret
    exact ⟨rfl, B5.out⟩
end Go.Proofs.Ytonmkmghpiagjaa
