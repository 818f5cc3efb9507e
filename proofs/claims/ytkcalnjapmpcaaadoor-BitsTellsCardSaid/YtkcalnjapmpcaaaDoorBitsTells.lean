/- The law BitsTells: its walk: for every list, set and number it returns true and leaves what was there. Conditions: the list's length is below 2^63; the table of math/bits lies. -/
import Derived.Test.YtkcalnjapmpcaaaDoorBits4
import Derived.Test.YtkcalnjapmpcaaaDoorEqInt
namespace Go.Proofs.YtkcalnjapmpcaaaDoor
open Go.RowKit

theorem of_yes {A : Option Addr} {n c : Nat} (l : List Int) (w : World) (hl : Rd w A (l.map (.int .i64))) (hn : l.length = n) (hb : n ≤ 9223372036854775807) (h : okNums l = true) :
    Calls Tryd.prog 6 #[.slice A n c] w fun e w' => e = .returned (.tuple #[.int .u64 (setOf l : Nat), .int .i64 0]) ∧ w = w' :=
  (of_any l w hl hn hb).mono fun e w' ⟨he, hw⟩ => ⟨by rw [he, h]; rfl, hw⟩
theorem of_no {A : Option Addr} {n c : Nat} (l : List Int) (w : World) (hl : Rd w A (l.map (.int .i64))) (hn : l.length = n) (hb : n ≤ 9223372036854775807) (h : okNums l = false) :
    Calls Tryd.prog 6 #[.slice A n c] w fun e w' => e = .returned (.tuple #[.int .u64 0, .int .i64 4]) ∧ w = w' :=
  (of_any l w hl hn hb).mono fun e w' ⟨he, hw⟩ => ⟨by rw [he, h]; rfl, hw⟩
theorem setOf_yes {A : Option Addr} {n c : Nat} (l : List Int) (w : World) (hl : Rd w A (l.map (.int .i64))) (hn : l.length = n) (hb : n ≤ 9223372036854775807) (h : okNums l = true) :
    Calls Tryd.prog 8 #[.slice A n c] w fun e w' => e = .returned (.tuple #[.int .u64 (setOf l : Nat), .bool true]) ∧ w = w' :=
  (setOf_any l w hl hn hb).mono fun e w' ⟨he, hw⟩ => ⟨by rw [he, h]; rfl, hw⟩
theorem setOf_no {A : Option Addr} {n c : Nat} (l : List Int) (w : World) (hl : Rd w A (l.map (.int .i64))) (hn : l.length = n) (hb : n ≤ 9223372036854775807) (h : okNums l = false) :
    Calls Tryd.prog 8 #[.slice A n c] w fun e w' => e = .returned (.tuple #[.int .u64 0, .bool false]) ∧ w = w' :=
  (setOf_any l w hl hn hb).mono fun e w' ⟨he, hw⟩ => ⟨by rw [he, h]; rfl, hw⟩
/-- slices.Equal at two lists of numbers. -/
theorem slEq_nv {A1 A2 : Option Addr} {n1 n2 c1 c2 : Nat} (xs ys : List Nat) {w : World} (h1 : Rd w A1 (xs.map nv)) (h2 : Rd w A2 (ys.map nv))
    (e1 : xs.length = n1) (e2 : ys.length = n2) (hx : n1 ≤ 9223372036854775807) (hy : n2 ≤ 9223372036854775807) :
    Calls Tryd.prog 11 #[.slice A1 n1 c1, .slice A2 n2 c2] w fun e w' => e = .returned (.bool (decide (xs = ys))) ∧ Below w.heap.size w w' := by
  have hm : ∀ zs : List Nat, zs.map nv = (zs.map (fun k : Nat => (k : Int))).map (.int .i64) := fun zs => by
    rw [List.map_map]; rfl
  rw [hm] at h1 h2
  refine (slEq_int_n _ _ h1 h2 (by simpa using e1) (by simpa using e2) hx hy).mono fun e w' ⟨he, hb⟩ => ⟨?_, hb⟩
  rw [he]
  apply ret_bool
  rw [Bool.eq_iff_iff]
  simp only [decide_eq_true_eq]
  constructor
  · intro h
    exact List.map_inj_right (fun a b hab => by omega) |>.1 h
  · intro h; rw [h]

theorem bitsTells_walk (A : Option Addr) (m c : Nat) (l : List Int) (s : Nat) (n : Int) (w : World) (hl : Rd w A (l.map (.int .i64))) (hm : l.length = m) (hmb : m ≤ 9223372036854775807) (hs : B64 s) (ht : Tab w) :
    Calls Tryd.prog 3 #[.slice A m c, .int .u64 s, .int .i64 n] w fun e w' => e = .returned (.bool true) ∧ Below w.heap.size w w' := by
  have HS := Lib.hid hs
  have HT := Lib.hid ht
  have HM := Lib.hid hm
  have hlen := nums_len s
  clear hs ht hm
  by_cases hr : n < 0 ∨ 64 < n
  all_goals cases hok : okNums l
  all_goals have HO := Lib.hid hok
  all_goals clear hok
  · rcases hr with hr | hr
    all_goals
      first | (have hr' : ¬ n < 0 := by omega) | skip
      go_enter Tryd.func3, Tryd.ntmps3
      go_wp2_with fail
      refine (of_no l _ hl HM.out hmb HO.out).mono ?_
      rintro e w' ⟨rfl, rfl⟩
      go_wp2_with fail
      refine (pBelow_no _ (by omega) _).mono ?_
      rintro e w' ⟨rfl, rfl⟩
      go_wp2_with fail
      refine (setOf_no l _ hl HM.out hmb HO.out).mono ?_
      rintro e w' ⟨rfl, rfl⟩
      go_wp2_with fail
      refine (rNumbers_any _ HS.out _).mono ?_
      rintro e w1 ⟨A1, c1, rfl, hown1, hb1⟩
      go_wp2_with fail
      refine (list_any _ HS.out _ (HT.out.below hb1)).mono ?_
      rintro e w2 ⟨A2, c2, rfl, hown2, hb2⟩
      go_wp2_with fail
      refine (slEq_nv _ _ (Rd.of_own hown2) ((Rd.of_own hown1).below hb2) rfl rfl (by omega) (by omega)).mono ?_
      rintro e w3 ⟨rfl, hb3⟩
      go_wp2_with fail
      refine (count_any _ HS.out _).mono ?_
      rintro e w' ⟨rfl, rfl⟩
      go_wp2_with fail
      go_ret
      exact ⟨rfl, below_then (below_then hb1 hb2) hb3⟩
  · rcases hr with hr | hr
    all_goals
      first | (have hr' : ¬ n < 0 := by omega) | skip
      go_enter Tryd.func3, Tryd.ntmps3
      go_wp2_with fail
      refine (of_yes l _ hl HM.out hmb HO.out).mono ?_
      rintro e w' ⟨rfl, rfl⟩
      go_wp2_with fail
      refine (pBelow_no _ (by omega) _).mono ?_
      rintro e w' ⟨rfl, rfl⟩
      go_wp2_with fail
      refine (setOf_yes l _ hl HM.out hmb HO.out).mono ?_
      rintro e w' ⟨rfl, rfl⟩
      go_wp2_with fail
      refine (rNumbers_any _ HS.out _).mono ?_
      rintro e w1 ⟨A1, c1, rfl, hown1, hb1⟩
      go_wp2_with fail
      refine (list_any _ HS.out _ (HT.out.below hb1)).mono ?_
      rintro e w2 ⟨A2, c2, rfl, hown2, hb2⟩
      go_wp2_with fail
      refine (slEq_nv _ _ (Rd.of_own hown2) ((Rd.of_own hown1).below hb2) rfl rfl (by omega) (by omega)).mono ?_
      rintro e w3 ⟨rfl, hb3⟩
      go_wp2_with fail
      refine (count_any _ HS.out _).mono ?_
      rintro e w' ⟨rfl, rfl⟩
      go_wp2_with fail
      go_ret
      exact ⟨rfl, below_then (below_then hb1 hb2) hb3⟩
  · have h0 : 0 ≤ n := by omega
    have h1 : n ≤ 64 := by omega
    all_goals
      go_enter Tryd.func3, Tryd.ntmps3
      go_wp2_with fail
      refine (of_no l _ hl HM.out hmb HO.out).mono ?_
      rintro e w' ⟨rfl, rfl⟩
      go_wp2_with fail
      refine (pBelow_yes _ h0 h1 _).mono ?_
      rintro e w' ⟨rfl, rfl⟩
      go_wp2_with fail
      refine (setOf_no l _ hl HM.out hmb HO.out).mono ?_
      rintro e w' ⟨rfl, rfl⟩
      go_wp2_with fail
      refine (rUpTo_int _ h0 h1 _).mono ?_
      rintro e w' ⟨rfl, rfl⟩
      go_wp2_with fail
      refine (rNumbers_any _ HS.out _).mono ?_
      rintro e w1 ⟨A1, c1, rfl, hown1, hb1⟩
      go_wp2_with fail
      refine (list_any _ HS.out _ (HT.out.below hb1)).mono ?_
      rintro e w2 ⟨A2, c2, rfl, hown2, hb2⟩
      go_wp2_with fail
      refine (slEq_nv _ _ (Rd.of_own hown2) ((Rd.of_own hown1).below hb2) rfl rfl (by omega) (by omega)).mono ?_
      rintro e w3 ⟨rfl, hb3⟩
      go_wp2_with fail
      refine (count_any _ HS.out _).mono ?_
      rintro e w' ⟨rfl, rfl⟩
      go_wp2_with fail
      go_ret
      exact ⟨rfl, below_then (below_then hb1 hb2) hb3⟩
  · have h0 : 0 ≤ n := by omega
    have h1 : n ≤ 64 := by omega
    all_goals
      go_enter Tryd.func3, Tryd.ntmps3
      go_wp2_with fail
      refine (of_yes l _ hl HM.out hmb HO.out).mono ?_
      rintro e w' ⟨rfl, rfl⟩
      go_wp2_with fail
      refine (pBelow_yes _ h0 h1 _).mono ?_
      rintro e w' ⟨rfl, rfl⟩
      go_wp2_with fail
      refine (setOf_yes l _ hl HM.out hmb HO.out).mono ?_
      rintro e w' ⟨rfl, rfl⟩
      go_wp2_with fail
      refine (rUpTo_int _ h0 h1 _).mono ?_
      rintro e w' ⟨rfl, rfl⟩
      go_wp2_with fail
      refine (rNumbers_any _ HS.out _).mono ?_
      rintro e w1 ⟨A1, c1, rfl, hown1, hb1⟩
      go_wp2_with fail
      refine (list_any _ HS.out _ (HT.out.below hb1)).mono ?_
      rintro e w2 ⟨A2, c2, rfl, hown2, hb2⟩
      go_wp2_with fail
      refine (slEq_nv _ _ (Rd.of_own hown2) ((Rd.of_own hown1).below hb2) rfl rfl (by omega) (by omega)).mono ?_
      rintro e w3 ⟨rfl, hb3⟩
      go_wp2_with fail
      refine (count_any _ HS.out _).mono ?_
      rintro e w' ⟨rfl, rfl⟩
      go_wp2_with fail
      go_ret
      exact ⟨rfl, below_then (below_then hb1 hb2) hb3⟩
end Go.Proofs.YtkcalnjapmpcaaaDoor
