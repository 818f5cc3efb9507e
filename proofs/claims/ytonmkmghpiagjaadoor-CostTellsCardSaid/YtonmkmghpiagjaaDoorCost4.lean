/- Contracts of the reference: CostFault, DoneTimes. Rows below 2^64; for DoneTimes they have an order, and the times are right. -/
import Derived.Test.YtonmkmghpiagjaaDoorCost3
import Derived.Test.YtonmkmghpiagjaaDoorOrd
namespace Go.Proofs.YtonmkmghpiagjaaDoor
open Go.RowKit

theorem ord_less {l : List Nat} (hg : Good l) : (((ordL l).length : Int) < (l.length : Int)) ↔ ordR l ≠ 0 := by
  have h := ord_full hg
  have h2 := ord_len hg
  constructor
  · intro hlt h0
    have := h.2 h0
    omega
  · intro hne
    have : (ordL l).length ≠ l.length := fun e => hne (h.1 e)
    omega
set_option maxHeartbeats 1000000 in
theorem rCostFault_any {A A2 : Option Addr} {n c m c2 : Nat} (l : List Nat) (d : List UInt64) (w : World) (h1 : Rd w A (l.map uv)) (hl : l.length = n) (hnb : n ≤ 9223372036854775807) (hb : Rows64 l) (h2 : Rd w A2 (d.map fv)) (hm : d.length = m) (hmb : m ≤ 9223372036854775807) :
    Calls Tryd.prog 35 #[.slice A n c, .slice A2 m c2] w fun e w' => e = .returned (.int .i64 (costErr l d)) ∧ Below w.heap.size w w' := by
  have HF := Lib.hid (rRowsFault_any (A2 := none) (c := c) (c2 := 0) l [] w h1 hl hnb hb (Rd.nil_ _ _) rfl (by simp) (rowAt_all (by simp)))
  have H1 := Lib.hid h1
  have H2 := Lib.hid h2
  have HL := Lib.hid hl
  have HM := Lib.hid hm
  have HB := Lib.hid hb
  clear h1 hl hb h2 hm
  by_cases hf : faultOf l [] = 0
  · by_cases hlen : m = n
    · have HE : Hid (d.any wrongT = true → costErr l d = 1) := Lib.hid (fun hq => by unfold costErr; rw [if_neg (by simp [hf]), if_pos (.inr hq)])
      have HE2 : Hid (d.any wrongT = false → costErr l d = if ordR l ≠ 0 then 8 else 0) := Lib.hid (fun hq => by unfold costErr; rw [if_neg (by simp [hf]), if_neg (by rw [HL.out, HM.out, hq]; simp [hlen])])
      have HG := Lib.hid (faultOf_ok HB.out (by simp) hf).1
      have HF0 := Lib.hid hf
      clear hf
      subst hlen
      go_enter Tryd.func35, Tryd.ntmps35
      go_wp2_with fail
      refine HF.out.mono ?_
      rintro e w1 ⟨rfl, hb1⟩
      rw [HF0.out]
      have B1 := Lib.hid hb1
      clear hb1 HF
      go_wp2_with fail
      go_loop [7, 20] (fun _ i => ∃ k : Nat, k ≤ m ∧ i = .int .i64 (k : Int) ∧ Hid (∀ j, j < k → wrongT (d[j]?.getD 0) = false)) (fun _ i => m - (intOf i).toNat)
      case atStart => exact ⟨0, by omega, rfl, Lib.hid (fun j hj => absurd hj (by omega))⟩
      case round =>
        obtain ⟨k, hk, rfl, hall⟩ := hrel
        by_cases hlt : k < m
        · obtain ⟨x, hx⟩ : ∃ x, d[k]? = some x := ⟨_, List.getElem?_eq_getElem (by rw [HM.out]; exact hlt)⟩
          obtain ⟨b, off, rfl, hc⟩ := (H2.out.below B1.out).fcell hx
          have HX := Lib.hid hx
          have HW := Lib.hid (rRight_any x)
          have HFV : Hid (fv x = .float .f64 x.toNat) := Lib.hid rfl
          clear hx
          cases hq : rightT x with
          | false =>
            have HA := Lib.hid (HE.out (List.any_eq_true.2 ⟨x, List.mem_of_getElem? HX.out, by unfold wrongT; rw [hq]; rfl⟩))
            have HQ := Lib.hid hq
            clear hq
            go_wp2_with fail
            rw [← HFV.out]
            refine (HW.out _).mono ?_
            rintro e w' ⟨rfl, rfl⟩
            rw [HQ.out]
            go_wp2_with fail
            go_ret
            exact ⟨ret_int HA.out.symm, B1.out⟩
          | true =>
            have HA : Hid (∀ j, j < k + 1 → wrongT (d[j]?.getD 0) = false) := Lib.hid (fun j hj => by
              rcases Nat.lt_or_ge j k with h | h
              · exact hall.out j h
              · obtain rfl : j = k := by omega
                rw [HX.out]; unfold wrongT; simp [hq])
            have HQ := Lib.hid hq
            clear hq
            go_wp2_with fail
            rw [← HFV.out]
            refine (HW.out _).mono ?_
            rintro e w' ⟨rfl, rfl⟩
            rw [HQ.out]
            go_wp2_with fail
            go_round
            case rel => exact ⟨k + 1, by omega, by go_num, HA⟩
            case measure => simp [intOf]; omega
        · obtain rfl : k = m := by omega
          have HC := Lib.hid (HE2.out (wrong_all HM.out hall.out))
          have HOR := Lib.hid (rOrdered_any (c := c) l w1 (H1.out.below B1.out) HL.out HG.out)
          have hol := ord_less HG.out
          rw [HL.out] at hol
          have holen := ord_len HG.out
          have hn64 := HG.out.1
          rw [HL.out] at hn64 holen
          have HOL := Lib.hid hol
          clear hol hall
          go_wp2_with fail
          refine HOR.out.mono ?_
          rintro e w2 ⟨A5, c5, rfl, hown5, hb5⟩
          have B2 := Lib.hid (below_then B1.out hb5)
          clear hown5 hb5
          by_cases hr : ordR l = 0
          · have hlt' : ¬ (((ordL l).length : Int) < (k : Int)) := fun h => (HOL.out.1 h) hr
            have HC2 : Hid (costErr l d = 0) := Lib.hid (by rw [HC.out, if_neg (by simp [hr])])
            clear hr
            generalize (ordL l).length = q at *
            go_wp2_with fail
            go_ret
            exact ⟨ret_int HC2.out.symm, B2.out⟩
          · have hlt' : (((ordL l).length : Int) < (k : Int)) := HOL.out.2 hr
            have HC2 : Hid (costErr l d = 8) := Lib.hid (by rw [HC.out, if_pos hr])
            clear hr
            generalize (ordL l).length = q at *
            go_wp2_with fail
            go_ret
            exact ⟨ret_int HC2.out.symm, B2.out⟩
    · have HE : Hid (costErr l d = 1) := Lib.hid (by unfold costErr; rw [if_neg (by simp [hf]), if_pos (.inl (by rw [HL.out, HM.out]; exact hlen))])
      have hmn : ((m : Int) != (n : Int)) = true := by simp; omega
      have HF0 := Lib.hid hf
      clear hf hlen
      go_enter Tryd.func35, Tryd.ntmps35
      go_wp2_with fail
      refine HF.out.mono ?_
      rintro e w1 ⟨rfl, hb1⟩
      rw [HF0.out]
      go_wp2_with fail
      go_ret
      exact ⟨ret_int HE.out.symm, hb1⟩
  · have HE : Hid (costErr l d = faultOf l []) := Lib.hid (by unfold costErr; rw [if_pos hf])
    have hz := fault_ne hf
    clear hf
    go_enter Tryd.func35, Tryd.ntmps35
    go_wp2_with fail
    refine HF.out.mono ?_
    rintro e w1 ⟨rfl, hb1⟩
    go_wp2_with fail
    go_ret
    exact ⟨ret_int HE.out.symm, hb1⟩
end Go.Proofs.YtonmkmghpiagjaaDoor
