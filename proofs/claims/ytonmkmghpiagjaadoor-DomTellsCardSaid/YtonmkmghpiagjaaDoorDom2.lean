/- Contract of the reference: RuledBy. The rows are good. -/
import Derived.Test.YtonmkmghpiagjaaDoorDom1
import Derived.Test.YtonmkmghpiagjaaDoorQuiet
import Derived.Deep.RegionHeld3
namespace Go.Proofs.YtonmkmghpiagjaaDoor
open Go.RowKit

theorem inRows_two {l : List Nat} {k : Nat} (h : k < l.length) : InRows l (2 ^ k) := fun j hj => by
  rw [Nat.testBit_two_pow] at hj
  have : k = j := of_decide_eq_true hj
  omega
theorem domR_b64 {l : List Nat} (hg : Good l) {root : Nat} (h : root < l.length) : B64 (reachD l (2 ^ root) (-1)) := (reachD_in hg (inRows_two h) (-1)).b64 hg

set_option maxHeartbeats 4000000 in
theorem rRuledBy_any {A : Option Addr} {n c : Nat} (l : List Nat) (root b : Nat) (w : World) (h1 : Rd w A (l.map uv)) (hl : l.length = n) (hg : Good l) (hr : root < n) (hb : b < n) :
    Calls Tryd.prog 47 #[.slice A n c, .int .i64 (root : Int), .int .i64 (b : Int)] w fun e w' => e = .returned (.int .u64 (ruledBy l root b : Nat)) ∧ Below w.heap.size w w' := by
  have hn : n ≤ 64 := by have := hg.1; omega
  have HL := Lib.hid hl
  have HG := Lib.hid hg
  have H1 := Lib.hid h1
  have HIR := Lib.hid (inRows_two (l := l) (k := root) (by omega))
  have hsh := shl_raw root (by omega)
  have HRB := Lib.hid (domR_b64 hg (root := root) (by omega))
  clear hl hg h1
  go_enter Tryd.func47, Tryd.ntmps47
  go_wp2_with fail
  refine (rSteps_any l (2 ^ root) (-1) w H1.out HL.out HG.out HIR.out (by omega) (by omega)).mono ?_
  rintro e w' ⟨rfl, rfl⟩
  go_wp2_with fail
  refine (in_nat _ HRB.out b w).mono ?_
  rintro e w' ⟨rfl, rfl⟩
  cases hq : (reachD l (2 ^ root) (-1)).testBit b with
  | false =>
    have HE : Hid (ruledBy l root b = 0) := Lib.hid (by unfold ruledBy domR; rw [hq]; rfl)
    clear hq
    go_wp2_with fail
    go_ret
    exact ⟨ret_int (by rw [HE.out]; rfl), Below.refl _ _⟩
  | true =>
    have HE : Hid (ruledBy l root b = domS l root b n) := Lib.hid (by unfold ruledBy domR; rw [hq, HL.out]; rfl)
    clear hq
    go_wp2_with fail
    go_loopw [7, 8, 18] (fun o _ i wr => ∃ k : Nat, k ≤ n ∧ i = .int .i64 k ∧ o = .int .u64 (domS l root b k : Nat) ∧ Hid (Below w.heap.size w wr)) (fun _ _ i _ => n - (intOf i).toNat)
    case atStart => exact ⟨0, by omega, rfl, rfl, Lib.hid (Below.refl _ _)⟩
    case round =>
      obtain ⟨k, hk, rfl, rfl, hbl⟩ := hrel
      by_cases hkl : k < n
      · have HDB := Lib.hid (domS_b64 l root b (k := k) (by omega))
        have her := or_raw (domS l root b k) k (domS_b64 l root b (k := k) (by omega)) (by omega)
        by_cases hkr : k = root ∨ k = b
        · have HS : Hid (domS l root b (k + 1) = addN (domS l root b k) k) := Lib.hid (by rw [domS, if_pos]; unfold domA; rcases hkr with h | h <;> simp [h])
          generalize domS l root b k = S at *
          by_cases hk1 : k = root
          · subst hk1
            have her2 : bits .or .u64 (S : Int) ((2 : Int) ^ k) = (addN S k : Nat) := by rw [hsh] at her; simpa using her
            clear hkr
            go_wp2_with fail
            go_quiet (fail)
            go_wp2_with fail
            go_roundw
            case rel => exact ⟨k + 1, by omega, by go_num, by rw [HS.out], Lib.hid (below_drewN hbl.out _)⟩
            case measure => simp [intOf]; omega
          · obtain rfl : k = b := by omega
            have hz : (((k : Int)) == (root : Int)) = false := by simp; omega
            clear hkr
            go_wp2_with fail
            go_quiet (fail)
            go_wp2_with fail
            go_roundw
            case rel => exact ⟨k + 1, by omega, by go_num, by rw [HS.out], Lib.hid (below_drewN hbl.out _)⟩
            case measure => simp [intOf]; omega
        · have hz1 : (((k : Int)) == (root : Int)) = false := by simp; omega
          have hz2 : (((k : Int)) == (b : Int)) = false := by simp; omega
          have HWO := Lib.hid (fun (W : World) (hW : Below w.heap.size w W) => rWithout_any (c := c) l k W (H1.out.below hW) HL.out HG.out hkl)
          have HWG := Lib.hid (withoutL_good HG.out (a := k) (by have := HL.out; omega))
          have HWL : Hid ((withoutL l k).length = n) := Lib.hid (by rw [withoutL_len]; exact HL.out)
          have HIW := Lib.hid (inRows_two (l := withoutL l k) (k := root) (by rw [HWL.out]; exact hr))
          have HWB := Lib.hid (domR_b64 HWG.out (root := root) (by rw [HWL.out]; exact hr))
          have HDK : Hid (domA l root b k = !(reachD (withoutL l k) (2 ^ root) (-1)).testBit b) := Lib.hid (by unfold domA domR; have h1 : ¬ k = root := fun h => hkr (.inl h); have h2 : ¬ k = b := fun h => hkr (.inr h); simp [h1, h2])
          have HS : Hid (domS l root b (k + 1) = if domA l root b k then addN (domS l root b k) k else domS l root b k) := Lib.hid rfl
          rw [HDK.out] at HS
          clear hkr HDK
          generalize domS l root b k = S at *
          have hbw := hbl.out
          clear hbl
          go_wp2_with fail
          go_region_held3 (fun w' => Below w.heap.size w w') ((first | assumption | exact below_drewN (by assumption) 1)) ((first
            | (go_at_call 21; refine (HWO.out _ (below_drewN hbw 1)).mono ?_; rintro e w5 ⟨A5, c5, rfl, hown5, hb5⟩; have B5 := below_then (below_drewN hbw 1) hb5; have R5 := Rd.of_own hown5)
            | (go_at_call 22; refine (rSteps_any (withoutL l k) (2 ^ root) (-1) _ (show Rd _ _ _ from R5) HWL.out HWG.out HIW.out (by omega) (by omega)).mono ?_; rintro e w' ⟨rfl, rfl⟩)
            | (go_at_call 17; refine (in_nat _ HWB.out b _).mono ?_; rintro e w' ⟨rfl, rfl⟩)))
          have HB5 := Lib.hid B5
          clear B5 R5 hown5 hb5 hbw
          cases hq2 : (reachD (withoutL l k) (2 ^ root) (-1)).testBit b with
          | true =>
            rw [hq2] at HS
            clear hq2
            go_wp2_with fail
            go_roundw
            case rel => exact ⟨k + 1, by omega, by go_num, by rw [HS.out]; rfl, HB5⟩
            case measure => simp [intOf]; omega
          | false =>
            rw [hq2] at HS
            clear hq2
            go_wp2_with fail
            go_roundw
            case rel => exact ⟨k + 1, by omega, by go_num, by rw [HS.out]; rfl, HB5⟩
            case measure => simp [intOf]; omega
      · obtain rfl : k = n := by omega
        go_wp2_with fail
        go_ret
        exact ⟨ret_int (by rw [HE.out]), hbl.out⟩
end Go.Proofs.YtonmkmghpiagjaaDoor
