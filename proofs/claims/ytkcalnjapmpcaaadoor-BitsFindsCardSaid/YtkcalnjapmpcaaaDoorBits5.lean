/- Contracts: Even, EvenSet, Sub, NextSub. Sets are below 2^64. -/
import Derived.Test.YtkcalnjapmpcaaaDoorBits3
import Derived.Test.YtkcalnjapmpcaaaDoorSets2
namespace Go.Proofs.YtkcalnjapmpcaaaDoor
open Go.RowKit

theorem step_raw (s : Nat) (k : Nat) (m : Int) (hm : m = ((2 ^ k : Nat) : Int)) (h : B64 s) : bits .xor .u64 (s : Int) (IntKind.u64.wrap ((s : Int) * m)) = (evenStep k s : Nat) := by
  have e : IntKind.u64.wrap ((s : Int) * m) = ((s * 2 ^ k % 18446744073709551616 : Nat) : Int) := by
    rw [hm, IntKind.wrap_u64, ← Int.natCast_mul]
    rfl
  rw [e, u64_xor_nat s _ h (Nat.mod_lt _ (by decide))]
  rfl
theorem even_any (s : Nat) (hs : B64 s) (w : World) :
    Calls Tryd.prog 17 #[.int .u64 s] w fun e w' => e = .returned (.int .u64 (evenS s : Nat)) ∧ w = w' := by
  have hE := Lib.hid (evenAll_eq s hs)
  have r1 := step_raw s 1 2 (by decide) hs
  have b1 := evenStep_b64 (k := 1) hs
  have r2 := step_raw _ 2 4 (by decide) b1
  have b2 := evenStep_b64 (k := 2) b1
  have r3 := step_raw _ 4 16 (by decide) b2
  have b3 := evenStep_b64 (k := 4) b2
  have r4 := step_raw _ 8 256 (by decide) b3
  have b4 := evenStep_b64 (k := 8) b3
  have r5 := step_raw _ 16 65536 (by decide) b4
  have b5 := evenStep_b64 (k := 16) b4
  have r6 := step_raw _ 32 4294967296 (by decide) b5
  clear hs b1 b2 b3 b4 b5
  go_enter Tryd.func17, Tryd.ntmps17
  go_wp2
  refine wp_loop_rounds 7 ?_
  rw [rounds_succ]
  go_wp2
  rw [rounds_succ]
  go_wp2
  rw [rounds_succ]
  go_wp2
  rw [rounds_succ]
  go_wp2
  rw [rounds_succ]
  go_wp2
  rw [rounds_succ]
  go_wp2
  rw [rounds_succ]
  go_wp2
  go_ret
  exact ⟨ret_int (by rw [← hE.out]; rfl), rfl⟩

theorem rEvenSet_any (s : Nat) (hs : B64 s) (w : World) :
    Calls Tryd.prog 18 #[.int .u64 s] w fun e w' => e = .returned (.int .u64 (evenS s : Nat)) ∧ w = w' := by
  have HS := Lib.hid hs
  have HB := Lib.hid (fun k => evenUp_b64 s k)
  have HP : Hid (∀ k, par s (k + 1) = (par s k).xor (s.testBit (k + 1))) := Lib.hid (fun k => rfl)
  have HU : Hid (∀ k, evenUp s (k + 1) = if par s k then addN (evenUp s k) k else evenUp s k) := Lib.hid (fun k => rfl)
  have HR := Lib.hid (fun (k : Nat) (hk : k < 64) => sum_raw (evenUp s k) k (evenUp_b64 s k (by omega)) hk (by rw [evenUp_bit]; simp))
  clear hs
  go_enter Tryd.func18, Tryd.ntmps18
  go_wp2
  go_loop [3, 4, 5, 6] (fun t o _ i => ∃ k : Nat, k ≤ 64 ∧ i = .int .i64 k ∧ t = .int .u64 (evenUp s k : Nat) ∧ o = .bool (match k with | 0 => false | j + 1 => par s j)) (fun _ _ _ i => 64 - (intOf i).toNat)
  case atStart => exact ⟨0, by omega, rfl, rfl, rfl⟩
  case round =>
    obtain ⟨k, hk, rfl, rfl, rfl⟩ := hrel
    by_cases hlt : k < 64
    · generalize hq : (match k with | 0 => false | j + 1 => par s j) = q
      have hp : par s k = q.xor (s.testBit k) := by
        rw [← hq]
        cases k with
        | zero => simp [par]
        | succ j => exact HP.out j
      have HPK := Lib.hid hp
      have HUK := Lib.hid (HU.out k)
      have HRK := Lib.hid (HR.out k hlt)
      clear hp hq
      cases hb : s.testBit k
      all_goals cases q
      all_goals
        go_wp2_with (go_at_call 32; refine (in_nat _ HS.out _ _).mono ?_; rintro e w' ⟨rfl, rfl⟩)
        go_round
        case rel => exact ⟨k + 1, by omega, by go_num, by (first | (rw [HUK.out, HPK.out, hb]; rfl) | (rw [HUK.out, HPK.out, hb, HRK.out]; rfl)), by show _ = Value.bool (par s k); rw [HPK.out, hb]; rfl⟩
        case measure => simp [intOf]; omega
    · obtain rfl : k = 64 := by omega
      go_wp2
      go_ret
      exact ⟨rfl, rfl⟩

theorem len8tab_at (i : Nat) (h : i < Lib.len8tab.size) : (Lib.len8tab[i].toNat : Int) = Lib.bitLen i ∧ Lib.bitLen i ≤ 8 := by
  have h' : i < 256 := by rw [Lib.len8tab_size] at h; exact h
  have h1 := Lib.len8_eq ⟨i, h'⟩
  have h2 := Lib.bitLen_le8 ⟨i, h'⟩
  simp only at h1 h2
  refine ⟨?_, h2⟩
  rw [← h1]
  unfold Lib.len8
  simp [h]
theorem len_close (k : Nat) (x q : Int) (h : q.toNat < Lib.len8tab.size) (hk : k ≤ 56) (he : Lib.bitLen x.toNat = k + Lib.bitLen q.toNat) :
    wrap64 ((k : Int) + wrap64 (Lib.len8tab[q.toNat].toNat : Int)) = (Lib.bitLen x.toNat : Int) := by
  obtain ⟨h1, h2⟩ := len8tab_at q.toNat h
  rw [h1, he, IntWalk.wrap64_in (Lib.bitLen q.toNat : Int) (by omega), IntWalk.wrap64_in _ (by omega)]
  omega
set_option maxHeartbeats 4000000 in
set_option maxRecDepth 100000 in
theorem len64_int (x : Int) (w : World) (h0 : 0 ≤ x) (h1 : x ≤ 18446744073709551615) :
    Calls Tryd.prog 35 #[.int .u64 x] w fun e w' => e = .returned (.int .i64 (Lib.bitLen x.toNat)) ∧ w = w' := by
  have hsz := Lib.len8tab_size
  by_cases c0 : 4294967296 ≤ x
  · by_cases c1 : 65536 ≤ x / 4294967296
    · by_cases c2 : 256 ≤ x / 4294967296 / 65536
      · go_enter Tryd.func35, Tryd.ntmps35
        go_wp2
        go_ret
        exact ⟨ret_int (len_close 56 x (x / 4294967296 / 65536 / 256) _ (by omega) (by rw [Lib.bitLen_shift56 x.toNat (by omega) (by omega)]; congr 2; omega)), rfl⟩
      · go_enter Tryd.func35, Tryd.ntmps35
        go_wp2
        go_ret
        exact ⟨ret_int (len_close 48 x (x / 4294967296 / 65536) _ (by omega) (by rw [Lib.bitLen_shift48 x.toNat (by omega) (by omega)]; congr 2; omega)), rfl⟩
    · by_cases c2 : 256 ≤ x / 4294967296
      · go_enter Tryd.func35, Tryd.ntmps35
        go_wp2
        go_ret
        exact ⟨ret_int (len_close 40 x (x / 4294967296 / 256) _ (by omega) (by rw [Lib.bitLen_shift40 x.toNat (by omega) (by omega)]; congr 2; omega)), rfl⟩
      · go_enter Tryd.func35, Tryd.ntmps35
        go_wp2
        go_ret
        exact ⟨ret_int (len_close 32 x (x / 4294967296) _ (by omega) (by rw [Lib.bitLen_shift32 x.toNat (by omega) (by omega)]; congr 2; omega)), rfl⟩
  · by_cases c1 : 65536 ≤ x
    · by_cases c2 : 256 ≤ x / 65536
      · go_enter Tryd.func35, Tryd.ntmps35
        go_wp2
        go_ret
        exact ⟨ret_int (len_close 24 x (x / 65536 / 256) _ (by omega) (by rw [Lib.bitLen_shift24 x.toNat (by omega) (by omega)]; congr 2; omega)), rfl⟩
      · go_enter Tryd.func35, Tryd.ntmps35
        go_wp2
        go_ret
        exact ⟨ret_int (len_close 16 x (x / 65536) _ (by omega) (by rw [Lib.bitLen_shift16 x.toNat (by omega) (by omega)]; congr 2; omega)), rfl⟩
    · by_cases c2 : 256 ≤ x
      · go_enter Tryd.func35, Tryd.ntmps35
        go_wp2
        go_ret
        exact ⟨ret_int (len_close 8 x (x / 256) _ (by omega) (by rw [Lib.bitLen_shift8 x.toNat (by omega) (by omega)]; congr 2; omega)), rfl⟩
      · go_enter Tryd.func35, Tryd.ntmps35
        go_wp2
        go_ret
        exact ⟨ret_int ((congrArg wrap64 (Int.zero_add _).symm).trans (len_close 0 x x _ (by omega) (by omega))), rfl⟩
theorem len64_any (s : Nat) (hs : B64 s) (w : World) :
    Calls Tryd.prog 35 #[.int .u64 s] w fun e w' => e = .returned (.int .i64 (Lib.bitLen s : Nat)) ∧ w = w' :=
  (len64_int s w (by omega) (by have : s < 18446744073709551616 := hs; omega)).mono fun e w' ⟨he, hw⟩ => ⟨by rw [he]; simp, hw⟩

def hasMore (s t : Nat) : Bool := decide (left s t ≠ 0)
theorem sub_gt_nat {s t : Nat} (hs : B64 s) (ht : B64 t) : decide (raised s t < subNext s t) = hasMore s t := by
  unfold hasMore
  rw [← sub_gt hs ht, Bool.eq_iff_iff]
  simp only [decide_eq_true_eq]
  omega
theorem sub_any (s t : Nat) (hs : B64 s) (ht : B64 t) (w : World) :
    Calls Tryd.prog 19 #[.int .u64 s, .int .u64 t] w fun e w' => e = .returned (.tuple #[.int .u64 (subNext s t : Nat), .bool (hasMore s t)]) ∧ w = w' := by
  have hraw := sub_raw hs ht
  have hgt := Lib.hid (sub_gt_nat hs ht)
  have hm := minus_raw t s ht hs
  by_cases h0 : minus t s = 0
  · have hr : raised s t = t := by unfold raised; rw [if_pos h0]
    rw [hr] at hraw hgt
    rw [h0] at hm
    have hm' : bits .andNot .u64 (t : Int) (s : Int) = 0 := hm
    clear hs ht h0 hr hm
    go_enter Tryd.func19, Tryd.ntmps19
    go_wp2
    go_ret2
    exact ⟨ret_pairb rfl hgt.out, rfl⟩
  · have hr : raised s t = minus t (upTo (Lib.bitLen (minus t s))) ||| (s &&& upTo (Lib.bitLen (minus t s))) := by unfold raised; rw [if_neg h0]
    have hB := Lib.hid (minus_b64 (t := s) ht)
    have hz : (((minus t s : Nat) : Int) != 0) = true := by simp; omega
    obtain ⟨h1, h2, _, _⟩ := testBit_bitLen (minus_b64 (t := s) ht) h0
    generalize hL : Lib.bitLen (minus t s) = L at *
    have hu := upTo_b64 h2
    have e1 := minus_raw t (upTo L) ht hu
    have e2 := u64_and_nat s (upTo L) hs hu
    have e3 := u64_or_nat (minus t (upTo L)) (s &&& upTo L) (minus_b64 ht) hs.and
    rw [← hr] at e3
    have HL := Lib.hid hL
    clear hs ht h0 hr hu hL
    go_enter Tryd.func19, Tryd.ntmps19
    go_wp2_with fail
    refine (len64_any _ hB.out _).mono ?_
    rintro e w' ⟨rfl, rfl⟩
    rw [HL.out]
    go_wp2_with fail
    refine (below_any _ h2 _).mono ?_
    rintro e w' ⟨rfl, rfl⟩
    go_wp2_with fail
    refine (below_any _ h2 _).mono ?_
    rintro e w' ⟨rfl, rfl⟩
    go_wp2_with fail
    go_ret2
    exact ⟨ret_pairb rfl hgt.out, rfl⟩
theorem least_left {s t k : Nat} (hs : B64 s) (ht : B64 t) (hk : k < 64) (hc : cand s t k = true) (hb : ∀ j, j < k → cand s t j = false) : left s t ≠ 0 ∧ low (left s t) = k := by
  have h1 := cand_left hs ht hk
  rw [hc] at h1
  have h0 : left s t ≠ 0 := fun h0 => by rw [h0] at h1; simp at h1
  refine ⟨h0, ?_⟩
  have h2 := low_le (left_b64 hs) h1.symm
  have h3 := low_bit (left_b64 (t := t) hs) h0
  rcases Nat.lt_or_ge (low (left s t)) k with h | h
  · rw [← cand_left hs ht (by omega), hb _ h] at h3
    cases h3
  · omega
theorem no_left {s t : Nat} (hs : B64 s) (ht : B64 t) (hb : ∀ j, j < 64 → cand s t j = false) : left s t = 0 := by
  apply Classical.byContradiction
  intro h0
  have hk := low_lt (left_b64 (t := t) hs) h0
  have h3 := low_bit (left_b64 (t := t) hs) h0
  rw [← cand_left hs ht hk, hb _ hk] at h3
  cases h3
theorem rNextSub_any (s t : Nat) (hs : B64 s) (ht : B64 t) (w : World) :
    Calls Tryd.prog 20 #[.int .u64 s, .int .u64 t] w fun e w' => e = .returned (.tuple #[.int .u64 (subNext s t : Nat), .bool (hasMore s t)]) ∧ w = w' := by
  have HS := Lib.hid hs
  have HT := Lib.hid ht
  clear hs ht
  go_enter Tryd.func20, Tryd.ntmps20
  go_wp2
  go_loop [6, 7, 8] (fun _ _ i => ∃ k : Nat, k ≤ 64 ∧ i = .int .i64 k ∧ Hid (∀ j, j < k → cand s t j = false)) (fun _ _ i => 64 - (intOf i).toNat)
  case atStart => exact ⟨0, by omega, rfl, Lib.hid (fun j hj => absurd hj (by omega))⟩
  case round =>
    obtain ⟨k, hk, rfl, hc⟩ := hrel
    by_cases hlt : k < 64
    · have hsnoc : cand s t k = false → Hid (∀ j, j < k + 1 → cand s t j = false) := fun h => Lib.hid (fun j hj => by
        rcases Nat.lt_or_ge j k with h' | h'
        · exact hc.out j h'
        · obtain rfl : j = k := by omega
          exact h)
      have HN := Lib.hid hsnoc
      clear hsnoc
      cases hsk : s.testBit k with
      | false =>
        have HK : Hid (cand s t k = false) := Lib.hid (by unfold cand; rw [hsk]; rfl)
        go_wp2_with (go_at_call 32; refine (in_nat _ HS.out _ _).mono ?_; rintro e w' ⟨rfl, rfl⟩)
        go_round
        case rel => exact ⟨k + 1, by omega, by go_num, HN.out HK.out⟩
        case measure => simp [intOf]; omega
      | true =>
        cases htk : t.testBit k with
        | true =>
          have HK : Hid (cand s t k = false) := Lib.hid (by unfold cand; rw [htk]; simp)
          go_wp2_with fail
          refine (in_nat _ HS.out _ _).mono ?_
          rintro e w' ⟨rfl, rfl⟩
          go_wp2_with fail
          refine (in_nat _ HT.out _ _).mono ?_
          rintro e w' ⟨rfl, rfl⟩
          go_wp2_with fail
          go_round
          case rel => exact ⟨k + 1, by omega, by go_num, HN.out HK.out⟩
          case measure => simp [intOf]; omega
        | false =>
          have e1 := minus_raw t (upTo k) HT.out (upTo_b64 (by omega))
          have e2 := minus_raw (minus t (upTo k)) s (minus_b64 HT.out) HS.out
          by_cases hz : minus (minus t (upTo k)) s = 0
          · have hcand : cand s t k = true := by unfold cand; rw [hsk, htk, hz]; rfl
            obtain ⟨h0, hl⟩ := least_left HS.out HT.out hlt hcand hc.out
            have hsub : subNext s t = addN (minus t (upTo k)) k := by unfold subNext; rw [if_neg h0, hl]
            have e3 := sum_raw (minus t (upTo k)) k (minus_b64 HT.out) hlt (by rw [minus_bit HT.out (upTo_b64 (by omega)), htk]; rfl)
            rw [← hsub] at e3
            rw [hz] at e2
            have e2' : bits .andNot .u64 ((minus t (upTo k) : Nat) : Int) (s : Int) = 0 := e2
            have H0 := Lib.hid h0
            have H3 := Lib.hid e3
            clear hz hcand hl hsub e2 h0 e3
            go_wp2_with fail
            refine (in_nat _ HS.out _ _).mono ?_
            rintro e w' ⟨rfl, rfl⟩
            go_wp2_with fail
            refine (in_nat _ HT.out _ _).mono ?_
            rintro e w' ⟨rfl, rfl⟩
            go_wp2_with fail
            refine (rUpTo_any _ (by omega) _).mono ?_
            rintro e w' ⟨rfl, rfl⟩
            go_wp2_with fail
            go_ret2
            exact ⟨ret_pairb H3.out (decide_eq_true H0.out).symm, rfl⟩
          · have HK : Hid (cand s t k = false) := Lib.hid (by unfold cand; rw [hsk, htk]; simp [hz])
            have hz' : (((minus (minus t (upTo k)) s : Nat) : Int) == 0) = false := by simp; omega
            clear hz
            go_wp2_with fail
            refine (in_nat _ HS.out _ _).mono ?_
            rintro e w' ⟨rfl, rfl⟩
            go_wp2_with fail
            refine (in_nat _ HT.out _ _).mono ?_
            rintro e w' ⟨rfl, rfl⟩
            go_wp2_with fail
            refine (rUpTo_any _ (by omega) _).mono ?_
            rintro e w' ⟨rfl, rfl⟩
            go_wp2_with fail
            go_round
            case rel => exact ⟨k + 1, by omega, by go_num, HN.out HK.out⟩
            case measure => simp [intOf]; omega
    · obtain rfl : k = 64 := by omega
      have h0 := no_left HS.out HT.out hc.out
      have hsub : subNext s t = 0 := by unfold subNext; rw [if_pos h0]
      have H0 := Lib.hid h0
      have H3 := Lib.hid hsub
      clear h0 hsub
      go_wp2
      go_ret2
      exact ⟨ret_pairb (by rw [H3.out]; rfl) (decide_eq_false (fun h : left s t ≠ 0 => h H0.out)).symm, rfl⟩
end Go.Proofs.YtkcalnjapmpcaaaDoor
