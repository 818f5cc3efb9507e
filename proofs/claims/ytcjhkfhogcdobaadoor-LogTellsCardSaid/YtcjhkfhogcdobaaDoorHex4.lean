/- Contract: the reference's HexRead. Texts below 2^63. -/
import Derived.Test.YtcjhkfhogcdobaaDoorHex2
namespace Go.Proofs.YtcjhkfhogcdobaaDoor
open Go.RowKit

/-- A small hexadecimal digit. -/
def lowHex (c : UInt8) : Bool := (decide (48 ≤ c.toNat) && decide (c.toNat ≤ 57)) || (decide (97 ≤ c.toNat) && decide (c.toNat ≤ 102))
def hexVal (c : UInt8) : Nat := if c.toNat ≤ 57 then c.toNat - 48 else c.toNat - 87
def hexAcc (L : List UInt8) : Nat := L.foldl (fun u c => u * 16 + hexVal c) 0
theorem hexAcc_snoc (L : List UInt8) (c : UInt8) : hexAcc (L ++ [c]) = hexAcc L * 16 + hexVal c := by unfold hexAcc; rw [List.foldl_append]; rfl
def hexOk (s : List UInt8) : Bool := decide (s.length = 16) && s.all lowHex
def hexRd (s : List UInt8) : Nat := if hexOk s then hexAcc s else 0
theorem low_cases (c : UInt8) : (lowHex c = true ∧ hexVal c = c.toNat - 48 ∧ 48 ≤ c.toNat ∧ c.toNat ≤ 57) ∨ (lowHex c = true ∧ hexVal c = c.toNat - 87 ∧ 97 ≤ c.toNat ∧ c.toNat ≤ 102) ∨ (lowHex c = false ∧ c.toNat < 48) ∨ (lowHex c = false ∧ 57 < c.toNat ∧ c.toNat < 97) ∨ (lowHex c = false ∧ 102 < c.toNat) := by
  unfold lowHex hexVal
  simp only [Bool.or_eq_true, Bool.and_eq_true, decide_eq_true_eq, Bool.or_eq_false_iff, Bool.and_eq_false_iff, decide_eq_false_iff_not]
  by_cases h1 : c.toNat ≤ 57
  · rw [if_pos h1]
    omega
  · rw [if_neg h1]
    omega
theorem bytes_at (s : List UInt8) {b : ByteArray} (hb : b = ⟨s.toArray⟩) {k : Nat} (hk : k < b.size) : s[k]? = some b[k] := by
  subst hb
  have h1 : k < s.toArray.size := hk
  rw [show (⟨s.toArray⟩ : ByteArray)[k] = s.toArray[k] from rfl]
  simp at h1 ⊢
set_option maxHeartbeats 1000000 in
theorem rHexRead_any (s : List UInt8) (w : World) (hl : s.length ≤ 9223372036854775807) :
    Calls Tryd.prog 18 #[.string ⟨s.toArray⟩] w fun e w' => e = .returned (.tuple #[.int .u64 (hexRd s : Nat), .bool (hexOk s)]) ∧ w = w' := by
  obtain ⟨b, hb⟩ : ∃ b : ByteArray, b = ⟨s.toArray⟩ := ⟨_, rfl⟩
  rw [← hb]
  have hsz : b.size = s.length := by rw [hb]; simp [ByteArray.size]
  have HB := Lib.hid hb
  have HSZ := Lib.hid hsz
  clear hb
  by_cases h16 : s.length = 16
  · have hb16 : b.size = 16 := by omega
    clear hsz hl
    go_enter Tryd.func18, Tryd.ntmps18
    go_wp2_with fail
    go_loop [4, 5, 6, 10] (fun u _ _ i => ∃ k : Nat, k ≤ 16 ∧ i = .int .i64 (k : Int) ∧ u = .int .u64 (hexAcc (s.take k) : Nat) ∧ Hid (hexAcc (s.take k) < 16 ^ k) ∧ Hid (∀ (j : Nat) (c : UInt8), j < k → s[j]? = some c → lowHex c = true)) (fun _ _ _ i => 16 - (intOf i).toNat)
    case atStart => exact ⟨0, by omega, rfl, rfl, Lib.hid (by simp [hexAcc]), Lib.hid (fun _ _ hj => absurd hj (Nat.not_lt_zero _))⟩
    case round =>
      obtain ⟨k, hk, rfl, rfl, hlt, hall⟩ := hrel
      by_cases hk16 : k < 16
      · have hkb : k < b.size := by omega
        have HX := Lib.hid (bytes_at s HB.out hkb)
        have HTK : Hid (s.take (k + 1) = s.take k ++ [b[k]]) := Lib.hid (by rw [List.take_add_one, HX.out]; rfl)
        have HAC := Lib.hid (hexAcc_snoc (s.take k) b[k])
        have h15 : hexAcc (s.take k) < 1152921504606846976 := Nat.lt_of_lt_of_le hlt.out (Nat.le_trans (Nat.pow_le_pow_right (by decide) (by omega : k ≤ 15)) (by decide))
        rw [← HTK.out] at HAC
        have HLT := hlt
        clear hlt
        have hki : (k : Int) < 16 := by omega
        generalize hexAcc (s.take k) = U at *
        rcases low_cases b[k] with ⟨hq, hv, a1, a2⟩ | ⟨hq, hv, a1, a2⟩ | ⟨hq, a1⟩ | ⟨hq, a1, a2⟩ | ⟨hq, a1⟩
        · have HU : Hid (∀ (j : Nat) (c : UInt8), j < k + 1 → s[j]? = some c → lowHex c = true) := Lib.hid (fun j c hj hc => by
            rcases Nat.lt_or_ge j k with h | h
            · exact hall.out j c h hc
            · obtain rfl : j = k := by omega
              rw [HX.out] at hc
              injection hc with hc
              rw [← hc]; exact hq)
          have HV := Lib.hid hv
          have HP : Hid (hexAcc (s.take (k + 1)) < 16 ^ (k + 1)) := Lib.hid (by rw [HAC.out, HV.out, Nat.pow_succ]; have := HLT.out; omega)
          clear hq hall hv
          go_wp2_with fail
          go_round
          case rel => exact ⟨k + 1, by omega, by go_num, by congr 1; rw [HAC.out, HV.out]; omega, HP, HU⟩
          case measure => simp [intOf]; omega
        · have HU : Hid (∀ (j : Nat) (c : UInt8), j < k + 1 → s[j]? = some c → lowHex c = true) := Lib.hid (fun j c hj hc => by
            rcases Nat.lt_or_ge j k with h | h
            · exact hall.out j c h hc
            · obtain rfl : j = k := by omega
              rw [HX.out] at hc
              injection hc with hc
              rw [← hc]; exact hq)
          have HV := Lib.hid hv
          have HP : Hid (hexAcc (s.take (k + 1)) < 16 ^ (k + 1)) := Lib.hid (by rw [HAC.out, HV.out, Nat.pow_succ]; have := HLT.out; omega)
          clear hq hall hv
          go_wp2_with fail
          go_round
          case rel => exact ⟨k + 1, by omega, by go_num, by congr 1; rw [HAC.out, HV.out]; omega, HP, HU⟩
          case measure => simp [intOf]; omega
        · have HE : Hid (hexOk s = false) := Lib.hid (by
            unfold hexOk
            have : s.all lowHex = false := by
              rw [Bool.eq_false_iff]
              intro ha
              have := List.all_eq_true.1 ha _ (List.mem_of_getElem? HX.out)
              rw [hq] at this; cases this
            rw [this, Bool.and_false])
          have HR : Hid (hexRd s = 0) := Lib.hid (by unfold hexRd; rw [HE.out]; rfl)
          clear hq hall
          go_wp2_with fail
          all_goals first
            | (go_ret2; exact ⟨by rw [HE.out, HR.out] <;> rfl, rfl⟩)
            | (exfalso; simp only [Bool.not_eq_false', decide_eq_true_eq] at *; omega)
        · have HE : Hid (hexOk s = false) := Lib.hid (by
            unfold hexOk
            have : s.all lowHex = false := by
              rw [Bool.eq_false_iff]
              intro ha
              have := List.all_eq_true.1 ha _ (List.mem_of_getElem? HX.out)
              rw [hq] at this; cases this
            rw [this, Bool.and_false])
          have HR : Hid (hexRd s = 0) := Lib.hid (by unfold hexRd; rw [HE.out]; rfl)
          clear hq hall
          go_wp2_with fail
          all_goals first
            | (go_ret2; exact ⟨by rw [HE.out, HR.out] <;> rfl, rfl⟩)
            | (exfalso; simp only [Bool.not_eq_false', decide_eq_true_eq] at *; omega)
        · have HE : Hid (hexOk s = false) := Lib.hid (by
            unfold hexOk
            have : s.all lowHex = false := by
              rw [Bool.eq_false_iff]
              intro ha
              have := List.all_eq_true.1 ha _ (List.mem_of_getElem? HX.out)
              rw [hq] at this; cases this
            rw [this, Bool.and_false])
          have HR : Hid (hexRd s = 0) := Lib.hid (by unfold hexRd; rw [HE.out]; rfl)
          clear hq hall
          go_wp2_with fail
          all_goals first
            | (go_ret2; exact ⟨by rw [HE.out, HR.out] <;> rfl, rfl⟩)
            | (exfalso; simp only [Bool.not_eq_false', decide_eq_true_eq] at *; omega)
      · obtain rfl : k = 16 := by omega
        have HE : Hid (hexOk s = true) := Lib.hid (by
          unfold hexOk
          rw [decide_eq_true h16, Bool.true_and, List.all_eq_true]
          intro c hc
          obtain ⟨j, hj⟩ := List.mem_iff_getElem?.1 hc
          exact hall.out j c (by have := (List.getElem?_eq_some_iff.1 hj).1; omega) hj)
        have HR : Hid (hexRd s = hexAcc s) := Lib.hid (by unfold hexRd; rw [HE.out]; rfl)
        have HTA : Hid (s.take 16 = s) := Lib.hid (List.take_of_length_le (by omega))
        rw [HTA.out]
        clear hall hlt
        have hki : ¬ ((16 : Nat) : Int) < 16 := by omega
        go_wp2_with fail
        go_ret2
        exact ⟨by rw [HE.out, HR.out] <;> rfl, rfl⟩
  · have hb16 : ¬ (b.size : Int) = 16 := by omega
    have HE : Hid (hexOk s = false) := Lib.hid (by unfold hexOk; rw [decide_eq_false h16]; rfl)
    have HR : Hid (hexRd s = 0) := Lib.hid (by unfold hexRd; rw [HE.out]; rfl)
    have hbs : b.size ≤ 9223372036854775807 := by omega
    clear hsz hl h16
    go_enter Tryd.func18, Tryd.ntmps18
    go_wp2_with fail
    go_ret2
    exact ⟨by rw [HE.out, HR.out] <;> rfl, rfl⟩
end Go.Proofs.YtcjhkfhogcdobaaDoor
