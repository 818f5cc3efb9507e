/- Contracts: FormatUint of strconv at base 16, the reference's Hex16. A number below 2^64; the table of math/bits lies. -/
import Derived.Test.YtcjhkfhogcdobaaDoorHex1
namespace Go.Proofs.YtcjhkfhogcdobaaDoor
open Go.RowKit

theorem fmtU16 (u : Nat) (hu : u < 18446744073709551616) (w : World) (ht : Tab w) :
    Calls Tryd.prog 56 #[.int .u64 (u : Int), .int .i64 16] w fun e w' => e = .returned (.string ⟨(hexT u (hexN u 0 15)).toArray⟩) ∧ Below w.heap.size w w' := by
  have H := Lib.hid (formatBits16 u hu w ht)
  generalize (⟨(hexT u (hexN u 0 15)).toArray⟩ : ByteArray) = S at *
  clear ht
  go_enter Tryd.func56, Tryd.ntmps56
  go_wp2_with fail
  refine H.out.mono ?_
  rintro e w1 ⟨rfl, hb⟩
  have HB := Lib.hid hb
  clear hb
  go_wp2_with fail
  go_ret
  exact ⟨rfl, HB.out⟩
theorem sFmtU16 (u : Nat) (hu : u < 18446744073709551616) (w : World) (ht : Tab w) :
    Calls Tryd.prog 44 #[.int .u64 (u : Int), .int .i64 16] w fun e w' => e = .returned (.string ⟨(hexT u (hexN u 0 15)).toArray⟩) ∧ Below w.heap.size w w' := by
  have H := Lib.hid (fmtU16 u hu w ht)
  generalize (⟨(hexT u (hexN u 0 15)).toArray⟩ : ByteArray) = S at *
  clear ht
  go_enter Tryd.func44, Tryd.ntmps44
  go_wp2_with fail
  refine H.out.mono ?_
  rintro e w1 ⟨rfl, hb⟩
  have HB := Lib.hid hb
  clear hb
  go_wp2_with fail
  go_ret
  exact ⟨rfl, HB.out⟩
def hexS (u t : Nat) : ByteArray := ⟨(hexT u t).toArray⟩
theorem hexS_size (u t : Nat) : (hexS u t).size = t := by unfold hexS; show (hexT u t).toArray.size = t; simp [hexT_len]
def digs16 : ByteArray := ⟨#[48, 49, 50, 51, 52, 53, 54, 55, 56, 57, 97, 98, 99, 100, 101, 102]⟩
theorem digs16_fin : ∀ D : Fin 16, (digs16.extract D.val (D.val + 1)).data = #[hexD D.val] := by decide +kernel
theorem digs16_at (d u t : Nat) (h : d < 16) (hd : u / 16 ^ t % 16 = d) : digs16.extract d (d + 1) ++ hexS u t = hexS u (t + 1) := by
  have := digs16_fin ⟨d, h⟩
  simp only at this
  apply ByteArray.ext
  rw [ByteArray.data_append, this]
  unfold hexS
  rw [hexT, hd]
  simp
theorem rHex16 (u : Nat) (hu : u < 18446744073709551616) (w : World) :
    Calls Tryd.prog 40 #[.int .u64 (u : Int)] w fun e w' => e = .returned (.string (hexS u 16)) ∧ w = w' := by
  go_enter Tryd.func40, Tryd.ntmps40
  go_wp2_with fail
  go_loop [0, 3, 4] (fun x s i => ∃ t : Nat, t ≤ 16 ∧ i = .int .i64 (t : Int) ∧ x = .int .u64 (u / 16 ^ t : Nat) ∧ s = .string (hexS u t)) (fun _ _ i => 16 - (intOf i).toNat)
  case atStart => exact ⟨0, by omega, rfl, by simp, rfl⟩
  case round =>
    obtain ⟨t, ht, rfl, rfl, rfl⟩ := hrel
    by_cases hlt : t < 16
    · have hst := div16_step u t
      have hx : u / 16 ^ t < 18446744073709551616 := Nat.lt_of_le_of_lt (Nat.div_le_self _ _) hu
      have hti : (t : Int) < 16 := by omega
      have hsz := hexS_size u t
      generalize hX : u / 16 ^ t = X at *
      have HX := Lib.hid hX
      clear hX
      go_wp2_with fail
      go_round
      case rel => exact ⟨t + 1, by omega, by go_num, by rw [← hst]; rfl, by rw [← digs16_at (X % 16) u t (Nat.mod_lt _ (by decide)) (by rw [HX.out])]; rfl⟩
      case measure => simp [intOf]; omega
    · obtain rfl : t = 16 := by omega
      have hti : ¬ ((16 : Nat) : Int) < 16 := by omega
      go_wp2_with fail
      go_ret
      exact ⟨rfl, rfl⟩
end Go.Proofs.YtcjhkfhogcdobaaDoor
