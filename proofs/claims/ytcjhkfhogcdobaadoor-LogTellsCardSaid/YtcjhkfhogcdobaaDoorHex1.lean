/- Contract: formatBits of strconv at base 16. A number below 2^64; the table of math/bits lies. -/
import Derived.Test.YtcjhkfhogcdobaaDoorHexPlain
import Derived.Test.YtcjhkfhogcdobaaDoorBits1
import Derived.Test.YtcjhkfhogcdobaaDoorOwn
import Derived.Laws.IdiomStrings
namespace Go.Proofs.YtcjhkfhogcdobaaDoor
open Go.RowKit

theorem isPow16 (w : World) : Calls Tryd.prog 74 #[.int .i64 16] w fun e w' => e = .returned (.bool true) ∧ w = w' := by
  go_enter Tryd.func74, Tryd.ntmps74
  go_wp2_with fail
  go_ret
  exact ⟨rfl, rfl⟩
theorem low16 : low 16 = 4 := by decide +kernel
theorem tzu_16 (w : World) (ht : Tab w) : Calls Tryd.prog 75 #[.int .u64 16] w fun e w' => e = .returned (.int .i64 4) ∧ w = w' := by
  have H := Lib.hid (tz_any 16 (by unfold B64; decide) (by decide) w ht)
  rw [low16] at H
  go_enter Tryd.func75, Tryd.ntmps75
  go_wp2_with fail
  refine H.out.mono ?_
  rintro e w' ⟨rfl, rfl⟩
  go_wp2_with fail
  go_ret
  exact ⟨rfl, rfl⟩
/-- The digits of strconv. -/
def digs : ByteArray := ⟨#[48, 49, 50, 51, 52, 53, 54, 55, 56, 57, 97, 98, 99, 100, 101, 102, 103, 104, 105, 106, 107, 108, 109, 110, 111, 112, 113, 114, 115, 116, 117, 118, 119, 120, 121, 122]⟩
theorem digs_size : digs.size = 36 := by decide
theorem dig_fin : ∀ D : Fin 16, digs[D.val]'(by have := D.isLt; rw [digs_size]; omega) = hexD D.val := by decide +kernel
theorem dig_at (D : Nat) (h : D < 16) (h' : D < digs.size) : digs[D]'h' = hexD D := dig_fin ⟨D, h⟩
theorem hexN_stop {u t f : Nat} (h : u / 16 ^ t < 16) : hexN u t f = t + 1 := by
  cases f with
  | zero => rfl
  | succ f => rw [hexN, if_pos h]
theorem hexN_go {u t f : Nat} (h : ¬ u / 16 ^ t < 16) : hexN u t (f + 1) = hexN u (t + 1) f := by rw [hexN, if_neg h]
def bv (c : UInt8) : Value := .int .u8 (c.toNat : Int)
theorem zero65 : Tryd.zeroCells106.toList = List.replicate 65 (Value.int .u8 0) := by kernel_rfl
theorem and15 (x : Nat) (h : x < 18446744073709551616) : bits .and .u64 (x : Int) 15 = ((x % 16 : Nat) : Int) := by
  have := u64_and_nat x 15 h (by decide)
  rw [show (15 : Int) = ((15 : Nat) : Int) from rfl, this]
  have e := Nat.and_two_pow_sub_one_eq_mod x 4
  rw [show (2 ^ 4 - 1 : Nat) = 15 from rfl] at e
  rw [e]
theorem set_hex (u t s : Nat) (v : Value) : (List.replicate (s + 1) (Value.int .u8 0) ++ (hexT u t).map bv).set s v = List.replicate s (Value.int .u8 0) ++ v :: (hexT u t).map bv := by
  rw [List.replicate_succ', List.append_assoc]
  rw [List.set_append_right _ _ (by simp)]
  simp
set_option maxRecDepth 100000 in
set_option maxHeartbeats 1000000 in
theorem formatBits16 (u : Nat) (hu : u < 18446744073709551616) (w : World) (ht : Tab w) :
    Calls Tryd.prog 55 #[.slice none 0 0, .int .u64 (u : Int), .int .i64 16, .bool false, .bool false] w fun e w' => e = .returned (.tuple #[.slice none 0 0, .string ⟨(hexT u (hexN u 0 15)).toArray⟩]) ∧ Below w.heap.size w w' := by
  have HT := Lib.hid ht
  clear ht
  go_enter Tryd.func55, Tryd.ntmps55
  go_wp2_with fail
  refine (isPow16 _).mono ?_
  rintro e w' ⟨rfl, rfl⟩
  go_wp2_with fail
  have HO1 := Lib.hid (World.ownsRow_lit (base := w.heap.size) (e := 106) (size := 1) w Tryd.zeroCells106 65 (Nat.le_refl _) (by unfold maxLen; decide) (by kernel_rfl))
  rw [zero65] at HO1
  have B1 := Lib.hid (below_new (Below.refl w.heap.size w) (.cells Tryd.zeroCells106 106))
  generalize w.alloc (.cells Tryd.zeroCells106 106) = w1 at *
  refine (tzu_16 _ (HT.out.below B1.out)).mono ?_
  rintro e w' ⟨rfl, rfl⟩
  go_wp2_with fail
  go_loopw [1, 13] (fun uu i wr => ∃ t s : Nat, t ≤ 15 ∧ s + t = 64 ∧ i = .int .i64 ((s + 1 : Nat) : Int) ∧ uu = .int .u64 (u / 16 ^ t : Nat) ∧ Hid (hexN u 0 15 = hexN u t (15 - t)) ∧ Hid (wr.ownsRow w.heap.size 106 1 (.slice (some ⟨w.heap.size, 0, none⟩) 65 65) 65 (List.replicate (s + 1) (.int .u8 0) ++ (hexT u t).map bv)) ∧ Hid (Below w.heap.size w wr)) (fun _ i _ => (intOf i).toNat)
  case atStart => exact ⟨0, 64, by omega, by omega, rfl, by simp, Lib.hid rfl, by simpa [hexT] using HO1, B1⟩
  case round =>
    clear HO1 B1
    obtain ⟨t, s, ht, hst2, rfl, rfl, hN, hown, hbw⟩ := hrel
    have hcq : wr.cell? ⟨w.heap.size, s, none⟩ = some (.int .u8 0) := by
      rw [hown.out.cellAt s (by omega)]
      rw [List.getElem?_append_left (by simp)]
      simp
    have hfq := hown.out.frozenAt s
    have f1 : (0 : Int) ≤ (s : Int) := by omega
    have f2 : (s : Int) < 65 := by omega
    have f3 : IntKind.i64.wrap ((s : Int) + 1 - 1) = (s : Int) := by rw [IntKind.wrap_i64]; omega
    have f4 : ((s : Int) + 1 - 1) = (s : Int) := by omega
    have hx : u / 16 ^ t < 18446744073709551616 := Nat.lt_of_le_of_lt (Nat.div_le_self _ _) hu
    have hst := div16_step u t
    have HHT : Hid (hexT u (t + 1) = hexD (u / 16 ^ t % 16) :: hexT u t) := Lib.hid rfl
    generalize hX : u / 16 ^ t = X at *
    have HX := Lib.hid hX
    by_cases h16 : X < 16
    · have hge : ¬ (16 : Int) ≤ (X : Int) := by omega
      have hX36 : X < digs.size := by rw [digs_size]; omega
      have hXm : X % 16 = X := Nat.mod_eq_of_lt h16
      have hdig := dig_at X h16 hX36
      have HNE : Hid (hexN u 0 15 = t + 1) := Lib.hid (by rw [hN.out, hexN_stop (by rw [HX.out]; exact h16)])
      have HOW := Lib.hid (hown.out.stored s (bv (hexD X))).1
      have HBS := Lib.hid (hbw.out.setCell (p := ⟨w.heap.size, s, none⟩) (Nat.le_refl _) (bv (hexD X)))
      rw [set_hex, ← List.map_cons, show hexD X :: hexT u t = hexT u (t + 1) by rw [HHT.out, hXm]] at HOW
      have hsl : ∀ W, (Instr.sliceAt 106 (.pointer (some ⟨w.heap.size, 0, none⟩)) (some (.int .i64 (s : Int))) none none).run Tryd.prog W = .ok (.slice (some ⟨w.heap.size, s, none⟩) (t + 1) (t + 1)) W := fun W => by
        have hal : Tryd.prog.arrayLen 106 = 65 := by kernel_rfl
        rw [run_sliceAt_array_l W 106 ⟨w.heap.size, 0, none⟩ (by simp [Program.arrayLen, Program.elem, Tryd.underlying106]) .i64 (s : Int) (by omega) (by rw [hal]; omega)]
        rw [hal]
        go_simp
        omega
      have hcv : (convert 33 9 (.slice (some ⟨w.heap.size, s, none⟩) (t + 1) (t + 1))).run Tryd.prog (wr.setCell ⟨w.heap.size, s, none⟩ (bv (hexD X))) = .ok (.string ⟨(hexT u (t + 1)).toArray⟩) (wr.setCell ⟨w.heap.size, s, none⟩ (bv (hexD X))) := by
        have h := run_convert_bytes_back (P := Tryd.prog) (wr.setCell ⟨w.heap.size, s, none⟩ (bv (hexD X))) 33 9 5 ⟨w.heap.size, s, none⟩ (t + 1) (hexT u (t + 1)) Tryd.underlying33 Tryd.underlying5 Tryd.underlying9 (fun j hj => by
          rw [hexT_len] at hj
          have := HOW.out.cellAt (s + j) (by omega)
          rw [List.getElem?_append_right (by simp), List.length_replicate, Nat.add_sub_cancel_left, List.getElem?_map] at this
          have hgj : (hexT u (t + 1))[j]? = some ((hexT u (t + 1))[j]'(by rw [hexT_len]; exact hj)) := List.getElem?_eq_getElem _
          rw [hgj] at this
          unfold Addr.add
          by_cases hz : j = 0
          · subst hz
            rw [Nat.add_zero] at this
            rw [if_pos rfl, this]
            rfl
          · rw [if_neg hz]
            exact this)
        rw [hexT_len] at h
        exact h
      clear hX hst HHT hcq
      have hcq : wr.cell? ⟨w.heap.size, s, none⟩ = some (.int .u8 0) := by
        rw [hown.out.cellAt s (by omega)]
        rw [List.getElem?_append_left (by simp)]
        simp
      clear hown hbw
      have hcv2 : Hid (∀ W, W = wr.setCell ⟨w.heap.size, s, none⟩ (bv (hexD X)) → (convert 33 9 (.slice (some ⟨w.heap.size, s, none⟩) (t + 1) (t + 1))).run Tryd.prog W = .ok (.string ⟨(hexT u (t + 1)).toArray⟩) W) := Lib.hid (by rintro W rfl; exact hcv)
      have hVV : Hid (wr.setCell ⟨w.heap.size, s, none⟩ (Value.int .u8 ((digs[X]'hX36).toNat : Int)) = wr.setCell ⟨w.heap.size, s, none⟩ (bv (hexD X))) := Lib.hid (by rw [hdig]; rfl)
      clear hcv
      go_wp2_with fail
      rw [hcv2.out]
      case a => exact hVV.out
      go_wp2_with fail
      go_ret2
      refine ⟨by rw [HNE.out] <;> rfl, ?_⟩
      have := HBS.out
      rw [show bv (hexD X) = Value.int .u8 ((digs[X]'hX36).toNat : Int) by rw [hdig]; rfl] at this
      exact this
    · have hge : (16 : Int) ≤ (X : Int) := by omega
      have han := and15 X hx
      have hd : X % 16 < 16 := Nat.mod_lt _ (by decide)
      clear hX
      generalize X % 16 = D at *
      have hD36 : D < digs.size := by rw [digs_size]; omega
      have hdig := dig_at D hd hD36
      have ht14 : t < 15 := by
        rcases Nat.lt_or_ge t 15 with h | h
        · exact h
        · exfalso
          obtain rfl : t = 15 := by omega
          exact h16 (by rw [← HX.out]; exact Nat.div_lt_of_lt_mul (by simpa using hu))
      have HNE : Hid (hexN u 0 15 = hexN u (t + 1) (15 - (t + 1))) := Lib.hid (by rw [hN.out, show 15 - t = (15 - (t + 1)) + 1 by omega, hexN_go (by rw [HX.out]; exact h16)])
      have HOW := Lib.hid (hown.out.stored s (Value.int .u8 ((digs[D]'hD36).toNat : Int))).1
      rw [set_hex, hdig, show Value.int .u8 ((hexD D).toNat : Int) = bv (hexD D) from rfl, ← List.map_cons, ← HHT.out] at HOW
      have HBS := Lib.hid (hbw.out.setCell (p := ⟨w.heap.size, s, none⟩) (Nat.le_refl _) (bv (hexD D)))
      clear hown hbw
      go_wp2_with fail
      go_roundw
      case rel =>
        refine ⟨t + 1, s - 1, by omega, by omega, by congr 1; omega, by rw [← hst]; rfl, HNE, Lib.hid ?_, Lib.hid ?_⟩
        · have := HOW.out
          rw [show s - 1 + 1 = s by omega]
          rw [show bv (hexD D) = Value.int .u8 ((digs[D]'hD36).toNat : Int) by rw [hdig]; rfl] at this
          exact this
        · have := HBS.out
          rw [show bv (hexD D) = Value.int .u8 ((digs[D]'hD36).toNat : Int) by rw [hdig]; rfl] at this
          exact this
      case measure => first | (simp [intOf]; done) | (simp [intOf]; omega)
end Go.Proofs.YtcjhkfhogcdobaaDoor
