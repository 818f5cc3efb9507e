/- The law SpanReads: its walk: for every time and text it returns true and leaves what was there. Conditions: the text is below 2^47 bytes; the table of math/bits and the two error variables of strconv lie. -/
import Derived.Test.YtonmkmghpiagjaaDoorWhole
import Derived.Test.YtonmkmghpiagjaaDoorHex7
namespace Go.Proofs.YtonmkmghpiagjaaDoor
open Go.RowKit

theorem fv_zero : Value.float .f64 0 = fv 0 := rfl
theorem fv_of {n : Nat} (h : n < 18446744073709551616) : Value.float .f64 n = fv (UInt64.ofNat n) := by
  unfold fv
  rw [UInt64.toNat_ofNat', Nat.mod_eq_of_lt h]
theorem hexRd_lt (s : List UInt8) : hexRd s < 18446744073709551616 := by
  unfold hexRd
  split
  · rename_i h
    have h1 := hexOk_all h
    have := hexAcc_lt s h1.2
    rw [h1.1] at this
    exact Nat.lt_of_lt_of_le this (by decide)
  · omega
set_option maxRecDepth 100000 in
theorem spanReads_walk (x : UInt64) (s : List UInt8) (w : World) (hl : s.length ≤ 140737488351232) (hE : ErrVars w) (hT : Tab w) :
    Calls Tryd.prog 8 #[fv x, .string ⟨s.toArray⟩] w fun e w' => e = .returned (.bool true) ∧ Below w.heap.size w w' := by
  have C1 := Lib.hid (sWhole_any x)
  have C2 := Lib.hid (rWhole_any x)
  have C3 := Lib.hid (fun W (hW : Below w.heap.size w W) => sRead_any s W hl (hE.below hW) (hT.below hW))
  have C4 := Lib.hid (fun W => rHexRead_any s W (by omega))
  have C5 := Lib.hid (fun W (hW : Below w.heap.size w W) => sText_any x W (hT.below hW))
  have C6 := Lib.hid (fun W => rHex16 x.toNat (u64_lt x) W)
  have C7 := Lib.hid (rBits_any x)
  have hy : ∃ y : UInt64, Value.float .f64 (hexRd s) = fv y ∧ y.toNat = hexRd s := ⟨UInt64.ofNat (hexRd s), fv_of (hexRd_lt s), by rw [UInt64.toNat_ofNat', Nat.mod_eq_of_lt (hexRd_lt s)]⟩
  obtain ⟨y, hy1, hy2⟩ := hy
  rw [hy1] at C3
  have C8 := Lib.hid (rBits_any y)
  rw [hy2] at C8
  have C9 := Lib.hid (sameBits_any y 0)
  have hz : hexOk s = false → y = 0 := fun h => by
    apply UInt64.toNat.inj
    rw [hy2]
    unfold hexRd
    rw [h]; rfl
  have HB0 := Lib.hid (Below.refl w.heap.size w)
  unfold whV whE readE at *
  unfold fv at *
  clear hE hT hy1 hy2
  generalize hexRd s = R at *
  generalize whN x.toNat = V at *
  generalize whOk x.toNat = ok at *
  generalize hexOk s = is at *
  generalize y.toNat = c at *
  generalize x.toNat = b at *
  have hVV : (V != V) = false := by simp
  have hRR : ((R : Int) == (R : Int)) = true := by simp
  have hSS : ((hexS b 16).toList == (hexS b 16).toList) = true := by simp
  rw [show (0 : UInt64).toNat = 0 from rfl] at C9
  cases ok <;> cases is
  all_goals simp only [if_true, if_false, Bool.false_eq_true] at C1 C2 C3 C4
  all_goals
    try rw [hz rfl, decide_eq_true rfl] at C9
    clear hz
    go_enter Tryd.func8, Tryd.ntmps8
    go_wp2_with fail
    refine (C1.out _).mono ?_
    rintro e w' ⟨rfl, rfl⟩
    go_wp2_with fail
    refine (C2.out _).mono ?_
    rintro e w' ⟨rfl, rfl⟩
    go_wp2_with fail
    refine (C3.out _ HB0.out).mono ?_
    rintro e w1 ⟨rfl, hb1⟩
    have B1 := Lib.hid hb1
    clear hb1
    go_wp2_with fail
    refine (C4.out _).mono ?_
    rintro e w' ⟨rfl, rfl⟩
    go_wp2_with fail
    refine (C5.out _ B1.out).mono ?_
    rintro e w2 ⟨rfl, hb2⟩
    have B2 := Lib.hid (below_then B1.out hb2)
    clear hb2
    go_wp2_with fail
    refine (C7.out _).mono ?_
    rintro e w' ⟨rfl, rfl⟩
    go_wp2_with fail
    refine (C6.out _).mono ?_
    rintro e w' ⟨rfl, rfl⟩
    go_wp2_with fail
  · refine (C9.out _).mono ?_
    rintro e w' ⟨rfl, rfl⟩
    go_wp2_with fail
    go_ret
    exact ⟨rfl, B2.out⟩
  · refine (C8.out _).mono ?_
    rintro e w' ⟨rfl, rfl⟩
    go_wp2_with fail
    go_ret
    exact ⟨rfl, B2.out⟩
  · refine (C9.out _).mono ?_
    rintro e w' ⟨rfl, rfl⟩
    go_wp2_with fail
    go_ret
    exact ⟨rfl, B2.out⟩
  · refine (C8.out _).mono ?_
    rintro e w' ⟨rfl, rfl⟩
    go_wp2_with fail
    go_ret
    exact ⟨rfl, B2.out⟩
end Go.Proofs.YtonmkmghpiagjaaDoor
