/- Contracts of package bits and of the reference's small functions on sets: those that only compute. Sets are below 2^64; the table of math/bits reads as its text lays it. -/
import Derived.Test.YtonmkmghpiagjaaDoorRows
import Derived.Test.YtonmkmghpiagjaaDoorBase
import Derived.Test.YtonmkmghpiagjaaDoorPop
import Derived.WalkKit
import Derived.WalkSpells
import Derived.WalkLawsBesides
import Derived.Outline
import Derived.BigQuiet
import Derived.Deep.QuietTactic
import Derived.Lib.Hide
namespace Go.Proofs.YtonmkmghpiagjaaDoor
open Go.RowKit

/-- The table of math/bits, as its text lays it. -/
def Tab (w : World) : Prop := 1 < w.heap.size ∧ ∀ j, j < 64 → w.cell? ⟨1, j, none⟩ = some (.int .u8 (Lib.deBruijn64tab.getD j 0))
theorem Tab.below {w w' : World} (h : Tab w) (hb : Below w.heap.size w w') : Tab w' :=
  ⟨Nat.lt_of_lt_of_le h.1 hb.size, fun j hj => (hb.cell (p := ⟨_, j, none⟩) h.1).trans (h.2 j hj)⟩

theorem below_raw (n : Nat) (h : n ≤ 64) : IntKind.u64.wrap (IntKind.u64.wrap (2 ^ n) - 1) = (upTo n : Nat) := by
  unfold upTo
  rw [IntKind.wrap_u64, IntKind.wrap_u64]
  have hp : 0 < 2 ^ n := Nat.pow_pos (by decide)
  have hc : (2 : Int) ^ n = ((2 ^ n : Nat) : Int) := by simp
  rw [hc]
  rcases Nat.lt_or_ge n 64 with h' | h'
  · have : 2 ^ n ≤ 2 ^ 63 := Nat.pow_le_pow_right (by decide) (by omega)
    omega
  · obtain rfl : n = 64 := by omega
    decide
theorem below_any (n : Nat) (h : n ≤ 64) (w : World) :
    Calls Tryd.prog 101 #[.int .i64 n] w fun e w' => e = .returned (.int .u64 (upTo n : Nat)) ∧ w = w' := by
  have hr := Lib.hid (below_raw n h)
  go_enter Tryd.func101, Tryd.ntmps101
  go_wp2
  go_ret
  exact ⟨ret_int hr.out, rfl⟩
theorem below_int (n : Int) (h0 : 0 ≤ n) (h : n ≤ 64) (w : World) :
    Calls Tryd.prog 101 #[.int .i64 n] w fun e w' => e = .returned (.int .u64 (upTo n.toNat : Nat)) ∧ w = w' := by
  obtain ⟨k, rfl⟩ := Int.eq_ofNat_of_zero_le h0
  exact below_any k (by omega) w

theorem onesCount_any (s : Nat) (hs : B64 s) (w : World) :
    Calls Tryd.prog 137 #[.int .u64 s] w fun e w' => e = .returned (.int .i64 ((nums s).length : Nat)) ∧ w = w' := by
  have hp := Lib.hid (pop_st s hs)
  clear hs
  have r1 : ∀ x : Int, IntKind.u64.wrap (bits .and .u64 (x / 2) 6148914691236517205 + bits .and .u64 x 6148914691236517205) = st1 x := fun _ => rfl
  have r2 : ∀ x : Int, IntKind.u64.wrap (bits .and .u64 (st1 x / 4) 3689348814741910323 + bits .and .u64 (st1 x) 3689348814741910323) = st2 (st1 x) := fun _ => rfl
  have r3 : ∀ x : Int, bits .and .u64 (IntKind.u64.wrap (st2 x / 16 + st2 x)) 1085102592571150095 = st3 (st2 x) := fun _ => rfl
  have r4 : ∀ x : Int, IntKind.u64.wrap (st3 x + st3 x / 256) = st4 (st3 x) := fun _ => rfl
  have r5 : ∀ x : Int, IntKind.u64.wrap (st4 x + st4 x / 65536) = st5 (st4 x) := fun _ => rfl
  have r6 : ∀ x : Int, IntKind.u64.wrap (st5 x + st5 x / 4294967296) = st6 (st5 x) := fun _ => rfl
  have r7 : ∀ x : Int, bits .and .i64 x 127 = st7 x := fun _ => rfl
  go_enter Tryd.func137, Tryd.ntmps137
  go_wp2
  go_ret
  exact ⟨ret_int hp.out, rfl⟩
theorem count_any (s : Nat) (hs : B64 s) (w : World) :
    Calls Tryd.prog 107 #[.int .u64 s] w fun e w' => e = .returned (.int .i64 ((nums s).length : Nat)) ∧ w = w' := by
  have H := Lib.hid hs
  clear hs
  go_enter Tryd.func107, Tryd.ntmps107
  go_wp2_with (go_at_call 137; refine (onesCount_any _ H.out _).mono ?_; rintro e w' ⟨rfl, rfl⟩)
  go_ret
  exact ⟨rfl, rfl⟩

theorem tz_key (x : Nat) (hx : B64 x) (hx0 : x ≠ 0) :
    IntKind.u64.wrap (bits BinOp.and IntKind.u64 (x : Int) (IntKind.u64.wrap (-(x : Int))) * 285870213051353865) / 288230376151711744 = ((2 ^ low x * 285870213051353865 % 18446744073709551616 / 288230376151711744 : Nat) : Int) := by
  have h64 : x < 18446744073709551616 := hx
  have e1 : IntKind.u64.wrap (-(x : Int)) = ((18446744073709551616 - x : Nat) : Int) := by rw [IntKind.wrap_u64]; omega
  have hl : x &&& (18446744073709551616 - x) = 2 ^ low x := (Lib.lowest_bit 64 x hx0 hx).1
  rw [e1, u64_and_nat x _ h64 (by omega), hl, IntKind.wrap_u64]
  omega
theorem tz_core (x k idx : Nat) (w : World) (hx0 : ((x : Int) == 0) = false)
    (key : IntKind.u64.wrap (bits BinOp.and IntKind.u64 (x : Int) (IntKind.u64.wrap (-(x : Int))) * 285870213051353865) / 288230376151711744 = (idx : Int))
    (hi : idx < 64) (hk : k < 64) (hcell : w.cell? ⟨1, idx, none⟩ = some (.int .u8 k)) :
    Calls Tryd.prog 135 #[.int .u64 x] w fun e w' => e = .returned (.int .i64 k) ∧ w = w' := by
  go_enter Tryd.func135, Tryd.ntmps135
  go_wp2_with (simp only [key])
  go_ret
  exact ⟨rfl, rfl⟩
theorem tz_any (s : Nat) (hs : B64 s) (h0 : s ≠ 0) (w : World) (ht : Tab w) :
    Calls Tryd.prog 135 #[.int .u64 s] w fun e w' => e = .returned (.int .i64 (low s : Nat)) ∧ w = w' := by
  obtain ⟨hi, htab⟩ := Lib.deBruijn64_at _ (low_lt hs h0)
  have hcell := ht.2 _ hi
  rw [htab] at hcell
  exact tz_core s _ _ w (by simp; omega) (tz_key s hs h0) hi (low_lt hs h0) hcell
theorem least_any (s : Nat) (hs : B64 s) (h0 : s ≠ 0) (w : World) (ht : Tab w) :
    Calls Tryd.prog 102 #[.int .u64 s] w fun e w' => e = .returned (.int .i64 (low s : Nat)) ∧ w = w' := by
  have H := Lib.hid hs
  have H0 := Lib.hid h0
  have HT := Lib.hid ht
  clear hs h0 ht
  go_enter Tryd.func102, Tryd.ntmps102
  go_wp2_with (go_at_call 135; refine (tz_any _ H.out H0.out _ HT.out).mono ?_; rintro e w' ⟨rfl, rfl⟩)
  go_ret
  exact ⟨rfl, rfl⟩

theorem pBelow_no (n : Int) (h : n < 0 ∨ 64 < n) (w : World) :
    Calls Tryd.prog 79 #[.int .i64 n] w fun e w' => e = .returned (.tuple #[.int .u64 0, .int .i64 4]) ∧ w = w' := by
  rcases h with h | h
  · go_enter Tryd.func79, Tryd.ntmps79
    go_wp2
    go_ret2
    exact ⟨rfl, rfl⟩
  · have h' : ¬ n < 0 := by omega
    go_enter Tryd.func79, Tryd.ntmps79
    go_wp2
    go_ret2
    exact ⟨rfl, rfl⟩
theorem pBelow_yes (n : Int) (h0 : 0 ≤ n) (h : n ≤ 64) (w : World) :
    Calls Tryd.prog 79 #[.int .i64 n] w fun e w' => e = .returned (.tuple #[.int .u64 (upTo n.toNat : Nat), .int .i64 0]) ∧ w = w' := by
  go_enter Tryd.func79, Tryd.ntmps79
  go_wp2_with (go_at_call 101; refine (below_int _ h0 h _).mono ?_; rintro e w' ⟨rfl, rfl⟩)
  go_ret2
  exact ⟨rfl, rfl⟩
end Go.Proofs.YtonmkmghpiagjaaDoor
