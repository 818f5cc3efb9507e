/- Contracts: a piece of a pattern: has, turn, add. -/
import Derived.Test.YtjdfmmjadjggjaaGlobPlain3
import Derived.Test.YtjdfmmjadjggjaaBits1
import Derived.BigRegion
import Derived.Deep.Cut
import Derived.Deep.RegionHeld3
namespace Go.Proofs.Ytjdfmmjadjggjaa
open Go.RowKit

def pcv (an : Bool) (x0 x1 x2 x3 : Nat) : Value := .agg #[.bool an, .int .u64 (x0 : Int), .int .u64 (x1 : Int), .int .u64 (x2 : Int), .int .u64 (x3 : Int)]
theorem box_five (w : World) (a b c d e : Value) (t : TypeId) :
    (w.alloc (.cells #[a, b, c, d, e] t)).cell? ⟨w.heap.size, 0, none⟩ = some a ∧ (w.alloc (.cells #[a, b, c, d, e] t)).cell? ⟨w.heap.size, 1, none⟩ = some b ∧ (w.alloc (.cells #[a, b, c, d, e] t)).cell? ⟨w.heap.size, 2, none⟩ = some c ∧ (w.alloc (.cells #[a, b, c, d, e] t)).cell? ⟨w.heap.size, 3, none⟩ = some d ∧ (w.alloc (.cells #[a, b, c, d, e] t)).cell? ⟨w.heap.size, 4, none⟩ = some e := by
  refine ⟨?_, ?_, ?_, ?_, ?_⟩ <;> (rw [World.cell?_alloc_at _ _ _ _ rfl]; rfl)
theorem bit_raw (x k : Nat) (hx : x < 18446744073709551616) : (bits .and .u64 ((x : Int) / 2 ^ k) 1 == 1) = x.testBit k := by
  have hlt : x / 2 ^ k < 18446744073709551616 := Nat.lt_of_le_of_lt (Nat.div_le_self _ _) hx
  have e := u64_and_nat (x / 2 ^ k) 1 hlt (by decide)
  have e' : bits .and .u64 ((x : Int) / 2 ^ k) 1 = ((x / 2 ^ k &&& 1 : Nat) : Int) := by simpa using e
  rw [e', Nat.and_one_is_mod, Nat.testBit_eq_decide_div_mod_eq]
  clear e e' hlt hx
  rcases (by omega : x / 2 ^ k % 2 = 0 ∨ x / 2 ^ k % 2 = 1) with h | h <;> rw [h] <;> rfl
set_option maxRecDepth 100000 in
set_option maxHeartbeats 1000000 in
theorem pcHas_any (an : Bool) (x0 x1 x2 x3 : Nat) (S : Nat → Bool) (h : Wd [x0, x1, x2, x3] S) (c : Nat) (hc : c < 256) (w : World) :
    Calls Try.prog 68 #[pcv an x0 x1 x2 x3, .int .u8 (c : Int)] w fun e w' => e = .returned (.bool (S c)) ∧ Below w.heap.size w w' := by
  obtain ⟨g0, g1, g2, g3, g4⟩ := box_five w (.bool an) (.int .u64 (x0 : Int)) (.int .u64 (x1 : Int)) (.int .u64 (x2 : Int)) (.int .u64 (x3 : Int)) 117
  have HB := Lib.hid (below_new (Below.refl w.heap.size w) (.cells #[.bool an, .int .u64 (x0 : Int), .int .u64 (x1 : Int), .int .u64 (x2 : Int), .int .u64 (x3 : Int)] 117))
  have HW := Lib.hid h
  clear h
  unfold pcv
  go_enter Try.func68, Try.ntmps68
  go_upto_region 1 with fail
  generalize w.alloc (.cells #[.bool an, .int .u64 (x0 : Int), .int .u64 (x1 : Int), .int .u64 (x2 : Int), .int .u64 (x3 : Int)] 117) = w2 at *
  obtain ⟨x, hx, hxb⟩ := wd_get HW.out (q := c / 64) (by omega)
  have gx : w2.cell? ⟨w.heap.size, 1 + c / 64, none⟩ = some (.int .u64 (x : Int)) := by
    rcases (by omega : c / 64 = 0 ∨ c / 64 = 1 ∨ c / 64 = 2 ∨ c / 64 = 3) with h | h | h | h <;> (rw [h] at hx ⊢; injection hx with hx; subst hx; assumption)
  have HX := Lib.hid hx
  clear hx g0 g1 g2 g3 g4
  go_wp2_with fail
  go_ret
  have hs := HW.out.at_ c hc
  rw [HX.out, Option.getD_some] at hs
  exact ⟨ret_bool (by rw [← hs]; exact bit_raw x (c % 64) hxb), HB.out⟩
end Go.Proofs.Ytjdfmmjadjggjaa
