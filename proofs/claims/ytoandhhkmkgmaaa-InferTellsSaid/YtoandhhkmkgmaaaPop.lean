/- The number of bits of a word, counted as math/bits counts it: plain arithmetic. For every word below 2^64. -/
import Derived.Test.YtoandhhkmkgmaaaSets
import Derived.IntWalk
namespace Go.Proofs.Ytoandhhkmkgmaaa
open Go.RowKit

def st1 (x : Int) : Int := IntKind.u64.wrap (bits .and .u64 (x / 2) 6148914691236517205 + bits .and .u64 x 6148914691236517205)
def st2 (x : Int) : Int := IntKind.u64.wrap (bits .and .u64 (x / 4) 3689348814741910323 + bits .and .u64 x 3689348814741910323)
def st3 (x : Int) : Int := bits .and .u64 (IntKind.u64.wrap (x / 16 + x)) 1085102592571150095
def st4 (x : Int) : Int := IntKind.u64.wrap (x + x / 256)
def st5 (x : Int) : Int := IntKind.u64.wrap (x + x / 65536)
def st6 (x : Int) : Int := IntKind.u64.wrap (x + x / 4294967296)
def st7 (x : Int) : Int := bits .and .i64 x 127

def sw1 (m x : Nat) : Nat := (x / 2 &&& m) + (x &&& m)
def sw2 (m x : Nat) : Nat := (x / 4 &&& m) + (x &&& m)
def sw3 (m x : Nat) : Nat := (x / 16 + x) &&& m
def popb (b : Nat) : Nat := sw3 15 (sw2 51 (sw1 85 b))
def cnt (k x : Nat) : Nat := ((List.range k).filter fun i => x.testBit i).length

theorem and_join (p q m n : Nat) (hq : q < 256) (hn : n < 256) : (256 * p + q) &&& (256 * m + n) = 256 * (p &&& m) + (q &&& n) := by
  have hqn : q &&& n < 256 := Nat.lt_of_le_of_lt Nat.and_le_left hq
  apply Nat.eq_of_testBit_eq
  intro i
  rw [Nat.testBit_and, show (256 : Nat) = 2 ^ 8 from rfl, Nat.testBit_two_pow_mul_add _ hq, Nat.testBit_two_pow_mul_add _ hn, Nat.testBit_two_pow_mul_add _ hqn]
  split
  · rw [Nat.testBit_and]
  · rw [Nat.testBit_and]
theorem b1 : ∀ b : Fin 256, ∀ r : Fin 2, (128 * r.val + b.val / 2) &&& 85 = b.val / 2 &&& 85 := by decide +kernel
theorem b1' : ∀ b : Fin 256, sw1 85 b.val < 171 := by decide +kernel
theorem b2 : ∀ b : Fin 256, ∀ r : Fin 4, (64 * r.val + b.val / 4) &&& 51 = b.val / 4 &&& 51 := by decide +kernel
theorem b2' : ∀ b : Fin 256, sw2 51 (sw1 85 b.val) % 16 ≤ 4 ∧ sw2 51 (sw1 85 b.val) < 103 := by decide +kernel
theorem b3 : ∀ b : Fin 256, ∀ r : Fin 5, (16 * r.val + sw2 51 (sw1 85 b.val) / 16 + sw2 51 (sw1 85 b.val)) < 256 ∧ (16 * r.val + sw2 51 (sw1 85 b.val) / 16 + sw2 51 (sw1 85 b.val)) &&& 15 = popb b.val := by decide +kernel
theorem b4 : ∀ b : Fin 256, popb b.val = cnt 8 b.val ∧ popb b.val ≤ 8 := by decide +kernel

theorem sw1_join (a b m : Nat) (hb : b < 256) : sw1 (256 * m + 85) (256 * a + b) = 256 * sw1 m a + sw1 85 b := by
  unfold sw1
  have e : (256 * a + b) / 2 = 256 * (a / 2) + (128 * (a % 2) + b / 2) := by omega
  have h := b1 ⟨b, hb⟩ ⟨a % 2, by omega⟩
  simp only at h
  rw [e, and_join _ _ _ _ (by omega) (by omega), and_join _ _ _ _ hb (by omega), h]
  omega
theorem sw2_join (A B m : Nat) (hB : B < 256) : sw2 (256 * m + 51) (256 * A + B) = 256 * sw2 m A + sw2 51 B := by
  unfold sw2
  have e : (256 * A + B) / 4 = 256 * (A / 4) + (64 * (A % 4) + B / 4) := by omega
  have h := b2 ⟨B, hB⟩ ⟨A % 4, by omega⟩
  simp only at h
  rw [e, and_join _ _ _ _ (by omega) (by omega), and_join _ _ _ _ hB (by omega), h]
  omega
theorem sw_join (a b m1 m2 m3 : Nat) (hb : b < 256) (ha : sw2 m2 (sw1 m1 a) % 16 ≤ 4) :
    sw3 (256 * m3 + 15) (sw2 (256 * m2 + 51) (sw1 (256 * m1 + 85) (256 * a + b))) = 256 * sw3 m3 (sw2 m2 (sw1 m1 a)) + popb b ∧
    sw2 (256 * m2 + 51) (sw1 (256 * m1 + 85) (256 * a + b)) % 16 ≤ 4 := by
  have h1 := b1' ⟨b, hb⟩
  have h2 := b2' ⟨b, hb⟩
  simp only at h1 h2
  rw [sw1_join _ _ _ hb, sw2_join _ _ _ (by omega)]
  generalize hA : sw2 m2 (sw1 m1 a) = A at *
  have h3 := b3 ⟨b, hb⟩ ⟨A % 16, by omega⟩
  simp only at h3
  generalize hB : sw2 51 (sw1 85 b) = B at *
  refine ⟨?_, by omega⟩
  unfold sw3
  have e : (256 * A + B) / 16 + (256 * A + B) = 256 * (A / 16 + A) + (16 * (A % 16) + B / 16 + B) := by omega
  rw [e, and_join _ _ _ _ h3.1 (by omega), h3.2]

/-- The whole word, byte by byte. -/
def m1 : Nat → Nat
  | 0 => 0
  | k + 1 => 256 * m1 k + 85
def m2 : Nat → Nat
  | 0 => 0
  | k + 1 => 256 * m2 k + 51
def m3 : Nat → Nat
  | 0 => 0
  | k + 1 => 256 * m3 k + 15
def bytesPop : Nat → Nat → Nat
  | 0, _ => 0
  | k + 1, x => 256 * bytesPop k (x / 256) + popb (x % 256)
theorem sw_all (k : Nat) : ∀ x, sw3 (m3 k) (sw2 (m2 k) (sw1 (m1 k) x)) = bytesPop k x ∧ sw2 (m2 k) (sw1 (m1 k) x) % 16 ≤ 4 := by
  induction k with
  | zero => intro x; simp [m1, m2, m3, sw1, sw2, sw3, bytesPop]
  | succ k ih =>
    intro x
    have e : x = 256 * (x / 256) + x % 256 := by omega
    have h := sw_join (x / 256) (x % 256) (m1 k) (m2 k) (m3 k) (by omega) (ih _).2
    rw [← e, (ih _).1] at h
    exact h
theorem cnt_bytes (k x : Nat) : cnt (8 + k) x = cnt 8 (x % 256) + cnt k (x / 256) := by
  unfold cnt
  rw [List.range_add, List.filter_append, List.length_append]
  congr 1
  · congr 1
    apply List.filter_congr
    intro i hi
    have : i < 8 := List.mem_range.1 hi
    rw [show (256 : Nat) = 2 ^ 8 from rfl, Nat.testBit_mod_two_pow]
    simp [this]
  · rw [List.filter_map, List.length_map]
    congr 1
    apply List.filter_congr
    intro i _
    rw [show (256 : Nat) = 2 ^ 8 from rfl, Nat.testBit_div_two_pow]
    simp [Nat.add_comm]

theorem st_and {x m : Nat} (hx : x < 18446744073709551616) (hm : m < 18446744073709551616) : bits .and .u64 (x : Int) (m : Int) = ((x &&& m : Nat) : Int) := u64_and_nat x m hx hm
theorem st_and' {x m : Nat} {M : Int} (hM : M = (m : Int)) (hx : x < 18446744073709551616) (hm : m < 18446744073709551616) : bits .and .u64 (x : Int) M = ((x &&& m : Nat) : Int) := by
  subst hM
  exact u64_and_nat x m hx hm
theorem wrap_u (n : Nat) (h : n < 18446744073709551616) : IntKind.u64.wrap (n : Int) = (n : Int) := by
  rw [IntKind.wrap_u64]; omega
theorem wraps_i64 (n : Int) (h₀ : 0 ≤ n) (h₁ : n < 2 ^ 63) : IntKind.i64.wrap n = n := by rw [IntKind.wrap_i64]; omega
theorem le_and {x m : Nat} : x &&& m ≤ m := Nat.and_le_right
theorem st1_nat {x : Nat} (h : x < 18446744073709551616) : st1 x = (sw1 (m1 8) x : Nat) ∧ sw1 (m1 8) x ≤ 12297829382473034410 := by
  have hm : m1 8 = 6148914691236517205 := by decide
  unfold st1 sw1
  rw [hm]
  have a1 : x / 2 &&& 6148914691236517205 ≤ 6148914691236517205 := le_and
  have a2 : x &&& 6148914691236517205 ≤ 6148914691236517205 := le_and
  have c : ((x : Int) / 2) = ((x / 2 : Nat) : Int) := by omega
  rw [c, st_and' (m := 6148914691236517205) (M := 6148914691236517205) rfl (by omega) (by omega), st_and' (m := 6148914691236517205) (M := 6148914691236517205) rfl h (by omega)]
  refine ⟨?_, by omega⟩
  rw [← Int.natCast_add]
  exact wrap_u _ (by omega)
theorem st2_nat {x : Nat} (h : x < 18446744073709551616) : st2 x = (sw2 (m2 8) x : Nat) ∧ sw2 (m2 8) x ≤ 7378697629483820646 := by
  have hm : m2 8 = 3689348814741910323 := by decide
  unfold st2 sw2
  rw [hm]
  have a1 : x / 4 &&& 3689348814741910323 ≤ 3689348814741910323 := le_and
  have a2 : x &&& 3689348814741910323 ≤ 3689348814741910323 := le_and
  have c : ((x : Int) / 4) = ((x / 4 : Nat) : Int) := by omega
  rw [c, st_and' (m := 3689348814741910323) (M := 3689348814741910323) rfl (by omega) (by omega), st_and' (m := 3689348814741910323) (M := 3689348814741910323) rfl h (by omega)]
  refine ⟨?_, by omega⟩
  rw [← Int.natCast_add]
  exact wrap_u _ (by omega)
theorem st3_nat {x : Nat} (h : x ≤ 7378697629483820646) : st3 x = (sw3 (m3 8) x : Nat) := by
  have hm : m3 8 = 1085102592571150095 := by decide
  unfold st3 sw3
  rw [hm]
  have c : ((x : Int) / 16) = ((x / 16 : Nat) : Int) := by omega
  rw [c, ← Int.natCast_add, wrap_u _ (by omega), st_and' (m := 1085102592571150095) (M := 1085102592571150095) rfl (by omega) (by omega)]
theorem st4_nat {x : Nat} (h : x + x / 256 < 18446744073709551616) : st4 x = (x + x / 256 : Nat) := by
  unfold st4
  have c : ((x : Int) / 256) = ((x / 256 : Nat) : Int) := by omega
  rw [c, ← Int.natCast_add, wrap_u _ h]
theorem st5_nat {x : Nat} (h : x + x / 65536 < 18446744073709551616) : st5 x = (x + x / 65536 : Nat) := by
  unfold st5
  have c : ((x : Int) / 65536) = ((x / 65536 : Nat) : Int) := by omega
  rw [c, ← Int.natCast_add, wrap_u _ h]
theorem st6_nat {x : Nat} (h : x + x / 4294967296 < 18446744073709551616) : st6 x = (x + x / 4294967296 : Nat) := by
  unfold st6
  have c : ((x : Int) / 4294967296) = ((x / 4294967296 : Nat) : Int) := by omega
  rw [c, ← Int.natCast_add, wrap_u _ h]
theorem st7_nat {x : Nat} (h : x < 9223372036854775808) : st7 (wrap64 x) = (x % 128 : Nat) := by
  unfold st7
  rw [IntWalk.wrap64_in _ (by omega)]
  have := (bits_nat .i64 63 (by decide) wraps_i64 x 127 (by omega) (by omega)).1
  rw [show ((127 : Nat) : Int) = 127 from rfl] at this
  rw [this, nat_mask7]
def P8 (c0 c1 c2 c3 c4 c5 c6 c7 : Nat) : Nat := c0 + 256 * (c1 + 256 * (c2 + 256 * (c3 + 256 * (c4 + 256 * (c5 + 256 * (c6 + 256 * c7))))))
section
variable (c0 c1 c2 c3 c4 c5 c6 c7 : Nat)
theorem P8_add (d0 d1 d2 d3 d4 d5 d6 d7 : Nat) : P8 c0 c1 c2 c3 c4 c5 c6 c7 + P8 d0 d1 d2 d3 d4 d5 d6 d7 = P8 (c0 + d0) (c1 + d1) (c2 + d2) (c3 + d3) (c4 + d4) (c5 + d5) (c6 + d6) (c7 + d7) := by
  unfold P8; omega
theorem P8_div1 (h : c0 < 256) : P8 c0 c1 c2 c3 c4 c5 c6 c7 / 256 = P8 c1 c2 c3 c4 c5 c6 c7 0 := by
  unfold P8
  have : (256 * 0 : Nat) = 0 := rfl
  simp only [Nat.mul_zero, Nat.add_zero]
  generalize c1 + 256 * (c2 + 256 * (c3 + 256 * (c4 + 256 * (c5 + 256 * (c6 + 256 * c7))))) = A
  omega
theorem P8_div2 (h0 : c0 < 256) (h1 : c1 < 256) : P8 c0 c1 c2 c3 c4 c5 c6 c7 / 65536 = P8 c2 c3 c4 c5 c6 c7 0 0 := by
  rw [show (65536 : Nat) = 256 * 256 from rfl, ← Nat.div_div_eq_div_mul, P8_div1 _ _ _ _ _ _ _ _ h0, P8_div1 _ _ _ _ _ _ _ _ h1]
theorem P8_div4 (h0 : c0 < 256) (h1 : c1 < 256) (h2 : c2 < 256) (h3 : c3 < 256) : P8 c0 c1 c2 c3 c4 c5 c6 c7 / 4294967296 = P8 c4 c5 c6 c7 0 0 0 0 := by
  rw [show (4294967296 : Nat) = 65536 * 65536 from rfl, ← Nat.div_div_eq_div_mul, P8_div2 _ _ _ _ _ _ _ _ h0 h1, P8_div2 _ _ _ _ _ _ _ _ h2 h3]
theorem P8_mod : P8 c0 c1 c2 c3 c4 c5 c6 c7 % 128 = c0 % 128 := by
  unfold P8
  generalize c1 + 256 * (c2 + 256 * (c3 + 256 * (c4 + 256 * (c5 + 256 * (c6 + 256 * c7))))) = A
  omega
theorem P8_lt (h0 : c0 ≤ 64) (h1 : c1 ≤ 64) (h2 : c2 ≤ 64) (h3 : c3 ≤ 64) (h4 : c4 ≤ 64) (h5 : c5 ≤ 64) (h6 : c6 ≤ 64) (h7 : c7 ≤ 64) : P8 c0 c1 c2 c3 c4 c5 c6 c7 < 4700000000000000000 := by
  unfold P8; omega
end
theorem fold8 (c0 c1 c2 c3 c4 c5 c6 c7 y : Nat) (h0 : c0 ≤ 8) (h1 : c1 ≤ 8) (h2 : c2 ≤ 8) (h3 : c3 ≤ 8) (h4 : c4 ≤ 8) (h5 : c5 ≤ 8) (h6 : c6 ≤ 8) (h7 : c7 ≤ 8)
    (hy : y = P8 c0 c1 c2 c3 c4 c5 c6 c7) :
    st7 (wrap64 (st6 (st5 (st4 y)))) = ((c0 + c1 + c2 + c3 + (c4 + c5 + c6 + c7) : Nat) : Int) := by
  subst hy
  have q4 : ∀ a : Nat, a < 4700000000000000000 → a < 18446744073709551616 := fun a h => by omega
  have e4 : P8 c0 c1 c2 c3 c4 c5 c6 c7 + P8 c0 c1 c2 c3 c4 c5 c6 c7 / 256 = P8 (c0 + c1) (c1 + c2) (c2 + c3) (c3 + c4) (c4 + c5) (c5 + c6) (c6 + c7) (c7 + 0) := by
    rw [P8_div1 _ _ _ _ _ _ _ _ (by omega), P8_add]
  rw [st4_nat (by rw [e4]; exact q4 _ (P8_lt _ _ _ _ _ _ _ _ (by omega) (by omega) (by omega) (by omega) (by omega) (by omega) (by omega) (by omega))), e4]
  have e5 : P8 (c0 + c1) (c1 + c2) (c2 + c3) (c3 + c4) (c4 + c5) (c5 + c6) (c6 + c7) (c7 + 0) + P8 (c0 + c1) (c1 + c2) (c2 + c3) (c3 + c4) (c4 + c5) (c5 + c6) (c6 + c7) (c7 + 0) / 65536 =
      P8 (c0 + c1 + (c2 + c3)) (c1 + c2 + (c3 + c4)) (c2 + c3 + (c4 + c5)) (c3 + c4 + (c5 + c6)) (c4 + c5 + (c6 + c7)) (c5 + c6 + (c7 + 0)) (c6 + c7 + 0) (c7 + 0 + 0) := by
    rw [P8_div2 _ _ _ _ _ _ _ _ (by omega) (by omega), P8_add]
  rw [st5_nat (by rw [e5]; exact q4 _ (P8_lt _ _ _ _ _ _ _ _ (by omega) (by omega) (by omega) (by omega) (by omega) (by omega) (by omega) (by omega))), e5]
  have e6 := P8_add (c0 + c1 + (c2 + c3)) (c1 + c2 + (c3 + c4)) (c2 + c3 + (c4 + c5)) (c3 + c4 + (c5 + c6)) (c4 + c5 + (c6 + c7)) (c5 + c6 + (c7 + 0)) (c6 + c7 + 0) (c7 + 0 + 0) (c4 + c5 + (c6 + c7)) (c5 + c6 + (c7 + 0)) (c6 + c7 + 0) (c7 + 0 + 0) 0 0 0 0
  rw [← P8_div4 (c0 + c1 + (c2 + c3)) (c1 + c2 + (c3 + c4)) (c2 + c3 + (c4 + c5)) (c3 + c4 + (c5 + c6)) _ _ _ _ (by omega) (by omega) (by omega) (by omega)] at e6
  have l6 := P8_lt (c0 + c1 + (c2 + c3) + (c4 + c5 + (c6 + c7))) (c1 + c2 + (c3 + c4) + (c5 + c6 + (c7 + 0))) (c2 + c3 + (c4 + c5) + (c6 + c7 + 0)) (c3 + c4 + (c5 + c6) + (c7 + 0 + 0)) (c4 + c5 + (c6 + c7) + 0) (c5 + c6 + (c7 + 0) + 0) (c6 + c7 + 0 + 0) (c7 + 0 + 0 + 0) (by omega) (by omega) (by omega) (by omega) (by omega) (by omega) (by omega) (by omega)
  rw [st6_nat (by rw [e6]; exact q4 _ l6), e6, st7_nat (Nat.lt_trans l6 (by decide)), P8_mod]
  congr 1
  omega
theorem pop_st (x : Nat) (h : B64 x) : st7 (wrap64 (st6 (st5 (st4 (st3 (st2 (st1 x))))))) = ((nums x).length : Int) := by
  obtain ⟨e1, l1⟩ := st1_nat h
  obtain ⟨e2, l2⟩ := st2_nat (x := sw1 (m1 8) x) (by omega)
  rw [e1, e2, st3_nat l2, (sw_all 8 x).1]
  have p : ∀ b, popb (b % 256) ≤ 8 := fun b => (b4 ⟨b % 256, by omega⟩).2
  have q : ∀ b, popb (b % 256) = cnt 8 (b % 256) := fun b => (b4 ⟨b % 256, by omega⟩).1
  have hn : (nums x).length = cnt (8 + (8 + (8 + (8 + (8 + (8 + (8 + (8 + 0)))))))) x := rfl
  rw [hn]
  simp only [cnt_bytes, ← q]
  have hz : ∀ b, cnt 0 b = 0 := fun b => rfl
  rw [hz]
  simp only [bytesPop]
  refine (fold8 _ _ _ _ _ _ _ _ _ (p x) (p (x / 256)) (p (x / 256 / 256)) (p (x / 256 / 256 / 256)) (p (x / 256 / 256 / 256 / 256)) (p (x / 256 / 256 / 256 / 256 / 256)) (p (x / 256 / 256 / 256 / 256 / 256 / 256)) (p (x / 256 / 256 / 256 / 256 / 256 / 256 / 256)) ?_).trans ?_
  · unfold P8
    generalize popb (x % 256) = c0
    generalize popb (x / 256 % 256) = c1
    generalize popb (x / 256 / 256 % 256) = c2
    generalize popb (x / 256 / 256 / 256 % 256) = c3
    generalize popb (x / 256 / 256 / 256 / 256 % 256) = c4
    generalize popb (x / 256 / 256 / 256 / 256 / 256 % 256) = c5
    generalize popb (x / 256 / 256 / 256 / 256 / 256 / 256 % 256) = c6
    generalize popb (x / 256 / 256 / 256 / 256 / 256 / 256 / 256 % 256) = c7
    clear p q hn hz e1 l1 e2 l2 h
    omega
  · congr 1
    generalize popb (x % 256) = c0
    generalize popb (x / 256 % 256) = c1
    generalize popb (x / 256 / 256 % 256) = c2
    generalize popb (x / 256 / 256 / 256 % 256) = c3
    generalize popb (x / 256 / 256 / 256 / 256 % 256) = c4
    generalize popb (x / 256 / 256 / 256 / 256 / 256 % 256) = c5
    generalize popb (x / 256 / 256 / 256 / 256 / 256 / 256 % 256) = c6
    generalize popb (x / 256 / 256 / 256 / 256 / 256 / 256 / 256 % 256) = c7
    clear p q hn hz e1 l1 e2 l2 h
    omega
end Go.Proofs.Ytoandhhkmkgmaaa
