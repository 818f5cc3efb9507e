/- Hexadecimal digits, plain: the low digits of a number, how many it has. -/
import Derived.Test.YtcjhkfhogcdobaaDoorBase
namespace Go.Proofs.YtcjhkfhogcdobaaDoor

/-- A digit as a byte. -/
def hexD (d : Nat) : UInt8 := if d < 10 then UInt8.ofNat (48 + d) else UInt8.ofNat (87 + d)
/-- The t low digits of u, the highest ahead. -/
def hexT (u : Nat) : Nat → List UInt8
  | 0 => []
  | t + 1 => hexD (u / 16 ^ t % 16) :: hexT u t
theorem hexT_len (u : Nat) : ∀ t, (hexT u t).length = t
  | 0 => rfl
  | t + 1 => by rw [hexT, List.length_cons, hexT_len u t]
/-- How many digits a number has: at least one. -/
def hexN (u : Nat) : Nat → Nat → Nat
  | t, 0 => t + 1
  | t, f + 1 => if u / 16 ^ t < 16 then t + 1 else hexN u (t + 1) f
/-- Its digits, behind as many zeros as fill n places. -/
theorem hexT_fill {u t : Nat} (h : u < 16 ^ t) : ∀ n, hexT u (t + n) = List.replicate n (hexD 0) ++ hexT u t
  | 0 => by simp
  | n + 1 => by
    rw [show t + (n + 1) = (t + n) + 1 from rfl, hexT, hexT_fill h n, List.replicate_succ, List.cons_append]
    congr 2
    have : u / 16 ^ (t + n) = 0 := Nat.div_eq_of_lt (Nat.lt_of_lt_of_le h (Nat.pow_le_pow_right (by decide) (by omega)))
    rw [this]
theorem div16_step (u t : Nat) : u / 16 ^ t / 16 = u / 16 ^ (t + 1) := by rw [Nat.div_div_eq_div_mul, Nat.pow_succ]
end Go.Proofs.YtcjhkfhogcdobaaDoor
