/- Hexadecimal digits read and written again, plain. -/
import Derived.Test.YtcjhkfhogcdobaaDoorHex4
namespace Go.Proofs.YtcjhkfhogcdobaaDoor

theorem hexT_mul (A v : Nat) (hv : v < 16) : ∀ n, hexT (A * 16 + v) (n + 1) = hexT A n ++ [hexD v]
  | 0 => by
    show [hexD ((A * 16 + v) / 16 ^ 0 % 16)] = [hexD v]
    rw [Nat.pow_zero, Nat.div_one, show (A * 16 + v) % 16 = v by omega]
  | n + 1 => by
    rw [hexT, hexT_mul A v hv n]
    show _ = hexD (A / 16 ^ n % 16) :: hexT A n ++ [hexD v]
    have e : (A * 16 + v) / 16 ^ (n + 1) = A / 16 ^ n := by
      rw [Nat.pow_succ, Nat.mul_comm (16 ^ n) 16, ← Nat.div_div_eq_div_mul]
      congr 1
      omega
    rw [e]
    rfl
theorem hexD_fin : ∀ n : Fin 256, lowHex (UInt8.ofNat n.val) = true → hexD (hexVal (UInt8.ofNat n.val)) = UInt8.ofNat n.val ∧ hexVal (UInt8.ofNat n.val) < 16 := by decide +kernel
theorem hexD_val (c : UInt8) (h : lowHex c = true) : hexD (hexVal c) = c ∧ hexVal c < 16 := by
  have := hexD_fin ⟨c.toNat, c.toNat_lt⟩
  simp only [UInt8.ofNat_toNat] at this
  exact this h
theorem hexT_acc (L : List UInt8) (hL : ∀ x ∈ L, lowHex x = true) : hexT (hexAcc L) L.length = L := by
  have key : ∀ n, n ≤ L.length → hexT (hexAcc (L.take n)) n = L.take n := by
    intro n
    induction n with
    | zero => intro _; rfl
    | succ n ih =>
      intro hn
      have h1 : L[n]? = some (L[n]'(by omega)) := List.getElem?_eq_getElem (by omega)
      have h2 : L.take (n + 1) = L.take n ++ [L[n]'(by omega)] := by rw [List.take_add_one, h1]; rfl
      obtain ⟨h3, h4⟩ := hexD_val _ (hL _ (List.getElem_mem (h := (by omega : n < L.length))))
      rw [h2, hexAcc_snoc, hexT_mul _ _ h4, ih (by omega), h3]
  have := key L.length (Nat.le_refl _)
  rwa [List.take_length] at this
theorem hexD_low : ∀ n : Fin 16, lowHex (hexD n.val) = true := by decide +kernel
theorem hexT_low (u : Nat) : ∀ t, ∀ x ∈ hexT u t, lowHex x = true
  | 0, x, h => by simp [hexT] at h
  | t + 1, x, h => by
    rw [hexT, List.mem_cons] at h
    rcases h with rfl | h
    · exact hexD_low ⟨u / 16 ^ t % 16, Nat.mod_lt _ (by decide)⟩
    · exact hexT_low u t x h
theorem hexOk_hexT (u : Nat) : hexOk (hexT u 16) = true := by
  unfold hexOk
  rw [hexT_len, decide_eq_true rfl, Bool.true_and, List.all_eq_true]
  exact hexT_low u 16
end Go.Proofs.YtcjhkfhogcdobaaDoor
