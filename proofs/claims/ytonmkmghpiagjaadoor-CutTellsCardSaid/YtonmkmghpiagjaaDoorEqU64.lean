/- slices.Equal at uint64: it tells whether two lists are equal. The lists are shorter than 2^63. -/
import Derived.Test.YtonmkmghpiagjaaDoorRows
import Derived.Test.YtonmkmghpiagjaaDoorBase
import Derived.WalkKit
import Derived.WalkSpells
import Derived.WalkLawsBesides
import Derived.Outline
import Derived.BigQuiet
import Derived.Deep.QuietTactic
import Derived.Lib.Hide
namespace Go.Proofs.YtonmkmghpiagjaaDoor
open Go.RowKit

theorem eq_of_getD_u {xs ys : List Int} (hl : xs.length = ys.length) (h : ∀ j, j < xs.length → xs[j]?.getD 0 = ys[j]?.getD 0) : xs = ys := by
  apply List.ext_getElem hl
  intro i h1 h2
  have := h i h1
  simpa [h1, h2] using this

set_option maxRecDepth 100000 in
theorem slEq_u64 (A1 A2 : Option Addr) (c1 c2 : Nat) (xs ys : List Int) (w : World) (h1 : Rd w A1 (xs.map (.int .u64))) (h2 : Rd w A2 (ys.map (.int .u64)))
    (hx : xs.length ≤ 9223372036854775807) (hy : ys.length ≤ 9223372036854775807) :
    Calls Tryd.prog 59 #[.slice A1 xs.length c1, .slice A2 ys.length c2] w fun e w' => e = .returned (.bool (decide (xs = ys))) ∧ Below w.heap.size w w' := by
  by_cases hl : xs.length = ys.length
  · have hl0 : (((xs.length : Int)) != (ys.length : Int)) = false := by simp [hl]
    generalize hm : ys.length = m at *
    generalize hn : xs.length = n at *
    have Hn := Lib.hid hn
    have Hm := Lib.hid hm
    subst hl
    clear hn hm
    go_enter Tryd.func59, Tryd.ntmps59
    go_wp2
    go_loopw [5, 13] (fun _ i wr => ∃ k : Nat, k ≤ n ∧ i = .int .i64 k ∧ (∀ j, j < k → xs[j]?.getD 0 = ys[j]?.getD 0) ∧ ∃ q, wr = w.drewN q) (fun _ i _ => n - (intOf i).toNat)
    case atStart => exact ⟨0, by omega, rfl, fun j hj => absurd hj (by omega), 0, rfl⟩
    case round =>
      obtain ⟨k, hk, rfl, hj, q, rfl⟩ := hrel
      by_cases hlt : k < n
      · obtain ⟨b1, o1, rfl, e1⟩ := h1.int (k := k) (by rw [Hn.out]; exact hlt)
        obtain ⟨b2, o2, rfl, e2⟩ := h2.int (k := k) (by rw [Hm.out]; exact hlt)
        have HJ := Lib.hid hj
        clear hj h1 h2
        by_cases hq : xs[k]?.getD 0 = ys[k]?.getD 0
        · have hq' : (xs[k]?.getD 0 != ys[k]?.getD 0) = false := by simp [hq]
          have HQ := Lib.hid hq
          clear hq
          go_wp2
          go_quiet (fail)
          go_wp2
          go_roundw
          case rel => exact ⟨k + 1, by omega, by go_num, fun j hj => by
            rcases Nat.lt_or_ge j k with h | h
            · exact HJ.out j h
            · have : j = k := by omega
              rw [this]; exact HQ.out, _, rfl⟩
          case measure => simp [intOf]; omega
        · have hq' : (xs[k]?.getD 0 != ys[k]?.getD 0) = true := by simp [hq]
          have hne : xs ≠ ys := fun h => hq (by rw [h])
          have HQ := Lib.hid hne
          clear hq hne
          go_wp2
          go_quiet (fail)
          go_wp2
          go_ret
          exact ⟨ret_bool (by simp [HQ.out]), below_drewN (below_of_drewN _ _) _⟩
      · have HJ := Lib.hid hj
        clear hj
        go_wp2
        go_ret
        refine ⟨ret_bool ?_, below_of_drewN _ _⟩
        have : xs = ys := eq_of_getD_u (by rw [Hn.out, Hm.out]) (fun j hj' => HJ.out j (by rw [Hn.out] at hj'; omega))
        simp [this]
  · have hl0 : (((xs.length : Int)) != (ys.length : Int)) = true := by simp; omega
    have hne : xs ≠ ys := fun h => hl (by rw [h])
    have HQ := Lib.hid hne
    clear hne
    go_enter Tryd.func59, Tryd.ntmps59
    go_wp2
    go_ret
    exact ⟨ret_bool (by simp [HQ.out]), Below.refl _ _⟩

/-- The same, the lengths given apart. -/
theorem slEq_u64_n {A1 A2 : Option Addr} {n1 n2 c1 c2 : Nat} (xs ys : List Int) {w : World} (h1 : Rd w A1 (xs.map (.int .u64))) (h2 : Rd w A2 (ys.map (.int .u64)))
    (e1 : xs.length = n1) (e2 : ys.length = n2) (hx : n1 ≤ 9223372036854775807) (hy : n2 ≤ 9223372036854775807) :
    Calls Tryd.prog 59 #[.slice A1 n1 c1, .slice A2 n2 c2] w fun e w' => e = .returned (.bool (decide (xs = ys))) ∧ Below w.heap.size w w' := by
  subst e1 e2
  exact slEq_u64 A1 A2 c1 c2 xs ys w h1 h2 hx hy
end Go.Proofs.YtonmkmghpiagjaaDoor
