/- Contracts: slices.Clone and the reference's SameTimes at times. Lengths below 2^43. -/
import Derived.Test.YtonmkmghpiagjaaDoorSpan2
import Derived.Test.YtonmkmghpiagjaaDoorOwn2
import Derived.Lib.SliceRun
namespace Go.Proofs.YtonmkmghpiagjaaDoor
open Go.RowKit

theorem elF64 : ElT Tryd.prog 55 56 (.float .f64 0) 8 := ElT.mk' Tryd.underlying55 (by kernel_rfl) rfl
theorem own_empty (w : World) (e : TypeId) : (w.alloc (.cells #[] e)).ownsRow w.heap.size e 1 (.slice (some ⟨w.heap.size, 0, none⟩) 0 0) 0 [] := World.ownsRow_made w #[] 0 (Nat.le_refl _) (Nat.zero_le _) rfl
def OwnP (E : TypeId) (n : Nat) (xs : List Value) (w : World) (e : Ending) (w' : World) : Prop :=
  ∃ A c, e = .returned (.slice A n c) ∧ w'.ownsRow w.heap.size E 1 (.slice A n c) n xs ∧ Below w.heap.size w w'
theorem fv_one (l : List UInt64) : ∀ u ∈ l.map fv, u.oneCell' = true := by
  intro u hu
  obtain ⟨x, _, rfl⟩ := List.mem_map.1 hu
  rfl
theorem sameBits_nat (a b : Nat) (w : World) :
    Calls Tryd.prog 37 #[.float .f64 a, .float .f64 b] w fun e w' => e = .returned (.bool (decide (a = b))) ∧ w = w' := by
  go_enter Tryd.func37, Tryd.ntmps37
  go_wp2_with fail
  go_ret
  exact ⟨ret_bool (by rw [Bool.eq_iff_iff]; simp; omega), rfl⟩
set_option maxHeartbeats 1000000 in
/-- Two lists that are one. -/
theorem sameTimes_self {A1 A2 : Option Addr} {n c1 c2 : Nat} (l : List UInt64) (w : World) (h1 : Rd w A1 (l.map fv)) (h2 : Rd w A2 (l.map fv)) (hn : l.length = n) (hb : n ≤ 9223372036854775807) :
    Calls Tryd.prog 40 #[.slice A1 n c1, .slice A2 n c2] w fun e w' => e = .returned (.bool true) ∧ Below w.heap.size w w' := by
  have H1 := Lib.hid h1
  have H2 := Lib.hid h2
  have HN := Lib.hid hn
  have hz : ((n : Int) != (n : Int)) = false := by simp
  clear h1 h2 hn
  go_enter Tryd.func40, Tryd.ntmps40
  go_wp2_with fail
  go_loopw [5, 13] (fun _ i wr => ∃ k q : Nat, k ≤ n ∧ i = .int .i64 (k : Int) ∧ wr = w.drewN q) (fun _ i _ => n - (intOf i).toNat)
  case atStart => exact ⟨0, 0, by omega, rfl, rfl⟩
  case round =>
    obtain ⟨k, q, hk, rfl, rfl⟩ := hrel
    by_cases hlt : k < n
    · obtain ⟨x, hx⟩ : ∃ x, l[k]? = some x := ⟨_, List.getElem?_eq_getElem (by rw [HN.out]; exact hlt)⟩
      obtain ⟨b1, o1, rfl, e1⟩ := H1.out.fcell hx
      obtain ⟨b2, o2, rfl, e2⟩ := H2.out.fcell hx
      have HS : Hid (decide (x.toNat = x.toNat) = true) := Lib.hid (by simp)
      have k0 : (0 : Int) ≤ (k : Int) := by omega
      have k1 : (k : Int) < (n : Int) := by omega
      have HQ : Hid (∀ w : World, Calls Tryd.prog 37 #[.float .f64 x.toNat, .float .f64 x.toNat] w fun e w' => e = .returned (.bool true) ∧ w = w') := Lib.hid (fun w => (sameBits_nat _ _ w).mono fun e w' ⟨a, b⟩ => ⟨by rw [a, HS.out], b⟩)
      clear hx HS
      go_wp2_with fail
      go_quiet ((go_at_call 37; exact Calls.mono (HQ.out _) (fun _ _ hh => ⟨hh.1, _, hh.2.symm⟩)))
      go_wp2_with fail
      go_roundw
      case rel => exact ⟨k + 1, _, by omega, by go_num, rfl⟩
      case measure => simp [intOf]; omega
    · obtain rfl : k = n := by omega
      go_wp2_with fail
      go_ret
      exact ⟨rfl, below_of_drewN _ _⟩
end Go.Proofs.YtonmkmghpiagjaaDoor
