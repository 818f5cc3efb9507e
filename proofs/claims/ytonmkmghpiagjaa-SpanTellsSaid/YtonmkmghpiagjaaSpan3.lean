/- Contracts: slices.Clone and the reference's SameTimes at times. Lengths below 2^43. -/
import Derived.Test.YtonmkmghpiagjaaSpan2
import Derived.Test.YtonmkmghpiagjaaOwn2
import Derived.Lib.SliceRun
namespace Go.Proofs.Ytonmkmghpiagjaa
open Go.RowKit

theorem elF64 : ElT Try.prog 23 22 (.float .f64 0) 8 := ElT.mk' Try.underlying23 (by kernel_rfl) rfl
theorem own_empty (w : World) (e : TypeId) : (w.alloc (.cells #[] e)).ownsRow w.heap.size e 1 (.slice (some ⟨w.heap.size, 0, none⟩) 0 0) 0 [] := World.ownsRow_made w #[] 0 (Nat.le_refl _) (Nat.zero_le _) rfl
def OwnP (E : TypeId) (n : Nat) (xs : List Value) (w : World) (e : Ending) (w' : World) : Prop :=
  ∃ A c, e = .returned (.slice A n c) ∧ w'.ownsRow w.heap.size E 1 (.slice A n c) n xs ∧ Below w.heap.size w w'
theorem fv_one (l : List UInt64) : ∀ u ∈ l.map fv, u.oneCell' = true := by
  intro u hu
  obtain ⟨x, _, rfl⟩ := List.mem_map.1 hu
  rfl
set_option maxHeartbeats 1000000 in
theorem tClone_any {A : Option Addr} {n c : Nat} (l : List UInt64) (w : World) (hr : Rd w A (l.map fv)) (hn : l.length = n) (hb : n * 8 ≤ 140737488355328) :
    Calls Try.prog 22 #[.slice A n c] w (OwnP 22 n (l.map fv) w) := by
  have HR := Lib.hid hr
  have HN := Lib.hid hn
  clear hr hn
  cases A with
  | none =>
    have hl : l = [] := List.map_eq_nil_iff.1 (rd_none HR.out)
    have h0 : n = 0 := by rw [← HN.out, hl]; rfl
    subst h0
    subst hl
    have hnil := fun w => Lib.run_eql_slice_nil (P := Try.prog) w 23 22 none 0 c 0 0 Try.underlying23
    go_enter Try.func22, Try.ntmps22
    go_wp2_with fail
    go_ret
    exact ⟨none, _, rfl, World.ownsRow_nil _ _ _ _, Below.refl _ _⟩
  | some a =>
    have hnil := fun w => Lib.run_eql_slice_nil (P := Try.prog) w 23 22 (some a) n c 0 0 Try.underlying23
    go_enter Try.func22, Try.ntmps22
    go_wp2_with (at_builtin; refine wpList_cat elF64 (w.alloc (.cells #[] 22)) _ _ w.heap.size _ 0 0 [] (some a) n c (l.map fv) (own_empty w _) (HR.out.alloc _) (by rw [List.length_map]; exact HN.out) (fv_one l) (by simp) (by omega) (by omega) rfl rfl rfl rfl ?_; intro A' c' w5 hown5 hb5)
    rw [Nat.zero_add, List.nil_append] at hown5
    have HO := Lib.hid hown5
    have HB := Lib.hid ((below_new (Below.refl w.heap.size w) (.cells #[] 22)).trans hb5)
    clear hown5 hb5
    go_wp2_with fail
    go_ret
    exact ⟨A', c', rfl, HO.out, HB.out⟩
theorem sameBits_nat (a b : Nat) (w : World) :
    Calls Try.prog 9 #[.float .f64 a, .float .f64 b] w fun e w' => e = .returned (.bool (decide (a = b))) ∧ w = w' := by
  go_enter Try.func9, Try.ntmps9
  go_wp2_with fail
  go_ret
  exact ⟨ret_bool (by rw [Bool.eq_iff_iff]; simp; omega), rfl⟩
set_option maxHeartbeats 1000000 in
/-- Two lists that are one. -/
theorem sameTimes_self {A1 A2 : Option Addr} {n c1 c2 : Nat} (l : List UInt64) (w : World) (h1 : Rd w A1 (l.map fv)) (h2 : Rd w A2 (l.map fv)) (hn : l.length = n) (hb : n ≤ 9223372036854775807) :
    Calls Try.prog 12 #[.slice A1 n c1, .slice A2 n c2] w fun e w' => e = .returned (.bool true) ∧ Below w.heap.size w w' := by
  have H1 := Lib.hid h1
  have H2 := Lib.hid h2
  have HN := Lib.hid hn
  have hz : ((n : Int) != (n : Int)) = false := by simp
  clear h1 h2 hn
  go_enter Try.func12, Try.ntmps12
  go_wp2_with fail
  go_loopw [5, 13] (fun _ i wr => ∃ k q : Nat, k ≤ n ∧ i = .int .i64 (k : Int) ∧ wr = w.drewN q) (fun _ i _ => n - (intOf i).toNat)
  case atStart => exact ⟨0, 0, by omega, rfl, rfl⟩
  case round =>
    obtain ⟨k, q, hk, rfl, rfl⟩ := hrel
    by_cases hlt : k < n
    · obtain ⟨x, hx⟩ : ∃ x, l[k]? = some x := ⟨_, List.getElem?_eq_getElem (by rw [HN.out]; exact hlt)⟩
      obtain ⟨b1, o1, rfl, e1⟩ := H1.out.fcell hx
      obtain ⟨b2, o2, rfl, e2⟩ := H2.out.fcell hx
      have HS : Hid (decide (x.toNat = x.toNat) = true) := Lib.hid (by simp)
      have k0 : (0 : Int) ≤ (k : Int) := by omega
      have k1 : (k : Int) < (n : Int) := by omega
      have HQ : Hid (∀ w : World, Calls Try.prog 9 #[.float .f64 x.toNat, .float .f64 x.toNat] w fun e w' => e = .returned (.bool true) ∧ w = w') := Lib.hid (fun w => (sameBits_nat _ _ w).mono fun e w' ⟨a, b⟩ => ⟨by rw [a, HS.out], b⟩)
      clear hx HS
      go_wp2_with fail
      go_quiet ((go_at_call 9; exact Calls.mono (HQ.out _) (fun _ _ hh => ⟨hh.1, _, hh.2.symm⟩)))
      go_wp2_with fail
      go_roundw
      case rel => exact ⟨k + 1, _, by omega, by go_num, rfl⟩
      case measure => simp [intOf]; omega
    · obtain rfl : k = n := by omega
      go_wp2_with fail
      go_ret
      exact ⟨rfl, below_of_drewN _ _⟩
end Go.Proofs.Ytonmkmghpiagjaa
