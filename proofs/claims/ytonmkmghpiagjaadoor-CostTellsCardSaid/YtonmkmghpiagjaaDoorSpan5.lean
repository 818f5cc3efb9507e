/- Contracts: the greatest of times: slices.MaxFunc, Most. Lengths below 2^63. -/
import Derived.Test.YtonmkmghpiagjaaDoorSpan3
namespace Go.Proofs.YtonmkmghpiagjaaDoor
open Go.RowKit

theorem cf_pos {x m : UInt64} : 0 < cfT x m ↔ keyN m < keyN x := by
  unfold cfT
  constructor
  · intro h
    split at h
    · omega
    · split at h <;> omega
  · intro h
    rw [if_neg (by omega), if_pos h]; omega
theorem great_start {l : List UInt64} {x : UInt64} (h : l[0]? = some x) : Great l 1 x := ⟨List.mem_of_getElem? h, fun j y hj hy => by
  obtain rfl : j = 0 := by omega
  rw [h] at hy; injection hy with hy; rw [hy]; exact Nat.le_refl _⟩
theorem great_up {l : List UInt64} {k : Nat} {m x : UInt64} (h : Great l k m) (hx : l[k]? = some x) (hlt : keyN m < keyN x) : Great l (k + 1) x := ⟨List.mem_of_getElem? hx, fun j y hj hy => by
  rcases Nat.lt_or_ge j k with h1 | h1
  · have := h.2 j y h1 hy; omega
  · obtain rfl : j = k := by omega
    rw [hx] at hy; injection hy with hy; rw [hy]; exact Nat.le_refl _⟩
theorem great_keep {l : List UInt64} {k : Nat} {m x : UInt64} (h : Great l k m) (hx : l[k]? = some x) (hlt : ¬ keyN m < keyN x) : Great l (k + 1) m := ⟨h.1, fun j y hj hy => by
  rcases Nat.lt_or_ge j k with h1 | h1
  · exact h.2 j y h1 hy
  · obtain rfl : j = k := by omega
    rw [hx] at hy; injection hy with hy; rw [← hy]; omega⟩
set_option maxHeartbeats 1000000 in
theorem maxFunc_any {A : Option Addr} {n c : Nat} (l : List UInt64) (w : World) (hr : Rd w A (l.map fv)) (hn : l.length = n) (h0 : 0 < n) (hb : n ≤ 9223372036854775807) :
    Calls Tryd.prog 112 #[.slice A n c, .func (.func 113) #[] #[]] w fun e w' => e = .returned (.float .f64 (mostT l).toNat) ∧ w = w' := by
  have HR := Lib.hid hr
  have HN := Lib.hid hn
  obtain ⟨x0, hx0⟩ : ∃ x, l[0]? = some x := ⟨_, List.getElem?_eq_getElem (by rw [hn]; exact h0)⟩
  obtain ⟨b0, o0, rfl, hc0⟩ := hr.fcell hx0
  rw [Nat.add_zero] at hc0
  have HG := Lib.hid (great_start hx0)
  have hn1 : ((n : Int) < 1) = False := by simp; omega
  have HCL := Lib.hid (fun (k : Nat) (x : UInt64) (hx : l[k]? = some x) => hr.fcell hx)
  clear hr hn hx0
  go_enter Tryd.func112, Tryd.ntmps112
  go_wp2_with fail
  go_loop [5, 6] (fun m i => ∃ (k : Nat) (g : UInt64), 1 ≤ k ∧ k ≤ n ∧ i = .int .i64 (k : Int) ∧ m = .float .f64 g.toNat ∧ Hid (Great l k g)) (fun _ i => n - (intOf i).toNat)
  case atStart => exact ⟨1, x0, by omega, by omega, rfl, rfl, HG⟩
  case round =>
    obtain ⟨k, g, hk1, hk, rfl, rfl, hgr⟩ := hrel
    by_cases hlt : k < n
    · obtain ⟨x, hx⟩ : ∃ x, l[k]? = some x := ⟨_, List.getElem?_eq_getElem (by rw [HN.out]; exact hlt)⟩
      obtain ⟨b, off, hA, hc⟩ := HCL.out k x hx
      injection hA with hA
      injection hA with hb1 ho1 _
      subst hb1 ho1
      have HT := Lib.hid (tOrder_any x g)
      unfold fv at HT
      by_cases hcmp : keyN g < keyN x
      · have hp : (0 < cfT x g) = True := by simp [cf_pos, hcmp]
        have HU := Lib.hid (great_up hgr.out hx hcmp)
        clear hx hcmp hgr
        go_wp2_with fail
        refine (HT.out _).mono ?_
        rintro e w' ⟨rfl, rfl⟩
        go_wp2_with fail
        go_round
        case rel => exact ⟨k + 1, x, by omega, by omega, by go_num, rfl, HU⟩
        case measure => simp [intOf]; omega
      · have hp : (0 < cfT x g) = False := by simp [cf_pos]; omega
        have HU := Lib.hid (great_keep hgr.out hx hcmp)
        clear hx hcmp hgr
        go_wp2_with fail
        refine (HT.out _).mono ?_
        rintro e w' ⟨rfl, rfl⟩
        go_wp2_with fail
        go_round
        case rel => exact ⟨k + 1, g, by omega, by omega, by go_num, rfl, HU⟩
        case measure => simp [intOf]; omega
    · obtain rfl : k = n := by omega
      have HM : Hid (g = mostT l) := Lib.hid (by
        have := great_last (l := l) (m := g) (by rw [HN.out]; exact hgr.out)
        unfold mostT; rw [this]; rfl)
      clear hgr
      go_wp2_with fail
      go_ret
      exact ⟨by rw [← HM.out]; rfl, rfl⟩
theorem tMost_any {A : Option Addr} {n c : Nat} (l : List UInt64) (w : World) (hr : Rd w A (l.map fv)) (hn : l.length = n) (hb : n ≤ 9223372036854775807) :
    Calls Tryd.prog 77 #[.slice A n c] w fun e w' => e = .returned (.float .f64 (mostT l).toNat) ∧ w = w' := by
  by_cases h0 : n = 0
  · have hl : l = [] := List.eq_nil_of_length_eq_zero (by omega)
    subst h0 hl
    have HZ : Hid ((mostT []).toNat = 0) := Lib.hid (by simp [mostT, tsort])
    go_enter Tryd.func77, Tryd.ntmps77
    go_wp2_with fail
    go_ret
    exact ⟨by rw [HZ.out]; rfl, rfl⟩
  · have HM := Lib.hid (maxFunc_any (c := c) l w hr hn (by omega) hb)
    have hz : ((n : Int) == 0) = false := by simp; omega
    clear hr hn
    go_enter Tryd.func77, Tryd.ntmps77
    go_wp2_with fail
    refine HM.out.mono ?_
    rintro e w' ⟨rfl, rfl⟩
    go_wp2_with fail
    go_ret
    exact ⟨rfl, rfl⟩
end Go.Proofs.YtonmkmghpiagjaaDoor
