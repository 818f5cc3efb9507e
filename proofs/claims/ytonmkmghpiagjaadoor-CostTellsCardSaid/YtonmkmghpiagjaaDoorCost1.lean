/- Contracts: cost.check and what it calls. The table of math/bits lies. -/
import Derived.Test.YtonmkmghpiagjaaDoorCostPlain
import Derived.Test.YtonmkmghpiagjaaDoorSpan2
import Derived.Test.YtonmkmghpiagjaaDoorChain1
namespace Go.Proofs.YtonmkmghpiagjaaDoor
open Go.RowKit

def wrongT (x : UInt64) : Bool := !rightT x
theorem wrong_any (x : UInt64) (w : World) :
    Calls Tryd.prog 110 #[fv x] w fun e w' => e = .returned (.bool (wrongT x)) ∧ w = w' := by
  have HX := Lib.hid (right_any x w)
  have HW : Hid ((!rightT x) = wrongT x) := Lib.hid rfl
  generalize rightT x = y at *
  go_enter Tryd.func110, Tryd.ntmps110
  go_wp2_with fail
  refine HX.out.mono ?_
  rintro e w' ⟨rfl, rfl⟩
  go_wp2_with fail
  go_ret
  exact ⟨ret_bool HW.out, rfl⟩
/-- Where the first wrong one stands: -1, if there is none. -/
def IdxF (l : List UInt64) (n : Nat) (z : Int) : Prop := (z = -1 ∧ ∀ j, j < n → wrongT (l[j]?.getD 0) = false) ∨ (0 ≤ z ∧ l.any wrongT = true)
set_option maxHeartbeats 1000000 in
theorem indexFunc_any {A : Option Addr} {n c : Nat} (l : List UInt64) (w : World) (hr : Rd w A (l.map fv)) (hn : l.length = n) (hb : n ≤ 9223372036854775807) :
    Calls Tryd.prog 138 #[.slice A n c, .func (.func 110) #[] #[]] w fun e w' => ∃ z : Int, e = .returned (.int .i64 z) ∧ IdxF l n z ∧ w = w' := by
  have HR := Lib.hid hr
  have HN := Lib.hid hn
  clear hr hn
  go_enter Tryd.func138, Tryd.ntmps138
  go_wp2_with fail
  go_loop [5, 8] (fun _ i => ∃ k : Nat, k ≤ n ∧ i = .int .i64 (k : Int) ∧ Hid (∀ j, j < k → wrongT (l[j]?.getD 0) = false)) (fun _ i => n - (intOf i).toNat)
  case atStart => exact ⟨0, by omega, rfl, Lib.hid (fun j hj => absurd hj (by omega))⟩
  case round =>
    obtain ⟨k, hk, rfl, hall⟩ := hrel
    by_cases hlt : k < n
    · obtain ⟨x, hx⟩ : ∃ x, l[k]? = some x := ⟨_, List.getElem?_eq_getElem (by rw [HN.out]; exact hlt)⟩
      obtain ⟨b, off, rfl, hc⟩ := HR.out.fcell hx
      have HX := Lib.hid hx
      have HW := Lib.hid (wrong_any x)
      have HF : Hid (fv x = .float .f64 x.toNat) := Lib.hid rfl
      clear hx
      go_wp2_with fail
      rw [← HF.out]
      refine (HW.out _).mono ?_
      rintro e w' ⟨rfl, rfl⟩
      cases hq : wrongT x with
      | true =>
        have HA : Hid (l.any wrongT = true) := Lib.hid (List.any_eq_true.2 ⟨x, List.mem_of_getElem? HX.out, hq⟩)
        clear hq
        go_wp2_with fail
        go_ret
        exact ⟨(k : Int), rfl, .inr ⟨by omega, HA.out⟩, rfl⟩
      | false =>
        have HA : Hid (∀ j, j < k + 1 → wrongT (l[j]?.getD 0) = false) := Lib.hid (fun j hj => by
          rcases Nat.lt_or_ge j k with h | h
          · exact hall.out j h
          · obtain rfl : j = k := by omega
            rw [HX.out]; exact hq)
        clear hq
        go_wp2_with fail
        go_round
        case rel => exact ⟨k + 1, by omega, by go_num, HA⟩
        case measure => simp [intOf]; omega
    · obtain rfl : k = n := by omega
      go_wp2_with fail
      go_ret
      exact ⟨-1, rfl, .inl ⟨rfl, hall.out⟩, rfl⟩
theorem wrong_all {l : List UInt64} {n : Nat} (hn : l.length = n) (h : ∀ j, j < n → wrongT (l[j]?.getD 0) = false) : l.any wrongT = false := by
  rw [List.any_eq_false]
  intro x hx
  obtain ⟨j, hj⟩ := List.mem_iff_getElem?.1 hx
  have := h j (by rw [← hn]; exact (List.getElem?_eq_some_iff.1 hj).1)
  rw [hj] at this
  simp only [Option.getD_some] at this
  rw [this]
  simp
theorem containsFunc_any {A : Option Addr} {n c : Nat} (l : List UInt64) (w : World) (hr : Rd w A (l.map fv)) (hn : l.length = n) (hb : n ≤ 9223372036854775807) :
    Calls Tryd.prog 109 #[.slice A n c, .func (.func 110) #[] #[]] w fun e w' => e = .returned (.bool (l.any wrongT)) ∧ w = w' := by
  have HX := Lib.hid (indexFunc_any (c := c) l w hr hn hb)
  have HN := Lib.hid hn
  clear hr hn
  go_enter Tryd.func109, Tryd.ntmps109
  go_wp2_with fail
  refine HX.out.mono ?_
  rintro e w' ⟨z, rfl, hz, rfl⟩
  rcases hz with ⟨rfl, hall⟩ | ⟨h0, hany⟩
  · have HE := Lib.hid (wrong_all HN.out hall)
    clear hall
    go_wp2_with fail
    go_ret
    exact ⟨ret_bool HE.out.symm, rfl⟩
  · have HE := Lib.hid hany
    clear hany
    go_wp2_with fail
    go_ret
    exact ⟨ret_bool HE.out.symm, rfl⟩
/-- What cost.check says of rows and times. -/
def costErr (l : List Nat) (d : List UInt64) : Int := if faultOf l [] ≠ 0 then faultOf l [] else if d.length ≠ l.length ∨ d.any wrongT = true then 1 else if ordR l ≠ 0 then 8 else 0
theorem cost_ok {l : List Nat} {d : List UInt64} (hb : Rows64 l) (h : costErr l d = 0) : Good l ∧ d.length = l.length ∧ (∀ i : Nat, RT (d[i]?.getD 0)) ∧ ordR l = 0 ∧ faultOf l [] = 0 := by
  unfold costErr at h
  by_cases h1 : faultOf l [] = 0
  · rw [if_neg (by simp [h1])] at h
    by_cases h2 : d.length ≠ l.length ∨ d.any wrongT = true
    · rw [if_pos h2] at h; cases h
    · rw [if_neg h2] at h
      by_cases h3 : ordR l = 0
      · refine ⟨(faultOf_ok hb (by simp) h1).1, by omega, fun i => ?_, h3, h1⟩
        have h4 : d.any wrongT = false := by
          cases hq : d.any wrongT with
          | false => rfl
          | true => exact absurd (.inr hq) h2
        rcases hi : d[i]? with _ | x
        · exact rt_zero
        · have := List.any_eq_false.1 h4 x (List.mem_of_getElem? hi)
          unfold wrongT rightT at this
          unfold RT
          simpa using this
      · rw [if_pos h3] at h; cases h
  · rw [if_pos h1] at h; exact absurd h h1
end Go.Proofs.YtonmkmghpiagjaaDoor
