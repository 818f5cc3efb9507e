/- Contracts: the reference's Place; slices.Equal at texts; the last place of a byte; stems. Lengths below 2^62. -/
import Derived.Test.YtiechbaknolimaaDoorName2
namespace Go.Proofs.YtiechbaknolimaaDoor
open Go.RowKit

/-- Where a text stands. -/
def PlaceIs (l : List (List UInt8)) (s : List UInt8) (w : World) (e : Ending) (w' : World) : Prop :=
  ∃ i : Int, e = .returned (.int .i64 i) ∧ w = w' ∧ ((i = -1 ∧ s ∉ l) ∨ ∃ k : Nat, i = (k : Int) ∧ l[k]? = some s)
theorem eq_sv (x y : List UInt8) : ((⟨x.toArray⟩ : ByteArray).toList == (⟨y.toArray⟩ : ByteArray).toList) = decide (x = y) := by
  rw [Lib.toList_data, Lib.toList_data, Bool.eq_iff_iff]; simp
set_option maxHeartbeats 1000000 in
theorem place_any {A : Option Addr} {n c : Nat} (l : List (List UInt8)) (s : List UInt8) (w : World) (hr : Rd w A (l.map sv)) (hn : l.length = n) (hb : n ≤ 9223372036854775807) :
    Calls Tryd.prog 17 #[.slice A n c, sv s] w (PlaceIs l s w) := by
  have HR := Lib.hid hr
  have HN := Lib.hid hn
  unfold sv
  generalize hbs : (⟨s.toArray⟩ : ByteArray) = bs
  have HBS := Lib.hid hbs
  clear hr hn hbs
  go_enter Tryd.func17, Tryd.ntmps17
  go_wp2_with fail
  go_loop [5, 6, 9] (fun _ _ i => ∃ k : Nat, k ≤ n ∧ i = .int .i64 (k : Int) ∧ Hid (∀ (j : Nat) (x : List UInt8), j < k → l[j]? = some x → x ≠ s)) (fun _ _ i => n - (intOf i).toNat)
  case atStart => exact ⟨0, by omega, rfl, Lib.hid (fun _ _ hj => absurd hj (Nat.not_lt_zero _))⟩
  case round =>
    obtain ⟨k, hk, rfl, hall⟩ := hrel
    by_cases hlt : k < n
    · obtain ⟨x, hx⟩ : ∃ x, l[k]? = some x := ⟨_, List.getElem?_eq_getElem (by rw [HN.out]; exact hlt)⟩
      obtain ⟨b, off, rfl, hc⟩ := HR.out.scell hx
      have HX := Lib.hid hx
      have HEQ := Lib.hid (eq_sv x s)
      rw [HBS.out] at HEQ
      generalize (⟨x.toArray⟩ : ByteArray) = bx at hc HEQ
      clear hx
      by_cases he : x = s
      · have h1 : (bx.toList == bs.toList) = true := by rw [HEQ.out, he]; simp
        have HS := Lib.hid he
        clear he
        go_wp2_with fail
        go_ret
        exact ⟨(k : Int), rfl, rfl, .inr ⟨k, rfl, by rw [HX.out, HS.out]⟩⟩
      · have h1 : (bx.toList == bs.toList) = false := by rw [HEQ.out]; simp [he]
        have HS := Lib.hid he
        clear he
        go_wp2_with fail
        go_round
        case rel => exact ⟨k + 1, by omega, by go_num, Lib.hid (fun j y hj hy => by
          rcases Nat.lt_or_ge j k with h | h
          · exact hall.out j y h hy
          · obtain rfl : j = k := by omega
            rw [HX.out] at hy
            injection hy with hy
            rw [← hy]; exact HS.out)⟩
        case measure => simp [intOf]; omega
    · go_wp2_with fail
      go_ret
      exact ⟨-1, rfl, rfl, .inl ⟨rfl, fun hm => by
        obtain ⟨j, hj⟩ := List.mem_iff_getElem?.1 hm
        exact hall.out j s (by have := (List.getElem?_eq_some_iff.1 hj).1; have := HN.out; omega) hj rfl⟩⟩
end Go.Proofs.YtiechbaknolimaaDoor
