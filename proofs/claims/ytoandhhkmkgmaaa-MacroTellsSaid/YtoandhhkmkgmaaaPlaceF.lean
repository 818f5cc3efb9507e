/- Contract: the reference's Place, with the place itself. -/
import Derived.Test.YtoandhhkmkgmaaaName1
namespace Go.Proofs.Ytoandhhkmkgmaaa
open Go.RowKit

theorem placeOf_first {l : List (List UInt8)} {s : List UInt8} {k : Nat} (hk : l[k]? = some s) (hf : ∀ (j : Nat) (x : List UInt8), j < k → l[j]? = some x → x ≠ s) : placeOf l s = (k : Int) := by
  have hm := List.mem_of_getElem? hk
  unfold placeOf
  rw [if_pos hm]
  have hlt := List.idxOf_lt_length_iff.2 hm
  have h3 : l[l.idxOf s] = s := List.getElem_idxOf hlt
  have hn : ¬ l.idxOf s < k := fun h => hf _ _ h (List.getElem?_eq_getElem hlt) h3
  rcases Nat.lt_or_ge k (l.idxOf s) with h | h
  · obtain ⟨h1, h2⟩ := List.getElem?_eq_some_iff.1 hk
    unfold List.idxOf at h
    have hh := List.not_of_lt_findIdx h
    rw [h2] at hh
    simp at hh
  · have : l.idxOf s = k := by omega
    rw [this]
set_option maxHeartbeats 1000000 in
theorem placeF_any {A : Option Addr} {n c : Nat} (l : List (List UInt8)) (s : List UInt8) (w : World) (hr : Rd w A (l.map sv)) (hn : l.length = n) (hb : n ≤ 9223372036854775807) :
    Calls Try.prog 34 #[.slice A n c, sv s] w fun e w' => e = .returned (.int .i64 (placeOf l s)) ∧ w = w' := by
  have HR := Lib.hid hr
  have HN := Lib.hid hn
  unfold sv
  generalize hbs : (⟨s.toArray⟩ : ByteArray) = bs
  have HBS := Lib.hid hbs
  clear hr hn hbs
  go_enter Try.func34, Try.ntmps34
  go_wp2_with fail
  go_loop [5, 6, 9] (fun _ _ i => ∃ k : Nat, k ≤ n ∧ i = .int .i64 (k : Int) ∧ Hid (∀ (j : Nat) (x : List UInt8), j < k → l[j]? = some x → x ≠ s)) (fun _ _ i => n - (intOf i).toNat)
  case atStart => exact ⟨0, by omega, rfl, Lib.hid (fun _ _ hj => absurd hj (Nat.not_lt_zero _))⟩
  case round =>
    obtain ⟨k, hk, rfl, hall⟩ := hrel
    by_cases hlt : k < n
    · obtain ⟨x, hx⟩ : ∃ x, l[k]? = some x := ⟨_, List.getElem?_eq_getElem (by rw [HN.out]; exact hlt)⟩
      obtain ⟨b, off, rfl, hc⟩ := HR.out.scell hx
      have HX := Lib.hid hx
      have HEQ := Lib.hid (eq_sv x s)
      rw [HBS.out] at HEQ
      generalize (⟨x.toArray⟩ : ByteArray) = bx at hc HEQ
      clear hx
      by_cases he : x = s
      · have h1 : (bx.toList == bs.toList) = true := by rw [HEQ.out, he]; simp
        have HS := Lib.hid he
        clear he
        go_wp2_with fail
        go_ret
        exact ⟨ret_int (placeOf_first (by rw [HX.out, HS.out]) hall.out).symm, rfl⟩
      · have h1 : (bx.toList == bs.toList) = false := by rw [HEQ.out]; simp [he]
        have HS := Lib.hid he
        clear he
        go_wp2_with fail
        go_round
        case rel => exact ⟨k + 1, by omega, by go_num, Lib.hid (fun j y hj hy => by
          rcases Nat.lt_or_ge j k with h | h
          · exact hall.out j y h hy
          · obtain rfl : j = k := by omega
            rw [HX.out] at hy
            injection hy with hy
            rw [← hy]; exact HS.out)⟩
        case measure => simp [intOf]; omega
    · go_wp2_with fail
      go_ret
      exact ⟨ret_int (by
        unfold placeOf
        rw [if_neg (fun hm => by
          obtain ⟨j, hj⟩ := List.mem_iff_getElem?.1 hm
          exact hall.out j s (by have := (List.getElem?_eq_some_iff.1 hj).1; have := HN.out; omega) hj rfl)]), rfl⟩
theorem placeOf_in {l : List (List UInt8)} {s : List UInt8} (h : s ∈ l) : ∃ k : Nat, placeOf l s = (k : Int) ∧ l[k]? = some s := by
  refine ⟨l.idxOf s, by unfold placeOf; rw [if_pos h], ?_⟩
  have hlt := List.idxOf_lt_length_iff.2 h
  rw [List.getElem?_eq_getElem hlt]
  congr 1
  exact List.getElem_idxOf hlt
theorem placeOf_out {l : List (List UInt8)} {s : List UInt8} (h : s ∉ l) : placeOf l s = -1 := by unfold placeOf; rw [if_neg h]
end Go.Proofs.Ytoandhhkmkgmaaa
