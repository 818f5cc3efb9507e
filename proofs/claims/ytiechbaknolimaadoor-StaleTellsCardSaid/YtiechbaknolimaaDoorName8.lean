/- Contract: name.Sort. Lengths below 2^40. -/
import Derived.Test.YtiechbaknolimaaDoorName7
namespace Go.Proofs.YtiechbaknolimaaDoor
open Go.RowKit

/-- What Sort hands back. -/
def sortL (l : List (List UInt8)) : List (List UInt8) := if l.all goodName then rising l else []
def SortPost (l : List (List UInt8)) (w : World) (e : Ending) (w' : World) : Prop :=
  ∃ A c, e = .returned (.tuple #[.slice A (sortL l).length c, .int .i64 (namesErr l)]) ∧ Rd w' A ((sortL l).map sv) ∧ Below w.heap.size w w'
theorem nameErr_good {s : List UInt8} (h : goodName s = true) : nameErr s = 0 := by unfold nameErr; rw [if_pos h]
theorem nameErr_bad {s : List UInt8} (h : goodName s = false) : nameErr s = 3 := by unfold nameErr; rw [if_neg (by simp [h])]
theorem sort_bad {l : List (List UInt8)} {w : World} (h : l.all goodName = false) {e : Ending} (he : e = .returned (.tuple #[.slice none 0 0, .int .i64 3])) : SortPost l w e w :=
  ⟨none, 0, by rw [he]; simp [sortL, namesErr, h], by simpa [sortL, h] using Rd.nil_ w none, Below.refl _ _⟩

set_option maxHeartbeats 2000000 in
theorem nSort_any {A : Option Addr} {n c : Nat} (l : List (List UInt8)) (w : World) (hr : Rd w A (l.map sv)) (hn : l.length = n) (hb : n ≤ 1099511627776) (hs : StrsOk l) :
    Calls Tryd.prog 42 #[.slice A n c] w (SortPost l w) := by
  have HR := Lib.hid hr
  have HN := Lib.hid hn
  have HS := Lib.hid hs
  clear hr hn hs
  go_enter Tryd.func42, Tryd.ntmps42
  go_wp2_with fail
  go_loop [5, 6, 9] (fun _ _ i => ∃ k : Nat, k ≤ n ∧ i = .int .i64 (k : Int) ∧ Hid (∀ (j : Nat) (s : List UInt8), j < k → l[j]? = some s → goodName s = true)) (fun _ _ i => n - (intOf i).toNat)
  case atStart => exact ⟨0, by omega, rfl, Lib.hid (fun _ _ hj => absurd hj (Nat.not_lt_zero _))⟩
  case round =>
    obtain ⟨k, hk, rfl, hall⟩ := hrel
    by_cases hlt : k < n
    · obtain ⟨x, hx⟩ : ∃ x, l[k]? = some x := ⟨_, List.getElem?_eq_getElem (by rw [HN.out]; exact hlt)⟩
      obtain ⟨b, off, rfl, hc⟩ := HR.out.scell hx
      have HX := Lib.hid hx
      have HC := Lib.hid (nmCheck_any x · (HS.out x (List.mem_of_getElem? hx)))
      unfold sv at HC
      clear hx
      cases hq : goodName x with
      | true =>
        have HQ := Lib.hid hq
        have HZ := Lib.hid (nameErr_good hq)
        clear hq
        go_wp2_with fail
        refine (HC.out _).mono ?_
        rintro e w' ⟨rfl, rfl⟩
        rw [HZ.out]
        go_wp2_with fail
        go_round
        case rel => exact ⟨k + 1, by omega, by go_num, Lib.hid (fun j s hj hs => by
          rcases Nat.lt_or_ge j k with h | h
          · exact hall.out j s h hs
          · obtain rfl : j = k := by omega
            rw [HX.out] at hs
            injection hs with hs
            rw [← hs]; exact HQ.out)⟩
        case measure => simp [intOf]; omega
      | false =>
        have HE := Lib.hid (goods_no HX.out hq)
        have HZ := Lib.hid (nameErr_bad hq)
        clear hq
        go_wp2_with fail
        refine (HC.out _).mono ?_
        rintro e w' ⟨rfl, rfl⟩
        rw [HZ.out]
        go_wp2_with fail
        go_ret2
        exact sort_bad HE.out rfl
    · have HE : Hid (l.all goodName = true) := Lib.hid (by rw [goods_yes (fun j s hs => hall.out j s (by have := (List.getElem?_eq_some_iff.1 hs).1; have := HN.out; omega) hs)])
      have hB1 : Below w.heap.size w (w.alloc (.cells #[.slice A n c] 22)) := (Below.refl _ w).alloc (Nat.le_refl _) _
      have hI := (Texts.of_rd (c := c) HR.out HN.out).grown hB1
      have HT := Lib.hid (sorted_any (Bs := w.heap.size) l (w.alloc (.cells #[.slice A n c] 22)) (by rw [HN.out]; exact hb) (by simp) (by rw [World.cell?_alloc_at _ _ _ _ rfl]; rfl) hI)
      have HB1 := Lib.hid hB1
      clear hI hB1
      go_wp2_with fail
      refine (values_any A n c w).mono ?_
      rintro e w' ⟨rfl, rfl⟩
      go_wp2_with fail
      refine HT.out.mono ?_
      rintro e w2 ⟨A2, c2, rfl, hown, hb2⟩
      rw [HN.out] at hown ⊢
      have HK := Lib.hid (compact_own l w.heap.size w2 (own_base hown (by simp)) HN.out hb (Nat.le_trans HB1.out.size hb2.size))
      have HB2 := Lib.hid (HB1.out.trans (hb2.mono HB1.out.size))
      clear hown hb2
      go_wp2_with fail
      refine HK.out.mono ?_
      rintro e w3 ⟨A3, c3, rfl, hrd, hb3⟩
      have HRD := Lib.hid hrd
      have HB3 := Lib.hid hb3
      clear hrd hb3
      go_wp2_with fail
      go_ret2
      refine ⟨A3, c3, by simp [sortL, namesErr, HE.out], by simpa [sortL, HE.out] using HRD.out, HB2.out.trans HB3.out⟩
end Go.Proofs.YtiechbaknolimaaDoor
