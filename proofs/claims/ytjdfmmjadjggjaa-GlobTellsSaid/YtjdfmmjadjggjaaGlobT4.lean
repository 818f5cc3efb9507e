/- Contracts: the reference's PatternFault; slices.ContainsFunc at the law's closure. -/
import Derived.Test.YtjdfmmjadjggjaaGlobT3
namespace Go.Proofs.Ytjdfmmjadjggjaa
open Go.RowKit

set_option maxRecDepth 100000 in
set_option maxHeartbeats 1000000 in
theorem rFault_any (t : List UInt8) (ht : t.length ≤ 9223372036854775807) (w : World) : Calls Try.prog 13 #[.string ⟨t.toArray⟩] w fun e w' => e = .returned (.int .i64 (errG t : Int)) ∧ Below w.heap.size w w' := by
  have hsz : (⟨t.toArray⟩ : ByteArray).size = t.length := rfl
  by_cases hl : 60 < t.length
  · have HE : Hid (errG t = 2) := Lib.hid (by unfold errG; rw [if_pos hl])
    generalize (⟨t.toArray⟩ : ByteArray) = b at *
    have h2 : 60 < b.size := by omega
    clear hsz hl ht
    go_enter Try.func13, Try.ntmps13
    go_wp2_with fail
    go_ret
    exact ⟨ret_int (by rw [HE.out]; rfl), Below.refl _ _⟩
  · have HP := Lib.hid (rPieces_any t (by omega) w)
    have HL := Lib.hid hl
    generalize (⟨t.toArray⟩ : ByteArray) = b at *
    have h2 : b.size ≤ 60 := by omega
    clear hsz hl ht
    go_enter Try.func13, Try.ntmps13
    go_wp2_with fail
    refine HP.out.mono ?_
    rintro e w' ⟨hb, hc⟩
    have HB := Lib.hid hb
    clear hb
    rcases hc with ⟨hno, rfl⟩ | ⟨M, A, n, c, h1, h3, h4, h5, rfl⟩
    · have HE : Hid (errG t = 3) := Lib.hid (by unfold errG; rw [if_neg HL.out, hno]; rfl)
      clear hno
      go_wp2_with fail
      go_ret
      exact ⟨ret_int (by rw [HE.out]; rfl), HB.out⟩
    · have HE : Hid (errG t = 0) := Lib.hid (by unfold errG; rw [if_neg HL.out, h1]; rfl)
      clear h1 h3 h4 h5
      go_wp2_with fail
      go_ret
      exact ⟨ret_int (by rw [HE.out]; rfl), HB.out⟩
def longG (s : List UInt8) : Bool := decide (100 < s.length) && decide (s.length ≤ 2000)
set_option maxRecDepth 100000 in
theorem long_any (s : List UInt8) (hl : s.length ≤ 9223372036854775807) (w : World) : Calls Try.prog 10 #[.string ⟨s.toArray⟩] w fun e w' => e = .returned (.bool (longG s)) ∧ w = w' := by
  have hsz : (⟨s.toArray⟩ : ByteArray).size = s.length := rfl
  generalize (⟨s.toArray⟩ : ByteArray) = b at *
  by_cases h1 : 100 < s.length
  · by_cases h2 : s.length ≤ 2000
    · have HE : Hid (longG s = true) := Lib.hid (by unfold longG; simp [h1, h2])
      have i1 : (100 : Int) < (b.size : Int) := by omega
      have i2 : (b.size : Int) ≤ 2000 := by omega
      clear hsz h1 h2 hl
      go_enter Try.func10, Try.ntmps10
      go_wp2_with fail
      go_ret
      exact ⟨by rw [HE.out]; rfl, rfl⟩
    · have HE : Hid (longG s = false) := Lib.hid (by unfold longG; simp; omega)
      have i1 : (100 : Int) < (b.size : Int) := by omega
      have i2 : 2000 < b.size := by omega
      have i3 : decide ((b.size : Int) ≤ 2000) = false := by simp; omega
      clear hsz h1 h2 hl
      go_enter Try.func10, Try.ntmps10
      go_wp2_with fail
      go_ret
      exact ⟨by rw [HE.out]; rfl, rfl⟩
  · have HE : Hid (longG s = false) := Lib.hid (by unfold longG; simp; omega)
    have i1 : (b.size : Int) ≤ 100 := by omega
    clear hsz h1 hl
    go_enter Try.func10, Try.ntmps10
    go_wp2_with fail
    go_ret
    exact ⟨by rw [HE.out]; rfl, rfl⟩
def IxPost (l : List (List UInt8)) (w : World) (e : Ending) (w' : World) : Prop :=
  Below w.heap.size w w' ∧ ∃ i : Int, e = .returned (.int .i64 i) ∧ ((i = -1 ∧ l.any longG = false) ∨ (0 ≤ i ∧ l.any longG = true))
set_option maxRecDepth 100000 in
set_option maxHeartbeats 1000000 in
theorem ixLong_any (A : Option Addr) (n c : Nat) (l : List (List UInt8)) (w : World) (hr : Rd w A (l.map sv)) (hn : l.length = n) (hn6 : n ≤ 9223372036854775807) (hs : ∀ x ∈ l, x.length ≤ 9223372036854775807) :
    Calls Try.prog 46 #[.slice A n c, .func (.func 10) #[] #[]] w (IxPost l w) := by
  have HR := Lib.hid hr
  have HN := Lib.hid hn
  have HS := Lib.hid hs
  clear hr hn hs
  go_enter Try.func46, Try.ntmps46
  go_wp2_with fail
  go_loopw [8] (fun y wr => ∃ k : Nat, y = .int .i64 (k : Int) ∧ k ≤ n ∧ Hid ((l.take k).any longG = false) ∧ Hid (Below w.heap.size w wr)) (fun y _ => n - (intOf y).toNat)
  case atStart => exact ⟨0, rfl, by omega, Lib.hid rfl, Lib.hid (Below.refl _ _)⟩
  case round =>
    obtain ⟨k, rfl, hk, HA, HB⟩ := hrel
    by_cases hlt : k < n
    · obtain ⟨x, hx⟩ : ∃ x, l[k]? = some x := ⟨_, List.getElem?_eq_getElem (by rw [HN.out]; exact hlt)⟩
      obtain ⟨b, off, rfl, hc⟩ := (HR.out.below HB.out).scell hx
      have HL := Lib.hid (fun W => long_any x (HS.out x (List.mem_of_getElem? hx)) W)
      have HM := Lib.hid (List.mem_of_getElem? hx)
      have HT : Hid (l.take (k + 1) = l.take k ++ [x]) := Lib.hid (take_snocG hx)
      clear hx
      generalize (⟨x.toArray⟩ : ByteArray) = bx at *
      cases hf : longG x with
      | true =>
        have HAL : Hid (l.any longG = true) := Lib.hid (List.any_eq_true.2 ⟨x, HM.out, hf⟩)
        simp only [hf] at HL
        clear hf
        go_wp2_with fail
        refine (HL.out _).mono ?_
        rintro e w' ⟨rfl, rfl⟩
        go_wp2_with fail
        go_ret
        exact ⟨HB.out, (k : Int), rfl, .inr ⟨by omega, HAL.out⟩⟩
      | false =>
        have HA2 : Hid ((l.take (k + 1)).any longG = false) := Lib.hid (by rw [HT.out, List.any_append, HA.out]; simp [hf])
        simp only [hf] at HL
        clear hf
        go_wp2_with fail
        refine (HL.out _).mono ?_
        rintro e w' ⟨rfl, rfl⟩
        go_wp2_with fail
        exact ⟨⟨k + 1, rfl, by omega, HA2, HB⟩, by simp only [intOf]; omega⟩
    · obtain rfl : k = n := by omega
      have HE : Hid (l.any longG = false) := Lib.hid (by have h := HA.out; rwa [List.take_of_length_le (by rw [HN.out]; exact Nat.le_refl _)] at h)
      go_wp2_with fail
      go_ret
      exact ⟨HB.out, -1, rfl, .inl ⟨rfl, HE.out⟩⟩
theorem hasLong_any (A : Option Addr) (n c : Nat) (l : List (List UInt8)) (w : World) (hr : Rd w A (l.map sv)) (hn : l.length = n) (hn6 : n ≤ 9223372036854775807) (hs : ∀ x ∈ l, x.length ≤ 9223372036854775807) :
    Calls Try.prog 11 #[.slice A n c, .func (.func 10) #[] #[]] w fun e w' => e = .returned (.bool (l.any longG)) ∧ Below w.heap.size w w' := by
  have HC := Lib.hid (ixLong_any A n c l w hr hn hn6 hs)
  clear hr hn hs
  go_enter Try.func11, Try.ntmps11
  go_wp2_with fail
  refine HC.out.mono ?_
  rintro e w' ⟨hb, i, rfl, hi⟩
  have HB := Lib.hid hb
  clear hb
  rcases hi with ⟨rfl, h⟩ | ⟨h0, h⟩
  · have H := Lib.hid h
    clear h
    go_wp2_with fail
    go_ret
    exact ⟨by rw [H.out]; rfl, HB.out⟩
  · have H := Lib.hid h
    clear h
    go_wp2_with fail
    go_ret
    exact ⟨by rw [H.out]; rfl, HB.out⟩
end Go.Proofs.Ytjdfmmjadjggjaa
