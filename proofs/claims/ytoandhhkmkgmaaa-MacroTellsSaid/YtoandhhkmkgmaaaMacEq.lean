/- Contracts: slices.Equal of two lists of macros that are one; slices.ContainsFunc by a macro's length. No condition but the model's. -/
import Derived.Test.YtoandhhkmkgmaaaMac12
import Derived.WalkSpells
import Derived.WalkLawsBesides
import Derived.BigQuiet
import Derived.Deep.QuietTactic
namespace Go.Proofs.Ytoandhhkmkgmaaa
open Go.RowKit

set_option maxRecDepth 100000 in
set_option maxHeartbeats 1000000 in
theorem macSelf_any {A1 A2 : Option Addr} {n c1 c2 : Nat} (l : List MacT) (w : World) (h1 : Rd w A1 (macV l)) (h2 : Rd w A2 (macV l)) (hn : l.length = n) (hb : n ≤ 9223372036854775807) :
    Calls Try.prog 15 #[.slice A1 n c1, .slice A2 n c2] w fun e w' => e = .returned (.bool true) ∧ Below w.heap.size w w' := by
  have H1 := Lib.hid h1
  have H2 := Lib.hid h2
  have HN := Lib.hid hn
  have hz : ((n : Int) != (n : Int)) = false := by simp
  clear h1 h2 hn
  go_enter Try.func15, Try.ntmps15
  go_wp2_with fail
  go_loopw [5, 13] (fun _ i wr => ∃ k q : Nat, k ≤ n ∧ i = .int .i64 (k : Int) ∧ wr = w.drewN q) (fun _ i _ => n - (intOf i).toNat)
  case atStart => exact ⟨0, 0, by omega, rfl, rfl⟩
  case round =>
    obtain ⟨k, q, hk, rfl, rfl⟩ := hrel
    by_cases hlt : k < n
    · obtain ⟨x, hx⟩ : ∃ x, l[k]? = some x := ⟨_, List.getElem?_eq_getElem (by rw [HN.out]; exact hlt)⟩
      obtain ⟨b1, o1, rfl, e1, e2⟩ := H1.out.macs hx
      obtain ⟨b2, o2, rfl, e3, e4⟩ := H2.out.macs hx
      obtain ⟨xn, xv⟩ := x
      simp only [] at e1 e2 e3 e4
      obtain ⟨bn, hbn⟩ : ∃ bn, sv xn = .string bn := ⟨_, rfl⟩
      obtain ⟨bv, hbv⟩ : ∃ bv, sv xv = .string bv := ⟨_, rfl⟩
      rw [hbn] at e1 e3
      rw [hbv] at e2 e4
      have k0 : (0 : Int) ≤ (k : Int) := by omega
      have k1 : (k : Int) < (n : Int) := by omega
      have q1 : (bn.toList == bn.toList) = true := by simp
      have q2 : (bv.toList == bv.toList) = true := by simp
      clear hx hbn hbv
      go_wp2_with fail
      go_quiet (fail)
      go_wp2_with fail
      go_roundw
      case rel => exact ⟨k + 1, _, by omega, by go_num, rfl⟩
      case measure => simp [intOf]; omega
    · obtain rfl : k = n := by omega
      go_wp2_with fail
      go_ret
      exact ⟨rfl, below_of_drewN _ _⟩
/-- Some macro's value is longer than 2001 bytes. -/
def longM (l : List MacT) : Bool := l.any fun x => decide (2001 < x.2.length)
set_option maxHeartbeats 1000000 in
theorem longF_any (xn xv : List UInt8) (w : World) (hv : xv.length ≤ 9223372036854775807) :
    Calls Try.prog 6 #[.agg #[sv xn, sv xv]] w fun e w' => e = .returned (.bool (decide (2001 < xv.length))) ∧ Below w.heap.size w w' := by
  obtain ⟨bn, hbn⟩ : ∃ bn, sv xn = .string bn := ⟨_, rfl⟩
  obtain ⟨bv, hbv⟩ : ∃ bv, sv xv = .string bv := ⟨_, rfl⟩
  have HS : Hid (bv.size = xv.length) := Lib.hid (by unfold sv at hbv; injection hbv with hbv; rw [← hbv]; rfl)
  have hsz : bv.size ≤ 9223372036854775807 := by rw [HS.out]; exact hv
  rw [hbn, hbv]
  have HB := Lib.hid (below_new (Below.refl w.heap.size w) (.cells #[.string bn, .string bv] 25))
  have y1 := (Blk.new w #[.string bn, .string bv] 25).cell (j := 1) rfl
  clear hbn hbv hv
  by_cases hl : 2001 < bv.size
  · have hd : decide ((2001 : Int) < (bv.size : Int)) = true := by simp; omega
    have HD : Hid (decide (2001 < xv.length) = true) := Lib.hid (by rw [← HS.out]; simpa using hl)
    clear hl
    go_enter Try.func6, Try.ntmps6
    go_wp2_with fail
    go_ret
    exact ⟨ret_bool (by rw [HD.out]), HB.out⟩
  · have hd : decide ((2001 : Int) < (bv.size : Int)) = false := by simp; omega
    have HD : Hid (decide (2001 < xv.length) = false) := Lib.hid (by rw [← HS.out]; simpa using hl)
    clear hl
    go_enter Try.func6, Try.ntmps6
    go_wp2_with fail
    go_ret
    exact ⟨ret_bool (by rw [HD.out]), HB.out⟩
def LongI (l : List MacT) (i : Int) : Prop := (longM l = true → 0 ≤ i) ∧ (longM l = false → i = -1)
set_option maxRecDepth 100000 in
set_option maxHeartbeats 1000000 in
theorem longI_any {A : Option Addr} {n c : Nat} (l : List MacT) (w : World) (hr : Rd w A (macV l)) (hn : l.length = n) (hb : n ≤ 9223372036854775807) (hs : ∀ x ∈ l, x.2.length ≤ 9223372036854775807) :
    Calls Try.prog 27 #[.slice A n c, .func (.func 6) #[] #[]] w fun e w' => ∃ i : Int, e = .returned (.int .i64 i) ∧ LongI l i ∧ Below w.heap.size w w' := by
  have HR := Lib.hid hr
  have HN := Lib.hid hn
  have HS := Lib.hid hs
  clear hr hn hs
  go_enter Try.func27, Try.ntmps27
  go_wp2_with fail
  go_loopw [5, 8] (fun _ i wr => ∃ k : Nat, k ≤ n ∧ i = .int .i64 (k : Int) ∧ Hid (longM (l.take k) = false) ∧ Hid (Below w.heap.size w wr)) (fun _ i _ => n - (intOf i).toNat)
  case atStart => exact ⟨0, by omega, rfl, Lib.hid rfl, Lib.hid (Below.refl _ _)⟩
  case round =>
    obtain ⟨k, hk, rfl, HL, HB⟩ := hrel
    by_cases hlt : k < n
    · obtain ⟨x, hx⟩ : ∃ x, l[k]? = some x := ⟨_, List.getElem?_eq_getElem (by rw [HN.out]; exact hlt)⟩
      obtain ⟨b, off, rfl, c0, c1⟩ := (HR.out.below HB.out).macs hx
      have HX := Lib.hid hx
      have HF := Lib.hid (longF_any x.1 x.2 wr (HS.out x (List.mem_of_getElem? hx)))
      have HTK : Hid (longM (l.take (k + 1)) = (longM (l.take k) || decide (2001 < x.2.length))) := Lib.hid (by rw [takeS_any hx]; unfold longM; rw [List.any_append]; simp)
      obtain ⟨xn, xv⟩ := x
      simp only [] at c0 c1 HF HTK
      have k1 : (k : Int) < (n : Int) := by omega
      clear hx
      cases hd : decide (2001 < xv.length) with
      | true =>
        have HE : Hid (longM l = true) := Lib.hid (by
          unfold longM
          rw [List.any_eq_true]
          exact ⟨(xn, xv), List.mem_of_getElem? HX.out, hd⟩)
        rw [hd] at HF
        clear hd
        go_wp2_with fail
        refine HF.out.mono ?_
        rintro e w2 ⟨rfl, hb2⟩
        have HB2 := Lib.hid (below_then HB.out hb2)
        clear hb2
        go_wp2_with fail
        go_ret
        exact ⟨(k : Int), rfl, ⟨fun _ => by omega, fun h => by rw [HE.out] at h; cases h⟩, HB2.out⟩
      | false =>
        rw [hd, HL.out] at HTK
        rw [hd] at HF
        clear hd
        go_wp2_with fail
        refine HF.out.mono ?_
        rintro e w2 ⟨rfl, hb2⟩
        have HB2 := Lib.hid (below_then HB.out hb2)
        clear hb2
        go_wp2_with fail
        go_roundw
        case rel => exact ⟨k + 1, by omega, by go_num, HTK, HB2⟩
        case measure => simp [intOf]; omega
    · obtain rfl : k = n := by omega
      have HE : Hid (longM l = false) := Lib.hid (by have := HL.out; rwa [← HN.out, List.take_length] at this)
      go_wp2_with fail
      go_ret
      exact ⟨-1, rfl, ⟨fun h => (by rw [HE.out] at h; cases h), fun _ => rfl⟩, HB.out⟩
set_option maxHeartbeats 1000000 in
theorem longC_any {A : Option Addr} {n c : Nat} (l : List MacT) (w : World) (hr : Rd w A (macV l)) (hn : l.length = n) (hb : n ≤ 9223372036854775807) (hs : ∀ x ∈ l, x.2.length ≤ 9223372036854775807) :
    Calls Try.prog 5 #[.slice A n c, .func (.func 6) #[] #[]] w fun e w' => e = .returned (.bool (longM l)) ∧ Below w.heap.size w w' := by
  have HI := Lib.hid (longI_any (c := c) l w hr hn hb hs)
  clear hr hn hb hs
  go_enter Try.func5, Try.ntmps5
  go_wp2_with fail
  refine HI.out.mono ?_
  rintro e w2 ⟨i, rfl, hi, hb2⟩
  have HB2 := Lib.hid hb2
  cases hl : longM l with
  | true =>
    have HL := Lib.hid hl
    have hi0 := hi.1 hl
    have hd : decide (0 ≤ i) = true := by simpa using hi0
    clear hb2 hl hi
    go_wp2_with fail
    go_ret
    exact ⟨by rw [HL.out]; rfl, HB2.out⟩
  | false =>
    have HL := Lib.hid hl
    obtain rfl := hi.2 hl
    clear hb2 hl hi
    go_wp2_with fail
    go_ret
    exact ⟨by rw [HL.out]; rfl, HB2.out⟩
end Go.Proofs.Ytoandhhkmkgmaaa
