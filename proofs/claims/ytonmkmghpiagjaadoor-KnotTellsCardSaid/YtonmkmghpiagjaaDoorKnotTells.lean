/- The law KnotTells: its walk: for every list of rows it returns true and leaves what was there. Conditions: sets below 2^64, a length below 2^63; the table of math/bits lies. -/
import Derived.Test.YtonmkmghpiagjaaDoorKnot4
import Derived.Test.YtonmkmghpiagjaaDoorKnot5
import Derived.Test.YtonmkmghpiagjaaDoorKnot6
import Derived.Test.YtonmkmghpiagjaaDoorEqNv
import Derived.Test.YtonmkmghpiagjaaDoorGood
namespace Go.Proofs.YtonmkmghpiagjaaDoor
open Go.RowKit

theorem dec_eq_self {α : Type} [DecidableEq α] (a : α) : decide (a = a) = true := decide_eq_true rfl
section
variable {A : Option Addr} {n c : Nat} (l : List Nat) (w : World) (h1 : Rd w A (l.map uv)) (hl : l.length = n) (hnb : n ≤ 9223372036854775807) (hb : Rows64 l) (hT : Tab w)
include h1 hl hnb hb
theorem knot_fault (hf : faultOf l [] ≠ 0) :
    Calls Tryd.prog 9 #[.slice A n c] w fun e w' => e = .returned (.bool true) ∧ Below w.heap.size w w' := by
  have H1 := Lib.hid h1
  have HL := Lib.hid hl
  have HB := Lib.hid hb
  have HF := Lib.hid hf
  have HN : Hid ((faultOf l [] != 0) = true) := Lib.hid (fault_ne hf)
  have C1 := Lib.hid (kParts_bad (c := c) l w h1 hl hnb hb hf)
  have C2 := Lib.hid (kFold_bad (c := c) l w h1 hl hnb hb hf)
  have C3 := Lib.hid (pOrder_bad (c := c) l w h1 hl hnb hb hf)
  have C4 := Lib.hid (kRing_bad (c := c) l w h1 hl hnb hb hf)
  have C5 := Lib.hid (rRowsFault_any (c := c) (A2 := none) (c2 := 0) l [] w h1 hl hnb hb (Rd.nil_ _ _) rfl (by simp) (rowAt_all (by simp)))
  clear h1 hl hb hf
  generalize hF : faultOf l [] = F at *
  go_enter Tryd.func9, Tryd.ntmps9
  go_wp2_with fail
  refine C1.out.mono ?_
  rintro e w' ⟨rfl, rfl⟩
  go_wp2_with fail
  refine C2.out.mono ?_
  rintro e w' ⟨rfl, rfl⟩
  go_wp2_with fail
  refine C3.out.mono ?_
  rintro e w' ⟨rfl, rfl⟩
  go_wp2_with fail
  refine C4.out.mono ?_
  rintro e w' ⟨rfl, rfl⟩
  go_wp2_with fail
  refine C5.out.mono ?_
  rintro e w5 ⟨rfl, hb5⟩
  have HB5 := Lib.hid hb5
  have hne := HN.out
  clear hb5 C1 C2 C3 C4 C5
  go_wp2_with fail
  go_ret
  exact ⟨rfl, HB5.out⟩
include hT
theorem knot_good (hf : faultOf l [] = 0) :
    Calls Tryd.prog 9 #[.slice A n c] w fun e w' => e = .returned (.bool true) ∧ Below w.heap.size w w' := by
  have HG := Lib.hid (faultOf_ok hb (by simp) hf).1
  have hn : n ≤ 64 := by have := HG.out.1; omega
  have H1 := Lib.hid h1
  have HL := Lib.hid hl
  have HB := Lib.hid hb
  have HT := Lib.hid hT
  have HF := Lib.hid hf
  have hp64 : (tiedParts l).length ≤ 64 := tp_len HG.out
  have hf64 : (foldedL l (tiedParts l)).length = (tiedParts l).length := foldedL_len _ _
  have hol := ord_len HG.out
  clear h1 hl hb hT hf
  go_enter Tryd.func9, Tryd.ntmps9
  go_wp2_with fail
  refine (kParts_good l w H1.out HL.out hnb HB.out HF.out HT.out).mono ?_
  rintro e w1 ⟨A1, c1, rfl, hown1, hb1⟩
  have R1 := Lib.hid (Rd.of_own hown1)
  have B1 := Lib.hid hb1
  clear hown1 hb1
  go_wp2_with fail
  refine (kFold_good l w1 (H1.out.below B1.out) HL.out hnb HB.out HF.out (HT.out.below B1.out)).mono ?_
  rintro e w2 ⟨A2, c2, rfl, hown2, hb2⟩
  have R2 := Lib.hid (Rd.of_own hown2)
  have R12 := Lib.hid (R1.out.below hb2)
  have B2 := Lib.hid (below_then B1.out hb2)
  clear hown2 hb2 R1 B1
  by_cases hr : ordR l = 0
  · have HR := Lib.hid hr
    have HFU : Hid ((ordL l).length = n) := Lib.hid (by rw [← HL.out]; exact (ord_full HG.out).2 hr)
    clear hr
    go_wp2_with fail
    refine (pOrder_good l w2 (H1.out.below B2.out) HL.out hnb HB.out HF.out (HT.out.below B2.out) HR.out).mono ?_
    rintro e w3 ⟨A3, c3, rfl, hown3, hb3⟩
    have R3 := Lib.hid (Rd.of_own hown3)
    have R23 := Lib.hid (R2.out.below hb3)
    have R13 := Lib.hid (R12.out.below hb3)
    have B3 := Lib.hid (below_then B2.out hb3)
    clear hown3 hb3 R2 R12 B2
    go_wp2_with fail
    refine (kRing_none l w3 (H1.out.below B3.out) HL.out hnb HB.out HF.out (HT.out.below B3.out) HR.out).mono ?_
    rintro e w4 ⟨rfl, hb4⟩
    have R34 := Lib.hid (R3.out.below hb4)
    have R24 := Lib.hid (R23.out.below hb4)
    have R14 := Lib.hid (R13.out.below hb4)
    have B4 := Lib.hid (below_then B3.out hb4)
    clear hb4 R3 R23 R13 B3
    go_wp2_with fail
    refine (rRowsFault_any l [] _ (H1.out.below B4.out) HL.out hnb HB.out (Rd.nil_ _ _) rfl (by simp) (rowAt_all (by simp))).mono ?_
    rintro e w5 ⟨rfl, hb5⟩
    have R35 := Lib.hid (R34.out.below hb5)
    have R25 := Lib.hid (R24.out.below hb5)
    have R15 := Lib.hid (R14.out.below hb5)
    have B5 := Lib.hid (below_then B4.out hb5)
    clear hb5 R34 R24 R14 B4
    rw [HF.out]
    by_cases h30 : 30 < n
    · have h30' : (30 : Int) < (n : Int) := by omega
      go_wp2_with fail
      go_ret
      exact ⟨rfl, B5.out⟩
    · have h30' : ¬ (30 : Int) < (n : Int) := by omega
      go_wp2_with fail
      refine (allOk_any [0, 0] _ (rd_lit _ _ _ _ _ rfl rfl) rfl (by decide)).mono ?_
      rintro e w6 ⟨rfl, hb6⟩
      have HB6 := Lib.hid (below_then (below_new (Below.refl w5.heap.size w5) _) hb6)
      have B6 := Lib.hid (below_then B5.out HB6.out)
      rw [show (!([0, 0] : List Int).any fun x => x != 0) = true from by decide]
      clear hb6
      go_wp2_with fail
      refine (rTiedParts_any l w6 (H1.out.below B6.out) HL.out HG.out).mono ?_
      rintro e w7 ⟨A7, c7, rfl, hown7, hb7⟩
      have R7 := Lib.hid (Rd.of_own hown7)
      have K7 := Lib.hid (below_then HB6.out hb7)
      clear hown7 hb7 B6 HB6
      go_wp2_with fail
      refine (slEq_uv (tiedParts l) (tiedParts l) (R15.out.below K7.out) R7.out rfl rfl (by omega) (by omega)).mono ?_
      rintro e w8 ⟨rfl, hb8⟩
      rw [dec_eq_self]
      have K8 := Lib.hid (below_then K7.out hb8)
      have B8 := Lib.hid (below_then B5.out K8.out)
      clear hb8 K7 R7
      go_wp2_with fail
      refine (rFoldedRows_any l w8 (H1.out.below B8.out) HL.out HG.out).mono ?_
      rintro e w9 ⟨A9, c9, rfl, hown9, hb9⟩
      have R9 := Lib.hid (Rd.of_own hown9)
      have K9 := Lib.hid (below_then K8.out hb9)
      clear hown9 hb9 K8 B8
      go_wp2_with fail
      refine (slEq_uv (foldedL l (tiedParts l)) (foldedL l (tiedParts l)) (R25.out.below K9.out) R9.out hf64 hf64 (by omega) (by omega)).mono ?_
      rintro e w10 ⟨rfl, hb10⟩
      rw [dec_eq_self]
      have K10 := Lib.hid (below_then K9.out hb10)
      have B10 := Lib.hid (below_then B5.out K10.out)
      clear hb10 K9 R9
      go_wp2_with fail
      refine (rOrdered_any l w10 (H1.out.below B10.out) HL.out HG.out).mono ?_
      rintro e w11 ⟨A11, c11, rfl, hown11, hb11⟩
      have R11 := Lib.hid (Rd.of_own hown11)
      have K11 := Lib.hid (below_then K10.out hb11)
      have B11 := Lib.hid (below_then B5.out K11.out)
      clear hown11 hb11 K10 B10
      rw [HFU.out]
      go_wp2_with fail
      refine (slEq_nv (ordL l) (ordL l) (R35.out.below K11.out) R11.out HFU.out HFU.out (by omega) (by omega)).mono ?_
      rintro e w12 ⟨rfl, hb12⟩
      rw [dec_eq_self]
      have B12 := Lib.hid (below_then B11.out hb12)
      clear hb12
      go_wp2_with fail
      go_ret
      exact ⟨rfl, B12.out⟩
  · have HR := Lib.hid hr
    have hnf : (ordL l).length ≠ n := fun e => hr ((ord_full HG.out).1 (by rw [HL.out]; exact e))
    clear hr
    go_wp2_with fail
    refine (pOrder_cyc l w2 (H1.out.below B2.out) HL.out hnb HB.out HF.out (HT.out.below B2.out) HR.out).mono ?_
    rintro e w3 ⟨rfl, hb3⟩
    have R23 := Lib.hid (R2.out.below hb3)
    have R13 := Lib.hid (R12.out.below hb3)
    have B3 := Lib.hid (below_then B2.out hb3)
    clear hb3 R2 R12 B2
    go_wp2_with fail
    refine (kRing_good l w3 (H1.out.below B3.out) HL.out hnb HB.out HF.out (HT.out.below B3.out) HR.out).mono ?_
    rintro e w4 ⟨A4, c4, d, rfl, hrg, hdc, hrd4, hb4⟩
    have HRG := Lib.hid hrg
    have R4 := Lib.hid hrd4
    have R24 := Lib.hid (R23.out.below hb4)
    have R14 := Lib.hid (R13.out.below hb4)
    have B4 := Lib.hid (below_then B3.out hb4)
    have hdl : d.length ≤ 64 := by
      have h := pig2 d (List.range l.length) hrg.nd (fun x hx => List.mem_range.2 (hrg.lt x hx))
      rw [List.length_range, HL.out] at h
      omega
    clear hb4 R23 R13 B3 hrg hrd4
    go_wp2_with fail
    refine (rRowsFault_any l [] _ (H1.out.below B4.out) HL.out hnb HB.out (Rd.nil_ _ _) rfl (by simp) (rowAt_all (by simp))).mono ?_
    rintro e w5 ⟨rfl, hb5⟩
    have R45 := Lib.hid (R4.out.below hb5)
    have R25 := Lib.hid (R24.out.below hb5)
    have R15 := Lib.hid (R14.out.below hb5)
    have B5 := Lib.hid (below_then B4.out hb5)
    clear hb5 R4 R24 R14 B4
    rw [HF.out]
    by_cases h30 : 30 < n
    · have h30' : (30 : Int) < (n : Int) := by omega
      go_wp2_with fail
      go_ret
      exact ⟨rfl, B5.out⟩
    · have h30' : ¬ (30 : Int) < (n : Int) := by omega
      go_wp2_with fail
      refine (allOk_any [0, 0] _ (rd_lit _ _ _ _ _ rfl rfl) rfl (by decide)).mono ?_
      rintro e w6 ⟨rfl, hb6⟩
      have HB6 := Lib.hid (below_then (below_new (Below.refl w5.heap.size w5) _) hb6)
      have B6 := Lib.hid (below_then B5.out HB6.out)
      rw [show (!([0, 0] : List Int).any fun x => x != 0) = true from by decide]
      clear hb6
      go_wp2_with fail
      refine (rTiedParts_any l w6 (H1.out.below B6.out) HL.out HG.out).mono ?_
      rintro e w7 ⟨A7, c7, rfl, hown7, hb7⟩
      have R7 := Lib.hid (Rd.of_own hown7)
      have K7 := Lib.hid (below_then HB6.out hb7)
      clear hown7 hb7 B6 HB6
      go_wp2_with fail
      refine (slEq_uv (tiedParts l) (tiedParts l) (R15.out.below K7.out) R7.out rfl rfl (by omega) (by omega)).mono ?_
      rintro e w8 ⟨rfl, hb8⟩
      rw [dec_eq_self]
      have K8 := Lib.hid (below_then K7.out hb8)
      have B8 := Lib.hid (below_then B5.out K8.out)
      clear hb8 K7 R7
      go_wp2_with fail
      refine (rFoldedRows_any l w8 (H1.out.below B8.out) HL.out HG.out).mono ?_
      rintro e w9 ⟨A9, c9, rfl, hown9, hb9⟩
      have R9 := Lib.hid (Rd.of_own hown9)
      have K9 := Lib.hid (below_then K8.out hb9)
      clear hown9 hb9 K8 B8
      go_wp2_with fail
      refine (slEq_uv (foldedL l (tiedParts l)) (foldedL l (tiedParts l)) (R25.out.below K9.out) R9.out hf64 hf64 (by omega) (by omega)).mono ?_
      rintro e w10 ⟨rfl, hb10⟩
      rw [dec_eq_self]
      have K10 := Lib.hid (below_then K9.out hb10)
      have B10 := Lib.hid (below_then B5.out K10.out)
      clear hb10 K9 R9
      go_wp2_with fail
      refine (rOrdered_any l w10 (H1.out.below B10.out) HL.out HG.out).mono ?_
      rintro e w11 ⟨A11, c11, rfl, hown11, hb11⟩
      have R11 := Lib.hid (Rd.of_own hown11)
      have K11 := Lib.hid (below_then K10.out hb11)
      have B11 := Lib.hid (below_then B5.out K11.out)
      clear hown11 hb11 K10 B10
      have hne : (((ordL l).length : Int) == (n : Int)) = false := by simp only [beq_eq_false_iff_ne, ne_eq]; omega
      go_wp2_with fail
      refine (rIsRing_any l d w11 (H1.out.below B11.out) (R45.out.below K11.out) HL.out rfl (by omega) HG.out HRG.out hdc).mono ?_
      rintro e w12 ⟨rfl, q, rfl⟩
      go_wp2_with fail
      go_ret
      exact ⟨rfl, below_drewN B11.out _⟩
end
theorem knotTells_walk (A : Option Addr) (c : Nat) (l : List Nat) (w : World) (h1 : Rd w A (l.map uv)) (hnb : l.length ≤ 9223372036854775807) (hb0 : ∀ x ∈ l, B64 x) (hT : Tab w) :
    Calls Tryd.prog 9 #[.slice A l.length c] w fun e w' => e = .returned (.bool true) ∧ Below w.heap.size w w' := by
  by_cases hf : faultOf l [] = 0
  · exact knot_good l w h1 rfl hnb (rowAt_all hb0) hT hf
  · exact knot_fault l w h1 rfl hnb (rowAt_all hb0) hf
end Go.Proofs.YtonmkmghpiagjaaDoor
