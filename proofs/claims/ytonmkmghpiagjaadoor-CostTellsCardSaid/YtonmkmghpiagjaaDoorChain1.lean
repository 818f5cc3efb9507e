/- Contracts: knot.Order, chain.below: a fault, a knot, or an order. The table of math/bits lies. -/
import Derived.Test.YtonmkmghpiagjaaDoorOrd
namespace Go.Proofs.YtonmkmghpiagjaaDoor
open Go.RowKit

theorem pOrder_bad {A : Option Addr} {n c : Nat} (l : List Nat) (w : World) (h1 : Rd w A (l.map uv)) (hl : l.length = n) (hnb : n ≤ 9223372036854775807) (hb : Rows64 l) (hf : faultOf l [] ≠ 0) :
    Calls Tryd.prog 57 #[.slice A n c] w fun e w' => e = .returned (.tuple #[.slice none 0 0, .int .i64 (faultOf l [])]) ∧ w = w' := by
  have hz := fault_ne hf
  have H1 := Lib.hid h1
  have HL := Lib.hid hl
  have HB := Lib.hid hb
  clear h1 hl hb hf
  go_enter Tryd.func57, Tryd.ntmps57
  go_wp2_with fail
  refine (pCheck_any l _ H1.out HL.out hnb HB.out).mono ?_
  rintro e w' ⟨rfl, rfl⟩
  go_wp2_with fail
  go_ret2
  exact ⟨rfl, rfl⟩
theorem pOrder_cyc {A : Option Addr} {n c : Nat} (l : List Nat) (w : World) (h1 : Rd w A (l.map uv)) (hl : l.length = n) (hnb : n ≤ 9223372036854775807) (hb : Rows64 l) (hf : faultOf l [] = 0) (hT : Tab w) (hr : ordR l ≠ 0) :
    Calls Tryd.prog 57 #[.slice A n c] w fun e w' => e = .returned (.tuple #[.slice none 0 0, .int .i64 8]) ∧ Below w.heap.size w w' := by
  have HF := Lib.hid hf
  have HG := Lib.hid (faultOf_ok hb (by simp) hf).1
  have H1 := Lib.hid h1
  have HL := Lib.hid hl
  have HB := Lib.hid hb
  have HT := Lib.hid hT
  have hr' : (((ordR l : Nat) : Int) != 0) = true := by simp; omega
  clear h1 hl hb hf hT hr
  go_enter Tryd.func57, Tryd.ntmps57
  go_wp2_with fail
  refine (pCheck_any l _ H1.out HL.out hnb HB.out).mono ?_
  rintro e w' ⟨rfl, rfl⟩
  rw [HF.out]
  go_wp2_with fail
  refine (order_any l _ H1.out HL.out HG.out HT.out).mono ?_
  rintro e w' ⟨A1, c1, rfl, hown, hb1⟩
  have HB1 := Lib.hid hb1
  clear hown hb1
  go_wp2_with fail
  go_ret2
  exact ⟨rfl, HB1.out⟩
theorem pOrder_good {A : Option Addr} {n c : Nat} (l : List Nat) (w : World) (h1 : Rd w A (l.map uv)) (hl : l.length = n) (hnb : n ≤ 9223372036854775807) (hb : Rows64 l) (hf : faultOf l [] = 0) (hT : Tab w) (hr : ordR l = 0) :
    Calls Tryd.prog 57 #[.slice A n c] w (SlErrPost 3 n ((ordL l).map nv) 0 w) := by
  have HF := Lib.hid hf
  have HG := Lib.hid (faultOf_ok hb (by simp) hf).1
  have HFU : Hid ((ordL l).length = n) := Lib.hid (by rw [← hl]; exact (ord_full HG.out).2 hr)
  have H1 := Lib.hid h1
  have HL := Lib.hid hl
  have HB := Lib.hid hb
  have HT := Lib.hid hT
  have HR := Lib.hid hr
  clear h1 hl hb hf hT hr
  go_enter Tryd.func57, Tryd.ntmps57
  go_wp2_with fail
  refine (pCheck_any l _ H1.out HL.out hnb HB.out).mono ?_
  rintro e w' ⟨rfl, rfl⟩
  rw [HF.out]
  go_wp2_with fail
  refine (order_any l _ H1.out HL.out HG.out HT.out).mono ?_
  rintro e w' ⟨A1, c1, rfl, hown, hb1⟩
  rw [HR.out]
  rw [HFU.out] at hown ⊢
  have HB1 := Lib.hid hb1
  have HO := Lib.hid hown
  clear hown hb1
  go_wp2_with fail
  go_ret2
  exact ⟨A1, c1, rfl, HO.out, HB1.out⟩

/-- The error of rows that want an order. -/
def ordErr (l : List Nat) : Int := if faultOf l [] = 0 then (if ordR l = 0 then 0 else 8) else faultOf l []
theorem below_bad {A : Option Addr} {n c : Nat} (l : List Nat) (w : World) (h1 : Rd w A (l.map uv)) (hl : l.length = n) (hnb : n ≤ 9223372036854775807) (hb : Rows64 l) (hT : Tab w) (he : ordErr l ≠ 0) :
    Calls Tryd.prog 71 #[.slice A n c] w fun e w' => e = .returned (.tuple #[.slice none 0 0, .slice none 0 0, .int .i64 (ordErr l)]) ∧ Below w.heap.size w w' := by
  have H : Hid (Calls Tryd.prog 57 #[.slice A n c] w fun e w' => e = .returned (.tuple #[.slice none 0 0, .int .i64 (ordErr l)]) ∧ Below w.heap.size w w') := Lib.hid (by
    by_cases hf : faultOf l [] = 0
    · by_cases hr : ordR l = 0
      · exact absurd (by unfold ordErr; rw [if_pos hf, if_pos hr]) he
      · have e : ordErr l = 8 := by unfold ordErr; rw [if_pos hf, if_neg hr]
        rw [e]
        exact pOrder_cyc l w h1 hl hnb hb hf hT hr
    · have e : ordErr l = faultOf l [] := by unfold ordErr; rw [if_neg hf]
      rw [e]
      exact (pOrder_bad l w h1 hl hnb hb hf).mono fun e w' ⟨a, b⟩ => ⟨a, by rw [← b]; exact Below.refl _ _⟩)
  have he' : (ordErr l != 0) = true := by simp [he]
  clear h1 hl hb hT he
  go_enter Tryd.func71, Tryd.ntmps71
  go_wp2_with fail
  refine H.out.mono ?_
  rintro e w1 ⟨rfl, hb1⟩
  go_wp2_with fail
  go_ret3
  exact ⟨rfl, hb1⟩
def BelowPost (l : List Nat) (n : Nat) (w : World) (e : Ending) (w' : World) : Prop :=
  ∃ A1 c1 A2 c2, e = .returned (.tuple #[.slice A1 n c1, .slice A2 n c2, .int .i64 0]) ∧ w'.ownsRow w.heap.size 23 1 (.slice A1 n c1) n ((closed l).map uv) ∧
    w'.ownsRow w.heap.size 3 1 (.slice A2 n c2) n ((ordL l).map nv) ∧ Below w.heap.size w w'
theorem below_good {A : Option Addr} {n c : Nat} (l : List Nat) (w : World) (h1 : Rd w A (l.map uv)) (hl : l.length = n) (hnb : n ≤ 9223372036854775807) (hb : Rows64 l) (hT : Tab w) (he : ordErr l = 0) :
    Calls Tryd.prog 71 #[.slice A n c] w (BelowPost l n w) := by
  have hf : faultOf l [] = 0 := by
    apply Classical.byContradiction
    intro h
    unfold ordErr at he
    rw [if_neg h] at he
    exact h he
  have hr : ordR l = 0 := by
    unfold ordErr at he
    rw [if_pos hf] at he
    apply Classical.byContradiction
    intro h
    rw [if_neg h] at he
    cases he
  have HF := Lib.hid hf
  have HR := Lib.hid hr
  have H1 := Lib.hid h1
  have HL := Lib.hid hl
  have HB := Lib.hid hb
  have HT := Lib.hid hT
  clear h1 hl hb hf hT hr he
  go_enter Tryd.func71, Tryd.ntmps71
  go_wp2_with fail
  refine (pOrder_good l _ H1.out HL.out hnb HB.out HF.out HT.out HR.out).mono ?_
  rintro e w1 ⟨A2, c2, rfl, hown, hb1⟩
  have HO := Lib.hid hown
  have HB1 := Lib.hid hb1
  clear hown hb1
  go_wp2_with fail
  refine (pClose_good l _ (H1.out.below HB1.out) HL.out hnb HB.out HF.out (HT.out.below HB1.out)).mono ?_
  rintro e w2 ⟨A1, c1, rfl, hown, hb2⟩
  have HO1 := Lib.hid (own_base hown HB1.out.size)
  have HO2 := Lib.hid (own_below HO.out hb2)
  have HB2 := Lib.hid (below_then HB1.out hb2)
  clear hown hb2
  go_wp2_with fail
  go_ret3
  exact ⟨A1, c1, A2, c2, rfl, HO1.out, HO2.out, HB2.out⟩
end Go.Proofs.YtonmkmghpiagjaaDoor
