/- Contracts: knot.Order, chain.below: a fault, a knot, or an order. The table of math/bits lies. -/
import Derived.Test.YtiechbaknolimaaDoorOrd
namespace Go.Proofs.YtiechbaknolimaaDoor
open Go.RowKit

theorem pOrder_bad {A : Option Addr} {n c : Nat} (l : List Nat) (w : World) (h1 : Rd w A (l.map uv)) (hl : l.length = n) (hnb : n ≤ 9223372036854775807) (hb : Rows64 l) (hf : faultOf l [] ≠ 0) :
    Calls Tryd.prog 55 #[.slice A n c] w fun e w' => e = .returned (.tuple #[.slice none 0 0, .int .i64 (faultOf l [])]) ∧ w = w' := by
  have hz := fault_ne hf
  have H1 := Lib.hid h1
  have HL := Lib.hid hl
  have HB := Lib.hid hb
  clear h1 hl hb hf
  go_enter Tryd.func55, Tryd.ntmps55
  go_wp2_with fail
  refine (pCheck_any l _ H1.out HL.out hnb HB.out).mono ?_
  rintro e w' ⟨rfl, rfl⟩
  go_wp2_with fail
  go_ret2
  exact ⟨rfl, rfl⟩
theorem pOrder_cyc {A : Option Addr} {n c : Nat} (l : List Nat) (w : World) (h1 : Rd w A (l.map uv)) (hl : l.length = n) (hnb : n ≤ 9223372036854775807) (hb : Rows64 l) (hf : faultOf l [] = 0) (hT : Tab w) (hr : ordR l ≠ 0) :
    Calls Tryd.prog 55 #[.slice A n c] w fun e w' => e = .returned (.tuple #[.slice none 0 0, .int .i64 8]) ∧ Below w.heap.size w w' := by
  have HF := Lib.hid hf
  have HG := Lib.hid (faultOf_ok hb (by simp) hf).1
  have H1 := Lib.hid h1
  have HL := Lib.hid hl
  have HB := Lib.hid hb
  have HT := Lib.hid hT
  have hr' : (((ordR l : Nat) : Int) != 0) = true := by simp; omega
  clear h1 hl hb hf hT hr
  go_enter Tryd.func55, Tryd.ntmps55
  go_wp2_with fail
  refine (pCheck_any l _ H1.out HL.out hnb HB.out).mono ?_
  rintro e w' ⟨rfl, rfl⟩
  rw [HF.out]
  go_wp2_with fail
  refine (order_any l _ H1.out HL.out HG.out HT.out).mono ?_
  rintro e w' ⟨A1, c1, rfl, hown, hb1⟩
  have HB1 := Lib.hid hb1
  clear hown hb1
  go_wp2_with fail
  go_ret2
  exact ⟨rfl, HB1.out⟩
theorem pOrder_good {A : Option Addr} {n c : Nat} (l : List Nat) (w : World) (h1 : Rd w A (l.map uv)) (hl : l.length = n) (hnb : n ≤ 9223372036854775807) (hb : Rows64 l) (hf : faultOf l [] = 0) (hT : Tab w) (hr : ordR l = 0) :
    Calls Tryd.prog 55 #[.slice A n c] w (SlErrPost 3 n ((ordL l).map nv) 0 w) := by
  have HF := Lib.hid hf
  have HG := Lib.hid (faultOf_ok hb (by simp) hf).1
  have HFU : Hid ((ordL l).length = n) := Lib.hid (by rw [← hl]; exact (ord_full HG.out).2 hr)
  have H1 := Lib.hid h1
  have HL := Lib.hid hl
  have HB := Lib.hid hb
  have HT := Lib.hid hT
  have HR := Lib.hid hr
  clear h1 hl hb hf hT hr
  go_enter Tryd.func55, Tryd.ntmps55
  go_wp2_with fail
  refine (pCheck_any l _ H1.out HL.out hnb HB.out).mono ?_
  rintro e w' ⟨rfl, rfl⟩
  rw [HF.out]
  go_wp2_with fail
  refine (order_any l _ H1.out HL.out HG.out HT.out).mono ?_
  rintro e w' ⟨A1, c1, rfl, hown, hb1⟩
  rw [HR.out]
  rw [HFU.out] at hown ⊢
  have HB1 := Lib.hid hb1
  have HO := Lib.hid hown
  clear hown hb1
  go_wp2_with fail
  go_ret2
  exact ⟨A1, c1, rfl, HO.out, HB1.out⟩

/-- The error of rows that want an order. -/
def ordErr (l : List Nat) : Int := if faultOf l [] = 0 then (if ordR l = 0 then 0 else 8) else faultOf l []
def BelowPost (l : List Nat) (n : Nat) (w : World) (e : Ending) (w' : World) : Prop :=
  ∃ A1 c1 A2 c2, e = .returned (.tuple #[.slice A1 n c1, .slice A2 n c2, .int .i64 0]) ∧ w'.ownsRow w.heap.size 24 1 (.slice A1 n c1) n ((closed l).map uv) ∧
    w'.ownsRow w.heap.size 3 1 (.slice A2 n c2) n ((ordL l).map nv) ∧ Below w.heap.size w w'
end Go.Proofs.YtiechbaknolimaaDoor
