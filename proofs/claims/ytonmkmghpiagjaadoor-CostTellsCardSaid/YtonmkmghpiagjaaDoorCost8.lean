/- Contracts: cost.Check, cost.Times, cost.Load. The table of math/bits lies. -/
import Derived.Test.YtonmkmghpiagjaaDoorCost2
import Derived.Test.YtonmkmghpiagjaaDoorCost3
import Derived.Test.YtonmkmghpiagjaaDoorSpan5
namespace Go.Proofs.YtonmkmghpiagjaaDoor
open Go.RowKit

/-- The times when all are done, as a list. -/
def tmL (l : List Nat) (d : List UInt64) (n : Nat) : List UInt64 := (List.range n).map (tmT l (tAt d))
theorem tmL_len (l : List Nat) (d : List UInt64) (n : Nat) : (tmL l d n).length = n := by simp [tmL]
theorem tmL_ffv (l : List Nat) (d : List UInt64) (n : Nat) : ffv (tmT l (tAt d)) n = (tmL l d n).map fv := ffv_list _ _
section
variable {A A2 : Option Addr} {n c m c2 : Nat} (l : List Nat) (d : List UInt64) (w : World) (h1 : Rd w A (l.map uv)) (hl : l.length = n) (hnb : n ≤ 9223372036854775807) (hb : Rows64 l) (h2 : Rd w A2 (d.map fv)) (hm : d.length = m) (hmb : m ≤ 9223372036854775807) (hT : Tab w)
include h1 hl hnb hb h2 hm hmb hT
theorem cCheckE : Calls Tryd.prog 36 #[.slice A n c, .slice A2 m c2] w fun e w' => e = .returned (.int .i64 (costErr l d)) ∧ Below w.heap.size w w' := by
  by_cases he : costErr l d = 0
  · have HC := Lib.hid (cCheck_good (c := c) (c2 := c2) l d w h1 hl hnb hb h2 hm hmb hT he)
    have HE := Lib.hid he
    clear h1 hl hb h2 hm hT he
    go_enter Tryd.func36, Tryd.ntmps36
    go_wp2_with fail
    refine HC.out.mono ?_
    rintro e w1 ⟨A1, c1, rfl, hown1, hb1⟩
    clear hown1
    go_wp2_with fail
    go_ret
    exact ⟨ret_int HE.out.symm, hb1⟩
  · have HC := Lib.hid (cCheck_bad (c := c) (c2 := c2) l d w h1 hl hnb hb h2 hm hmb hT he)
    clear h1 hl hb h2 hm hT he
    go_enter Tryd.func36, Tryd.ntmps36
    go_wp2_with fail
    refine HC.out.mono ?_
    rintro e w1 ⟨rfl, hb1⟩
    go_wp2_with fail
    go_ret
    exact ⟨rfl, hb1⟩
theorem cTimesX_bad (he : costErr l d ≠ 0) :
    Calls Tryd.prog 32 #[.slice A n c, .slice A2 m c2] w fun e w' => e = .returned (.tuple #[.slice none 0 0, .float .f64 0, .int .i64 (costErr l d)]) ∧ Below w.heap.size w w' := by
  have HC := Lib.hid (cCheck_bad (c := c) (c2 := c2) l d w h1 hl hnb hb h2 hm hmb hT he)
  have hz := fault_ne he
  clear h1 hl hb h2 hm hT he
  go_enter Tryd.func32, Tryd.ntmps32
  go_wp2_with fail
  refine HC.out.mono ?_
  rintro e w1 ⟨rfl, hb1⟩
  go_wp2_with fail
  go_ret3
  exact ⟨rfl, hb1⟩
theorem cLoad_bad (he : costErr l d ≠ 0) :
    Calls Tryd.prog 34 #[.slice A n c, .slice A2 m c2] w fun e w' => e = .returned (.tuple #[.float .f64 0, .int .i64 (costErr l d)]) ∧ Below w.heap.size w w' := by
  have HC := Lib.hid (cCheck_bad (c := c) (c2 := c2) l d w h1 hl hnb hb h2 hm hmb hT he)
  have hz := fault_ne he
  clear h1 hl hb h2 hm hT he
  go_enter Tryd.func34, Tryd.ntmps34
  go_wp2_with fail
  refine HC.out.mono ?_
  rintro e w1 ⟨rfl, hb1⟩
  go_wp2_with fail
  go_ret2
  exact ⟨rfl, hb1⟩
theorem cLoad_good (he : costErr l d = 0) :
    Calls Tryd.prog 34 #[.slice A n c, .slice A2 m c2] w fun e w' => e = .returned (.tuple #[.float .f64 (sumT d), .int .i64 0]) ∧ Below w.heap.size w w' := by
  have HC := Lib.hid (cCheck_good (c := c) (c2 := c2) l d w h1 hl hnb hb h2 hm hmb hT he)
  have HS := Lib.hid (fun W (hW : Below w.heap.size w W) => tSum_any (c := c2) d W (h2.below hW) hm hmb)
  clear h1 hl hb h2 hm hT he
  go_enter Tryd.func34, Tryd.ntmps34
  go_wp2_with fail
  refine HC.out.mono ?_
  rintro e w1 ⟨A1, c1, rfl, hown1, hb1⟩
  have B1 := Lib.hid hb1
  clear hown1 hb1
  go_wp2_with fail
  refine (HS.out _ B1.out).mono ?_
  rintro e w2 ⟨rfl, hb2⟩
  have B2 := Lib.hid (below_then B1.out hb2)
  clear hb2
  go_wp2_with fail
  go_ret2
  exact ⟨rfl, B2.out⟩
/-- Times, the greatest of them, and no error. -/
def TimesPost (l : List Nat) (d : List UInt64) (n : Nat) (w : World) (e : Ending) (w' : World) : Prop :=
  ∃ A c, e = .returned (.tuple #[.slice A n c, .float .f64 (mostT (tmL l d n)).toNat, .int .i64 0]) ∧ w'.ownsRow w.heap.size 56 1 (.slice A n c) n ((tmL l d n).map fv) ∧ Below w.heap.size w w'
theorem cTimesX_good (he : costErr l d = 0) :
    Calls Tryd.prog 32 #[.slice A n c, .slice A2 m c2] w (TimesPost l d n w) := by
  have HC := Lib.hid (cCheck_good (c := c) (c2 := c2) l d w h1 hl hnb hb h2 hm hmb hT he)
  obtain ⟨hg, hdl, hd, hr, _⟩ := cost_ok hb he
  obtain rfl : m = n := by omega
  have HTM := Lib.hid (fun (W : World) (A3 : Option Addr) (c3 : Nat) (hW : Below w.heap.size w W) (h3 : Rd W A3 ((ordL l).map nv)) => cTimes_any (c := c) (c2 := c2) (c3 := c3) l d W (h1.below hW) hl hg (h2.below hW) hm h3 hr hd (hT.below hW))
  clear h1 hl hb h2 hm hT he hg hdl hd hr
  go_enter Tryd.func32, Tryd.ntmps32
  go_wp2_with fail
  refine HC.out.mono ?_
  rintro e w1 ⟨A1, c1, rfl, hown1, hb1⟩
  have HR1 := Lib.hid (Rd.of_own hown1)
  have B1 := Lib.hid hb1
  clear hown1 hb1
  go_wp2_with fail
  refine (HTM.out _ _ _ B1.out HR1.out).mono ?_
  rintro e w2 ⟨A3, c3, rfl, hown2, hb2⟩
  rw [tmL_ffv] at hown2
  have HO2 := Lib.hid (own_base hown2 B1.out.size)
  have HR2 := Lib.hid (Rd.of_own hown2)
  have B2 := Lib.hid (below_then B1.out hb2)
  have HLN := Lib.hid (tmL_len l d m)
  clear hown2 hb2 HR1
  go_wp2_with fail
  refine (tMost_any (tmL l d m) _ HR2.out HLN.out hmb).mono ?_
  rintro e w' ⟨rfl, rfl⟩
  go_wp2_with fail
  go_ret3
  exact ⟨_, _, rfl, HO2.out, B2.out⟩
end
end Go.Proofs.YtonmkmghpiagjaaDoor
