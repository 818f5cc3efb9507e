/- Contract: the comparison of dom.row: two numbers by how many rule each. The rows are below 2^64. -/
import Derived.Test.YtonmkmghpiagjaaDoorDomPlain
import Derived.Test.YtonmkmghpiagjaaDoorReach1
import Derived.Test.YtonmkmghpiagjaaDoorQuiet
import Derived.Test.YtonmkmghpiagjaaDoorBits1
namespace Go.Proofs.YtonmkmghpiagjaaDoor
open Go.RowKit

/-- How many stand in row i. -/
def cntRow (l : List Nat) (i : Nat) : Nat := (nums (rowAt l i)).length
def cmpRow (l : List Nat) (i j : Nat) : Int := (cntRow l i : Int) - (cntRow l j : Int)
set_option maxHeartbeats 1000000 in
theorem rowCmp_any {B : Nat} {A : Option Addr} {n c : Nat} (l : List Nat) (i j : Nat) (w : World) (h1 : Rd w A (l.map uv)) (hc : w.cell? ⟨B, 0, none⟩ = some (.slice A n c)) (hl : l.length = n) (hb : Rows64 l) (hi : i < n) (hj : j < n) :
    Calls Tryd.prog 118 #[.int .i64 (i : Int), .int .i64 (j : Int), .pointer (some ⟨B, 0, none⟩)] w fun e w' => e = .returned (.int .i64 (cmpRow l i j)) ∧ ∃ q, w' = w.drewN q := by
  obtain ⟨b1, o1, rfl, e1⟩ := h1.set (k := i) (by omega)
  obtain ⟨b2, o2, hA, e2⟩ := h1.set (k := j) (by omega)
  injection hA with hA
  injection hA with hA1 hA2 _
  subst hA1 hA2
  have hli := nums_len (rowAt l i)
  have hlj := nums_len (rowAt l j)
  have HC := Lib.hid count_any
  have bi := hb i
  have bj := hb j
  have HE : Hid (((nums (rowAt l i)).length : Int) - ((nums (rowAt l j)).length : Int) = cmpRow l i j) := Lib.hid rfl
  clear h1 hl hb
  generalize rowAt l i = ri at *
  generalize rowAt l j = rj at *
  have BI := Lib.hid bi
  have BJ := Lib.hid bj
  clear bi bj
  go_enter Tryd.func118, Tryd.ntmps118
  go_wp2_with fail
  go_quiet ((go_at_call 107; exact quiet_left (HC.out _ (by first | exact BI.out | exact BJ.out) _)))
  go_wp2_with fail
  go_ret
  exact ⟨ret_int HE.out, _, rfl⟩
end Go.Proofs.YtonmkmghpiagjaaDoor
