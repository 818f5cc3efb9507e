/- slices.Equal at two lists of numbers: it tells whether they are equal. Lengths below 2^63. -/
import Derived.Test.YtonmkmghpiagjaaDoorBits4
import Derived.Test.YtonmkmghpiagjaaDoorEqInt
namespace Go.Proofs.YtonmkmghpiagjaaDoor
open Go.RowKit

/-- slices.Equal at two lists of numbers. -/
theorem slEq_nv {A1 A2 : Option Addr} {n1 n2 c1 c2 : Nat} (xs ys : List Nat) {w : World} (h1 : Rd w A1 (xs.map nv)) (h2 : Rd w A2 (ys.map nv))
    (e1 : xs.length = n1) (e2 : ys.length = n2) (hx : n1 ≤ 9223372036854775807) (hy : n2 ≤ 9223372036854775807) :
    Calls Tryd.prog 14 #[.slice A1 n1 c1, .slice A2 n2 c2] w fun e w' => e = .returned (.bool (decide (xs = ys))) ∧ Below w.heap.size w w' := by
  have hm : ∀ zs : List Nat, zs.map nv = (zs.map (fun k : Nat => (k : Int))).map (.int .i64) := fun zs => by
    rw [List.map_map]; rfl
  rw [hm] at h1 h2
  refine (slEq_int_n _ _ h1 h2 (by simpa using e1) (by simpa using e2) hx hy).mono fun e w' ⟨he, hb⟩ => ⟨?_, hb⟩
  rw [he]
  apply ret_bool
  rw [Bool.eq_iff_iff]
  simp only [decide_eq_true_eq]
  constructor
  · intro h
    exact List.map_inj_right (fun a b hab => by omega) |>.1 h
  · intro h; rw [h]

end Go.Proofs.YtonmkmghpiagjaaDoor
