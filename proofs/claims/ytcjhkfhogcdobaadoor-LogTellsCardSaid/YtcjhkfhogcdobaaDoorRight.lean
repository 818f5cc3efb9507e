/- Contracts: right times; the same bits; the reference's. No condition. -/
import Derived.Test.YtcjhkfhogcdobaaDoorSpanPlain
import Derived.Test.YtcjhkfhogcdobaaDoorBase
import Derived.Test.YtcjhkfhogcdobaaDoorSets
import Derived.Test.YtcjhkfhogcdobaaDoorRows
import Derived.WalkKit
import Derived.WalkSpells
import Derived.WalkLawsBesides
import Derived.Outline
import Derived.BigQuiet
import Derived.Deep.QuietTactic
import Derived.Lib.Hide
import Derived.Laws.Externs
import Derived.Laws.BitsAllLaws
namespace Go.Proofs.YtcjhkfhogcdobaaDoor
open Go.RowKit

@[go_sem] theorem run_f64bits (b : Nat) (w : World) : (callFunc 37 #[.float .f64 b]).run Tryd.prog w = .ok (.value (.int .u64 (b : Int))) w := by
  rw [run_callFunc_extern Tryd.func37 (by kernel_rfl) (by kernel_rfl) (by kernel_rfl) (e := Extern.MathFloatBits.float64bits) (by kernel_rfl)]
  rfl
@[go_sem] theorem run_store_float {P : Program} {w : World} {a : Addr} {m : Mode} (k : FloatKind) (b : Nat) : (store a (.float k b) m).run P w = stored P w a (.float k b) m := run_store P w a _ m rfl
theorem signbit_any (x : UInt64) (w : World) :
    Calls Tryd.prog 39 #[fv x] w fun e w' => e = .returned (.bool (decide (9223372036854775808 ≤ x.toNat))) ∧ w = w' := by
  have hx := u64_lt x
  unfold fv
  generalize x.toNat = b at *
  go_enter Tryd.func39, Tryd.ntmps39
  go_wp2
  go_ret
  exact ⟨ret_bool (by rw [decide_eq_decide]; unfold wrap64; omega), rfl⟩
theorem right_any (x : UInt64) (w : World) :
    Calls Tryd.prog 23 #[fv x] w fun e w' => e = .returned (.bool (rightT x)) ∧ w = w' := by
  have HR := Lib.hid (right_iff x)
  cases hg : geZ x.toNat with
  | false =>
    rw [hg, Bool.false_and] at HR
    have HG : (FloatKind.f64.format.order x.toNat 0 == some .gt || FloatKind.f64.format.order x.toNat 0 == some .eq) = false := hg
    clear hg
    unfold fv
    go_enter Tryd.func23, Tryd.ntmps23
    go_wp2_with fail
    go_ret
    exact ⟨ret_bool HR.out, rfl⟩
  | true =>
    rw [hg, Bool.true_and] at HR
    have HG : (FloatKind.f64.format.order x.toNat 0 == some .gt || FloatKind.f64.format.order x.toNat 0 == some .eq) = true := hg
    clear hg
    unfold fv
    go_enter Tryd.func23, Tryd.ntmps23
    go_wp2_with fail
    refine (signbit_any x _).mono ?_
    rintro e w' ⟨rfl, rfl⟩
    go_wp2_with fail
    go_ret
    exact ⟨ret_bool HR.out, rfl⟩
theorem rRight_any (x : UInt64) (w : World) :
    Calls Tryd.prog 21 #[fv x] w fun e w' => e = .returned (.bool (rightT x)) ∧ w = w' := by
  unfold fv
  go_enter Tryd.func21, Tryd.ntmps21
  go_wp2_with fail
  go_ret
  exact ⟨ret_bool (by unfold rightT; rw [decide_eq_decide]; omega), rfl⟩
theorem sameBits_any (x y : UInt64) (w : World) :
    Calls Tryd.prog 25 #[fv x, fv y] w fun e w' => e = .returned (.bool (decide (x = y))) ∧ w = w' := by
  unfold fv
  go_enter Tryd.func25, Tryd.ntmps25
  go_wp2_with fail
  go_ret
  exact ⟨ret_bool (by rw [Bool.eq_iff_iff]; simp [← UInt64.toNat_inj]; omega), rfl⟩
end Go.Proofs.YtcjhkfhogcdobaaDoor
