/- Contracts: glob.odd: a byte that a set does not hold plainly. -/
import Derived.Test.YtjdfmmjadjggjaaGlob2
import Derived.Test.YtjdfmmjadjggjaaShelf
namespace Go.Proofs.Ytjdfmmjadjggjaa
open Go.RowKit

theorem odd_fin : ∀ n : Fin 256, decide (0 ≤ Lib.indexByte [91, 93, 92, 45, 33] (UInt8.ofNat n.val)) = oddC (UInt8.ofNat n.val) := by decide +kernel
theorem odd_ix (c : UInt8) : decide (0 ≤ Lib.indexByte [91, 93, 92, 45, 33] c) = oddC c := by
  have h := odd_fin ⟨c.toNat, c.toNat_lt⟩
  have e : UInt8.ofNat c.toNat = c := by simp
  simp only [e] at h
  exact h
set_option maxRecDepth 100000 in
theorem pcOdd_any (c : UInt8) (w : World) : Calls Try.prog 98 #[.int .u8 (c.toNat : Int)] w fun e w' => e = .returned (.bool (oddC c)) ∧ w = w' := by
  have HI := Lib.hid (Try.strings_IndexByte ⟨#[91, 93, 92, 45, 33]⟩ (c.toNat : Int) w)
  have HO := Lib.hid (odd_ix c)
  go_enter Try.func98, Try.ntmps98
  go_wp2_with fail
  refine HI.out.mono ?_
  rintro e w' ⟨rfl, rfl⟩
  go_wp2_with fail
  go_ret
  exact ⟨ret_bool HO.out, rfl⟩
end Go.Proofs.Ytjdfmmjadjggjaa
