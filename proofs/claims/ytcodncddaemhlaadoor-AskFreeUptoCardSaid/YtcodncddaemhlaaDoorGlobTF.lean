/- Contract: the reference's PatternFault. -/
import Derived.Test.YtcodncddaemhlaaDoorGlobT2
namespace Go.Proofs.YtcodncddaemhlaaDoor
open Go.RowKit

set_option maxRecDepth 100000 in
set_option maxHeartbeats 1000000 in
theorem rFault_any (t : List UInt8) (ht : t.length ≤ 9223372036854775807) (w : World) : Calls Tryd.prog 41 #[.string ⟨t.toArray⟩] w fun e w' => e = .returned (.int .i64 (errG t : Int)) ∧ Below w.heap.size w w' := by
  have hsz : (⟨t.toArray⟩ : ByteArray).size = t.length := rfl
  by_cases hl : 60 < t.length
  · have HE : Hid (errG t = 2) := Lib.hid (by unfold errG; rw [if_pos hl])
    generalize (⟨t.toArray⟩ : ByteArray) = b at *
    have h2 : 60 < b.size := by omega
    clear hsz hl ht
    go_enter Tryd.func41, Tryd.ntmps41
    go_wp2_with fail
    go_ret
    exact ⟨ret_int (by rw [HE.out]; rfl), Below.refl _ _⟩
  · have HP := Lib.hid (rPieces_any t (by omega) w)
    have HL := Lib.hid hl
    generalize (⟨t.toArray⟩ : ByteArray) = b at *
    have h2 : b.size ≤ 60 := by omega
    clear hsz hl ht
    go_enter Tryd.func41, Tryd.ntmps41
    go_wp2_with fail
    refine HP.out.mono ?_
    rintro e w' ⟨hb, hc⟩
    have HB := Lib.hid hb
    clear hb
    rcases hc with ⟨hno, rfl⟩ | ⟨M, A, n, c, h1, h3, h4, h5, rfl⟩
    · have HE : Hid (errG t = 3) := Lib.hid (by unfold errG; rw [if_neg HL.out, hno]; rfl)
      clear hno
      go_wp2_with fail
      go_ret
      exact ⟨ret_int (by rw [HE.out]; rfl), HB.out⟩
    · have HE : Hid (errG t = 0) := Lib.hid (by unfold errG; rw [if_neg HL.out, h1]; rfl)
      clear h1 h3 h4 h5
      go_wp2_with fail
      go_ret
      exact ⟨ret_int (by rw [HE.out]; rfl), HB.out⟩
def longG (s : List UInt8) : Bool := decide (100 < s.length) && decide (s.length ≤ 2000)
end Go.Proofs.YtcodncddaemhlaaDoor
