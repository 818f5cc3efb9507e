/- Contracts: glob.pieces, glob.Check. -/
import Derived.Test.YtcodncddaemhlaaDoorGlob5
import Derived.Test.YtcodncddaemhlaaDoorName1
namespace Go.Proofs.YtcodncddaemhlaaDoor
open Go.RowKit

/-- The fault of a pattern. -/
def PcsPost (t : List UInt8) (w : World) (e : Ending) (w' : World) : Prop :=
  Below w.heap.size w w' ∧ ((errG t ≠ 0 ∧ e = .returned (.tuple #[.slice none 0 0, .int .i64 (errG t : Int)])) ∨
    ∃ L P A n c, errG t = 0 ∧ parseG t = some L ∧ Pws P L ∧ P.length = n ∧ n ≤ 60 ∧ w'.ownsRow w.heap.size 141 5 (.slice A n c) n (pcs P) ∧ e = .returned (.tuple #[.slice A n c, .int .i64 0]))
set_option maxRecDepth 100000 in
set_option maxHeartbeats 1000000 in
theorem pcPieces_any (t : List UInt8) (ht : t.length ≤ 9223372036854775807) (w : World) : Calls Tryd.prog 74 #[.string ⟨t.toArray⟩] w (PcsPost t w) := by
  have hsz : (⟨t.toArray⟩ : ByteArray).size = t.length := rfl
  by_cases hl : 60 < t.length
  · have HE : Hid (errG t = 2) := Lib.hid (by unfold errG; rw [if_pos hl])
    generalize (⟨t.toArray⟩ : ByteArray) = b at *
    have h2 : 60 < b.size := by omega
    clear hsz hl ht
    go_enter Tryd.func74, Tryd.ntmps74
    go_wp2_with fail
    go_ret2
    exact ⟨Below.refl _ _, .inl ⟨by rw [HE.out]; decide, by rw [HE.out]; rfl⟩⟩
  · have HP := Lib.hid (pcParse_any t (by omega) w)
    have HL := Lib.hid hl
    generalize (⟨t.toArray⟩ : ByteArray) = b at *
    have h2 : b.size ≤ 60 := by omega
    clear hsz hl ht
    go_enter Tryd.func74, Tryd.ntmps74
    go_wp2_with fail
    refine HP.out.mono ?_
    rintro e w' ⟨hb, hc⟩
    have HB := Lib.hid hb
    clear hb
    rcases hc with ⟨hno, rfl⟩ | ⟨L, P, A, n, c, h1, h3, h4, h5, h6, rfl⟩
    · have HE : Hid (errG t = 3) := Lib.hid (by unfold errG; rw [if_neg HL.out, hno]; rfl)
      clear hno
      go_wp2_with fail
      go_ret2
      exact ⟨HB.out, .inl ⟨by rw [HE.out]; decide, by rw [HE.out]; rfl⟩⟩
    · have HE : Hid (errG t = 0) := Lib.hid (by unfold errG; rw [if_neg HL.out, h1]; rfl)
      have H1 := Lib.hid h1
      have H3 := Lib.hid h3
      have H4 := Lib.hid h4
      have H5 := Lib.hid h5
      have H6 := Lib.hid h6
      clear h1 h3 h4 h5 h6
      go_wp2_with fail
      go_ret2
      exact ⟨HB.out, .inr ⟨L, P, A, n, c, HE.out, H1.out, H3.out, H4.out, H5.out, H6.out, rfl⟩⟩
set_option maxRecDepth 100000 in
theorem pcCheck_any (t : List UInt8) (ht : t.length ≤ 9223372036854775807) (w : World) : Calls Tryd.prog 50 #[.string ⟨t.toArray⟩] w fun e w' => e = .returned (.int .i64 (errG t : Int)) ∧ Below w.heap.size w w' := by
  have HP := Lib.hid (pcPieces_any t ht w)
  generalize (⟨t.toArray⟩ : ByteArray) = b at *
  go_enter Tryd.func50, Tryd.ntmps50
  go_wp2_with fail
  refine HP.out.mono ?_
  rintro e w' ⟨hb, hc⟩
  have HB := Lib.hid hb
  clear hb
  rcases hc with ⟨hno, rfl⟩ | ⟨L, P, A, n, c, h0, h1, h3, h4, h5, h6, rfl⟩
  · clear hno
    go_wp2_with fail
    go_ret
    exact ⟨rfl, HB.out⟩
  · have H0 := Lib.hid h0
    clear h0 h1 h3 h4 h5 h6
    go_wp2_with fail
    go_ret
    exact ⟨ret_int (by rw [H0.out]; rfl), HB.out⟩
end Go.Proofs.YtcodncddaemhlaaDoor
