/- Contract: span.Text. The table of math/bits lies. -/
import Derived.Test.YtcjhkfhogcdobaaDoorHex2
import Derived.Test.YtcjhkfhogcdobaaDoorSpan1
import Derived.Test.YtcjhkfhogcdobaaDoorShelf3
namespace Go.Proofs.YtcjhkfhogcdobaaDoor
open Go.RowKit

theorem lt_of_top {u t : Nat} (h : u / 16 ^ t < 16) : u < 16 ^ (t + 1) := by
  rw [Nat.pow_succ, Nat.mul_comm]
  exact (Nat.div_lt_iff_lt_mul (Nat.pow_pos (by decide))).1 h
theorem hexN_le (u : Nat) (hu : u < 18446744073709551616) : ∀ f t, t + f = 15 → 1 ≤ hexN u t f ∧ hexN u t f ≤ 16 ∧ u < 16 ^ hexN u t f
  | 0, t, h => by
    obtain rfl : t = 15 := by omega
    unfold hexN
    exact ⟨by omega, by omega, by simpa using hu⟩
  | f + 1, t, h => by
    unfold hexN
    split
    · rename_i h16
      exact ⟨by omega, by omega, lt_of_top h16⟩
    · exact hexN_le u hu f (t + 1) (by omega)
theorem text_is (u : Nat) (hu : u < 18446744073709551616) : (⟨(Lib.repeatL [48] (16 - hexN u 0 15)).toArray⟩ : ByteArray) ++ hexS u (hexN u 0 15) = hexS u 16 := by
  obtain ⟨h1, h2, h3⟩ := hexN_le u hu 15 0 rfl
  apply ByteArray.ext
  rw [ByteArray.data_append]
  unfold hexS
  have := hexT_fill h3 (16 - hexN u 0 15)
  rw [show hexN u 0 15 + (16 - hexN u 0 15) = 16 by omega] at this
  rw [this]
  have e : Lib.repeatL [48] (16 - hexN u 0 15) = List.replicate (16 - hexN u 0 15) (hexD 0) := by
    generalize 16 - hexN u 0 15 = n
    induction n with
    | zero => rfl
    | succ n ih =>
      rw [Lib.repeatL, ih, List.replicate_succ]
      rfl
  rw [e]
  simp
theorem sText_any (x : UInt64) (w : World) (ht : Tab w) :
    Calls Tryd.prog 28 #[fv x] w fun e w' => e = .returned (.string (hexS x.toNat 16)) ∧ Below w.heap.size w w' := by
  have hx := u64_lt x
  obtain ⟨h1, h2, _⟩ := hexN_le x.toNat hx 15 0 rfl
  have HF := Lib.hid (sFmtU16 x.toNat hx w ht)
  have HT := Lib.hid (text_is x.toNat hx)
  have hsz := hexS_size x.toNat (hexN x.toNat 0 15)
  have HR := Lib.hid (fun W => Tryd.strings_Repeat ⟨#[48]⟩ (16 - hexN x.toNat 0 15) W (by omega) (by show 1 * _ ≤ _; omega))
  have hcnt : (16 : Int) - ((hexN x.toNat 0 15 : Nat) : Int) = ((16 - hexN x.toNat 0 15 : Nat) : Int) := by omega
  have hwr : IntKind.i64.wrap ((16 : Int) - ((hexN x.toNat 0 15 : Nat) : Int)) = ((16 - hexN x.toNat 0 15 : Nat) : Int) := by rw [IntKind.wrap_i64]; omega
  have HFE : Hid ((⟨(hexT x.toNat (hexN x.toNat 0 15)).toArray⟩ : ByteArray) = hexS x.toNat (hexN x.toNat 0 15)) := Lib.hid rfl
  rw [HFE.out] at HF
  clear ht HFE
  unfold fv
  generalize hexS x.toNat (hexN x.toNat 0 15) = S at *
  generalize hexN x.toNat 0 15 = M at *
  generalize x.toNat = b at *
  go_enter Tryd.func28, Tryd.ntmps28
  go_wp2_with fail
  refine HF.out.mono ?_
  rintro e w1 ⟨rfl, hb1⟩
  have B1 := Lib.hid hb1
  clear hb1
  go_wp2_with fail
  refine (HR.out _).mono ?_
  rintro e w2 ⟨rfl, hb2⟩
  have B2 := Lib.hid (below_then B1.out hb2)
  have hrs : (⟨(Lib.repeatL [48] (16 - M)).toArray⟩ : ByteArray).size = 16 - M := by
    have e : ∀ n, (Lib.repeatL [48] n).length = n := by
      intro n
      induction n with
      | zero => rfl
      | succ n ih => rw [Lib.repeatL, List.length_append, ih]; simp; omega
    show (Lib.repeatL [48] (16 - M)).toArray.size = _
    simp [e]
  generalize (⟨(Lib.repeatL [48] (16 - M)).toArray⟩ : ByteArray) = R at *
  clear hb2 HR HF
  go_wp2_with fail
  go_ret
  exact ⟨by rw [HT.out] <;> rfl, B2.out⟩
end Go.Proofs.YtcjhkfhogcdobaaDoor
