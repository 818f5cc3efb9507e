/- Contract: span.Read. Texts below 2^47; the table of math/bits and the two error variables of strconv lie. -/
import Derived.Test.YtcjhkfhogcdobaaDoorHex3
import Derived.Test.YtcjhkfhogcdobaaDoorHex6
namespace Go.Proofs.YtcjhkfhogcdobaaDoor
open Go.RowKit

def readE (s : List UInt8) : Int := if hexOk s then 0 else 3
theorem hexS_eq (s : List UInt8) (n : Nat) : ((hexS n 16).toList == (⟨s.toArray⟩ : ByteArray).toList) = decide (hexT n 16 = s) := by
  unfold hexS
  rw [Lib.toList_data, Lib.toList_data]
  by_cases h : hexT n 16 = s
  · subst h; simp
  · simp [h]
theorem sRead_any (s : List UInt8) (w : World) (hl : s.length ≤ 140737488351232) (hE : ErrVars w) (hT : Tab w) :
    Calls Tryd.prog 34 #[.string ⟨s.toArray⟩] w fun e w' => e = .returned (.tuple #[.float .f64 (hexRd s), .int .i64 (readE s)]) ∧ Below w.heap.size w w' := by
  have H := Lib.hid (sParse16 s w hl hE)
  have HT := Lib.hid hT
  have hsz : (⟨s.toArray⟩ : ByteArray).size = s.length := by simp [ByteArray.size]
  have HEQ := Lib.hid (hexS_eq s)
  clear hE hT
  generalize (⟨s.toArray⟩ : ByteArray) = b at *
  have HSZ := Lib.hid hsz
  have hbs : b.size ≤ 140737488351232 := by omega
  clear hsz hl
  go_enter Tryd.func34, Tryd.ntmps34
  go_wp2_with fail
  refine H.out.mono ?_
  rintro e w1 ⟨n, ev, rfl, hn, hb, ⟨rfl, hv⟩ | ⟨hk, N, rfl⟩⟩
  · have HB := Lib.hid hb
    have HV := Lib.hid hv
    have HN := Lib.hid hn
    by_cases h16 : b.size = 16
    · obtain ⟨x, hx⟩ : ∃ x : UInt64, x.toNat = n := ⟨UInt64.ofNat n, by rw [UInt64.toNat_ofNat']; exact Nat.mod_eq_of_lt hn⟩
      have HX := Lib.hid (sText_any x w1 (HT.out.below hb))
      rw [hx] at HX
      have HFV : Hid (fv x = .float .f64 n) := Lib.hid (by unfold fv; rw [hx])
      rw [HFV.out] at HX
      have hq := HEQ.out n
      clear hb hv hn hx
      by_cases hok : hexOk s = true
      · have hnn := HV.out hok
        have htt : hexT n 16 = s := by
          have h1 := hexOk_all hok
          have := hexT_acc s h1.2
          rw [h1.1] at this
          rw [hnn]; exact this
        rw [decide_eq_true htt] at hq
        have HR : Hid (hexRd s = n ∧ readE s = 0) := Lib.hid (by unfold hexRd readE; rw [if_pos hok, if_pos hok]; exact ⟨hnn.symm, rfl⟩)
        clear hnn htt hok
        go_wp2_with fail
        refine HX.out.mono ?_
        rintro e w2 ⟨rfl, hb2⟩
        have HB2 := Lib.hid (below_then HB.out hb2)
        clear hb2
        go_wp2_with fail
        go_ret2
        exact ⟨by rw [HR.out.1, HR.out.2] <;> rfl, HB2.out⟩
      · have htt : ¬ hexT n 16 = s := fun h => hok (by rw [← h]; exact hexOk_hexT n)
        rw [decide_eq_false htt] at hq
        have HR : Hid (hexRd s = 0 ∧ readE s = 3) := Lib.hid (by unfold hexRd readE; rw [if_neg hok, if_neg hok]; exact ⟨rfl, rfl⟩)
        clear htt hok
        go_wp2_with fail
        refine HX.out.mono ?_
        rintro e w2 ⟨rfl, hb2⟩
        have HB2 := Lib.hid (below_then HB.out hb2)
        clear hb2
        go_wp2_with fail
        go_ret2
        exact ⟨by rw [HR.out.1, HR.out.2] <;> rfl, HB2.out⟩
    · have hok : ¬ hexOk s = true := fun h => h16 (by rw [HSZ.out]; exact (hexOk_all h).1)
      have HR : Hid (hexRd s = 0 ∧ readE s = 3) := Lib.hid (by unfold hexRd readE; rw [if_neg hok, if_neg hok]; exact ⟨rfl, rfl⟩)
      have h16i : ¬ (b.size : Int) = 16 := by omega
      clear hb hv hn hok
      go_wp2_with fail
      go_ret2
      exact ⟨by rw [HR.out.1, HR.out.2] <;> rfl, HB.out⟩
  · have HB := Lib.hid hb
    have HR : Hid (hexRd s = 0 ∧ readE s = 3) := Lib.hid (by unfold hexRd readE; rw [hk]; exact ⟨rfl, rfl⟩)
    clear hb hk hn
    go_wp2_with fail
    go_ret2
    exact ⟨by rw [HR.out.1, HR.out.2] <;> rfl, HB.out⟩
end Go.Proofs.YtcjhkfhogcdobaaDoor
