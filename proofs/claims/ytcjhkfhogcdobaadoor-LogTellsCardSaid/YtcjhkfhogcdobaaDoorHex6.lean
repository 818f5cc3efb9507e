/- Contract: strconv.ParseUint at base 16. Texts below 2^47; the two error variables of strconv lie. -/
import Derived.Test.YtcjhkfhogcdobaaDoorHex5
import Derived.Test.YtcjhkfhogcdobaaDoorHexPlain2
import Derived.Test.YtcjhkfhogcdobaaDoorShelf3
namespace Go.Proofs.YtcjhkfhogcdobaaDoor
open Go.RowKit

/-- The error variables of strconv hold something. -/
def ErrVars (w : World) : Prop := (∃ ev, w.cell? ⟨3, 0, none⟩ = some ev ∧ (ev = .nilIface ∨ ∃ te pe, ev = .iface te pe)) ∧ (∃ ev, w.cell? ⟨4, 0, none⟩ = some ev ∧ (ev = .nilIface ∨ ∃ te pe, ev = .iface te pe))
theorem ErrVars.below {w w' : World} (h : ErrVars w) (hb : Below w.heap.size w w') : ErrVars w' := by
  obtain ⟨⟨e1, h1, h2⟩, ⟨e2, h3, h4⟩⟩ := h
  exact ⟨⟨e1, (hb.cell (p := ⟨_, 0, none⟩) (lt_of_cell' h1)).trans h1, h2⟩, ⟨e2, (hb.cell (p := ⟨_, 0, none⟩) (lt_of_cell' h3)).trans h3, h4⟩⟩
def PuPost2 (s : List UInt8) (w : World) (e : Ending) (w' : World) : Prop :=
  ∃ (n : Nat) (ev : Value), e = .returned (.tuple #[.int .u64 (n : Int), ev]) ∧ n < 18446744073709551616 ∧ Below w.heap.size w w' ∧ ((ev = Value.nilIface ∧ (hexOk s = true → n = hexAcc s)) ∨ (hexOk s = false ∧ ∃ N : Nat, ev = .iface 99 (.pointer (some ⟨N, 0, none⟩))))
theorem sParse16 (s : List UInt8) (w : World) (hl : s.length ≤ 140737488351232) (hE : ErrVars w) :
    Calls Tryd.prog 51 #[.string ⟨s.toArray⟩, .int .i64 16, .int .i64 64] w (PuPost2 s w) := by
  have H := Lib.hid (iParse16 s w hl)
  have HE := Lib.hid hE
  have hsz : (⟨s.toArray⟩ : ByteArray).size ≤ 281474976710656 := by simp [ByteArray.size]; omega
  have HSZ := Lib.hid hsz
  clear hE hsz
  generalize (⟨s.toArray⟩ : ByteArray) = b at *
  go_enter Tryd.func51, Tryd.ntmps51
  go_wp2_with fail
  refine H.out.mono ?_
  rintro e w1 ⟨n, ev, rfl, hn, hb, ⟨rfl, hv⟩ | ⟨hk, k, rfl, rfl | rfl⟩⟩
  · have HB := Lib.hid hb
    have HV := Lib.hid hv
    have HN := Lib.hid hn
    clear hb hv hn
    go_wp2_with fail
    go_ret2
    exact ⟨n, _, rfl, HN.out, HB.out, .inl ⟨rfl, HV.out⟩⟩
  · have HB := Lib.hid hb
    have HK := Lib.hid hk
    have HN := Lib.hid hn
    obtain ⟨_, ⟨e2, h3, h4⟩⟩ := HE.out.below hb
    have HT := Lib.hid (fun fn => Tryd.strconv_toError_range fn b 16 64 e2 w1 HSZ.out h3 h4)
    clear hb hk hn h3 h4
    go_wp2_with fail
    refine (HT.out _).mono ?_
    rintro e w2 ⟨N, rfl, _, _, hb2⟩
    have HB2 := Lib.hid (below_then HB.out hb2)
    clear hb2
    go_wp2_with fail
    go_ret2
    exact ⟨n, _, rfl, HN.out, HB2.out, .inr ⟨HK.out, N, rfl⟩⟩
  · have HB := Lib.hid hb
    have HK := Lib.hid hk
    have HN := Lib.hid hn
    obtain ⟨⟨e1, h3, h4⟩, _⟩ := HE.out.below hb
    have HT := Lib.hid (fun fn => Tryd.strconv_toError_syntax fn b 16 64 e1 w1 HSZ.out h3 h4)
    clear hb hk hn h3 h4
    go_wp2_with fail
    refine (HT.out _).mono ?_
    rintro e w2 ⟨N, rfl, _, _, hb2⟩
    have HB2 := Lib.hid (below_then HB.out hb2)
    clear hb2
    go_wp2_with fail
    go_ret2
    exact ⟨n, _, rfl, HN.out, HB2.out, .inr ⟨HK.out, N, rfl⟩⟩
end Go.Proofs.YtcjhkfhogcdobaaDoor
