/- Contract: name.Merge. Lengths below 2^40. -/
import Derived.Test.YtibpdaocdaknbaaName8
import Derived.Test.YtibpdaocdaknbaaName10
namespace Go.Proofs.Ytibpdaocdaknbaa
open Go.RowKit

def mergeL (l : List (List UInt8)) : List (List UInt8) := if (sortL l).length ≤ 64 then sortL l else []
def mergeErr (l : List (List UInt8)) : Int := if (sortL l).length ≤ 64 then namesErr l else 2
def MergePost (l : List (List UInt8)) (w : World) (e : Ending) (w' : World) : Prop :=
  ∃ A c, e = .returned (.tuple #[.slice A (mergeL l).length c, .int .i64 (mergeErr l)]) ∧ Rd w' A ((mergeL l).map sv) ∧ Below w.heap.size w w'
theorem namesErr_cases (l : List (List UInt8)) : (l.all goodName = true ∧ namesErr l = 0) ∨ (l.all goodName = false ∧ namesErr l = 3) := by
  unfold namesErr
  cases h : l.all goodName with
  | true => exact .inl ⟨rfl, rfl⟩
  | false => exact .inr ⟨rfl, rfl⟩
theorem rd_keep {w w' : World} {A : Option Addr} {xs : List Value} (h : Rd w A xs) (hb : Below w.heap.size w w') : Rd w' A xs := h.below hb

set_option maxHeartbeats 2000000 in
theorem nMerge_any {A1 A2 : Option Addr} {n1 c1 n2 c2 : Nat} (l1 l2 : List (List UInt8)) (w : World)
    (h1 : Rd w A1 (l1.map sv)) (h2 : Rd w A2 (l2.map sv)) (hn1 : l1.length = n1) (hn2 : l2.length = n2) (hN : n1 + n2 ≤ 1099511627776) (hs : StrsOk (l1 ++ l2)) :
    Calls Try.prog 5 #[.slice A1 n1 c1, .slice A2 n2 c2] w (MergePost (l1 ++ l2) w) := by
  have HB0 : Hid (Below w.heap.size w (w.alloc (.cells #[.slice A1 n1 c1, .slice A2 n2 c2] 22))) := Lib.hid (below_new (Below.refl _ w) _)
  have HC := Lib.hid (concat_any (b := w.heap.size) (A1 := A1) (A2 := A2) (c1 := c1) (c2 := c2) l1 l2 (w.alloc (.cells #[.slice A1 n1 c1, .slice A2 n2 c2] 22)) (by simp)
    (by rw [World.cell?_alloc_at _ _ _ _ rfl]; rfl) (by rw [World.cell?_alloc_at _ _ _ _ rfl]; rfl) (h1.below HB0.out) (h2.below HB0.out) hn1 hn2 hN)
  have HN : Hid ((l1 ++ l2).length = n1 + n2) := Lib.hid (by simp [hn1, hn2])
  have HS := Lib.hid hs
  clear h1 h2 hn1 hn2 hs
  generalize l1 ++ l2 = l at *
  go_enter Try.func5, Try.ntmps5
  go_wp2_with fail
  refine HC.out.mono ?_
  rintro e w1 ⟨A, c, rfl, hown, hb1⟩
  have HT := Lib.hid (nSort_any (c := c) l w1 (Rd.of_own hown) HN.out hN HS.out)
  have HB1 := Lib.hid (below_then HB0.out hb1)
  clear hown hb1
  go_wp2_with fail
  refine HT.out.mono ?_
  rintro e w2 ⟨A2', c2', rfl, hrd, hb2⟩
  have HR := Lib.hid hrd
  have HB2 := Lib.hid (below_then HB1.out hb2)
  clear hrd hb2
  rcases namesErr_cases l with ⟨hg, hz⟩ | ⟨hg, hz⟩
  · rw [hz]
    have HZ := Lib.hid hz
    clear hz hg
    by_cases hle : (sortL l).length ≤ 64
    · have HL : Hid (mergeL l = sortL l) := Lib.hid (by unfold mergeL; rw [if_pos hle])
      have HE : Hid (mergeErr l = 0) := Lib.hid (by unfold mergeErr; rw [if_pos hle, HZ.out])
      generalize hk : (sortL l).length = k at *
      have HK := Lib.hid hk
      clear hk
      go_wp2_with fail
      go_ret2
      exact ⟨A2', c2', by rw [HL.out, HE.out, HK.out]; rfl, by rw [HL.out]; exact HR.out, HB2.out⟩
    · have HL : Hid (mergeL l = []) := Lib.hid (by unfold mergeL; rw [if_neg hle])
      have HE : Hid (mergeErr l = 2) := Lib.hid (by unfold mergeErr; rw [if_neg hle])
      generalize hk : (sortL l).length = k at *
      have HK := Lib.hid hk
      clear hk
      go_wp2_with fail
      go_ret2
      exact ⟨none, 0, by rw [HL.out, HE.out]; rfl, by rw [HL.out]; exact Rd.nil_ _ _, HB2.out⟩
  · have he : sortL l = [] := by unfold sortL; rw [hg]; rfl
    have HL : Hid (mergeL l = sortL l) := Lib.hid (by unfold mergeL; rw [if_pos (by rw [he]; simp)])
    have HE : Hid (mergeErr l = 3) := Lib.hid (by unfold mergeErr; rw [if_pos (by rw [he]; simp), hz])
    rw [hz]
    clear hz hg he
    generalize hk : (sortL l).length = k at *
    have HK := Lib.hid hk
    clear hk
    go_wp2_with fail
    go_ret2
    exact ⟨A2', c2', by rw [HL.out, HE.out, HK.out]; rfl, by rw [HL.out]; exact HR.out, HB2.out⟩
end Go.Proofs.Ytibpdaocdaknbaa
