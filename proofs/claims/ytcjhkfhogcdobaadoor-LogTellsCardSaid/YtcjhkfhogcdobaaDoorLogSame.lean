/- Contract: the reference's SameStamps, at two lists that are the same. -/
import Derived.Test.YtcjhkfhogcdobaaDoorLog1
import Derived.Test.YtcjhkfhogcdobaaDoorQuiet
import Derived.BigQuiet
import Derived.Deep.QuietTactic
namespace Go.Proofs.YtcjhkfhogcdobaaDoor
open Go.RowKit

set_option maxHeartbeats 2000000 in
theorem sameStamps_any {A B : Option Addr} {n c d : Nat} (L : List StampT) (w : World) (hr : Rd w A (stV L)) (hr2 : Rd w B (stV L)) (hn : L.length = n) (hb : n ≤ 9223372036854775807) :
    Calls Tryd.prog 10 #[.slice A n c, .slice B n d] w fun e w' => e = .returned (.bool true) ∧ Below w.heap.size w w' := by
  have HR := Lib.hid hr
  have HR2 := Lib.hid hr2
  have HN := Lib.hid hn
  clear hr hr2 hn
  go_enter Tryd.func10, Tryd.ntmps10
  go_wp2_with fail
  go_loopw [5, 13] (fun _ i wr => ∃ q : Nat, q ≤ n ∧ i = .int .i64 (q : Int) ∧ Hid (Below w.heap.size w wr)) (fun _ i _ => n - (intOf i).toNat)
  case atStart => exact ⟨0, by omega, rfl, Lib.hid (Below.refl _ _)⟩
  case round =>
    obtain ⟨q, hq, rfl, hbw⟩ := hrel
    by_cases hlt : q < n
    · obtain ⟨⟨s, t, f⟩, he⟩ : ∃ x, L[q]? = some x := ⟨_, List.getElem?_eq_getElem (by rw [HN.out]; exact hlt)⟩
      obtain ⟨b, off, rfl, y1, y2, y3⟩ := (HR.out.below hbw.out).stamp he
      obtain ⟨b2, off2, rfl, z1, z2, z3⟩ := (HR2.out.below hbw.out).stamp he
      simp only at y1 y2 y3 z1 z2 z3
      have HC := Lib.hid (sameBits_any f f)
      rw [decide_eq_true rfl] at HC
      have HB := Lib.hid (fun q => below_drewN hbw.out q)
      have f1 : (0 : Int) ≤ (q : Int) := by omega
      have f2 : (q : Int) < (n : Int) := by omega
      clear he hbw
      unfold sv fv at *
      generalize (⟨s.toArray⟩ : ByteArray) = bs at *
      have hbb : (bs.toList == bs.toList) = true := by simp
      have htt : (t != t) = false := by simp
      go_wp2_with fail
      go_quiet ((go_at_call 25; exact quiet_left (HC.out _)))
      go_wp2_with fail
      go_roundw
      case rel => exact ⟨q + 1, by omega, by go_num, Lib.hid (HB.out _)⟩
      case measure => simp [intOf]; omega
    · have hqn : ¬ (q : Int) < (n : Int) := by omega
      go_wp2_with fail
      go_ret
      exact ⟨rfl, hbw.out⟩
end Go.Proofs.YtcjhkfhogcdobaaDoor
