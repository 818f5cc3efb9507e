/- Contract: the reference's Reason. Sets below 2^64. -/
import Derived.Test.YtiechbaknolimaaDoorSt1
namespace Go.Proofs.YtiechbaknolimaaDoor
open Go.RowKit

section
variable {A1 A2 A3 AR : Option Addr} {n k c1 c2 c3 cR : Nat} {N : List (List UInt8)} {E : List EdgeT} {p m d : Nat} {T : List Int} (l : List Nat) (w : World) (hG : GrIn A1 n A2 k N E p m w) (hS : SeIn A3 n T d w)
  (hl : l.length = n) (hg : Good l) (hR : Rd w AR (l.map uv)) (o i z : Nat) (ho : B64 o) (hi : i < n) (hz : z < n)
include hG hS hl hg hR ho hi hz
set_option maxRecDepth 100000 in
set_option maxHeartbeats 4000000 in
theorem rReason_any (c : Nat) (hc1 : 1 ≤ c) (hc5 : c ≤ 5) : Calls Tryd.prog 52 #[gv A1 n c1 A2 k c2 p m, sx A3 n c3 d, .slice AR n cR, .int .u64 (o : Int), .int .i64 (i : Int), .int .i64 (c : Int), .int .i64 (z : Int)] w
    fun e w' => e = .returned (.bool (rsn l T p d o i c z)) ∧ Below w.heap.size w w' := by
  have hn : n ≤ 64 := by have := hg.1; omega
  have HP := Lib.hid (fun W => in_nat p hG.p64 i W)
  have HD := Lib.hid (fun W => in_nat d hS.d64 z W)
  have HO := Lib.hid (fun W => in_nat o ho z W)
  have HRO := Lib.hid (fun W => in_nat (rowAt l i) (hg.b64 i) z W)
  have HS := Lib.hid hS
  have HR := Lib.hid hR
  have HL := Lib.hid hl
  unfold gv sx
  obtain ⟨x0, y0, z0⟩ := box_six w (.slice A1 n c1) (.slice A2 k c2) (.int .u64 (p : Int)) (.int .u64 (m : Int)) (.slice A3 n c3) (.int .u64 (d : Int)) 26 48
  have B2 := Lib.hid z0
  obtain ⟨x1, x2, x3, x4⟩ := x0
  obtain ⟨y1, y2⟩ := y0
  clear hG hS hl hg hR ho z0
  rcases (by omega : c = 1 ∨ c = 2 ∨ c = 3 ∨ c = 4 ∨ c = 5) with rfl | rfl | rfl | rfl | rfl
  · have HE : Hid (rsn l T p d o i 1 z = (decide (z = 0) && decide (tmI T i < 0))) := Lib.hid rfl
    clear hc1 hc5
    go_enter Tryd.func52, Tryd.ntmps52
    go_upto_region 1 with fail
    generalize (w.alloc (.cells #[.slice A1 n c1, .slice A2 k c2, .int .u64 (p : Int), .int .u64 (m : Int)] 26)).alloc (.cells #[.slice A3 n c3, .int .u64 (d : Int)] 48) = w2 at *
    generalize w.heap.size + 1 = BS at *
    obtain ⟨b, off, rfl, yt⟩ := (HS.out.below B2.out).tcell hi
    have hii : (i : Int) < (n : Int) := by omega
    generalize tmI T i = t at *
    rcases Nat.eq_zero_or_pos z with h0 | h0
    · subst h0
      go_wp2_with fail
      go_ret
      exact ⟨ret_bool (by rw [HE.out]; simp), B2.out⟩
    · have hzz : ((z : Int) == 0) = false := by simp; omega
      have HE2 : Hid (rsn l T p d o i 1 z = false) := Lib.hid (by rw [HE.out, decide_eq_false (by omega)]; rfl)
      go_wp2_with fail
      go_ret
      exact ⟨ret_bool HE2.out.symm, B2.out⟩
  · have HE : Hid (rsn l T p d o i 2 z = (decide (z = 0) && p.testBit i)) := Lib.hid rfl
    clear hc1 hc5
    go_enter Tryd.func52, Tryd.ntmps52
    go_upto_region 1 with fail
    generalize (w.alloc (.cells #[.slice A1 n c1, .slice A2 k c2, .int .u64 (p : Int), .int .u64 (m : Int)] 26)).alloc (.cells #[.slice A3 n c3, .int .u64 (d : Int)] 48) = w2 at *
    generalize w.heap.size + 1 = BS at *
    rcases Nat.eq_zero_or_pos z with h0 | h0
    · subst h0
      go_wp2_with fail
      refine (HP.out _).mono ?_
      rintro e w' ⟨rfl, rfl⟩
      go_wp2_with fail
      go_ret
      exact ⟨ret_bool (by rw [HE.out]; simp), B2.out⟩
    · have hzz : ((z : Int) == 0) = false := by simp; omega
      have HE2 : Hid (rsn l T p d o i 2 z = false) := Lib.hid (by rw [HE.out, decide_eq_false (by omega)]; rfl)
      go_wp2_with fail
      go_ret
      exact ⟨ret_bool HE2.out.symm, B2.out⟩
  · have HE : Hid (rsn l T p d o i 3 z = ((rowAt l i).testBit z && d.testBit z)) := Lib.hid rfl
    clear hc1 hc5
    go_enter Tryd.func52, Tryd.ntmps52
    go_upto_region 1 with fail
    generalize (w.alloc (.cells #[.slice A1 n c1, .slice A2 k c2, .int .u64 (p : Int), .int .u64 (m : Int)] 26)).alloc (.cells #[.slice A3 n c3, .int .u64 (d : Int)] 48) = w2 at *
    generalize w.heap.size + 1 = BS at *
    obtain ⟨bR, oR, rfl, xR⟩ := (HR.out.below B2.out).set (k := i) (by rw [HL.out]; exact hi)
    have hii : (i : Int) < (n : Int) := by omega
    generalize rowAt l i = R at *
    generalize R.testBit z = br at *
    generalize d.testBit z = bd at *
    cases br with
    | true =>
      go_wp2_with fail
      refine (HRO.out _).mono ?_
      rintro e w' ⟨rfl, rfl⟩
      go_wp2_with fail
      refine (HD.out _).mono ?_
      rintro e w' ⟨rfl, rfl⟩
      go_wp2_with fail
      go_ret
      exact ⟨ret_bool (by rw [HE.out]; simp), B2.out⟩
    | false =>
      go_wp2_with fail
      refine (HRO.out _).mono ?_
      rintro e w' ⟨rfl, rfl⟩
      go_wp2_with fail
      go_ret
      exact ⟨ret_bool (by rw [HE.out]; simp), B2.out⟩
  · have HE : Hid (rsn l T p d o i 4 z = ((rowAt l i).testBit z && decide (tmI T i < tmI T z))) := Lib.hid rfl
    clear hc1 hc5
    go_enter Tryd.func52, Tryd.ntmps52
    go_upto_region 1 with fail
    generalize (w.alloc (.cells #[.slice A1 n c1, .slice A2 k c2, .int .u64 (p : Int), .int .u64 (m : Int)] 26)).alloc (.cells #[.slice A3 n c3, .int .u64 (d : Int)] 48) = w2 at *
    generalize w.heap.size + 1 = BS at *
    obtain ⟨bR, oR, rfl, xR⟩ := (HR.out.below B2.out).set (k := i) (by rw [HL.out]; exact hi)
    obtain ⟨b, off, rfl, yt⟩ := (HS.out.below B2.out).tcell hi
    obtain ⟨b', off', hA, yz⟩ := (HS.out.below B2.out).tcell hz
    injection hA with hA
    injection hA with hA1 hA2 _
    subst hA1 hA2
    have hii : (i : Int) < (n : Int) := by omega
    have hzi : (z : Int) < (n : Int) := by omega
    have hii0 : (0 : Int) ≤ (i : Int) := by omega
    have hzi0 : (0 : Int) ≤ (z : Int) := by omega
    generalize tmI T i = t at *
    generalize tmI T z = s at *
    generalize rowAt l i = R at *
    have HBD := Lib.hid (fun qq => below_drewN B2.out qq)
    generalize hbr : R.testBit z = br at *
    clear hbr
    cases br with
    | true =>
      go_wp2_with fail
      go_quiet ((go_at_call 41; exact quiet_left (HRO.out _)))
      go_wp2_with fail
      go_ret
      exact ⟨ret_bool (by rw [HE.out]; simp), HBD.out _⟩
    | false =>
      go_wp2_with fail
      go_quiet ((go_at_call 41; exact quiet_left (HRO.out _)))
      go_wp2_with fail
      go_ret
      exact ⟨ret_bool (by rw [HE.out]; simp), HBD.out _⟩
  · have HE : Hid (rsn l T p d o i 5 z = ((rowAt l i).testBit z && o.testBit z)) := Lib.hid rfl
    clear hc1 hc5
    go_enter Tryd.func52, Tryd.ntmps52
    go_upto_region 1 with fail
    generalize (w.alloc (.cells #[.slice A1 n c1, .slice A2 k c2, .int .u64 (p : Int), .int .u64 (m : Int)] 26)).alloc (.cells #[.slice A3 n c3, .int .u64 (d : Int)] 48) = w2 at *
    generalize w.heap.size + 1 = BS at *
    obtain ⟨bR, oR, rfl, xR⟩ := (HR.out.below B2.out).set (k := i) (by rw [HL.out]; exact hi)
    have hii : (i : Int) < (n : Int) := by omega
    generalize rowAt l i = R at *
    generalize R.testBit z = br at *
    generalize o.testBit z = bo at *
    cases br with
    | true =>
      go_wp2_with fail
      refine (HRO.out _).mono ?_
      rintro e w' ⟨rfl, rfl⟩
      go_wp2_with fail
      refine (HO.out _).mono ?_
      rintro e w' ⟨rfl, rfl⟩
      go_wp2_with fail
      go_ret
      exact ⟨ret_bool (by rw [HE.out]; simp), B2.out⟩
    | false =>
      go_wp2_with fail
      refine (HRO.out _).mono ?_
      rintro e w' ⟨rfl, rfl⟩
      go_wp2_with fail
      go_ret
      exact ⟨ret_bool (by rw [HE.out]; simp), B2.out⟩
end
end Go.Proofs.YtiechbaknolimaaDoor
