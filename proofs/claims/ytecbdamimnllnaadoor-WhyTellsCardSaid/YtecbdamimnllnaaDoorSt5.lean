/- Contract: the reference's Reason. Sets below 2^64. -/
import Derived.Test.YtecbdamimnllnaaDoorSt1
import Derived.Test.YtecbdamimnllnaaDoorStalePlain
import Derived.Test.YtecbdamimnllnaaDoorGr5
namespace Go.Proofs.YtecbdamimnllnaaDoor
open Go.RowKit

section
variable {A1 A2 A3 AR : Option Addr} {n k c1 c2 c3 cR : Nat} {N : List (List UInt8)} {E : List EdgeT} {p m d : Nat} {T : List Int} (l : List Nat) (w : World) (hG : GrIn A1 n A2 k N E p m w) (hS : SeIn A3 n T d w)
  (hl : l.length = n) (hg : Good l) (hR : Rd w AR (l.map uv)) (o i z : Nat) (ho : B64 o) (hi : i < n) (hz : z < n)
include hG hS hl hg hR ho hi hz
set_option maxRecDepth 100000 in
set_option maxHeartbeats 4000000 in
theorem rReason_any (c : Nat) (hc1 : 1 ≤ c) (hc5 : c ≤ 5) : Calls Tryd.prog 31 #[gv A1 n c1 A2 k c2 p m, sx A3 n c3 d, .slice AR n cR, .int .u64 (o : Int), .int .i64 (i : Int), .int .i64 (c : Int), .int .i64 (z : Int)] w
    fun e w' => e = .returned (.bool (rsn l T p d o i c z)) ∧ Below w.heap.size w w' := by
  have hn : n ≤ 64 := by have := hg.1; omega
  have HP := Lib.hid (fun W => in_nat p hG.p64 i W)
  have HD := Lib.hid (fun W => in_nat d hS.d64 z W)
  have HO := Lib.hid (fun W => in_nat o ho z W)
  have HRO := Lib.hid (fun W => in_nat (rowAt l i) (hg.b64 i) z W)
  have HS := Lib.hid hS
  have HR := Lib.hid hR
  have HL := Lib.hid hl
  unfold gv sx
  obtain ⟨x0, y0, z0⟩ := box_six w (.slice A1 n c1) (.slice A2 k c2) (.int .u64 (p : Int)) (.int .u64 (m : Int)) (.slice A3 n c3) (.int .u64 (d : Int)) 26 29
  have B2 := Lib.hid z0
  obtain ⟨x1, x2, x3, x4⟩ := x0
  obtain ⟨y1, y2⟩ := y0
  clear hG hS hl hg hR ho z0
  rcases (by omega : c = 1 ∨ c = 2 ∨ c = 3 ∨ c = 4 ∨ c = 5) with rfl | rfl | rfl | rfl | rfl
  · have HE : Hid (rsn l T p d o i 1 z = (decide (z = 0) && decide (tmI T i < 0))) := Lib.hid rfl
    clear hc1 hc5
    go_enter Tryd.func31, Tryd.ntmps31
    go_upto_region 1 with fail
    generalize (w.alloc (.cells #[.slice A1 n c1, .slice A2 k c2, .int .u64 (p : Int), .int .u64 (m : Int)] 26)).alloc (.cells #[.slice A3 n c3, .int .u64 (d : Int)] 29) = w2 at *
    generalize w.heap.size + 1 = BS at *
    obtain ⟨b, off, rfl, yt⟩ := (HS.out.below B2.out).tcell hi
    have hii : (i : Int) < (n : Int) := by omega
    generalize tmI T i = t at *
    rcases Nat.eq_zero_or_pos z with h0 | h0
    · subst h0
      go_wp2_with fail
      go_ret
      exact ⟨ret_bool (by rw [HE.out]; simp), B2.out⟩
    · have hzz : ((z : Int) == 0) = false := by simp; omega
      have HE2 : Hid (rsn l T p d o i 1 z = false) := Lib.hid (by rw [HE.out, decide_eq_false (by omega)]; rfl)
      go_wp2_with fail
      go_ret
      exact ⟨ret_bool HE2.out.symm, B2.out⟩
  · have HE : Hid (rsn l T p d o i 2 z = (decide (z = 0) && p.testBit i)) := Lib.hid rfl
    clear hc1 hc5
    go_enter Tryd.func31, Tryd.ntmps31
    go_upto_region 1 with fail
    generalize (w.alloc (.cells #[.slice A1 n c1, .slice A2 k c2, .int .u64 (p : Int), .int .u64 (m : Int)] 26)).alloc (.cells #[.slice A3 n c3, .int .u64 (d : Int)] 29) = w2 at *
    generalize w.heap.size + 1 = BS at *
    rcases Nat.eq_zero_or_pos z with h0 | h0
    · subst h0
      go_wp2_with fail
      refine (HP.out _).mono ?_
      rintro e w' ⟨rfl, rfl⟩
      go_wp2_with fail
      go_ret
      exact ⟨ret_bool (by rw [HE.out]; simp), B2.out⟩
    · have hzz : ((z : Int) == 0) = false := by simp; omega
      have HE2 : Hid (rsn l T p d o i 2 z = false) := Lib.hid (by rw [HE.out, decide_eq_false (by omega)]; rfl)
      go_wp2_with fail
      go_ret
      exact ⟨ret_bool HE2.out.symm, B2.out⟩
  · have HE : Hid (rsn l T p d o i 3 z = ((rowAt l i).testBit z && d.testBit z)) := Lib.hid rfl
    clear hc1 hc5
    go_enter Tryd.func31, Tryd.ntmps31
    go_upto_region 1 with fail
    generalize (w.alloc (.cells #[.slice A1 n c1, .slice A2 k c2, .int .u64 (p : Int), .int .u64 (m : Int)] 26)).alloc (.cells #[.slice A3 n c3, .int .u64 (d : Int)] 29) = w2 at *
    generalize w.heap.size + 1 = BS at *
    obtain ⟨bR, oR, rfl, xR⟩ := (HR.out.below B2.out).set (k := i) (by rw [HL.out]; exact hi)
    have hii : (i : Int) < (n : Int) := by omega
    generalize rowAt l i = R at *
    generalize R.testBit z = br at *
    generalize d.testBit z = bd at *
    cases br with
    | true =>
      go_wp2_with fail
      refine (HRO.out _).mono ?_
      rintro e w' ⟨rfl, rfl⟩
      go_wp2_with fail
      refine (HD.out _).mono ?_
      rintro e w' ⟨rfl, rfl⟩
      go_wp2_with fail
      go_ret
      exact ⟨ret_bool (by rw [HE.out]; simp), B2.out⟩
    | false =>
      go_wp2_with fail
      refine (HRO.out _).mono ?_
      rintro e w' ⟨rfl, rfl⟩
      go_wp2_with fail
      go_ret
      exact ⟨ret_bool (by rw [HE.out]; simp), B2.out⟩
  · have HE : Hid (rsn l T p d o i 4 z = ((rowAt l i).testBit z && decide (tmI T i < tmI T z))) := Lib.hid rfl
    clear hc1 hc5
    go_enter Tryd.func31, Tryd.ntmps31
    go_upto_region 1 with fail
    generalize (w.alloc (.cells #[.slice A1 n c1, .slice A2 k c2, .int .u64 (p : Int), .int .u64 (m : Int)] 26)).alloc (.cells #[.slice A3 n c3, .int .u64 (d : Int)] 29) = w2 at *
    generalize w.heap.size + 1 = BS at *
    obtain ⟨bR, oR, rfl, xR⟩ := (HR.out.below B2.out).set (k := i) (by rw [HL.out]; exact hi)
    obtain ⟨b, off, rfl, yt⟩ := (HS.out.below B2.out).tcell hi
    obtain ⟨b', off', hA, yz⟩ := (HS.out.below B2.out).tcell hz
    injection hA with hA
    injection hA with hA1 hA2 _
    subst hA1 hA2
    have hii : (i : Int) < (n : Int) := by omega
    have hzi : (z : Int) < (n : Int) := by omega
    have hii0 : (0 : Int) ≤ (i : Int) := by omega
    have hzi0 : (0 : Int) ≤ (z : Int) := by omega
    generalize tmI T i = t at *
    generalize tmI T z = s at *
    generalize rowAt l i = R at *
    have HBD := Lib.hid (fun qq => below_drewN B2.out qq)
    generalize hbr : R.testBit z = br at *
    clear hbr
    cases br with
    | true =>
      go_wp2_with fail
      go_quiet ((go_at_call 11; exact quiet_left (HRO.out _)))
      go_wp2_with fail
      go_ret
      exact ⟨ret_bool (by rw [HE.out]; simp), HBD.out _⟩
    | false =>
      go_wp2_with fail
      go_quiet ((go_at_call 11; exact quiet_left (HRO.out _)))
      go_wp2_with fail
      go_ret
      exact ⟨ret_bool (by rw [HE.out]; simp), HBD.out _⟩
  · have HE : Hid (rsn l T p d o i 5 z = ((rowAt l i).testBit z && o.testBit z)) := Lib.hid rfl
    clear hc1 hc5
    go_enter Tryd.func31, Tryd.ntmps31
    go_upto_region 1 with fail
    generalize (w.alloc (.cells #[.slice A1 n c1, .slice A2 k c2, .int .u64 (p : Int), .int .u64 (m : Int)] 26)).alloc (.cells #[.slice A3 n c3, .int .u64 (d : Int)] 29) = w2 at *
    generalize w.heap.size + 1 = BS at *
    obtain ⟨bR, oR, rfl, xR⟩ := (HR.out.below B2.out).set (k := i) (by rw [HL.out]; exact hi)
    have hii : (i : Int) < (n : Int) := by omega
    generalize rowAt l i = R at *
    generalize R.testBit z = br at *
    generalize o.testBit z = bo at *
    cases br with
    | true =>
      go_wp2_with fail
      refine (HRO.out _).mono ?_
      rintro e w' ⟨rfl, rfl⟩
      go_wp2_with fail
      refine (HO.out _).mono ?_
      rintro e w' ⟨rfl, rfl⟩
      go_wp2_with fail
      go_ret
      exact ⟨ret_bool (by rw [HE.out]; simp), B2.out⟩
    | false =>
      go_wp2_with fail
      refine (HRO.out _).mono ?_
      rintro e w' ⟨rfl, rfl⟩
      go_wp2_with fail
      go_ret
      exact ⟨ret_bool (by rw [HE.out]; simp), B2.out⟩
end
end Go.Proofs.YtecbdamimnllnaaDoor
/- Contract: the reference's Anew. The graph good, without a knot. -/
namespace Go.Proofs.YtecbdamimnllnaaDoor
open Go.RowKit

section
variable {A1 A2 A3 : Option Addr} {n k c1 c2 c3 : Nat} {N : List (List UInt8)} {E : List EdgeT} {p m d : Nat} {T : List Int} (w : World) (hG : GrIn A1 n A2 k N E p m w) (hS : SeIn A3 n T d w) (he0 : grErr N E p m = 0) (hr0 : ordR (rowsG n E) = 0)
include hG hS he0 hr0
set_option maxRecDepth 100000 in
set_option maxHeartbeats 8000000 in
theorem rAnew_any : Calls Tryd.prog 12 #[gv A1 n c1 A2 k c2 p m, sx A3 n c3 d] w fun e w' => e = .returned (.int .u64 (staleS (rowsG n E) T p m d : Nat)) ∧ Below w.heap.size w w' := by
  obtain ⟨hn64, _, _, hout, _, _⟩ := gr_ok he0
  rw [hG.nlen] at hn64 hout
  have HGD : Hid (Good (rowsG n E)) := Lib.hid (rowsG_good hn64 hout)
  have HL : Hid ((rowsG n E).length = n) := Lib.hid (rowsG_len n E)
  have HR0 := Lib.hid hr0
  have HG := Lib.hid hG
  have HS := Lib.hid hS
  have HCR := Lib.hid (fun W (hW : Below w.heap.size w W) => rRowsOf_any (c1 := c1) (c2 := c2) W (hG.below hW) he0)
  have HRE := Lib.hid (fun (W : World) (AR : Option Addr) (cR o i z c : Nat) (hW : Below w.heap.size w W) (hR : Rd W AR ((rowsG n E).map uv)) (ho : B64 o) (hi : i < n) (hz : z < n) (h1 : 1 ≤ c) (h5 : c ≤ 5) => rReason_any (c1 := c1) (c2 := c2) (c3 := c3) (cR := cR) (rowsG n E) W (hG.below hW) (hS.below hW) (rowsG_len n E) (rowsG_good hn64 hout) hR o i z ho hi hz c h1 h5)
  unfold gv sx at *
  obtain ⟨x0, y0, z0⟩ := box_six w (.slice A1 n c1) (.slice A2 k c2) (.int .u64 (p : Int)) (.int .u64 (m : Int)) (.slice A3 n c3) (.int .u64 (d : Int)) 26 29
  have X2 := Lib.hid x0
  have Y2 := Lib.hid y0
  have B2 := Lib.hid z0
  clear hG hS x0 y0 z0 he0 hr0 hout
  generalize hl : rowsG n E = l at *
  have HLE := Lib.hid hl
  clear hl
  go_enter Tryd.func12, Tryd.ntmps12
  go_upto_region 1 with fail
  generalize (w.alloc (.cells #[.slice A1 n c1, .slice A2 k c2, .int .u64 (p : Int), .int .u64 (m : Int)] 26)).alloc (.cells #[.slice A3 n c3, .int .u64 (d : Int)] 29) = w2 at *
  generalize w.heap.size + 1 = BS at *
  obtain ⟨x1, x2, x3, x4⟩ := X2.out
  go_wp2_with fail
  refine (HCR.out _ B2.out).mono ?_
  rintro e w3 ⟨AR, cR, rfl, hown3, hb3⟩
  rw [HLE.out] at hown3
  have HR3 := Lib.hid (Rd.of_own hown3)
  have B3 := Lib.hid (below_then B2.out hb3)
  have X3 := Lib.hid (X2.out.below hb3)
  have Y3 := Lib.hid (Y2.out.below hb3)
  clear hown3 hb3 x1 x2 x3 x4 X2 Y2 HCR
  go_wp2_with fail
  go_loopw [6, 7, 8, 9, 10, 16, 42] (fun o b _ _ _ _ _ wr => ∃ (q : Nat) (v : Bool), o = .int .u64 (q : Nat) ∧ b = .bool v ∧ Hid (SubS q (staleS l T p m d)) ∧ Hid (v = false → q = staleS l T p m d) ∧ Hid (Below w3.heap.size w3 wr)) (fun o b _ _ _ _ _ _ => anMeas o b)
  case atStart => exact ⟨0, true, rfl, rfl, Lib.hid (fun j hj => by simp at hj), Lib.hid (fun h => by cases h), Lib.hid (Below.refl _ _)⟩
  case round =>
    obtain ⟨o0, v, rfl, rfl, hsub, hend, hbw⟩ := hrel
    cases v with
    | false =>
      have HE : Hid (o0 = staleS l T p m d) := Lib.hid (hend.out rfl)
      have B4 := Lib.hid (below_then B3.out hbw.out)
      clear hend hsub hbw
      go_wp2_with fail
      go_ret
      exact ⟨by rw [HE.out] <;> rfl, B4.out⟩
    | true =>
      have HA0 := Lib.hid (an_start (n := n) hsub.out)
      have HBW0 := hbw
      clear hend hsub hbw
      go_wp2_with fail
      go_loopw [6, 7, 8, 9, 10, 16, 42] (fun o b _ _ _ i _ wr => ∃ (q x : Nat) (v : Bool), q ≤ n ∧ i = .int .i64 (q : Int) ∧ o = .int .u64 (x : Nat) ∧ b = .bool v ∧ Hid (AnI l T p m d n o0 x v q 1 0) ∧ Hid (Below w3.heap.size w3 wr)) (fun _ _ _ _ _ i _ _ => n - (intOf i).toNat)
      case atStart => exact ⟨0, o0, false, by omega, rfl, rfl, rfl, HA0, HBW0⟩
      case round =>
        clear HA0 HBW0
        obtain ⟨q, x, v, hq, rfl, rfl, rfl, hA, hbw⟩ := hrel
        by_cases hlt : q < n
        · have hqi : (q : Int) < (n : Int) := by omega
          have HXB : Hid (B64 x) := Lib.hid (B64.of_bits fun j hj => (stale_b64 (A := T) (p := p) (m := m) (d := d) HGD.out HR0.out).bit (hA.out.1 j hj))
          obtain ⟨x1, x2, x3, x4⟩ := X3.out.below hbw.out
          have HIO := Lib.hid (fun W => in_nat x HXB.out q W)
          have HIM := Lib.hid (fun W => in_nat m HG.out.m64 q W)
          have HIP := Lib.hid (fun W => in_nat p HG.out.p64 q W)
          have HMP : Hid ((m ||| p).testBit q = (m.testBit q || p.testBit q)) := Lib.hid (Nat.testBit_or ..)
          generalize hbx : x.testBit q = bx at *
          generalize m.testBit q = bm at *
          generalize p.testBit q = bp at *
          have HBX := Lib.hid hbx
          clear hbx
          have HBW := hbw
          clear hbw
          cases bx with
          | true =>
            have HN := Lib.hid (an_skip hA.out (.inr HBX.out))
            go_wp2_with fail
            refine (HIO.out _).mono ?_
            rintro e w' ⟨rfl, rfl⟩
            have HBW2 := HBW
            clear hA HBW x1 x2 x3 x4
            go_wp2_with fail
            go_roundw
            case rel => exact ⟨q + 1, x, v, by omega, by go_num, rfl, rfl, HN, HBW2⟩
            case measure => simp [intOf]; omega
          | false =>
            cases bm with
            | true =>
              go_wp2_with fail
              refine (HIO.out _).mono ?_
              rintro e w' ⟨rfl, rfl⟩
              go_wp2_with fail
              refine (HIM.out _).mono ?_
              rintro e w' ⟨rfl, rfl⟩
              have HM : Hid ((m ||| p).testBit q = true) := Lib.hid (by rw [HMP.out]; rfl)
              clear HMP HIO HIM HIP HBX x1 x2 x3 x4 HXB
              go_wp2_with fail
              go_loopw [6, 7, 9, 10, 42] (fun o b cc _ _ wr => ∃ (c x : Nat) (v : Bool), 1 ≤ c ∧ c ≤ 6 ∧ cc = .int .i64 (c : Int) ∧ o = .int .u64 (x : Nat) ∧ b = .bool v ∧ Hid (AnI l T p m d n o0 x v q c 0) ∧ Hid (Below w3.heap.size w3 wr)) (fun _ _ cc _ _ _ => 6 - (intOf cc).toNat)
              case atStart => exact ⟨1, x, v, by omega, by omega, rfl, rfl, rfl, hA, HBW⟩
              case round =>
                clear hA HBW
                obtain ⟨c, x, v, hc1, hc6, rfl, rfl, rfl, hA, hbw⟩ := hrel
                by_cases hc : c ≤ 5
                · have hci : (c : Int) ≤ 5 := by omega
                  have HBW := hbw
                  clear hbw
                  go_wp2_with fail
                  go_loopw [6, 7, 10, 42] (fun o b _ kk wr => ∃ (z x : Nat) (v : Bool), z ≤ n ∧ kk = .int .i64 (z : Int) ∧ o = .int .u64 (x : Nat) ∧ b = .bool v ∧ Hid (AnI l T p m d n o0 x v q c z) ∧ Hid (Below w3.heap.size w3 wr)) (fun _ _ _ kk _ => n - (intOf kk).toNat)
                  case atStart => exact ⟨0, x, v, by omega, rfl, rfl, rfl, hA, HBW⟩
                  case round =>
                    clear hA HBW
                    obtain ⟨z, x, v, hz, rfl, rfl, rfl, hA, hbw⟩ := hrel
                    by_cases hzl : z < n
                    · have hzi : (z : Int) < (n : Int) := by omega
                      have HXB : Hid (B64 x) := Lib.hid (B64.of_bits fun j hj => (stale_b64 (A := T) (p := p) (m := m) (d := d) HGD.out HR0.out).bit (hA.out.1 j hj))
                      obtain ⟨x1, x2, x3, x4⟩ := X3.out.below hbw.out
                      obtain ⟨y1, y2⟩ := Y3.out.below hbw.out
                      have B4 := Lib.hid (below_then B3.out hbw.out)
                      have HRW := Lib.hid (HR3.out.below hbw.out)
                      have HBW := hbw
                      clear hbw
                      go_wp2_with fail
                      refine (HRE.out _ AR cR x q z c B4.out HRW.out HXB.out hlt hzl hc1 hc).mono ?_
                      rintro e w5 ⟨rfl, hb5⟩
                      have HB5 := Lib.hid (below_then HBW.out hb5)
                      clear hb5 x1 x2 x3 x4 y1 y2 B4 HRW HBW
                      cases hr : rsn l T p d x q c z with
                      | false =>
                        have HN := Lib.hid (an_k hA.out (.inr hr))
                        clear hr
                        go_wp2_with fail
                        go_roundw
                        case rel => exact ⟨z + 1, x, v, by omega, by go_num, rfl, rfl, HN, HB5⟩
                        case measure => simp [intOf]; omega
                      | true =>
                        have HRS := Lib.hid hr
                        clear hr
                        go_wp2_with fail
                        refine (in_nat x HXB.out q _).mono ?_
                        rintro e w' ⟨rfl, rfl⟩
                        cases hb : x.testBit q with
                        | true =>
                          have HN := Lib.hid (an_k hA.out (.inl hb))
                          clear hb
                          go_wp2_with fail
                          go_roundw
                          case rel => exact ⟨z + 1, x, v, by omega, by go_num, rfl, rfl, HN, HB5⟩
                          case measure => simp [intOf]; omega
                        | false =>
                          have HN := Lib.hid (an_add HGD.out HR0.out hA.out (by rw [HL.out]; exact hlt) HM.out HRS.out hb)
                          have hsr := sum_raw x q HXB.out (by omega) hb
                          clear hb
                          go_wp2_with fail
                          go_roundw
                          case rel => exact ⟨z + 1, addN x q, true, by omega, by go_num, rfl, rfl, HN, HB5⟩
                          case measure => simp [intOf]; omega
                    · obtain rfl : z = n := by omega
                      have HN := Lib.hid (an_c hA.out)
                      have hzi : ¬ (z : Int) < (z : Int) := by omega
                      have HBW := hbw
                      clear hA hbw
                      go_wp2_with fail
                      go_roundw
                      case rel => exact ⟨c + 1, x, v, by omega, by omega, by go_num, rfl, rfl, HN, HBW⟩
                      case measure => simp [intOf]; omega
                · obtain rfl : c = 6 := by omega
                  have HN := Lib.hid (an_i hA.out)
                  have HBW := hbw
                  clear hA hbw
                  go_wp2_with fail
                  go_roundw
                  case rel => exact ⟨q + 1, x, v, by omega, by go_num, rfl, rfl, HN, HBW⟩
                  case measure => simp [intOf]; omega
            | false =>
              cases bp with
              | true =>
                go_wp2_with fail
                refine (HIO.out _).mono ?_
                rintro e w' ⟨rfl, rfl⟩
                go_wp2_with fail
                refine (HIM.out _).mono ?_
                rintro e w' ⟨rfl, rfl⟩
                go_wp2_with fail
                refine (HIP.out _).mono ?_
                rintro e w' ⟨rfl, rfl⟩
                have HM : Hid ((m ||| p).testBit q = true) := Lib.hid (by rw [HMP.out]; rfl)
                clear HMP HIO HIM HIP HBX x1 x2 x3 x4 HXB
                go_wp2_with fail
                go_loopw [6, 7, 9, 10, 42] (fun o b cc _ _ wr => ∃ (c x : Nat) (v : Bool), 1 ≤ c ∧ c ≤ 6 ∧ cc = .int .i64 (c : Int) ∧ o = .int .u64 (x : Nat) ∧ b = .bool v ∧ Hid (AnI l T p m d n o0 x v q c 0) ∧ Hid (Below w3.heap.size w3 wr)) (fun _ _ cc _ _ _ => 6 - (intOf cc).toNat)
                case atStart => exact ⟨1, x, v, by omega, by omega, rfl, rfl, rfl, hA, HBW⟩
                case round =>
                  clear hA HBW
                  obtain ⟨c, x, v, hc1, hc6, rfl, rfl, rfl, hA, hbw⟩ := hrel
                  by_cases hc : c ≤ 5
                  · have hci : (c : Int) ≤ 5 := by omega
                    have HBW := hbw
                    clear hbw
                    go_wp2_with fail
                    go_loopw [6, 7, 10, 42] (fun o b _ kk wr => ∃ (z x : Nat) (v : Bool), z ≤ n ∧ kk = .int .i64 (z : Int) ∧ o = .int .u64 (x : Nat) ∧ b = .bool v ∧ Hid (AnI l T p m d n o0 x v q c z) ∧ Hid (Below w3.heap.size w3 wr)) (fun _ _ _ kk _ => n - (intOf kk).toNat)
                    case atStart => exact ⟨0, x, v, by omega, rfl, rfl, rfl, hA, HBW⟩
                    case round =>
                      clear hA HBW
                      obtain ⟨z, x, v, hz, rfl, rfl, rfl, hA, hbw⟩ := hrel
                      by_cases hzl : z < n
                      · have hzi : (z : Int) < (n : Int) := by omega
                        have HXB : Hid (B64 x) := Lib.hid (B64.of_bits fun j hj => (stale_b64 (A := T) (p := p) (m := m) (d := d) HGD.out HR0.out).bit (hA.out.1 j hj))
                        obtain ⟨x1, x2, x3, x4⟩ := X3.out.below hbw.out
                        obtain ⟨y1, y2⟩ := Y3.out.below hbw.out
                        have B4 := Lib.hid (below_then B3.out hbw.out)
                        have HRW := Lib.hid (HR3.out.below hbw.out)
                        have HBW := hbw
                        clear hbw
                        go_wp2_with fail
                        refine (HRE.out _ AR cR x q z c B4.out HRW.out HXB.out hlt hzl hc1 hc).mono ?_
                        rintro e w5 ⟨rfl, hb5⟩
                        have HB5 := Lib.hid (below_then HBW.out hb5)
                        clear hb5 x1 x2 x3 x4 y1 y2 B4 HRW HBW
                        cases hr : rsn l T p d x q c z with
                        | false =>
                          have HN := Lib.hid (an_k hA.out (.inr hr))
                          clear hr
                          go_wp2_with fail
                          go_roundw
                          case rel => exact ⟨z + 1, x, v, by omega, by go_num, rfl, rfl, HN, HB5⟩
                          case measure => simp [intOf]; omega
                        | true =>
                          have HRS := Lib.hid hr
                          clear hr
                          go_wp2_with fail
                          refine (in_nat x HXB.out q _).mono ?_
                          rintro e w' ⟨rfl, rfl⟩
                          cases hb : x.testBit q with
                          | true =>
                            have HN := Lib.hid (an_k hA.out (.inl hb))
                            clear hb
                            go_wp2_with fail
                            go_roundw
                            case rel => exact ⟨z + 1, x, v, by omega, by go_num, rfl, rfl, HN, HB5⟩
                            case measure => simp [intOf]; omega
                          | false =>
                            have HN := Lib.hid (an_add HGD.out HR0.out hA.out (by rw [HL.out]; exact hlt) HM.out HRS.out hb)
                            have hsr := sum_raw x q HXB.out (by omega) hb
                            clear hb
                            go_wp2_with fail
                            go_roundw
                            case rel => exact ⟨z + 1, addN x q, true, by omega, by go_num, rfl, rfl, HN, HB5⟩
                            case measure => simp [intOf]; omega
                      · obtain rfl : z = n := by omega
                        have HN := Lib.hid (an_c hA.out)
                        have hzi : ¬ (z : Int) < (z : Int) := by omega
                        have HBW := hbw
                        clear hA hbw
                        go_wp2_with fail
                        go_roundw
                        case rel => exact ⟨c + 1, x, v, by omega, by omega, by go_num, rfl, rfl, HN, HBW⟩
                        case measure => simp [intOf]; omega
                  · obtain rfl : c = 6 := by omega
                    have HN := Lib.hid (an_i hA.out)
                    have HBW := hbw
                    clear hA hbw
                    go_wp2_with fail
                    go_roundw
                    case rel => exact ⟨q + 1, x, v, by omega, by go_num, rfl, rfl, HN, HBW⟩
                    case measure => simp [intOf]; omega
              | false =>
                have HN := Lib.hid (an_skip hA.out (.inl (by rw [HMP.out]; rfl)))
                go_wp2_with fail
                refine (HIO.out _).mono ?_
                rintro e w' ⟨rfl, rfl⟩
                go_wp2_with fail
                refine (HIM.out _).mono ?_
                rintro e w' ⟨rfl, rfl⟩
                go_wp2_with fail
                refine (HIP.out _).mono ?_
                rintro e w' ⟨rfl, rfl⟩
                have HBW2 := HBW
                clear hA HBW x1 x2 x3 x4
                go_wp2_with fail
                go_roundw
                case rel => exact ⟨q + 1, x, v, by omega, by go_num, rfl, rfl, HN, HBW2⟩
                case measure => simp [intOf]; omega
        · obtain rfl : q = n := by omega
          have HN := hA
          have HEND : Hid (v = false → x = staleS l T p m d) := Lib.hid (fun hv => by subst hv; exact an_end HGD.out HR0.out HL.out hA.out)
          have hqn : ¬ (q : Int) < (q : Int) := by omega
          have HBW := hbw
          clear hA hbw
          go_wp2_with fail
          go_roundw
          case rel => exact ⟨x, v, rfl, rfl, Lib.hid HN.out.1, HEND, HBW⟩
          case measure => exact anMeas_lt HN.out
end
end Go.Proofs.YtecbdamimnllnaaDoor
