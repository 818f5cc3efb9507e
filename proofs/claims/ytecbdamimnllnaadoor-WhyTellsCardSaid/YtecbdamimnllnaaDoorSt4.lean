/- Contract: the reference's SeenFault. The graph as for graph.Check. -/
import Derived.Test.YtecbdamimnllnaaDoorSt1
import Derived.Test.YtecbdamimnllnaaDoorGr4
import Derived.Test.YtecbdamimnllnaaDoorGr5
namespace Go.Proofs.YtecbdamimnllnaaDoor
open Go.RowKit

section
variable {A1 A2 A3 : Option Addr} {n k j c1 c2 c3 : Nat} {N : List (List UInt8)} {E : List EdgeT} {p m d : Nat} {T : List Int} (w : World) (hG : GrIn A1 n A2 k N E p m w) (hS : SeIn A3 j T d w) (hT : Tab w)
include hG hS
set_option maxRecDepth 100000 in
set_option maxHeartbeats 4000000 in
theorem rSeenFault_any : Calls Tryd.prog 8 #[gv A1 n c1 A2 k c2 p m, sx A3 j c3 d] w fun e w' => e = .returned (.int .i64 (seErr N E p m T d)) ∧ Below w.heap.size w w' := by
  have HCF := Lib.hid (fun W (hW : Below w.heap.size w W) => rGraphFault_any (c1 := c1) (c2 := c2) W (hG.below hW))
  have HCR := Lib.hid (fun W (hW : Below w.heap.size w W) => rRowsOf_any (c1 := c1) (c2 := c2) W (hG.below hW))
  have HG := Lib.hid hG
  have HS := Lib.hid hS
  have HN := Lib.hid hG.nlen
  have HJ := Lib.hid hS.tlen
  have hjb := hS.tb
  unfold gv at *
  unfold sx
  obtain ⟨x0, y0, z0⟩ := box_six w (.slice A1 n c1) (.slice A2 k c2) (.int .u64 (p : Int)) (.int .u64 (m : Int)) (.slice A3 j c3) (.int .u64 (d : Int)) 26 29
  have X2 := Lib.hid x0
  have Y2 := Lib.hid y0
  have B2 := Lib.hid z0
  clear hG hS x0 y0 z0
  go_enter Tryd.func8, Tryd.ntmps8
  go_upto_region 1 with fail
  generalize (w.alloc (.cells #[.slice A1 n c1, .slice A2 k c2, .int .u64 (p : Int), .int .u64 (m : Int)] 26)).alloc (.cells #[.slice A3 j c3, .int .u64 (d : Int)] 29) = w2 at *
  generalize w.heap.size + 1 = BS at *
  obtain ⟨x1, x2, x3, x4⟩ := X2.out
  obtain ⟨y1, y2⟩ := Y2.out
  go_wp2_with fail
  refine (HCF.out _ B2.out).mono ?_
  rintro e w3 ⟨rfl, hb3⟩
  have B3 := Lib.hid (below_then B2.out hb3)
  have X3 := Lib.hid (X2.out.below hb3)
  have Y3 := Lib.hid (Y2.out.below hb3)
  clear hb3 x1 x2 x3 x4 y1 y2 X2 Y2 HCF
  obtain ⟨x1, x2, x3, x4⟩ := X3.out
  obtain ⟨y1, y2⟩ := Y3.out
  by_cases he : grErr N E p m = 0
  · have HE0 := Lib.hid he
    rw [he]
    clear he
    by_cases hjn : j = n
    · subst hjn
      go_wp2_with fail
      go_loopw [7, 26] (fun _ i wr => ∃ q : Nat, q ≤ j ∧ i = .int .i64 (q : Int) ∧ Hid (∀ (r : Nat) (t : Int), r < q → T[r]? = some t → tOut t = false) ∧ w3 = wr) (fun _ i _ => j - (intOf i).toNat)
      case atStart => exact ⟨0, by omega, rfl, Lib.hid (fun r t h => absurd h (by omega)), rfl⟩
      case round =>
        obtain ⟨q, hq, rfl, hall, rfl⟩ := hrel
        by_cases hlt : q < j
        · have hq2 : (q : Int) < (j : Int) := by omega
          obtain ⟨b, off, rfl, yt⟩ := (HS.out.below B3.out).tcell hlt
          have hTq : T[q]? = some (tmI T q) := by unfold tmI; rw [List.getElem?_eq_getElem (by rw [HJ.out]; exact hlt)]; rfl
          have HTQ := Lib.hid hTq
          clear hTq
          generalize tmI T q = t at *
          rcases tOut_ways t with ⟨ho, g1⟩ | ⟨ho, g1, g2⟩ | ⟨ho, g1, g2⟩
          case inr.inr =>
            have HA : Hid (∀ (r : Nat) (t : Int), r < q + 1 → T[r]? = some t → tOut t = false) := Lib.hid (fun r u hr hu => by
              rcases Nat.lt_or_ge r q with h | h
              · exact hall.out r u h hu
              · obtain rfl : r = q := by omega
                rw [HTQ.out] at hu
                injection hu with hu
                rw [← hu]; exact ho)
            clear ho hall
            go_wp2_with fail
            go_roundw
            case rel => exact ⟨q + 1, by omega, by go_num, HA, by first | rfl | trivial⟩
            case measure => simp [intOf]; omega
          all_goals
            have HE : Hid (seErr N E p m T d = 4) := Lib.hid (seErr_4 HN.out HJ.out HE0.out rfl (tOut_any HTQ.out ho))
            clear ho hall
            go_wp2_with fail
            go_ret
            exact ⟨ret_int HE.out.symm, B3.out⟩
        · have HA := Lib.hid (tOut_none hall.out (by rw [HJ.out]; omega))
          have HA0 := HA
          have hqj : ¬ (q : Int) < (j : Int) := by omega
          have hn64 : j ≤ 64 := by have := (gr_ok HE0.out).1; rw [HN.out] at this; exact this
          clear hall hlt hq
          go_wp2_with fail
          refine (HCR.out _ B3.out HE0.out).mono ?_
          rintro e w4 ⟨AR, cR, rfl, hown4, hb4⟩
          have HR4 := Lib.hid (Rd.of_own hown4)
          have B4 := Lib.hid (below_then B3.out hb4)
          have X4 := Lib.hid (X3.out.below hb4)
          have Y4 := Lib.hid (Y3.out.below hb4)
          have HGD : Hid (Good (rowsG j E)) := Lib.hid (rowsG_good hn64 (by have := (gr_ok HE0.out).2.2.2.1; rw [HN.out] at this; exact this))
          have HF0 : Hid (faultOf (rowsG j E) [] = 0) := Lib.hid (good_fault HGD.out)
          have HRL : Hid ((rowsG j E).length = j) := Lib.hid (rowsG_len j E)
          clear hown4 hb4 x1 x2 x3 x4 y1 y2 X3 Y3 HCR
          obtain ⟨x1, x2, x3, x4⟩ := X4.out
          obtain ⟨y1, y2⟩ := Y4.out
          go_wp2_with fail
          have HLIT : Hid (Rd (w4.alloc (.cells #[.int .u64 (d : Int)] 24)) (some ⟨w4.heap.size, 0, none⟩) ([d].map uv)) := Lib.hid (rd_lit w4 _ #[.int .u64 (d : Int)] _ ([d].map uv) rfl rfl)
          refine (rRowsFault_any (m := 1) (rowsG j E) [d] _ (HR4.out.alloc _) HRL.out (by omega) HGD.out.b64 HLIT.out rfl (by omega) (rowAt_all (fun s hs => by rw [List.mem_singleton] at hs; rw [hs]; exact HS.out.d64))).mono ?_
          rintro e w5 ⟨rfl, hb5⟩
          have B5 := Lib.hid (below_then (below_new B4.out _) hb5)
          have X5 := Lib.hid ((X4.out.below (below_new (Below.refl _ _) _)).below hb5)
          have Y5 := Lib.hid ((Y4.out.below (below_new (Below.refl _ _) _)).below hb5)
          have HR5 := Lib.hid ((HR4.out.alloc _).below hb5)
          have HFD : Hid (faultOf (rowsG j E) [d] = okErr (inU j d)) := Lib.hid (by rw [(faultOf_zero HF0.out).1, HRL.out]; simp)
          clear hb5 x1 x2 x3 x4 y1 y2 X4 Y4 HLIT HR4
          obtain ⟨x1, x2, x3, x4⟩ := X5.out
          obtain ⟨y1, y2⟩ := Y5.out
          rw [HFD.out]
          by_cases h3 : minus d (upTo j) = 0
          · have H3 := Lib.hid h3
            rw [show okErr (inU j d) = 0 by unfold inU; rw [decide_eq_true h3]; rfl]
            clear h3
            go_wp2_with fail
            refine (rOrdered_any (rowsG j E) _ HR5.out HRL.out HGD.out).mono ?_
            rintro e w6 ⟨AO, cO, rfl, hown6, hb6⟩
            have B6 := Lib.hid (below_then B5.out hb6)
            have X6 := Lib.hid (X5.out.below hb6)
            have Y6 := Lib.hid (Y5.out.below hb6)
            have HFL := Lib.hid (ord_full HGD.out)
            have hle := ord_len HGD.out
            rw [HRL.out] at hle
            clear hown6 hb6 x1 x2 x3 x4 y1 y2 X5 Y5 HR5
            obtain ⟨x1, x2, x3, x4⟩ := X6.out
            obtain ⟨y1, y2⟩ := Y6.out
            by_cases h4 : ordR (rowsG j E) = 0
            · have H4 := Lib.hid h4
              have hlen : ¬ ((ordL (rowsG j E)).length : Int) < (j : Int) := by have := HFL.out.2 h4; rw [HRL.out] at this; omega
              generalize (ordL (rowsG j E)).length = LO at *
              have hlenD : decide (LO < j) = false := decide_eq_false (by omega)
              have hlenI : decide ((LO : Int) < (j : Int)) = false := decide_eq_false hlen
              clear h4
              go_wp2_with fail
              go_loopw [9, 10, 54] (fun _ _ i wr => ∃ q : Nat, q ≤ j ∧ i = .int .i64 (q : Int) ∧ Hid (∀ r, r < q → lone T (m ||| p) r = false) ∧ w6 = wr) (fun _ _ i _ => j - (intOf i).toNat)
              case atStart => exact ⟨0, by omega, rfl, Lib.hid (fun r h => absurd h (by omega)), rfl⟩
              case round =>
                clear hqj hlen hlenD hlenI
                obtain ⟨q, hq, rfl, hall, rfl⟩ := hrel
                by_cases hlt : q < j
                · have hq2 : (q : Int) < (j : Int) := by omega
                  obtain ⟨b, off, rfl, yt⟩ := (HS.out.below B6.out).tcell hlt
                  have HLO : Hid (lone T (m ||| p) q = (decide (tmI T q < 0) && !(m.testBit q || p.testBit q))) := Lib.hid (by unfold lone; rw [Nat.testBit_or])
                  have HMM := Lib.hid (fun W => in_nat m HG.out.m64 q W)
                  have HPP := Lib.hid (fun W => in_nat p HG.out.p64 q W)
                  generalize tmI T q = t at *
                  generalize m.testBit q = bm at *
                  generalize p.testBit q = bp at *
                  by_cases ht : t < 0
                  · have g1 : decide (t < 0) = true := decide_eq_true ht
                    rw [g1] at HLO
                    cases bm with
                    | true =>
                      have HA : Hid (∀ r, r < q + 1 → lone T (m ||| p) r = false) := Lib.hid (fun r hr => by
                        rcases Nat.lt_or_ge r q with h | h
                        · exact hall.out r h
                        · obtain rfl : r = q := by omega
                          rw [HLO.out]; rfl)
                      clear hall HLO ht
                      go_wp2_with fail
                      refine (HMM.out _).mono ?_
                      rintro e w' ⟨rfl, rfl⟩
                      go_wp2_with fail
                      go_roundw
                      case rel => exact ⟨q + 1, by omega, by go_num, HA, by first | rfl | trivial⟩
                      case measure => simp [intOf]; omega
                    | false =>
                      cases bp with
                      | true =>
                        have HA : Hid (∀ r, r < q + 1 → lone T (m ||| p) r = false) := Lib.hid (fun r hr => by
                          rcases Nat.lt_or_ge r q with h | h
                          · exact hall.out r h
                          · obtain rfl : r = q := by omega
                            rw [HLO.out]; rfl)
                        clear hall HLO ht
                        go_wp2_with fail
                        refine (HMM.out _).mono ?_
                        rintro e w' ⟨rfl, rfl⟩
                        go_wp2_with fail
                        refine (HPP.out _).mono ?_
                        rintro e w' ⟨rfl, rfl⟩
                        go_wp2_with fail
                        go_roundw
                        case rel => exact ⟨q + 1, by omega, by go_num, HA, by first | rfl | trivial⟩
                        case measure => simp [intOf]; omega
                      | false =>
                        have HE : Hid (seErr N E p m T d = 5) := Lib.hid (seErr_5 HN.out HJ.out HE0.out rfl HA0.out H3.out H4.out (lone_any hlt (by rw [HLO.out]; rfl)))
                        clear hall HLO ht
                        go_wp2_with fail
                        refine (HMM.out _).mono ?_
                        rintro e w' ⟨rfl, rfl⟩
                        go_wp2_with fail
                        refine (HPP.out _).mono ?_
                        rintro e w' ⟨rfl, rfl⟩
                        go_wp2_with fail
                        go_ret
                        exact ⟨ret_int HE.out.symm, B6.out⟩
                  · have HA : Hid (∀ r, r < q + 1 → lone T (m ||| p) r = false) := Lib.hid (fun r hr => by
                      rcases Nat.lt_or_ge r q with h | h
                      · exact hall.out r h
                      · obtain rfl : r = q := by omega
                        rw [HLO.out, decide_eq_false ht]; rfl)
                    have g1 : decide (t < 0) = false := decide_eq_false ht
                    clear hall HLO ht
                    go_wp2_with fail
                    go_roundw
                    case rel => exact ⟨q + 1, by omega, by go_num, HA, by first | rfl | trivial⟩
                    case measure => simp [intOf]; omega
                · have HA : Hid ((List.range j).any (lone T (m ||| p)) = false) := Lib.hid (lone_none hall.out (by omega))
                  have HE : Hid (seErr N E p m T d = 0) := Lib.hid (seErr_0 HN.out HJ.out HE0.out rfl HA0.out H3.out H4.out HA.out)
                  have hqj : ¬ (q : Int) < (j : Int) := by omega
                  clear hall
                  go_wp2_with fail
                  go_ret
                  exact ⟨ret_int HE.out.symm, B6.out⟩
            · have HE : Hid (seErr N E p m T d = 8) := Lib.hid (seErr_8 HN.out HJ.out HE0.out rfl HA.out H3.out h4)
              have hlen : ((ordL (rowsG j E)).length : Int) < (j : Int) := by
                have h5 : (ordL (rowsG j E)).length ≠ j := fun h => h4 (HFL.out.1 (by rw [HRL.out]; exact h))
                omega
              generalize (ordL (rowsG j E)).length = LO at *
              clear h4
              go_wp2_with fail
              go_ret
              exact ⟨ret_int HE.out.symm, B6.out⟩
          · have HE : Hid (seErr N E p m T d = 4) := Lib.hid (seErr_4b HN.out HJ.out HE0.out rfl HA.out h3)
            rw [show okErr (inU j d) = 4 by unfold inU; rw [decide_eq_false h3]; rfl]
            clear h3
            go_wp2_with fail
            go_ret
            exact ⟨ret_int HE.out.symm, B5.out⟩
    · have HE : Hid (seErr N E p m T d = 1) := Lib.hid (seErr_1 HN.out HJ.out HE0.out hjn)
      have hji : ¬ (j : Int) = (n : Int) := by omega
      go_wp2_with fail
      go_ret
      exact ⟨ret_int HE.out.symm, B3.out⟩
  · have HE : Hid (seErr N E p m T d = grErr N E p m) := Lib.hid (seErr_gr he)
    have hne : (grErr N E p m != 0) = true := by simp [he]
    clear x1 x2 x3 x4 y1 y2 he
    go_wp2_with fail
    go_ret
    exact ⟨ret_int HE.out.symm, B3.out⟩
end
end Go.Proofs.YtecbdamimnllnaaDoor
