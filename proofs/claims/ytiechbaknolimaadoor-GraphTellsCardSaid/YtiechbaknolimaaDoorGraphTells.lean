/- The law GraphTells: its walk. Conditions: sets below 2^64, lengths below 2^63; the table of math/bits lies. -/
import Derived.Test.YtiechbaknolimaaDoorGraphR
import Derived.Test.YtiechbaknolimaaDoorEqU64
import Derived.Deep.RegionHeld3
namespace Go.Proofs.YtiechbaknolimaaDoor
open Go.RowKit

theorem box_one (w : World) (x1 x2 x3 x4 : Value) (t : TypeId) : GrBox w.heap.size x1 x2 x3 x4 (w.alloc (.cells #[x1, x2, x3, x4] t)) ∧ Below w.heap.size w (w.alloc (.cells #[x1, x2, x3, x4] t)) := by
  obtain ⟨h1, h2, h3, h4, h5⟩ := box_four w x1 x2 x3 x4 t
  exact ⟨⟨h1, h2, h3, h4⟩, h5⟩
section
variable {A1 A2 : Option Addr} {n k c1 c2 : Nat} {N : List (List UInt8)} {E : List EdgeT} {p m : Nat} (w : World) (hG : GrIn A1 n A2 k N E p m w) (s : Nat) (hs : B64 s) (x : List UInt8) (hT : Tab w)
include hG hs hT
omit hT in
set_option maxRecDepth 100000 in
set_option maxHeartbeats 4000000 in
theorem graphTells_bad (he : grErr N E p m ≠ 0) : Calls Tryd.prog 3 #[gv A1 n c1 A2 k c2 p m, .int .u64 (s : Int), sv x] w fun e w' => e = .returned (.bool true) ∧ Below w.heap.size w w' := by
  have hp : partErr n s (grErr N E p m) = grErr N E p m := by unfold partErr; rw [if_neg he]
  have C1 := Lib.hid (fun W (hW : Below w.heap.size w W) => gRows_bad (c1 := c1) (c2 := c2) W (hG.below hW) he)
  have C2 := Lib.hid (fun W (hW : Below w.heap.size w W) => gTurn_bad (c1 := c1) (c2 := c2) W (hG.below hW) he)
  have C3 := Lib.hid (fun W (hW : Below w.heap.size w W) => gPart_bad (c1 := c1) (c2 := c2) W (hG.below hW) s hs (by rw [hp]; exact he))
  have C4 := Lib.hid (fun W (hW : Below w.heap.size w W) => gNumber_any (c1 := c1) (c2 := c2) W (hG.below hW) x)
  have C5 := Lib.hid (fun W (hW : Below w.heap.size w W) => rGraphFault_any (c1 := c1) (c2 := c2) W (hG.below hW))
  have C6 := Lib.hid (fun W (hW : Below w.heap.size w W) => gCheck_any (c1 := c1) (c2 := c2) W (hG.below hW))
  have C7 := Lib.hid (fun W (A1 A2 : Option Addr) (c1 c2 : Nat) => sameGraph_any (A1 := A1) (A2 := A2) (B1 := none) (B2 := none) (c1 := c1) (c2 := c2) (d1 := 0) (d2 := 0) [] [] 0 0 W (Rd.nil_ _ _) (Rd.nil_ _ _) (Rd.nil_ _ _) (Rd.nil_ _ _) (by simp) (by simp))
  rw [hp] at C3
  rw [show numV N x (grErr N E p m) = 0 by unfold numV; rw [if_neg he], show numE N x (grErr N E p m) = grErr N E p m by unfold numE; rw [if_neg he]] at C4
  have hne : (grErr N E p m != 0) = true := by simp [he]
  generalize grErr N E p m = e0 at *
  unfold gv sv at *
  obtain ⟨x0, z0⟩ := box_one w (.slice A1 n c1) (.slice A2 k c2) (.int .u64 (p : Int)) (.int .u64 (m : Int)) 26
  have X2 := Lib.hid x0
  have B2 := Lib.hid z0
  clear hG hs he hp x0 z0
  go_enter Tryd.func3, Tryd.ntmps3
  go_upto_region 1 with fail
  generalize w.alloc (.cells #[.slice A1 n c1, .slice A2 k c2, .int .u64 (p : Int), .int .u64 (m : Int)] 26) = w2 at *
  obtain ⟨x1, x2, x3, x4⟩ := X2.out
  go_wp2_with fail
  refine (C1.out _ B2.out).mono ?_
  rintro e w3 ⟨rfl, hb3⟩
  have B3 := Lib.hid (below_then B2.out hb3)
  have X3 := Lib.hid (X2.out.below hb3)
  clear hb3 x1 x2 x3 x4 X2 C1
  obtain ⟨x1, x2, x3, x4⟩ := X3.out
  go_wp2_with fail
  refine (C2.out _ B3.out).mono ?_
  rintro e w4 ⟨AT, cT, AU, cU, rfl, _, _, hb4⟩
  have B4 := Lib.hid (below_then B3.out hb4)
  have X4 := Lib.hid (X3.out.below hb4)
  clear hb4 x1 x2 x3 x4 X3 C2
  unfold gv
  go_upto_region 3 with fail
  obtain ⟨t0, u0⟩ := box_one w4 (.slice AT 0 cT) (.slice AU 0 cU) (.int .u64 0) (.int .u64 0) 26
  have B5 := Lib.hid (below_new B4.out (.cells #[.slice AT 0 cT, .slice AU 0 cU, .int .u64 0, .int .u64 0] 26))
  have X5 := Lib.hid (X4.out.below u0)
  have T5 := Lib.hid t0
  clear t0 u0 X4
  generalize w4.alloc (.cells #[.slice AT 0 cT, .slice AU 0 cU, .int .u64 0, .int .u64 0] 26) = w5 at *
  generalize w4.heap.size = BT at *
  obtain ⟨x1, x2, x3, x4⟩ := X5.out
  go_wp2_with fail
  refine (C3.out _ B5.out).mono ?_
  rintro e w6 ⟨AP, cP, AQ, cQ, rfl, _, _, hb6⟩
  have B6 := Lib.hid (below_then B5.out hb6)
  have X6 := Lib.hid (X5.out.below hb6)
  have T6 := Lib.hid (T5.out.below hb6)
  clear hb6 x1 x2 x3 x4 X5 T5 C3
  unfold gv
  go_upto_region 4 with fail
  obtain ⟨t0, u0⟩ := box_one w6 (.slice AP 0 cP) (.slice AQ 0 cQ) (.int .u64 0) (.int .u64 0) 26
  have B7 := Lib.hid (below_new B6.out (.cells #[.slice AP 0 cP, .slice AQ 0 cQ, .int .u64 0, .int .u64 0] 26))
  have X7 := Lib.hid (X6.out.below u0)
  have T7 := Lib.hid (T6.out.below u0)
  have P7 := Lib.hid t0
  clear t0 u0 X6 T6
  generalize w6.alloc (.cells #[.slice AP 0 cP, .slice AQ 0 cQ, .int .u64 0, .int .u64 0] 26) = w7 at *
  generalize w6.heap.size = BP at *
  obtain ⟨x1, x2, x3, x4⟩ := X7.out
  go_wp2_with fail
  refine (C4.out _ B7.out).mono ?_
  rintro e w8 ⟨rfl, hb8⟩
  have B8 := Lib.hid (below_then B7.out hb8)
  have X8 := Lib.hid (X7.out.below hb8)
  have T8 := Lib.hid (T7.out.below hb8)
  have P8 := Lib.hid (P7.out.below hb8)
  clear hb8 x1 x2 x3 x4 X7 T7 P7 C4
  obtain ⟨x1, x2, x3, x4⟩ := X8.out
  go_wp2_with fail
  refine (C5.out _ B8.out).mono ?_
  rintro e w9 ⟨rfl, hb9⟩
  have B9 := Lib.hid (below_then B8.out hb9)
  have X9 := Lib.hid (X8.out.below hb9)
  have T9 := Lib.hid (T8.out.below hb9)
  have P9 := Lib.hid (P8.out.below hb9)
  clear hb9 x1 x2 x3 x4 X8 T8 P8 C5
  obtain ⟨x1, x2, x3, x4⟩ := X9.out
  go_wp2_with fail
  refine (C6.out _ B9.out).mono ?_
  rintro e wa ⟨rfl, hba⟩
  have BA := Lib.hid (below_then B9.out hba)
  have TA := Lib.hid (T9.out.below hba)
  have PA := Lib.hid (P9.out.below hba)
  clear hba x1 x2 x3 x4 X9 T9 P9 C6
  go_upto_region 9 with fail
  obtain ⟨t0, u0⟩ := box_one wa (.slice none 0 0) (.slice none 0 0) (.int .u64 0) (.int .u64 0) 26
  have BB := Lib.hid (below_new BA.out (.cells #[.slice none 0 0, .slice none 0 0, .int .u64 0, .int .u64 0] 26))
  have TB := Lib.hid (TA.out.below u0)
  have PB := Lib.hid (PA.out.below u0)
  have ZB := Lib.hid t0
  clear t0 u0 TA PA
  generalize wa.alloc (.cells #[.slice none 0 0, .slice none 0 0, .int .u64 0, .int .u64 0] 26) = wb at *
  generalize wa.heap.size = BZ at *
  obtain ⟨t1, t2, t3, t4⟩ := TB.out
  obtain ⟨p1, p2, p3, p4⟩ := PB.out
  obtain ⟨z1, z2, z3, z4⟩ := ZB.out
  go_wp2_with fail
  refine (C7.out wb AT AU cT cU).mono ?_
  rintro e wd ⟨rfl, hbd⟩
  have BD := Lib.hid (below_then BB.out hbd)
  have PD := Lib.hid (PB.out.below hbd)
  have ZD := Lib.hid (ZB.out.below hbd)
  clear hbd t1 t2 t3 t4 p1 p2 p3 p4 z1 z2 z3 z4 TB PB ZB
  obtain ⟨p1, p2, p3, p4⟩ := PD.out
  obtain ⟨z1, z2, z3, z4⟩ := ZD.out
  go_wp2_with fail
  refine (C7.out wd AP AQ cP cQ).mono ?_
  rintro e we ⟨rfl, hbe⟩
  have BE := Lib.hid (below_then BD.out hbe)
  clear hbe p1 p2 p3 p4 z1 z2 z3 z4 PD ZD
  go_wp2_with fail
  go_ret
  exact ⟨rfl, BE.out⟩
omit hs hT in
theorem turn_len_le (he : grErr N E p m = 0) : (edgesOf (turned (rowsG n E))).length ≤ 9223372036854775807 := by
  obtain ⟨hn64, _, _, hout, hr, _⟩ := gr_ok he
  rw [hG.nlen] at hn64 hout
  rw [← turn_edges hn64 hout hr, (esort_perm _).length_eq, List.length_map, hG.elen]
  exact hG.eb
set_option maxRecDepth 100000 in
set_option maxHeartbeats 8000000 in
theorem graphTells_good (he : grErr N E p m = 0) : Calls Tryd.prog 3 #[gv A1 n c1 A2 k c2 p m, .int .u64 (s : Int), sv x] w fun e w' => e = .returned (.bool true) ∧ Below w.heap.size w w' := by
  have HLL := Lib.hid (turn_len_le (E := E) w hG he)
  obtain rfl := hG.nlen
  obtain ⟨hn64, _, hri, hout, hrE, _⟩ := gr_ok he
  have hup := rises_up hri
  have hgd : Good (rowsG N.length E) := rowsG_good hn64 hout
  have htg := turned_good hgd
  have hrl := rowsG_len N.length E
  have htl : (turned (rowsG N.length E)).length = N.length := by rw [turned_len, hrl]
  have hte := turn_edges hn64 hout hrE
  have C1 := Lib.hid (fun W (hW : Below w.heap.size w W) => gRows_good (c1 := c1) (c2 := c2) W (hG.below hW) he)
  have C2 := Lib.hid (fun W (hW : Below w.heap.size w W) => gTurn_good (c1 := c1) (c2 := c2) W (hG.below hW) he)
  rw [hte] at C2
  obtain ⟨pe, NP, EP, pp, pm, hpe, C3⟩ : ∃ (pe : Int) (NP : List (List UInt8)) (EP : List EdgeT) (pp pm : Nat), Hid ((minus s (upTo N.length) = 0 ∧ pe = 0 ∧ NP = partN N s ∧ EP = partE E s ∧ pp = partS p s ∧ pm = partS m s) ∨ (minus s (upTo N.length) ≠ 0 ∧ pe = 4 ∧ NP = [] ∧ EP = [] ∧ pp = 0 ∧ pm = 0)) ∧ Hid (∀ W (_ : Below w.heap.size w W), Calls Tryd.prog 8 #[gv A1 N.length c1 A2 k c2 p m, .int .u64 (s : Int)] W (GPost pe NP EP pp pm W)) := by
    by_cases hz : minus s (upTo N.length) = 0
    · have hp0 : partErr N.length s (grErr N E p m) = 0 := by unfold partErr; rw [if_pos he, if_pos hz]
      exact ⟨0, partN N s, partE E s, partS p s, partS m s, Lib.hid (.inl ⟨hz, rfl, rfl, rfl, rfl, rfl⟩), Lib.hid (fun W hW => gPart_good W (hG.below hW) s hs hp0 (hT.below hW))⟩
    · have hp4 : partErr N.length s (grErr N E p m) = 4 := by unfold partErr; rw [if_pos he, if_neg hz]
      refine ⟨4, [], [], 0, 0, Lib.hid (.inr ⟨hz, rfl, rfl, rfl, rfl, rfl⟩), Lib.hid (fun W hW => ?_)⟩
      have := gPart_bad (c1 := c1) (c2 := c2) W (hG.below hW) s hs (by rw [hp4]; decide)
      rwa [hp4] at this
  have C4 := Lib.hid (fun W (hW : Below w.heap.size w W) => gNumber_any (c1 := c1) (c2 := c2) W (hG.below hW) x)
  have C5 := Lib.hid (fun W (hW : Below w.heap.size w W) => rGraphFault_any (c1 := c1) (c2 := c2) W (hG.below hW))
  have C6 := Lib.hid (fun W (hW : Below w.heap.size w W) => gCheck_any (c1 := c1) (c2 := c2) W (hG.below hW))
  have C8 := Lib.hid (fun W (hW : Below w.heap.size w W) => rRowsOf_any (c1 := c1) (c2 := c2) W (hG.below hW) he)
  have CPL := Lib.hid (fun W (hW : Below w.heap.size w W) => place_any (c := c1) N x W (hG.names.below hW) rfl hG.nb)
  have CGP := Lib.hid (fun (hz : minus s (upTo N.length) = 0) W (hW : Below w.heap.size w W) => rGraphPart_any (c1 := c1) (c2 := c2) W (hG.below hW) s hs he hz)
  rw [he] at C4 C5 C6
  have HG := Lib.hid hG
  have HUP := Lib.hid hup
  have HGD := Lib.hid hgd
  have HTG := Lib.hid htg
  have HRL := Lib.hid hrl
  have HTL := Lib.hid htl
  have HFU : Hid (faultOf (rowsG N.length E) [s] = okErr (inU N.length s)) := Lib.hid (by rw [(faultOf_zero (good_fault hgd)).1, hrl]; simp)
  have HS := Lib.hid hs
  have hn63 : N.length ≤ 9223372036854775807 := by omega
  unfold gv sv at *
  obtain ⟨x0, z0⟩ := box_one w (.slice A1 N.length c1) (.slice A2 k c2) (.int .u64 (p : Int)) (.int .u64 (m : Int)) 26
  have X2 := Lib.hid x0
  have B2 := Lib.hid z0
  clear hG hs hT he hri hout hrE hte hup hgd htg hrl htl x0 z0
  generalize hr : rowsG N.length E = r at *
  have HRE := Lib.hid hr
  clear hr
  go_enter Tryd.func3, Tryd.ntmps3
  go_upto_region 1 with fail
  generalize w.alloc (.cells #[.slice A1 N.length c1, .slice A2 k c2, .int .u64 (p : Int), .int .u64 (m : Int)] 26) = w2 at *
  obtain ⟨x1, x2, x3, x4⟩ := X2.out
  go_wp2_with fail
  refine (C1.out _ B2.out).mono ?_
  rintro e w3 ⟨AA, cA, rfl, hownA, hb3⟩
  rw [HRE.out] at hownA
  have B3 := Lib.hid (below_then B2.out hb3)
  have X3 := Lib.hid (X2.out.below hb3)
  have RA3 := Lib.hid (Rd.of_own hownA)
  clear hb3 x1 x2 x3 x4 X2 C1 hownA
  obtain ⟨x1, x2, x3, x4⟩ := X3.out
  go_wp2_with fail
  refine (C2.out _ B3.out).mono ?_
  rintro e w4 ⟨AT, cT, AU, cU, rfl, hNT, hET, hb4⟩
  have B4 := Lib.hid (below_then B3.out hb4)
  have X4 := Lib.hid (X3.out.below hb4)
  have RA4 := Lib.hid (RA3.out.below hb4)
  have NT4 := Lib.hid hNT
  have ET4 := Lib.hid hET
  clear hb4 x1 x2 x3 x4 X3 C2 RA3 hNT hET
  unfold gv
  go_upto_region 3 with fail
  obtain ⟨t0, u0⟩ := box_one w4 (.slice AT N.length cT) (.slice AU (edgesOf (turned r)).length cU) (.int .u64 (p : Int)) (.int .u64 (m : Int)) 26
  have B5 := Lib.hid (below_new B4.out (.cells #[.slice AT N.length cT, .slice AU (edgesOf (turned r)).length cU, .int .u64 (p : Int), .int .u64 (m : Int)] 26))
  have T5 := Lib.hid t0
  have X5 := Lib.hid (X4.out.below u0)
  have RA5 := Lib.hid (RA4.out.below u0)
  have NT5 := Lib.hid (NT4.out.below u0)
  have ET5 := Lib.hid (ET4.out.below u0)
  clear t0 u0 X4 RA4 NT4 ET4
  generalize w4.alloc (.cells #[.slice AT N.length cT, .slice AU (edgesOf (turned r)).length cU, .int .u64 (p : Int), .int .u64 (m : Int)] 26) = w5 at *
  generalize w4.heap.size = BT at *
  obtain ⟨x1, x2, x3, x4⟩ := X5.out
  go_wp2_with fail
  refine (C3.out _ B5.out).mono ?_
  rintro e w6 ⟨AP, cP, AQ, cQ, rfl, hNP, hEP, hb6⟩
  have B6 := Lib.hid (below_then B5.out hb6)
  have NP6 := Lib.hid hNP
  have EP6 := Lib.hid hEP
  have X6 := Lib.hid (X5.out.below hb6)
  have T6 := Lib.hid (T5.out.below hb6)
  have RA6 := Lib.hid (RA5.out.below hb6)
  have NT6 := Lib.hid (NT5.out.below hb6)
  have ET6 := Lib.hid (ET5.out.below hb6)
  clear hb6 x1 x2 x3 x4 X5 T5 RA5 NT5 ET5 C3 hNP hEP
  unfold gv
  go_upto_region 4 with fail
  obtain ⟨t0, u0⟩ := box_one w6 (.slice AP NP.length cP) (.slice AQ EP.length cQ) (.int .u64 (pp : Int)) (.int .u64 (pm : Int)) 26
  have B7 := Lib.hid (below_new B6.out (.cells #[.slice AP NP.length cP, .slice AQ EP.length cQ, .int .u64 (pp : Int), .int .u64 (pm : Int)] 26))
  have P7 := Lib.hid t0
  have X7 := Lib.hid (X6.out.below u0)
  have T7 := Lib.hid (T6.out.below u0)
  have RA7 := Lib.hid (RA6.out.below u0)
  have NT7 := Lib.hid (NT6.out.below u0)
  have ET7 := Lib.hid (ET6.out.below u0)
  have NP7 := Lib.hid (NP6.out.below u0)
  have EP7 := Lib.hid (EP6.out.below u0)
  clear t0 u0 X6 T6 RA6 NT6 ET6 NP6 EP6
  generalize w6.alloc (.cells #[.slice AP NP.length cP, .slice AQ EP.length cQ, .int .u64 (pp : Int), .int .u64 (pm : Int)] 26) = w7 at *
  generalize w6.heap.size = BP at *
  obtain ⟨x1, x2, x3, x4⟩ := X7.out
  go_wp2_with fail
  refine (C4.out _ B7.out).mono ?_
  rintro e w8 ⟨rfl, hb8⟩
  have B8 := Lib.hid (below_then B7.out hb8)
  have X8 := Lib.hid (X7.out.below hb8)
  have T8 := Lib.hid (T7.out.below hb8)
  have RA8 := Lib.hid (RA7.out.below hb8)
  have NT8 := Lib.hid (NT7.out.below hb8)
  have ET8 := Lib.hid (ET7.out.below hb8)
  have NP8 := Lib.hid (NP7.out.below hb8)
  have EP8 := Lib.hid (EP7.out.below hb8)
  have P8 := Lib.hid (P7.out.below hb8)
  clear hb8 x1 x2 x3 x4 C4 X7 T7 RA7 NT7 ET7 NP7 EP7 P7
  obtain ⟨x1, x2, x3, x4⟩ := X8.out
  go_wp2_with fail
  refine (C5.out _ B8.out).mono ?_
  rintro e w9 ⟨rfl, hb9⟩
  have B9 := Lib.hid (below_then B8.out hb9)
  have X9 := Lib.hid (X8.out.below hb9)
  have T9 := Lib.hid (T8.out.below hb9)
  have RA9 := Lib.hid (RA8.out.below hb9)
  have NT9 := Lib.hid (NT8.out.below hb9)
  have ET9 := Lib.hid (ET8.out.below hb9)
  have NP9 := Lib.hid (NP8.out.below hb9)
  have EP9 := Lib.hid (EP8.out.below hb9)
  have P9 := Lib.hid (P8.out.below hb9)
  clear hb9 x1 x2 x3 x4 C5 X8 T8 RA8 NT8 ET8 NP8 EP8 P8
  obtain ⟨x1, x2, x3, x4⟩ := X9.out
  go_wp2_with fail
  refine (C6.out _ B9.out).mono ?_
  rintro e wa ⟨rfl, hba⟩
  have Ba := Lib.hid (below_then B9.out hba)
  have Xa := Lib.hid (X9.out.below hba)
  have Ta := Lib.hid (T9.out.below hba)
  have RAa := Lib.hid (RA9.out.below hba)
  have NTa := Lib.hid (NT9.out.below hba)
  have ETa := Lib.hid (ET9.out.below hba)
  have NPa := Lib.hid (NP9.out.below hba)
  have EPa := Lib.hid (EP9.out.below hba)
  have Pa := Lib.hid (P9.out.below hba)
  clear hba x1 x2 x3 x4 C6 X9 T9 RA9 NT9 ET9 NP9 EP9 P9
  go_upto_region 9 with fail
  obtain ⟨t0, u0⟩ := box_one wa (.slice none 0 0) (.slice none 0 0) (.int .u64 0) (.int .u64 0) 26
  have Bb := Lib.hid (below_new Ba.out (.cells #[.slice none 0 0, .slice none 0 0, .int .u64 0, .int .u64 0] 26))
  have Zb := Lib.hid t0
  have Xb := Lib.hid (Xa.out.below u0)
  have Tb := Lib.hid (Ta.out.below u0)
  have RAb := Lib.hid (RAa.out.below u0)
  have NTb := Lib.hid (NTa.out.below u0)
  have ETb := Lib.hid (ETa.out.below u0)
  have NPb := Lib.hid (NPa.out.below u0)
  have EPb := Lib.hid (EPa.out.below u0)
  have Pb := Lib.hid (Pa.out.below u0)
  clear t0 u0 Xa Ta RAa NTa ETa NPa EPa Pa
  generalize wa.alloc (.cells #[.slice none 0 0, .slice none 0 0, .int .u64 0, .int .u64 0] 26) = wb at *
  generalize wa.heap.size = BZ at *
  obtain ⟨x1, x2, x3, x4⟩ := Xb.out
  go_wp2_with fail
  refine (C8.out _ Bb.out).mono ?_
  rintro e wk ⟨AK, cK, rfl, hownK, hbk⟩
  rw [HRE.out] at hownK
  have Bk := Lib.hid (below_then Bb.out hbk)
  have RKk := Lib.hid (Rd.of_own hownK)
  have Xk := Lib.hid (Xb.out.below hbk)
  have Tk := Lib.hid (Tb.out.below hbk)
  have RAk := Lib.hid (RAb.out.below hbk)
  have NTk := Lib.hid (NTb.out.below hbk)
  have ETk := Lib.hid (ETb.out.below hbk)
  have NPk := Lib.hid (NPb.out.below hbk)
  have EPk := Lib.hid (EPb.out.below hbk)
  have Pk := Lib.hid (Pb.out.below hbk)
  have Zk := Lib.hid (Zb.out.below hbk)
  clear hbk x1 x2 x3 x4 C8 hownK Xb Tb RAb NTb ETb NPb EPb Pb Zb
  have HNV : Hid ((numV N x 0 = 0 ∧ numE N x 0 = 5 ∧ x ∉ N) ∨ (∃ j : Nat, N[j]? = some x ∧ numV N x 0 = (j : Int) ∧ numE N x 0 = 0 ∧ ∀ i : Nat, N[i]? = some x → i = j)) := Lib.hid (by
    by_cases hm : x ∈ N
    · obtain ⟨j, hj⟩ := List.mem_iff_getElem?.1 hm
      have hh : hasS N x = true := by unfold hasS; exact decide_eq_true hm
      refine .inr ⟨j, hj, by unfold numV; rw [if_pos rfl, if_pos hh, placeMax_in HUP.out hm hj], by unfold numE; rw [if_pos rfl, if_pos hh], fun i hi => ?_⟩
      have h1 := placeMax_in HUP.out hm hj
      have h2 := placeMax_in HUP.out hm hi
      omega
    · have hh : ¬ hasS N x = true := by unfold hasS; simp [hm]
      exact .inl ⟨by unfold numV; rw [if_pos rfl, if_neg hh], by unfold numE; rw [if_pos rfl, if_neg hh], hm⟩)
  generalize numV N x 0 = nv at *
  generalize numE N x 0 = ne at *
  have CEQ := Lib.hid (fun W (hW : Below wk.heap.size wk W) => (slEq_uv (c1 := cA) (c2 := cK) r r (RAk.out.below hW) (RKk.out.below hW) HRL.out HRL.out hn63 hn63).mono (fun e w' h => (⟨by rw [h.1]; simp, h.2⟩ : e = .returned (.bool true) ∧ Below W.heap.size W w')))
  have CTU := Lib.hid (fun W (hW : Below wk.heap.size wk W) => rTurned_any (c := cK) r W (RKk.out.below hW) HRL.out hn64 HGD.out.b64)
  have CGO := Lib.hid (fun W (A : Option Addr) (c : Nat) (hA : Rd W A ((turned r).map uv)) => rGraphOf_any (A := A1) (AR := A) (n := N.length) (c := c1) (cr := c) (turned r) p m W hA HTL.out hn64 HTG.out.b64)
  have CSG := Lib.hid (fun W (A : Option Addr) (c : Nat) (hW : Below wk.heap.size wk W) (hA : Rd W A (eV (edgesOf (turned r)))) => sameGraph_any (c1 := cT) (c2 := cU) (d1 := c1) (d2 := c) N (edgesOf (turned r)) p m W (NTk.out.below hW) (ETk.out.below hW) (HG.out.names.below (below_then Bk.out hW)) hA hn63 HLL.out)
  have HSL := Lib.hid (fun W (hW : Below wk.heap.size wk W) => (⟨(Xk.out.below hW).c1, (Xk.out.below hW).c3, (Xk.out.below hW).c4, (Tk.out.below hW).c1, (Tk.out.below hW).c2, (Tk.out.below hW).c3, (Tk.out.below hW).c4, hW⟩ : W.cell? ⟨w.heap.size, 0, none⟩ = some (.slice A1 N.length c1) ∧ W.cell? ⟨w.heap.size, 2, none⟩ = some (.int .u64 (p : Int)) ∧ W.cell? ⟨w.heap.size, 3, none⟩ = some (.int .u64 (m : Int)) ∧ W.cell? ⟨BT, 0, none⟩ = some (.slice AT N.length cT) ∧ W.cell? ⟨BT, 1, none⟩ = some (.slice AU (edgesOf (turned r)).length cU) ∧ W.cell? ⟨BT, 2, none⟩ = some (.int .u64 (p : Int)) ∧ W.cell? ⟨BT, 3, none⟩ = some (.int .u64 (m : Int)) ∧ Below wk.heap.size wk W))
  unfold gv at CSG
  have bd : Below wk.heap.size wk wk.drew := Below.drew (Below.refl _ _)
  go_upto_region 12 with fail
  go_region_held3 (fun W => W.cell? ⟨w.heap.size, 0, none⟩ = some (.slice A1 N.length c1) ∧ W.cell? ⟨w.heap.size, 2, none⟩ = some (.int .u64 (p : Int)) ∧ W.cell? ⟨w.heap.size, 3, none⟩ = some (.int .u64 (m : Int)) ∧ W.cell? ⟨BT, 0, none⟩ = some (.slice AT N.length cT) ∧ W.cell? ⟨BT, 1, none⟩ = some (.slice AU (edgesOf (turned r)).length cU) ∧ W.cell? ⟨BT, 2, none⟩ = some (.int .u64 (p : Int)) ∧ W.cell? ⟨BT, 3, none⟩ = some (.int .u64 (m : Int)) ∧ Below wk.heap.size wk W)
    ((refine HSL.out _ ?_; first | assumption | exact Below.drew (by assumption)))
    ((first
      | (go_at_call 14; (refine (CEQ.out _ bd).mono ?_); rintro e u7 ⟨rfl, h7⟩; have b7 := below_then bd h7)
      | (go_at_call 16; (refine (CTU.out _ b7).mono ?_); rintro e u8 ⟨A8, c8, rfl, hown8, h8⟩; have b8 := below_then b7 h8)
      | (go_at_call 15; (refine (CGO.out _ A8 c8 (Rd.of_own hown8)).mono ?_); rintro e u9 ⟨A9, c9, rfl, hown9, h9⟩; unfold gv; have b9 := below_then b8 h9)
      | (go_at_call 12; (refine (CSG.out _ A9 c9 b9 (rd_of_ownK hown9)).mono ?_); rintro e ua ⟨rfl, h10⟩; have b10 := below_then b9 h10)))
  have B10 := Lib.hid b10
  clear b7 b8 b9 b10 bd hown8 hown9 h7 h8 h9 h10 CEQ CTU CGO CSG HSL
  have Bl := Lib.hid (below_then Bk.out B10.out)
  have Xl := Lib.hid (Xk.out.below B10.out)
  have Pl := Lib.hid (Pk.out.below B10.out)
  have Zl := Lib.hid (Zk.out.below B10.out)
  have RKl := Lib.hid (RKk.out.below B10.out)
  have NPl := Lib.hid (NPk.out.below B10.out)
  have EPl := Lib.hid (EPk.out.below B10.out)
  clear Xk Tk RAk NTk ETk NPk EPk Pk Zk RKk
  generalize edgesOf (turned r) = EO at *
  obtain ⟨x1, x2, x3, x4⟩ := Xl.out
  go_wp2_with fail
  refine (CPL.out _ Bl.out).mono ?_
  rintro e w' ⟨i, rfl, rfl, hi⟩
  have hcase : (i = -1 ∧ nv = 0 ∧ ne = 5) ∨ (∃ j : Nat, i = (j : Int) ∧ nv = (j : Int) ∧ ne = 0) := by
    rcases HNV.out with ⟨h1, h2, h3⟩ | ⟨j, h1, h2, h3, h4⟩
    · rcases hi with ⟨h4, _⟩ | ⟨q, _, h5⟩
      · exact .inl ⟨h4, h1, h2⟩
      · exact absurd (List.mem_of_getElem? h5) h3
    · rcases hi with ⟨_, h5⟩ | ⟨q, h5, h6⟩
      · exact absurd (List.mem_of_getElem? h1) h5
      · exact .inr ⟨j, by rw [h5, h4 q h6], h2, h3⟩
  clear hi HNV CPL
  have HIN : Hid (okErr (inU N.length s) = pe) := Lib.hid (by
    rcases hpe.out with ⟨h1, h2, _⟩ | ⟨h1, h2, _⟩
    · rw [h2]; unfold inU okErr; rw [decide_eq_true h1]; rfl
    · rw [h2]; unfold inU okErr; rw [decide_eq_false h1]; rfl)
  rw [HIN.out] at HFU
  have HLIT := Lib.hid (rd_lit ua _ #[.int .u64 (s : Int)] 24 ([s].map uv) rfl rfl)
  have CRF := Lib.hid ((rRowsFault_any (c := cK) (m := 1) (c2 := 1) r [s] _ (RKl.out.alloc _) HRL.out hn63 HGD.out.b64 HLIT.out rfl (by omega) (rowAt_all (fun s' hs => by rw [List.mem_singleton] at hs; rw [hs]; exact HS.out))))
  rw [HFU.out] at CRF
  have hb0 : Below ua.heap.size ua (ua.alloc (.cells #[.int .u64 (s : Int)] 24)) := below_new (Below.refl _ _) _
  have Bm := Lib.hid (below_then Bl.out hb0)
  have Xm := Lib.hid (Xl.out.below hb0)
  have Pm := Lib.hid (Pl.out.below hb0)
  have Zm := Lib.hid (Zl.out.below hb0)
  have NPm := Lib.hid (NPl.out.below hb0)
  have EPm := Lib.hid (EPl.out.below hb0)
  clear hb0 Pl Zl RKl NPl EPl HLIT HIN
  rcases hcase with ⟨rfl, rfl, rfl⟩ | ⟨j, rfl, rfl, rfl⟩
  all_goals (
    go_wp2_with fail
    generalize ua.alloc (.cells #[.int .u64 (s : Int)] 24) = uc at *
    refine CRF.out.mono ?_
    rintro e ud ⟨rfl, hbd⟩
    have Bd := Lib.hid (below_then Bm.out hbd)
    have Xd := Lib.hid (Xm.out.below hbd)
    have Pd := Lib.hid (Pm.out.below hbd)
    have Zd := Lib.hid (Zm.out.below hbd)
    have NPd := Lib.hid (NPm.out.below hbd)
    have EPd := Lib.hid (EPm.out.below hbd)
    clear hbd x1 x2 x3 x4 Xl
    rcases hpe.out with ⟨hz, rfl, rfl, rfl, rfl, rfl⟩ | ⟨hz, rfl, rfl, rfl, rfl, rfl⟩
    · clear HFU CRF
      have CGD := Lib.hid (fun W (hW : Below ud.heap.size ud W) => CGP.out hz W (below_then Bd.out hW))
      have hl1 : (partN N s).length ≤ 9223372036854775807 := by have := nums_len s; unfold partN; rw [List.length_map]; omega
      have hl2 : (partE E s).length ≤ 9223372036854775807 := by
        have h1 := List.length_filter_le (inE s) E
        have h2 := HG.out.elen
        have h3 := HG.out.eb
        unfold partE
        rw [List.length_map]
        omega
      have CSP := Lib.hid (fun W (A B : Option Addr) (c d : Nat) (hW : Below ud.heap.size ud W) (hA : Rd W A ((partN N s).map sv)) (hB : Rd W B (eV (partE E s))) => sameGraph_any (c1 := cP) (c2 := cQ) (d1 := c) (d2 := d) (partN N s) (partE E s) (partS p s) (partS m s) W (NPd.out.below hW) (EPd.out.below hW) hA hB hl1 hl2)
      have HSL := Lib.hid (fun W (hW : Below ud.heap.size ud W) => (⟨(Xd.out.below hW).c1, (Xd.out.below hW).c2, (Xd.out.below hW).c3, (Xd.out.below hW).c4, (Pd.out.below hW).c1, (Pd.out.below hW).c2, (Pd.out.below hW).c3, (Pd.out.below hW).c4, hW⟩ : W.cell? ⟨w.heap.size, 0, none⟩ = some (.slice A1 N.length c1) ∧ W.cell? ⟨w.heap.size, 1, none⟩ = some (.slice A2 k c2) ∧ W.cell? ⟨w.heap.size, 2, none⟩ = some (.int .u64 (p : Int)) ∧ W.cell? ⟨w.heap.size, 3, none⟩ = some (.int .u64 (m : Int)) ∧ W.cell? ⟨BP, 0, none⟩ = some (.slice AP (partN N s).length cP) ∧ W.cell? ⟨BP, 1, none⟩ = some (.slice AQ (partE E s).length cQ) ∧ W.cell? ⟨BP, 2, none⟩ = some (.int .u64 (partS p s : Nat)) ∧ W.cell? ⟨BP, 3, none⟩ = some (.int .u64 (partS m s : Nat)) ∧ Below ud.heap.size ud W))
      unfold gv at CSP
      have bd : Below ud.heap.size ud ud.drew := Below.drew (Below.refl _ _)
      clear hz hl1 hl2
      go_upto_region 19 with fail
      go_region_held3 (fun W => W.cell? ⟨w.heap.size, 0, none⟩ = some (.slice A1 N.length c1) ∧ W.cell? ⟨w.heap.size, 1, none⟩ = some (.slice A2 k c2) ∧ W.cell? ⟨w.heap.size, 2, none⟩ = some (.int .u64 (p : Int)) ∧ W.cell? ⟨w.heap.size, 3, none⟩ = some (.int .u64 (m : Int)) ∧ W.cell? ⟨BP, 0, none⟩ = some (.slice AP (partN N s).length cP) ∧ W.cell? ⟨BP, 1, none⟩ = some (.slice AQ (partE E s).length cQ) ∧ W.cell? ⟨BP, 2, none⟩ = some (.int .u64 (partS p s : Nat)) ∧ W.cell? ⟨BP, 3, none⟩ = some (.int .u64 (partS m s : Nat)) ∧ Below ud.heap.size ud W)
        ((refine HSL.out _ ?_; first | assumption | exact Below.drew (by assumption)))
        ((first
          | (go_at_call 19; (refine (CGD.out _ bd).mono ?_); rintro e u7 ⟨A7, c7, A8, c8, rfl, hn7, he7, h7⟩; unfold gv; have b7 := below_then bd h7)
          | (go_at_call 12; (refine (CSP.out _ A7 A8 c7 c8 b7 hn7 he7).mono ?_); rintro e u8 ⟨rfl, h8⟩; have b8 := below_then b7 h8)))
      have B9 := Lib.hid (below_then Bd.out b8)
      clear b7 b8 bd h7 h8 hn7 he7 CSP HSL
      go_wp2_with fail
      go_ret
      exact ⟨rfl, B9.out⟩
    · simp only [List.length_nil] at Pd
      clear HFU CRF CGP
      have C7 := Lib.hid (sameGraph_any (A1 := AP) (A2 := AQ) (B1 := none) (B2 := none) (c1 := cP) (c2 := cQ) (d1 := 0) (d2 := 0) [] [] 0 0 ud (Rd.nil_ _ _) (Rd.nil_ _ _) (Rd.nil_ _ _) (Rd.nil_ _ _) (by simp) (by simp))
      obtain ⟨p1, p2, p3, p4⟩ := Pd.out
      obtain ⟨z1, z2, z3, z4⟩ := Zd.out
      clear hz
      go_wp2_with fail
      refine C7.out.mono ?_
      rintro e ue ⟨rfl, hbe⟩
      have BE := Lib.hid (below_then Bd.out hbe)
      clear hbe p1 p2 p3 p4 z1 z2 z3 z4
      go_wp2_with fail
      go_ret
      exact ⟨rfl, BE.out⟩)
theorem graphTells_any : Calls Tryd.prog 3 #[gv A1 n c1 A2 k c2 p m, .int .u64 (s : Int), sv x] w fun e w' => e = .returned (.bool true) ∧ Below w.heap.size w w' := by
  by_cases he : grErr N E p m = 0
  · exact graphTells_good w hG s hs x hT he
  · exact graphTells_bad w hG s hs x he
end
theorem graphTells_walk (A1 : Option Addr) (N : List (List UInt8)) (c1 : Nat) (A2 : Option Addr) (E : List EdgeT) (c2 p m s : Nat) (x : List UInt8) (w : World) (hG : GrIn A1 N.length A2 E.length N E p m w) (hs : s < 18446744073709551616) (_ : x.length ≤ 140737488351232) (hT : Tab w) :
    Calls Tryd.prog 3 #[gv A1 N.length c1 A2 E.length c2 p m, .int .u64 (s : Int), sv x] w fun e w' => e = .returned (.bool true) ∧ Below w.heap.size w w' := graphTells_any w hG s hs x hT
end Go.Proofs.YtiechbaknolimaaDoor
