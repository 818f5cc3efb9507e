/- The law DotTells: its walk. Conditions: sets below 2^64, lengths below 2^63; the table of math/bits and bytealg.MaxLen's cell lie. -/
import Derived.Test.YtoandhhkmkgmaaaGreatDoorDot6
import Derived.Test.YtoandhhkmkgmaaaGreatDoorDot11
import Derived.Test.YtoandhhkmkgmaaaGreatDoorGraphR
namespace Go.Proofs.YtoandhhkmkgmaaaGreatDoor
open Go.RowKit

theorem out_large {t : List UInt8} {N : List (List UInt8)} {E : List EdgeT} {p m : Nat} {er : Int} (h : OutIs t N E p m er) (hl : 400000 < t.length) : er = 2 ∧ N = [] ∧ E = [] ∧ p = 0 ∧ m = 0 := by
  unfold OutIs at h
  rwa [if_pos hl] at h
theorem out_reads {t : List UInt8} {N : List (List UInt8)} {E : List EdgeT} {p m : Nat} {er : Int} (h : OutIs t N E p m er) (hl : ¬ 400000 < t.length) : OutO (refRead t) N E p m er := by
  unfold OutIs at h
  rw [if_neg hl] at h
  obtain ⟨o, h1, h2⟩ := h
  rw [← reads_one h1 (refRead_reads t)]
  exact h2
theorem good_faultD {l : List Nat} (h : Good l) : faultOf l [] = 0 := by
  unfold faultOf
  rw [if_neg (by have := h.1; omega), if_pos]
  rw [List.append_nil, List.all_eq_true]
  intro s hs
  obtain ⟨i, hi⟩ := List.mem_iff_getElem?.1 hs
  have e : rowAt l i = s := by unfold rowAt; rw [hi]; rfl
  rw [← e]
  exact (inU_iff h.1 (h.b64 i)).2 (fun j hj => h.2 i j hj)
theorem b64_zeroD : B64 0 := by unfold B64; omega
theorem fault_part {n s : Nat} {E : List EdgeT} (hn : n ≤ 64) (ho : E.any (edgeOut n) = false) : faultOf (rowsG n E) [s] = if minus s (upTo n) = 0 then 0 else 4 := by
  have hgd := rowsG_good hn ho
  have hrl := rowsG_len n E
  have h1 : faultOf (rowsG n E) [s] = okErr (inU n s) := by rw [(faultOf_zero (good_faultD hgd)).1, hrl]; simp
  rw [h1]
  unfold okErr inU
  by_cases h : minus s (upTo n) = 0
  · rw [if_pos h]; simp [h]
  · rw [if_neg h]; simp [h]
section
variable {A1 A2 : Option Addr} {n k c1 c2 : Nat} {N : List (List UInt8)} {E : List EdgeT} {p m : Nat} (w : World) (hG : GrIn A1 n A2 k N E p m w) (s : Nat) (hs : B64 s) (t : List UInt8) (ht : t.length ≤ 9223372036854775807) (mx : Int) (hmx : w.cell? ⟨1, 0, none⟩ = some (.int .i64 mx)) (hT : Tab w) (hRR : ∀ W, t.length ≤ 2000 → Calls Tryz.prog 25 #[.string ⟨t.toArray⟩] W (RRPost t W))
include hG hs ht hmx hT hRR
set_option maxRecDepth 100000 in
set_option maxHeartbeats 8000000 in
theorem dotTells_any : Calls Tryz.prog 4 #[gv A1 n c1 A2 k c2 p m, .int .u64 (s : Int), .string ⟨t.toArray⟩] w fun e w' => e = .returned (.bool true) ∧ Below w.heap.size w w' := by
  have HMX := Lib.hid hmx
  have CD := Lib.hid (fun W (hW : Below w.heap.size w W) => dDrawF_any (c1 := c1) (c2 := c2) W (hG.below hW) s hs (hT.below hW))
  have CR := Lib.hid (fun W (hW : Below w.heap.size w W) => dRead_any t W mx ht (hT.below hW) (cell_keep hmx hW))
  have CF := Lib.hid (fun W (hW : Below w.heap.size w W) => rGraphFault_any (c1 := c1) (c2 := c2) W (hG.below hW))
  have CRO := Lib.hid (fun W (hW : Below w.heap.size w W) (h0 : grErr N E p m = 0) => rRowsOf_any (c1 := c1) (c2 := c2) W (hG.below hW) h0)
  have CGP := Lib.hid (fun W (hW : Below w.heap.size w W) (h0 : grErr N E p m = 0) (h1 : minus s (upTo n) = 0) => rGraphPart_any (c1 := c1) (c2 := c2) W (hG.below hW) s hs h0 h1)
  have CRR := Lib.hid hRR
  have CSZ := Lib.hid (fun W (A B : Option Addr) (c d : Nat) => sameGraph_any (A1 := A) (A2 := B) (B1 := none) (B2 := none) (c1 := c) (c2 := d) (d1 := 0) (d2 := 0) [] [] 0 0 W (Rd.nil_ _ _) (Rd.nil_ _ _) (Rd.nil_ _ _) (Rd.nil_ _ _) (by simp) (by simp))
  have HS := Lib.hid hs
  have HG := Lib.hid hG
  have HGK : Hid (grErr N E p m = 0 → GOk N E p m) := Lib.hid (gOk hG.p64 hG.m64)
  have HNL := Lib.hid hG.nlen
  have htz : (⟨t.toArray⟩ : ByteArray).size = t.length := by simp [ByteArray.size]
  have HTZ := Lib.hid htz
  obtain ⟨b1, b2, b3, b4, b5⟩ := box_four w (.slice A1 n c1) (.slice A2 k c2) (.int .u64 (p : Int)) (.int .u64 (m : Int)) 43
  obtain ⟨w1, hw1⟩ : ∃ w1, w1 = w.alloc (.cells #[.slice A1 n c1, .slice A2 k c2, .int .u64 (p : Int), .int .u64 (m : Int)] 43) := ⟨_, rfl⟩
  have HW1 := Lib.hid hw1
  rw [← hw1] at b1 b2 b3 b4 b5
  have HB1 := Lib.hid b5
  have X1 : Hid (GrBox w.heap.size (.slice A1 n c1) (.slice A2 k c2) (.int .u64 (p : Int)) (.int .u64 (m : Int)) w1) := Lib.hid ⟨b1, b2, b3, b4⟩
  unfold gv at CF CRO CGP CSZ ⊢
  clear hG hs hmx hT hw1 htz hRR
  generalize hbt : (⟨t.toArray⟩ : ByteArray) = bt at *
  clear hbt
  go_enter Tryz.func4, Tryz.ntmps4
  go_upto_region 1 with fail
  rw [← HW1.out]
  clear HW1
  have CD1 := CD.out w1 HB1.out
  have HPE : Hid (partErr n s (grErr N E p m) = if grErr N E p m = 0 then (if minus s (upTo n) = 0 then 0 else 4) else grErr N E p m) := Lib.hid rfl
  obtain ⟨pe, hpe⟩ : ∃ pe, pe = partErr n s (grErr N E p m) := ⟨_, rfl⟩
  rw [← hpe] at CD1
  obtain ⟨T, hTT⟩ : ∃ T, T = (if pe = 0 then drawnT N E p m s else []) := ⟨_, rfl⟩
  rw [← hTT] at CD1
  have HTT := Lib.hid hTT
  have HPP := Lib.hid hpe
  have HCD := Lib.hid CD1
  unfold DrawPost gv at HCD
  clear hpe hTT CD CD1
  generalize hbT : (⟨T.toArray⟩ : ByteArray) = bT at *
  have HBT := Lib.hid hbT
  clear hbT
  go_wp2_with fail
  refine HCD.out.mono ?_
  rintro e w2 ⟨rfl, hb2⟩
  have HB2 := Lib.hid (below_then HB1.out hb2)
  have X2 := Lib.hid (X1.out.below hb2)
  clear hb2 b1 b2 b3 b4 b5 HCD X1
  go_wp2_with fail
  refine (CR.out _ HB2.out).mono ?_
  rintro e w3 ⟨A1', d1, A2', d2, N', E', p', m', er, rfl, hr1, hr2, hb3, ho, _⟩
  have HB3 := Lib.hid (below_then HB2.out hb3)
  have X3 := Lib.hid (X2.out.below hb3)
  have HO := Lib.hid ho
  unfold gv
  obtain ⟨y1, y2, y3, y4, y5⟩ := box_four w3 (.slice A1' N'.length d1) (.slice A2' E'.length d2) (.int .u64 (p' : Int)) (.int .u64 (m' : Int)) 43
  have HR1 := Lib.hid (hr1.below y5)
  have HR2 := Lib.hid (hr2.below y5)
  have X4 := Lib.hid (X3.out.below y5)
  have HB4 := Lib.hid (below_then HB3.out y5)
  have HW4 : Hid (∃ w4, w4 = w3.alloc (.cells #[.slice A1' N'.length d1, .slice A2' E'.length d2, .int .u64 (p' : Int), .int .u64 (m' : Int)] 43)) := Lib.hid ⟨_, rfl⟩
  clear hb3 ho X2 CR
  go_upto_region 3 with fail
  generalize w3.alloc (.cells #[.slice A1' N'.length d1, .slice A2' E'.length d2, .int .u64 (p' : Int), .int .u64 (m' : Int)] 43) = w4 at *
  generalize w3.heap.size = B9 at *
  have XB : Hid (GrBox B9 (.slice A1' N'.length d1) (.slice A2' E'.length d2) (.int .u64 (p' : Int)) (.int .u64 (m' : Int)) w4) := Lib.hid ⟨y1, y2, y3, y4⟩
  clear y1 y2 y3 y4 y5 hr1 hr2 X3 HB3 HB2 HB1 HW4
  obtain ⟨g1, g2, g3, g4⟩ := X4.out
  go_wp2_with fail
  refine (CF.out _ HB4.out).mono ?_
  rintro e w5 ⟨rfl, hb5⟩
  have HB5 := Lib.hid (below_then HB4.out hb5)
  have X5 := Lib.hid (X4.out.below hb5)
  have XB5 := Lib.hid (XB.out.below hb5)
  have HR15 := Lib.hid (HR1.out.below hb5)
  have HR25 := Lib.hid (HR2.out.below hb5)
  clear hb5 g1 g2 g3 g4 X4 XB HR1 HR2 CF HB4
  obtain ⟨g1, g2, g3, g4⟩ := X5.out
  by_cases he : grErr N E p m = 0
  · have hok := HGK.out he
    have hn64 : n ≤ 64 := by rw [← HNL.out]; exact hok.n64
    have HFP := Lib.hid (fault_part (s := s) (E := E) hn64 (by rw [← HNL.out]; exact hok.out))
    have HRG := Lib.hid (rowsG_good hn64 (by rw [← HNL.out]; exact hok.out)).b64
    have HRL := Lib.hid (rowsG_len n E)
    have HE := Lib.hid he
    have HOK := Lib.hid hok
    clear hok
    rw [he]
    clear he
    go_wp2_with fail
    refine (CRO.out _ HB5.out HE.out).mono ?_
    rintro e w6 ⟨AR, cR, rfl, hown6, hb6⟩
    have HB6 := Lib.hid (below_then HB5.out hb6)
    have X6 := Lib.hid (X5.out.below hb6)
    have XB6 := Lib.hid (XB5.out.below hb6)
    have HR16 := Lib.hid (HR15.out.below hb6)
    have HR26 := Lib.hid (HR25.out.below hb6)
    have HRR := Lib.hid (rd_of_ownK hown6)
    have ha := below_new (Below.refl w6.heap.size w6) (.cells #[.int .u64 (s : Int)] 41)
    have HB6a := Lib.hid (below_then HB6.out ha)
    have X6a := Lib.hid (X6.out.below ha)
    have XB6a := Lib.hid (XB6.out.below ha)
    have HR16a := Lib.hid (HR16.out.below ha)
    have HR26a := Lib.hid (HR26.out.below ha)
    have CRF := Lib.hid (rRowsFault_any (c := cR) (c2 := 1) (rowsG n E) [s] (w6.alloc (.cells #[.int .u64 (s : Int)] 41)) (HRR.out.below ha) HRL.out (by omega) HRG.out (rd_lit w6 w6.heap.size _ _ _ rfl rfl) rfl (by simp) (fun i => by unfold rowAt; cases i with | zero => exact HS.out | succ i => exact b64_zeroD))
    clear hown6 hb6 ha g1 g2 g3 g4 X5 XB5 HR15 HR25 X6 XB6 HR16 HR26
    go_wp2_with fail
    refine CRF.out.mono ?_
    rintro e w7 ⟨rfl, hb7⟩
    rw [HFP.out]
    have HB7 := Lib.hid (below_then HB6a.out hb7)
    have X7 := Lib.hid (X6a.out.below hb7)
    have XB7 := Lib.hid (XB6a.out.below hb7)
    have HR17 := Lib.hid (HR16a.out.below hb7)
    have HR27 := Lib.hid (HR26a.out.below hb7)
    clear hb7 CRF X6a XB6a HR16a HR26a HB6a HB6
    obtain ⟨g1, g2, g3, g4⟩ := X7.out
    by_cases hms : minus s (upTo n) = 0
    · have HMS := Lib.hid hms
      have hpe : pe = 0 := by rw [HPP.out, HPE.out, if_pos HE.out, if_pos hms]
      subst hpe
      rw [if_pos hms]
      have HTD : Hid (T = drawT (partN N s) (partE E s) (partS p s) (partS m s)) := Lib.hid (by rw [HTT.out, if_pos rfl]; rfl)
      have HOKP := Lib.hid (part_ok HOK.out HS.out (by rw [HNL.out]; exact hms))
      have HPB := Lib.hid (And.intro (partS_b64 p s) (partS_b64 m s))
      have hself : (bT.toList == bT.toList) = true := beq_self_eq_true _
      clear hms
      go_wp2_with fail
      refine (CGP.out _ HB7.out HE.out HMS.out).mono ?_
      rintro e w8 ⟨AP, f1, AQ, f2, rfl, hq1, hq2, hb8⟩
      have HB8 := Lib.hid (below_then HB7.out hb8)
      have XB8 := Lib.hid (XB7.out.below hb8)
      have HR18 := Lib.hid (HR17.out.below hb8)
      have HR28 := Lib.hid (HR27.out.below hb8)
      have CDR := Lib.hid (rDrawn_any (c1 := f1) (c2 := f2) w8 (ok_in HOKP.out HPB.out.1 HPB.out.2 hq1 hq2) HOKP.out)
      rw [← HTD.out] at CDR
      unfold TxtPost at CDR
      rw [HBT.out] at CDR
      clear hq1 hq2 hb8 g1 g2 g3 g4 X7 XB7 HR17 HR27
      go_wp2_with fail
      refine CDR.out.mono ?_
      rintro e w10 ⟨rfl, hb10⟩
      have HB10 := Lib.hid (below_then HB8.out hb10)
      have XB10 := Lib.hid (XB8.out.below hb10)
      have HR110 := Lib.hid (HR18.out.below hb10)
      have HR210 := Lib.hid (HR28.out.below hb10)
      clear hb10 XB8 HR18 HR28 CDR
      obtain ⟨z1, z2, z3, z4⟩ := XB10.out
      by_cases hl : 400000 < t.length
      · have hl2 : (400000 : Int) < (bt.size : Int) := by rw [HTZ.out]; omega
        obtain ⟨rfl, rfl, rfl, rfl, rfl⟩ := out_large HO.out hl
        clear hl
        go_wp2_with fail
        refine (CSZ.out _ _ _ _ _).mono ?_
        rintro e u9 ⟨rfl, hb9⟩
        have HB9 := Lib.hid (below_then HB10.out hb9)
        clear hb9
        go_wp2_with fail
        go_ret
        exact ⟨rfl, HB9.out⟩
      · have hl2 : ¬ (400000 : Int) < (bt.size : Int) := by rw [HTZ.out]; omega
        have HOO := Lib.hid (out_reads HO.out hl)
        clear hl
        by_cases hl3 : 2000 < t.length
        · have hl4 : (2000 : Int) < (bt.size : Int) := by rw [HTZ.out]; omega
          clear hl3
          go_wp2_with fail
          go_ret
          exact ⟨rfl, HB10.out⟩
        · have hl4 : ¬ (2000 : Int) < (bt.size : Int) := by rw [HTZ.out]; omega
          have CRX := Lib.hid (CRR.out w10 (by omega))
          clear hl3
          go_wp2_with fail
          refine CRX.out.mono ?_
          rintro e w9 ⟨B1, f1, B2, f2, N2, E2, p2, m2, ok, rfl, hq1, hq2, hb9, hro⟩
          have HB9 := Lib.hid (below_then HB10.out hb9)
          have XB9 := Lib.hid (XB10.out.below hb9)
          have HQ1 := Lib.hid hq1
          have HQ2 := Lib.hid hq2
          have HP1 := Lib.hid (HR110.out.below hb9)
          have HP2 := Lib.hid (HR210.out.below hb9)
          have HRO := Lib.hid hro
          unfold gv
          clear hq1 hq2 hb9 hro z1 z2 z3 z4 CRX
          obtain ⟨i1, i2, i3, i4, i5⟩ := box_four w9 (.slice B1 N2.length f1) (.slice B2 E2.length f2) (.int .u64 (p2 : Int)) (.int .u64 (m2 : Int)) 43
          have HBX := Lib.hid (below_then HB9.out i5)
          have XBX := Lib.hid (XB9.out.below i5)
          have HQ1X := Lib.hid (HQ1.out.below i5)
          have HQ2X := Lib.hid (HQ2.out.below i5)
          have HP1X := Lib.hid (HP1.out.below i5)
          have HP2X := Lib.hid (HP2.out.below i5)
          obtain ⟨z1, z2, z3, z4⟩ := XBX.out
          clear i5
          cases ok with
          | false =>
            have HZ : Hid (er = 3 ∧ N' = [] ∧ E' = [] ∧ p' = 0 ∧ m' = 0) := Lib.hid (by
              have h1 := HOO.out
              have h2 : refRead t = none := HRO.out.1
              rw [h2] at h1
              exact h1)
            obtain ⟨rfl, rfl, rfl, rfl, rfl⟩ := HZ.out
            go_wp2_with fail
            refine (CSZ.out _ _ _ _ _).mono ?_
            rintro e u9 ⟨rfl, hb9⟩
            have HBZ := Lib.hid (below_then HBX.out hb9)
            clear hb9
            go_wp2_with fail
            go_ret
            exact ⟨rfl, HBZ.out⟩
          | true =>
            have HZ : Hid (er = 0 ∧ (N', E', p', m') = (N2, E2, p2, m2)) := Lib.hid (by
              have h1 := HOO.out
              have h2 : refRead t = some (N2, E2, p2, m2) := HRO.out
              rw [h2] at h1
              exact h1)
            obtain ⟨rfl, hz⟩ := HZ.out
            injection hz with h1 hz
            injection hz with h2 hz
            injection hz with h3 h4
            subst h1 h2 h3 h4
            have HOLEN : Hid (N'.length ≤ 64 ∧ E'.length ≤ 4096) := Lib.hid (by
              obtain ⟨k1, k2, k3, _⟩ := (refRead_reads t).1 _ _ _ _ (show refRead t = some (N', E', p', m') from HRO.out)
              have hk := gOk k2 k3 k1
              exact ⟨hk.n64, edges_le hk.n64 hk.out hk.ris⟩)
            have CSG := Lib.hid (sameGraph_any (c1 := d1) (c2 := d2) (d1 := f1) (d2 := f2) N' E' p' m' _ HP1X.out HP2X.out HQ1X.out HQ2X.out (by have := HOLEN.out.1; omega) (by have := HOLEN.out.2; omega))
            unfold gv at CSG
            go_wp2_with fail
            refine CSG.out.mono ?_
            rintro e u9 ⟨rfl, hb9⟩
            have HBZ := Lib.hid (below_then HBX.out hb9)
            clear hb9
            go_wp2_with fail
            go_ret
            exact ⟨rfl, HBZ.out⟩
    · have hpe : pe = 4 := by rw [HPP.out, HPE.out, if_pos HE.out, if_neg hms]
      subst hpe
      rw [if_neg hms]
      have hbT : bT = ⟨#[]⟩ := by rw [← HBT.out, HTT.out, if_neg (by decide)]
      subst hbT
      clear hms
      clear g1 g2 g3 g4
      obtain ⟨z1, z2, z3, z4⟩ := XB7.out
      by_cases hl : 400000 < t.length
      · have hl2 : (400000 : Int) < (bt.size : Int) := by rw [HTZ.out]; omega
        obtain ⟨rfl, rfl, rfl, rfl, rfl⟩ := out_large HO.out hl
        clear hl
        go_wp2_with fail
        refine (CSZ.out _ _ _ _ _).mono ?_
        rintro e u9 ⟨rfl, hb9⟩
        have HB9 := Lib.hid (below_then HB7.out hb9)
        clear hb9
        go_wp2_with fail
        go_ret
        exact ⟨rfl, HB9.out⟩
      · have hl2 : ¬ (400000 : Int) < (bt.size : Int) := by rw [HTZ.out]; omega
        have HOO := Lib.hid (out_reads HO.out hl)
        clear hl
        by_cases hl3 : 2000 < t.length
        · have hl4 : (2000 : Int) < (bt.size : Int) := by rw [HTZ.out]; omega
          clear hl3
          go_wp2_with fail
          go_ret
          exact ⟨rfl, HB7.out⟩
        · have hl4 : ¬ (2000 : Int) < (bt.size : Int) := by rw [HTZ.out]; omega
          have CRX := Lib.hid (CRR.out w7 (by omega))
          clear hl3
          go_wp2_with fail
          refine CRX.out.mono ?_
          rintro e w9 ⟨B1, f1, B2, f2, N2, E2, p2, m2, ok, rfl, hq1, hq2, hb9, hro⟩
          have HB9 := Lib.hid (below_then HB7.out hb9)
          have XB9 := Lib.hid (XB7.out.below hb9)
          have HQ1 := Lib.hid hq1
          have HQ2 := Lib.hid hq2
          have HP1 := Lib.hid (HR17.out.below hb9)
          have HP2 := Lib.hid (HR27.out.below hb9)
          have HRO := Lib.hid hro
          unfold gv
          clear hq1 hq2 hb9 hro z1 z2 z3 z4 CRX
          obtain ⟨i1, i2, i3, i4, i5⟩ := box_four w9 (.slice B1 N2.length f1) (.slice B2 E2.length f2) (.int .u64 (p2 : Int)) (.int .u64 (m2 : Int)) 43
          have HBX := Lib.hid (below_then HB9.out i5)
          have XBX := Lib.hid (XB9.out.below i5)
          have HQ1X := Lib.hid (HQ1.out.below i5)
          have HQ2X := Lib.hid (HQ2.out.below i5)
          have HP1X := Lib.hid (HP1.out.below i5)
          have HP2X := Lib.hid (HP2.out.below i5)
          obtain ⟨z1, z2, z3, z4⟩ := XBX.out
          clear i5
          cases ok with
          | false =>
            have HZ : Hid (er = 3 ∧ N' = [] ∧ E' = [] ∧ p' = 0 ∧ m' = 0) := Lib.hid (by
              have h1 := HOO.out
              have h2 : refRead t = none := HRO.out.1
              rw [h2] at h1
              exact h1)
            obtain ⟨rfl, rfl, rfl, rfl, rfl⟩ := HZ.out
            go_wp2_with fail
            refine (CSZ.out _ _ _ _ _).mono ?_
            rintro e u9 ⟨rfl, hb9⟩
            have HBZ := Lib.hid (below_then HBX.out hb9)
            clear hb9
            go_wp2_with fail
            go_ret
            exact ⟨rfl, HBZ.out⟩
          | true =>
            have HZ : Hid (er = 0 ∧ (N', E', p', m') = (N2, E2, p2, m2)) := Lib.hid (by
              have h1 := HOO.out
              have h2 : refRead t = some (N2, E2, p2, m2) := HRO.out
              rw [h2] at h1
              exact h1)
            obtain ⟨rfl, hz⟩ := HZ.out
            injection hz with h1 hz
            injection hz with h2 hz
            injection hz with h3 h4
            subst h1 h2 h3 h4
            have HOLEN : Hid (N'.length ≤ 64 ∧ E'.length ≤ 4096) := Lib.hid (by
              obtain ⟨k1, k2, k3, _⟩ := (refRead_reads t).1 _ _ _ _ (show refRead t = some (N', E', p', m') from HRO.out)
              have hk := gOk k2 k3 k1
              exact ⟨hk.n64, edges_le hk.n64 hk.out hk.ris⟩)
            have CSG := Lib.hid (sameGraph_any (c1 := d1) (c2 := d2) (d1 := f1) (d2 := f2) N' E' p' m' _ HP1X.out HP2X.out HQ1X.out HQ2X.out (by have := HOLEN.out.1; omega) (by have := HOLEN.out.2; omega))
            unfold gv at CSG
            go_wp2_with fail
            refine CSG.out.mono ?_
            rintro e u9 ⟨rfl, hb9⟩
            have HBZ := Lib.hid (below_then HBX.out hb9)
            clear hb9
            go_wp2_with fail
            go_ret
            exact ⟨rfl, HBZ.out⟩
  · have hpe : pe = grErr N E p m := by rw [HPP.out, HPE.out, if_neg he]
    subst hpe
    have hbT : bT = ⟨#[]⟩ := by rw [← HBT.out, HTT.out, if_neg he]
    subst hbT
    clear HPP HPE HTT HGK CRO CGP
    generalize grErr N E p m = e0 at *
    have k1 : (e0 == 0) = false := by simpa using he
    have k2 : (e0 != 0) = true := by simpa using he
    clear he
    clear g1 g2 g3 g4
    obtain ⟨z1, z2, z3, z4⟩ := XB5.out
    by_cases hl : 400000 < t.length
    · have hl2 : (400000 : Int) < (bt.size : Int) := by rw [HTZ.out]; omega
      obtain ⟨rfl, rfl, rfl, rfl, rfl⟩ := out_large HO.out hl
      clear hl
      go_wp2_with fail
      refine (CSZ.out _ _ _ _ _).mono ?_
      rintro e u9 ⟨rfl, hb9⟩
      have HB9 := Lib.hid (below_then HB5.out hb9)
      clear hb9
      go_wp2_with fail
      go_ret
      exact ⟨rfl, HB9.out⟩
    · have hl2 : ¬ (400000 : Int) < (bt.size : Int) := by rw [HTZ.out]; omega
      have HOO := Lib.hid (out_reads HO.out hl)
      clear hl
      by_cases hl3 : 2000 < t.length
      · have hl4 : (2000 : Int) < (bt.size : Int) := by rw [HTZ.out]; omega
        clear hl3
        go_wp2_with fail
        go_ret
        exact ⟨rfl, HB5.out⟩
      · have hl4 : ¬ (2000 : Int) < (bt.size : Int) := by rw [HTZ.out]; omega
        have CRX := Lib.hid (CRR.out w5 (by omega))
        clear hl3
        go_wp2_with fail
        refine CRX.out.mono ?_
        rintro e w9 ⟨B1, f1, B2, f2, N2, E2, p2, m2, ok, rfl, hq1, hq2, hb9, hro⟩
        have HB9 := Lib.hid (below_then HB5.out hb9)
        have XB9 := Lib.hid (XB5.out.below hb9)
        have HQ1 := Lib.hid hq1
        have HQ2 := Lib.hid hq2
        have HP1 := Lib.hid (HR15.out.below hb9)
        have HP2 := Lib.hid (HR25.out.below hb9)
        have HRO := Lib.hid hro
        unfold gv
        clear hq1 hq2 hb9 hro z1 z2 z3 z4 CRX
        obtain ⟨i1, i2, i3, i4, i5⟩ := box_four w9 (.slice B1 N2.length f1) (.slice B2 E2.length f2) (.int .u64 (p2 : Int)) (.int .u64 (m2 : Int)) 43
        have HBX := Lib.hid (below_then HB9.out i5)
        have XBX := Lib.hid (XB9.out.below i5)
        have HQ1X := Lib.hid (HQ1.out.below i5)
        have HQ2X := Lib.hid (HQ2.out.below i5)
        have HP1X := Lib.hid (HP1.out.below i5)
        have HP2X := Lib.hid (HP2.out.below i5)
        obtain ⟨z1, z2, z3, z4⟩ := XBX.out
        clear i5
        cases ok with
        | false =>
          have HZ : Hid (er = 3 ∧ N' = [] ∧ E' = [] ∧ p' = 0 ∧ m' = 0) := Lib.hid (by
            have h1 := HOO.out
            have h2 : refRead t = none := HRO.out.1
            rw [h2] at h1
            exact h1)
          obtain ⟨rfl, rfl, rfl, rfl, rfl⟩ := HZ.out
          go_wp2_with fail
          refine (CSZ.out _ _ _ _ _).mono ?_
          rintro e u9 ⟨rfl, hb9⟩
          have HBZ := Lib.hid (below_then HBX.out hb9)
          clear hb9
          go_wp2_with fail
          go_ret
          exact ⟨rfl, HBZ.out⟩
        | true =>
          have HZ : Hid (er = 0 ∧ (N', E', p', m') = (N2, E2, p2, m2)) := Lib.hid (by
            have h1 := HOO.out
            have h2 : refRead t = some (N2, E2, p2, m2) := HRO.out
            rw [h2] at h1
            exact h1)
          obtain ⟨rfl, hz⟩ := HZ.out
          injection hz with h1 hz
          injection hz with h2 hz
          injection hz with h3 h4
          subst h1 h2 h3 h4
          have HOLEN : Hid (N'.length ≤ 64 ∧ E'.length ≤ 4096) := Lib.hid (by
            obtain ⟨k1, k2, k3, _⟩ := (refRead_reads t).1 _ _ _ _ (show refRead t = some (N', E', p', m') from HRO.out)
            have hk := gOk k2 k3 k1
            exact ⟨hk.n64, edges_le hk.n64 hk.out hk.ris⟩)
          have CSG := Lib.hid (sameGraph_any (c1 := d1) (c2 := d2) (d1 := f1) (d2 := f2) N' E' p' m' _ HP1X.out HP2X.out HQ1X.out HQ2X.out (by have := HOLEN.out.1; omega) (by have := HOLEN.out.2; omega))
          unfold gv at CSG
          go_wp2_with fail
          refine CSG.out.mono ?_
          rintro e u9 ⟨rfl, hb9⟩
          have HBZ := Lib.hid (below_then HBX.out hb9)
          clear hb9
          go_wp2_with fail
          go_ret
          exact ⟨rfl, HBZ.out⟩
end
theorem dotTells_walk (A1 : Option Addr) (N : List (List UInt8)) (c1 : Nat) (A2 : Option Addr) (E : List EdgeT) (c2 p m s : Nat) (t : List UInt8) (mx : Int) (w : World) (hG : GrIn A1 N.length A2 E.length N E p m w) (hs : s < 18446744073709551616) (ht : t.length ≤ 140737488351232) (hm : w.cell? ⟨1, 0, none⟩ = some (.int .i64 mx)) (hT : Tab w) :
    Calls Tryz.prog 4 #[gv A1 N.length c1 A2 E.length c2 p m, .int .u64 (s : Int), sv t] w fun e w' => e = .returned (.bool true) ∧ Below w.heap.size w w' :=
  dotTells_any w hG s hs t (by omega) mx hm hT (fun W h => rDrawnRead_any t W h)
end Go.Proofs.YtoandhhkmkgmaaaGreatDoor
