/- The law BuildTells: its walk: for every graph, what is seen of it, a set, a time, a made build and times it returns true and leaves what was there. Conditions: the made build's row has at most 2^20 numbers; the table of math/bits lies. -/
import Derived.Test.YtiechbaknolimaaDoorRun3
import Derived.Test.YtiechbaknolimaaDoorRun4
import Derived.Test.YtiechbaknolimaaDoorLog3
namespace Go.Proofs.YtiechbaknolimaaDoor
open Go.RowKit

theorem box_build (w : World) (x1 x2 x3 x4 y1 y2 z1 z2 : Value) (t u b : TypeId) : ∃ w2, w2 = ((w.alloc (.cells #[x1, x2, x3, x4] t)).alloc (.cells #[y1, y2] u)).alloc (.cells #[z1, z2] b) ∧
    GrBox w.heap.size x1 x2 x3 x4 w2 ∧ SeBox (w.heap.size + 1) y1 y2 w2 ∧ SeBox (w.heap.size + 1 + 1) z1 z2 w2 ∧ Below w.heap.size w w2 := by
  obtain ⟨w2, h1, h2, h3, h4, h5⟩ := box_run3 w x1 x2 x3 x4 y1 y2 z1 z2 t u b
  exact ⟨w2, h1, h2, h3, ⟨h4.cell (j := 0) rfl, h4.cell (j := 1) rfl⟩, h5⟩
theorem logV_len {N : List (List UInt8)} {A : List Int} {F : List UInt64} {R : List Int} {e : Int} : (logV N A F R e).length ≤ R.length := by
  unfold logV
  split
  · unfold logL; rw [List.length_map]; exact Nat.le_refl _
  · exact Nat.zero_le _
theorem runV_len {err : Int} {s : Nat} {now : Int} {T : List Int} {L : List Nat} : (runV err s now T L).1.length ≤ L.length ∧ (runV err s now T L).2.length ≤ T.length := by
  unfold runV
  split
  · exact ⟨runL_row L, by rw [runL_len]; exact Nat.le_refl _⟩
  · exact ⟨Nat.zero_le _, Nat.zero_le _⟩
section
variable {A1 A2 A3 AR AT AF : Option Addr} {n k j c1 c2 c3 nr nt nf cr ct cf : Nat} {N : List (List UInt8)} {E : List EdgeT} {p m d : Nat} {T : List Int} {R U : List Int} {F : List UInt64} (w : World) (hG : GrIn A1 n A2 k N E p m w) (hS : SeIn A3 j T d w) (hM : MdIn AR nr AT nt R U w) (hK : TkIn AF nf F w) (hT : Tab w) (u : Nat) (hu : B64 u) (now : Int)
include hG hS hM hK hT hu
set_option maxRecDepth 100000 in
set_option maxHeartbeats 2000000 in
theorem buildTells_any : Calls Tryd.prog 5 #[gv A1 n c1 A2 k c2 p m, sx A3 j c3 d, .int .u64 (u : Int), .int .i64 now, mv AR nr cr AT nt ct, .slice AF nf cf] w fun e w' => e = .returned (.bool true) ∧ Below w.heap.size w w' := by
  have C1 := Lib.hid (fun W (hW : Below w.heap.size w W) => bRun_any (c1 := c1) (c2 := c2) (c3 := c3) W (hG.below hW) (hS.below hW) (hT.below hW) u hu now)
  have C2 := Lib.hid (fun W (hW : Below w.heap.size w W) => rRun_any (c1 := c1) (c2 := c2) (c3 := c3) W (hG.below hW) (hS.below hW) u hu now)
  have C3 := Lib.hid (fun W (hW : Below w.heap.size w W) => bLog_any (c1 := c1) (c2 := c2) (cr := cr) (ct := ct) (cf := cf) W (hG.below hW) (hM.below hW) (hK.below hW))
  have C4 := Lib.hid (fun W (hW : Below w.heap.size w W) => rLog_any (c1 := c1) (c2 := c2) (cr := cr) (ct := ct) (cf := cf) W (hG.below hW) (hM.below hW) (hK.below hW))
  have hlv : (logV N U F R (grErr N E p m)).length ≤ 1048576 := Nat.le_trans logV_len (by rw [hM.rlen]; exact hM.rb)
  have hvv := runV_len (err := runErr (onlyE n E u (seErr N E p m T d)) now T) (s := onlyV n E T p m d u (seErr N E p m T d)) (now := now) (T := T) (L := ordL (rowsG n E))
  have hv1 : (runV (runErr (onlyE n E u (seErr N E p m T d)) now T) (onlyV n E T p m d u (seErr N E p m T d)) now T (ordL (rowsG n E))).1.length ≤ 9223372036854775807 := by
    by_cases he : runErr (onlyE n E u (seErr N E p m T d)) now T = 0
    · have hs0 : seErr N E p m T d = 0 := by
        apply Classical.byContradiction
        intro hc
        unfold runErr onlyE at he
        rw [if_neg hc, if_pos hc] at he
        exact hc he
      obtain ⟨hg0, hjn, _, _, hr0⟩ := se_ok hG.nlen hS.tlen hs0
      obtain ⟨hn64, _, _, hout, _, _⟩ := gr_ok hg0
      rw [hG.nlen] at hn64 hout
      have := ord_len (rowsG_good (E := E) hn64 hout)
      rw [rowsG_len] at this
      omega
    · unfold runV
      rw [if_neg he]
      exact Nat.zero_le _
  have hv2 : (runV (runErr (onlyE n E u (seErr N E p m T d)) now T) (onlyV n E T p m d u (seErr N E p m T d)) now T (ordL (rowsG n E))).2.length ≤ 9223372036854775807 := by have := hS.tlen; have := hS.tb; omega
  clear hvv
  generalize runV (runErr (onlyE n E u (seErr N E p m T d)) now T) (onlyV n E T p m d u (seErr N E p m T d)) now T (ordL (rowsG n E)) = V at *
  generalize runErr (onlyE n E u (seErr N E p m T d)) now T = er at *
  have HLV := Lib.hid hlv
  have HV1 := Lib.hid hv1
  have HV2 := Lib.hid hv2
  have hee : (er == er) = true := by simp
  unfold gv sx mv at *
  obtain ⟨w2, hw2, x0, y0, v0, z0⟩ := box_build w (.slice A1 n c1) (.slice A2 k c2) (.int .u64 (p : Int)) (.int .u64 (m : Int)) (.slice A3 j c3) (.int .u64 (d : Int)) (.slice AR nr cr) (.slice AT nt ct) 26 48 58
  have X2 := Lib.hid x0
  have Y2 := Lib.hid y0
  have M2 := Lib.hid v0
  have B2 := Lib.hid z0
  have HW2 := Lib.hid hw2
  clear hG hS hM hK hT hu x0 y0 v0 z0 hw2 hlv hv1 hv2
  go_enter Tryd.func5, Tryd.ntmps5
  go_upto_region 1 with fail
  rw [← HW2.out]
  generalize w.heap.size + 1 = BS at *
  generalize BS + 1 = BM at *
  clear HW2
  obtain ⟨x1, x2, x3, x4⟩ := X2.out
  obtain ⟨y1, y2⟩ := Y2.out
  obtain ⟨m1, m2⟩ := M2.out
  go_wp2_with fail
  refine (C1.out _ B2.out).mono ?_
  rintro e w3 ⟨D1, k1, d1, D2, j1, d2, rfl, hk1, hj1, q1, q2, hb3⟩
  subst hk1 hj1
  have B3 := Lib.hid (below_new (below_then B2.out hb3) (.cells #[.slice D1 V.1.length d1, .slice D2 V.2.length d2] 58))
  have hb3' := below_new hb3 (.cells #[.slice D1 V.1.length d1, .slice D2 V.2.length d2] 58)
  have X3 := Lib.hid (X2.out.below hb3')
  have Y3 := Lib.hid (Y2.out.below hb3')
  have M3 := Lib.hid (M2.out.below hb3')
  have hk0 := Blk.new w3 #[.slice D1 V.1.length d1, .slice D2 V.2.length d2] 58
  have K3 : Hid (SeBox w3.heap.size (.slice D1 V.1.length d1) (.slice D2 V.2.length d2) (w3.alloc (.cells #[.slice D1 V.1.length d1, .slice D2 V.2.length d2] 58))) := Lib.hid ⟨hk0.cell (j := 0) rfl, hk0.cell (j := 1) rfl⟩
  have HQ1 := Lib.hid (q1.alloc (.cells #[.slice D1 V.1.length d1, .slice D2 V.2.length d2] 58))
  have HQ2 := Lib.hid (q2.alloc (.cells #[.slice D1 V.1.length d1, .slice D2 V.2.length d2] 58))
  clear hb3 hb3' hk0 q1 q2 x1 x2 x3 x4 y1 y2 m1 m2 X2 Y2 M2 C1
  go_upto_region 2 with fail
  generalize w3.alloc (.cells #[.slice D1 V.1.length d1, .slice D2 V.2.length d2] 58) = w3a at *
  generalize w3.heap.size = b13 at *
  obtain ⟨x1, x2, x3, x4⟩ := X3.out
  obtain ⟨y1, y2⟩ := Y3.out
  go_wp2_with fail
  refine (C2.out _ B3.out).mono ?_
  rintro e w4 ⟨D3, k3, d3, D4, j4, d4, rfl, hk1, hj1, q1, q2, hb4⟩
  subst hk1 hj1
  have B4 := Lib.hid (below_new (below_then B3.out hb4) (.cells #[.slice D3 V.1.length d3, .slice D4 V.2.length d4] 58))
  have hb4' := below_new hb4 (.cells #[.slice D3 V.1.length d3, .slice D4 V.2.length d4] 58)
  have X4 := Lib.hid (X3.out.below hb4')
  have M4 := Lib.hid (M3.out.below hb4')
  have K4 := Lib.hid (K3.out.below hb4')
  have hk0 := Blk.new w4 #[.slice D3 V.1.length d3, .slice D4 V.2.length d4] 58
  have J4 : Hid (SeBox w4.heap.size (.slice D3 V.1.length d3) (.slice D4 V.2.length d4) (w4.alloc (.cells #[.slice D3 V.1.length d3, .slice D4 V.2.length d4] 58))) := Lib.hid ⟨hk0.cell (j := 0) rfl, hk0.cell (j := 1) rfl⟩
  have HQ1' := Lib.hid (HQ1.out.below hb4')
  have HQ2' := Lib.hid (HQ2.out.below hb4')
  have HQ3 := Lib.hid (q1.alloc (.cells #[.slice D3 V.1.length d3, .slice D4 V.2.length d4] 58))
  have HQ4 := Lib.hid (q2.alloc (.cells #[.slice D3 V.1.length d3, .slice D4 V.2.length d4] 58))
  clear hb4 hb4' hk0 q1 q2 x1 x2 x3 x4 y1 y2 X3 Y3 M3 K3 C2 HQ1 HQ2
  go_upto_region 3 with fail
  generalize w4.alloc (.cells #[.slice D3 V.1.length d3, .slice D4 V.2.length d4] 58) = w4a at *
  generalize w4.heap.size = b15 at *
  obtain ⟨x1, x2, x3, x4⟩ := X4.out
  obtain ⟨m1, m2⟩ := M4.out
  go_wp2_with fail
  refine (C3.out _ B4.out).mono ?_
  rintro e w5 ⟨L1, l1, rfl, q5, hb5⟩
  have B5 := Lib.hid (below_then B4.out hb5)
  have X5 := Lib.hid (X4.out.below hb5)
  have M5 := Lib.hid (M4.out.below hb5)
  have K5 := Lib.hid (K4.out.below hb5)
  have J5 := Lib.hid (J4.out.below hb5)
  have P1 := Lib.hid (HQ1'.out.below hb5)
  have P2 := Lib.hid (HQ2'.out.below hb5)
  have P3 := Lib.hid (HQ3.out.below hb5)
  have P4 := Lib.hid (HQ4.out.below hb5)
  have HL5 := Lib.hid q5
  clear hb5 q5 x1 x2 x3 x4 m1 m2 X4 M4 K4 J4 C3 HQ1' HQ2' HQ3 HQ4
  obtain ⟨x1, x2, x3, x4⟩ := X5.out
  obtain ⟨m1, m2⟩ := M5.out
  go_wp2_with fail
  refine (C4.out _ B5.out).mono ?_
  rintro e w6 ⟨L2, l2, rfl, q6, hb6⟩
  have B6 := Lib.hid (below_then B5.out hb6)
  have K6 := Lib.hid (K5.out.below hb6)
  have J6 := Lib.hid (J5.out.below hb6)
  have P1' := Lib.hid (P1.out.below hb6)
  have P2' := Lib.hid (P2.out.below hb6)
  have P3' := Lib.hid (P3.out.below hb6)
  have P4' := Lib.hid (P4.out.below hb6)
  have HL5' := Lib.hid (HL5.out.below hb6)
  have HL6 := Lib.hid q6
  clear hb6 q6 x1 x2 x3 x4 m1 m2 X5 M5 K5 J5 C4 P1 P2 P3 P4 HL5
  obtain ⟨k1, k2⟩ := K6.out
  obtain ⟨j1, j2⟩ := J6.out
  have hll : (logErr N U F R (grErr N E p m) == logErr N U F R (grErr N E p m)) = true := by simp
  generalize logErr N U F R (grErr N E p m) = el at *
  have HSM := Lib.hid (sameMade_any (c1 := d1) (c2 := d2) (d1 := d3) (d2 := d4) V w6 P1'.out P2'.out P3'.out P4'.out rfl rfl HV1.out HV2.out)
  go_wp2_with fail
  refine HSM.out.mono ?_
  rintro e w7 ⟨rfl, hb7⟩
  have B7 := Lib.hid (below_then B6.out hb7)
  have HST := Lib.hid (sameStamps_any (c := l1) (d := l2) (logV N U F R (grErr N E p m)) w7 (HL5'.out.below hb7) (HL6.out.below hb7) rfl (by have := HLV.out; omega))
  clear hb7
  go_wp2_with fail
  refine HST.out.mono ?_
  rintro e w8 ⟨rfl, hb8⟩
  have B8 := Lib.hid (below_then B7.out hb8)
  clear hb8
  go_wp2_with fail
  go_ret
  exact ⟨rfl, B8.out⟩
end
theorem buildTells_walk (A0 : Option Addr) (N : List (List UInt8)) (c0 : Nat) (B0 : Option Addr) (E : List EdgeT) (e0 p m : Nat) (A1 : Option Addr) (T : List Int) (c1 d u : Nat) (now : Int) (A4 : Option Addr) (R : List Int) (c4 : Nat) (B4 : Option Addr) (U : List Int) (d4 : Nat) (A5 : Option Addr) (c5 : Nat) (F : List UInt64) (w : World)
    (hG : GrIn A0 N.length B0 E.length N E p m w) (hS : SeIn A1 T.length T d w) (hu : u < 18446744073709551616) (_ : (Lit.int .i64 now).wf = true) (hr : Rd w A4 (R.map (.int .i64))) (ht : Rd w B4 (U.map (.int .i64))) (htb : U.length ≤ 9223372036854775807) (hf : Rd w A5 (F.map fv)) (hfb : F.length * 8 ≤ 140737488351232) (hsm : R.length ≤ 1048576) (hT : Tab w) :
    Calls Tryd.prog 5 #[gv A0 N.length c0 B0 E.length e0 p m, sx A1 T.length c1 d, .int .u64 (u : Int), .int .i64 now, mv A4 R.length c4 B4 U.length d4, .slice A5 F.length c5] w fun e w' => e = .returned (.bool true) ∧ Below w.heap.size w w' :=
  buildTells_any w hG hS ⟨hr, rfl, hsm, ht, rfl, htb⟩ ⟨hf, rfl, by omega⟩ hT u hu now
end Go.Proofs.YtiechbaknolimaaDoor
