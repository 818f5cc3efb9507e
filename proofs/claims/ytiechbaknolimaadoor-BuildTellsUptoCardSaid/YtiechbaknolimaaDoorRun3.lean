/- Contract: build.Run. The table of math/bits lies. -/
import Derived.Test.YtiechbaknolimaaDoorRun1
import Derived.Test.YtiechbaknolimaaDoorSt2
import Derived.Test.YtiechbaknolimaaDoorOwnAt
import Derived.Test.YtiechbaknolimaaDoorOrd
namespace Go.Proofs.YtiechbaknolimaaDoor
open Go.RowKit

def nowBad (now : Int) (T : List Int) : Bool := decide (now < 0) || decide (1099511627712 < now) || T.any (late now)
def runErr (e0 now : Int) (T : List Int) : Int := if e0 ≠ 0 then e0 else if nowBad now T then 4 else 0
def runV (err : Int) (s : Nat) (now : Int) (T : List Int) (L : List Nat) : MadeT := if err = 0 then runL s now T L else ([], [])
def RunPost (err : Int) (V : MadeT) (w : World) (e : Ending) (w' : World) : Prop :=
  ∃ A1 k c1 A2 j c2, e = .returned (.tuple #[.agg #[.slice A1 k c1, .slice A2 j c2], .int .i64 err]) ∧ V.1.length = k ∧ V.2.length = j ∧ Rd w' A1 (V.1.map nv) ∧ Rd w' A2 (V.2.map (.int .i64)) ∧ Below w.heap.size w w'
theorem runPost_no {err s now T L} {w : World} {e : Ending} {w' : World} (hn : err ≠ 0) (he : e = .returned (.tuple #[.agg #[.slice none 0 0, .slice none 0 0], .int .i64 err])) (hb : Below w.heap.size w w') : RunPost err (runV err s now T L) w e w' := by
  unfold runV
  rw [if_neg hn]
  exact ⟨none, 0, 0, none, 0, 0, he, rfl, rfl, Rd.nil_ _ _, Rd.nil_ _ _, hb⟩
theorem box_run (w : World) (x1 x2 x3 x4 y1 y2 z v1 v2 : Value) (t u a b : TypeId) : ∃ w2, w2 = (((w.alloc (.cells #[x1, x2, x3, x4] t)).alloc (.cells #[y1, y2] u)).alloc (.cells #[z] a)).alloc (.cells #[v1, v2] b) ∧
    GrBox w.heap.size x1 x2 x3 x4 w2 ∧ SeBox (w.heap.size + 1) y1 y2 w2 ∧ Blk w2 (w.heap.size + 1 + 1) a [z] ∧ Blk w2 (w.heap.size + 1 + 1 + 1) b [v1, v2] ∧ Below w.heap.size w w2 := by
  obtain ⟨h1, h2, h3⟩ := box_six w x1 x2 x3 x4 y1 y2 t u
  refine ⟨_, rfl, ?_, ?_, ?_, ?_, ?_⟩
  · exact (h1.below (below_new (below_new (Below.refl _ _) _) _))
  · exact (h2.below (below_new (below_new (Below.refl _ _) _) _))
  · have := Blk.new ((w.alloc (.cells #[x1, x2, x3, x4] t)).alloc (.cells #[y1, y2] u)) #[z] a
    have h4 := this.below (below_new (Below.refl _ _) (.cells #[v1, v2] b)) (by simp)
    simpa using h4
  · have := Blk.new (((w.alloc (.cells #[x1, x2, x3, x4] t)).alloc (.cells #[y1, y2] u)).alloc (.cells #[z] a)) #[v1, v2] b
    simpa using this
  · exact below_new (below_new h3 _) _
theorem only_b64 {n : Nat} {E : List EdgeT} {T : List Int} {p m d u : Nat} {e : Int} (hg : Good (rowsG n E)) (hr : ordR (rowsG n E) = 0) : B64 (onlyV n E T p m d u e) := by
  unfold onlyV
  split
  · split
    · exact B64.and' (stale_b64 hg hr)
    · exact B64.of (by decide)
  · exact B64.of (by decide)
section
variable {A1 A2 A3 : Option Addr} {n k j c1 c2 c3 : Nat} {N : List (List UInt8)} {E : List EdgeT} {p m d : Nat} {T : List Int} (w : World) (hG : GrIn A1 n A2 k N E p m w) (hS : SeIn A3 j T d w) (hT : Tab w) (u : Nat) (hu : B64 u) (now : Int)
include hG hS hT hu
set_option maxRecDepth 100000 in
set_option maxHeartbeats 2000000 in
theorem bRun_any : Calls Tryd.prog 26 #[gv A1 n c1 A2 k c2 p m, sx A3 j c3 d, .int .u64 (u : Int), .int .i64 now] w
    (RunPost (runErr (onlyE n E u (seErr N E p m T d)) now T) (runV (runErr (onlyE n E u (seErr N E p m T d)) now T) (onlyV n E T p m d u (seErr N E p m T d)) now T (ordL (rowsG n E))) w) := by
  have C1 := Lib.hid (fun W (hW : Below w.heap.size w W) => stOnly_any (c1 := c1) (c2 := c2) (c3 := c3) W (hG.below hW) (hS.below hW) (hT.below hW) u hu)
  obtain ⟨s, hs⟩ : ∃ s, s = onlyV n E T p m d u (seErr N E p m T d) := ⟨_, rfl⟩
  obtain ⟨e0, he⟩ : ∃ e0, e0 = onlyE n E u (seErr N E p m T d) := ⟨_, rfl⟩
  rw [← hs, ← he] at C1 ⊢
  have HS0 := Lib.hid hs
  have HE0 := Lib.hid he
  clear hs he
  have HG := Lib.hid hG
  have HS := Lib.hid hS
  have HT := Lib.hid hT
  have HU := Lib.hid hu
  unfold gv sx at *
  obtain ⟨w2, hw2, x0, y0, n0, r0, z0⟩ := box_run w (.slice A1 n c1) (.slice A2 k c2) (.int .u64 (p : Int)) (.int .u64 (m : Int)) (.slice A3 j c3) (.int .u64 (d : Int)) (.int .i64 now) (.slice none 0 0) (.slice none 0 0) 26 48 2 58
  have X2 := Lib.hid x0
  have Y2 := Lib.hid y0
  have N2 := Lib.hid n0
  have R2 := Lib.hid r0
  have B2 := Lib.hid z0
  have HW2 := Lib.hid hw2
  clear hG hS hT hu x0 y0 n0 r0 z0 hw2
  go_enter Tryd.func26, Tryd.ntmps26
  go_upto_region 1 with fail
  rw [← HW2.out]
  have HSZ : Hid (w2.heap.size = w.heap.size + 4) := Lib.hid (by rw [HW2.out]; simp)
  generalize hBS : w.heap.size + 1 = BS at *
  generalize hBn : BS + 1 = Bn at *
  generalize hBr : Bn + 1 = Br at *
  have HBn := Lib.hid hBn
  have HBr := Lib.hid hBr
  have HBS := Lib.hid hBS
  have ne1 : Bn ≠ Br := by omega
  clear hBS hBn hBr HW2
  obtain ⟨x1, x2, x3, x4⟩ := X2.out
  obtain ⟨y1, y2⟩ := Y2.out
  go_wp2_with fail
  refine (C1.out _ B2.out).mono ?_
  rintro e w3 ⟨rfl, hb3⟩
  have B3 := Lib.hid (below_then B2.out hb3)
  have X3 := Lib.hid (X2.out.below hb3)
  have Y3 := Lib.hid (Y2.out.below hb3)
  have N3 := Lib.hid (N2.out.below hb3 N2.out.lt)
  have R3 := Lib.hid (R2.out.below hb3 R2.out.lt)
  clear hb3 x1 x2 x3 x4 y1 y2 X2 Y2 C1
  obtain ⟨x1, x2, x3, x4⟩ := X3.out
  obtain ⟨y1, y2⟩ := Y3.out
  have n1 := N3.out.cell (j := 0) rfl
  have r1 := R3.out.cell (j := 0) rfl
  have r2 := R3.out.cell (j := 1) rfl
  have rf := R3.out.free
  by_cases h0 : e0 = 0
  case neg =>
    have HE : Hid (runErr e0 now T = e0) := Lib.hid (by unfold runErr; rw [if_pos h0])
    have HN0 := Lib.hid h0
    go_wp2_with fail
    have R4 := Lib.hid ((R3.out.same 0 (.slice none 0 0)).same 1 (.slice none 0 0))
    have B4 : Hid (Below w.heap.size w ((w3.setCell ⟨Br, 0, none⟩ (.slice none 0 0)).setCell ⟨Br, 1, none⟩ (.slice none 0 0))) := Lib.hid ((B3.out.setCell (by show w.heap.size ≤ Br; have := HBn.out; have := HBr.out; have := HBS.out; omega) _).setCell (by show w.heap.size ≤ Br; have := HBn.out; have := HBr.out; have := HBS.out; omega) _)
    generalize (w3.setCell ⟨Br, 0, none⟩ (.slice none 0 0)).setCell ⟨Br, 1, none⟩ (.slice none 0 0) = w4 at *
    have q1 := R4.out.cell (j := 0) rfl
    have q2 := R4.out.cell (j := 1) rfl
    refine bodyPost_ret (v := .tuple #[.agg #[.slice none 0 0, .slice none 0 0], .int .i64 e0]) (by simp [results, Tryd.results26, go_sem, q1, q2]) rfl ?_
    exact runPost_no (by rw [HE.out]; exact HN0.out) (by rw [HE.out]) B4.out
  subst h0
  obtain ⟨hse, hfu⟩ : seErr N E p m T d = 0 ∧ faultOf (rowsG n E) [u] = 0 := by
    have h := HE0.out
    unfold onlyE at h
    by_cases h1 : seErr N E p m T d = 0
    · rw [if_pos h1] at h
      by_cases h2 : faultOf (rowsG n E) [u] = 0
      · exact ⟨h1, h2⟩
      · rw [if_neg h2] at h; exact absurd h.symm h2
    · rw [if_neg h1] at h; exact absurd h.symm h1
  obtain ⟨hg0, hjn, _, _, hr0⟩ := se_ok HG.out.nlen HS.out.tlen hse
  obtain ⟨hn64, _, _, hout, _, _⟩ := gr_ok hg0
  rw [HG.out.nlen] at hn64 hout
  subst hjn
  have HGD : Hid (Good (rowsG j E)) := Lib.hid (rowsG_good hn64 hout)
  have HRL : Hid ((rowsG j E).length = j) := Lib.hid (rowsG_len j E)
  have HF0 : Hid (faultOf (rowsG j E) [] = 0) := Lib.hid (good_fault HGD.out)
  have HR0 := Lib.hid hr0
  have HG0 := Lib.hid hg0
  clear hr0 hg0 hout hse hfu
  by_cases h1 : now < 0
  · have HE : Hid (runErr 0 now T = 4) := Lib.hid (by unfold runErr nowBad; simp [h1])
    go_wp2_with fail
    have R4 := Lib.hid ((R3.out.same 0 (.slice none 0 0)).same 1 (.slice none 0 0))
    have B4 : Hid (Below w.heap.size w ((w3.setCell ⟨Br, 0, none⟩ (.slice none 0 0)).setCell ⟨Br, 1, none⟩ (.slice none 0 0))) := Lib.hid ((B3.out.setCell (by show w.heap.size ≤ Br; have := HBn.out; have := HBr.out; have := HBS.out; omega) _).setCell (by show w.heap.size ≤ Br; have := HBn.out; have := HBr.out; have := HBS.out; omega) _)
    generalize (w3.setCell ⟨Br, 0, none⟩ (.slice none 0 0)).setCell ⟨Br, 1, none⟩ (.slice none 0 0) = w4 at *
    have q1 := R4.out.cell (j := 0) rfl
    have q2 := R4.out.cell (j := 1) rfl
    refine bodyPost_ret (v := .tuple #[.agg #[.slice none 0 0, .slice none 0 0], .int .i64 4]) (by simp [results, Tryd.results26, go_sem, q1, q2]) rfl ?_
    exact runPost_no (by rw [HE.out]; decide) (by rw [HE.out]) B4.out
  by_cases h2 : 1099511627712 < now
  · have HE : Hid (runErr 0 now T = 4) := Lib.hid (by unfold runErr nowBad; simp [h2])
    have h1' : ¬ now < 0 := h1
    go_wp2_with fail
    have R4 := Lib.hid ((R3.out.same 0 (.slice none 0 0)).same 1 (.slice none 0 0))
    have B4 : Hid (Below w.heap.size w ((w3.setCell ⟨Br, 0, none⟩ (.slice none 0 0)).setCell ⟨Br, 1, none⟩ (.slice none 0 0))) := Lib.hid ((B3.out.setCell (by show w.heap.size ≤ Br; have := HBn.out; have := HBr.out; have := HBS.out; omega) _).setCell (by show w.heap.size ≤ Br; have := HBn.out; have := HBr.out; have := HBS.out; omega) _)
    generalize (w3.setCell ⟨Br, 0, none⟩ (.slice none 0 0)).setCell ⟨Br, 1, none⟩ (.slice none 0 0) = w4 at *
    have q1 := R4.out.cell (j := 0) rfl
    have q2 := R4.out.cell (j := 1) rfl
    refine bodyPost_ret (v := .tuple #[.agg #[.slice none 0 0, .slice none 0 0], .int .i64 4]) (by simp [results, Tryd.results26, go_sem, q1, q2]) rfl ?_
    exact runPost_no (by rw [HE.out]; decide) (by rw [HE.out]) B4.out
  have HLT := Lib.hid (fun (W : World) (hx : Rd W A3 (T.map (.int .i64))) hc => lates_any (c := c3) Bn now T W hx HS.out.tlen HS.out.tb hc)
  have HRW := Lib.hid (fun W (hW : Below w.heap.size w W) => gRows_good (c1 := c1) (c2 := c2) W (HG.out.below hW) HG0.out)
  unfold gv at HRW
  go_wp2_with fail
  refine (HLT.out w3 (HS.out.at_.below B3.out) n1).mono ?_
  rintro e w4 ⟨rfl, hb4⟩
  have B4' := Lib.hid (below_then B3.out hb4)
  have X4 := Lib.hid (X3.out.below hb4)
  have Y4 := Lib.hid (Y3.out.below hb4)
  have N4 := Lib.hid (N3.out.below hb4 N3.out.lt)
  have R4' := Lib.hid (R3.out.below hb4 R3.out.lt)
  clear hb4 x1 x2 x3 x4 y1 y2 X3 Y3 n1 r1 r2 rf N3 R3 HLT
  obtain ⟨x1, x2, x3, x4⟩ := X4.out
  obtain ⟨y1, y2⟩ := Y4.out
  have n1 := N4.out.cell (j := 0) rfl
  have r1 := R4'.out.cell (j := 0) rfl
  have r2 := R4'.out.cell (j := 1) rfl
  have rf := R4'.out.free
  cases hl : T.any (late now) with
  | true =>
    have HE : Hid (runErr 0 now T = 4) := Lib.hid (by unfold runErr nowBad; simp [hl])
    clear hl
    go_wp2_with fail
    have R4 := Lib.hid ((R4'.out.same 0 (.slice none 0 0)).same 1 (.slice none 0 0))
    have B4 : Hid (Below w.heap.size w ((w4.setCell ⟨Br, 0, none⟩ (.slice none 0 0)).setCell ⟨Br, 1, none⟩ (.slice none 0 0))) := Lib.hid ((B4'.out.setCell (by show w.heap.size ≤ Br; have := HBn.out; have := HBr.out; have := HBS.out; omega) _).setCell (by show w.heap.size ≤ Br; have := HBn.out; have := HBr.out; have := HBS.out; omega) _)
    generalize (w4.setCell ⟨Br, 0, none⟩ (.slice none 0 0)).setCell ⟨Br, 1, none⟩ (.slice none 0 0) = wz at *
    have q1 := R4.out.cell (j := 0) rfl
    have q2 := R4.out.cell (j := 1) rfl
    refine bodyPost_ret (v := .tuple #[.agg #[.slice none 0 0, .slice none 0 0], .int .i64 4]) (by simp [results, Tryd.results26, go_sem, q1, q2]) rfl ?_
    exact runPost_no (by rw [HE.out]; decide) (by rw [HE.out]) B4.out
  | false =>
    have HE : Hid (runErr 0 now T = 0) := Lib.hid (by unfold runErr nowBad; simp [h1, h2, hl])
    clear hl
    go_wp2_with fail
    refine (HRW.out w4 B4'.out).mono ?_
    rintro e w5 ⟨AW, cW, rfl, hown5, hb5⟩
    have B5 := Lib.hid (below_then B4'.out hb5)
    have Y5 := Lib.hid (Y4.out.below hb5)
    have N5 := Lib.hid (N4.out.below hb5 N4.out.lt)
    have R5 := Lib.hid (R4'.out.below hb5 R4'.out.lt)
    have HRD5 := Lib.hid (Rd.of_own hown5)
    have HN5 : Hid (Bn < w5.heap.size ∧ Br < w5.heap.size) := Lib.hid ⟨N5.out.lt, R5.out.lt⟩
    clear hown5 hb5 x1 x2 x3 x4 y1 y2 X4 Y4 n1 r1 r2 rf N4 R4' HRW
    obtain ⟨y1, y2⟩ := Y5.out
    go_wp2_with fail
    refine (pOrder_good (c := cW) (rowsG j E) w5 HRD5.out HRL.out (by omega) HGD.out.b64 HF0.out (HT.out.below B5.out) HR0.out).mono ?_
    rintro e w6 ⟨AO, cO, rfl, hownO, hb6⟩
    have B6 := Lib.hid (below_then B5.out hb6)
    have Y6 := Lib.hid (Y5.out.below hb6)
    have N6 := Lib.hid (N5.out.below hb6 N5.out.lt)
    have R6 := Lib.hid (R5.out.below hb6 R5.out.lt)
    have HOW6 := Lib.hid hownO
    have HSZ6 := Lib.hid hb6.size
    clear hownO hb6 y1 y2 Y5 N5 R5 HRD5
    obtain ⟨y1, y2⟩ := Y6.out
    go_wp2_with fail
    refine (iClone_any (c := c3) T w6 (HS.out.at_.below B6.out) HS.out.tlen (by omega)).mono ?_
    rintro e w7 ⟨AT, cT, rfl, hownT, hb7⟩
    have B7 := Lib.hid (below_then B6.out hb7)
    have N7 := Lib.hid (N6.out.below hb7 N6.out.lt)
    have R7 := Lib.hid (R6.out.below hb7 R6.out.lt)
    have HOW7 := Lib.hid (own_below HOW6.out hb7)
    have HOT7 := Lib.hid hownT
    have HSZ7 := Lib.hid hb7.size
    clear hownT hb7 y1 y2 Y6 N6 R6
    go_wp2_with fail
    have hnow : 0 ≤ now ∧ now ≤ 1099511627712 := by omega
    have HLO : Hid ((ordL (rowsG j E)).length = j) := Lib.hid (by have := (ord_full HGD.out).2 HR0.out; rw [HRL.out] at this; exact this)
    have HX : Hid (∀ (q x : Nat), (ordL (rowsG j E))[q]? = some x → x < j) := Lib.hid (fun q x hx => by have := ((ordL_inv HGD.out).mem x).1 (List.mem_of_getElem? hx); rw [HRL.out] at this; exact this.1)
    have HB64 : Hid (B64 s) := Lib.hid (by
      rw [HS0.out]
      exact only_b64 HGD.out HR0.out)
    have HF : Hid (RunFix w5.heap.size Bn w7.heap.size Br (w7.heap.size + 1) j cT j cO AT AO) := Lib.hid (by
      have h5 := HN5.out
      have h6 := HSZ6.out
      have h7 := HSZ7.out
      refine ⟨h5.1, h5.2, ne1, by omega, by omega, fun g hg => ?_, fun g hg => ?_, fun g hg he => ?_⟩
      · have := HOT7.out.lt g hg; omega
      · have := HOW6.out.lt g hg; omega
      · have h8 := HOT7.out.lt g hg
        have h9 := HOW6.out.lt g he
        omega)
    have HREL : Hid (RunRel true w5.heap.size Bn w7.heap.size Br (w7.heap.size + 1) j cT j cO AT AO (ordL (rowsG j E)) now 0 none 0 ([], T) (w7.alloc (.cells #[.slice none 0 0, .slice AT j cT] 58))) := Lib.hid (by
      have hb := below_new (Below.refl w7.heap.size w7) (.cells #[.slice none 0 0, .slice AT j cT] 58)
      exact ⟨fun _ => N7.out.below hb N7.out.lt, Blk.new _ _ _, R7.out.below hb R7.out.lt, World.ownsRow_nil _ _ _ _, own_base (own_below HOT7.out hb) HSZ6.out, own_below HOW7.out hb⟩)
    have B8 : Hid (Below w.heap.size w (w7.alloc (.cells #[.slice none 0 0, .slice AT j cT] 58))) := Lib.hid (below_new B7.out _)
    have HWB : Hid (w.heap.size ≤ w5.heap.size ∧ w.heap.size ≤ Br) := Lib.hid ⟨B5.out.size, by have := HBn.out; have := HBr.out; have := HBS.out; omega⟩
    have neBm : Bn ≠ w7.heap.size ∧ Br ≠ w7.heap.size := by have := HF.out.n1; have := HF.out.r1; have := HF.out.mlo; omega
    obtain ⟨ne2, ne3⟩ := neBm
    have HLB : Hid (w5.heap.size ≤ w7.heap.size) := Lib.hid HF.out.mlo
    generalize w7.alloc (.cells #[.slice none 0 0, .slice AT j cT] 58) = w8 at *
    generalize w7.heap.size = Bm at *
    generalize hLL : ordL (rowsG j E) = L at *
    clear hLL B7 N7 R7 HOW7 HOT7 HSZ7 HSZ6 HOW6 HN5
    go_loopw [18, 59] (fun _ i wr => ∃ q : Nat, q ≤ j ∧ i = .int .i64 (q : Int) ∧ ∃ k AR cR, k ≤ q ∧ Hid (RunRel true w5.heap.size Bn Bm Br (Bm + 1) j cT j cO AT AO L (now + k) k AR cR (runL s now T (L.take q)) wr) ∧ Hid ((runL s now T (L.take q)).1.length = k) ∧ Hid (Below w.heap.size w wr)) (fun _ i _ => j - (intOf i).toNat)
    case atStart => exact ⟨0, by omega, rfl, 0, none, 0, by omega, Lib.hid (by rw [List.take_zero, runL_nil]; simpa using HREL.out), Lib.hid rfl, B8⟩
    case round =>
      obtain ⟨q, hq, rfl, k, AR, cR, hkq, hrl, hkl, hbw⟩ := hrel
      by_cases hlt : q < j
      · obtain ⟨x, hx⟩ : ∃ x, L[q]? = some x := ⟨_, List.getElem?_eq_getElem (by rw [HLO.out]; exact hlt)⟩
        have hxj := HX.out q x hx
        obtain ⟨gO, oO, rfl, o1⟩ := (Rd.of_own hrl.out.ord).at_ (k := q) (by rw [List.length_map, HLO.out]; exact hlt)
        rw [List.getElem_map, (List.getElem?_eq_some_iff.1 hx).2] at o1
        obtain ⟨gT, rfl⟩ := own_eq_slice hrl.out.at_ (by omega)
        have t1 := (Rd.of_own hrl.out.at_).int (k := x) (by rw [runL_len, HS.out.tlen]; exact hxj)
        obtain ⟨_, _, hA, t1⟩ := t1
        injection hA with hA
        injection hA with hA1 hA2 _
        subst hA1 hA2
        rw [Nat.zero_add] at t1
        have tf := hrl.out.at_.frozenAt x
        have n1 := (hrl.out.now rfl).cell (j := 0) rfl
        have nf := (hrl.out.now rfl).free 0
        have m1 := hrl.out.made.cell (j := 0) rfl
        have m2 := hrl.out.made.cell (j := 1) rfl
        have mf := hrl.out.made.free 0
        have HST : Hid (runL s now T (L.take (q + 1)) = runStep s now (runL s now T (L.take q)) x) := Lib.hid (runL_take hx)
        have hbit := bit_raw s x HB64.out
        have hgT := HF.out.at_ gT rfl
        have ne4 : gT ≠ Bm := by omega
        have ne5 : gT ≠ Bn := by have := HF.out.n1; omega
        have hq2 : (q : Int) < (j : Int) := by omega
        have hx2 : (x : Int) < (j : Int) := by omega
        have hk2 : k < 64 := by omega
        unfold nv at o1
        clear hx hgT
        cases hbt : s.testBit x with
        | true =>
          rw [hbt, if_pos rfl] at hbit
          have HNX : Hid (runL s now T (L.take (q + 1)) = ((runL s now T (L.take q)).1 ++ [x], (runL s now T (L.take q)).2.set x (now + k))) := Lib.hid (by rw [HST.out, runStep_in hbt, hkl.out])
          have HROW := Lib.hid hrl.out.row
          have hsz : Bm + 1 ≤ wr.heap.size := hrl.out.made.lt
          have HT9 : Hid (∀ w9, Below (Bm + 1) wr w9 → w9.cell? ⟨Bm, 0, none⟩ = some (.slice AR k cR) ∧ w9.cell? ⟨Bm, 1, none⟩ = some (.slice (some ⟨gT, 0, none⟩) j cT) ∧ w9.frozen? ⟨Bm, 0, none⟩ = false ∧ w9.cell? ⟨gT, x, none⟩ = some (.int .i64 ((runL s now T (L.take q)).2[x]?.getD 0)) ∧ w9.frozen? ⟨gT, x, none⟩ = false ∧ w9.cell? ⟨Bn, 0, none⟩ = some (.int .i64 (now + k)) ∧ w9.frozen? ⟨Bn, 0, none⟩ = false) := Lib.hid (fun w9 hb9 => by
            have h1 := HF.out.at_ gT rfl
            have h2 := HF.out.n1
            have h3 := HF.out.mlo
            have hm := hrl.out.made.below hb9 (Nat.lt_succ_self _)
            have hn := (hrl.out.now rfl).below hb9 (by omega)
            refine ⟨hm.cell (j := 0) rfl, hm.cell (j := 1) rfl, hm.free 0, ?_, ?_, hn.cell (j := 0) rfl, hn.free 0⟩
            · rw [hb9.cell (p := ⟨gT, x, none⟩) (by show gT < Bm + 1; omega)]; exact t1
            · exact (own_lt hrl.out.at_ hb9 (fun g hg => by have := HF.out.at_ g hg; omega)).frozenAt x)
          clear hbt
          go_wp2_with (at_builtin; refine wpList_push elInt wr _ _ (Bm + 1) AR k cR _ (nv x) HROW.out rfl hsz (by omega) (by omega) rfl rfl rfl rfl ?_; intro AR' cR' w9 hown9 hb9; obtain ⟨m3, m4, mf9, t9, tf9, n9, nf9⟩ := HT9.out w9 hb9)
          have HR9 : Hid (RunRel true w5.heap.size Bn Bm Br (Bm + 1) j cT j cO (some ⟨gT, 0, none⟩) (some ⟨gO, oO, none⟩) L (now + ((k + 1 : Nat) : Int)) (k + 1) AR' cR' (runL s now T (L.take (q + 1))) (((w9.setCell ⟨Bm, 0, none⟩ (.slice AR' (k + 1) cR')).setCell ⟨gT, x, none⟩ (.int .i64 (now + k))).setCell ⟨Bn, 0, none⟩ (.int .i64 (now + k + 1)))) := Lib.hid (by
            have := runRel_step HF.out hrl.out hb9 (z := x) hown9 rfl (now + k) (now + k + 1)
            rw [HNX.out, show now + ((k + 1 : Nat) : Int) = now + k + 1 by omega]
            exact this)
          have HB9 : Hid (Below w.heap.size w (((w9.setCell ⟨Bm, 0, none⟩ (.slice AR' (k + 1) cR')).setCell ⟨gT, x, none⟩ (.int .i64 (now + k))).setCell ⟨Bn, 0, none⟩ (.int .i64 (now + k + 1)))) := Lib.hid (by
            have h1 := HWB.out.1
            have h2 := HLB.out
            have h3 := HF.out.at_ gT rfl
            have h4 := HBn.out
            have h5 := HBS.out
            have hb := hbw.out.trans (hb9.mono (by omega))
            exact ((hb.setCell (by show w.heap.size ≤ Bm; omega) _).setCell (by show w.heap.size ≤ gT; omega) _).setCell (by show w.heap.size ≤ Bn; omega) _)
          have HL9 : Hid ((runL s now T (L.take (q + 1))).1.length = k + 1) := Lib.hid (by rw [HNX.out]; simp [hkl.out])
          clear hown9 hb9
          go_roundw
          case rel => exact ⟨q + 1, by omega, by go_num, k + 1, AR', cR', by omega, HR9, HL9, HB9⟩
          case measure => simp [intOf]; omega
        | false =>
          rw [hbt, if_neg (by decide)] at hbit
          have HNX : Hid (runL s now T (L.take (q + 1)) = runL s now T (L.take q)) := Lib.hid (by rw [HST.out, runStep_out hbt])
          clear hbt
          go_wp2_with fail
          go_roundw
          case rel => exact ⟨q + 1, by omega, by go_num, k, AR, cR, by omega, by rw [HNX.out]; exact hrl, by rw [HNX.out]; exact hkl, hbw⟩
          case measure => simp [intOf]; omega
      · obtain rfl : q = j := by omega
        have hqn : ¬ (q : Int) < (q : Int) := by omega
        have m1 := hrl.out.made.cell (j := 0) rfl
        have m2 := hrl.out.made.cell (j := 1) rfl
        have r1 := hrl.out.res.cell (j := 0) rfl
        have r2 := hrl.out.res.cell (j := 1) rfl
        have rf := hrl.out.res.free
        have HTK : Hid (L.take q = L) := Lib.hid (List.take_of_length_le (by rw [HLO.out]; exact Nat.le_refl _))
        go_wp2_with fail
        have RZ := Lib.hid ((hrl.out.res.same 0 (.slice AR k cR)).same 1 (.slice AT q cT))
        have BZ : Hid (Below w.heap.size w ((wr.setCell ⟨Br, 0, none⟩ (.slice AR k cR)).setCell ⟨Br, 1, none⟩ (.slice AT q cT))) := Lib.hid ((hbw.out.setCell HWB.out.2 _).setCell HWB.out.2 _)
        have HA1 : Hid (Rd ((wr.setCell ⟨Br, 0, none⟩ (.slice AR k cR)).setCell ⟨Br, 1, none⟩ (.slice AT q cT)) AR ((runL s now T L).1.map nv)) := Lib.hid (by
          have h1 := HF.out.r1
          have h2 := HF.out.mlo
          have := Rd.of_own (ownsRow_setCell_below (ownsRow_setCell_below hrl.out.row (a := ⟨Br, 0, none⟩) (by show Br < Bm + 1; omega) (.slice AR k cR)) (a := ⟨Br, 1, none⟩) (by show Br < Bm + 1; omega) (.slice AT q cT))
          rwa [HTK.out] at this)
        have HA2 : Hid (Rd ((wr.setCell ⟨Br, 0, none⟩ (.slice AR k cR)).setCell ⟨Br, 1, none⟩ (.slice AT q cT)) AT ((runL s now T L).2.map (.int .i64))) := Lib.hid (by
          have h1 := HF.out.r1
          have := Rd.of_own (ownsRow_setCell_below (ownsRow_setCell_below hrl.out.at_ (a := ⟨Br, 0, none⟩) h1 (.slice AR k cR)) (a := ⟨Br, 1, none⟩) h1 (.slice AT q cT))
          rwa [HTK.out] at this)
        have HL1 : Hid ((runL s now T L).1.length = k) := Lib.hid (by have := hkl.out; rwa [HTK.out] at this)
        generalize (wr.setCell ⟨Br, 0, none⟩ (.slice AR k cR)).setCell ⟨Br, 1, none⟩ (.slice AT q cT) = wz at *
        have q1 := RZ.out.cell (j := 0) rfl
        have q2 := RZ.out.cell (j := 1) rfl
        refine bodyPost_ret (v := .tuple #[.agg #[.slice AR k cR, .slice AT q cT], .int .i64 0]) (by simp [results, Tryd.results26, go_sem, q1, q2]) rfl ?_
        rw [HE.out]
        exact ⟨AR, k, cR, AT, q, cT, rfl, HL1.out, by show (runL s now T L).2.length = q; rw [runL_len]; exact HS.out.tlen, HA1.out, HA2.out, BZ.out⟩
end
end Go.Proofs.YtiechbaknolimaaDoor
/- Contract: sameMade, at two made builds that are the same. Lengths below 2^63. -/
namespace Go.Proofs.YtiechbaknolimaaDoor
open Go.RowKit

theorem box_two2 (w : World) (x1 x2 y1 y2 : Value) (t u : TypeId) :
    SeBox w.heap.size x1 x2 ((w.alloc (.cells #[x1, x2] t)).alloc (.cells #[y1, y2] u)) ∧ SeBox (w.heap.size + 1) y1 y2 ((w.alloc (.cells #[x1, x2] t)).alloc (.cells #[y1, y2] u)) ∧ Below w.heap.size w ((w.alloc (.cells #[x1, x2] t)).alloc (.cells #[y1, y2] u)) := by
  have h1 := Blk.new w #[x1, x2] t
  have h2 := Blk.new (w.alloc (.cells #[x1, x2] t)) #[y1, y2] u
  have h3 := h1.below (below_new (Below.refl _ _) (.cells #[y1, y2] u)) h1.lt
  have e : (w.alloc (.cells #[x1, x2] t)).heap.size = w.heap.size + 1 := by simp
  rw [e] at h2
  exact ⟨⟨h3.cell (j := 0) rfl, h3.cell (j := 1) rfl⟩, ⟨h2.cell (j := 0) rfl, h2.cell (j := 1) rfl⟩, below_new (below_new (Below.refl _ _) _) _⟩
theorem nv_int (L : List Nat) : L.map nv = (L.map fun x : Nat => (x : Int)).map (.int .i64) := by rw [List.map_map]; rfl
theorem sameMade_any {A1 A2 B1 B2 : Option Addr} {c1 c2 d1 d2 k j : Nat} (V : MadeT) (w : World) (h1 : Rd w A1 (V.1.map nv)) (h2 : Rd w A2 (V.2.map (.int .i64))) (h3 : Rd w B1 (V.1.map nv)) (h4 : Rd w B2 (V.2.map (.int .i64)))
    (hk : V.1.length = k) (hj : V.2.length = j) (hkb : k ≤ 9223372036854775807) (hjb : j ≤ 9223372036854775807) :
    Calls Tryd.prog 30 #[.agg #[.slice A1 k c1, .slice A2 j c2], .agg #[.slice B1 k d1, .slice B2 j d2]] w fun e w' => e = .returned (.bool true) ∧ Below w.heap.size w w' := by
  have hl : (V.1.map fun x : Nat => (x : Int)).length = k := by rw [List.length_map]; exact hk
  have C1 := Lib.hid (fun W (hW : Below w.heap.size w W) => slEq_int A1 B1 c1 d1 (V.1.map fun x : Nat => (x : Int)) (V.1.map fun x : Nat => (x : Int)) W (by rw [← nv_int]; exact h1.below hW) (by rw [← nv_int]; exact h3.below hW) (by omega) (by omega))
  have C2 := Lib.hid (fun W (hW : Below w.heap.size w W) => slEq_i64 A2 B2 c2 d2 V.2 V.2 W (h2.below hW) (h4.below hW) (by omega) (by omega))
  rw [hl, decide_eq_true rfl] at C1
  rw [hj, decide_eq_true rfl] at C2
  obtain ⟨x0, y0, z0⟩ := box_two2 w (.slice A1 k c1) (.slice A2 j c2) (.slice B1 k d1) (.slice B2 j d2) 58 58
  have X2 := Lib.hid x0
  have Y2 := Lib.hid y0
  have B2' := Lib.hid z0
  clear h1 h2 h3 h4 hk hj hl x0 y0 z0
  go_enter Tryd.func30, Tryd.ntmps30
  go_upto_region 1 with fail
  generalize (w.alloc (.cells #[.slice A1 k c1, .slice A2 j c2] 58)).alloc (.cells #[.slice B1 k d1, .slice B2 j d2] 58) = w2 at *
  generalize w.heap.size + 1 = BS at *
  obtain ⟨x1, x2⟩ := X2.out
  obtain ⟨y1, y2⟩ := Y2.out
  go_wp2_with fail
  refine (C1.out _ B2'.out).mono ?_
  rintro e w3 ⟨rfl, hb3⟩
  have B3 := Lib.hid (below_then B2'.out hb3)
  have X3 := Lib.hid (X2.out.below hb3)
  have Y3 := Lib.hid (Y2.out.below hb3)
  clear hb3 x1 x2 y1 y2 X2 Y2 C1
  obtain ⟨x1, x2⟩ := X3.out
  obtain ⟨y1, y2⟩ := Y3.out
  go_wp2_with fail
  refine (C2.out _ B3.out).mono ?_
  rintro e w4 ⟨rfl, hb4⟩
  have B4 := Lib.hid (below_then B3.out hb4)
  go_wp2_with fail
  go_ret
  exact ⟨rfl, B4.out⟩
end Go.Proofs.YtiechbaknolimaaDoor
