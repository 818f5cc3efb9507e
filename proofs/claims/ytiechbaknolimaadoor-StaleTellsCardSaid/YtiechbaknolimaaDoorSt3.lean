/- Contracts: stale.Check, Set, Only. The graph as for graph.Check; the table of math/bits lies. -/
import Derived.Test.YtiechbaknolimaaDoorSt2
import Derived.Test.YtiechbaknolimaaDoorReach6
namespace Go.Proofs.YtiechbaknolimaaDoor
open Go.RowKit

section
variable {A1 A2 A3 : Option Addr} {n k j c1 c2 c3 : Nat} {N : List (List UInt8)} {E : List EdgeT} {p m d : Nat} {T : List Int} (w : World) (hG : GrIn A1 n A2 k N E p m w) (hS : SeIn A3 j T d w) (hT : Tab w)
include hG hS hT
theorem stCheckE_any : Calls Tryd.prog 23 #[gv A1 n c1 A2 k c2 p m, sx A3 j c3 d] w fun e w' => e = .returned (.int .i64 (seErr N E p m T d)) ∧ Below w.heap.size w w' := by
  have HC := Lib.hid (fun W (hW : Below w.heap.size w W) => stCheck_any (c1 := c1) (c2 := c2) (c3 := c3) W (hG.below hW) (hS.below hW) (hT.below hW))
  unfold gv sx at *
  obtain ⟨x0, y0, z0⟩ := box_six w (.slice A1 n c1) (.slice A2 k c2) (.int .u64 (p : Int)) (.int .u64 (m : Int)) (.slice A3 j c3) (.int .u64 (d : Int)) 26 48
  have B2 := Lib.hid z0
  obtain ⟨x1, x2, x3, x4⟩ := x0
  obtain ⟨y1, y2⟩ := y0
  clear hG hS hT z0
  go_enter Tryd.func23, Tryd.ntmps23
  go_upto_region 1 with fail
  generalize (w.alloc (.cells #[.slice A1 n c1, .slice A2 k c2, .int .u64 (p : Int), .int .u64 (m : Int)] 26)).alloc (.cells #[.slice A3 j c3, .int .u64 (d : Int)] 48) = w2 at *
  generalize w.heap.size + 1 = BS at *
  go_wp2_with fail
  refine (HC.out _ B2.out).mono ?_
  rintro e w3 (⟨h0, rfl, hb3⟩ | ⟨h0, A, c, B, c', rfl, _, _, hb3⟩)
  · have B3 := Lib.hid (below_then B2.out hb3)
    clear h0 hb3 x1 x2 x3 x4 y1 y2
    go_wp2_with fail
    go_ret
    exact ⟨rfl, B3.out⟩
  · have B3 := Lib.hid (below_then B2.out hb3)
    have H0 := Lib.hid h0
    clear h0 hb3 x1 x2 x3 x4 y1 y2
    go_wp2_with fail
    go_ret
    exact ⟨ret_int H0.out.symm, B3.out⟩
/-- What Only answers. -/
def onlyV (n : Nat) (E : List EdgeT) (T : List Int) (p m d u : Nat) (err : Int) : Nat := if err = 0 then (if faultOf (rowsG n E) [u] = 0 then reachD (rowsG n E) u (-1) &&& staleS (rowsG n E) T p m d else 0) else 0
def onlyE (n : Nat) (E : List EdgeT) (u : Nat) (err : Int) : Int := if err = 0 then (if faultOf (rowsG n E) [u] = 0 then 0 else faultOf (rowsG n E) [u]) else err
/-- What Set answers. -/
def setV (n : Nat) (E : List EdgeT) (T : List Int) (p m d : Nat) (err : Int) : Nat := if err = 0 then staleS (rowsG n E) T p m d else 0
set_option maxHeartbeats 1000000 in
theorem stSetE_any : Calls Tryd.prog 20 #[gv A1 n c1 A2 k c2 p m, sx A3 j c3 d] w fun e w' => e = .returned (.tuple #[.int .u64 (setV n E T p m d (seErr N E p m T d) : Nat), .int .i64 (seErr N E p m T d)]) ∧ Below w.heap.size w w' := by
  have HC := Lib.hid (fun W (hW : Below w.heap.size w W) => stCheck_any (c1 := c1) (c2 := c2) (c3 := c3) W (hG.below hW) (hS.below hW) (hT.below hW))
  have HG := Lib.hid hG
  have HS := Lib.hid hS
  have HT := Lib.hid hT
  unfold gv sx at HC
  unfold gv sx
  obtain ⟨x0, y0, z0⟩ := box_six w (.slice A1 n c1) (.slice A2 k c2) (.int .u64 (p : Int)) (.int .u64 (m : Int)) (.slice A3 j c3) (.int .u64 (d : Int)) 26 48
  have B2 := Lib.hid z0
  have X2 := Lib.hid x0
  have Y2 := Lib.hid y0
  obtain ⟨x1, x2, x3, x4⟩ := x0
  obtain ⟨y1, y2⟩ := y0
  clear hG hS hT z0
  go_enter Tryd.func20, Tryd.ntmps20
  go_upto_region 1 with fail
  generalize (w.alloc (.cells #[.slice A1 n c1, .slice A2 k c2, .int .u64 (p : Int), .int .u64 (m : Int)] 26)).alloc (.cells #[.slice A3 j c3, .int .u64 (d : Int)] 48) = w2 at *
  generalize w.heap.size + 1 = BS at *
  go_wp2_with fail
  refine (HC.out _ B2.out).mono ?_
  rintro e w3 (⟨h0, rfl, hb3⟩ | ⟨h0, A, c, B, c', rfl, ho1, ho2, hb3⟩)
  · have B3 := Lib.hid (below_then B2.out hb3)
    have H0 : Hid (setV n E T p m d (seErr N E p m T d) = 0) := Lib.hid (by unfold setV; rw [if_neg h0])
    have hne : (seErr N E p m T d != 0) = true := by simp [h0]
    clear hb3 x1 x2 x3 x4 y1 y2
    go_wp2_with fail
    go_ret2
    exact ⟨by rw [H0.out] <;> rfl, B3.out⟩
  · have B3 := Lib.hid (below_then B2.out hb3)
    obtain ⟨hg0, hjn, _, _, hr0⟩ := se_ok HG.out.nlen HS.out.tlen h0
    obtain ⟨hn64, _, _, hout, _, _⟩ := gr_ok hg0
    rw [HG.out.nlen] at hn64 hout
    have HGD : Hid (Good (rowsG n E)) := Lib.hid (rowsG_good hn64 hout)
    have HR0 := Lib.hid hr0
    have HRR := Lib.hid (Rd.of_own ho1)
    have HOO := Lib.hid (Rd.of_own ho2)
    have H0 : Hid (setV n E T p m d (seErr N E p m T d) = staleS (rowsG n E) T p m d) := Lib.hid (by unfold setV; rw [if_pos h0])
    have HE0 := Lib.hid h0
    have X3 := Lib.hid (X2.out.below hb3)
    have Y3 := Lib.hid (Y2.out.below hb3)
    have HJN := Lib.hid hjn
    clear hb3 x1 x2 x3 x4 y1 y2 h0 hg0 hr0 ho1 ho2 hout hjn
    obtain ⟨x1, x2, x3, x4⟩ := X3.out
    obtain ⟨y1, y2⟩ := Y3.out
    go_wp2_with fail
    have hS' : SeIn A3 n T d w3 := by have := HS.out.below B3.out; rwa [HJN.out] at this
    have hc := stSet_any (c1 := c1) (c2 := c2) (c3 := c3) (cR := c) (cO := c') (rowsG n E) w3 (HG.out.below B3.out) hS' (HT.out.below B3.out) (rowsG_len n E) HGD.out HR0.out HRR.out HOO.out
    unfold gv sx at hc
    rw [HJN.out]
    refine hc.mono ?_
    rintro e w4 ⟨rfl, hb4⟩
    have B4 := Lib.hid (below_then B3.out hb4)
    clear hb4 hc hS' x1 x2 x3 x4 y1 y2
    go_wp2_with fail
    go_ret2
    exact ⟨by rw [H0.out, HE0.out] <;> rfl, B4.out⟩
set_option maxHeartbeats 1000000 in
theorem stOnly_any (u : Nat) (hu : B64 u) : Calls Tryd.prog 21 #[gv A1 n c1 A2 k c2 p m, sx A3 j c3 d, .int .u64 (u : Int)] w fun e w' => e = .returned (.tuple #[.int .u64 (onlyV n E T p m d u (seErr N E p m T d) : Nat), .int .i64 (onlyE n E u (seErr N E p m T d))]) ∧ Below w.heap.size w w' := by
  have HC := Lib.hid (fun W (hW : Below w.heap.size w W) => stCheck_any (c1 := c1) (c2 := c2) (c3 := c3) W (hG.below hW) (hS.below hW) (hT.below hW))
  have HG := Lib.hid hG
  have HS := Lib.hid hS
  have HT := Lib.hid hT
  unfold gv sx at HC
  unfold gv sx
  obtain ⟨x0, y0, z0⟩ := box_six w (.slice A1 n c1) (.slice A2 k c2) (.int .u64 (p : Int)) (.int .u64 (m : Int)) (.slice A3 j c3) (.int .u64 (d : Int)) 26 48
  have B2 := Lib.hid z0
  have X2 := Lib.hid x0
  have Y2 := Lib.hid y0
  obtain ⟨x1, x2, x3, x4⟩ := x0
  obtain ⟨y1, y2⟩ := y0
  clear hG hS hT z0
  go_enter Tryd.func21, Tryd.ntmps21
  go_upto_region 1 with fail
  generalize (w.alloc (.cells #[.slice A1 n c1, .slice A2 k c2, .int .u64 (p : Int), .int .u64 (m : Int)] 26)).alloc (.cells #[.slice A3 j c3, .int .u64 (d : Int)] 48) = w2 at *
  generalize w.heap.size + 1 = BS at *
  go_wp2_with fail
  refine (HC.out _ B2.out).mono ?_
  rintro e w3 (⟨h0, rfl, hb3⟩ | ⟨h0, A, c, B, c', rfl, ho1, ho2, hb3⟩)
  · have B3 := Lib.hid (below_then B2.out hb3)
    have H0 : Hid (onlyV n E T p m d u (seErr N E p m T d) = 0 ∧ onlyE n E u (seErr N E p m T d) = seErr N E p m T d) := Lib.hid (by unfold onlyV onlyE; rw [if_neg h0, if_neg h0]; exact ⟨rfl, rfl⟩)
    have hne : (seErr N E p m T d != 0) = true := by simp [h0]
    clear hb3 x1 x2 x3 x4 y1 y2
    go_wp2_with fail
    go_ret2
    exact ⟨by rw [H0.out.1, H0.out.2] <;> rfl, B3.out⟩
  · have B3 := Lib.hid (below_then B2.out hb3)
    obtain ⟨hg0, hjn, _, _, hr0⟩ := se_ok HG.out.nlen HS.out.tlen h0
    obtain ⟨hn64, _, _, hout, _, _⟩ := gr_ok hg0
    rw [HG.out.nlen] at hn64 hout
    have HGD : Hid (Good (rowsG n E)) := Lib.hid (rowsG_good hn64 hout)
    have HR0 := Lib.hid hr0
    have HRR := Lib.hid (Rd.of_own ho1)
    have HOO := Lib.hid (Rd.of_own ho2)
    have HE0 := Lib.hid h0
    have X3 := Lib.hid (X2.out.below hb3)
    have Y3 := Lib.hid (Y2.out.below hb3)
    have HJN := Lib.hid hjn
    have HU := Lib.hid hu
    clear hb3 x1 x2 x3 x4 y1 y2 h0 hg0 hr0 ho1 ho2 hout hjn hu
    obtain ⟨x1, x2, x3, x4⟩ := X3.out
    obtain ⟨y1, y2⟩ := Y3.out
    go_wp2_with fail
    by_cases hf : faultOf (rowsG n E) [u] = 0
    · have HF := Lib.hid hf
      have HRB := Lib.hid ((reachD_in HGD.out ((faultOf_ok HGD.out.b64 (by intro x hx; rw [List.mem_singleton] at hx; rw [hx]; exact HU.out) hf).2 u (by simp)) (-1)).b64 HGD.out)
      refine (pFrom_good (rowsG n E) u _ HRR.out (rowsG_len n E) (by omega) HGD.out.b64 HU.out hf (HT.out.below B3.out)).mono ?_
      rintro e w4 ⟨rfl, hb4⟩
      have B4 := Lib.hid (below_then B3.out hb4)
      have X4 := Lib.hid (X3.out.below hb4)
      have Y4 := Lib.hid (Y3.out.below hb4)
      have HRR4 := Lib.hid (HRR.out.below hb4)
      have HOO4 := Lib.hid (HOO.out.below hb4)
      have H0 : Hid (onlyV n E T p m d u (seErr N E p m T d) = reachD (rowsG n E) u (-1) &&& staleS (rowsG n E) T p m d ∧ onlyE n E u (seErr N E p m T d) = 0) := Lib.hid (by unfold onlyV onlyE; rw [if_pos HE0.out, if_pos HE0.out, if_pos hf, if_pos hf]; exact ⟨rfl, rfl⟩)
      clear hb4 hf x1 x2 x3 x4 y1 y2 X3 Y3
      obtain ⟨x1, x2, x3, x4⟩ := X4.out
      obtain ⟨y1, y2⟩ := Y4.out
      go_wp2_with fail
      have hS' : SeIn A3 n T d w4 := by have := HS.out.below B4.out; rwa [HJN.out] at this
      have hc := stSet_any (c1 := c1) (c2 := c2) (c3 := c3) (cR := c) (cO := c') (rowsG n E) w4 (HG.out.below B4.out) hS' (HT.out.below B4.out) (rowsG_len n E) HGD.out HR0.out HRR4.out HOO4.out
      unfold gv sx at hc
      rw [HJN.out]
      refine hc.mono ?_
      rintro e w5 ⟨rfl, hb5⟩
      have B5 := Lib.hid (below_then B4.out hb5)
      have han := u64_and_nat (reachD (rowsG n E) u (-1)) (staleS (rowsG n E) T p m d) HRB.out (stale_b64 HGD.out HR0.out)
      clear hb5 hc hS' x1 x2 x3 x4 y1 y2
      go_wp2_with fail
      go_ret2
      exact ⟨by rw [H0.out.1, H0.out.2] <;> rfl, B5.out⟩
    · refine (pFrom_bad (rowsG n E) u _ HRR.out (rowsG_len n E) (by omega) HGD.out.b64 HU.out hf).mono ?_
      rintro e w4 ⟨rfl, hb4⟩
      have B4 := Lib.hid (below_then B3.out hb4)
      have H0 : Hid (onlyV n E T p m d u (seErr N E p m T d) = 0 ∧ onlyE n E u (seErr N E p m T d) = faultOf (rowsG n E) [u]) := Lib.hid (by unfold onlyV onlyE; rw [if_pos HE0.out, if_pos HE0.out, if_neg hf, if_neg hf]; exact ⟨rfl, rfl⟩)
      have hne := fault_ne hf
      clear hb4 hf x1 x2 x3 x4 y1 y2
      go_wp2_with fail
      go_ret2
      exact ⟨by rw [H0.out.1, H0.out.2] <;> rfl, B4.out⟩
end
end Go.Proofs.YtiechbaknolimaaDoor
