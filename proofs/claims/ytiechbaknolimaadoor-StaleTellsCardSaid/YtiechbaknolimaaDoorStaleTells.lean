/- The law StaleTells: its walk: for every graph, what is seen of it, and a set, it returns true and leaves what was there. Conditions: sets below 2^64, lengths below 2^63; the table of math/bits lies. -/
import Derived.Test.YtiechbaknolimaaDoorSt3
import Derived.Test.YtiechbaknolimaaDoorSt4
import Derived.Test.YtiechbaknolimaaDoorSt6
import Derived.Deep.RegionHeld3
namespace Go.Proofs.YtiechbaknolimaaDoor
open Go.RowKit

theorem dec_refl (a : Int) : (a == a) = true := by simp
section
variable {A1 A2 A3 : Option Addr} {n k j c1 c2 c3 : Nat} {N : List (List UInt8)} {E : List EdgeT} {p m d : Nat} {T : List Int} (w : World) (hG : GrIn A1 n A2 k N E p m w) (hS : SeIn A3 j T d w) (hT : Tab w) (u : Nat) (hu : B64 u)
include hG hS hT hu
set_option maxRecDepth 100000 in
set_option maxHeartbeats 2000000 in
theorem staleTells_bad (he : seErr N E p m T d ≠ 0) : Calls Tryd.prog 4 #[gv A1 n c1 A2 k c2 p m, sx A3 j c3 d, .int .u64 (u : Int)] w fun e w' => e = .returned (.bool true) ∧ Below w.heap.size w w' := by
  have C1 := Lib.hid (fun W (hW : Below w.heap.size w W) => stSetE_any (c1 := c1) (c2 := c2) (c3 := c3) W (hG.below hW) (hS.below hW) (hT.below hW))
  have C2 := Lib.hid (fun W (hW : Below w.heap.size w W) => stOnly_any (c1 := c1) (c2 := c2) (c3 := c3) W (hG.below hW) (hS.below hW) (hT.below hW) u hu)
  have C3 := Lib.hid (fun W (hW : Below w.heap.size w W) => rSeenFault_any (c1 := c1) (c2 := c2) (c3 := c3) W (hG.below hW) (hS.below hW))
  have C4 := Lib.hid (fun W (hW : Below w.heap.size w W) => stCheckE_any (c1 := c1) (c2 := c2) (c3 := c3) W (hG.below hW) (hS.below hW) (hT.below hW))
  rw [show setV n E T p m d (seErr N E p m T d) = 0 by unfold setV; rw [if_neg he]] at C1
  rw [show onlyV n E T p m d u (seErr N E p m T d) = 0 by unfold onlyV; rw [if_neg he], show onlyE n E u (seErr N E p m T d) = seErr N E p m T d by unfold onlyE; rw [if_neg he]] at C2
  have hne : (seErr N E p m T d != 0) = true := by simp [he]
  generalize seErr N E p m T d = x at *
  unfold gv sx at *
  obtain ⟨x0, y0, z0⟩ := box_six w (.slice A1 n c1) (.slice A2 k c2) (.int .u64 (p : Int)) (.int .u64 (m : Int)) (.slice A3 j c3) (.int .u64 (d : Int)) 26 48
  have X2 := Lib.hid x0
  have Y2 := Lib.hid y0
  have B2 := Lib.hid z0
  clear hG hS hT hu he x0 y0 z0
  go_enter Tryd.func4, Tryd.ntmps4
  go_upto_region 1 with fail
  generalize (w.alloc (.cells #[.slice A1 n c1, .slice A2 k c2, .int .u64 (p : Int), .int .u64 (m : Int)] 26)).alloc (.cells #[.slice A3 j c3, .int .u64 (d : Int)] 48) = w2 at *
  generalize w.heap.size + 1 = BS at *
  obtain ⟨x1, x2, x3, x4⟩ := X2.out
  obtain ⟨y1, y2⟩ := Y2.out
  go_wp2_with fail
  refine (C1.out _ B2.out).mono ?_
  rintro e w3 ⟨rfl, hb3⟩
  have B3 := Lib.hid (below_then B2.out hb3)
  have X3 := Lib.hid (X2.out.below hb3)
  have Y3 := Lib.hid (Y2.out.below hb3)
  clear hb3 x1 x2 x3 x4 y1 y2 X2 Y2
  obtain ⟨x1, x2, x3, x4⟩ := X3.out
  obtain ⟨y1, y2⟩ := Y3.out
  go_wp2_with fail
  refine (C2.out _ B3.out).mono ?_
  rintro e w4 ⟨rfl, hb4⟩
  have B4 := Lib.hid (below_then B3.out hb4)
  have X4 := Lib.hid (X3.out.below hb4)
  have Y4 := Lib.hid (Y3.out.below hb4)
  clear hb4 x1 x2 x3 x4 y1 y2 X3 Y3
  obtain ⟨x1, x2, x3, x4⟩ := X4.out
  obtain ⟨y1, y2⟩ := Y4.out
  go_wp2_with fail
  refine (C3.out _ B4.out).mono ?_
  rintro e w5 ⟨rfl, hb5⟩
  have B5 := Lib.hid (below_then B4.out hb5)
  have X5 := Lib.hid (X4.out.below hb5)
  have Y5 := Lib.hid (Y4.out.below hb5)
  clear hb5 x1 x2 x3 x4 y1 y2 X4 Y4
  obtain ⟨x1, x2, x3, x4⟩ := X5.out
  obtain ⟨y1, y2⟩ := Y5.out
  go_wp2_with fail
  refine (C4.out _ B5.out).mono ?_
  rintro e w6 ⟨rfl, hb6⟩
  have B6 := Lib.hid (below_then B5.out hb6)
  clear hb6 x1 x2 x3 x4 y1 y2 X5 Y5
  go_wp2_with fail
  go_ret
  exact ⟨rfl, B6.out⟩
set_option maxRecDepth 100000 in
set_option maxHeartbeats 4000000 in
theorem staleTells_good (he : seErr N E p m T d = 0) : Calls Tryd.prog 4 #[gv A1 n c1 A2 k c2 p m, sx A3 j c3 d, .int .u64 (u : Int)] w fun e w' => e = .returned (.bool true) ∧ Below w.heap.size w w' := by
  obtain ⟨hg0, hjn, _, _, hr0⟩ := se_ok hG.nlen hS.tlen he
  subst hjn
  obtain ⟨hn64, _, _, hout, _, _⟩ := gr_ok hg0
  rw [hG.nlen] at hn64 hout
  have hgd : Good (rowsG j E) := rowsG_good hn64 hout
  have C1 := Lib.hid (fun W (hW : Below w.heap.size w W) => stSetE_any (c1 := c1) (c2 := c2) (c3 := c3) W (hG.below hW) (hS.below hW) (hT.below hW))
  have C2 := Lib.hid (fun W (hW : Below w.heap.size w W) => stOnly_any (c1 := c1) (c2 := c2) (c3 := c3) W (hG.below hW) (hS.below hW) (hT.below hW) u hu)
  have C3 := Lib.hid (fun W (hW : Below w.heap.size w W) => rSeenFault_any (c1 := c1) (c2 := c2) (c3 := c3) W (hG.below hW) (hS.below hW))
  have C4 := Lib.hid (fun W (hW : Below w.heap.size w W) => stCheckE_any (c1 := c1) (c2 := c2) (c3 := c3) W (hG.below hW) (hS.below hW) (hT.below hW))
  have C5 := Lib.hid (fun W (hW : Below w.heap.size w W) => rAnew_any (c1 := c1) (c2 := c2) (c3 := c3) W (hG.below hW) (hS.below hW) hg0 hr0)
  have C6 := Lib.hid (fun W (hW : Below w.heap.size w W) => rRowsOf_any (c1 := c1) (c2 := c2) W (hG.below hW) hg0)
  rw [he] at C1 C2 C3 C4
  rw [show setV j E T p m d 0 = staleS (rowsG j E) T p m d from rfl] at C1
  rw [show onlyV j E T p m d u 0 = (if faultOf (rowsG j E) [u] = 0 then reachD (rowsG j E) u (-1) &&& staleS (rowsG j E) T p m d else 0) from rfl, show onlyE j E u 0 = (if faultOf (rowsG j E) [u] = 0 then 0 else faultOf (rowsG j E) [u]) from rfl] at C2
  have HGD := Lib.hid hgd
  have HRL : Hid ((rowsG j E).length = j) := Lib.hid (rowsG_len j E)
  have HF0 : Hid (faultOf (rowsG j E) [] = 0) := Lib.hid (good_fault hgd)
  have HFU : Hid (faultOf (rowsG j E) [u] = okErr (inU j u)) := Lib.hid (by rw [(faultOf_zero HF0.out).1, HRL.out]; simp)
  have HSB : Hid (B64 (staleS (rowsG j E) T p m d)) := Lib.hid (stale_b64 hgd hr0)
  have HU := Lib.hid hu
  unfold gv sx at *
  obtain ⟨x0, y0, z0⟩ := box_six w (.slice A1 j c1) (.slice A2 k c2) (.int .u64 (p : Int)) (.int .u64 (m : Int)) (.slice A3 j c3) (.int .u64 (d : Int)) 26 48
  have X2 := Lib.hid x0
  have Y2 := Lib.hid y0
  have B2 := Lib.hid z0
  clear hG hS hT hu he x0 y0 z0 hg0 hr0 hout hgd
  generalize hl : rowsG j E = l at *
  have HLE := Lib.hid hl
  clear hl
  generalize staleS l T p m d = S at *
  go_enter Tryd.func4, Tryd.ntmps4
  go_upto_region 1 with fail
  generalize (w.alloc (.cells #[.slice A1 j c1, .slice A2 k c2, .int .u64 (p : Int), .int .u64 (m : Int)] 26)).alloc (.cells #[.slice A3 j c3, .int .u64 (d : Int)] 48) = w2 at *
  generalize w.heap.size + 1 = BS at *
  obtain ⟨x1, x2, x3, x4⟩ := X2.out
  obtain ⟨y1, y2⟩ := Y2.out
  go_wp2_with fail
  refine (C1.out _ B2.out).mono ?_
  rintro e w3 ⟨rfl, hb3⟩
  have B3 := Lib.hid (below_then B2.out hb3)
  have X3 := Lib.hid (X2.out.below hb3)
  have Y3 := Lib.hid (Y2.out.below hb3)
  clear hb3 x1 x2 x3 x4 y1 y2 X2 Y2
  obtain ⟨x1, x2, x3, x4⟩ := X3.out
  obtain ⟨y1, y2⟩ := Y3.out
  go_wp2_with fail
  refine (C2.out _ B3.out).mono ?_
  rintro e w4 ⟨rfl, hb4⟩
  have B4 := Lib.hid (below_then B3.out hb4)
  have X4 := Lib.hid (X3.out.below hb4)
  have Y4 := Lib.hid (Y3.out.below hb4)
  clear hb4 x1 x2 x3 x4 y1 y2 X3 Y3
  obtain ⟨x1, x2, x3, x4⟩ := X4.out
  obtain ⟨y1, y2⟩ := Y4.out
  by_cases hf : faultOf l [u] = 0
  · rw [if_pos hf, if_pos hf]
    have HF := Lib.hid hf
    have HIR : Hid (InRows l u) := Lib.hid ((faultOf_ok HGD.out.b64 (by intro x hx; rw [List.mem_singleton] at hx; rw [hx]; exact HU.out) hf).2 u (by simp))
    have HRB : Hid (B64 (reachD l u (-1))) := Lib.hid ((reachD_in HGD.out HIR.out (-1)).b64 HGD.out)
    clear hf
    go_wp2_with fail
    refine (C3.out _ B4.out).mono ?_
    rintro e w5 ⟨rfl, hb5⟩
    have B5 := Lib.hid (below_then B4.out hb5)
    have X5 := Lib.hid (X4.out.below hb5)
    have Y5 := Lib.hid (Y4.out.below hb5)
    clear hb5 x1 x2 x3 x4 y1 y2 X4 Y4
    obtain ⟨x1, x2, x3, x4⟩ := X5.out
    obtain ⟨y1, y2⟩ := Y5.out
    go_wp2_with fail
    refine (C4.out _ B5.out).mono ?_
    rintro e w6 ⟨rfl, hb6⟩
    have B6 := below_then B5.out hb6
    have X6 := Lib.hid (X5.out.below hb6)
    have Y6 := Lib.hid (Y5.out.below hb6)
    clear hb6 x1 x2 x3 x4 y1 y2 X5 Y5 C1 C2 C3 C4
    obtain ⟨x1, x2, x3, x4⟩ := X6.out
    obtain ⟨y1, y2⟩ := Y6.out
    go_wp2_with fail
    go_region_held3 (fun w' => w'.cell? ⟨w.heap.size, 0, none⟩ = some (.slice A1 j c1) ∧ w'.cell? ⟨w.heap.size, 1, none⟩ = some (.slice A2 k c2) ∧ w'.cell? ⟨w.heap.size, 2, none⟩ = some (.int .u64 (p : Int)) ∧ w'.cell? ⟨w.heap.size, 3, none⟩ = some (.int .u64 (m : Int)) ∧ w'.cell? ⟨BS, 0, none⟩ = some (.slice A3 j c3) ∧ w'.cell? ⟨BS, 1, none⟩ = some (.int .u64 (d : Int)) ∧ Below w.heap.size w w')
      ((refine ⟨?_, ?_, ?_, ?_, ?_, ?_, ?_⟩ <;> first | assumption | exact Below.drew (by assumption)))
      ((first
        | (go_at_call 24; refine (C5.out _ (Below.drew B6)).mono ?_; rintro e w7 ⟨rfl, hb7⟩; have z1 := cell_keep (w := w6.drew) x1 hb7; have z2 := cell_keep (w := w6.drew) x2 hb7; have z3 := cell_keep (w := w6.drew) x3 hb7; have z4 := cell_keep (w := w6.drew) x4 hb7; have z5 := cell_keep (w := w6.drew) y1 hb7; have z6 := cell_keep (w := w6.drew) y2 hb7; have B7 := below_then (Below.drew B6) hb7)
        | (go_at_call 13; refine (C6.out _ B7).mono ?_; rintro e w8 ⟨A8, c8, rfl, hown8, hb8⟩; have u1 := cell_keep z1 hb8; have u2 := cell_keep z2 hb8; have u3 := cell_keep z3 hb8; have u4 := cell_keep z4 hb8; have u5 := cell_keep z5 hb8; have u6 := cell_keep z6 hb8; have B8 := below_then B7 hb8)))
    have HB8 := Lib.hid B8
    have HR8 := Lib.hid (Rd.of_own hown8)
    rw [HLE.out] at HR8
    clear B6 B7 B8 hown8 hb8 hb7 x1 x2 x3 x4 y1 y2 z1 z2 z3 z4 z5 z6 u1 u2 u3 u4 u5 u6 X6 Y6 C5 C6
    go_wp2_with fail
    have HLIT : Hid (Rd (w8.alloc (.cells #[.int .u64 (u : Int)] 24)) (some ⟨w8.heap.size, 0, none⟩) ([u].map uv)) := Lib.hid (rd_lit w8 _ #[.int .u64 (u : Int)] _ ([u].map uv) rfl rfl)
    refine (rRowsFault_any (m := 1) l [u] _ (HR8.out.alloc _) HRL.out (by omega) HGD.out.b64 HLIT.out rfl (by omega) (rowAt_all (fun s hs => by rw [List.mem_singleton] at hs; rw [hs]; exact HU.out))).mono ?_
    rintro e w9 ⟨rfl, hb9⟩
    have B9 := Lib.hid (below_then (below_new HB8.out _) hb9)
    have HR9 := Lib.hid ((HR8.out.alloc _).below hb9)
    clear hb9 HLIT
    rw [HF.out]
    have han : bits .and .u64 (S : Int) (reachD l u (-1) : Nat) = ((reachD l u (-1) &&& S : Nat) : Int) := by rw [Nat.and_comm]; exact u64_and_nat S _ HSB.out HRB.out
    go_wp2_with fail
    refine (rSteps_any l u (-1) _ HR9.out HRL.out HGD.out HIR.out (by omega) (by omega)).mono ?_
    rintro e w' ⟨rfl, rfl⟩
    go_wp2_with fail
    go_ret
    exact ⟨rfl, B9.out⟩
  · have H4 : Hid (faultOf l [u] = 4) := Lib.hid (by
      have := HFU.out
      rw [this] at hf ⊢
      unfold okErr at hf ⊢
      split
      · rename_i h; rw [if_pos h] at hf; exact absurd rfl hf
      · rfl)
    rw [if_neg hf, if_neg hf, H4.out]
    clear hf
    go_wp2_with fail
    refine (C3.out _ B4.out).mono ?_
    rintro e w5 ⟨rfl, hb5⟩
    have B5 := Lib.hid (below_then B4.out hb5)
    have X5 := Lib.hid (X4.out.below hb5)
    have Y5 := Lib.hid (Y4.out.below hb5)
    clear hb5 x1 x2 x3 x4 y1 y2 X4 Y4
    obtain ⟨x1, x2, x3, x4⟩ := X5.out
    obtain ⟨y1, y2⟩ := Y5.out
    go_wp2_with fail
    refine (C4.out _ B5.out).mono ?_
    rintro e w6 ⟨rfl, hb6⟩
    have B6 := below_then B5.out hb6
    have X6 := Lib.hid (X5.out.below hb6)
    have Y6 := Lib.hid (Y5.out.below hb6)
    clear hb6 x1 x2 x3 x4 y1 y2 X5 Y5 C1 C2 C3 C4
    obtain ⟨x1, x2, x3, x4⟩ := X6.out
    obtain ⟨y1, y2⟩ := Y6.out
    go_wp2_with fail
    go_region_held3 (fun w' => w'.cell? ⟨w.heap.size, 0, none⟩ = some (.slice A1 j c1) ∧ w'.cell? ⟨w.heap.size, 1, none⟩ = some (.slice A2 k c2) ∧ w'.cell? ⟨w.heap.size, 2, none⟩ = some (.int .u64 (p : Int)) ∧ w'.cell? ⟨w.heap.size, 3, none⟩ = some (.int .u64 (m : Int)) ∧ w'.cell? ⟨BS, 0, none⟩ = some (.slice A3 j c3) ∧ w'.cell? ⟨BS, 1, none⟩ = some (.int .u64 (d : Int)) ∧ Below w.heap.size w w')
      ((refine ⟨?_, ?_, ?_, ?_, ?_, ?_, ?_⟩ <;> first | assumption | exact Below.drew (by assumption)))
      ((first
        | (go_at_call 24; refine (C5.out _ (Below.drew B6)).mono ?_; rintro e w7 ⟨rfl, hb7⟩; have z1 := cell_keep (w := w6.drew) x1 hb7; have z2 := cell_keep (w := w6.drew) x2 hb7; have z3 := cell_keep (w := w6.drew) x3 hb7; have z4 := cell_keep (w := w6.drew) x4 hb7; have z5 := cell_keep (w := w6.drew) y1 hb7; have z6 := cell_keep (w := w6.drew) y2 hb7; have B7 := below_then (Below.drew B6) hb7)
        | (go_at_call 13; refine (C6.out _ B7).mono ?_; rintro e w8 ⟨A8, c8, rfl, hown8, hb8⟩; have u1 := cell_keep z1 hb8; have u2 := cell_keep z2 hb8; have u3 := cell_keep z3 hb8; have u4 := cell_keep z4 hb8; have u5 := cell_keep z5 hb8; have u6 := cell_keep z6 hb8; have B8 := below_then B7 hb8)))
    have HB8 := Lib.hid B8
    have HR8 := Lib.hid (Rd.of_own hown8)
    rw [HLE.out] at HR8
    clear B6 B7 B8 hown8 hb8 hb7 x1 x2 x3 x4 y1 y2 z1 z2 z3 z4 z5 z6 u1 u2 u3 u4 u5 u6 X6 Y6 C5 C6
    go_wp2_with fail
    have HLIT : Hid (Rd (w8.alloc (.cells #[.int .u64 (u : Int)] 24)) (some ⟨w8.heap.size, 0, none⟩) ([u].map uv)) := Lib.hid (rd_lit w8 _ #[.int .u64 (u : Int)] _ ([u].map uv) rfl rfl)
    refine (rRowsFault_any (m := 1) l [u] _ (HR8.out.alloc _) HRL.out (by omega) HGD.out.b64 HLIT.out rfl (by omega) (rowAt_all (fun s hs => by rw [List.mem_singleton] at hs; rw [hs]; exact HU.out))).mono ?_
    rintro e w9 ⟨rfl, hb9⟩
    have B9 := Lib.hid (below_then (below_new HB8.out _) hb9)
    have HR9 := Lib.hid ((HR8.out.alloc _).below hb9)
    clear hb9 HLIT
    rw [H4.out]
    go_wp2_with fail
    go_ret
    exact ⟨rfl, B9.out⟩
theorem staleTells_any : Calls Tryd.prog 4 #[gv A1 n c1 A2 k c2 p m, sx A3 j c3 d, .int .u64 (u : Int)] w fun e w' => e = .returned (.bool true) ∧ Below w.heap.size w w' := by
  by_cases he : seErr N E p m T d = 0
  · exact staleTells_good w hG hS hT u hu he
  · exact staleTells_bad w hG hS hT u hu he
end
theorem staleTells_walk (A1 : Option Addr) (N : List (List UInt8)) (c1 : Nat) (A2 : Option Addr) (E : List EdgeT) (c2 p m : Nat) (A3 : Option Addr) (T : List Int) (c3 d u : Nat) (w : World) (hG : GrIn A1 N.length A2 E.length N E p m w) (hS : SeIn A3 T.length T d w) (hu : u < 18446744073709551616) (hT : Tab w) :
    Calls Tryd.prog 4 #[gv A1 N.length c1 A2 E.length c2 p m, sx A3 T.length c3 d, .int .u64 (u : Int)] w fun e w' => e = .returned (.bool true) ∧ Below w.heap.size w w' := staleTells_any w hG hS hT u hu
end Go.Proofs.YtiechbaknolimaaDoor
