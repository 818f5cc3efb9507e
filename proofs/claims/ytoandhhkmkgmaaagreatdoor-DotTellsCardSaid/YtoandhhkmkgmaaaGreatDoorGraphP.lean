/- Contract: graph.Part. The table of math/bits lies. -/
import Derived.Test.YtoandhhkmkgmaaaGreatDoorOwnK
import Derived.Test.YtoandhhkmkgmaaaGreatDoorGraphT0
import Derived.Test.YtoandhhkmkgmaaaGreatDoorGr4
import Derived.BigQuiet
import Derived.Deep.QuietTactic
import Derived.Deep.RegionLaw
namespace Go.Proofs.YtoandhhkmkgmaaaGreatDoor
open Go.RowKit

def partErr (n : Nat) (s : Nat) (e0 : Int) : Int := if e0 = 0 then (if minus s (upTo n) = 0 then 0 else 4) else e0
theorem cell_set {w : World} {b b' j o : Nat} {v : Value} (h : w.cell? ⟨b', j, none⟩ = some v) (hne : b' ≠ b) (u : Value) : (w.setCell ⟨b, o, none⟩ u).cell? ⟨b', j, none⟩ = some v :=
  (World.cell?_of_block (Below.heap_setCell _ _ _ _ hne)).trans h
theorem cell_gb {w w1 : World} {b b' j : Nat} {v : Value} (h : w.cell? ⟨b', j, none⟩ = some v) (hg : w.grownBy w1 (some b)) (hne : b' ≠ b) : w1.cell? ⟨b', j, none⟩ = some v :=
  (World.cell?_of_block (hg.block b' (lt_of_cell' h) (fun e => hne (by injection e)))).trans h
theorem cell_lt {B : Nat} {w w' : World} {b o : Nat} {v : Value} (h : w.cell? ⟨b, o, none⟩ = some v) (hb : Below B w w') (hlt : b < B) : w'.cell? ⟨b, o, none⟩ = some v := (hb.cell (p := ⟨b, o, none⟩) hlt).trans h
theorem elStrG : Tryz.prog.underlying 22 = some (.slice 9) ∧ ∃ i, Tryz.prog.info? 9 = some i ∧ i.zero = some (.string ⟨#[]⟩) ∧ i.size = 1 ∧ i.bytes = 16 ∧ (Value.string ⟨#[]⟩).cells.size = 1 := by
  refine ⟨Tryz.underlying22, ?_⟩
  have h := infoStr
  cases hi : Tryz.prog.info? 9 with
  | none => rw [hi] at h; cases h
  | some i =>
    rw [hi] at h
    simp at h
    exact ⟨i, rfl, h.1, h.2.1, h.2.2, by rfl⟩
section
variable {A1 A2 : Option Addr} {n k c1 c2 : Nat} {N : List (List UInt8)} {E : List EdgeT} {p m : Nat} (w : World) (hG : GrIn A1 n A2 k N E p m w) (s : Nat) (hs : B64 s)
include hG hs
set_option maxRecDepth 100000 in
set_option maxHeartbeats 2000000 in
theorem gPart_bad (he : partErr n s (grErr N E p m) ≠ 0) : Calls Tryz.prog 50 #[gv A1 n c1 A2 k c2 p m, .int .u64 (s : Int)] w (GPost (partErr n s (grErr N E p m)) [] [] 0 0 w) := by
  have C1 := Lib.hid (fun W (hW : Below w.heap.size w W) => gCheck_any (c1 := c1) (c2 := c2) W (hG.below hW))
  have HN64 : Hid (grErr N E p m = 0 → n ≤ 64) := Lib.hid (fun h => by have := (gr_ok h).1; rw [hG.nlen] at this; exact this)
  have HS := Lib.hid hs
  generalize grErr N E p m = e0 at *
  unfold gv at *
  obtain ⟨w2, hw2, x0, r0, z0⟩ := box_turn w (.slice A1 n c1) (.slice A2 k c2) (.int .u64 (p : Int)) (.int .u64 (m : Int)) (.slice none 0 0) (.slice none 0 0) (.int .u64 0) (.int .u64 0) 43 43
  have X2 := Lib.hid x0
  have R2 := Lib.hid r0
  have B2 := Lib.hid z0
  have HW2 := Lib.hid hw2
  have HEN := Lib.hid he
  clear hG hs x0 r0 z0 hw2 he
  go_enter Tryz.func50, Tryz.ntmps50
  go_upto_region 1 with fail
  rw [← HW2.out]
  generalize hBr : w.heap.size + 1 = Br at *
  have HBr := Lib.hid hBr
  clear hBr HW2
  obtain ⟨x1, x2, x3, x4⟩ := X2.out
  go_wp2_with fail
  refine (C1.out _ B2.out).mono ?_
  rintro e w3 ⟨rfl, hb3⟩
  have B3 := Lib.hid (below_then B2.out hb3)
  have X3 := Lib.hid (X2.out.below hb3)
  have R3 := Lib.hid (R2.out.below hb3 R2.out.lt)
  clear hb3 x1 x2 x3 x4 X2 C1 R2
  have r1 := R3.out.cell (j := 0) rfl
  have r2 := R3.out.cell (j := 1) rfl
  have r3 := R3.out.cell (j := 2) rfl
  have r4 := R3.out.cell (j := 3) rfl
  have rf := R3.out.free
  by_cases h0 : e0 = 0
  · subst h0
    have hn64 := HN64.out rfl
    have hz : minus s (upTo n) ≠ 0 := fun h => HEN.out (by unfold partErr; rw [if_pos rfl, if_pos h])
    have HE : Hid (partErr n s 0 = 4) := Lib.hid (by unfold partErr; rw [if_pos rfl, if_neg hz])
    have han : bits .andNot .u64 (s : Int) (upTo n : Nat) = (minus s (upTo n) : Nat) := minus_raw _ _ HS.out (upTo_b64 hn64)
    have hzi : ((minus s (upTo n) : Nat) : Int) ≠ 0 := by omega
    generalize minus s (upTo n) = M at *
    obtain ⟨x1, x2, x3, x4⟩ := X3.out
    clear hz
    go_wp2_with fail
    refine (pBelow_yes (n : Int) (by omega) (by omega) _).mono ?_
    rintro e w' ⟨rfl, rfl⟩
    rw [Int.toNat_natCast]
    go_wp2_with fail
    have RZ := Lib.hid (R3.out.put4 (.slice none 0 0) (.slice none 0 0) (.int .u64 0) (.int .u64 0))
    have BZ := Lib.hid (below_put4 B3.out (by have := HBr.out; omega : w.heap.size ≤ Br) (.slice none 0 0) (.slice none 0 0) (.int .u64 0) (.int .u64 0))
    generalize ((((w3.setCell ⟨Br, 0, none⟩ (.slice none 0 0)).setCell ⟨Br, 1, none⟩ (.slice none 0 0)).setCell ⟨Br, 2, none⟩ (.int .u64 0)).setCell ⟨Br, 3, none⟩ (.int .u64 0)) = wz at *
    have q1 := RZ.out.cell (j := 0) rfl
    have q2 := RZ.out.cell (j := 1) rfl
    have q3 := RZ.out.cell (j := 2) rfl
    have q4 := RZ.out.cell (j := 3) rfl
    refine bodyPost_ret (v := .tuple #[.agg #[.slice none 0 0, .slice none 0 0, .int .u64 0, .int .u64 0], .int .i64 4]) (by simp [results, Tryz.results50, go_sem, q1, q2, q3, q4]) rfl ?_
    rw [HE.out]
    exact gPost_no rfl BZ.out
  · have HE : Hid (partErr n s e0 = e0) := Lib.hid (by unfold partErr; rw [if_neg h0])
    go_wp2_with fail
    have RZ := Lib.hid (R3.out.put4 (.slice none 0 0) (.slice none 0 0) (.int .u64 0) (.int .u64 0))
    have BZ := Lib.hid (below_put4 B3.out (by have := HBr.out; omega : w.heap.size ≤ Br) (.slice none 0 0) (.slice none 0 0) (.int .u64 0) (.int .u64 0))
    generalize ((((w3.setCell ⟨Br, 0, none⟩ (.slice none 0 0)).setCell ⟨Br, 1, none⟩ (.slice none 0 0)).setCell ⟨Br, 2, none⟩ (.int .u64 0)).setCell ⟨Br, 3, none⟩ (.int .u64 0)) = wz at *
    have q1 := RZ.out.cell (j := 0) rfl
    have q2 := RZ.out.cell (j := 1) rfl
    have q3 := RZ.out.cell (j := 2) rfl
    have q4 := RZ.out.cell (j := 3) rfl
    refine bodyPost_ret (v := .tuple #[.agg #[.slice none 0 0, .slice none 0 0, .int .u64 0, .int .u64 0], .int .i64 e0]) (by simp [results, Tryz.results50, go_sem, q1, q2, q3, q4]) rfl ?_
    rw [HE.out]
    exact gPost_no rfl BZ.out
set_option maxRecDepth 100000 in
set_option maxHeartbeats 2000000 in
theorem gPart_good (he : partErr n s (grErr N E p m) = 0) (hT : Tab w) : Calls Tryz.prog 50 #[gv A1 n c1 A2 k c2 p m, .int .u64 (s : Int)] w (GPost 0 (partN N s) (partE E s) (partS p s) (partS m s) w) := by
  have he0 : grErr N E p m = 0 := by
    apply Classical.byContradiction
    intro h
    unfold partErr at he
    rw [if_neg h] at he
    exact h he
  have hms : minus s (upTo n) = 0 := by
    apply Classical.byContradiction
    intro h
    unfold partErr at he
    rw [if_pos he0, if_neg h] at he
    cases he
  have C1 := Lib.hid (fun W (hW : Below w.heap.size w W) => gCheck_any (c1 := c1) (c2 := c2) W (hG.below hW))
  have C3 := Lib.hid (fun W (hW : Below w.heap.size w W) => sqz_any p s hG.p64 hs W (hT.below hW))
  have C4 := Lib.hid (fun W (hW : Below w.heap.size w W) => sqz_any m s hG.m64 hs W (hT.below hW))
  have C5 := Lib.hid (fun W (hW : Below w.heap.size w W) => list_any s hs W (hT.below hW))
  have HG := Lib.hid hG
  have HS := Lib.hid hs
  rw [he0] at C1
  obtain ⟨hn64, _, _, hout, _, _⟩ := gr_ok he0
  rw [hG.nlen] at hn64 hout
  have hkb : k ≤ 4096 := by have := edges_le hn64 hout (gr_ok he0).2.2.2.2.1; rw [hG.elen] at this; exact this
  have HOUT := Lib.hid hout
  have hlen := nums_len s
  have HSN : Hid (∀ (q x : Nat), (nums s)[q]? = some x → x < n) := Lib.hid (fun q x hx => by
    have hb := (mem_nums hs).1 (List.mem_of_getElem? hx)
    apply Classical.byContradiction
    intro hc
    exact sets_out hs hn64 (Nat.le_of_not_lt hc) hb hms)
  have han : bits .andNot .u64 (s : Int) (upTo n : Nat) = 0 := by rw [minus_raw _ _ hs (upTo_b64 hn64), hms]; rfl
  unfold gv at C1 ⊢
  obtain ⟨w2, hw2, x0, r0, z0⟩ := box_turn w (.slice A1 n c1) (.slice A2 k c2) (.int .u64 (p : Int)) (.int .u64 (m : Int)) (.slice none 0 0) (.slice none 0 0) (.int .u64 0) (.int .u64 0) 43 43
  have X2 := Lib.hid x0
  have R2 := Lib.hid r0
  have B2 := Lib.hid z0
  have HW2 := Lib.hid hw2
  have HMS := Lib.hid hms
  clear hG he he0 hms hout x0 r0 z0 hw2 hT hs
  go_enter Tryz.func50, Tryz.ntmps50
  go_upto_region 1 with fail
  rw [← HW2.out]
  generalize hBr : w.heap.size + 1 = Br at *
  have HBr := Lib.hid hBr
  clear hBr HW2
  obtain ⟨x1, x2, x3, x4⟩ := X2.out
  go_wp2_with fail
  refine (C1.out _ B2.out).mono ?_
  rintro e w3 ⟨rfl, hb3⟩
  have B3 := Lib.hid (below_then B2.out hb3)
  have X3 := Lib.hid (X2.out.below hb3)
  have R3 := Lib.hid (R2.out.below hb3 R2.out.lt)
  clear hb3 x1 x2 x3 x4 X2 C1 R2
  obtain ⟨x1, x2, x3, x4⟩ := X3.out
  go_wp2_with fail
  refine (pBelow_yes (n : Int) (by omega) (by omega) _).mono ?_
  rintro e w' ⟨rfl, rfl⟩
  rw [Int.toNat_natCast]
  go_upto_region 7 with fail
  have BD := Lib.hid (Below.drew B3.out)
  have BA := Lib.hid (Below.drew (below_new B3.out (.cells #[.slice none 0 0, .slice none 0 0, .int .u64 0, .int .u64 0] 43)))
  have HZ := Lib.hid (show Blk (w3.alloc (.cells #[.slice none 0 0, .slice none 0 0, .int .u64 0, .int .u64 0] 43)).drew w3.heap.size 43 [.slice none 0 0, .slice none 0 0, .int .u64 0, .int .u64 0] from Blk.new w3 #[.slice none 0 0, .slice none 0 0, .int .u64 0, .int .u64 0] 43)
  have nez : w.heap.size ≠ w3.heap.size := by have h1 := lt_of_cell' x1; omega
  have y3 := cell_alloc x3 (.cells #[.slice none 0 0, .slice none 0 0, .int .u64 0, .int .u64 0] 43)
  have y4 := cell_alloc x4 (.cells #[.slice none 0 0, .slice none 0 0, .int .u64 0, .int .u64 0] 43)
  have d3 : w3.drew.cell? ⟨w.heap.size, 2, none⟩ = some (.int .u64 (p : Int)) := x3
  have d4 : w3.drew.cell? ⟨w.heap.size, 3, none⟩ = some (.int .u64 (m : Int)) := x4
  have f3 : (w3.alloc (.cells #[.slice none 0 0, .slice none 0 0, .int .u64 0, .int .u64 0] 43)).drew.cell? ⟨w.heap.size, 2, none⟩ = some (.int .u64 (p : Int)) := y3
  have f4 : (w3.alloc (.cells #[.slice none 0 0, .slice none 0 0, .int .u64 0, .int .u64 0] 43)).drew.cell? ⟨w.heap.size, 3, none⟩ = some (.int .u64 (m : Int)) := y4
  have LD : ∀ w5, Below w3.drew.heap.size w3.drew w5 → Below w3.heap.size w3 w5 := fun w5 hb5 => ⟨hb5.os, hb5.tape, hb5.output, hb5.size, hb5.block⟩
  have LA : ∀ w5, Below (w3.alloc (.cells #[.slice none 0 0, .slice none 0 0, .int .u64 0, .int .u64 0] 43)).drew.heap.size (w3.alloc (.cells #[.slice none 0 0, .slice none 0 0, .int .u64 0, .int .u64 0] 43)).drew w5 → Below w3.heap.size w3 w5 := fun w5 hb5 => (below_new (Below.refl w3.heap.size w3) (.cells #[.slice none 0 0, .slice none 0 0, .int .u64 0, .int .u64 0] 43)).trans (Below.mono (⟨hb5.os, hb5.tape, hb5.output, hb5.size, hb5.block⟩ : Below (w3.alloc (.cells #[.slice none 0 0, .slice none 0 0, .int .u64 0, .int .u64 0] 43)).heap.size (w3.alloc (.cells #[.slice none 0 0, .slice none 0 0, .int .u64 0, .int .u64 0] 43)) w5) (by simp))
  go_cut [9] from 32 (fun s9 wx => ∃ Bm, s9 = .pointer (some ⟨Bm, 0, none⟩) ∧ Hid (Blk wx Bm 43 [.slice none 0 0, .slice none 0 0, .int .u64 (partS p s : Nat), .int .u64 (partS m s : Nat)]) ∧ Hid (w3.heap.size ≤ Bm) ∧ Hid (Below w3.heap.size w3 wx))
  case first =>
    go_region_held3 (fun w' => w'.cell? ⟨w.heap.size, 2, none⟩ = some (.int .u64 (p : Int)) ∧ w'.cell? ⟨w.heap.size, 3, none⟩ = some (.int .u64 (m : Int)))
      ((refine ⟨?_, ?_⟩ <;> first | (with_reducible assumption) | (with_reducible exact cell_alloc (by assumption) _) | (with_reducible exact cell_put4 (by assumption) (by assumption) _ _ _ _) | assumption))
      ((first
        | (go_at_call 101; (with_reducible refine (C3.out _ BD.out).mono ?_); rintro e w5 ⟨rfl, hb5⟩; have z3 := cell_keep d3 hb5; have z4 := cell_keep d4 hb5; have h5 := LD w5 hb5; have nez5 : w.heap.size ≠ w5.heap.size := by (have h1 := lt_of_cell' z3; omega))
        | (go_at_call 101; (with_reducible refine (C3.out _ BA.out).mono ?_); rintro e w5 ⟨rfl, hb5⟩; have z3 := cell_keep f3 hb5; have z4 := cell_keep f4 hb5; have hm := HZ.out.below hb5 HZ.out.lt; have h5 := LA w5 hb5)
        | (go_at_call 101; (with_reducible refine (C4.out w5 (below_then B3.out h5)).mono ?_); rintro e w6 ⟨rfl, hb6⟩; have v3 := cell_keep z3 hb6; have v4 := cell_keep z4 hb6; have h6 : Below w3.heap.size w3 w6 := h5.trans (hb6.mono h5.size); (have nez6 : w.heap.size ≠ w6.heap.size := by (have h1 := lt_of_cell' v3; omega)); try (have hm6 := hm.below hb6 hm.lt; have mm1 := hm6.cell (j := 0) rfl;  have mm2 := hm6.cell (j := 1) rfl; have mm3 := hm6.cell (j := 2) rfl; have mm4 := hm6.cell (j := 3) rfl; have mmf := hm6.free))
        | (go_at_call 101; (with_reducible refine (C4.out (w5.alloc (.cells #[.slice none 0 0, .slice none 0 0, .int .u64 0, .int .u64 0] 43)) (below_new (below_then B3.out h5) _)).mono ?_); rintro e w6 ⟨rfl, hb6⟩; have v3 := cell_keep (cell_alloc z3 (.cells #[.slice none 0 0, .slice none 0 0, .int .u64 0, .int .u64 0] 43)) hb6; have v4 := cell_keep (cell_alloc z4 (.cells #[.slice none 0 0, .slice none 0 0, .int .u64 0, .int .u64 0] 43)) hb6; have hm5 := Blk.new w5 #[.slice none 0 0, .slice none 0 0, .int .u64 0, .int .u64 0] 43; have hm6 := hm5.below hb6 hm5.lt; have h6 : Below w3.heap.size w3 w6 := (below_new h5 (.cells #[.slice none 0 0, .slice none 0 0, .int .u64 0, .int .u64 0] 43)).trans (hb6.mono (Nat.le_trans h5.size (by simp))); have mm1 := hm6.cell (j := 0) rfl; have mm2 := hm6.cell (j := 1) rfl; have mm3 := hm6.cell (j := 2) rfl; have mm4 := hm6.cell (j := 3) rfl; have mmf := hm6.free)))
    · have hB : Below w3.heap.size w3 (w6.alloc (.cells #[.slice none 0 0, .slice none 0 0, .int .u64 (partS p s : Nat), .int .u64 (partS m s : Nat)] 43)) := below_new h6 _
      have hS : w3.heap.size ≤ w6.heap.size := h6.size
      go_wp2_with fail
      go_meet
      exact ⟨w6.heap.size, rfl, Lib.hid (Blk.new w6 _ _), Lib.hid hS, Lib.hid hB⟩
    · have hS : w3.heap.size ≤ w5.heap.size := h5.size
      have hM := hm6.put4 (.slice none 0 0) (.slice none 0 0) (.int .u64 (partS p s : Nat)) (.int .u64 (partS m s : Nat))
      have hB := below_put4 h6 hS (.slice none 0 0) (.slice none 0 0) (.int .u64 (partS p s : Nat)) (.int .u64 (partS m s : Nat))
      go_wp2_with fail
      go_meet
      exact ⟨w5.heap.size, rfl, Lib.hid hM, Lib.hid hS, Lib.hid hB⟩
    · have hM := hm6.put4 (.slice none 0 0) (.slice none 0 0) (.int .u64 (partS p s : Nat)) (.int .u64 (partS m s : Nat))
      have hB := below_put4 h6 (Nat.le_refl _) (.slice none 0 0) (.slice none 0 0) (.int .u64 (partS p s : Nat)) (.int .u64 (partS m s : Nat))
      go_wp2_with fail
      go_meet
      exact ⟨w3.heap.size, rfl, Lib.hid hM, Lib.hid (Nat.le_refl _), Lib.hid hB⟩
  case rest =>
    obtain ⟨Bm, rfl, HM, HNE, HB4⟩ := hcut
    clear x1 x2 x3 x4 y3 y4 nez BD BA HZ C3 C4 d3 d4 f3 f4 LD LA
    have B4 := Lib.hid (below_then B3.out HB4.out)
    have X4 := Lib.hid (X3.out.below HB4.out)
    have R4 := Lib.hid (R3.out.below HB4.out R3.out.lt)
    have HLE : Hid (w.heap.size ≤ w3.heap.size ∧ Br < w3.heap.size ∧ w.heap.size < w3.heap.size) := Lib.hid ⟨B3.out.size, R3.out.lt, lt_of_cell' X3.out.c1⟩
    have neb : w.heap.size ≠ Bm := by have := HLE.out; have := HNE.out; omega
    have neR : Br ≠ Bm := by have := HLE.out; have := HNE.out; omega
    have HKE := Lib.hid HG.out.elen
    obtain ⟨x1, x2, x3, x4⟩ := X4.out
    clear X3 R3
    go_wp2_with fail
    refine (C5.out _ B4.out).mono ?_
    rintro e w5 ⟨AN, cN, rfl, hownN, hb5⟩
    have B5 := Lib.hid (below_then B4.out hb5)
    have X5 := Lib.hid (X4.out.below hb5)
    have R5 := Lib.hid (R4.out.below hb5 R4.out.lt)
    have HM5 := Lib.hid (HM.out.below hb5 HM.out.lt)
    have HNO := Lib.hid hownN
    have HND : Hid (∀ g, (Value.slice AN (nums s).length cN).ownBlock = some g → wc.heap.size ≤ g ∧ g < w5.heap.size) := Lib.hid (fun g hg => hownN.lt g hg)
    have HBM : Hid (Bm < wc.heap.size ∧ wc.heap.size ≤ w5.heap.size ∧ w.heap.size ≤ Bm) := Lib.hid ⟨HM.out.lt, hb5.size, by have := HLE.out; have := HNE.out; omega⟩
    have HSN' := HSN
    clear x1 x2 x3 x4 X4 R4 hownN hb5 C5 HM HB4 B4
    go_wp2_with fail
    go_loopw [11, 44] (fun _ i wr => ∃ q : Nat, q ≤ (nums s).length ∧ i = .int .i64 (q : Int) ∧ ∃ AI cI, Hid (Blk wr Bm 43 [.slice AI q cI, .slice none 0 0, .int .u64 (partS p s : Nat), .int .u64 (partS m s : Nat)]) ∧ Hid (wr.ownsRow w5.heap.size 9 1 (.slice AI q cI) q (((partN N s).take q).map sv)) ∧ Hid (w5.grownBy wr (some Bm))) (fun _ i _ => (nums s).length - (intOf i).toNat)
    case atStart => exact ⟨0, by omega, rfl, none, 0, HM5, Lib.hid (World.ownsRow_nil _ _ _ _), Lib.hid ⟨rfl, rfl, rfl, Nat.le_refl _, fun _ _ _ => rfl⟩⟩
    case round =>
      obtain ⟨q, hq, rfl, AI, cI, hm, hown, hgr⟩ := hrel
      have BW := Lib.hid (B5.out.grown hgr.out B5.out.size (fun k hk => by injection hk with hk; have := HBM.out; omega))
      have m1 := hm.out.cell (j := 0) rfl
      have mf := hm.out.free
      by_cases hlt : q < (nums s).length
      · obtain ⟨x, hx⟩ : ∃ x, (nums s)[q]? = some x := ⟨_, List.getElem?_eq_getElem hlt⟩
        have hxn := HSN.out q x hx
        obtain ⟨nm, hnm⟩ : ∃ nm, N[x]? = some nm := ⟨_, List.getElem?_eq_getElem (by rw [HG.out.nlen]; exact hxn)⟩
        obtain ⟨bN, oN, rfl, v0⟩ := HG.out.names.scell hnm
        have v3 := cell_keep v0 BW.out
        have neBN : bN ≠ Bm := by have := lt_of_cell' v0; have := HBM.out; omega
        have HAN := Lib.hid (HNO.out.kept hgr.out (by
          cases hv : (Value.slice AN (nums s).length cN).ownBlock with
          | none => exact .inl rfl
          | some g => exact .inr (by intro he; injection he with he; have := (HND.out g hv).1; have := HBM.out; omega)))
        obtain ⟨bL, oL, rfl, z1⟩ := (Rd.of_own HAN.out).at_ (k := q) (by rw [List.length_map]; exact hlt)
        rw [List.getElem_map, (List.getElem?_eq_some_iff.1 hx).2] at z1
        have v1 := cell_gb X5.out.c1 hgr.out (by have := HLE.out; have := HNE.out; omega)
        have HTK : Hid ((((partN N s).take (q + 1)).map sv) = ((partN N s).take q).map sv ++ [.string ⟨nm.toArray⟩]) := Lib.hid (by
          have hh : (partN N s)[q]? = some nm := by unfold partN; rw [List.getElem?_map, hx]; simp [List.getD_eq_getElem?_getD, hnm]
          obtain ⟨hl, he⟩ := List.getElem?_eq_some_iff.1 hh
          rw [List.take_succ_eq_append_getElem hl, he, List.map_append]; rfl)
        have hq2 : (q : Int) < ((nums s).length : Int) := by omega
        have hxn2 : (x : Int) < (n : Int) := by omega
        unfold nv at z1
        clear hx hnm HAN
        obtain ⟨ht, i0, hi, hz, hs1, hby, hzs⟩ := elStrG
        have hb0 : Below wr.heap.size wr (wr.drew.alloc (.cells #[.string ⟨nm.toArray⟩] 9)) := drew_alloc_below wr _
        have H1 : Hid ((wr.drew.alloc (.cells #[.string ⟨nm.toArray⟩] 9)).ownsRow w5.heap.size 9 1 (.slice AI q cI) q (((partN N s).take q).map sv)) := Lib.hid (own_belowK hown.out hb0)
        have H2 : Hid (∀ j u, ([.string ⟨nm.toArray⟩] : List Value)[j]? = some u → (wr.drew.alloc (.cells #[.string ⟨nm.toArray⟩] 9)).cell? ((⟨wr.heap.size, 0, none⟩ : Addr).add j) = some u) := Lib.hid (cell_one_new wr.drew _ _)
        have H3 : Hid (∀ u ∈ ([.string ⟨nm.toArray⟩] : List Value), u.oneCell' = true) := Lib.hid (by intro u hu; simp at hu; subst hu; rfl)
        have H4 : Hid (w5.heap.size ≤ (wr.drew.alloc (.cells #[.string ⟨nm.toArray⟩] 9)).heap.size) := Lib.hid (Nat.le_trans hgr.out.size hb0.size)
        have H5 : Hid (Below w5.heap.size wr (wr.drew.alloc (.cells #[.string ⟨nm.toArray⟩] 9))) := Lib.hid (hb0.mono hgr.out.size)
        have HT9 : Hid (∀ w9, Below w5.heap.size wr w9 → w9.cell? ⟨Bm, 0, none⟩ = some (.slice AI q cI) ∧ w9.frozen? ⟨Bm, 0, none⟩ = false) := Lib.hid (fun w9 hb9 => by
          have hh := hm.out.below hb9 HM5.out.lt
          exact ⟨hh.cell (j := 0) rfl, hh.free 0⟩)
        have a1 : (wr.drew.alloc (.cells #[.string ⟨nm.toArray⟩] 9)).cell? ⟨Bm, 0, none⟩ = some (.slice AI q cI) := cell_alloc (w := wr.drew) m1 _
        have b1 : (wr.alloc (.cells #[.string ⟨nm.toArray⟩] 9)).cell? ⟨Bm, 0, none⟩ = some (.slice AI q cI) := cell_alloc m1 _
        have d1 : wr.drew.cell? ⟨Bm, 0, none⟩ = some (.slice AI q cI) := m1
        have lt1 : w.heap.size < w5.heap.size := by have := HLE.out; have := HBM.out; have := HNE.out; omega
        have lt2 : bN < w5.heap.size := by have := lt_of_cell' v0; omega
        have a2 : (wr.drew.alloc (.cells #[.string ⟨nm.toArray⟩] 9)).cell? ⟨w.heap.size, 0, none⟩ = some (.slice (some ⟨bN, oN, none⟩) n c1) := cell_alloc (w := wr.drew) v1 _
        have a3 : (wr.drew.alloc (.cells #[.string ⟨nm.toArray⟩] 9)).cell? ⟨bN, oN + x, none⟩ = some (.string ⟨nm.toArray⟩) := cell_alloc (w := wr.drew) v3 _
        have hnl := nums_len s
        clear hb0
        go_upto_region 11 with fail
        go_region_law
          (refine step_append_lies _ rfl (.tmp 49) (.tmp 55) 22 rfl w5.heap.size 9 i0 _ 1 16 ht hi hz hs1 hby hzs (by decide) (.slice AI q cI) q (((partN N s).take q).map sv) (by simp [Act.eval]) H1.out ⟨wr.heap.size, 0, none⟩ 1 1 [.string ⟨nm.toArray⟩] (by simp [Act.eval]) rfl H2.out H3.out (by decide) (by unfold maxLen; omega) (by omega) H4.out _ rfl ?_; intro g7 c7 w7 hown7 hg7 _ _; have HB7 : Below w5.heap.size wr w7 := H5.out.grown hg7 H4.out (fun k hk => (H1.out.lt k hk).1); obtain ⟨t1, tf⟩ := HT9.out w7 HB7; have u1 := cell_lt v1 HB7 lt1; have u2 := cell_lt v3 HB7 lt2)
        all_goals (
          have HBM9 : Hid (Blk (w7.setCell ⟨Bm, 0, none⟩ (.slice (some ⟨g7, 0, none⟩) (q + 1) c7)) Bm 43 [.slice (some ⟨g7, 0, none⟩) (q + 1) c7, .slice none 0 0, .int .u64 (partS p s : Nat), .int .u64 (partS m s : Nat)]) := Lib.hid ((hm.out.below HB7 HM5.out.lt).same 0 _)
          have HOW : Hid ((w7.setCell ⟨Bm, 0, none⟩ (.slice (some ⟨g7, 0, none⟩) (q + 1) c7)).ownsRow w5.heap.size 9 1 (.slice (some ⟨g7, 0, none⟩) (q + 1) c7) (q + 1) (((partN N s).take (q + 1)).map sv)) := Lib.hid (by
            rw [HTK.out]
            exact ownsRow_setCell_below hown7 (a := ⟨Bm, 0, none⟩) HM5.out.lt _)
          have HGR : Hid (w5.grownBy (w7.setCell ⟨Bm, 0, none⟩ (.slice (some ⟨g7, 0, none⟩) (q + 1) c7)) (some Bm)) := Lib.hid (gb_set (gb_below hgr.out HB7) 0 _)
          clear hown7 hg7 HB7 hm hown hgr
          go_simp
          go_wp2_with fail
          go_roundw
          case rel => exact ⟨q + 1, by omega, by go_num, some ⟨g7, 0, none⟩, c7, HBM9, HOW, HGR⟩
          case measure => simp [intOf]; omega)
      · obtain rfl : q = (nums s).length := by omega
        have hqn : ¬ ((nums s).length : Int) < ((nums s).length : Int) := by omega
        have hpl : (partN N s).length = (nums s).length := by unfold partN; rw [List.length_map]
        have HOL : Hid (wr.ownsRow w5.heap.size 9 1 (.slice AI (nums s).length cI) (nums s).length ((partN N s).map sv)) := Lib.hid (by have := hown.out; rwa [List.take_of_length_le (by omega)] at this)
        have v2 := cell_gb X5.out.c2 hgr.out (by have := HLE.out; have := HNE.out; omega)
        have HL5 : Hid (∀ g, (Value.slice AI (nums s).length cI).ownBlock = some g → g ≠ Bm) := Lib.hid (fun g hg => by have := (HOL.out.lt g hg).1; have := HBM.out; omega)
        have HBL := Lib.hid (show Bm < wr.heap.size from hm.out.lt)
        have HWL : Hid (w5.heap.size ≤ wr.heap.size) := Lib.hid hgr.out.size
        clear hown hpl
        go_wp2_with fail
        generalize wr = wl at *
        go_loopw [13, 62] (fun _ i wr => ∃ q : Nat, q ≤ k ∧ i = .int .i64 (q : Int) ∧ ∃ AE kE cE, kE ≤ q ∧ Hid ((partE (E.take q) s).length = kE) ∧ Hid (Blk wr Bm 43 [.slice AI (nums s).length cI, .slice AE kE cE, .int .u64 (partS p s : Nat), .int .u64 (partS m s : Nat)]) ∧ Hid (wr.ownsRow wl.heap.size 102 2 (.slice AE kE cE) kE (eV (partE (E.take q) s))) ∧ Hid (wl.grownBy wr (some Bm))) (fun _ i _ => k - (intOf i).toNat)
        case atStart => exact ⟨0, by omega, rfl, none, 0, 0, by omega, Lib.hid rfl, hm, Lib.hid (World.ownsRow_nil _ _ _ _), Lib.hid ⟨rfl, rfl, rfl, Nat.le_refl _, fun _ _ _ => rfl⟩⟩
        case round =>
          obtain ⟨q, hq, rfl, AE, kE, cE, hkq, hkE, hmi, howni, hgri⟩ := hrel
          by_cases hlt : q < k
          · obtain ⟨⟨e1, e2⟩, he⟩ : ∃ e, E[q]? = some e := ⟨_, List.getElem?_eq_getElem (by rw [HKE.out]; exact hlt)⟩
            obtain ⟨a, b, rfl, rfl, ha, hb⟩ : ∃ a b : Nat, e1 = (a : Int) ∧ e2 = (b : Int) ∧ a < n ∧ b < n := by
              have := List.any_eq_false.1 HOUT.out _ (List.mem_of_getElem? he)
              unfold edgeOut at this
              simp at this
              exact ⟨e1.toNat, e2.toNat, by omega, by omega, by omega, by omega⟩
            have HBWl := Lib.hid (BW.out.grown hgri.out BW.out.size (fun k hk => by injection hk with hk; have := HBM.out; omega))
            obtain ⟨bE, oE, rfl, y1, y2⟩ := (HG.out.edges.below HBWl.out).edge he
            simp only at y1 y2
            have hq2 : (q : Int) < (k : Int) := by omega
            have HTK : Hid (partE (E.take (q + 1)) s = partE (E.take q) s ++ (if inE s ((a : Int), (b : Int)) then [rkE s ((a : Int), (b : Int))] else [])) := Lib.hid (by
              obtain ⟨hl, hx⟩ := List.getElem?_eq_some_iff.1 he
              unfold partE
              rw [List.take_succ_eq_append_getElem hl, hx, List.filter_append, List.map_append]
              cases hi : inE s ((a : Int), (b : Int)) <;> simp [hi])
            clear he
            have hA : bits .and .u64 ((s : Int) / 2 ^ a) ((s : Int) / 2 ^ b) = ((s / 2 ^ a &&& s / 2 ^ b : Nat) : Int) := by
              rw [show ((s : Int) / 2 ^ a) = ((s / 2 ^ a : Nat) : Int) by simp, show ((s : Int) / 2 ^ b) = ((s / 2 ^ b : Nat) : Int) by simp]
              exact u64_and_nat _ _ (Nat.lt_of_le_of_lt (Nat.div_le_self _ _) HS.out) (Nat.lt_of_le_of_lt (Nat.div_le_self _ _) HS.out)
            have hB : bits .and .u64 ((s / 2 ^ a &&& s / 2 ^ b : Nat) : Int) 1 = if inE s ((a : Int), (b : Int)) then 1 else 0 := by
              have h1 := bit_raw (s / 2 ^ a &&& s / 2 ^ b) 0 (Nat.lt_of_le_of_lt (Nat.and_le_left) (Nat.lt_of_le_of_lt (Nat.div_le_self _ _) HS.out))
              rw [show ((s / 2 ^ a &&& s / 2 ^ b : Nat) : Int) / 2 ^ 0 = ((s / 2 ^ a &&& s / 2 ^ b : Nat) : Int) by simp] at h1
              rw [h1, show (s / 2 ^ a &&& s / 2 ^ b).testBit 0 = inE s ((a : Int), (b : Int)) by
                unfold inE
                rw [Nat.testBit_and, ← Nat.shiftRight_eq_div_pow, ← Nat.shiftRight_eq_div_pow, Nat.testBit_shiftRight, Nat.testBit_shiftRight]
                simp]
            generalize (s / 2 ^ a &&& s / 2 ^ b : Nat) = V at *
            have hbl : Below wr.heap.size wr (wr.alloc (.cells #[.int .i64 (a : Int), .int .i64 (b : Int)] 102)) := below_new (Below.refl _ _) _
            have xa1 : (wr.alloc (.cells #[.int .i64 (a : Int), .int .i64 (b : Int)] 102)).cell? ⟨wr.heap.size, 0, none⟩ = some (.int .i64 (a : Int)) := by rw [World.cell?_alloc_at _ _ _ _ rfl]; rfl
            have xa2 : (wr.alloc (.cells #[.int .i64 (a : Int), .int .i64 (b : Int)] 102)).cell? ⟨wr.heap.size, 1, none⟩ = some (.int .i64 (b : Int)) := by rw [World.cell?_alloc_at _ _ _ _ rfl]; rfl
            have HMA := Lib.hid (hmi.out.below hbl hmi.out.lt)
            have HOA := Lib.hid (own_lt howni.out hbl (fun g hg => (howni.out.lt g hg).2))
            have HGA := Lib.hid (gb_below hgri.out (hbl.mono hgri.out.size))
            have ma1 := HMA.out.cell (j := 1) rfl
            have a64 : a < 64 := by omega
            have b64 : b < 64 := by omega
            clear hbl hmi howni hgri
            go_upto_region 16 with fail
            generalize wr.alloc (.cells #[.int .i64 (a : Int), .int .i64 (b : Int)] 102) = wa at *
            generalize wr.heap.size = Bx at *
            cases hie : inE s ((a : Int), (b : Int)) with
            | true =>
              rw [hie, if_pos rfl] at hB HTK
              clear hie
              go_quiet (fail)
              have hbq : Below wa.heap.size wa (wa.drewN nq) := ⟨rfl, rfl, rfl, Nat.le_refl _, fun _ _ => rfl⟩
              have HMB := Lib.hid (HMA.out.below hbq HMA.out.lt)
              have HOB := Lib.hid (own_lt HOA.out hbq (fun g hg => (HOA.out.lt g hg).2))
              have HGB := Lib.hid (gb_below HGA.out (hbq.mono HGA.out.size))
              have xb1 := cell_keep xa1 hbq
              have xb2 := cell_keep xa2 hbq
              clear HMA HOA HGA xa1 xa2 ma1 hbq
              go_upto_region 17 with fail
              generalize wa.drewN nq = wb at *
              have mb1 := HMB.out.cell (j := 1) rfl
              have HRA := Lib.hid (fun W => rank_any s (a : Int) HS.out W)
              have HRB := Lib.hid (fun W => rank_any s (b : Int) HS.out W)
              rw [show rkE s ((a : Int), (b : Int)) = (((rankS s (a : Int) : Nat) : Int), ((rankS s (b : Int) : Nat) : Int)) from rfl] at HTK
              generalize rankS s (a : Int) = ra at *
              generalize rankS s (b : Int) = rb at *
              have hb0 : Below wb.heap.size wb (wb.drew.alloc (.cells #[.int .i64 (ra : Int), .int .i64 (rb : Int)] 102)) := drew_alloc_below wb _
              have H1 : Hid ((wb.drew.alloc (.cells #[.int .i64 (ra : Int), .int .i64 (rb : Int)] 102)).ownsRow wl.heap.size 102 2 (.slice AE kE cE) kE (eV (partE (E.take q) s))) := Lib.hid (own_belowK HOB.out hb0)
              have H2 : Hid (∀ j u, ([.int .i64 (ra : Int), .int .i64 (rb : Int)] : List Value)[j]? = some u → (wb.drew.alloc (.cells #[.int .i64 (ra : Int), .int .i64 (rb : Int)] 102)).cell? ((⟨wb.heap.size, 0, none⟩ : Addr).add j) = some u) := Lib.hid (two_cells (w := wb.drew))
              have H3 : Hid (∀ u ∈ ([.int .i64 (ra : Int), .int .i64 (rb : Int)] : List Value), u.oneCell' = true) := Lib.hid (by intro u hu; simp at hu; rcases hu with rfl | rfl <;> rfl)
              have H4 : Hid (wl.heap.size ≤ (wb.drew.alloc (.cells #[.int .i64 (ra : Int), .int .i64 (rb : Int)] 102)).heap.size) := Lib.hid (Nat.le_trans HGB.out.size hb0.size)
              have H5 : Hid (Below wl.heap.size wb (wb.drew.alloc (.cells #[.int .i64 (ra : Int), .int .i64 (rb : Int)] 102))) := Lib.hid (hb0.mono HGB.out.size)
              have HT9 : Hid (∀ w9, Below wl.heap.size wb w9 → w9.cell? ⟨Bm, 1, none⟩ = some (.slice AE kE cE) ∧ w9.frozen? ⟨Bm, 1, none⟩ = false) := Lib.hid (fun w9 hb9 => by
                have hh := HMB.out.below hb9 HBL.out
                exact ⟨hh.cell (j := 1) rfl, hh.free 1⟩)
              have b1 : (wb.alloc (.cells #[.int .i64 (ra : Int), .int .i64 (rb : Int)] 102)).cell? ⟨Bm, 1, none⟩ = some (.slice AE kE cE) := cell_alloc mb1 _
              clear hb0
              obtain ⟨ht, i0, hi, hz, hs1, hby, hzs⟩ := elEdge
              go_region_law
                ((first
                  | (refine step_append_lies _ rfl (.tmp 78) (.tmp 88) 40 rfl wl.heap.size 102 i0 _ 2 16 ht hi hz hs1 hby hzs (by decide) (.slice AE kE cE) kE (eV (partE (E.take q) s)) (by simp [Act.eval]) H1.out ⟨wb.heap.size, 0, none⟩ 1 1 [.int .i64 (ra : Int), .int .i64 (rb : Int)] (by simp [Act.eval]) rfl H2.out H3.out (by decide) (by unfold maxLen; omega) (by omega) H4.out _ rfl ?_; intro g9 c9 w9 hown9 hg9 _ _; have HB9 : Below wl.heap.size wb w9 := H5.out.grown hg9 H4.out (fun k hk => (H1.out.lt k hk).1); obtain ⟨t1, tf⟩ := HT9.out w9 HB9)
                  | ((rw [if_pos (by rfl)]); go_simp; go_at_call 102; (with_reducible refine (HRA.out _).mono ?_); rintro e w' ⟨rfl, rfl⟩)
                  | ((rw [if_pos (by rfl)]); go_simp; go_at_call 102; (with_reducible refine (HRB.out _).mono ?_); rintro e w' ⟨rfl, rfl⟩)))
              all_goals (
                have HBM9 : Hid (Blk (w9.setCell ⟨Bm, 1, none⟩ (.slice (some ⟨g9, 0, none⟩) (kE + 1) c9)) Bm 43 [.slice AI (nums s).length cI, .slice (some ⟨g9, 0, none⟩) (kE + 1) c9, .int .u64 (partS p s : Nat), .int .u64 (partS m s : Nat)]) := Lib.hid ((HMB.out.below HB9 HBL.out).same 1 _)
                have HOW : Hid ((w9.setCell ⟨Bm, 1, none⟩ (.slice (some ⟨g9, 0, none⟩) (kE + 1) c9)).ownsRow wl.heap.size 102 2 (.slice (some ⟨g9, 0, none⟩) (kE + 1) c9) (kE + 1) (eV (partE (E.take (q + 1)) s))) := Lib.hid (by
                  rw [HTK.out, eV_snoc]
                  exact ownsRow_setCell_below hown9 (a := ⟨Bm, 1, none⟩) HBL.out _)
                have HGR : Hid (wl.grownBy (w9.setCell ⟨Bm, 1, none⟩ (.slice (some ⟨g9, 0, none⟩) (kE + 1) c9)) (some Bm)) := Lib.hid (gb_set (gb_below HGB.out HB9) 1 _)
                have HLE2 : Hid ((partE (E.take (q + 1)) s).length = kE + 1) := Lib.hid (by rw [HTK.out, List.length_append, hkE.out]; rfl)
                clear hown9 hg9 HB9
                go_simp
                go_wp2_with fail
                go_roundw
                case rel => exact ⟨q + 1, by omega, by go_num, some ⟨g9, 0, none⟩, kE + 1, c9, by omega, HLE2, HBM9, HOW, HGR⟩
                case measure => simp [intOf]; omega)
            | false =>
              rw [hie, if_neg (by decide)] at hB HTK
              clear hie
              rw [List.append_nil] at HTK
              go_quiet (fail)
              have hbq : Below wa.heap.size wa (wa.drewN nq) := ⟨rfl, rfl, rfl, Nat.le_refl _, fun _ _ => rfl⟩
              have HMB := Lib.hid (HMA.out.below hbq HMA.out.lt)
              have HOB := Lib.hid (own_lt HOA.out hbq (fun g hg => (HOA.out.lt g hg).2))
              have HGB := Lib.hid (gb_below HGA.out (hbq.mono HGA.out.size))
              clear HMA HOA HGA xa1 xa2 ma1 hbq
              go_wp2_with fail
              go_roundw
              case rel => exact ⟨q + 1, by omega, by go_num, AE, kE, cE, by omega, Lib.hid (by rw [HTK.out]; exact hkE.out), HMB, by rw [HTK.out]; exact HOB, HGB⟩
              case measure => simp [intOf]; omega
          · obtain rfl : q = k := by omega
            have hqn : ¬ (q : Int) < (q : Int) := by omega
            have m1 := hmi.out.cell (j := 0) rfl
            have m2 := hmi.out.cell (j := 1) rfl
            have m3 := hmi.out.cell (j := 2) rfl
            have m4 := hmi.out.cell (j := 3) rfl
            have R9 := Lib.hid ((R5.out.gb hgr.out neR).gb hgri.out neR)
            have HBWl := Lib.hid (BW.out.grown hgri.out BW.out.size (fun k hk => by injection hk with hk; have := HBM.out; omega))
            have r1 := R9.out.cell (j := 0) rfl
            have r2 := R9.out.cell (j := 1) rfl
            have r3 := R9.out.cell (j := 2) rfl
            have r4 := R9.out.cell (j := 3) rfl
            have rf := R9.out.free
            have HTK : Hid (E.take q = E) := Lib.hid (List.take_of_length_le (by rw [HKE.out]; exact Nat.le_refl _))
            have HN9 := Lib.hid (HOL.out.kept hgri.out (by
              cases hv : (Value.slice AI (nums s).length cI).ownBlock with
              | none => exact .inl rfl
              | some g => exact .inr (by intro he; injection he with he; exact HL5.out g hv he)))
            have HRL : Hid (Br < w5.heap.size) := Lib.hid R5.out.lt
            go_wp2_with fail
            have RZ := Lib.hid (R9.out.put4 (.slice AI (nums s).length cI) (.slice AE kE cE) (.int .u64 (partS p s : Nat)) (.int .u64 (partS m s : Nat)))
            have BZ := Lib.hid (below_put4 HBWl.out (by have := HBr.out; omega : w.heap.size ≤ Br) (.slice AI (nums s).length cI) (.slice AE kE cE) (.int .u64 (partS p s : Nat)) (.int .u64 (partS m s : Nat)))
            have NZ := Lib.hid (rd_of_ownK (own_put4 (b := Br) HN9.out (fun he => by have h1 := (HN9.out.lt _ he).1; have h2 := HRL.out; omega) (.slice AI (nums s).length cI) (.slice AE kE cE) (.int .u64 (partS p s : Nat)) (.int .u64 (partS m s : Nat))))
            have EZ := Lib.hid (rd_of_ownK (own_put4 (b := Br) howni.out (fun he => by have h1 := (howni.out.lt _ he).1; have h2 := HRL.out; have h3 := HWL.out; omega) (.slice AI (nums s).length cI) (.slice AE kE cE) (.int .u64 (partS p s : Nat)) (.int .u64 (partS m s : Nat))))
            generalize ((((wr.setCell ⟨Br, 0, none⟩ (.slice AI (nums s).length cI)).setCell ⟨Br, 1, none⟩ (.slice AE kE cE)).setCell ⟨Br, 2, none⟩ (.int .u64 (partS p s : Nat))).setCell ⟨Br, 3, none⟩ (.int .u64 (partS m s : Nat))) = wz at *
            have q1 := RZ.out.cell (j := 0) rfl
            have q2 := RZ.out.cell (j := 1) rfl
            have q3 := RZ.out.cell (j := 2) rfl
            have q4 := RZ.out.cell (j := 3) rfl
            rw [HTK.out] at EZ hkE
            refine bodyPost_ret (v := .tuple #[.agg #[.slice AI (nums s).length cI, .slice AE kE cE, .int .u64 (partS p s : Nat), .int .u64 (partS m s : Nat)], .int .i64 0]) (by simp [results, Tryz.results50, go_sem, q1, q2, q3, q4]) rfl ?_
            refine ⟨AI, cI, AE, cE, ?_, NZ.out, EZ.out, BZ.out⟩
            rw [show (partN N s).length = (nums s).length by unfold partN; rw [List.length_map], hkE.out]
            rfl
end
end Go.Proofs.YtoandhhkmkgmaaaGreatDoor
