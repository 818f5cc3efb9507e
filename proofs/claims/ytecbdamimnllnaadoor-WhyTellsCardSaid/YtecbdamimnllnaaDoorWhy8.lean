/- Contract: why.Tell. The table of math/bits lies. -/
import Derived.Test.YtecbdamimnllnaaDoorWhy6
namespace Go.Proofs.YtecbdamimnllnaaDoor
open Go.RowKit

theorem stale_mp {l : List Nat} {T : List Int} {p m d : Nat} (hg : Good l) (hr : ordR l = 0) {y : Nat} (h : (staleS l T p m d).testBit y = true) : (m ||| p).testBit y = true := by
  rw [stale_at hg hr (stale_in hg hr h)] at h
  unfold stC at h
  rw [Bool.and_eq_true] at h
  exact h.1
/-- What Tell answers. -/
structure TellOut (N : List (List UInt8)) (E : List EdgeT) (p m : Nat) (T : List Int) (d : Nat) (z : Int) (R : List (Nat × Nat × Nat)) (B : Nat) (w' : World) (ev : WV) (er : Int) : Prop where
  bad : seErr N E p m T d ≠ 0 → ev = zW ∧ er = seErr N E p m T d
  rng : seErr N E p m T d = 0 → (z < 0 ∨ (N.length : Int) ≤ z) → ev = zW ∧ er = 4
  non : seErr N E p m T d = 0 → ¬ (z < 0 ∨ (N.length : Int) ≤ z) → (staleS (rowsG N.length E) T p m d).testBit z.toNat = false → ev = zW ∧ er = 5
  yes : seErr N E p m T d = 0 → ¬ (z < 0 ∨ (N.length : Int) ≤ z) → (staleS (rowsG N.length E) T p m d).testBit z.toNat = true → WhyVal B w' R ev ∧ er = 0
def TellEnd (N : List (List UInt8)) (E : List EdgeT) (p m : Nat) (T : List Int) (d : Nat) (z : Int) (R : List (Nat × Nat × Nat)) (w : World) (e : Ending) (w' : World) : Prop :=
  ∃ ev er, e = .returned (.tuple #[wvv ev, .int .i64 er]) ∧ TellOut N E p m T d z R w.heap.size w' ev er ∧ Below w.heap.size w w'
section
variable {A1 A2 A3 : Option Addr} {n k c1 c2 c3 j : Nat} {N : List (List UInt8)} {E : List EdgeT} {p m d : Nat} {T : List Int} (w : World) (hG : GrIn A1 n A2 k N E p m w) (hS : SeIn A3 j T d w) (hT : Tab w)
include hG hS hT
set_option maxRecDepth 100000 in
set_option maxHeartbeats 2000000 in
theorem pTell_any (z : Int) (R : List (Nat × Nat × Nat)) (hR : seErr N E p m T d = 0 → ¬ (z < 0 ∨ (N.length : Int) ≤ z) → (staleS (rowsG N.length E) T p m d).testBit z.toNat = true → TellR (rowsG N.length E) T p d (staleS (rowsG N.length E) T p m d) z.toNat R) :
    Calls Tryd.prog 4 #[gv A1 n c1 A2 k c2 p m, sx A3 j c3 d, .int .i64 z] w (TellEnd N E p m T d z R w) := by
  have HC := Lib.hid (fun W (hW : Below w.heap.size w W) => stSetE_any (c1 := c1) (c2 := c2) (c3 := c3) W (hG.below hW) (hS.below hW) (hT.below hW))
  have HG := Lib.hid hG
  have HS := Lib.hid hS
  have HT := Lib.hid hT
  have HRR := Lib.hid hR
  obtain ⟨x0, y0, v0, z0⟩ := box_ten w (.slice A1 n c1) (.slice A2 k c2) (.int .u64 (p : Int)) (.int .u64 (m : Int)) (.slice A3 j c3) (.int .u64 (d : Int)) zW 26 29 32
  have hblk := Blk.new ((w.alloc (.cells #[.slice A1 n c1, .slice A2 k c2, .int .u64 (p : Int), .int .u64 (m : Int)] 26)).alloc (.cells #[.slice A3 j c3, .int .u64 (d : Int)] 29)) #[.int .i64 0, .int .i64 0, .int .i64 0, .slice none 0 0] 32
  simp only [World.size_alloc] at hblk
  have B2 := Lib.hid z0
  have X2 := Lib.hid x0
  have Y2 := Lib.hid y0
  have HZ := Lib.hid hblk
  have HZL : Hid (w.heap.size ≤ w.heap.size + 1 + 1) := Lib.hid (by omega)
  obtain ⟨x1, x2, x3, x4⟩ := x0
  obtain ⟨y1, y2⟩ := y0
  clear hG hS hT v0 z0 hblk hR
  unfold gv sx at *
  go_enter Tryd.func4, Tryd.ntmps4
  go_upto_region 1 with fail
  simp only [zW] at X2 Y2 B2 HZ x1 x2 x3 x4 y1 y2
  generalize (((w.alloc (.cells #[.slice A1 n c1, .slice A2 k c2, .int .u64 (p : Int), .int .u64 (m : Int)] 26)).alloc (.cells #[.slice A3 j c3, .int .u64 (d : Int)] 29)).alloc (.cells #[.int .i64 0, .int .i64 0, .int .i64 0, .slice none 0 0] 32)) = w2 at *
  generalize hBS : w.heap.size + 1 = BS at *
  generalize hBZ : BS + 1 = BZ0 at *
  clear hBS hBZ
  go_wp2_with fail
  refine (HC.out _ B2.out).mono ?_
  rintro e w3 ⟨rfl, hb3⟩
  have B3 := Lib.hid (below_then B2.out hb3)
  have X3 := Lib.hid (X2.out.below hb3)
  have Y3 := Lib.hid (Y2.out.below hb3)
  have Z3 := Lib.hid (HZ.out.below hb3 HZ.out.lt)
  clear hb3 x1 x2 x3 x4 y1 y2 X2 Y2 HZ HC
  have g0 := Z3.out.cell (j := 0) rfl
  have g1 := Z3.out.cell (j := 1) rfl
  have g2 := Z3.out.cell (j := 2) rfl
  have g3 := Z3.out.cell (j := 3) rfl
  have f0 := Z3.out.free 0
  have f1 := Z3.out.free 1
  have f2 := Z3.out.free 2
  have f3 := Z3.out.free 3
  have RZ := Lib.hid (Z3.out.put4 (.int .i64 0) (.int .i64 0) (.int .i64 0) (.slice none 0 0))
  have BZ := Lib.hid (below_put4 B3.out HZL.out (.int .i64 0) (.int .i64 0) (.int .i64 0) (.slice none 0 0))
  by_cases he : seErr N E p m T d = 0
  · have HE := Lib.hid he
    have HSV : Hid (setV n E T p m d (seErr N E p m T d) = staleS (rowsG N.length E) T p m d) := Lib.hid (by unfold setV; rw [if_pos he, HG.out.nlen])
    rw [HSV.out, he]
    obtain ⟨hg0, hjn, _, _, hr0⟩ := se_ok HG.out.nlen HS.out.tlen he
    obtain ⟨hn64, _, _, hout, _, _⟩ := gr_ok hg0
    rw [← HG.out.nlen] at hr0
    have HGD : Hid (Good (rowsG N.length E)) := Lib.hid (rowsG_good hn64 hout)
    have HG0 := Lib.hid hg0
    have HR0 := Lib.hid hr0
    obtain rfl : n = j := hjn.symm
    have HSB := Lib.hid (stale_b64 (A := T) (p := p) (m := m) (d := d) HGD.out hr0)
    have hn64' : n ≤ 64 := by rw [← HG.out.nlen]; exact hn64
    obtain ⟨x1, x2, x3, x4⟩ := X3.out
    clear he hg0 hr0 hout
    by_cases hz0 : z < 0
    · go_wp2_with fail
      generalize ((((w3.setCell ⟨BZ0, 0, none⟩ (.int .i64 0)).setCell ⟨BZ0, 1, none⟩ (.int .i64 0)).setCell ⟨BZ0, 2, none⟩ (.int .i64 0)).setCell ⟨BZ0, 3, none⟩ (.slice none 0 0)) = wz at *
      have q1 := RZ.out.cell (j := 0) rfl
      have q2 := RZ.out.cell (j := 1) rfl
      have q3 := RZ.out.cell (j := 2) rfl
      have q4 := RZ.out.cell (j := 3) rfl
      refine bodyPost_ret (v := .tuple #[wvv zW, .int .i64 4]) (by simp [results, Tryd.results4, go_sem, q1, q2, q3, q4, wvv, zW]) rfl ?_
      exact ⟨zW, 4, rfl, ⟨fun h => absurd HE.out h, fun _ _ => ⟨rfl, rfl⟩, fun _ h => absurd (.inl hz0) h, fun _ h => absurd (.inl hz0) h⟩, BZ.out⟩
    · by_cases hz1 : (n : Int) ≤ z
      · have HZR : Hid (z < 0 ∨ (N.length : Int) ≤ z) := Lib.hid (.inr (by rw [HG.out.nlen]; exact hz1))
        go_wp2_with fail
        generalize ((((w3.setCell ⟨BZ0, 0, none⟩ (.int .i64 0)).setCell ⟨BZ0, 1, none⟩ (.int .i64 0)).setCell ⟨BZ0, 2, none⟩ (.int .i64 0)).setCell ⟨BZ0, 3, none⟩ (.slice none 0 0)) = wz at *
        have q1 := RZ.out.cell (j := 0) rfl
        have q2 := RZ.out.cell (j := 1) rfl
        have q3 := RZ.out.cell (j := 2) rfl
        have q4 := RZ.out.cell (j := 3) rfl
        refine bodyPost_ret (v := .tuple #[wvv zW, .int .i64 4]) (by simp [results, Tryd.results4, go_sem, q1, q2, q3, q4, wvv, zW]) rfl ?_
        exact ⟨zW, 4, rfl, ⟨fun h => absurd HE.out h, fun _ _ => ⟨rfl, rfl⟩, fun _ h => absurd HZR.out h, fun _ h => absurd HZR.out h⟩, BZ.out⟩
      · obtain ⟨x, rfl⟩ : ∃ x : Nat, z = (x : Int) := ⟨z.toNat, by omega⟩
        have hx : x < n := by omega
        have HZR : Hid (¬ ((x : Int) < 0 ∨ (N.length : Int) ≤ (x : Int))) := Lib.hid (by rw [HG.out.nlen]; omega)
        have HHOM : Hid (∀ y, (staleS (rowsG N.length E) T p m d).testBit y = true → (m ||| p).testBit y = true) := Lib.hid (fun y hy => stale_mp HGD.out HR0.out hy)
        have HTL := Lib.hid (fun W AR cR h => tell_any (A1 := A1) (A2 := A2) (A3 := A3) (AR := AR) (k := k) (c1 := c1) (c2 := c2) (c3 := c3) (cR := cR) (N := N) (E := E) (p := p) (m := m) (d := d) (T := T) (rowsG N.length E) (staleS (rowsG N.length E) T p m d) HSB.out (by rw [rowsG_len]; exact HG.out.nlen) HGD.out R x W (HRR.out HE.out HZR.out h) hx HHOM.out h)
        generalize hSS : staleS (rowsG N.length E) T p m d = S at *
        have HSS := Lib.hid hSS
        clear hSS
        have hbr := bit_raw S x HSB.out
        cases hb : S.testBit x with
        | false =>
          rw [hb, if_neg (by decide)] at hbr
          have HB0 := Lib.hid hb
          clear hb HTL
          go_wp2_with fail
          generalize ((((w3.setCell ⟨BZ0, 0, none⟩ (.int .i64 0)).setCell ⟨BZ0, 1, none⟩ (.int .i64 0)).setCell ⟨BZ0, 2, none⟩ (.int .i64 0)).setCell ⟨BZ0, 3, none⟩ (.slice none 0 0)) = wz at *
          have q1 := RZ.out.cell (j := 0) rfl
          have q2 := RZ.out.cell (j := 1) rfl
          have q3 := RZ.out.cell (j := 2) rfl
          have q4 := RZ.out.cell (j := 3) rfl
          refine bodyPost_ret (v := .tuple #[wvv zW, .int .i64 5]) (by simp [results, Tryd.results4, go_sem, q1, q2, q3, q4, wvv, zW]) rfl ?_
          exact ⟨zW, 5, rfl, ⟨fun h => absurd HE.out h, fun _ h => absurd h HZR.out, fun _ _ _ => ⟨rfl, rfl⟩, fun _ _ h => by rw [Int.toNat_natCast, HSS.out, HB0.out] at h; cases h⟩, BZ.out⟩
        | true =>
          rw [hb, if_pos rfl] at hbr
          have HB0 := Lib.hid hb
          have hgr := gRows_good (c1 := c1) (c2 := c2) w3 (HG.out.below B3.out) HG0.out
          unfold gv at hgr
          clear hb RZ BZ g0 g1 g2 g3 f0 f1 f2 f3
          go_wp2_with fail
          refine hgr.mono ?_
          rintro e w4 ⟨AR, cR, rfl, hown4, hb4⟩
          have HR4 : Hid (Rd w4 AR ((rowsG N.length E).map uv)) := Lib.hid (by rw [HG.out.nlen]; exact Rd.of_own hown4)
          have B4 := Lib.hid (below_then B3.out hb4)
          have X4 := Lib.hid (X3.out.below hb4)
          have Y4 := Lib.hid (Y3.out.below hb4)
          have Z4 := Lib.hid (Z3.out.below hb4 Z3.out.lt)
          have hz4 := Z4.out.lt
          clear hb4 hown4 hgr x1 x2 x3 x4 X3 Y3 Z3
          obtain ⟨x1, x2, x3, x4⟩ := X4.out
          obtain ⟨y1, y2⟩ := Y4.out
          have HTL4 := Lib.hid (HTL.out w4 AR cR HB0.out (HG.out.below B4.out) (HS.out.below B4.out) HR4.out (HT.out.below B4.out))
          unfold gv sx at HTL4
          clear HTL
          go_wp2_with fail
          refine HTL4.out.mono ?_
          rintro e w5 ⟨⟨en, ec, ek, eA, em, ecap⟩, rfl, hwv, hb5⟩
          have B5 := Lib.hid (below_then B4.out hb5)
          have Z5 := Lib.hid (Z4.out.below hb5 Z4.out.lt)
          have HWV := Lib.hid hwv
          clear hb5 hwv x1 x2 x3 x4 y1 y2 X4 Y4 Z4
          have g0 := Z5.out.cell (j := 0) rfl
          have g1 := Z5.out.cell (j := 1) rfl
          have g2 := Z5.out.cell (j := 2) rfl
          have g3 := Z5.out.cell (j := 3) rfl
          have f0 := Z5.out.free 0
          have f1 := Z5.out.free 1
          have f2 := Z5.out.free 2
          have f3 := Z5.out.free 3
          have RZ := Lib.hid (Z5.out.put4 (.int .i64 en) (.int .i64 ec) (.int .i64 ek) (.slice eA em ecap))
          have BZ := Lib.hid (below_put4 B5.out HZL.out (.int .i64 en) (.int .i64 ec) (.int .i64 ek) (.slice eA em ecap))
          have HWZ := Lib.hid (((((HWV.out.set hz4 (j := 0) (.int .i64 en)).set hz4 (j := 1) (.int .i64 ec)).set hz4 (j := 2) (.int .i64 ek)).set hz4 (j := 3) (.slice eA em ecap)).base B4.out.size)
          clear HWV Z5
          unfold wvv
          go_wp2_with fail
          generalize ((((w5.setCell ⟨BZ0, 0, none⟩ (.int .i64 en)).setCell ⟨BZ0, 1, none⟩ (.int .i64 ec)).setCell ⟨BZ0, 2, none⟩ (.int .i64 ek)).setCell ⟨BZ0, 3, none⟩ (.slice eA em ecap)) = wz at *
          have q1 := RZ.out.cell (j := 0) rfl
          have q2 := RZ.out.cell (j := 1) rfl
          have q3 := RZ.out.cell (j := 2) rfl
          have q4 := RZ.out.cell (j := 3) rfl
          refine bodyPost_ret (v := .tuple #[wvv ⟨en, ec, ek, eA, em, ecap⟩, .int .i64 0]) (by simp [results, Tryd.results4, go_sem, q1, q2, q3, q4, wvv]) rfl ?_
          exact ⟨_, 0, rfl, ⟨fun h => absurd HE.out h, fun _ h => absurd h HZR.out, fun _ _ h => (by rw [Int.toNat_natCast, HSS.out, HB0.out] at h; cases h), fun _ _ _ => ⟨HWZ.out, rfl⟩⟩, BZ.out⟩
  · have hz : (seErr N E p m T d != 0) = true := by simp [he]
    have HNE := Lib.hid he
    clear he
    go_wp2_with fail
    generalize ((((w3.setCell ⟨BZ0, 0, none⟩ (.int .i64 0)).setCell ⟨BZ0, 1, none⟩ (.int .i64 0)).setCell ⟨BZ0, 2, none⟩ (.int .i64 0)).setCell ⟨BZ0, 3, none⟩ (.slice none 0 0)) = wz at *
    have q1 := RZ.out.cell (j := 0) rfl
    have q2 := RZ.out.cell (j := 1) rfl
    have q3 := RZ.out.cell (j := 2) rfl
    have q4 := RZ.out.cell (j := 3) rfl
    refine bodyPost_ret (v := .tuple #[wvv zW, .int .i64 (seErr N E p m T d)]) (by simp [results, Tryd.results4, go_sem, q1, q2, q3, q4, wvv, zW]) rfl ?_
    exact ⟨zW, _, rfl, ⟨fun _ => ⟨rfl, rfl⟩, fun h => absurd h HNE.out, fun h => absurd h HNE.out, fun h => absurd h HNE.out⟩, BZ.out⟩
end
end Go.Proofs.YtecbdamimnllnaaDoor
