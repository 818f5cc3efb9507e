/- Contract: the reference's ReasonOf. The graph and what is seen are right; the number is to be made anew. -/
import Derived.Test.YtecbdamimnllnaaDoorWhy8
import Derived.Deep.RegionHeld3
namespace Go.Proofs.YtecbdamimnllnaaDoor
open Go.RowKit

theorem cell_setW {w : World} {b b' j o : Nat} {v u : Value} (h : w.cell? ⟨b, o, none⟩ = some v) (hne : b ≠ b') : (w.setCell ⟨b', j, none⟩ u).cell? ⟨b, o, none⟩ = some v := by
  rw [World.cell?_of_block (w := w) (Below.heap_setCell _ _ _ _ (by show b ≠ b'; exact hne))]
  exact h
theorem Blk.otherW {w : World} {b b' j : Nat} {t : TypeId} {vs : List Value} (h : Blk w b t vs) (hne : b ≠ b') (u : Value) : Blk (w.setCell ⟨b', j, none⟩ u) b t vs := by
  unfold Blk
  rw [Below.heap_setCell _ _ _ _ (by show b ≠ b'; exact hne)]
  exact h
theorem tell_first {l : List Nat} {T : List Int} {p d o x : Nat} {R : List (Nat × Nat × Nat)} (h : TellR l T p d o x R) : ∃ c k R', R = (x, c, k) :: R' ∧ FoundR l T p d o x c k ∧ ((c < 5 ∧ R' = []) ∨ (c = 5 ∧ TellR l T p d o k R')) := by
  cases h with
  | stop hf hc => exact ⟨_, _, _, rfl, hf, .inl ⟨hc, rfl⟩⟩
  | go hf ht => exact ⟨_, _, _, rfl, hf, .inr ⟨rfl, ht⟩⟩
def NoQ (l : List Nat) (T : List Int) (p d o x c q : Nat) : Prop := ∀ k', k' < q → rsn l T p d o x c k' = false
theorem noQ_next {l : List Nat} {T : List Int} {p d o x c q : Nat} (h : NoQ l T p d o x c q) (hr : rsn l T p d o x c q = false) : NoQ l T p d o x c (q + 1) := fun k' hk => by
  rcases (by omega : k' < q ∨ k' = q) with g | rfl
  · exact h k' g
  · exact hr
theorem noQ_end {l : List Nat} {T : List Int} {p d o x c : Nat} (hC : NoC l T p d o x c) (h : NoQ l T p d o x c l.length) : NoC l T p d o x (c + 1) := fun c' k' g1 g2 g3 => by
  rcases (by omega : c' < c ∨ c' = c) with g | rfl
  · exact hC c' k' g1 g g3
  · exact h k' g3
section
variable {A1 A2 A3 : Option Addr} {n k c1 c2 c3 : Nat} {N : List (List UInt8)} {E : List EdgeT} {p m d : Nat} {T : List Int}
set_option maxRecDepth 100000 in
set_option maxHeartbeats 4000000 in
theorem rReasonOf_any (he : grErr N E p m = 0) (hr0 : ordR (rowsG n E) = 0) : ∀ (R : List (Nat × Nat × Nat)) (x : Nat) (w : World), TellR (rowsG n E) T p d (staleS (rowsG n E) T p m d) x R → x < n → GrIn A1 n A2 k N E p m w → SeIn A3 n T d w →
    Calls Tryd.prog 13 #[gv A1 n c1 A2 k c2 p m, sx A3 n c3 d, .int .i64 (x : Int)] w (TellPost R w) := by
  intro R
  induction R with
  | nil => intro x w h; exact absurd rfl (tell_ne h)
  | cons r R ih =>
  intro x w htr hx hG hS
  obtain ⟨hn64, _, _, hout, _, _⟩ := gr_ok he
  rw [hG.nlen] at hn64 hout
  have HGD : Hid (Good (rowsG n E)) := Lib.hid (rowsG_good hn64 hout)
  have HSB := Lib.hid (stale_b64 (A := T) (p := p) (m := m) (d := d) HGD.out hr0)
  have HIH := Lib.hid ih
  have HTR := Lib.hid htr
  have HG := Lib.hid hG
  have HS := Lib.hid hS
  have HLN : Hid ((rowsG n E).length = n) := Lib.hid (rowsG_len n E)
  have CRO := Lib.hid (fun W (hW : Below w.heap.size w W) => rRowsOf_any (c1 := c1) (c2 := c2) W (hG.below hW) he)
  have CAN := Lib.hid (fun W (hW : Below w.heap.size w W) => rAnew_any (c1 := c1) (c2 := c2) (c3 := c3) W (hG.below hW) (hS.below hW) he hr0)
  obtain ⟨x0, y0, v0, z0⟩ := box_ten w (.slice A1 n c1) (.slice A2 k c2) (.int .u64 (p : Int)) (.int .u64 (m : Int)) (.slice A3 n c3) (.int .u64 (d : Int)) zW 26 29 32
  have hblk := Blk.new ((w.alloc (.cells #[.slice A1 n c1, .slice A2 k c2, .int .u64 (p : Int), .int .u64 (m : Int)] 26)).alloc (.cells #[.slice A3 n c3, .int .u64 (d : Int)] 29)) #[.int .i64 0, .int .i64 0, .int .i64 0, .slice none 0 0] 32
  simp only [World.size_alloc] at hblk
  have B2 := Lib.hid z0
  have X2 := Lib.hid x0
  have Y2 := Lib.hid y0
  have HZ := Lib.hid hblk
  have HZL : Hid (w.heap.size ≤ w.heap.size + 1 + 1) := Lib.hid (by omega)
  obtain ⟨x1, x2, x3, x4⟩ := x0
  obtain ⟨y1, y2⟩ := y0
  clear ih htr hG hS v0 z0 hblk hout
  unfold gv sx at *
  go_enter Tryd.func13, Tryd.ntmps13
  go_upto_region 1 with fail
  simp only [zW] at X2 Y2 B2 HZ x1 x2 x3 x4 y1 y2
  generalize (((w.alloc (.cells #[.slice A1 n c1, .slice A2 k c2, .int .u64 (p : Int), .int .u64 (m : Int)] 26)).alloc (.cells #[.slice A3 n c3, .int .u64 (d : Int)] 29)).alloc (.cells #[.int .i64 0, .int .i64 0, .int .i64 0, .slice none 0 0] 32)) = w2 at *
  generalize hBS : w.heap.size + 1 = BS at *
  generalize hBZ : BS + 1 = BZ0 at *
  clear hBS hBZ
  have HSL := Lib.hid (fun W (hW : Below w2.heap.size w2 W) => (⟨(X2.out.below hW).c1, (X2.out.below hW).c2, (X2.out.below hW).c3, (X2.out.below hW).c4, (Y2.out.below hW).c1, (Y2.out.below hW).c2, hW⟩ : W.cell? ⟨w.heap.size, 0, none⟩ = some (.slice A1 n c1) ∧ W.cell? ⟨w.heap.size, 1, none⟩ = some (.slice A2 k c2) ∧ W.cell? ⟨w.heap.size, 2, none⟩ = some (.int .u64 (p : Int)) ∧ W.cell? ⟨w.heap.size, 3, none⟩ = some (.int .u64 (m : Int)) ∧ W.cell? ⟨BS, 0, none⟩ = some (.slice A3 n c3) ∧ W.cell? ⟨BS, 1, none⟩ = some (.int .u64 (d : Int)) ∧ Below w2.heap.size w2 W))
  have bd : Below w2.heap.size w2 w2.drew := Below.drew (Below.refl _ _)
  go_region_held3 (fun W => W.cell? ⟨w.heap.size, 0, none⟩ = some (.slice A1 n c1) ∧ W.cell? ⟨w.heap.size, 1, none⟩ = some (.slice A2 k c2) ∧ W.cell? ⟨w.heap.size, 2, none⟩ = some (.int .u64 (p : Int)) ∧ W.cell? ⟨w.heap.size, 3, none⟩ = some (.int .u64 (m : Int)) ∧ W.cell? ⟨BS, 0, none⟩ = some (.slice A3 n c3) ∧ W.cell? ⟨BS, 1, none⟩ = some (.int .u64 (d : Int)) ∧ Below w2.heap.size w2 W)
    ((refine HSL.out _ ?_; first | assumption | exact Below.drew (by assumption)))
    ((first
      | (go_at_call 28; (refine (CRO.out _ (below_then B2.out (by assumption))).mono ?_); rintro e u7 ⟨AR, cR, rfl, hown7, h7⟩; have b7 := below_then (by assumption) h7)
      | (go_at_call 12; (refine (CAN.out _ (below_then B2.out (by assumption))).mono ?_); rintro e u8 ⟨rfl, h8⟩; have b8 := below_then (by assumption) h8)))
  have HR8 := Lib.hid ((Rd.of_own hown7).below h8)
  have B8 := Lib.hid (below_then B2.out b8)
  have X8 := Lib.hid (X2.out.below b8)
  have Y8 := Lib.hid (Y2.out.below b8)
  have Z8 := Lib.hid (HZ.out.below b8 HZ.out.lt)
  rename_i hHeld
  clear hHeld
  clear hown7 h7 b7 h8 b8 bd x1 x2 x3 x4 y1 y2 X2 Y2 HZ HSL CRO CAN
  generalize hSS : staleS (rowsG n E) T p m d = S at *
  clear hSS
  go_wp2_with fail
  go_loopw [9, 10, 11] (fun y _ _ wr => ∃ (c : Nat), y = .int .i64 (c : Int) ∧ 1 ≤ c ∧ c ≤ 6 ∧ Hid (NoC (rowsG n E) T p d S x c) ∧ Hid (Below u8.heap.size u8 wr)) (fun y _ _ _ => 7 - (intOf y).toNat)
  case atStart => exact ⟨1, rfl, by omega, by omega, Lib.hid (fun c' k' h1 h2 => by omega), Lib.hid (Below.refl _ _)⟩
  case round =>
    obtain ⟨c, rfl, hc1, hc6, HC, HBW⟩ := hrel
    by_cases hc : c < 6
    · have hci : (c : Int) ≤ 5 := by omega
      go_wp2_with fail
      go_loopw [10, 11, 23] (fun _ _ y wq => ∃ (q : Nat), y = .int .i64 (q : Int) ∧ q ≤ n ∧ Hid (NoQ (rowsG n E) T p d S x c q) ∧ Hid (Below u8.heap.size u8 wq)) (fun _ _ y _ => n - (intOf y).toNat)
      case atStart => exact ⟨0, rfl, Nat.zero_le _, Lib.hid (fun k' hk' => absurd hk' (Nat.not_lt_zero _)), HBW⟩
      case round =>
        clear HBW
        obtain ⟨q, rfl, hq, HQ, HBQ⟩ := hrel
        by_cases hlt : q < n
        · have BQ := Lib.hid (below_then B8.out HBQ.out)
          have hh := rReason_any (c1 := c1) (c2 := c2) (c3 := c3) (cR := cR) (rowsG n E) wr (HG.out.below BQ.out) (HS.out.below BQ.out) HLN.out HGD.out (HR8.out.below HBQ.out) S x q HSB.out hx hlt c hc1 (by omega)
          unfold gv sx at hh
          have HH := Lib.hid hh
          have HQN := Lib.hid (fun hr => noQ_next HQ.out hr)
          obtain ⟨x1, x2, x3, x4⟩ := X8.out.below HBQ.out
          obtain ⟨y1, y2⟩ := Y8.out.below HBQ.out
          have HZN := Lib.hid (Z8.out.below HBQ.out Z8.out.lt)
          have HZS := Lib.hid Z8.out.lt
          clear hh
          go_wp2_with fail
          refine HH.out.mono ?_
          rintro e' w6 ⟨rfl, hb6⟩
          have B6 := Lib.hid (below_then HBQ.out hb6)
          have X6 := Lib.hid ((X8.out.below HBQ.out).below hb6)
          have Y6 := Lib.hid ((Y8.out.below HBQ.out).below hb6)
          have Z6 := Lib.hid (HZN.out.below hb6 HZN.out.lt)
          clear hb6 x1 x2 x3 x4 y1 y2
          cases hrv : rsn (rowsG n E) T p d S x c q with
          | true =>
            obtain ⟨c0, k0, R0, hRR, hf0, hcs⟩ := tell_first HTR.out
            have hfd : FoundR (rowsG n E) T p d S x c q := ⟨hc1, by omega, by rw [HLN.out]; exact hlt, hrv, HC.out, HQ.out⟩
            obtain ⟨rfl, rfl⟩ := hfd.un hf0
            injection hRR with hr1 hr2
            subst hr1 hr2
            have HZB := Lib.hid Z6.out
            by_cases h5 : c = 5
            · subst h5
              have ht5 : TellR (rowsG n E) T p d S q R := by
                rcases hcs with ⟨h, _⟩ | ⟨_, h⟩
                · omega
                · exact h
              have HB7 := Lib.hid (below_new (Below.refl w6.heap.size w6) (.cells #[.int .i64 (x : Int), .int .i64 5, .int .i64 (q : Int), .slice none 0 0] 32))
              have B67 := Lib.hid (below_then (below_then B8.out B6.out) HB7.out)
              have HII := Lib.hid (HIH.out q (w6.alloc (.cells #[.int .i64 (x : Int), .int .i64 5, .int .i64 (q : Int), .slice none 0 0] 32)) ht5 hlt (HG.out.below B67.out) (HS.out.below B67.out))
              have Z7 := Lib.hid (Z6.out.below HB7.out Z6.out.lt)
              have V7 := Lib.hid (Blk.new w6 #[.int .i64 (x : Int), .int .i64 5, .int .i64 (q : Int), .slice none 0 0] 32)
              have hZ6 := Z6.out.lt
              have HNE := Lib.hid (tell_ne ht5)
              obtain ⟨x1, x2, x3, x4⟩ := X6.out.below HB7.out
              obtain ⟨y1, y2⟩ := Y6.out.below HB7.out
              clear hrv hcs hf0 hfd ht5 HIH HQN HB7
              have hs7 : (w6.alloc (.cells #[.int .i64 (x : Int), .int .i64 5, .int .i64 (q : Int), .slice none 0 0] 32)).heap.size = w6.heap.size + 1 := by simp
              go_upto_region 11 with fail
              generalize w6.alloc (.cells #[.int .i64 (x : Int), .int .i64 5, .int .i64 (q : Int), .slice none 0 0] 32) = w7 at *
              go_wp2_with fail
              refine HII.out.mono ?_
              rintro e' w8 ⟨⟨en, ec, ek, eA, em, ecap⟩, rfl, hwv, hb8⟩
              have hs8 := hb8.size
              have Z9 := Lib.hid ((Z7.out.below hb8 Z7.out.lt).below (below_new (Below.refl w8.heap.size w8) (.cells #[.int .i64 en, .int .i64 ec, .int .i64 ek, .slice eA em ecap] 32)) (Z7.out.below hb8 Z7.out.lt).lt)
              have V9 := Lib.hid ((V7.out.below hb8 V7.out.lt).below (below_new (Below.refl w8.heap.size w8) (.cells #[.int .i64 en, .int .i64 ec, .int .i64 ek, .slice eA em ecap] 32)) (V7.out.below hb8 V7.out.lt).lt)
              obtain ⟨n1, n2, n3, n4⟩ := box_why w8 ⟨en, ec, ek, eA, em, ecap⟩ 32
              have HW9 := Lib.hid (hwv.below (below_new (Below.refl w8.heap.size w8) (.cells #[.int .i64 en, .int .i64 ec, .int .i64 ek, .slice eA em ecap] 32)))
              have B9 := Lib.hid (below_new (below_then B67.out hb8) (.cells #[.int .i64 en, .int .i64 ec, .int .i64 ek, .slice eA em ecap] 32))
              have v4 := V9.out.cell (j := 3) rfl
              have u4 := V9.out.free 3
              have hbw : w6.heap.size < w7.heap.size := by omega
              have hbn : w6.heap.size < w8.heap.size := by omega
              have HN10 : Hid (WyBox w8.heap.size ⟨en, ec, ek, eA, em, ecap⟩ ((w8.alloc (.cells #[.int .i64 en, .int .i64 ec, .int .i64 ek, .slice eA em ecap] 32)).setCell ⟨w6.heap.size, 3, none⟩ (.slice (some ⟨w8.heap.size, 0, none⟩) 1 1))) := Lib.hid ⟨cell_setW n1 (by omega), cell_setW n2 (by omega), cell_setW n3 (by omega), cell_setW n4 (by omega)⟩
              have Z10 := Lib.hid (Z9.out.otherW (b' := w6.heap.size) (j := 3) (by omega) (.slice (some ⟨w8.heap.size, 0, none⟩) 1 1))
              have V10 : Hid (Blk ((w8.alloc (.cells #[.int .i64 en, .int .i64 ec, .int .i64 ek, .slice eA em ecap] 32)).setCell ⟨w6.heap.size, 3, none⟩ (.slice (some ⟨w8.heap.size, 0, none⟩) 1 1)) w6.heap.size 32 [.int .i64 (x : Int), .int .i64 5, .int .i64 (q : Int), .slice (some ⟨w8.heap.size, 0, none⟩) 1 1]) := Lib.hid (V9.out.same 3 (.slice (some ⟨w8.heap.size, 0, none⟩) 1 1))
              have HW10 := Lib.hid (HW9.out.set hbw (j := 3) (.slice (some ⟨w8.heap.size, 0, none⟩) 1 1))
              have B10 := Lib.hid (B9.out.setCell (p := ⟨w6.heap.size, 3, none⟩) (by have := B8.out.size; have := B6.out.size; show w.heap.size ≤ w6.heap.size; omega) (.slice (some ⟨w8.heap.size, 0, none⟩) 1 1))
              clear hb8 hwv n1 n2 n3 n4 x1 x2 x3 x4 y1 y2 Z7 V7 Z9 V9 HW9 B9
              unfold wvv
              go_upto_region 12 with fail
              rw [World.setCell_alloc_past _ _ _ _ hbn] at HN10 Z10 V10 HW10 B10
              generalize (w8.setCell ⟨w6.heap.size, 3, none⟩ (.slice (some ⟨w8.heap.size, 0, none⟩) 1 1)).alloc (.cells #[.int .i64 en, .int .i64 ec, .int .i64 ek, .slice eA em ecap] 32) = w10 at *
              clear v4 u4
              have v1 := V10.out.cell (j := 0) rfl
              have v2 := V10.out.cell (j := 1) rfl
              have v3 := V10.out.cell (j := 2) rfl
              have v4 := V10.out.cell (j := 3) rfl
              have g0 := Z10.out.cell (j := 0) rfl
              have g1 := Z10.out.cell (j := 1) rfl
              have g2 := Z10.out.cell (j := 2) rfl
              have g3 := Z10.out.cell (j := 3) rfl
              have f0 := Z10.out.free 0
              have f1 := Z10.out.free 1
              have f2 := Z10.out.free 2
              have f3 := Z10.out.free 3
              have RZ := Lib.hid (Z10.out.put4 (.int .i64 (x : Int)) (.int .i64 5) (.int .i64 (q : Int)) (.slice (some ⟨w8.heap.size, 0, none⟩) 1 1))
              have BZ := Lib.hid (below_put4 B10.out HZL.out (.int .i64 (x : Int)) (.int .i64 5) (.int .i64 (q : Int)) (.slice (some ⟨w8.heap.size, 0, none⟩) 1 1))
              have HWZ : Hid (WhyVal w.heap.size ((((w10.setCell ⟨BZ0, 0, none⟩ (.int .i64 (x : Int))).setCell ⟨BZ0, 1, none⟩ (.int .i64 5)).setCell ⟨BZ0, 2, none⟩ (.int .i64 (q : Int))).setCell ⟨BZ0, 3, none⟩ (.slice (some ⟨w8.heap.size, 0, none⟩) 1 1)) ((x, 5, q) :: R) ⟨(x : Int), 5, (q : Int), some ⟨w8.heap.size, 0, none⟩, 1, 1⟩) := Lib.hid (by
                obtain ⟨n1, n2, n3, n4⟩ := HN10.out
                have hzz : BZ0 < w7.heap.size := by omega
                have hzn : w8.heap.size ≠ BZ0 := by omega
                have hbb := B67.out.size
                refine ⟨rfl, rfl, rfl, .inr ⟨HNE.out, rfl, w8.heap.size, 0, ⟨en, ec, ek, eA, em, ecap⟩, rfl, by omega, cell_put4W n1 hzn _ _ _ _, cell_put4W n2 hzn _ _ _ _, cell_put4W n3 hzn _ _ _ _, cell_put4W n4 hzn _ _ _ _, ?_⟩⟩
                exact ((((HW10.out.set hzz _).set hzz _).set hzz _).set hzz _).base hbb)
              clear HN10 HW10 Z10
              go_wp2_with fail
              generalize ((((w10.setCell ⟨BZ0, 0, none⟩ (.int .i64 (x : Int))).setCell ⟨BZ0, 1, none⟩ (.int .i64 5)).setCell ⟨BZ0, 2, none⟩ (.int .i64 (q : Int))).setCell ⟨BZ0, 3, none⟩ (.slice (some ⟨w8.heap.size, 0, none⟩) 1 1)) = wz at *
              have q1 := RZ.out.cell (j := 0) rfl
              have q2 := RZ.out.cell (j := 1) rfl
              have q3 := RZ.out.cell (j := 2) rfl
              have q4 := RZ.out.cell (j := 3) rfl
              (try simp only [Exit.inBlock, Exit.then])
              refine bodyPost_ret (v := wvv ⟨(x : Int), 5, (q : Int), some ⟨w8.heap.size, 0, none⟩, 1, 1⟩) (by simp [results, Tryd.results13, go_sem, q1, q2, q3, q4, wvv]) rfl ?_
              exact ⟨_, rfl, HWZ.out, BZ.out⟩
            · have hc5 : ((c : Int) == 5) = false := by simp; omega
              have hR0 : R = [] := by
                rcases hcs with ⟨_, h⟩ | ⟨h, _⟩
                · exact h
                · exact absurd h h5
              subst hR0
              have g0 := Z6.out.cell (j := 0) rfl
              have g1 := Z6.out.cell (j := 1) rfl
              have g2 := Z6.out.cell (j := 2) rfl
              have g3 := Z6.out.cell (j := 3) rfl
              have f0 := Z6.out.free 0
              have f1 := Z6.out.free 1
              have f2 := Z6.out.free 2
              have f3 := Z6.out.free 3
              have Z7 := Lib.hid (Z6.out.below (w' := w6.alloc (.cells #[.int .i64 (x : Int), .int .i64 (c : Int), .int .i64 (q : Int), .slice none 0 0] 32)) (B := w6.heap.size) ((Below.refl _ _).alloc (Nat.le_refl _) _) Z6.out.lt)
              have RZ := Lib.hid (Z7.out.put4 (.int .i64 (x : Int)) (.int .i64 (c : Int)) (.int .i64 (q : Int)) (.slice none 0 0))
              have BZ := Lib.hid (below_put4 (below_new (below_then B8.out B6.out) (.cells #[.int .i64 (x : Int), .int .i64 (c : Int), .int .i64 (q : Int), .slice none 0 0] 32)) HZL.out (.int .i64 (x : Int)) (.int .i64 (c : Int)) (.int .i64 (q : Int)) (.slice none 0 0))
              clear hrv hcs hf0 hfd h5 g0 g1 g2 g3 f0 f1 f2 f3
              have g0 := Z7.out.cell (j := 0) rfl
              have g1 := Z7.out.cell (j := 1) rfl
              have g2 := Z7.out.cell (j := 2) rfl
              have g3 := Z7.out.cell (j := 3) rfl
              have f0 := Z7.out.free 0
              have f1 := Z7.out.free 1
              have f2 := Z7.out.free 2
              have f3 := Z7.out.free 3
              go_wp2_with fail
              generalize (((((w6.alloc (.cells #[.int .i64 (x : Int), .int .i64 (c : Int), .int .i64 (q : Int), .slice none 0 0] 32)).setCell ⟨BZ0, 0, none⟩ (.int .i64 (x : Int))).setCell ⟨BZ0, 1, none⟩ (.int .i64 (c : Int))).setCell ⟨BZ0, 2, none⟩ (.int .i64 (q : Int))).setCell ⟨BZ0, 3, none⟩ (.slice none 0 0)) = wz at *
              have q1 := RZ.out.cell (j := 0) rfl
              have q2 := RZ.out.cell (j := 1) rfl
              have q3 := RZ.out.cell (j := 2) rfl
              have q4 := RZ.out.cell (j := 3) rfl
              (try simp only [Exit.inBlock, Exit.then])
              refine bodyPost_ret (v := wvv ⟨(x : Int), (c : Int), (q : Int), none, 0, 0⟩) (by simp [results, Tryd.results13, go_sem, q1, q2, q3, q4, wvv]) rfl ?_
              exact ⟨_, rfl, ⟨rfl, rfl, rfl, .inl ⟨rfl, rfl⟩⟩, BZ.out⟩
          | false =>
            have HK2 := Lib.hid (HQN.out hrv)
            clear hrv
            go_wp2_with fail
            exact ⟨⟨q + 1, valW q, hlt, HK2, B6⟩, measW hlt⟩
        · obtain rfl : q = n := by omega
          have HC2 := Lib.hid (noQ_end HC.out (by rw [HLN.out]; exact HQ.out))
          go_wp2_with fail
          exact ⟨⟨c + 1, valW c, by omega, by omega, HC2, HBQ⟩, measW (by omega)⟩
    · exfalso
      obtain ⟨c0, k0, R0, _, hf0, _⟩ := tell_first HTR.out
      have h1 := HC.out c0 k0 hf0.c1 (by have := hf0.c5; omega) hf0.kn
      rw [hf0.is] at h1
      cases h1
end
end Go.Proofs.YtecbdamimnllnaaDoor
/- Contract: the reference's SameWhy at two reasons that read alike. -/
namespace Go.Proofs.YtecbdamimnllnaaDoor
open Go.RowKit

theorem box_eight (w : World) (a b : WV) (t : TypeId) : WyBox w.heap.size a ((w.alloc (.cells #[.int .i64 a.n, .int .i64 a.c, .int .i64 a.k, .slice a.A a.m a.cap] t)).alloc (.cells #[.int .i64 b.n, .int .i64 b.c, .int .i64 b.k, .slice b.A b.m b.cap] t)) ∧ WyBox (w.heap.size + 1) b ((w.alloc (.cells #[.int .i64 a.n, .int .i64 a.c, .int .i64 a.k, .slice a.A a.m a.cap] t)).alloc (.cells #[.int .i64 b.n, .int .i64 b.c, .int .i64 b.k, .slice b.A b.m b.cap] t)) ∧
    Below w.heap.size w ((w.alloc (.cells #[.int .i64 a.n, .int .i64 a.c, .int .i64 a.k, .slice a.A a.m a.cap] t)).alloc (.cells #[.int .i64 b.n, .int .i64 b.c, .int .i64 b.k, .slice b.A b.m b.cap] t)) := by
  obtain ⟨h1, h2, h3, h4⟩ := box_why w a t
  obtain ⟨g1, g2, g3, g4⟩ := box_why (w.alloc (.cells #[.int .i64 a.n, .int .i64 a.c, .int .i64 a.k, .slice a.A a.m a.cap] t)) b t
  simp only [World.size_alloc] at g1 g2 g3 g4
  exact ⟨WyBox.below ⟨h1, h2, h3, h4⟩ (below_new (Below.refl _ _) _), ⟨g1, g2, g3, g4⟩, below_new (below_new (Below.refl _ _) _) _⟩
set_option maxRecDepth 100000 in
set_option maxHeartbeats 4000000 in
theorem rSame_any : ∀ (R : List (Nat × Nat × Nat)) (a b : WV) (w : World), WhyVal 0 w R a → WhyVal 0 w R b →
    Calls Tryd.prog 9 #[wvv a, wvv b] w fun e w' => e = .returned (.bool true) ∧ Below w.heap.size w w' := by
  intro R
  induction R with
  | nil => intro a b w h; exact absurd h (by simp [WhyVal])
  | cons r R ih =>
  obtain ⟨x, c, k⟩ := r
  intro a b w ha hb
  obtain ⟨an, ac, ak, aA, am, acap⟩ := a
  obtain ⟨bn, bc, bk, bA, bm, bcap⟩ := b
  obtain ⟨h1, h2, h3, h4⟩ := ha
  obtain ⟨g1, g2, g3, g4⟩ := hb
  simp only at h1 h2 h3 g1 g2 g3
  subst h1 h2 h3 g1 g2 g3
  have HIH := Lib.hid ih
  obtain ⟨v0, u0, z0⟩ := box_eight w ⟨(x : Int), (c : Int), (k : Int), aA, am, acap⟩ ⟨(x : Int), (c : Int), (k : Int), bA, bm, bcap⟩ 32
  have B2 := Lib.hid z0
  have V2 := Lib.hid v0
  have U2 := Lib.hid u0
  obtain ⟨v1, v2, v3, v4⟩ := v0
  obtain ⟨u1, u2, u3, u4⟩ := u0
  simp only at v1 v2 v3 v4 u1 u2 u3 u4
  clear ih z0
  unfold wvv
  rcases h4 with ⟨hr, hm⟩ | ⟨hr, hm, b1, o1, ea, hA, _, n1, n2, n3, n4, hwa⟩
  · rcases g4 with ⟨_, hm'⟩ | ⟨hr', _⟩
    · simp only at hm hm'
      subst hm hm'
      clear HIH
      go_enter Tryd.func9, Tryd.ntmps9
      go_upto_region 1 with fail
      generalize ((w.alloc (.cells #[.int .i64 (x : Int), .int .i64 (c : Int), .int .i64 (k : Int), .slice aA 0 acap] 32)).alloc (.cells #[.int .i64 (x : Int), .int .i64 (c : Int), .int .i64 (k : Int), .slice bA 0 bcap] 32)) = w2 at *
      go_wp2_with fail
      go_loopw [5, 37] (fun _ y wr => y = .int .i64 0 ∧ Hid (Below w.heap.size w wr)) (fun _ _ _ => 0)
      case atStart => exact ⟨rfl, B2⟩
      case round =>
        obtain ⟨rfl, HB⟩ := hrel
        go_wp2_with fail
        go_ret
        exact ⟨rfl, HB.out⟩
    · exact absurd hr hr'
  · rcases g4 with ⟨hr', _⟩ | ⟨_, hm', b2, o2, eb, hB, _, m1, m2, m3, m4, hwb⟩
    · exact absurd hr' hr
    · simp only at hm hm' hA hB
      subst hm hm' hA hB
      have HWA := Lib.hid hwa
      have HWB := Lib.hid hwb
      have HN := Lib.hid (And.intro n1 (And.intro n2 (And.intro n3 n4)))
      have HM := Lib.hid (And.intro m1 (And.intro m2 (And.intro m3 m4)))
      clear hwa hwb n1 n2 n3 n4 m1 m2 m3 m4 hr
      go_enter Tryd.func9, Tryd.ntmps9
      go_upto_region 1 with fail
      generalize ((w.alloc (.cells #[.int .i64 (x : Int), .int .i64 (c : Int), .int .i64 (k : Int), .slice (some ⟨b1, o1, none⟩) 1 acap] 32)).alloc (.cells #[.int .i64 (x : Int), .int .i64 (c : Int), .int .i64 (k : Int), .slice (some ⟨b2, o2, none⟩) 1 bcap] 32)) = w2 at *
      generalize hBB : w.heap.size + 1 = BB at *
      clear hBB
      go_wp2_with fail
      clear v1 v2 v3 v4 u1 u2 u3 u4
      go_loopw [5, 37] (fun _ y wr => ∃ q : Nat, y = .int .i64 (q : Int) ∧ q ≤ 1 ∧ Hid (Below w2.heap.size w2 wr)) (fun _ y _ => 1 - (intOf y).toNat)
      case atStart => exact ⟨0, rfl, by omega, Lib.hid (Below.refl _ _)⟩
      case round =>
        obtain ⟨q, rfl, hq, HBQ⟩ := hrel
        by_cases hlt : q < 1
        · obtain rfl : q = 0 := by omega
          have HSL := Lib.hid (fun W (hW : Below wr.heap.size wr W) => (⟨(V2.out.below (below_then HBQ.out hW)).c4, (U2.out.below (below_then HBQ.out hW)).c4, cell_keep HN.out.1 (below_then B2.out (below_then HBQ.out hW)), cell_keep HN.out.2.1 (below_then B2.out (below_then HBQ.out hW)), cell_keep HN.out.2.2.1 (below_then B2.out (below_then HBQ.out hW)), cell_keep HN.out.2.2.2 (below_then B2.out (below_then HBQ.out hW)), cell_keep HM.out.1 (below_then B2.out (below_then HBQ.out hW)), cell_keep HM.out.2.1 (below_then B2.out (below_then HBQ.out hW)), cell_keep HM.out.2.2.1 (below_then B2.out (below_then HBQ.out hW)), cell_keep HM.out.2.2.2 (below_then B2.out (below_then HBQ.out hW)), hW⟩ :
            W.cell? ⟨w.heap.size, 3, none⟩ = some (.slice (some ⟨b1, o1, none⟩) 1 acap) ∧ W.cell? ⟨BB, 3, none⟩ = some (.slice (some ⟨b2, o2, none⟩) 1 bcap) ∧ W.cell? ⟨b1, o1, none⟩ = some (.int .i64 ea.n) ∧ W.cell? ⟨b1, o1 + 1, none⟩ = some (.int .i64 ea.c) ∧ W.cell? ⟨b1, o1 + 2, none⟩ = some (.int .i64 ea.k) ∧ W.cell? ⟨b1, o1 + 3, none⟩ = some (.slice ea.A ea.m ea.cap) ∧
            W.cell? ⟨b2, o2, none⟩ = some (.int .i64 eb.n) ∧ W.cell? ⟨b2, o2 + 1, none⟩ = some (.int .i64 eb.c) ∧ W.cell? ⟨b2, o2 + 2, none⟩ = some (.int .i64 eb.k) ∧ W.cell? ⟨b2, o2 + 3, none⟩ = some (.slice eb.A eb.m eb.cap) ∧ Below wr.heap.size wr W))
          have CSW := Lib.hid (fun W (hW : Below wr.heap.size wr W) => HIH.out ea eb W (HWA.out.below (below_then B2.out (below_then HBQ.out hW))) (HWB.out.below (below_then B2.out (below_then HBQ.out hW))))
          unfold wvv at CSW
          have bd : Below wr.heap.size wr wr.drew := Below.drew (Below.refl _ _)
          go_upto_region 6 with fail
          go_region_held3 (fun W => W.cell? ⟨w.heap.size, 3, none⟩ = some (.slice (some ⟨b1, o1, none⟩) 1 acap) ∧ W.cell? ⟨BB, 3, none⟩ = some (.slice (some ⟨b2, o2, none⟩) 1 bcap) ∧ W.cell? ⟨b1, o1, none⟩ = some (.int .i64 ea.n) ∧ W.cell? ⟨b1, o1 + 1, none⟩ = some (.int .i64 ea.c) ∧ W.cell? ⟨b1, o1 + 2, none⟩ = some (.int .i64 ea.k) ∧ W.cell? ⟨b1, o1 + 3, none⟩ = some (.slice ea.A ea.m ea.cap) ∧
            W.cell? ⟨b2, o2, none⟩ = some (.int .i64 eb.n) ∧ W.cell? ⟨b2, o2 + 1, none⟩ = some (.int .i64 eb.c) ∧ W.cell? ⟨b2, o2 + 2, none⟩ = some (.int .i64 eb.k) ∧ W.cell? ⟨b2, o2 + 3, none⟩ = some (.slice eb.A eb.m eb.cap) ∧ Below wr.heap.size wr W)
            ((refine HSL.out _ ?_; first | assumption | exact Below.drew (by assumption)))
            ((first
              | (go_at_call 9; (refine (CSW.out _ (by assumption)).mono ?_); rintro e u7 ⟨rfl, h7⟩; have b7 := below_then (by assumption) h7)))
          have B7 := Lib.hid (below_then HBQ.out b7)
          rename_i hHeld
          clear hHeld bd h7 b7 HSL CSW
          go_wp2_with fail
          exact ⟨⟨1, rfl, by omega, B7⟩, by simp [intOf]⟩
        · obtain rfl : q = 1 := by omega
          go_wp2_with fail
          go_ret
          exact ⟨rfl, below_then B2.out HBQ.out⟩
end Go.Proofs.YtecbdamimnllnaaDoor
