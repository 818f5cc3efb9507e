/- The law WhyTells: its walk: for every graph, what is seen of it, a number and a finite reason, it returns true and leaves what was there. The tables of math/bits and of why lie. -/
import Derived.Test.YtecbdamimnllnaaDoorWhyD
import Derived.Test.YtecbdamimnllnaaDoorSt5
import Derived.Deep.RegionHeld3
namespace Go.Proofs.YtecbdamimnllnaaDoor
open Go.RowKit

theorem zval (w : World) : WhyVal 0 w [(0, 0, 0)] zW := ⟨rfl, rfl, rfl, .inl ⟨rfl, rfl⟩⟩
theorem tellR_ex {N : List (List UInt8)} {E : List EdgeT} {p m d n j : Nat} {T : List Int} (hn : N.length = n) (hj : T.length = j) (z : Int) : ∃ R, seErr N E p m T d = 0 → ¬ (z < 0 ∨ (N.length : Int) ≤ z) → (staleS (rowsG N.length E) T p m d).testBit z.toNat = true → TellR (rowsG N.length E) T p d (staleS (rowsG N.length E) T p m d) z.toNat R := by
  by_cases he : seErr N E p m T d = 0
  · by_cases hb : (staleS (rowsG N.length E) T p m d).testBit z.toNat = true
    · obtain ⟨hg0, hjn, _, _, hr0⟩ := se_ok hn hj he
      subst hjn
      obtain ⟨hn64, _, _, hout, _, _⟩ := gr_ok hg0
      have hgd : Good (rowsG N.length E) := rowsG_good hn64 hout
      rw [← hn] at hr0
      have hin := stale_in hgd hr0 hb
      obtain ⟨q, hq⟩ := List.getElem?_of_mem ((ord_mem hgd hr0 _).2 hin)
      obtain ⟨R, hR⟩ := tell_of hgd hr0 q _ hq hb
      exact ⟨R, fun _ _ _ => hR⟩
    · exact ⟨[], fun _ _ h => absurd h hb⟩
  · exact ⟨[], fun h => absurd h he⟩
section
variable {A1 A2 A3 : Option Addr} {n k j c1 c2 c3 : Nat} {N : List (List UInt8)} {E : List EdgeT} {p m d : Nat} {T : List Int} (z : Int) (L : List WV) (e0 : WV) (w : World) (hG : GrIn A1 n A2 k N E p m w) (hS : SeIn A3 j T d w) (hT : Tab w) (hW : WhyCh w L) (h0 : L[0]? = some e0) (hC : CTab w) (R : List (Nat × Nat × Nat))
  (hR : seErr N E p m T d = 0 → ¬ (z < 0 ∨ (N.length : Int) ≤ z) → (staleS (rowsG N.length E) T p m d).testBit z.toNat = true → TellR (rowsG N.length E) T p d (staleS (rowsG N.length E) T p m d) z.toNat R)
include hG hS hT hW h0 hC hR
set_option maxRecDepth 100000 in
set_option maxHeartbeats 4000000 in
theorem whyTells_bad (he : seErr N E p m T d ≠ 0) : Calls Tryd.prog 3 #[gv A1 n c1 A2 k c2 p m, sx A3 j c3 d, .int .i64 z, wvv e0] w fun e w' => e = .returned (.bool true) ∧ Below w.heap.size w w' := by
  obtain ⟨SS, hSS⟩ : ∃ SS : ByteArray, SS = ⟨(txStr N E p m L).toArray⟩ := ⟨_, rfl⟩
  obtain ⟨te, hte⟩ : ∃ te : Int, te = txErr N E p m L := ⟨_, rfl⟩
  have C1 := Lib.hid (fun W (hb : Below w.heap.size w W) => pTell_any (c1 := c1) (c2 := c2) (c3 := c3) W (hG.below hb) (hS.below hb) (hT.below hb) z R hR)
  have C2 := Lib.hid (fun W (hb : Below w.heap.size w W) => pHolds_any (c1 := c1) (c2 := c2) (c3 := c3) L e0 W (hG.below hb) (hS.below hb) (hT.below hb) (hW.below hb) h0)
  have C3 := Lib.hid (fun W (hb : Below w.heap.size w W) => (pText_any (c1 := c1) (c2 := c2) L e0 W (hG.below hb) (hW.below hb) h0 (hC.below hb)).mono (fun e w' (h : TextPost N E p m L W e w') => (show e = .returned (.tuple #[.string SS, .int .i64 te]) ∧ Below W.heap.size W w' by subst hSS hte; exact h)))
  have C4 := Lib.hid (fun W (hb : Below w.heap.size w W) => (rText_any (c1 := c1) (c2 := c2) L e0 W (hG.below hb) (hW.below hb) h0).mono (fun e w' (h : TextPost N E p m L W e w') => (show e = .returned (.tuple #[.string SS, .int .i64 te]) ∧ Below W.heap.size W w' by subst hSS hte; exact h)))
  have C5 := Lib.hid (fun W (hb : Below w.heap.size w W) => rSeenFault_any (c1 := c1) (c2 := c2) (c3 := c3) W (hG.below hb) (hS.below hb))
  rw [show whyH (seErr N E p m T d) (holdsV (rowsG n E) T p m d L) = false by unfold whyH; rw [if_neg he]] at C2
  have HE := Lib.hid he
  have hne : (seErr N E p m T d != 0) = true := by simp [he]
  unfold gv sx wvv at *
  obtain ⟨x0, y0, v0, b0⟩ := box_ten w (.slice A1 n c1) (.slice A2 k c2) (.int .u64 (p : Int)) (.int .u64 (m : Int)) (.slice A3 j c3) (.int .u64 (d : Int)) e0 26 29 32
  have X2 := Lib.hid x0
  have Y2 := Lib.hid y0
  have V2 := Lib.hid v0
  have B2 := Lib.hid b0
  clear hG hS hT hW h0 hC hR hSS hte he x0 y0 v0 b0
  go_enter Tryd.func3, Tryd.ntmps3
  go_upto_region 1 with fail
  generalize ((w.alloc (.cells #[.slice A1 n c1, .slice A2 k c2, .int .u64 (p : Int), .int .u64 (m : Int)] 26)).alloc (.cells #[.slice A3 j c3, .int .u64 (d : Int)] 29)).alloc (.cells #[.int .i64 e0.n, .int .i64 e0.c, .int .i64 e0.k, .slice e0.A e0.m e0.cap] 32) = w2 at *
  generalize hBS : w.heap.size + 1 = BS at *
  generalize hBV : BS + 1 = BV at *
  clear hBS hBV
  obtain ⟨x1, x2, x3, x4⟩ := X2.out
  obtain ⟨y1, y2⟩ := Y2.out
  obtain ⟨v1, v2, v3, v4⟩ := V2.out
  go_wp2_with fail
  refine (C1.out _ B2.out).mono ?_
  rintro e w3 ⟨ev, er, rfl, ho, hb3⟩
  obtain ⟨hev, rfl⟩ := ho.bad HE.out
  have HEV := Lib.hid hev
  clear hev
  unfold wvv
  have B3 := Lib.hid (below_then B2.out hb3)
  have X3 := Lib.hid (X2.out.below hb3)
  have Y3 := Lib.hid (Y2.out.below hb3)
  have V3 := Lib.hid (V2.out.below hb3)
  clear ho hb3 x1 x2 x3 x4 y1 y2 v1 v2 v3 v4 X2 Y2 V2 C1
  have hb4 : Below w3.heap.size w3 (w3.alloc (.cells #[.int .i64 ev.n, .int .i64 ev.c, .int .i64 ev.k, .slice ev.A ev.m ev.cap] 32)) := below_new (Below.refl _ _) _
  obtain ⟨a1, a2, a3, a4⟩ := box_why w3 ev 32
  have E4 : Hid (WyBox w3.heap.size ev (w3.alloc (.cells #[.int .i64 ev.n, .int .i64 ev.c, .int .i64 ev.k, .slice ev.A ev.m ev.cap] 32))) := Lib.hid ⟨a1, a2, a3, a4⟩
  have B4 := Lib.hid (below_then B3.out hb4)
  have X4 := Lib.hid (X3.out.below hb4)
  have Y4 := Lib.hid (Y3.out.below hb4)
  have V4 := Lib.hid (V3.out.below hb4)
  have D4 : Hid (∀ R', WhyVal 0 w3 R' ev → WhyVal 0 (w3.alloc (.cells #[.int .i64 ev.n, .int .i64 ev.c, .int .i64 ev.k, .slice ev.A ev.m ev.cap] 32)) R' ev) := Lib.hid (fun R' h => h.below hb4)
  clear hb4 a1 a2 a3 a4 X3 Y3 V3
  go_upto_region 2 with fail
  generalize w3.alloc (.cells #[.int .i64 ev.n, .int .i64 ev.c, .int .i64 ev.k, .slice ev.A ev.m ev.cap] 32) = w4 at *
  generalize hBE : w3.heap.size = BE at *
  clear hBE
  obtain ⟨x1, x2, x3, x4⟩ := X4.out
  obtain ⟨y1, y2⟩ := Y4.out
  obtain ⟨v1, v2, v3, v4⟩ := V4.out
  go_wp2_with fail
  refine (C2.out _ B4.out).mono ?_
  rintro e w5 ⟨rfl, hb5⟩
  have B5 := Lib.hid (below_then B4.out hb5)
  have X5 := Lib.hid (X4.out.below hb5)
  have Y5 := Lib.hid (Y4.out.below hb5)
  have V5 := Lib.hid (V4.out.below hb5)
  have E5 := Lib.hid (E4.out.below hb5)
  have D5 := Lib.hid (fun R' h => (D4.out R' h).below hb5)
  clear hb5 x1 x2 x3 x4 y1 y2 v1 v2 v3 v4 X4 Y4 V4 E4 D4 C2
  obtain ⟨x1, x2, x3, x4⟩ := X5.out
  obtain ⟨y1, y2⟩ := Y5.out
  obtain ⟨v1, v2, v3, v4⟩ := V5.out
  go_wp2_with fail
  refine (C3.out _ B5.out).mono ?_
  rintro e w6 ⟨rfl, hb6⟩
  have B6 := Lib.hid (below_then B5.out hb6)
  have X6 := Lib.hid (X5.out.below hb6)
  have Y6 := Lib.hid (Y5.out.below hb6)
  have V6 := Lib.hid (V5.out.below hb6)
  have E6 := Lib.hid (E5.out.below hb6)
  have D6 := Lib.hid (fun R' h => (D5.out R' h).below hb6)
  clear hb6 x1 x2 x3 x4 y1 y2 v1 v2 v3 v4 X5 Y5 V5 E5 D5 C3
  obtain ⟨x1, x2, x3, x4⟩ := X6.out
  obtain ⟨y1, y2⟩ := Y6.out
  obtain ⟨v1, v2, v3, v4⟩ := V6.out
  go_wp2_with fail
  refine (C4.out _ B6.out).mono ?_
  rintro e w7 ⟨rfl, hb7⟩
  have B7 := Lib.hid (below_then B6.out hb7)
  have X7 := Lib.hid (X6.out.below hb7)
  have Y7 := Lib.hid (Y6.out.below hb7)
  have V7 := Lib.hid (V6.out.below hb7)
  have E7 := Lib.hid (E6.out.below hb7)
  have D7 := Lib.hid (fun R' h => (D6.out R' h).below hb7)
  clear hb7 x1 x2 x3 x4 y1 y2 v1 v2 v3 v4 X6 Y6 V6 E6 D6 C4
  obtain ⟨x1, x2, x3, x4⟩ := X7.out
  obtain ⟨y1, y2⟩ := Y7.out
  obtain ⟨v1, v2, v3, v4⟩ := V7.out
  go_upto_region 8 with fail
  have hb8 : Below w7.heap.size w7 (w7.alloc (.cells #[.int .i64 0, .int .i64 0, .int .i64 0, .slice none 0 0] 32)) := below_new (Below.refl _ _) _
  obtain ⟨a1, a2, a3, a4⟩ := box_why w7 zW 32
  have Z8 : Hid (WyBox w7.heap.size zW (w7.alloc (.cells #[.int .i64 0, .int .i64 0, .int .i64 0, .slice none 0 0] 32))) := Lib.hid ⟨a1, a2, a3, a4⟩
  have B8 := Lib.hid (below_then B7.out hb8)
  have X8 := Lib.hid (X7.out.below hb8)
  have Y8 := Lib.hid (Y7.out.below hb8)
  have V8 := Lib.hid (V7.out.below hb8)
  have E8 := Lib.hid (E7.out.below hb8)
  have D8 := Lib.hid (fun R' h => (D7.out R' h).below hb8)
  clear hb8 a1 a2 a3 a4 x1 x2 x3 x4 y1 y2 v1 v2 v3 v4 X7 Y7 V7 E7 D7
  generalize w7.alloc (.cells #[.int .i64 0, .int .i64 0, .int .i64 0, .slice none 0 0] 32) = w8 at *
  generalize w7.heap.size = BZ at *
  obtain ⟨x1, x2, x3, x4⟩ := X8.out
  obtain ⟨y1, y2⟩ := Y8.out
  obtain ⟨v1, v2, v3, v4⟩ := V8.out
  go_wp2_with fail
  refine (C5.out _ B8.out).mono ?_
  rintro e w9 ⟨rfl, hb9⟩
  have B9 := Lib.hid (below_then B8.out hb9)
  have X9 := Lib.hid (X8.out.below hb9)
  have Y9 := Lib.hid (Y8.out.below hb9)
  have V9 := Lib.hid (V8.out.below hb9)
  have E9 := Lib.hid (E8.out.below hb9)
  have Z9 := Lib.hid (Z8.out.below hb9)
  have D9 := Lib.hid (fun R' h => (D8.out R' h).below hb9)
  clear hb9 x1 x2 x3 x4 y1 y2 v1 v2 v3 v4 X8 Y8 V8 E8 Z8 D8 C5
  obtain ⟨x1, x2, x3, x4⟩ := X9.out
  obtain ⟨y1, y2⟩ := Y9.out
  obtain ⟨v1, v2, v3, v4⟩ := V9.out
  obtain ⟨a1, a2, a3, a4⟩ := E9.out
  obtain ⟨z1, z2, z3, z4⟩ := Z9.out
  simp only [zW] at z1 z2 z3 z4
  go_wp2_with fail
  refine (rSame_any [(0, 0, 0)] ev zW _ (by rw [HEV.out]; exact zval _) (zval _)).mono ?_
  rintro e wa ⟨rfl, hba⟩
  have Ba := Lib.hid (below_then B9.out hba)
  clear hba HEV
  go_wp2_with fail
  go_ret
  exact ⟨rfl, Ba.out⟩

set_option maxRecDepth 100000 in
set_option maxHeartbeats 4000000 in
theorem whyTells_good (he : seErr N E p m T d = 0) : Calls Tryd.prog 3 #[gv A1 n c1 A2 k c2 p m, sx A3 j c3 d, .int .i64 z, wvv e0] w fun e w' => e = .returned (.bool true) ∧ Below w.heap.size w w' := by
  obtain ⟨hg0, hjn, _, _, hr0⟩ := se_ok hG.nlen hS.tlen he
  subst hjn
  have hnl := hG.nlen
  obtain ⟨hn64, _, _, hout, _, _⟩ := gr_ok hg0
  rw [hnl] at hn64 hout
  obtain ⟨SS, hSS⟩ : ∃ SS : ByteArray, SS = ⟨(txStr N E p m L).toArray⟩ := ⟨_, rfl⟩
  obtain ⟨te, hte⟩ : ∃ te : Int, te = txErr N E p m L := ⟨_, rfl⟩
  have C1 := Lib.hid (fun W (hb : Below w.heap.size w W) => pTell_any (c1 := c1) (c2 := c2) (c3 := c3) W (hG.below hb) (hS.below hb) (hT.below hb) z R hR)
  have C2 := Lib.hid (fun W (hb : Below w.heap.size w W) => pHolds_any (c1 := c1) (c2 := c2) (c3 := c3) L e0 W (hG.below hb) (hS.below hb) (hT.below hb) (hW.below hb) h0)
  have C3 := Lib.hid (fun W (hb : Below w.heap.size w W) => (pText_any (c1 := c1) (c2 := c2) L e0 W (hG.below hb) (hW.below hb) h0 (hC.below hb)).mono (fun e w' (h : TextPost N E p m L W e w') => (show e = .returned (.tuple #[.string SS, .int .i64 te]) ∧ Below W.heap.size W w' by subst hSS hte; exact h)))
  have C4 := Lib.hid (fun W (hb : Below w.heap.size w W) => (rText_any (c1 := c1) (c2 := c2) L e0 W (hG.below hb) (hW.below hb) h0).mono (fun e w' (h : TextPost N E p m L W e w') => (show e = .returned (.tuple #[.string SS, .int .i64 te]) ∧ Below W.heap.size W w' by subst hSS hte; exact h)))
  have C5 := Lib.hid (fun W (hb : Below w.heap.size w W) => rSeenFault_any (c1 := c1) (c2 := c2) (c3 := c3) W (hG.below hb) (hS.below hb))
  have C6 := Lib.hid (fun W (hb : Below w.heap.size w W) => rHolds_any (c1 := c1) (c2 := c2) (c3 := c3) L e0 W (hG.below hb) (hS.below hb) hg0 (hW.below hb) h0)
  have C7 := Lib.hid (fun W (hb : Below w.heap.size w W) => rAnew_any (c1 := c1) (c2 := c2) (c3 := c3) W (hG.below hb) (hS.below hb) hg0 hr0)
  have C8 := Lib.hid (fun x (hx : x < j) (h : TellR (rowsG j E) T p d (staleS (rowsG j E) T p m d) x R) W (hb : Below w.heap.size w W) => rReasonOf_any (c1 := c1) (c2 := c2) (c3 := c3) hg0 hr0 R x W h hx (hG.below hb) (hS.below hb))
  have HSB : Hid (B64 (staleS (rowsG j E) T p m d)) := Lib.hid (stale_b64 (rowsG_good hn64 hout) hr0)
  rw [show whyH (seErr N E p m T d) (holdsV (rowsG j E) T p m d L) = holdsV (rowsG j E) T p m d L by unfold whyH; rw [if_pos he]] at C2
  have HE := Lib.hid he
  have HRR := Lib.hid hR
  have HNL := Lib.hid hnl
  rw [he] at C2 C5
  clear hg0 hr0 hnl hn64 hout
  generalize holdsV (rowsG j E) T p m d L = hv at *
  unfold gv sx wvv at *
  obtain ⟨x0, y0, v0, b0⟩ := box_ten w (.slice A1 j c1) (.slice A2 k c2) (.int .u64 (p : Int)) (.int .u64 (m : Int)) (.slice A3 j c3) (.int .u64 (d : Int)) e0 26 29 32
  have X2 := Lib.hid x0
  have Y2 := Lib.hid y0
  have V2 := Lib.hid v0
  have B2 := Lib.hid b0
  clear hG hS hT hW h0 hC hR hSS hte he x0 y0 v0 b0
  go_enter Tryd.func3, Tryd.ntmps3
  go_upto_region 1 with fail
  generalize ((w.alloc (.cells #[.slice A1 j c1, .slice A2 k c2, .int .u64 (p : Int), .int .u64 (m : Int)] 26)).alloc (.cells #[.slice A3 j c3, .int .u64 (d : Int)] 29)).alloc (.cells #[.int .i64 e0.n, .int .i64 e0.c, .int .i64 e0.k, .slice e0.A e0.m e0.cap] 32) = w2 at *
  generalize hBS : w.heap.size + 1 = BS at *
  generalize hBV : BS + 1 = BV at *
  clear hBS hBV
  obtain ⟨x1, x2, x3, x4⟩ := X2.out
  obtain ⟨y1, y2⟩ := Y2.out
  obtain ⟨v1, v2, v3, v4⟩ := V2.out
  go_wp2_with fail
  refine (C1.out _ B2.out).mono ?_
  rintro e w3 ⟨ev, er, rfl, ho, hb3⟩
  have HO := Lib.hid ho
  unfold wvv
  have B3 := Lib.hid (below_then B2.out hb3)
  have X3 := Lib.hid (X2.out.below hb3)
  have Y3 := Lib.hid (Y2.out.below hb3)
  have V3 := Lib.hid (V2.out.below hb3)
  clear ho hb3 x1 x2 x3 x4 y1 y2 v1 v2 v3 v4 X2 Y2 V2 C1
  have hb4 : Below w3.heap.size w3 (w3.alloc (.cells #[.int .i64 ev.n, .int .i64 ev.c, .int .i64 ev.k, .slice ev.A ev.m ev.cap] 32)) := below_new (Below.refl _ _) _
  obtain ⟨a1, a2, a3, a4⟩ := box_why w3 ev 32
  have E4 : Hid (WyBox w3.heap.size ev (w3.alloc (.cells #[.int .i64 ev.n, .int .i64 ev.c, .int .i64 ev.k, .slice ev.A ev.m ev.cap] 32))) := Lib.hid ⟨a1, a2, a3, a4⟩
  have B4 := Lib.hid (below_then B3.out hb4)
  have X4 := Lib.hid (X3.out.below hb4)
  have Y4 := Lib.hid (Y3.out.below hb4)
  have V4 := Lib.hid (V3.out.below hb4)
  have D4 : Hid (∀ R', WhyVal 0 w3 R' ev → WhyVal 0 (w3.alloc (.cells #[.int .i64 ev.n, .int .i64 ev.c, .int .i64 ev.k, .slice ev.A ev.m ev.cap] 32)) R' ev) := Lib.hid (fun R' h => h.below hb4)
  clear hb4 a1 a2 a3 a4 X3 Y3 V3
  go_upto_region 2 with fail
  generalize w3.alloc (.cells #[.int .i64 ev.n, .int .i64 ev.c, .int .i64 ev.k, .slice ev.A ev.m ev.cap] 32) = w4 at *
  generalize hBE : w3.heap.size = BE at *
  clear hBE
  obtain ⟨x1, x2, x3, x4⟩ := X4.out
  obtain ⟨y1, y2⟩ := Y4.out
  obtain ⟨v1, v2, v3, v4⟩ := V4.out
  go_wp2_with fail
  refine (C2.out _ B4.out).mono ?_
  rintro e w5 ⟨rfl, hb5⟩
  have B5 := Lib.hid (below_then B4.out hb5)
  have X5 := Lib.hid (X4.out.below hb5)
  have Y5 := Lib.hid (Y4.out.below hb5)
  have V5 := Lib.hid (V4.out.below hb5)
  have E5 := Lib.hid (E4.out.below hb5)
  have D5 := Lib.hid (fun R' h => (D4.out R' h).below hb5)
  clear hb5 x1 x2 x3 x4 y1 y2 v1 v2 v3 v4 X4 Y4 V4 E4 D4 C2
  obtain ⟨x1, x2, x3, x4⟩ := X5.out
  obtain ⟨y1, y2⟩ := Y5.out
  obtain ⟨v1, v2, v3, v4⟩ := V5.out
  go_wp2_with fail
  refine (C3.out _ B5.out).mono ?_
  rintro e w6 ⟨rfl, hb6⟩
  have B6 := Lib.hid (below_then B5.out hb6)
  have X6 := Lib.hid (X5.out.below hb6)
  have Y6 := Lib.hid (Y5.out.below hb6)
  have V6 := Lib.hid (V5.out.below hb6)
  have E6 := Lib.hid (E5.out.below hb6)
  have D6 := Lib.hid (fun R' h => (D5.out R' h).below hb6)
  clear hb6 x1 x2 x3 x4 y1 y2 v1 v2 v3 v4 X5 Y5 V5 E5 D5 C3
  obtain ⟨x1, x2, x3, x4⟩ := X6.out
  obtain ⟨y1, y2⟩ := Y6.out
  obtain ⟨v1, v2, v3, v4⟩ := V6.out
  go_wp2_with fail
  refine (C4.out _ B6.out).mono ?_
  rintro e w7 ⟨rfl, hb7⟩
  have B7 := Lib.hid (below_then B6.out hb7)
  have X7 := Lib.hid (X6.out.below hb7)
  have Y7 := Lib.hid (Y6.out.below hb7)
  have V7 := Lib.hid (V6.out.below hb7)
  have E7 := Lib.hid (E6.out.below hb7)
  have D7 := Lib.hid (fun R' h => (D6.out R' h).below hb7)
  clear hb7 x1 x2 x3 x4 y1 y2 v1 v2 v3 v4 X6 Y6 V6 E6 D6 C4
  obtain ⟨x1, x2, x3, x4⟩ := X7.out
  obtain ⟨y1, y2⟩ := Y7.out
  obtain ⟨v1, v2, v3, v4⟩ := V7.out
  go_upto_region 8 with fail
  have hb8 : Below w7.heap.size w7 (w7.alloc (.cells #[.int .i64 0, .int .i64 0, .int .i64 0, .slice none 0 0] 32)) := below_new (Below.refl _ _) _
  obtain ⟨a1, a2, a3, a4⟩ := box_why w7 zW 32
  have Z8 : Hid (WyBox w7.heap.size zW (w7.alloc (.cells #[.int .i64 0, .int .i64 0, .int .i64 0, .slice none 0 0] 32))) := Lib.hid ⟨a1, a2, a3, a4⟩
  have B8 := Lib.hid (below_then B7.out hb8)
  have X8 := Lib.hid (X7.out.below hb8)
  have Y8 := Lib.hid (Y7.out.below hb8)
  have V8 := Lib.hid (V7.out.below hb8)
  have E8 := Lib.hid (E7.out.below hb8)
  have D8 := Lib.hid (fun R' h => (D7.out R' h).below hb8)
  clear hb8 a1 a2 a3 a4 x1 x2 x3 x4 y1 y2 v1 v2 v3 v4 X7 Y7 V7 E7 D7
  generalize w7.alloc (.cells #[.int .i64 0, .int .i64 0, .int .i64 0, .slice none 0 0] 32) = w8 at *
  generalize w7.heap.size = BZ at *
  obtain ⟨x1, x2, x3, x4⟩ := X8.out
  obtain ⟨y1, y2⟩ := Y8.out
  obtain ⟨v1, v2, v3, v4⟩ := V8.out
  go_wp2_with fail
  refine (C5.out _ B8.out).mono ?_
  rintro e w9 ⟨rfl, hb9⟩
  have B9 := Lib.hid (below_then B8.out hb9)
  have X9 := Lib.hid (X8.out.below hb9)
  have Y9 := Lib.hid (Y8.out.below hb9)
  have V9 := Lib.hid (V8.out.below hb9)
  have E9 := Lib.hid (E8.out.below hb9)
  have Z9 := Lib.hid (Z8.out.below hb9)
  have D9 := Lib.hid (fun R' h => (D8.out R' h).below hb9)
  clear hb9 x1 x2 x3 x4 y1 y2 v1 v2 v3 v4 X8 Y8 V8 E8 Z8 D8 C5
  obtain ⟨x1, x2, x3, x4⟩ := X9.out
  obtain ⟨y1, y2⟩ := Y9.out
  obtain ⟨v1, v2, v3, v4⟩ := V9.out
  obtain ⟨a1, a2, a3, a4⟩ := E9.out
  obtain ⟨z1, z2, z3, z4⟩ := Z9.out
  simp only [zW] at z1 z2 z3 z4
  go_wp2_with fail
  refine (C6.out _ B9.out).mono ?_
  rintro e wa ⟨rfl, hba⟩
  have Ba := Lib.hid (below_then B9.out hba)
  have Xa := Lib.hid (X9.out.below hba)
  have Ya := Lib.hid (Y9.out.below hba)
  have Va := Lib.hid (V9.out.below hba)
  have Ea := Lib.hid (E9.out.below hba)
  have Za := Lib.hid (Z9.out.below hba)
  have Da := Lib.hid (fun R' h => (D9.out R' h).below hba)
  clear hba x1 x2 x3 x4 y1 y2 v1 v2 v3 v4 a1 a2 a3 a4 z1 z2 z3 z4 X9 Y9 V9 E9 Z9 D9 C6
  obtain ⟨x1, x2, x3, x4⟩ := Xa.out
  obtain ⟨y1, y2⟩ := Ya.out
  obtain ⟨v1, v2, v3, v4⟩ := Va.out
  obtain ⟨a1, a2, a3, a4⟩ := Ea.out
  obtain ⟨z1, z2, z3, z4⟩ := Za.out
  simp only [zW] at z1 z2 z3 z4
  by_cases hz0 : z < 0
  · obtain ⟨hev, rfl⟩ := HO.out.rng HE.out (.inl hz0)
    have HEV := Lib.hid hev
    clear hev
    clear HO
    go_wp2_with fail
    refine (rSame_any [(0, 0, 0)] ev zW _ (by rw [HEV.out]; exact zval _) (zval _)).mono ?_
    rintro e wb ⟨rfl, hbb⟩
    have Bb := Lib.hid (below_then Ba.out hbb)
    clear hbb HEV
    go_wp2_with fail
    go_ret
    exact ⟨rfl, Bb.out⟩

  · by_cases hz1 : (j : Int) ≤ z
    · obtain ⟨hev, rfl⟩ := HO.out.rng HE.out (.inr (by rw [HNL.out]; exact hz1))
      have HEV := Lib.hid hev
      clear hev
      clear HO
      go_wp2_with fail
      refine (rSame_any [(0, 0, 0)] ev zW _ (by rw [HEV.out]; exact zval _) (zval _)).mono ?_
      rintro e wb ⟨rfl, hbb⟩
      have Bb := Lib.hid (below_then Ba.out hbb)
      clear hbb HEV
      go_wp2_with fail
      go_ret
      exact ⟨rfl, Bb.out⟩

    · obtain ⟨x, rfl⟩ : ∃ x : Nat, z = (x : Int) := ⟨z.toNat, by omega⟩
      have hx : x < j := by omega
      have HX := Lib.hid hx
      have HIN : Hid (¬ ((x : Int) < 0 ∨ (N.length : Int) ≤ (x : Int))) := Lib.hid (by rw [HNL.out]; omega)
      have HNB := Lib.hid (HO.out.non HE.out HIN.out)
      have HYB := Lib.hid (HO.out.yes HE.out HIN.out)
      have HRY := Lib.hid (HRR.out HE.out HIN.out)
      simp only [Int.toNat_natCast, HNL.out] at HNB HYB HRY
      clear HO hx HRR
      go_wp2_with fail
      refine (C7.out _ Ba.out).mono ?_
      rintro e wb ⟨rfl, hbb⟩
      have Bb := Lib.hid (below_then Ba.out hbb)
      have Xb := Lib.hid (Xa.out.below hbb)
      have Yb := Lib.hid (Ya.out.below hbb)
      have Vb := Lib.hid (Va.out.below hbb)
      have Eb := Lib.hid (Ea.out.below hbb)
      have Zb := Lib.hid (Za.out.below hbb)
      have Db := Lib.hid (fun R' h => (Da.out R' h).below hbb)
      clear hbb x1 x2 x3 x4 y1 y2 v1 v2 v3 v4 a1 a2 a3 a4 z1 z2 z3 z4 Xa Ya Va Ea Za Da C7
      obtain ⟨x1, x2, x3, x4⟩ := Xb.out
      obtain ⟨y1, y2⟩ := Yb.out
      obtain ⟨v1, v2, v3, v4⟩ := Vb.out
      obtain ⟨a1, a2, a3, a4⟩ := Eb.out
      obtain ⟨z1, z2, z3, z4⟩ := Zb.out
      simp only [zW] at z1 z2 z3 z4
      generalize staleS (rowsG j E) T p m d = S at *
      go_wp2_with fail
      refine (in_nat S HSB.out x _).mono ?_
      rintro e w' ⟨rfl, rfl⟩
      cases hbit : S.testBit x with
      | false =>
        obtain ⟨hev, rfl⟩ := HNB.out hbit
        have HEV := Lib.hid hev
        clear hev
        clear HNB HYB HRY hbit
        go_wp2_with fail
        refine (rSame_any [(0, 0, 0)] ev zW _ (by rw [HEV.out]; exact zval _) (zval _)).mono ?_
        rintro e wc ⟨rfl, hbc⟩
        have Bc := Lib.hid (below_then Bb.out hbc)
        clear hbc HEV
        go_wp2_with fail
        go_ret
        exact ⟨rfl, Bc.out⟩

      | true =>
        obtain ⟨hval, rfl⟩ := HYB.out hbit
        have C9 := Lib.hid (C8.out x HX.out (HRY.out hbit))
        have HV := Lib.hid (Db.out _ (hval.base (Nat.zero_le _)))
        clear HNB HYB HRY hbit hval C8
        go_upto_region 17 with fail
        have bb := Bb.out
        have HVd : Hid (WhyVal 0 wb.drew R ev) := Lib.hid (WhyVal.keep (w := wb) (w' := wb.drew) (Nat.le_refl _) (fun _ _ _ _ hc => hc) HV.out)
        go_region_held3 (fun W => W.cell? ⟨w.heap.size, 0, none⟩ = some (.slice A1 j c1) ∧ W.cell? ⟨w.heap.size, 1, none⟩ = some (.slice A2 k c2) ∧ W.cell? ⟨w.heap.size, 2, none⟩ = some (.int .u64 (p : Int)) ∧ W.cell? ⟨w.heap.size, 3, none⟩ = some (.int .u64 (m : Int)) ∧ W.cell? ⟨BS, 0, none⟩ = some (.slice A3 j c3) ∧ W.cell? ⟨BS, 1, none⟩ = some (.int .u64 (d : Int)) ∧ W.cell? ⟨BE, 0, none⟩ = some (.int .i64 ev.n) ∧ W.cell? ⟨BE, 1, none⟩ = some (.int .i64 ev.c) ∧ W.cell? ⟨BE, 2, none⟩ = some (.int .i64 ev.k) ∧ W.cell? ⟨BE, 3, none⟩ = some (.slice ev.A ev.m ev.cap) ∧ Below w.heap.size w W)
          ((refine ⟨?_, ?_, ?_, ?_, ?_, ?_, ?_, ?_, ?_, ?_, ?_⟩ <;> first | assumption | exact Below.drew (by assumption)))
          ((first
            | (go_at_call 13; refine (C9.out _ (Below.drew bb)).mono ?_; rintro e w7 ⟨ev2, rfl, hv2, hb7⟩; unfold wvv; have t0 := cell_keep (w := wb.drew) x1 hb7; have t1 := cell_keep (w := wb.drew) x2 hb7; have t2 := cell_keep (w := wb.drew) x3 hb7; have t3 := cell_keep (w := wb.drew) x4 hb7; have t4 := cell_keep (w := wb.drew) y1 hb7; have t5 := cell_keep (w := wb.drew) y2 hb7; have t6 := cell_keep (w := wb.drew) a1 hb7; have t7 := cell_keep (w := wb.drew) a2 hb7; have t8 := cell_keep (w := wb.drew) a3 hb7; have t9 := cell_keep (w := wb.drew) a4 hb7; have b7 := below_then (Below.drew bb) hb7; have HV7 := Lib.hid (HVd.out.below hb7); have HW7 := Lib.hid (hv2.base (Nat.zero_le _)))
            | (go_at_call 9; refine (rSame_any R ev ev2 _ HV7.out HW7.out).mono ?_; rintro e w8 ⟨rfl, hb8⟩; have u0 := cell_keep t0 hb8; have u1 := cell_keep t1 hb8; have u2 := cell_keep t2 hb8; have u3 := cell_keep t3 hb8; have u4 := cell_keep t4 hb8; have u5 := cell_keep t5 hb8; have u6 := cell_keep t6 hb8; have u7 := cell_keep t7 hb8; have u8 := cell_keep t8 hb8; have u9 := cell_keep t9 hb8; have b8 := below_then b7 hb8)))
        go_wp2_with fail
        go_ret
        exact ⟨rfl, b8⟩

theorem whyTells_any : Calls Tryd.prog 3 #[gv A1 n c1 A2 k c2 p m, sx A3 j c3 d, .int .i64 z, wvv e0] w fun e w' => e = .returned (.bool true) ∧ Below w.heap.size w w' := by
  by_cases he : seErr N E p m T d = 0
  · exact whyTells_good z L e0 w hG hS hT hW h0 hC R hR he
  · exact whyTells_bad z L e0 w hG hS hT hW h0 hC R hR he
end
theorem whyTells_walk (A1 : Option Addr) (N : List (List UInt8)) (c1 : Nat) (A2 : Option Addr) (E : List EdgeT) (c2 p m : Nat) (A3 : Option Addr) (T : List Int) (c3 d : Nat) (z : Int) (L : List WV) (e0 : WV) (w : World) (hG : GrIn A1 N.length A2 E.length N E p m w) (hS : SeIn A3 T.length T d w) (_ : (Lit.int .i64 z).wf = true) (hW : WhyCh w L) (h0 : L[0]? = some e0) (hT : Tab w) (hC : CTab w) :
    Calls Tryd.prog 3 #[gv A1 N.length c1 A2 E.length c2 p m, sx A3 T.length c3 d, .int .i64 z, wvv e0] w fun e w' => e = .returned (.bool true) ∧ Below w.heap.size w w' := by
  obtain ⟨R, hR⟩ := tellR_ex (N := N) (E := E) (p := p) (m := m) (d := d) (T := T) rfl rfl z
  exact whyTells_any z L e0 w hG hS hT hW h0 hC R hR
end Go.Proofs.YtecbdamimnllnaaDoor

