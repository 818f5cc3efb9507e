/- Contract: why.holds. The graph and what is seen are right. -/
import Derived.Test.YtecbdamimnllnaaDoorWhy1
import Derived.Test.YtecbdamimnllnaaDoorQuiet
import Derived.BigQuiet
import Derived.Deep.QuietTactic
namespace Go.Proofs.YtecbdamimnllnaaDoor
open Go.RowKit

theorem needed_lo (c : Int) (h : c < 3) (w : World) : Calls Tryd.prog 22 #[.int .i64 c] w fun e w' => e = .returned (.bool false) ∧ w = w' :=
  (needed_any c w).mono fun _ _ ⟨h1, h2⟩ => ⟨by rw [h1, decide_eq_false (by omega)], h2⟩
theorem needed_hi (c : Int) (h : 3 ≤ c) (w : World) : Calls Tryd.prog 22 #[.int .i64 c] w fun e w' => e = .returned (.bool true) ∧ w = w' :=
  (needed_any c w).mono fun _ _ ⟨h1, h2⟩ => ⟨by rw [h1, decide_eq_true h], h2⟩
structure WyBox (B : Nat) (e : WV) (w : World) : Prop where
  c1 : w.cell? ⟨B, 0, none⟩ = some (.int .i64 e.n)
  c2 : w.cell? ⟨B, 1, none⟩ = some (.int .i64 e.c)
  c3 : w.cell? ⟨B, 2, none⟩ = some (.int .i64 e.k)
  c4 : w.cell? ⟨B, 3, none⟩ = some (.slice e.A e.m e.cap)
theorem WyBox.below {B : Nat} {e : WV} {w w' : World} (h : WyBox B e w) (hb : Below w.heap.size w w') : WyBox B e w' := ⟨cell_keep h.c1 hb, cell_keep h.c2 hb, cell_keep h.c3 hb, cell_keep h.c4 hb⟩
theorem box_ten (w : World) (x1 x2 x3 x4 y1 y2 : Value) (e : WV) (t u v : TypeId) :
    GrBox w.heap.size x1 x2 x3 x4 (((w.alloc (.cells #[x1, x2, x3, x4] t)).alloc (.cells #[y1, y2] u)).alloc (.cells #[.int .i64 e.n, .int .i64 e.c, .int .i64 e.k, .slice e.A e.m e.cap] v)) ∧ SeBox (w.heap.size + 1) y1 y2 (((w.alloc (.cells #[x1, x2, x3, x4] t)).alloc (.cells #[y1, y2] u)).alloc (.cells #[.int .i64 e.n, .int .i64 e.c, .int .i64 e.k, .slice e.A e.m e.cap] v)) ∧
    WyBox (w.heap.size + 1 + 1) e (((w.alloc (.cells #[x1, x2, x3, x4] t)).alloc (.cells #[y1, y2] u)).alloc (.cells #[.int .i64 e.n, .int .i64 e.c, .int .i64 e.k, .slice e.A e.m e.cap] v)) ∧ Below w.heap.size w (((w.alloc (.cells #[x1, x2, x3, x4] t)).alloc (.cells #[y1, y2] u)).alloc (.cells #[.int .i64 e.n, .int .i64 e.c, .int .i64 e.k, .slice e.A e.m e.cap] v)) := by
  obtain ⟨h1, h2, h3⟩ := box_six w x1 x2 x3 x4 y1 y2 t u
  obtain ⟨g1, g2, g3, g4⟩ := box_why ((w.alloc (.cells #[x1, x2, x3, x4] t)).alloc (.cells #[y1, y2] u)) e v
  simp only [World.size_alloc] at g1 g2 g3 g4
  exact ⟨h1.below (below_new (Below.refl _ _) _), h2.below (below_new (Below.refl _ _) _), ⟨g1, g2, g3, g4⟩, below_new h3 _⟩
theorem all64 {z : Nat} (h : z < 64) : (2 ^ 64 - 1 : Nat).testBit z = true := by rw [Nat.testBit_two_pow_sub_one]; simpa using h
section
variable {A1 A2 A3 AR : Option Addr} {n k c1 c2 c3 cR : Nat} {N : List (List UInt8)} {E : List EdgeT} {p m d : Nat} {T : List Int} (l : List Nat) (w : World) (hG : GrIn A1 n A2 k N E p m w) (hS : SeIn A3 n T d w)
  (hl : l.length = n) (hg : Good l) (hR : Rd w AR (l.map uv))
include hG hS hl hg hR
set_option maxRecDepth 100000 in
set_option maxHeartbeats 4000000 in
theorem holds_any (e : WV) (nx : Int) (hc1 : 1 ≤ e.c) (hc5 : e.c ≤ 5) (hx : e.c = 5 → ∃ b off, e.A = some ⟨b, off, none⟩ ∧ 0 < e.m ∧ w.cell? ⟨b, off, none⟩ = some (.int .i64 nx)) :
    Calls Tryd.prog 19 #[gv A1 n c1 A2 k c2 p m, sx A3 n c3 d, .slice AR n cR, wvv e] w fun e' w' => e' = .returned (.bool (holdsB l T p m d e nx)) ∧ Below w.heap.size w w' := by
  have hn : n ≤ 64 := by have := hg.1; omega
  obtain ⟨en, ec, ek, eA, em, ecap⟩ := e
  have HM := Lib.hid hG.m64
  have HP := Lib.hid hG.p64
  have HD := Lib.hid hS.d64
  have HS := Lib.hid hS
  have HR := Lib.hid hR
  have HL := Lib.hid hl
  have HG := Lib.hid hg
  have HX := Lib.hid hx
  obtain ⟨x0, y0, v0, z0⟩ := box_ten w (.slice A1 n c1) (.slice A2 k c2) (.int .u64 (p : Int)) (.int .u64 (m : Int)) (.slice A3 n c3) (.int .u64 (d : Int)) ⟨en, ec, ek, eA, em, ecap⟩ 26 29 32
  have B2 := Lib.hid z0
  obtain ⟨x1, x2, x3, x4⟩ := x0
  obtain ⟨y1, y2⟩ := y0
  obtain ⟨v1, v2, v3, v4⟩ := v0
  simp only at v1 v2 v3 v4 z0 hc1 hc5 B2
  have HQ : Hid (holdsB l T p m d ⟨en, ec, ek, eA, em, ecap⟩ nx = (inW n ⟨en, ec, ek, eA, em, ecap⟩ && ((m ||| p).testBit en.toNat && (rsn l T p d (2 ^ 64 - 1) en.toNat ec.toNat ek.toNat && (decide (ec ≠ 5) || decide (nx = ek)))))) := Lib.hid (by rw [← hl]; rfl)
  have HW : Hid (inW n ⟨en, ec, ek, eA, em, ecap⟩ = (decide (0 ≤ en) && decide (en < n) && decide (0 ≤ ek) && decide (ek < n))) := Lib.hid rfl
  clear hG hS hl hg hR hx z0
  unfold gv sx wvv
  by_cases hin : 0 ≤ en ∧ en < n ∧ 0 ≤ ek ∧ ek < n
  · obtain ⟨x, rfl⟩ : ∃ x : Nat, en = (x : Int) := ⟨en.toNat, by omega⟩
    obtain ⟨z, rfl⟩ : ∃ z : Nat, ek = (z : Int) := ⟨ek.toNat, by omega⟩
    have hxn : x < n := by omega
    have hzn : z < n := by omega
    have HIN : Hid (inW n ⟨(x : Int), ec, (z : Int), eA, em, ecap⟩ = true) := Lib.hid (by rw [HW.out]; simp; omega)
    rw [HIN.out, Bool.true_and] at HQ
    simp only [Int.toNat_natCast] at HQ
    have gx0 : ¬ ((x : Int) < 0) := by omega
    have gx1 : ¬ ((n : Int) ≤ (x : Int)) := by omega
    have gz0 : ¬ ((z : Int) < 0) := by omega
    have gz1 : ¬ ((n : Int) ≤ (z : Int)) := by omega
    have hor : bits .or .u64 (m : Int) (p : Int) = ((m ||| p : Nat) : Int) := u64_or_nat m p HM.out HP.out
    have hbr := bit_raw (m ||| p) x (HM.out.or HP.out)
    clear hin HW HIN
    cases hbt : (m ||| p).testBit x with
    | false =>
      rw [hbt] at hbr HQ
      rw [if_neg (by decide)] at hbr
      clear hbt
      go_enter Tryd.func19, Tryd.ntmps19
      go_upto_region 1 with fail
      generalize (((w.alloc (.cells #[.slice A1 n c1, .slice A2 k c2, .int .u64 (p : Int), .int .u64 (m : Int)] 26)).alloc (.cells #[.slice A3 n c3, .int .u64 (d : Int)] 29)).alloc (.cells #[.int .i64 (x : Int), .int .i64 ec, .int .i64 (z : Int), .slice eA em ecap] 32)) = w2 at *
      go_wp2_with fail
      go_ret
      exact ⟨ret_bool (by rw [HQ.out]; rfl), B2.out⟩
    | true =>
      rw [hbt] at hbr HQ
      rw [if_pos rfl] at hbr
      rw [Bool.true_and] at HQ
      clear hbt
      obtain ⟨bR, oR, rfl, xr⟩ := HR.out.set (k := x) (by rw [HL.out]; exact hxn)
      have XR := Lib.hid xr
      have hrb := bit_raw (rowAt l x) z (HG.out.b64 x)
      have HBD := Lib.hid (fun qq => below_drewN B2.out qq)
      clear xr
      rcases (by omega : ec = 1 ∨ ec = 2 ∨ ec = 3 ∨ ec = 4 ∨ ec = 5) with rfl | rfl | rfl | rfl | rfl
      · have HE : Hid (holdsB l T p m d ⟨(x : Int), 1, (z : Int), eA, em, ecap⟩ nx = (decide (z = 0) && decide (tmI T x < 0))) := Lib.hid (by rw [HQ.out]; simp [rsn])
        obtain ⟨bT, oT, rfl, yt⟩ := (HS.out.below B2.out).tcell hxn
        clear hrb HQ hc1 hc5
        have hxx : (x : Int) < (n : Int) := by omega
        generalize tmI T x = t at *
        by_cases hz : z = 0
        · subst hz
          go_enter Tryd.func19, Tryd.ntmps19
          go_upto_region 1 with fail
          generalize (((w.alloc (.cells #[.slice A1 n c1, .slice A2 k c2, .int .u64 (p : Int), .int .u64 (m : Int)] 26)).alloc (.cells #[.slice (some ⟨bT, oT, none⟩) n c3, .int .u64 (d : Int)] 29)).alloc (.cells #[.int .i64 (x : Int), .int .i64 1, .int .i64 ((0 : Nat) : Int), .slice eA em ecap] 32)) = w2 at *
          go_wp2_with fail
          go_quiet ((go_at_call 22; exact quiet_left (needed_lo 1 (by omega) _)))
          go_wp2_with fail
          go_ret
          exact ⟨ret_bool (by rw [HE.out]; simp), HBD.out _⟩
        · have hzz : ((z : Int) != 0) = true := by simp; omega
          have HE2 : Hid (holdsB l T p m d ⟨(x : Int), 1, (z : Int), eA, em, ecap⟩ nx = false) := Lib.hid (by rw [HE.out, decide_eq_false hz]; rfl)
          clear hz
          go_enter Tryd.func19, Tryd.ntmps19
          go_upto_region 1 with fail
          generalize (((w.alloc (.cells #[.slice A1 n c1, .slice A2 k c2, .int .u64 (p : Int), .int .u64 (m : Int)] 26)).alloc (.cells #[.slice (some ⟨bT, oT, none⟩) n c3, .int .u64 (d : Int)] 29)).alloc (.cells #[.int .i64 (x : Int), .int .i64 1, .int .i64 (z : Int), .slice eA em ecap] 32)) = w2 at *
          go_wp2_with fail
          go_quiet ((go_at_call 22; exact quiet_left (needed_lo 1 (by omega) _)))
          go_wp2_with fail
          go_ret
          exact ⟨ret_bool HE2.out.symm, HBD.out _⟩
      · have HE : Hid (holdsB l T p m d ⟨(x : Int), 2, (z : Int), eA, em, ecap⟩ nx = (decide (z = 0) && p.testBit x)) := Lib.hid (by rw [HQ.out]; simp [rsn])
        have hpr := bit_raw p x HP.out
        clear hrb HQ hc1 hc5
        generalize p.testBit x = bp at *
        by_cases hz : z = 0
        · subst hz
          cases bp
          · rw [if_neg (by decide)] at hpr
            go_enter Tryd.func19, Tryd.ntmps19
            go_upto_region 1 with fail
            generalize (((w.alloc (.cells #[.slice A1 n c1, .slice A2 k c2, .int .u64 (p : Int), .int .u64 (m : Int)] 26)).alloc (.cells #[.slice A3 n c3, .int .u64 (d : Int)] 29)).alloc (.cells #[.int .i64 (x : Int), .int .i64 2, .int .i64 ((0 : Nat) : Int), .slice eA em ecap] 32)) = w2 at *
            go_wp2_with fail
            go_quiet ((go_at_call 22; exact quiet_left (needed_lo 2 (by omega) _)))
            go_wp2_with fail
            go_ret
            exact ⟨ret_bool (by rw [HE.out]; simp), HBD.out _⟩
          · rw [if_pos rfl] at hpr
            go_enter Tryd.func19, Tryd.ntmps19
            go_upto_region 1 with fail
            generalize (((w.alloc (.cells #[.slice A1 n c1, .slice A2 k c2, .int .u64 (p : Int), .int .u64 (m : Int)] 26)).alloc (.cells #[.slice A3 n c3, .int .u64 (d : Int)] 29)).alloc (.cells #[.int .i64 (x : Int), .int .i64 2, .int .i64 ((0 : Nat) : Int), .slice eA em ecap] 32)) = w2 at *
            go_wp2_with fail
            go_quiet ((go_at_call 22; exact quiet_left (needed_lo 2 (by omega) _)))
            go_wp2_with fail
            go_ret
            exact ⟨ret_bool (by rw [HE.out]; simp), HBD.out _⟩
        · have hzz : ((z : Int) != 0) = true := by simp; omega
          have HE2 : Hid (holdsB l T p m d ⟨(x : Int), 2, (z : Int), eA, em, ecap⟩ nx = false) := Lib.hid (by rw [HE.out, decide_eq_false hz]; rfl)
          clear hz hpr
          go_enter Tryd.func19, Tryd.ntmps19
          go_upto_region 1 with fail
          generalize (((w.alloc (.cells #[.slice A1 n c1, .slice A2 k c2, .int .u64 (p : Int), .int .u64 (m : Int)] 26)).alloc (.cells #[.slice A3 n c3, .int .u64 (d : Int)] 29)).alloc (.cells #[.int .i64 (x : Int), .int .i64 2, .int .i64 (z : Int), .slice eA em ecap] 32)) = w2 at *
          go_wp2_with fail
          go_quiet ((go_at_call 22; exact quiet_left (needed_lo 2 (by omega) _)))
          go_wp2_with fail
          go_ret
          exact ⟨ret_bool HE2.out.symm, HBD.out _⟩
      · have HE : Hid (holdsB l T p m d ⟨(x : Int), 3, (z : Int), eA, em, ecap⟩ nx = ((rowAt l x).testBit z && d.testBit z)) := Lib.hid (by rw [HQ.out]; simp [rsn])
        have hdr := bit_raw d z HD.out
        have xr := XR.out
        have xr := cell_keep XR.out B2.out
        have hxx : (x : Int) < (n : Int) := by omega
        clear HQ hc1 hc5
        generalize rowAt l x = rr at *
        generalize rr.testBit z = br at *
        generalize d.testBit z = bd at *
        cases br
        · rw [if_neg (by decide)] at hrb
          clear hdr
          go_enter Tryd.func19, Tryd.ntmps19
          go_upto_region 1 with fail
          generalize (((w.alloc (.cells #[.slice A1 n c1, .slice A2 k c2, .int .u64 (p : Int), .int .u64 (m : Int)] 26)).alloc (.cells #[.slice A3 n c3, .int .u64 (d : Int)] 29)).alloc (.cells #[.int .i64 (x : Int), .int .i64 3, .int .i64 (z : Int), .slice eA em ecap] 32)) = w2 at *
          go_wp2_with fail
          go_quiet ((go_at_call 22; exact quiet_left (needed_hi 3 (by omega) _)))
          go_wp2_with fail
          go_ret
          exact ⟨ret_bool (by rw [HE.out]; simp), HBD.out _⟩
        · rw [if_pos rfl] at hrb
          cases bd
          · rw [if_neg (by decide)] at hdr
            go_enter Tryd.func19, Tryd.ntmps19
            go_upto_region 1 with fail
            generalize (((w.alloc (.cells #[.slice A1 n c1, .slice A2 k c2, .int .u64 (p : Int), .int .u64 (m : Int)] 26)).alloc (.cells #[.slice A3 n c3, .int .u64 (d : Int)] 29)).alloc (.cells #[.int .i64 (x : Int), .int .i64 3, .int .i64 (z : Int), .slice eA em ecap] 32)) = w2 at *
            go_wp2_with fail
            go_quiet ((go_at_call 22; exact quiet_left (needed_hi 3 (by omega) _)))
            go_wp2_with fail
            go_ret
            exact ⟨ret_bool (by rw [HE.out]; simp), HBD.out _⟩
          · rw [if_pos rfl] at hdr
            go_enter Tryd.func19, Tryd.ntmps19
            go_upto_region 1 with fail
            generalize (((w.alloc (.cells #[.slice A1 n c1, .slice A2 k c2, .int .u64 (p : Int), .int .u64 (m : Int)] 26)).alloc (.cells #[.slice A3 n c3, .int .u64 (d : Int)] 29)).alloc (.cells #[.int .i64 (x : Int), .int .i64 3, .int .i64 (z : Int), .slice eA em ecap] 32)) = w2 at *
            go_wp2_with fail
            go_quiet ((go_at_call 22; exact quiet_left (needed_hi 3 (by omega) _)))
            go_wp2_with fail
            go_ret
            exact ⟨ret_bool (by rw [HE.out]; simp), HBD.out _⟩
      · have HE : Hid (holdsB l T p m d ⟨(x : Int), 4, (z : Int), eA, em, ecap⟩ nx = ((rowAt l x).testBit z && decide (tmI T x < tmI T z))) := Lib.hid (by rw [HQ.out]; simp [rsn])
        obtain ⟨bT, oT, rfl, yt⟩ := (HS.out.below B2.out).tcell hxn
        obtain ⟨_, _, hA, yz⟩ := (HS.out.below B2.out).tcell hzn
        cases hA
        have xr := cell_keep XR.out B2.out
        have hxx : (x : Int) < (n : Int) := by omega
        have hzz : (z : Int) < (n : Int) := by omega
        clear HQ hc1 hc5
        generalize tmI T x = t at *
        generalize tmI T z = s at *
        generalize rowAt l x = rr at *
        generalize rr.testBit z = br at *
        cases br
        · rw [if_neg (by decide)] at hrb
          go_enter Tryd.func19, Tryd.ntmps19
          go_upto_region 1 with fail
          generalize (((w.alloc (.cells #[.slice A1 n c1, .slice A2 k c2, .int .u64 (p : Int), .int .u64 (m : Int)] 26)).alloc (.cells #[.slice (some ⟨bT, oT, none⟩) n c3, .int .u64 (d : Int)] 29)).alloc (.cells #[.int .i64 (x : Int), .int .i64 4, .int .i64 (z : Int), .slice eA em ecap] 32)) = w2 at *
          go_wp2_with fail
          go_quiet ((go_at_call 22; exact quiet_left (needed_hi 4 (by omega) _)))
          go_wp2_with fail
          go_ret
          exact ⟨ret_bool (by rw [HE.out]; simp), HBD.out _⟩
        · rw [if_pos rfl] at hrb
          go_enter Tryd.func19, Tryd.ntmps19
          go_upto_region 1 with fail
          generalize (((w.alloc (.cells #[.slice A1 n c1, .slice A2 k c2, .int .u64 (p : Int), .int .u64 (m : Int)] 26)).alloc (.cells #[.slice (some ⟨bT, oT, none⟩) n c3, .int .u64 (d : Int)] 29)).alloc (.cells #[.int .i64 (x : Int), .int .i64 4, .int .i64 (z : Int), .slice eA em ecap] 32)) = w2 at *
          go_wp2_with fail
          go_quiet ((go_at_call 22; exact quiet_left (needed_hi 4 (by omega) _)))
          go_wp2_with fail
          go_quiet (fail)
          go_wp2_with fail
          go_ret
          exact ⟨ret_bool (by rw [HE.out]; simp), below_drewN (below_drewN B2.out _) _⟩
      · have hz64 : z < 64 := by omega
        have HE : Hid (holdsB l T p m d ⟨(x : Int), 5, (z : Int), eA, em, ecap⟩ nx = ((rowAt l x).testBit z && decide (nx = (z : Int)))) := Lib.hid (by
          have hr : rsn l T p d (2 ^ 64 - 1) x (5 : Int).toNat z = (rowAt l x).testBit z := by
            show rsn l T p d (2 ^ 64 - 1) x 5 z = _
            unfold rsn
            rw [if_neg (by decide), if_neg (by decide), if_neg (by decide), if_neg (by decide), all64 hz64, Bool.and_true]
          rw [HQ.out, hr]
          rfl)
        obtain ⟨bN, oN, hA, hm0, yn⟩ := HX.out rfl
        simp only at hA
        subst hA
        have yn := cell_keep yn B2.out
        have xr := cell_keep XR.out B2.out
        have hxx : (x : Int) < (n : Int) := by omega
        have hm1 : (0 : Int) < (em : Int) := by simp only at hm0; omega
        clear HQ hc1 hc5 HX hm0
        generalize rowAt l x = rr at *
        generalize rr.testBit z = br at *
        cases br
        · rw [if_neg (by decide)] at hrb
          go_enter Tryd.func19, Tryd.ntmps19
          go_upto_region 1 with fail
          generalize (((w.alloc (.cells #[.slice A1 n c1, .slice A2 k c2, .int .u64 (p : Int), .int .u64 (m : Int)] 26)).alloc (.cells #[.slice A3 n c3, .int .u64 (d : Int)] 29)).alloc (.cells #[.int .i64 (x : Int), .int .i64 5, .int .i64 (z : Int), .slice (some ⟨bN, oN, none⟩) em ecap] 32)) = w2 at *
          go_wp2_with fail
          go_quiet ((go_at_call 22; exact quiet_left (needed_hi 5 (by omega) _)))
          go_wp2_with fail
          go_ret
          exact ⟨ret_bool (by rw [HE.out]; simp), HBD.out _⟩
        · rw [if_pos rfl] at hrb
          go_enter Tryd.func19, Tryd.ntmps19
          go_upto_region 1 with fail
          generalize (((w.alloc (.cells #[.slice A1 n c1, .slice A2 k c2, .int .u64 (p : Int), .int .u64 (m : Int)] 26)).alloc (.cells #[.slice A3 n c3, .int .u64 (d : Int)] 29)).alloc (.cells #[.int .i64 (x : Int), .int .i64 5, .int .i64 (z : Int), .slice (some ⟨bN, oN, none⟩) em ecap] 32)) = w2 at *
          go_wp2_with fail
          go_quiet ((go_at_call 22; exact quiet_left (needed_hi 5 (by omega) _)))
          go_wp2_with fail
          go_quiet (fail)
          go_wp2_with fail
          go_ret
          exact ⟨ret_bool (by rw [HE.out]; simp; rfl), below_drewN (below_drewN B2.out _) _⟩
  · have HE : Hid (holdsB l T p m d ⟨en, ec, ek, eA, em, ecap⟩ nx = false) := Lib.hid (by rw [HQ.out, HW.out]; simp; omega)
    have key : en < 0 ∨ (¬ en < 0 ∧ (n : Int) ≤ en) ∨ (¬ en < 0 ∧ ¬ (n : Int) ≤ en ∧ ek < 0) ∨ (¬ en < 0 ∧ ¬ (n : Int) ≤ en ∧ ¬ ek < 0 ∧ (n : Int) ≤ ek) := by omega
    clear hin HQ HW
    rcases key with k1 | ⟨k1, k2⟩ | ⟨k1, k2, k3⟩ | ⟨k1, k2, k3, k4⟩
    all_goals (
      go_enter Tryd.func19, Tryd.ntmps19
      go_upto_region 1 with fail
      generalize (((w.alloc (.cells #[.slice A1 n c1, .slice A2 k c2, .int .u64 (p : Int), .int .u64 (m : Int)] 26)).alloc (.cells #[.slice A3 n c3, .int .u64 (d : Int)] 29)).alloc (.cells #[.int .i64 en, .int .i64 ec, .int .i64 ek, .slice eA em ecap] 32)) = w2 at *
      go_wp2_with fail
      go_ret
      exact ⟨ret_bool HE.out.symm, B2.out⟩)
end
end Go.Proofs.YtecbdamimnllnaaDoor
