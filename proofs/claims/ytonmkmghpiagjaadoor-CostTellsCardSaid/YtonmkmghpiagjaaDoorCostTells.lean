/- The law CostTells: its walk: for every list of rows and every list of times it returns true and leaves what was there. Conditions: rows below 2^64, a length below 2^63; the table of math/bits lies. -/
import Derived.BigQuiet
import Derived.Deep.QuietTactic
import Derived.Test.YtonmkmghpiagjaaDoorCost4
import Derived.Test.YtonmkmghpiagjaaDoorCost5
import Derived.Test.YtonmkmghpiagjaaDoorCost7
import Derived.Test.YtonmkmghpiagjaaDoorCost8
import Derived.Test.YtonmkmghpiagjaaDoorSpan4
import Derived.Test.YtonmkmghpiagjaaDoorGood
import Derived.Test.YtonmkmghpiagjaaDoorEqNv
namespace Go.Proofs.YtonmkmghpiagjaaDoor
open Go.RowKit

section
variable {A A2 : Option Addr} {n c m c2 : Nat} (l : List Nat) (d : List UInt64) (w : World) (h1 : Rd w A (l.map uv)) (hl : l.length = n) (hnb : n ≤ 9223372036854775807) (hb : Rows64 l) (h2 : Rd w A2 (d.map fv)) (hm : d.length = m) (hmb : m ≤ 9223372036854775807) (hT : Tab w)
include h1 hl hnb hb h2 hm hmb hT
set_option maxRecDepth 100000 in
set_option maxHeartbeats 2000000 in
theorem costTells_bad (he : costErr l d ≠ 0) :
    Calls Tryd.prog 6 #[.slice A n c, .slice A2 m c2] w fun e w' => e = .returned (.bool true) ∧ Below w.heap.size w w' := by
  have C1 := Lib.hid (fun W (hW : Below w.heap.size w W) => cTimesX_bad (c := c) (c2 := c2) l d W (h1.below hW) hl hnb hb (h2.below hW) hm hmb (hT.below hW) he)
  have C2 := Lib.hid (fun W (hW : Below w.heap.size w W) => cWay_bad (c := c) (c2 := c2) l d W (h1.below hW) hl hnb hb (h2.below hW) hm hmb (hT.below hW) he)
  have C3 := Lib.hid (fun W (hW : Below w.heap.size w W) => cLoad_bad (c := c) (c2 := c2) l d W (h1.below hW) hl hnb hb (h2.below hW) hm hmb (hT.below hW) he)
  have C4 := Lib.hid (fun W (hW : Below w.heap.size w W) => rCostFault_any (c := c) (c2 := c2) l d W (h1.below hW) hl hnb hb (h2.below hW) hm hmb)
  have C5 := Lib.hid (fun W (hW : Below w.heap.size w W) => cCheckE (c := c) (c2 := c2) l d W (h1.below hW) hl hnb hb (h2.below hW) hm hmb (hT.below hW))
  have hz := fault_ne he
  clear h1 hl hb h2 hm hT he
  generalize costErr l d = x at *
  go_enter Tryd.func6, Tryd.ntmps6
  go_wp2_with fail
  refine (C1.out w (Below.refl _ _)).mono ?_
  rintro e w1 ⟨rfl, hb1⟩
  have B1 := Lib.hid hb1
  go_wp2_with fail
  refine (C2.out _ B1.out).mono ?_
  rintro e w2 ⟨rfl, hb2⟩
  have B2 := Lib.hid (below_then B1.out hb2)
  go_wp2_with fail
  refine (C3.out _ B2.out).mono ?_
  rintro e w3 ⟨rfl, hb3⟩
  have B3 := Lib.hid (below_then B2.out hb3)
  go_wp2_with fail
  refine (C4.out _ B3.out).mono ?_
  rintro e w4 ⟨rfl, hb4⟩
  have B4 := Lib.hid (below_then B3.out hb4)
  go_wp2_with fail
  refine (C5.out _ B4.out).mono ?_
  rintro e w5 ⟨rfl, hb5⟩
  have B5 := Lib.hid (below_then B4.out hb5)
  clear hb1 hb2 hb3 hb4 hb5
  go_wp2_with fail
  refine (sameBits_nat _ _ _).mono ?_
  rintro e w' ⟨rfl, rfl⟩
  rw [decide_eq_true (rfl : (0 : Nat) = 0)]
  go_wp2_with fail
  refine (sameBits_nat _ _ _).mono ?_
  rintro e w' ⟨rfl, rfl⟩
  rw [decide_eq_true (rfl : (0 : Nat) = 0)]
  go_wp2_with fail
  go_ret
  exact ⟨rfl, B5.out⟩
end
theorem nv_one (l : List Nat) : ∀ u ∈ l.map nv, u.oneCell' = true := by
  intro u hu
  obtain ⟨x, _, rfl⟩ := List.mem_map.1 hu
  rfl
theorem dec_self (a : Nat) : decide (a = a) = true := decide_eq_true rfl
/-- The best so far: -1, if none was looked at. -/
def bstI (t : Nat → UInt64) (L : List Nat) (k : Nat) : Int := if k = 0 then -1 else (bestF t (L[0]?.getD 0) (L.take k) : Nat)
theorem most_cell {w : World} {A : Option Addr} {T : List UInt64} {n : Nat} (hn : T.length = n) (h0 : 0 < n) (h : Rd w A ((tsort T).map fv)) : ∃ b o, A = some ⟨b, o, none⟩ ∧ w.cell? ⟨b, o + (n - 1), none⟩ = some (.float .f64 (mostT T).toNat) := by
  have hl : n - 1 < (tsort T).length := by rw [tsort_len]; omega
  obtain ⟨b, o, hA, hc⟩ := h.fcell (List.getElem?_eq_getElem hl)
  refine ⟨b, o, hA, ?_⟩
  rw [hc]
  unfold mostT
  rw [List.getLast?_eq_getElem?, tsort_len, hn, List.getElem?_eq_getElem hl]
  rfl
section
variable {A A2 : Option Addr} {n c m c2 : Nat} (l : List Nat) (d : List UInt64) (w : World) (h1 : Rd w A (l.map uv)) (hl : l.length = n) (hnb : n ≤ 9223372036854775807) (hb : Rows64 l) (h2 : Rd w A2 (d.map fv)) (hm : d.length = m) (hmb : m ≤ 9223372036854775807) (hT : Tab w)
include h1 hl hnb hb h2 hm hmb hT
set_option maxRecDepth 100000 in
set_option maxHeartbeats 20000000 in
theorem costTells_good (he : costErr l d = 0) :
    Calls Tryd.prog 6 #[.slice A n c, .slice A2 m c2] w fun e w' => e = .returned (.bool true) ∧ Below w.heap.size w w' := by
  obtain ⟨hg, hdl, hd, hr, _⟩ := cost_ok hb he
  obtain rfl : m = n := by omega
  have hn64 : m ≤ 64 := by have := hg.1; omega
  have C1 := Lib.hid (fun W (hW : Below w.heap.size w W) => cTimesX_good (c := c) (c2 := c2) l d W (h1.below hW) hl hnb hb (h2.below hW) hm hmb (hT.below hW) he)
  have C2 := Lib.hid (fun W (hW : Below w.heap.size w W) => cWay_good (c := c) (c2 := c2) l d W (h1.below hW) hl hnb hb (h2.below hW) hm hmb (hT.below hW) he)
  have C3 := Lib.hid (fun W (hW : Below w.heap.size w W) => cLoad_good (c := c) (c2 := c2) l d W (h1.below hW) hl hnb hb (h2.below hW) hm hmb (hT.below hW) he)
  have C4 := Lib.hid (fun W (hW : Below w.heap.size w W) => rCostFault_any (c := c) (c2 := c2) l d W (h1.below hW) hl hnb hb (h2.below hW) hm hmb)
  have C5 := Lib.hid (fun W (hW : Below w.heap.size w W) => cCheckE (c := c) (c2 := c2) l d W (h1.below hW) hl hnb hb (h2.below hW) hm hmb (hT.below hW))
  have C6 := Lib.hid (fun W (hW : Below w.heap.size w W) => rDoneTimes_any (c := c) (c2 := c2) l d W (h1.below hW) hl hg (h2.below hW) hm hr hd)
  have C7 := Lib.hid (fun W (hW : Below w.heap.size w W) => rTimeSum_any (c := c2) d W (h2.below hW) hm hmb)
  rw [he] at C4 C5
  have HTR : Hid (∀ i, RT (tmT l (tAt d) i)) := Lib.hid (tm_rt hd)
  have HWS : Hid (WayAt l (tmT l (tAt d)) [] (upTo m) m) := Lib.hid (by rw [← hl]; exact wayAt_start hg hr _)
  have HWT : Hid (∀ pre s p, WayAt l (tmT l (tAt d)) pre s p → s ≠ 0 → bestT (tmT l (tAt d)) (nums s) < m ∧ ∃ q, p = q + 1 ∧ WayAt l (tmT l (tAt d)) (pre ++ [bestT (tmT l (tAt d)) (nums s)]) (rowAt l (bestT (tmT l (tAt d)) (nums s))) q) := Lib.hid (fun pre s p h hs => by rw [← hl]; exact wayAt_step hg hr h hs)
  have HIN : Hid (∀ x, x ∈ ordL l → x < m) := Lib.hid (fun x hx => by rw [← hl]; exact (ord_mem hg hr x).1 hx)
  have HWL : Hid ((wayT l (tAt d)).length ≤ 64) := Lib.hid (Nat.le_trans (wayF_len _ _ _ _) hg.1)
  have HTL := Lib.hid (tmL_len l d m)
  have HTSL : Hid ((tsort (tmL l d m)).length = m) := Lib.hid (by rw [tsort_len, tmL_len])
  have H1 := Lib.hid h1
  have HL := Lib.hid hl
  have HM0 : Hid (m = 0 → (mostT (tmL l d m)).toNat = 0) := Lib.hid (fun h => by subst h; simp [tmL, mostT, tsort])
  clear h1 hl hb h2 hm hT he hg hdl hd hr
  go_enter Tryd.func6, Tryd.ntmps6
  go_wp2_with fail
  refine (C1.out w (Below.refl _ _)).mono ?_
  rintro e w1 ⟨A1, c1, rfl, hown1, hb1⟩
  have HT1 := Lib.hid (Rd.of_own hown1)
  have B1 := Lib.hid hb1
  clear hown1 hb1
  go_wp2_with fail
  refine (C2.out _ B1.out).mono ?_
  rintro e w2 ⟨AW, cW, rfl, hown2, hb2⟩
  have HW2 := Lib.hid (Rd.of_own hown2)
  have HT2 := Lib.hid (HT1.out.below hb2)
  have B2 := Lib.hid (below_then B1.out hb2)
  clear hown2 hb2 HT1
  go_wp2_with fail
  refine (C3.out _ B2.out).mono ?_
  rintro e w3 ⟨rfl, hb3⟩
  have HW3 := Lib.hid (HW2.out.below hb3)
  have HT3 := Lib.hid (HT2.out.below hb3)
  have B3 := Lib.hid (below_then B2.out hb3)
  clear hb3 HW2 HT2
  go_wp2_with fail
  refine (C4.out _ B3.out).mono ?_
  rintro e w4 ⟨rfl, hb4⟩
  have HW4 := Lib.hid (HW3.out.below hb4)
  have HT4 := Lib.hid (HT3.out.below hb4)
  have B4 := Lib.hid (below_then B3.out hb4)
  clear hb4 HW3 HT3
  go_wp2_with fail
  refine (C5.out _ B4.out).mono ?_
  rintro e w5 ⟨rfl, hb5⟩
  have HW5 := Lib.hid (HW4.out.below hb5)
  have HT5 := Lib.hid (HT4.out.below hb5)
  have B5 := Lib.hid (below_then B4.out hb5)
  clear hb5 HW4 HT4 B1 B2 B3 B4
  by_cases hbig : 30 < m
  · have hbig' : (30 : Int) < (m : Int) := by omega
    go_wp2_with fail
    go_ret
    exact ⟨rfl, B5.out⟩
  · go_wp2_with fail
    refine (C6.out _ B5.out).mono ?_
    rintro e w6 ⟨A6, c6, rfl, hown6, hb6⟩
    rw [tmL_ffv] at hown6
    have HQ6 := Lib.hid (Rd.of_own hown6)
    have HW6 := Lib.hid (HW5.out.below hb6)
    have HT6 := Lib.hid (HT5.out.below hb6)
    have B6 := Lib.hid (below_then B5.out hb6)
    clear hown6 hb6 HW5 HT5
    go_wp2_with fail
    refine (rTimesSorted_any (tmL l d m) _ HQ6.out HTL.out (by omega)).mono ?_
    rintro e w7 ⟨A7, c7, rfl, hown7, hb7⟩
    have HS7 := Lib.hid (Rd.of_own hown7)
    have HW7 := Lib.hid (HW6.out.below hb7)
    have HT7 := Lib.hid (HT6.out.below hb7)
    have HQ7 := Lib.hid (HQ6.out.below hb7)
    have B7 := Lib.hid (below_then B6.out hb7)
    clear hown7 hb7 HW6 HT6 HQ6 B5 B6
    have HGE := Lib.hid (fun (W : World) => allOk_any (c := 3) [0, 0, 0] (W.alloc (.cells #[.int .i64 0, .int .i64 0, .int .i64 0] 25)) (rd_lit W _ #[.int .i64 0, .int .i64 0, .int .i64 0] _ ([0, 0, 0].map (.int .i64)) rfl rfl) rfl (by decide))
    rcases Nat.eq_zero_or_pos m with h0 | h0
    · have hz0 := HM0.out h0
      have H0 := Lib.hid h0
      have HZ := Lib.hid hz0
      have hgt : ¬ (0 : Int) < (m : Int) := by omega
      clear hz0 h0
      generalize (mostT (tmL l d m)).toNat = Y at *
      go_wp2_with fail
      refine (HGE.out _).mono ?_
      rintro e w8 ⟨rfl, hb8⟩
      have B8 := Lib.hid (below_then (below_new B7.out _) hb8)
      have HW8 := Lib.hid ((HW7.out.alloc _).below hb8)
      have HT8 := Lib.hid ((HT7.out.alloc _).below hb8)
      have HQ8 := Lib.hid ((HQ7.out.alloc _).below hb8)
      clear hb8 HW7 HT7 HQ7
      rw [show ([0, 0, 0] : List Int).any (fun x => x != 0) = false from rfl]
      go_wp2_with fail
      refine (sameTimes_self (tmL l d m) _ HT8.out HQ8.out HTL.out hnb).mono ?_
      rintro e w9 ⟨rfl, hb9⟩
      have B9 := Lib.hid (below_then B8.out hb9)
      have HW9 := Lib.hid (HW8.out.below hb9)
      clear hb9 HW8 HT8 HQ8
      go_wp2_with fail
      refine (sameBits_nat _ _ _).mono ?_
      rintro e w' ⟨rfl, rfl⟩
      rw [decide_eq_true HZ.out]
      go_wp2_with fail
      refine (C7.out _ B9.out).mono ?_
      rintro e w10 ⟨rfl, hb10⟩
      have B10 := Lib.hid (below_then B9.out hb10)
      have HW10 := Lib.hid (HW9.out.below hb10)
      clear hb10 HW9
      go_wp2_with fail
      refine (sameBits_nat _ _ _).mono ?_
      rintro e w' ⟨rfl, rfl⟩
      rw [dec_self]
      go_wp2_with fail
      refine (rUpTo_any m (by omega) _).mono ?_
      rintro e w' ⟨rfl, rfl⟩
      have HPT0 : Hid ([] = wayT l (tAt d)) := Lib.hid (by
        have h := HWS.out
        have hu : upTo m = 0 := by rw [H0.out]; rfl
        rw [hu] at h
        exact wayAt_end h)
      have HU0 : Hid (upTo m = 0) := Lib.hid (by rw [H0.out]; rfl)
      rw [HU0.out]
      clear C1 C2 C3 C4 C5 C6 C7 B7 B8 B9 HS7 HGE HM0 H1
      go_wp2_with fail
      go_loopw [16, 17, 18, 20, 137] (fun v sv _ _ _ wr => v = .slice none 0 0 ∧ sv = .int .u64 0 ∧ Hid (Below w10.heap.size w10 wr)) (fun _ _ _ _ _ _ => 0)
      case atStart => exact ⟨rfl, rfl, Lib.hid (Below.refl _ _)⟩
      case round =>
        obtain ⟨rfl, rfl, hbw⟩ := hrel
        have HWR := Lib.hid (HW10.out.below hbw.out)
        have BW := Lib.hid (below_then B10.out hbw.out)
        have hwl := HWL.out
        rw [← HPT0.out] at HWR
        rw [← HPT0.out]
        clear hbw
        go_wp2_with fail
        refine (slEq_nv [] [] HWR.out (Rd.nil_ _ _) rfl rfl (by simp) (by simp)).mono ?_
        rintro e w11 ⟨rfl, hb11⟩
        rw [decide_eq_true (rfl : ([] : List Nat) = [])]
        have B11 := Lib.hid (below_then BW.out hb11)
        clear hb11
        go_wp2_with fail
        go_ret
        exact ⟨rfl, B11.out⟩
    · obtain ⟨b9, o9, rfl, y9⟩ := most_cell HTL.out h0 HS7.out
      have hsub : IntKind.i64.wrap ((m : Int) - 1) = ((m - 1 : Nat) : Int) := by rw [IntKind.wrap_i64]; omega
      have hgt : (0 : Int) < (m : Int) := by omega
      go_wp2_with fail
      refine (HGE.out _).mono ?_
      rintro e w8 ⟨rfl, hb8⟩
      have B8 := Lib.hid (below_then (below_new B7.out _) hb8)
      have HW8 := Lib.hid ((HW7.out.alloc _).below hb8)
      have HT8 := Lib.hid ((HT7.out.alloc _).below hb8)
      have HQ8 := Lib.hid ((HQ7.out.alloc _).below hb8)
      clear hb8 HW7 HT7 HQ7 y9 h0
      rw [show ([0, 0, 0] : List Int).any (fun x => x != 0) = false from rfl]
      generalize (mostT (tmL l d m)).toNat = Y at *
      go_wp2_with fail
      refine (sameTimes_self (tmL l d m) _ HT8.out HQ8.out HTL.out hnb).mono ?_
      rintro e w9 ⟨rfl, hb9⟩
      have B9 := Lib.hid (below_then B8.out hb9)
      have HW9 := Lib.hid (HW8.out.below hb9)
      have HQ9 := Lib.hid (HQ8.out.below hb9)
      clear hb9 HW8 HT8 HQ8
      go_wp2_with fail
      refine (sameBits_nat _ _ _).mono ?_
      rintro e w' ⟨rfl, rfl⟩
      rw [dec_self]
      go_wp2_with fail
      refine (C7.out _ B9.out).mono ?_
      rintro e w10 ⟨rfl, hb10⟩
      have B10 := Lib.hid (below_then B9.out hb10)
      have HW10 := Lib.hid (HW9.out.below hb10)
      have HQ10 := Lib.hid (HQ9.out.below hb10)
      clear hb10 HW9 HQ9
      go_wp2_with fail
      refine (sameBits_nat _ _ _).mono ?_
      rintro e w' ⟨rfl, rfl⟩
      rw [dec_self]
      go_wp2_with fail
      refine (rUpTo_any m (by omega) _).mono ?_
      rintro e w' ⟨rfl, rfl⟩
      have H10 := Lib.hid (H1.out.below B10.out)
      clear C1 C2 C3 C4 C5 C6 C7 B7 B8 B9 HS7 HGE HM0 H1
      go_wp2_with fail
      go_loopw [16, 17, 18, 20, 137] (fun v sv _ _ _ wr => ∃ (pre : List Nat) (s p : Nat) (A3 : Option Addr) (c3 : Nat), v = .slice A3 pre.length c3 ∧ sv = .int .u64 (s : Nat) ∧ Hid (WayAt l (tmT l (tAt d)) pre s p) ∧ Hid (wr.ownsRow w10.heap.size 3 1 (.slice A3 pre.length c3) pre.length (pre.reverse.map nv)) ∧ Hid (Below w10.heap.size w10 wr)) (fun v _ _ _ _ _ => m - slK v)
      case atStart => exact ⟨[], upTo m, m, none, 0, rfl, rfl, HWS, Lib.hid (World.ownsRow_nil _ _ _ _), Lib.hid (Below.refl _ _)⟩
      case round =>
        clear HWS
        obtain ⟨pre, s, p, A3, c3, rfl, rfl, hwa, hown, hbw⟩ := hrel
        have hpl : pre.length + p = m := by rw [← HL.out]; exact hwa.out.len
        have hsb := hwa.out.b64
        have HSB := Lib.hid hsb
        by_cases hs : s = 0
        · subst hs
          have HPT : Hid (pre = wayT l (tAt d)) := Lib.hid (wayAt_end hwa.out)
          have HWR := Lib.hid (HW10.out.below hbw.out)
          have HRO := Lib.hid (Rd.of_own hown.out)
          have BW := Lib.hid (below_then B10.out hbw.out)
          have hwl := HWL.out
          rw [HPT.out] at HRO
          rw [HPT.out]
          clear hwa hown hbw hsb
          go_wp2_with fail
          refine (slEq_nv (wayT l (tAt d)).reverse (wayT l (tAt d)).reverse HWR.out HRO.out (by simp) (by simp) (by omega) (by omega)).mono ?_
          rintro e w11 ⟨rfl, hb11⟩
          rw [decide_eq_true (rfl : (wayT l (tAt d)).reverse = (wayT l (tAt d)).reverse)]
          have B11 := Lib.hid (below_then BW.out hb11)
          clear hb11
          go_wp2_with fail
          go_ret
          exact ⟨rfl, B11.out⟩
        · obtain ⟨hbm, q, hpq, hnx⟩ := HWT.out pre s p hwa.out hs
          have HNX := Lib.hid hnx
          have hlenS : 0 < (nums s).length := List.length_pos_iff.2 (nums_ne hsb hs)
          have hlenS2 := nums_len s
          have HSM : Hid (∀ x, x ∈ nums s → x < m) := Lib.hid (fun x hx => by
            obtain ⟨q', _, h2⟩ := hwa.out.inn x hx
            exact HIN.out x (List.mem_of_getElem? h2))
          have hsz : w10.heap.size ≤ wr.heap.size := hbw.out.size
          have HOW := hown
          have HBW := hbw
          have HT10 := Lib.hid (HQ10.out.below hbw.out)
          have hs' : ((s : Int) != 0) = true := by simp; omega
          clear hwa hown hbw hnx hsb hs
          go_wp2_with fail
          refine (rNumbers_any s HSB.out _).mono ?_
          rintro e w4 ⟨A4, c4, rfl, hown4, hb4⟩
          have HLS := Lib.hid (Rd.of_own hown4)
          have B4 := Lib.hid (HBW.out.trans (hb4.mono hsz))
          have HO4 := Lib.hid (own_below HOW.out hb4)
          have HT4 := Lib.hid (HT10.out.below hb4)
          clear hown4 hb4 HOW HBW HT10
          go_wp2_with fail
          go_loopw [18, 20, 137] (fun b _ i wq => ∃ k : Nat, k ≤ (nums s).length ∧ i = .int .i64 (k : Int) ∧ b = .int .i64 (bstI (tmT l (tAt d)) (nums s) k) ∧ Hid (Below w4.heap.size w4 wq)) (fun _ _ i _ => (nums s).length - (intOf i).toNat)
          case atStart => exact ⟨0, by omega, rfl, rfl, Lib.hid (Below.refl _ _)⟩
          case round =>
            obtain ⟨k, hk, rfl, rfl, hbq⟩ := hrel
            by_cases hkl : k < (nums s).length
            · obtain ⟨b2, o2, rfl, hc⟩ := (HLS.out.below hbq.out).at_ (k := k) (by simpa using hkl)
              have hc' : wr.cell? ⟨b2, o2 + k, none⟩ = some (.int .i64 ((nums s)[k]?.getD 0 : Nat)) := by rw [hc]; simp [nv, hkl]
              have hqm : (nums s)[k]?.getD 0 ∈ nums s := by simp [hkl]
              have HTK := Lib.hid (take_snoc (nums s) 0 k hkl)
              have HBD := Lib.hid (fun q => below_drewN hbq.out q)
              clear hc
              rcases Nat.eq_zero_or_pos k with hk0 | hk0
              · subst hk0
                rw [Nat.add_zero] at hc'
                have HB0 : Hid (bstI (tmT l (tAt d)) (nums s) 0 = -1) := Lib.hid rfl
                have HB1 : Hid (bstI (tmT l (tAt d)) (nums s) 1 = ((nums s)[0]?.getD 0 : Nat)) := Lib.hid (by
                  unfold bstI
                  rw [if_neg (by omega)]
                  have := HTK.out
                  rw [Nat.zero_add, List.take_zero, List.nil_append] at this
                  rw [this, best_one HTR.out])
                rw [HB0.out]
                generalize (nums s)[0]?.getD 0 = z at *
                clear hqm hbq
                go_wp2_with fail
                go_quiet (fail)
                go_wp2_with fail
                go_roundw
                case rel => exact ⟨1, by omega, by go_num, by rw [HB1.out], Lib.hid (HBD.out _)⟩
                case measure => simp [intOf]; omega
              · have hbI : bstI (tmT l (tAt d)) (nums s) k = (bestF (tmT l (tAt d)) ((nums s)[0]?.getD 0) ((nums s).take k) : Nat) := by unfold bstI; rw [if_neg (by omega)]
                have HBN : Hid (bstI (tmT l (tAt d)) (nums s) (k + 1) = ((if gtT (tmT l (tAt d) ((nums s)[k]?.getD 0)) (tmT l (tAt d) (bestF (tmT l (tAt d)) ((nums s)[0]?.getD 0) ((nums s).take k))) then (nums s)[k]?.getD 0 else bestF (tmT l (tAt d)) ((nums s)[0]?.getD 0) ((nums s).take k) : Nat) : Int)) := Lib.hid (by
                  unfold bstI
                  rw [if_neg (by omega), HTK.out, bestF_snoc])
                have hpm : bestF (tmT l (tAt d)) ((nums s)[0]?.getD 0) ((nums s).take k) < m := by
                  rcases bestF_mem (tmT l (tAt d)) ((nums s).take k) ((nums s)[0]?.getD 0) with e | e
                  · rw [e]; exact HSM.out _ (by simp [hlenS])
                  · exact HSM.out _ (List.mem_of_mem_take e)
                rw [hbI]
                have hzm : (nums s)[k]?.getD 0 < m := HSM.out _ hqm
                clear hbI hqm
                generalize bestF (tmT l (tAt d)) ((nums s)[0]?.getD 0) ((nums s).take k) = p0 at *
                generalize (nums s)[k]?.getD 0 = z at *
                have hfl : ∀ x, x < m → (tmL l d m)[x]? = some (tmT l (tAt d) x) := fun x hx => by simp [tmL, hx]
                obtain ⟨b3, o3, rfl, y1⟩ := (HT4.out.below hbq.out).fcell (hfl z hzm)
                obtain ⟨b4, o4, hA4, y2⟩ := (HT4.out.below hbq.out).fcell (hfl p0 hpm)
                injection hA4 with hA4
                injection hA4 with hA41 hA42 _
                subst hA41 hA42
                clear hfl hbq
                have hd0 : decide ((p0 : Int) < 0) = false := by rw [decide_eq_false_iff_not]; omega
                cases hgt2 : gtT (tmT l (tAt d) z) (tmT l (tAt d) p0) with
                | true =>
                  have hg' : (FloatKind.f64.format.order (tmT l (tAt d) z).toNat (tmT l (tAt d) p0).toNat == some .gt) = true := hgt2
                  rw [hgt2, if_pos rfl] at HBN
                  clear hgt2
                  generalize (tmT l (tAt d) z).toNat = U at *
                  generalize (tmT l (tAt d) p0).toNat = V at *
                  go_wp2_with fail
                  go_quiet (fail)
                  go_wp2_with fail
                  go_roundw
                  case rel => exact ⟨k + 1, by omega, by go_num, by rw [HBN.out], Lib.hid (HBD.out _)⟩
                  case measure => simp [intOf]; omega
                | false =>
                  have hg' : (FloatKind.f64.format.order (tmT l (tAt d) z).toNat (tmT l (tAt d) p0).toNat == some .gt) = false := hgt2
                  rw [hgt2, if_neg (by simp)] at HBN
                  clear hgt2
                  generalize (tmT l (tAt d) z).toNat = U at *
                  generalize (tmT l (tAt d) p0).toNat = V at *
                  go_wp2_with fail
                  go_quiet (fail)
                  go_wp2_with fail
                  go_roundw
                  case rel => exact ⟨k + 1, by omega, by go_num, by rw [HBN.out], Lib.hid (HBD.out _)⟩
                  case measure => simp [intOf]; omega
            · obtain rfl : k = (nums s).length := by omega
              have HBI : Hid (bstI (tmT l (tAt d)) (nums s) (nums s).length = (bestT (tmT l (tAt d)) (nums s) : Nat)) := Lib.hid (by
                unfold bstI bestT
                rw [if_neg (by omega), List.take_of_length_le (Nat.le_refl _)])
              rw [HBI.out]
              have hsz4 : w10.heap.size ≤ w4.heap.size := B4.out.size
              have B5 := Lib.hid (B4.out.trans (hbq.out.mono hsz4))
              have HO5 := Lib.hid (Rd.of_own (own_below HO4.out hbq.out))
              clear hbq HBI HO4
              generalize bestT (tmT l (tAt d)) (nums s) = bst at *
              have hszr : w10.heap.size ≤ wr.heap.size := B5.out.size
              have HLT := Lib.hid (World.ownsRow_lit (base := w10.heap.size) (e := 3) (size := 1) wr #[.int .i64 (bst : Nat)] 1 hszr (by unfold maxLen; decide) rfl)
              have HB6 := Lib.hid (B5.out.alloc hszr (.cells #[.int .i64 (bst : Nat)] 3))
              have hsz6 : w10.heap.size ≤ (wr.alloc (.cells #[.int .i64 (bst : Nat)] 3)).heap.size := HB6.out.size
              have hpl2 : pre.length ≤ 64 := by omega
              go_wp2_with (at_builtin; refine wpList_cat elInt _ _ _ w10.heap.size _ 1 1 [.int .i64 (bst : Nat)] A3 pre.length c3 (pre.reverse.map nv) HLT.out (HO5.out.alloc _) (by simp) (nv_one _) hsz6 (by omega) (by omega) rfl rfl rfl rfl ?_; intro A' c' w7 hown7 hb7; obtain ⟨b9, o9, rfl, y9⟩ := (Rd.of_own hown7).at_ (k := 0) (by simp); have y9' : w7.cell? ⟨b9, o9, none⟩ = some (.int .i64 (bst : Nat)) := (by rw [Nat.add_zero] at y9; rw [y9]; simp); have B7 := Lib.hid (HB6.out.trans hb7); obtain ⟨b8, o8, rfl, y8⟩ := (H10.out.below B7.out).set (k := bst) (by rw [HL.out]; exact hbm); have HO7 := Lib.hid hown7; clear hown7 hb7 y9)
              go_roundw
              case rel =>
                refine ⟨pre ++ [bst], _, q, some ⟨b9, o9, none⟩, c', by simp [Nat.add_comm], rfl, HNX, Lib.hid ?_, B7⟩
                have := HO7.out
                rw [show 1 + pre.length = (pre ++ [bst]).length by simp [Nat.add_comm]] at this
                rw [show ((pre ++ [bst]).reverse.map nv) = [Value.int .i64 (bst : Nat)] ++ pre.reverse.map nv by simp [nv]]
                exact this
              case measure => simp [slK]; omega
end
theorem costTells_walk (A : Option Addr) (c : Nat) (l : List Nat) (A2 : Option Addr) (c2 : Nat) (d : List UInt64) (w : World) (h1 : Rd w A (l.map uv)) (hnb : l.length ≤ 9223372036854775807) (hb0 : ∀ x ∈ l, B64 x)
    (h2 : Rd w A2 (d.map fv)) (hb2 : d.length * 8 ≤ 140737488351232) (hT : Tab w) :
    Calls Tryd.prog 6 #[.slice A l.length c, .slice A2 d.length c2] w fun e w' => e = .returned (.bool true) ∧ Below w.heap.size w w' := by
  by_cases he : costErr l d = 0
  · exact costTells_good l d w h1 rfl hnb (rowAt_all hb0) h2 rfl (by omega) hT he
  · exact costTells_bad l d w h1 rfl hnb (rowAt_all hb0) h2 rfl (by omega) hT he
end Go.Proofs.YtonmkmghpiagjaaDoor
