/- Contract: cost.Way. The table of math/bits lies. -/
import Derived.Test.YtonmkmghpiagjaaDoorCost6
namespace Go.Proofs.YtonmkmghpiagjaaDoor
open Go.RowKit Go.Sort Go.Lib

/-- How long a slice is. -/
def slK : Value → Nat
  | .slice _ n _ => n
  | _ => 0
theorem wayF_len (l : List Nat) (t : Nat → UInt64) : ∀ k s, (wayF l t k s).length ≤ k
  | 0, _ => by simp [wayF]
  | k + 1, s => by
    unfold wayF
    split
    · simp
    · have := wayF_len l t k (rowAt l (bestT t (nums s)))
      simp; omega
theorem pBelow_up {n : Nat} (hn : n ≤ 64) (w : World) : Calls Tryd.prog 79 #[.int .i64 (n : Int)] w fun e w' => e = .returned (.tuple #[.int .u64 (upTo n : Nat), .int .i64 0]) ∧ w = w' :=
  (pBelow_yes (n : Int) (by omega) (by omega) w).mono fun e w' h => by
    rw [Int.toNat_natCast] at h
    exact h
section
variable {A A2 : Option Addr} {n c m c2 : Nat} (l : List Nat) (d : List UInt64) (w : World) (h1 : Rd w A (l.map uv)) (hl : l.length = n) (hnb : n ≤ 9223372036854775807) (hb : Rows64 l) (h2 : Rd w A2 (d.map fv)) (hm : d.length = m) (hmb : m ≤ 9223372036854775807) (hT : Tab w)
include h1 hl hnb hb h2 hm hmb hT
theorem cWay_bad (he : costErr l d ≠ 0) :
    Calls Tryd.prog 33 #[.slice A n c, .slice A2 m c2] w fun e w' => e = .returned (.tuple #[.slice none 0 0, .int .i64 (costErr l d)]) ∧ Below w.heap.size w w' := by
  have HC := Lib.hid (cCheck_bad (c := c) (c2 := c2) l d w h1 hl hnb hb h2 hm hmb hT he)
  have hz := fault_ne he
  clear h1 hl hb h2 hm hT he
  go_enter Tryd.func33, Tryd.ntmps33
  go_wp2_with fail
  refine HC.out.mono ?_
  rintro e w1 ⟨rfl, hb1⟩
  go_wp2_with fail
  go_ret2
  exact ⟨rfl, hb1⟩
set_option maxHeartbeats 2000000 in
theorem cWay_good (he : costErr l d = 0) :
    Calls Tryd.prog 33 #[.slice A n c, .slice A2 m c2] w (SlErrPost 3 (wayT l (tAt d)).length ((wayT l (tAt d)).reverse.map nv) 0 w) := by
  have HC := Lib.hid (cCheck_good (c := c) (c2 := c2) l d w h1 hl hnb hb h2 hm hmb hT he)
  obtain ⟨hg, hdl, hd, hr, _⟩ := cost_ok hb he
  obtain rfl : m = n := by omega
  have hn : m ≤ 64 := by have := hg.1; omega
  have HD : Hid (∀ i, RT (tAt d i)) := Lib.hid hd
  have HTR : Hid (∀ i, RT (tmT l (tAt d) i)) := Lib.hid (tm_rt hd)
  have HTM := Lib.hid (fun (W : World) (A3 : Option Addr) (c3 : Nat) (hW : Below w.heap.size w W) (h3 : Rd W A3 ((ordL l).map nv)) => cTimes_any (c := c) (c2 := c2) (c3 := c3) l d W (h1.below hW) hl hg (h2.below hW) hm h3 hr hd (hT.below hW))
  have HWS : Hid (WayAt l (tmT l (tAt d)) [] (upTo m) m) := Lib.hid (by rw [← hl]; exact wayAt_start hg hr _)
  have HWT : Hid (∀ pre s p, WayAt l (tmT l (tAt d)) pre s p → s ≠ 0 → bestT (tmT l (tAt d)) (nums s) < m ∧ ∃ q, p = q + 1 ∧ WayAt l (tmT l (tAt d)) (pre ++ [bestT (tmT l (tAt d)) (nums s)]) (rowAt l (bestT (tmT l (tAt d)) (nums s))) q) := Lib.hid (fun pre s p h hs => by rw [← hl]; exact wayAt_step hg hr h hs)
  have HIN : Hid (∀ x, x ∈ ordL l → x < m) := Lib.hid (fun x hx => by rw [← hl]; exact (ord_mem hg hr x).1 hx)
  have HWL : Hid ((wayT l (tAt d)).length ≤ 64) := Lib.hid (Nat.le_trans (wayF_len _ _ _ _) hg.1)
  have H1 := Lib.hid h1
  have HL := Lib.hid hl
  have HG := Lib.hid hg
  have HT := Lib.hid hT
  clear h1 hl hb h2 hm hT he hg hdl hd hr
  go_enter Tryd.func33, Tryd.ntmps33
  go_wp2_with fail
  refine HC.out.mono ?_
  rintro e w1 ⟨A1, c1, rfl, hown1, hb1⟩
  have HR1 := Lib.hid (Rd.of_own hown1)
  have B1 := Lib.hid hb1
  clear hown1 hb1 HC
  go_wp2_with fail
  refine (HTM.out _ _ _ B1.out HR1.out).mono ?_
  rintro e w2 ⟨AT, cT, rfl, hown2, hb2⟩
  have HRT := Lib.hid (Rd.of_own hown2)
  have B2 := Lib.hid (below_then B1.out hb2)
  clear hown2 hb2 HTM HR1 B1
  go_wp2_with fail
  refine (pBelow_up (by omega) _).mono ?_
  rintro e w' ⟨rfl, rfl⟩
  have hcB : (w2.alloc (.cells #[.slice AT m cT] 55)).cell? ⟨w2.heap.size, 0, none⟩ = some (.slice AT m cT) := by
    rw [World.cell?_alloc_at _ _ _ _ rfl]
    rfl
  have HRT3 := Lib.hid (HRT.out.alloc (.cells #[.slice AT m cT] 55))
  have B3 := Lib.hid (below_new B2.out (.cells #[.slice AT m cT] 55))
  have SB : w2.heap.size < (w2.alloc (.cells #[.slice AT m cT] 55)).heap.size := by simp
  generalize w2.alloc (.cells #[.slice AT m cT] 55) = w3 at *
  generalize w2.heap.size = B at *
  have HCB := Lib.hid hcB
  clear hcB HRT B2
  clear w2
  go_wp2_with fail
  go_loopw [10, 13] (fun v sv wr => ∃ (pre : List Nat) (s p : Nat) (A3 : Option Addr) (c3 : Nat), v = .slice A3 pre.length c3 ∧ sv = .int .u64 (s : Nat) ∧ Hid (WayAt l (tmT l (tAt d)) pre s p) ∧ Hid (wr.ownsRow w3.heap.size 3 1 (.slice A3 pre.length c3) pre.length (pre.map nv)) ∧ Hid (Below w3.heap.size w3 wr)) (fun v _ _ => m - slK v)
  case atStart => exact ⟨[], upTo m, m, none, 0, rfl, rfl, HWS, Lib.hid (World.ownsRow_nil _ _ _ _), Lib.hid (Below.refl _ _)⟩
  case round =>
    clear HWS
    obtain ⟨pre, s, p, A3, c3, rfl, rfl, hwa, hown, hbw⟩ := hrel
    have hpl : pre.length + p = m := by rw [← HL.out]; exact hwa.out.len
    have hsb := hwa.out.b64
    have HSB := Lib.hid hsb
    by_cases hs : s = 0
    · subst hs
      have HEND := Lib.hid (wayAt_end hwa.out)
      have HPT : Hid (pre = wayT l (tAt d)) := Lib.hid (wayAt_end hwa.out)
      have HOW := hown
      have HBW := hbw
      clear hwa hown hbw hsb
      rcases Nat.eq_zero_or_pos pre.length with h0 | h0
      · have hp0 : pre = [] := List.eq_nil_of_length_eq_zero h0
        subst hp0
        go_wp2_with fail
        refine (Tryd.slices_Reverse_int_empty _ _ _).mono ?_
        rintro e w' ⟨rfl, rfl⟩
        go_wp2_with fail
        go_ret2
        exact ⟨A3, c3, by rw [← HPT.out]; rfl, by rw [← HPT.out]; exact own_base HOW.out B3.out.size, below_then B3.out HBW.out⟩
      · have hmap : pre.map nv = (pre.map (fun x : Nat => (x : Int))).map (Value.int .i64) := by rw [List.map_map]; rfl
        have hown' := HOW.out
        rw [hmap] at hown'
        obtain ⟨g, rfl, hg1, hg2, hH⟩ := own_holds hown' h0
        have hlen2 : (pre.map (fun x : Nat => (x : Int))).length = pre.length := by simp
        have HRV := Lib.hid (Tryd.slices_Reverse_int g 0 c3 (pre.map (fun x : Nat => (x : Int))) wr hH (by rw [hlen2]; omega))
        rw [hlen2] at HRV
        have hrl : (pre.map (fun x : Nat => (x : Int))).reverse.length = (pre.map (fun x : Nat => (x : Int))).length := by simp
        have HS := Lib.hid (fun q => own_sorted hown' hrl q #[])
        have HSB2 := Lib.hid (fun q => own_sorted_below hown' hrl HBW.out.size q #[])
        have HPW : Hid (∀ q, putRow (Value.int .i64) (Sort.ahead wr q) g 0 (pre.map (fun x : Nat => (x : Int))).reverse.toArray = sortWorld (Value.int .i64) wr g 0 q (pre.map (fun x : Nat => (x : Int))).reverse.toArray #[]) := Lib.hid (fun q => by unfold sortWorld; rw [grow_empty])
        have HRM : Hid ((pre.map (fun x : Nat => (x : Int))).reverse.map (Value.int .i64) = pre.reverse.map nv) := Lib.hid (by rw [← List.map_reverse, List.map_map]; rfl)
        clear hown' hH hrl hmap hlen2
        go_wp2_with fail
        refine HRV.out.mono ?_
        rintro e w5 ⟨rfl, q, rfl⟩
        rw [HPW.out]
        have HS1 := Lib.hid (HS.out q)
        have HS2 := Lib.hid (HSB2.out q)
        clear HS HSB2 HPW HRV
        generalize sortWorld (Value.int .i64) wr g 0 q (pre.map (fun x : Nat => (x : Int))).reverse.toArray #[] = w5 at HS1 HS2 ⊢
        go_wp2_with fail
        go_ret2
        refine ⟨some ⟨g, 0, none⟩, c3, by rw [← HPT.out]; rfl, ?_, below_then B3.out (HBW.out.trans HS2.out)⟩
        rw [← HPT.out, ← HRM.out]
        exact own_base HS1.out.1 B3.out.size
    · obtain ⟨hbm, q, hpq, hnx⟩ := HWT.out pre s p hwa.out hs
      have HNX := Lib.hid hnx
      have hlenS : 0 < (nums s).length := List.length_pos_iff.2 (nums_ne hsb hs)
      have hlenS2 := nums_len s
      have HSM : Hid (∀ x, x ∈ nums s → x < m) := Lib.hid (fun x hx => by
        obtain ⟨q', _, h2⟩ := hwa.out.inn x hx
        exact HIN.out x (List.mem_of_getElem? h2))
      have HTW := Lib.hid (HT.out.below (below_then B3.out hbw.out))
      have hsz : w3.heap.size ≤ wr.heap.size := hbw.out.size
      have HOW := hown
      have HBW := hbw
      have hs' : ((s : Int) != 0) = true := by simp; omega
      clear hwa hown hbw hnx hsb hs
      go_wp2_with fail
      refine (list_any s HSB.out _ HTW.out).mono ?_
      rintro e w4 ⟨A4, c4, rfl, hown4, hb4⟩
      have HLS := Lib.hid (Rd.of_own hown4)
      have B4 := Lib.hid (HBW.out.trans (hb4.mono hsz))
      have HO4 := Lib.hid (own_below HOW.out hb4)
      have HCL := Lib.hid (cLast_any (c := c4) (cT := cT) (tmT l (tAt d)) (nums s) w4 HLS.out ((B4.out.cell (p := ⟨B, 0, none⟩) SB).trans HCB.out) (Nat.lt_of_lt_of_le SB B4.out.size) (HRT3.out.below B4.out) rfl hlenS2 hlenS HSM.out)
      clear hown4 hb4 HTW HOW HBW
      go_wp2_with fail
      refine HCL.out.mono ?_
      rintro e w5 ⟨rfl, hb5⟩
      have hsz4 : w3.heap.size ≤ w4.heap.size := B4.out.size
      have B5 := Lib.hid (B4.out.trans (hb5.mono hsz4))
      have HO5 := Lib.hid (own_below HO4.out hb5)
      clear hb5 HCL HO4 HLS
      generalize bestT (tmT l (tAt d)) (nums s) = bst at *
      have hsz5 : w3.heap.size ≤ w5.heap.size := B5.out.size
      have hsub : IntKind.i64.wrap (((pre.length : Int) + 1) - 1) = (pre.length : Int) := by rw [IntKind.wrap_i64]; omega
      go_wp2_with (at_builtin; refine wpList_push elInt w5 _ _ w3.heap.size A3 pre.length c3 _ _ HO5.out rfl hsz5 (by omega) (by omega) rfl rfl rfl rfl ?_; intro A' c' w7 hown7 hb7; obtain ⟨b9, o9, rfl, y9⟩ := (Rd.of_own hown7).at_ (k := pre.length) (by simp); have y9' : w7.cell? ⟨b9, o9 + pre.length, none⟩ = some (.int .i64 (bst : Nat)) := (by rw [y9]; simp); have B7 := Lib.hid (B5.out.trans hb7); obtain ⟨b8, o8, rfl, y8⟩ := ((H1.out.below B3.out).below B7.out).set (k := bst) (by rw [HL.out]; exact hbm); have HO7 := Lib.hid hown7; clear hown7 hb7 y9)
      go_roundw
      case rel => exact ⟨pre ++ [bst], rowAt l bst, q, some ⟨b9, o9, none⟩, c', by simp, rfl, HNX, Lib.hid (by have := HO7.out; simpa [nv] using this), B7⟩
      case measure => simp [slK]; omega
end
end Go.Proofs.YtonmkmghpiagjaaDoor
