/- Contract: cost.times. The rows have an order, the times are right; the table of math/bits lies. -/
import Derived.Test.YtonmkmghpiagjaaDoorCost1
import Derived.Test.YtonmkmghpiagjaaDoorSpan3
import Derived.Test.YtonmkmghpiagjaaDoorReach4
namespace Go.Proofs.YtonmkmghpiagjaaDoor
open Go.RowKit

@[go_sem] theorem run_store_float (P : Program) (w : World) (a : Addr) (m : Mode) (k : FloatKind) (b : Nat) : (store a (.float k b) m).run P w = stored P w a (.float k b) m := run_store P w a _ m rfl
/-- A list's time at a place. -/
def tAt (d : List UInt64) (i : Nat) : UInt64 := d[i]?.getD 0
def ffv (f : Nat → UInt64) (n : Nat) : List Value := (List.range n).map (fun x => fv (f x))
theorem ffv_congr {f g : Nat → UInt64} {n : Nat} (h : ∀ x, x < n → f x = g x) : ffv f n = ffv g n := List.map_congr_left fun x hx => by rw [h x (List.mem_range.1 hx)]
theorem ffv_zero (n : Nat) : List.replicate n (Value.float .f64 0) = ffv (fun _ => 0) n := by
  apply List.ext_getElem?
  intro i
  unfold ffv
  rw [List.getElem?_map, List.getElem?_replicate]
  by_cases hi : i < n <;> simp [hi, fv]
theorem ffv_list (f : Nat → UInt64) (n : Nat) : ffv f n = ((List.range n).map f).map fv := by unfold ffv; rw [List.map_map]; rfl
theorem ffv_of (d : List UInt64) {n : Nat} (hn : d.length = n) : d.map fv = ffv (tAt d) n := by
  apply List.ext_getElem?
  intro i
  unfold ffv tAt
  rw [List.getElem?_map, List.getElem?_map]
  by_cases hi : i < n
  · have hid : i < d.length := by omega
    simp [hi, hid]
  · rw [List.getElem?_eq_none (by omega : d.length ≤ i)]
    simp [hi]
theorem ffv_set {w : World} {B g E n c q : Nat} {f : Nat → UInt64} {v : UInt64} (h : w.ownsRow B E 1 (.slice (some ⟨g, 0, none⟩) n c) n (ffv f n)) :
    (w.setCell ⟨g, q, none⟩ (.float .f64 v.toNat)).ownsRow B E 1 (.slice (some ⟨g, 0, none⟩) n c) n (ffv (fun x => if x = q then v else f x) n) ∧ w.grownBy (w.setCell ⟨g, q, none⟩ (.float .f64 v.toNat)) (some g) := by
  have h1 := h.stored q (.float .f64 v.toNat)
  refine ⟨?_, h1.2⟩
  have h2 := h1.1
  unfold ffv at h2 ⊢
  rw [show (Value.float .f64 v.toNat) = fv v from rfl, map_range_set] at h2
  have e : (fun c => if c = q then fv v else fv (f c)) = fun x => fv (if x = q then v else f x) := by
    funext x
    split <;> rfl
  rw [e] at h2
  exact h2
theorem ffv_cell {w : World} {B g E n c q : Nat} {f : Nat → UInt64} (h : w.ownsRow B E 1 (.slice (some ⟨g, 0, none⟩) n c) n (ffv f n)) (hq : q < n) :
    w.cell? ⟨g, q, none⟩ = some (.float .f64 (f q).toNat) := by
  have := h.cellAt q (by simpa [ffv] using hq)
  rw [this]
  simp [ffv, fv, hq]
theorem run_fmax {P : Program} {x y : UInt64} (hx : RT x) (hy : RT y) (ts : Array TypeId) (t : TypeId) (w : World) :
    (Builtin.max_ ts t #[.float .f64 x.toNat, .float .f64 y.toNat]).run P w = .ok (.float .f64 (bigT x y).toNat) w := by
  obtain ⟨o, h1, h2⟩ := order_rt hx hy
  have hneg : (FloatKind.f64.decode x.toNat).neg = false := by
    unfold FloatKind.decode
    rcases read_rt hx with ⟨m, i, h⟩ | h <;> rw [h] <;> rfl
  cases o with
  | lt => simp [Builtin.max_, Builtin.max2, h1, bigT, gtT, h2, Ordering.swap]
  | eq => simp [Builtin.max_, Builtin.max2, h1, bigT, gtT, h2, Ordering.swap, hneg]
  | gt => simp [Builtin.max_, Builtin.max2, h1, bigT, gtT, h2, Ordering.swap]
theorem tAt_cell {w : World} {A : Option Addr} {d : List UInt64} (h : Rd w A (d.map fv)) {k : Nat} (hk : k < d.length) : ∃ b off, A = some ⟨b, off, none⟩ ∧ w.cell? ⟨b, off + k, none⟩ = some (.float .f64 (tAt d k).toNat) := by
  obtain ⟨b, off, hA, hc⟩ := h.fcell (List.getElem?_eq_getElem hk)
  refine ⟨b, off, hA, ?_⟩
  rw [hc]
  unfold tAt
  rw [List.getElem?_eq_getElem hk]
  rfl

set_option maxHeartbeats 2000000 in
theorem cTimes_any {A A2 A3 : Option Addr} {n c c2 c3 : Nat} (l : List Nat) (d : List UInt64) (w : World) (h1 : Rd w A (l.map uv)) (hl : l.length = n) (hg : Good l) (h2 : Rd w A2 (d.map fv)) (hm : d.length = n) (h3 : Rd w A3 ((ordL l).map nv)) (hr : ordR l = 0) (hd : ∀ i, RT (tAt d i)) (hT : Tab w) :
    Calls Tryd.prog 76 #[.slice A n c, .slice A2 n c2, .slice A3 n c3] w (OwnPost 56 n (ffv (tmT l (tAt d)) n) w) := by
  have hn : n ≤ 64 := by have := hg.1; omega
  have H1 := Lib.hid h1
  have H2 := Lib.hid h2
  have H3 := Lib.hid h3
  have HL := Lib.hid hl
  have HM := Lib.hid hm
  have HG := Lib.hid hg
  have HR := Lib.hid hr
  have HD := Lib.hid hd
  have HT := Lib.hid hT
  have HFU : Hid ((ordL l).length = n) := Lib.hid (by rw [← hl]; exact (ord_full hg).2 hr)
  clear h1 h2 h3 hl hm hg hr hd hT
  go_enter Tryd.func76, Tryd.ntmps76
  go_wp2_with (at_make; refine wpList_new elF64 rfl w _ w.heap.size n .i64 (by omega) (by omega) (Nat.le_refl _) rfl rfl rfl ?_)
  intro w0 hown0 hb0 hlt0
  rw [ffv_zero n, ffv_congr (g := tmO l (tAt d) 0) (fun x _ => (tmO_start l (tAt d) x).symm)] at hown0
  have HO0 := Lib.hid hown0
  have HB0 := Lib.hid hb0
  have HLT0 := Lib.hid hlt0
  clear hown0 hb0 hlt0
  go_wp2
  go_loopw [9, 10, 12, 18, 28] (fun _ _ _ x _ wr => ∃ t : Nat, t ≤ n ∧ x = .int .i64 (t : Int) ∧ Hid (w.heap.size < wr.heap.size) ∧ Hid (wr.ownsRow w.heap.size 56 1 (.slice (some ⟨w.heap.size, 0, none⟩) n n) n (ffv (tmO l (tAt d) t) n)) ∧ Hid (Below w.heap.size w wr)) (fun _ _ _ x _ _ => n - (intOf x).toNat)
  case atStart => exact ⟨0, by omega, rfl, HLT0, HO0, HB0⟩
  case round =>
    clear HLT0 HO0 HB0
    obtain ⟨t, ht, rfl, hlt, hown, hbw⟩ := hrel
    by_cases htn : t < n
    · obtain ⟨bO, oO, rfl, xO⟩ := (H3.out.below hbw.out).at_ (k := t) (by simpa using (by rw [HFU.out]; exact htn))
      have htl : t < (ordL l).length := by rw [HFU.out]; exact htn
      have hc' : wr.cell? ⟨bO, oO + t, none⟩ = some (.int .i64 ((ordL l)[t]?.getD 0 : Nat)) := by rw [xO]; simp [nv, htl]
      have hie : (ordL l)[t]? = some ((ordL l)[t]?.getD 0) := by simp [htl]
      clear xO htl
      generalize (ordL l)[t]?.getD 0 = i at *
      have HIE := Lib.hid hie
      have hil : i < l.length := (ord_mem HG.out HR.out i).1 (List.mem_of_getElem? hie)
      have hin : i < n := by rw [← HL.out]; exact hil
      have HXB := Lib.hid (HG.out.b64 i)
      obtain ⟨b1, o1, rfl, x1⟩ := (H1.out.below hbw.out).set hil
      have HTW := Lib.hid (HT.out.below hbw.out)
      have hsz := hbw.out.size
      have HOW := hown
      have HLT := hlt
      have HBW := hbw
      clear hie hil hown hlt hbw
      go_wp2_with fail
      refine (list_any _ HXB.out _ HTW.out).mono ?_
      rintro e w2 ⟨A4, c4, rfl, hown3, hb3⟩
      have hlen := nums_len (rowAt l i)
      have HR3 := Lib.hid (Rd.of_own hown3)
      have HO2 := Lib.hid (own_below HOW.out hb3)
      have HBE := Lib.hid (HBW.out.trans (hb3.mono hsz))
      have HSZ : Hid (w.heap.size < w2.heap.size) := Lib.hid (Nat.lt_of_lt_of_le HLT.out hb3.size)
      clear hown3 hb3 HOW hc' x1 HTW HLT HBW
      go_wp2_with fail
      go_loop [10, 12, 28] (fun b _ x => ∃ k : Nat, k ≤ (nums (rowAt l i)).length ∧ x = .int .i64 (k : Int) ∧ b = .float .f64 (beginT (tmO l (tAt d) t) ((nums (rowAt l i)).take k)).toNat) (fun _ _ x => (nums (rowAt l i)).length - (intOf x).toNat)
      case atStart => exact ⟨0, by omega, rfl, rfl⟩
      case round =>
        obtain ⟨k, hk, rfl, rfl⟩ := hrel
        by_cases hkl : k < (nums (rowAt l i)).length
        · obtain ⟨b2, o2, rfl, hc⟩ := HR3.out.at_ (k := k) (by simpa using hkl)
          have hc' : w2.cell? ⟨b2, o2 + k, none⟩ = some (.int .i64 ((nums (rowAt l i))[k]?.getD 0 : Nat)) := by rw [hc]; simp [nv, hkl]
          have hqm : (nums (rowAt l i))[k]?.getD 0 ∈ nums (rowAt l i) := by simp [hkl]
          have HTK := Lib.hid (take_snoc (nums (rowAt l i)) 0 k hkl)
          clear hc
          generalize (nums (rowAt l i))[k]?.getD 0 = q at *
          have hqn : q < n := by rw [← HL.out]; exact HG.out.2 i q ((mem_nums HXB.out).1 hqm)
          have hcq := ffv_cell HO2.out hqn
          have hmx := run_fmax (P := Tryd.prog) (beginT_rt (f := tmO l (tAt d) t) (L := (nums (rowAt l i)).take k) fun j _ => tmO_rt HD.out t j) (tmO_rt (l := l) HD.out t q)
          have HSN := Lib.hid (beginT_snoc (tmO l (tAt d) t) ((nums (rowAt l i)).take k) q)
          clear hqm
          go_wp2_with fail
          go_round
          case rel => exact ⟨k + 1, by omega, by go_num, by rw [HTK.out, HSN.out]⟩
          case measure => simp [intOf]; omega
        · obtain rfl : k = (nums (rowAt l i)).length := by omega
          rw [List.take_of_length_le (Nat.le_refl _)]
          obtain ⟨bD, oD, rfl, xD⟩ := (tAt_cell (H2.out.below HBE.out) (k := i) (by rw [HM.out]; exact hin))
          have hB := beginT_rt (f := tmO l (tAt d) t) (L := nums (rowAt l i)) fun j _ => tmO_rt HD.out t j
          have hadd := run_fadd_some (P := Tryd.prog) 56 (addT_is hB (HD.out i)).1
          have HSTEP := Lib.hid (tmO_step HG.out HR.out (tAt d) HIE.out)
          have hcq := ffv_cell HO2.out hin
          have hfq := HO2.out.frozenAt i
          have HV := Lib.hid (ffv_set (q := i) (v := addT (beginT (tmO l (tAt d) t) (nums (rowAt l i))) (tAt d i)) HO2.out)
          have HBS := Lib.hid (HBE.out.setCell (p := ⟨w.heap.size, i, none⟩) (Nat.le_refl _) (.float .f64 (addT (beginT (tmO l (tAt d) t) (nums (rowAt l i))) (tAt d i)).toNat))
          generalize tmO l (tAt d) t i = u0 at hcq
          clear hB
          go_wp2_with fail
          go_roundw
          case rel => exact ⟨t + 1, by omega, by go_num, Lib.hid (by simpa [World.setCell] using HSZ.out), Lib.hid (by rw [← ffv_congr (fun x _ => HSTEP.out x)]; exact HV.out.1), HBS⟩
          case measure => simp [intOf]; omega
    · obtain rfl : t = n := by omega
      have hst := hown.out
      rw [ffv_congr (g := tmT l (tAt d)) (fun x hx => tmO_end HG.out HR.out (tAt d) (by rw [HL.out]; exact hx) (by rw [HFU.out]; exact Nat.le_refl _))] at hst
      have HST := Lib.hid hst
      clear hst hown
      go_wp2_with fail
      go_ret
      exact ⟨_, _, rfl, HST.out, hbw.out⟩
end Go.Proofs.YtonmkmghpiagjaaDoor
