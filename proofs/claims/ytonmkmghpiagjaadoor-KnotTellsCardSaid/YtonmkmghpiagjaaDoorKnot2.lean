/- Contract: the walk of package knot. Rows are good; the table of math/bits lies. -/
import Derived.Test.YtonmkmghpiagjaaDoorKnotW
import Derived.BigRegion
import Derived.BigQuiet
import Derived.Deep.QuietTactic
namespace Go.Proofs.YtonmkmghpiagjaaDoor
open Go.RowKit

set_option maxHeartbeats 1000000 in
set_option maxRecDepth 4000 in
theorem walk_any {A : Option Addr} {n c : Nat} (l : List Nat) (W0 : World) (B BW bM bL : Nat) (hR : Rd W0 A (l.map uv)) (hl : l.length = n) (hg : Good l) (hT : Tab W0) (hBB : B = W0.heap.size) :
    ∀ (f i : Nat) (t : Tj) (P : Nat → Prop) (U : List Nat) (S O : Option Addr) (w : World), TjInv l t P → i < n → t.m i = 0 → (∀ x, P x → Pt l x i) → (∀ j, j < l.length → t.m j = 0 → j ∈ U) → U.length ≤ f → t.out.length ≤ t.now →
      KW W0 w B BW bM bL A n c t S O →
      Calls Tryd.prog 129 #[.pointer (some ⟨BW, 0, none⟩), .int .i64 (i : Nat)] w (WalkEnd W0 w B BW bM bL A n c S O (visit l f i t)) := by
  have hn : n ≤ 64 := by have := hg.1; omega
  subst hBB
  have H1 := Lib.hid hR
  have HL := Lib.hid hl
  have HG := Lib.hid hg
  have HT := Lib.hid hT
  clear hR hl hg hT
  intro f
  induction f with
  | zero =>
    intro i t P U S O w hinv hi h0 hP hU hUl
    have := hU i (by rw [HL.out]; exact hi) h0
    rw [List.eq_nil_of_length_eq_zero (Nat.le_zero.1 hUl)] at this
    cases this
  | succ f ih =>
    intro i t P U S O w hinv hi h0 hP hU hUl hod hk
    have IH := Lib.hid ih
    have HI := Lib.hid hinv
    have H0 := Lib.hid h0
    have HP := Lib.hid hP
    have HU := Lib.hid hU
    have HUL := Lib.hid hUl
    have HOD := Lib.hid hod
    obtain ⟨cS, cO, hk⟩ := hk
    obtain ⟨bR, oR, rfl, _⟩ := H1.out.set (k := i) (by rw [HL.out]; exact hi)
    have HK := Lib.hid hk
    have hnow : t.now ≤ 64 := by have := HI.out.now_le; have := HL.out; omega
    have hstk : t.stk.length ≤ 64 := by have := HI.out.stk_le; have := HL.out; omega
    have hout : t.out.length ≤ 64 := by omega
    have HON : Hid (B64 t.on) := Lib.hid (B64.of_bits fun j hj => by have := HI.out.stk_lt ((HI.out.onb j).1 hj); have := HL.out; omega)
    have x5 : w.cell? ⟨BW, 5, none⟩ = some (.int .i64 (t.now : Nat)) := hk.box.cell rfl
    have z5 := hk.box.free 5
    have HK1 : Hid (KR W0 (w.setCell ⟨BW, 5, none⟩ (.int .i64 ((t.now : Int) + 1))) W0.heap.size BW bM bL (boxV bM bL (some ⟨bR, oR, none⟩) n c S t.stk.length cS t.on (t.now + 1) O t.out.length cO) n (t.met.map nv) (t.low.map nv) S t.stk.length cS (t.stk.map nv) O t.out.length cO (t.out.map uv)) := Lib.hid (HK.out.setBox 5 _)
    have HF1 : Hid (KF BW bM bL w (w.setCell ⟨BW, 5, none⟩ (.int .i64 ((t.now : Int) + 1))) S O S O) := Lib.hid (KF.setBox 5 _)
    clear ih hinv h0 hP hU hUl hod hk
    go_enter Tryd.func129, Tryd.ntmps129
    go_wp2_with fail
    clear x5 z5
    generalize w.setCell ⟨BW, 5, none⟩ (.int .i64 ((t.now : Int) + 1)) = w1 at HK1 HF1 ⊢
    have y1 : w1.cell? ⟨BW, 1, none⟩ = some (.slice (some ⟨bM, 0, none⟩) n n) := HK1.out.box.cell rfl
    have y2 : w1.cell? ⟨BW, 2, none⟩ = some (.slice (some ⟨bL, 0, none⟩) n n) := HK1.out.box.cell rfl
    have y5 : w1.cell? ⟨BW, 5, none⟩ = some (.int .i64 (t.now + 1 : Nat)) := HK1.out.box.cell rfl
    have u1 := HK1.out.metCell hi
    have f1 := HK1.out.met.frozenAt i
    have HM1 := Lib.hid (HK1.out.met_set i (t.now + 1) (x := (t.now : Int) + 1) rfl)
    have u2 := HM1.out.lowCell hi
    have f2 := HM1.out.low.frozenAt i
    have HL1 := Lib.hid (HM1.out.low_set i (t.now + 1) (x := (t.now : Int) + 1) rfl).drew
    have HF2 := Lib.hid ((HF1.out.trans ((KF.setMet i (.int .i64 ((t.now : Int) + 1))).trans (KF.setLow i (.int .i64 ((t.now : Int) + 1))))).drew)
    go_region
    generalize ((w1.setCell ⟨bM, i, none⟩ (.int .i64 ((t.now : Int) + 1))).setCell ⟨bL, i, none⟩ (.int .i64 ((t.now : Int) + 1))).drew = w2 at HL1 HF2 ⊢
    clear y1 y2 y5 u1 u2 f1 f2 HM1 HK1 HF1 HK
    have y3 : w2.cell? ⟨BW, 3, none⟩ = some (.slice S t.stk.length cS) := HL1.out.box.cell rfl
    have hsz2 := HL1.out.bel.size
    go_wp2_with (at_builtin; refine wpList_pushAt elInt w2 _ _ W0.heap.size S t.stk.length cS _ (nv i) HL1.out.stk rfl hsz2 (by omega) (by omega) rfl rfl rfl rfl ?_; intro S1 cS1 w3 hown3 hg3 hat3; have HK3 := Lib.hid ((HL1.out.alloc _).pushS_nv hown3 hg3 hat3); have HF3 := Lib.hid ((HF2.out.alloc _).trans (KF.pushS hg3 hat3)); have y3' : w3.cell? ⟨BW, 3, none⟩ = some (.slice S t.stk.length cS) := HK3.out.box.cell rfl; have f3 := HK3.out.box.free 3; clear hown3 hg3 hat3)
    have HK4 : Hid (KR W0 (w3.setCell ⟨BW, 3, none⟩ (.slice S1 (t.stk.length + 1) cS1)) W0.heap.size BW bM bL (boxV bM bL (some ⟨bR, oR, none⟩) n c S1 (t.stk.length + 1) cS1 t.on (t.now + 1) O t.out.length cO) n ((t.met.set i (t.now + 1)).map nv) ((t.low.set i (t.now + 1)).map nv) S1 (t.stk.length + 1) cS1 ((t.stk ++ [i]).map nv) O t.out.length cO (t.out.map uv)) := Lib.hid (HK3.out.setBox 3 _)
    have HF4 := Lib.hid (HF3.out.trans (KF.setBox 3 (.slice S1 (t.stk.length + 1) cS1)))
    generalize w3.setCell ⟨BW, 3, none⟩ (.slice S1 (t.stk.length + 1) cS1) = w4 at HK4 HF4 ⊢
    clear y3 y3' f3 HK3 HF3 HL1 HF2 hsz2
    have y4 : w4.cell? ⟨BW, 4, none⟩ = some (.int .u64 (t.on : Nat)) := HK4.out.box.cell rfl
    have f4 := HK4.out.box.free 4
    have e2 := or_raw t.on i HON.out (by omega)
    go_region
    have HKE : Hid (KW W0 (w4.setCell ⟨BW, 4, none⟩ (.int .u64 (addN t.on i : Nat))).drew W0.heap.size BW bM bL (some ⟨bR, oR, none⟩) n c (enterT t i) S1 O) := Lib.hid ⟨cS1, cO, (by
      rw [show (enterT t i).stk.length = t.stk.length + 1 from (by simp [enterT])]
      exact (HK4.out.setBox 4 _).drew)⟩
    have HFE := Lib.hid ((HF4.out.trans (KF.setBox 4 (.int .u64 (addN t.on i : Nat)))).drew)
    have HLP : Hid (Lp l t P i [] (enterT t i) []) := Lib.hid (enter_lp HI.out (by rw [HL.out]; exact hi) H0.out HP.out)
    generalize (w4.setCell ⟨BW, 4, none⟩ (.int .u64 (addN t.on i : Nat))).drew = w5 at HKE HFE ⊢
    clear y4 f4 e2 HK4 HF4
    obtain ⟨cS5, cO5, hk5⟩ := HKE.out
    have HK5 := Lib.hid hk5
    have y0 : w5.cell? ⟨BW, 0, none⟩ = some (.slice (some ⟨bR, oR, none⟩) n c) := hk5.box.cell rfl
    obtain ⟨b', o', he, xr⟩ := (H1.out.below hk5.bel).set (k := i) (by rw [HL.out]; exact hi)
    cases he
    clear hk5
    go_wp2_with fail
    refine (list_any _ (HG.out.b64 i) _ (HT.out.below HK5.out.bel)).mono ?_
    rintro e w6 ⟨A6, c6, rfl, hown6, hb6⟩
    have HO6 := Lib.hid hown6
    have HB6 := Lib.hid hb6
    have HED : Hid (∀ k ∈ nums (rowAt l i), Ed l i k ∧ k < n) := Lib.hid (fun k hk => (by
      have h1 := (mem_nums (HG.out.b64 i)).1 hk
      exact ⟨h1, by rw [← HL.out]; exact HG.out.2 i k h1⟩))
    have HNE : Hid (∀ g, ob A6 = some g → g ≠ BW ∧ g ≠ bM ∧ g ≠ bL ∧ ob S1 ≠ some g ∧ ob O ≠ some g) := Lib.hid (fun g hg => (by
      have h1 := (own_ob HO6.out hg).1
      obtain ⟨l1, l2, l3, l4, l5⟩ := HK5.out.lts
      exact ⟨by omega, by omega, by omega, fun e => by have := l4 g e; omega, fun e => by have := l5 g e; omega⟩))
    have HK6 : Hid (KW W0 w6 W0.heap.size BW bM bL (some ⟨bR, oR, none⟩) n c (enterT t i) S1 O) := Lib.hid ⟨cS5, cO5, HK5.out.below hb6⟩
    have HF6 := Lib.hid (HFE.out.trans (KF.below (BW := BW) (bM := bM) (bL := bL) (S := S1) (O := O) hb6))
    have hklen : (nums (rowAt l i)).length ≤ 64 := nums_len _
    clear hown6 hb6 y0 xr HK5 HKE HFE
    generalize hks : nums (rowAt l i) = ks at HO6 HED hklen ⊢
    have HKS := Lib.hid hks
    clear hks
    go_wp2_with fail
    go_loopw [5, 64] (fun _ x wr => ∃ (q : Nat) (u : Tj) (seg : List Nat) (S2 O2 : Option Addr), x = .int .i64 (q : Int) ∧ q ≤ ks.length ∧ Hid (Lp l t P i (ks.take q) u seg) ∧ Hid (u = (ks.take q).foldl (kidT (visit l f) i) (enterT t i)) ∧ Hid (KW W0 wr W0.heap.size BW bM bL (some ⟨bR, oR, none⟩) n c u S2 O2) ∧ Hid (KF BW bM bL w6 wr S1 O S2 O2)) (fun _ x _ => ks.length - (intOf x).toNat)
    case atStart => exact ⟨0, _, _, _, _, rfl, Nat.zero_le _, HLP, Lib.hid rfl, HK6, Lib.hid (KF.refl _ _ _ _ _ _)⟩
    case round =>
      obtain ⟨q, u, seg, S2, O2, rfl, hq, HLQ, HUQ, HKQ, HFQ⟩ := hrel
      have hi' : i < l.length := by rw [HL.out]; exact hi
      obtain ⟨cS2, cO2, hkr⟩ := HKQ.out
      have HKR := Lib.hid hkr
      clear hkr HKQ HK6
      by_cases hlt : q < ks.length
      · obtain ⟨k, hkq⟩ : ∃ k, ks[q]? = some k := ⟨ks[q], List.getElem?_eq_getElem hlt⟩
        have hkm : k ∈ ks := List.mem_of_getElem? hkq
        have HEK := Lib.hid (HED.out k hkm).1
        have hkn : k < n := (HED.out k hkm).2
        have HKQ := Lib.hid hkq
        obtain ⟨bK, oK, rfl, xk⟩ := (Rd.of_own (own_kf HO6.out HFQ.out HNE.out)).at_ (k := q) (by simpa using hlt)
        have xk' : wr.cell? ⟨bK, oK + q, none⟩ = some (.int .i64 (k : Nat)) := by
          rw [xk, List.getElem_map]
          rw [List.getElem?_eq_getElem hlt] at hkq
          injection hkq with hkq
          rw [hkq]
          rfl
        have y1 : wr.cell? ⟨BW, 1, none⟩ = some (.slice (some ⟨bM, 0, none⟩) n n) := HKR.out.box.cell rfl
        have u1 : wr.cell? ⟨bM, k, none⟩ = some (.int .i64 (u.m k : Nat)) := HKR.out.metCell hkn
        clear hkq hkm xk
        by_cases hk0 : u.m k = 0
        · have HK0 : Hid (u.m k = 0) := Lib.hid hk0
          have u1' : wr.cell? ⟨bM, k, none⟩ = some (.int .i64 0) := by rw [u1, hk0]; rfl
          have HARG := Lib.hid (kid_args hi' H0.out HP.out HU.out HUL.out HLQ.out HEK.out)
          have HV := Lib.hid (visit_vis HG.out f u _ k (U.erase i) HLQ.out.inv (by rw [HL.out]; exact hkn) HK0.out HARG.out.1 HARG.out.2.1 HARG.out.2.2)
          have HOU : Hid (u.out.length ≤ u.now) := Lib.hid (by have := HLQ.out.od; have := HOD.out; omega)
          clear u1 hk0
          go_wp2_with fail
          refine (IH.out k u _ (U.erase i) S2 O2 wr HLQ.out.inv hkn HK0.out HARG.out.1 HARG.out.2.1 HARG.out.2.2 HOU.out ⟨cS2, cO2, HKR.out⟩).mono ?_
          rintro e w7 ⟨rfl, S3, O3, hk7, hf7⟩
          obtain ⟨cS3, cO3, hk7⟩ := hk7
          obtain ⟨seg', hv⟩ := HV.out
          have HNK := Lib.hid (kid_new HI.out hi' HLQ.out HK0.out HEK.out hv)
          have HF7 := Lib.hid (HFQ.out.trans hf7)
          have HFO := Lib.hid (foldl_kid HKQ.out HUQ.out)
          rw [kidT_new HK0.out] at HFO
          have HK7 := Lib.hid hk7
          clear hv hk7 hf7 HV HARG HOU u1' y1
          generalize visit l f k u = u7 at HNK HFO HK7 ⊢
          have y2 : w7.cell? ⟨BW, 2, none⟩ = some (.slice (some ⟨bL, 0, none⟩) n n) := HK7.out.box.cell rfl
          have u2 : w7.cell? ⟨bL, i, none⟩ = some (.int .i64 (u7.l i : Nat)) := HK7.out.lowCell hi
          have u3 : w7.cell? ⟨bL, k, none⟩ = some (.int .i64 (u7.l k : Nat)) := HK7.out.lowCell hkn
          have f2 := HK7.out.low.frozenAt i
          have HK8 := Lib.hid (HK7.out.low_set i (min (u7.l i) (u7.l k)) (min_raw (u7.l i) (u7.l k))).drew
          have HF8 := Lib.hid ((HF7.out.trans (KF.setLow i (.int .i64 (min (u7.l i : Int) (u7.l k : Int))))).drew)
          go_wp2_with fail
          go_region
          generalize (w7.setCell ⟨bL, i, none⟩ (.int .i64 (min (u7.l i : Int) (u7.l k : Int)))).drew = w8 at HK8 HF8 ⊢
          have HKW : Hid (KW W0 w8 W0.heap.size BW bM bL (some ⟨bR, oR, none⟩) n c (lowT u7 i (u7.l k)) S3 O3) := Lib.hid ⟨cS3, cO3, HK8.out⟩
          clear y2 u2 u3 f2 HK7
          go_wp2_with fail
          refine ⟨⟨q + 1, lowT u7 i (u7.l k), seg ++ seg', S3, O3, val_succ q, hlt, Lib.hid (by rw [take_kid HKQ.out]; exact HNK.out), HFO, HKW, HF8⟩, meas_lt hlt⟩
        · have HK0 : Hid (u.m k ≠ 0) := Lib.hid hk0
          have hk0' : (((u.m k : Nat) : Int) == 0) = false := by simp only [beq_eq_false_iff_ne]; omega
          have y4 : wr.cell? ⟨BW, 4, none⟩ = some (.int .u64 (u.on : Nat)) := HKR.out.box.cell rfl
          have HUB : Hid (B64 u.on) := Lib.hid (B64.of_bits fun j hj => by have := HLQ.out.inv.stk_lt ((HLQ.out.inv.onb j).1 hj); have := HL.out; omega)
          have e3 := bit1_raw u.on k HUB.out
          clear hk0
          have HON2 := Lib.hid (fun (h : u.on.testBit k = false) => (fun hc => (by have h2 := (HLQ.out.inv.onb k).2 hc; rw [h] at h2; cases h2) : k ∉ u.stk))
          have HON1 := Lib.hid (fun (h : u.on.testBit k = true) => (HLQ.out.inv.onb k).1 h)
          cases hon : u.on.testBit k with
          | true =>
            rw [hon] at e3
            have HN := Lib.hid hon
            have HX := Lib.hid (HON1.out hon)
            have y2 : wr.cell? ⟨BW, 2, none⟩ = some (.slice (some ⟨bL, 0, none⟩) n n) := HKR.out.box.cell rfl
            have u2 : wr.cell? ⟨bL, i, none⟩ = some (.int .i64 (u.l i : Nat)) := HKR.out.lowCell hi
            have f2 := HKR.out.low.frozenAt i
            have HK8 := Lib.hid (HKR.out.low_set i (min (u.l i) (u.m k)) (min_raw (u.l i) (u.m k))).drew
            have HF8 := Lib.hid ((HFQ.out.trans (KF.setLow i (.int .i64 (min (u.l i : Int) (u.m k : Int))))).drew)
            have HNK := Lib.hid (kid_on HI.out hi' HLQ.out HK0.out HX.out HEK.out)
            have HFO := Lib.hid (foldl_kid HKQ.out HUQ.out)
            rw [kidT_on HK0.out HN.out] at HFO
            clear hon HON1 HON2
            go_wp2_with fail
            go_region
            generalize (wr.setCell ⟨bL, i, none⟩ (.int .i64 (min (u.l i : Int) (u.m k : Int)))).drew = w8 at HK8 HF8 ⊢
            have HKW : Hid (KW W0 w8 W0.heap.size BW bM bL (some ⟨bR, oR, none⟩) n c (lowT u i (u.m k)) S2 O2) := Lib.hid ⟨cS2, cO2, HK8.out⟩
            clear y2 u2 f2 y1 u1 y4 e3 hk0' HKR
            go_wp2_with fail
            refine ⟨⟨q + 1, lowT u i (u.m k), seg, S2, O2, val_succ q, hlt, Lib.hid (by rw [take_kid HKQ.out]; exact HNK.out), HFO, HKW, HF8⟩, meas_lt hlt⟩
          | false =>
            rw [hon] at e3
            have HN := Lib.hid hon
            have HX := Lib.hid (HON2.out hon)
            clear hon HON1 HON2
            go_wp2_with fail
            refine ⟨⟨q + 1, u, seg, S2, O2, val_succ q, hlt, Lib.hid (by rw [take_kid HKQ.out]; exact kid_off HLQ.out HK0.out HX.out), Lib.hid (by have h := foldl_kid HKQ.out HUQ.out; rw [kidT_off HK0.out HN.out] at h; exact h), Lib.hid ⟨cS2, cO2, HKR.out⟩, HFQ⟩, meas_lt hlt⟩
      · obtain rfl : q = ks.length := by omega
        rw [List.take_length] at HLQ HUQ
        have HVIS : Hid (visit l (f + 1) i t = leaveT i u) := Lib.hid (by
          show leaveT i ((nums (rowAt l i)).foldl (kidT (visit l f) i) (enterT t i)) = _
          rw [HKS.out, ← HUQ.out])
        have y1 : wr.cell? ⟨BW, 1, none⟩ = some (.slice (some ⟨bM, 0, none⟩) n n) := HKR.out.box.cell rfl
        have y2 : wr.cell? ⟨BW, 2, none⟩ = some (.slice (some ⟨bL, 0, none⟩) n n) := HKR.out.box.cell rfl
        have u1 : wr.cell? ⟨bM, i, none⟩ = some (.int .i64 (u.m i : Nat)) := HKR.out.metCell hi
        have u2 : wr.cell? ⟨bL, i, none⟩ = some (.int .i64 (u.l i : Nat)) := HKR.out.lowCell hi
        by_cases hlm : u.l i = u.m i
        · have HLM := Lib.hid hlm
          have hlm' : (((u.l i : Nat) : Int) != ((u.m i : Nat) : Int)) = false := by rw [hlm]; simp
          have HLV : Hid (leaveT i u = { u with stk := u.stk.take (u.stk.idxOf i), on := minus u.on (cutT i u), out := u.out ++ [cutT i u] }) := Lib.hid (by unfold leaveT; rw [if_pos hlm])
          have HST := Lib.hid HLQ.out.stk
          have HIS : Hid (i ∈ u.stk) := Lib.hid (by rw [HST.out]; simp)
          have husl : u.stk.length ≤ 64 := by have := HLQ.out.inv.stk_le; have := HL.out; omega
          have HPOS : Hid (0 < u.stk.length) := Lib.hid (List.length_pos_of_mem HIS.out)
          obtain ⟨gS, rfl, hcap⟩ := some_slice HKR.out.stk HPOS.out
          have HAT : Hid (u.stk.idxOf i < u.stk.length) := Lib.hid (List.idxOf_lt_length_iff.2 HIS.out)
          have H64 : Hid (∀ x ∈ u.stk.drop (u.stk.idxOf i), x < 64) := Lib.hid (fun x hx => by have := HLQ.out.inv.stk_lt (List.mem_of_mem_drop hx); have := HL.out; omega)
          have HUB : Hid (B64 u.on) := Lib.hid (B64.of_bits fun j hj => by have := HLQ.out.inv.stk_lt ((HLQ.out.inv.onb j).1 hj); have := HL.out; omega)
          have HCB : Hid (B64 (cutT i u)) := Lib.hid (B64.of_bits fun j hj => H64.out j ((setL_bit _ j).1 hj))
          have hout2 : u.out.length ≤ 64 := by have := HLQ.out.od; have := HOD.out; have := HLQ.out.inv.now_le; have := HL.out; omega
          clear hlm
          go_wp2_with fail
          go_quiet (fail)
          have HKq := Lib.hid (HKR.out.drawN nq)
          have HFq := Lib.hid ((HF6.out.trans HFQ.out).draw nq)
          clear y1 y2 u1 u2 HKR HFQ
          generalize wr.drewN nq = wq at HKq HFq ⊢
          have y3 : wq.cell? ⟨BW, 3, none⟩ = some (.slice (some ⟨gS, 0, none⟩) u.stk.length cS2) := HKq.out.box.cell rfl
          have HATD := Lib.hid (rd_drop (Rd.of_own HKq.out.stk) (u.stk.idxOf i))
          rw [Nat.zero_add] at HATD
          have z3 := HKq.out.box.free 3
          go_wp2_with fail
          refine (index_any u.stk i _ (Rd.of_own HKq.out.stk) rfl (by omega) HIS.out).mono ?_
          rintro e w8 ⟨rfl, rfl⟩
          have hat : u.stk.idxOf i < u.stk.length := HAT.out
          have HCUT : Hid (cutT i u = setL (u.stk.drop (u.stk.idxOf i))) := Lib.hid rfl
          have HK1 : Hid (KR W0 (wq.setCell ⟨BW, 3, none⟩ (.slice (some ⟨gS, 0, none⟩) (u.stk.idxOf i) cS2)) W0.heap.size BW bM bL (boxV bM bL (some ⟨bR, oR, none⟩) n c (some ⟨gS, 0, none⟩) (u.stk.idxOf i) cS2 u.on u.now O2 u.out.length cO2) n (u.met.map nv) (u.low.map nv) (some ⟨gS, 0, none⟩) (u.stk.idxOf i) cS2 ((u.stk.take (u.stk.idxOf i)).map nv) O2 u.out.length cO2 (u.out.map uv)) := Lib.hid (by
            rw [List.map_take]
            exact ((HKq.out.cutS (Nat.le_of_lt hat) (by simp)).setBox 3 _))
          have HF1 := Lib.hid (HFq.out.trans (KF.setBox 3 (.slice (some ⟨gS, 0, none⟩) (u.stk.idxOf i) cS2)))
          have HLB : Hid (setL (u.stk.drop (u.stk.idxOf i)) = cutT i u) := Lib.hid rfl
          go_wp2_with fail
          refine (ofL_any (u.stk.drop (u.stk.idxOf i)) _ HATD.out (by rw [List.length_drop]) (by omega) H64.out).mono ?_
          rintro e w8 ⟨rfl, rfl⟩
          rw [HLB.out]
          generalize hcu : cutT i u = cu at *
          have e5 := minus_raw u.on cu HUB.out HCB.out
          generalize u.stk.idxOf i = at_ at *
          have y4 : (wq.setCell ⟨BW, 3, none⟩ (.slice (some ⟨gS, 0, none⟩) at_ cS2)).cell? ⟨BW, 4, none⟩ = some (.int .u64 (u.on : Nat)) := HK1.out.box.cell rfl
          have z4 := HK1.out.box.free 4
          have HK2 : Hid (KR W0 ((wq.setCell ⟨BW, 3, none⟩ (.slice (some ⟨gS, 0, none⟩) at_ cS2)).setCell ⟨BW, 4, none⟩ (.int .u64 (minus u.on cu : Nat))) W0.heap.size BW bM bL (boxV bM bL (some ⟨bR, oR, none⟩) n c (some ⟨gS, 0, none⟩) at_ cS2 (minus u.on cu) u.now O2 u.out.length cO2) n (u.met.map nv) (u.low.map nv) (some ⟨gS, 0, none⟩) at_ cS2 ((u.stk.take at_).map nv) O2 u.out.length cO2 (u.out.map uv)) := Lib.hid (HK1.out.setBox 4 _)
          have HF2 := Lib.hid (HF1.out.trans (KF.setBox 4 (.int .u64 (minus u.on cu : Nat))))
          have y6 : ((wq.setCell ⟨BW, 3, none⟩ (.slice (some ⟨gS, 0, none⟩) at_ cS2)).setCell ⟨BW, 4, none⟩ (.int .u64 (minus u.on cu : Nat))).cell? ⟨BW, 6, none⟩ = some (.slice O2 u.out.length cO2) := HK2.out.box.cell rfl
          have hsz2 := HK2.out.bel.size
          have HSZ : Hid (((wq.setCell ⟨BW, 3, none⟩ (.slice (some ⟨gS, 0, none⟩) at_ cS2)).setCell ⟨BW, 4, none⟩ (.int .u64 (minus u.on cu : Nat))).heap.size = wq.heap.size) := Lib.hid (by simp)
          go_wp2_with (at_builtin; refine wpList_pushAt elU64 _ _ _ W0.heap.size O2 u.out.length cO2 _ (uv cu) HK2.out.out rfl hsz2 (by omega) (by omega) rfl rfl rfl (by rw [HSZ.out]; rfl) ?_; intro O3 cO3 w9 hown9 hg9 hat9; have HK9 := Lib.hid ((HK2.out.alloc _).pushO_uv hown9 hg9 hat9); have HF9 := Lib.hid ((HF2.out.alloc _).trans (KF.pushO hg9 hat9)); have y6' : w9.cell? ⟨BW, 6, none⟩ = some (.slice O2 u.out.length cO2) := HK9.out.box.cell rfl; have z6 := HK9.out.box.free 6; clear hown9 hg9 hat9)
          first | go_end0 | refine bodyPost_ret (results_none rfl _ _ _) rfl ?_
          refine ⟨rfl, some ⟨gS, 0, none⟩, O3, ?_, HF9.out.trans (KF.setBox 6 _)⟩
          rw [HVIS.out, HLV.out]
          refine ⟨cS2, cO3, ?_⟩
          have hl1 : (u.stk.take at_).length = at_ := by rw [List.length_take]; omega
          have hl2 : (u.out ++ [cu]).length = u.out.length + 1 := by simp
          show KR _ _ _ _ _ _ (boxV bM bL _ n c _ (u.stk.take at_).length cS2 (minus u.on cu) u.now O3 (u.out ++ [cu]).length cO3) n (u.met.map nv) (u.low.map nv) _ (u.stk.take at_).length cS2 _ O3 (u.out ++ [cu]).length cO3 _
          rw [hl1, hl2]
          exact HK9.out.setBox 6 _
        · have hlm' : (((u.l i : Nat) : Int) != ((u.m i : Nat) : Int)) = true := by simp only [bne_iff_ne, ne_eq]; omega
          have HLV : Hid (leaveT i u = u) := Lib.hid (by unfold leaveT; rw [if_neg hlm])
          clear hlm
          go_wp2_with fail
          go_quiet (fail)
          go_wp2_with fail
          refine bodyPost_ret (results_none rfl _ _ _) rfl ?_
          refine ⟨rfl, S2, O2, ?_, (HF6.out.trans HFQ.out).draw _⟩
          rw [HVIS.out, HLV.out]
          exact ⟨cS2, cO2, HKR.out.drawN _⟩
end Go.Proofs.YtonmkmghpiagjaaDoor
