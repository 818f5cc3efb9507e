/- Contract: the search of package cut. Rows are good; the table of math/bits lies. -/
import Derived.Test.YtonmkmghpiagjaaDoorCut1
import Derived.Test.YtonmkmghpiagjaaDoorOrd
import Derived.Test.YtonmkmghpiagjaaDoorKnotIx
import Derived.Carry
import Derived.BigQuiet
import Derived.Deep.QuietTactic
import Derived.Deep.RegionHeld3
namespace Go.Proofs.YtonmkmghpiagjaaDoor
open Go.RowKit Go.ChangeMaps

def iz (x : Int) : Value := .int .i64 x
/-- How the flow lies. -/
structure FlR (w : World) (BF bN bA : Nat) (A : Option Addr) (n c a b : Nat) (st : Fl) (F : Option Addr) (cF : Nat) (base : Nat) : Prop where
  box : Blk w BF 100 [.slice A n c, .int .i64 (a : Int), .int .i64 (b : Int), .slice (some ⟨bN, 0, none⟩) n n, .slice (some ⟨bA, 0, none⟩) n n, .slice F st.fs.length cF]
  nx : w.ownsRow base 3 1 (.slice (some ⟨bN, 0, none⟩) n n) n (((List.range n).map fun i => st.nx i).map iz)
  ah : w.ownsRow base 3 1 (.slice (some ⟨bA, 0, none⟩) n n) n (((List.range n).map fun i => st.ah i).map iz)
  fs : w.ownsRow base 3 1 (.slice F st.fs.length cF) st.fs.length (st.fs.map nv)
  dW : BF ≠ bN ∧ BF ≠ bA ∧ bN ≠ bA
  dF : ∀ g, ob F = some g → g ≠ BF ∧ g ≠ bN ∧ g ≠ bA
  low : base ≤ BF
section
variable {w w' : World} {BF bN bA : Nat} {A : Option Addr} {n c a b : Nat} {st : Fl} {F : Option Addr} {cF base : Nat}
theorem FlR.lts (h : FlR w BF bN bA A n c a b st F cF base) : BF < w.heap.size ∧ bN < w.heap.size ∧ bA < w.heap.size ∧ ∀ g, ob F = some g → g < w.heap.size :=
  ⟨h.box.lt, (own_ob h.nx rfl).2, (own_ob h.ah rfl).2, fun _ hg => (own_ob h.fs hg).2⟩
theorem FlR.below (h : FlR w BF bN bA A n c a b st F cF base) (hb : Below w.heap.size w w') : FlR w' BF bN bA A n c a b st F cF base :=
  ⟨h.box.below hb h.lts.1, own_below h.nx hb, own_below h.ah hb, own_below h.fs hb, h.dW, h.dF, h.low⟩
theorem FlR.nxCell (h : FlR w BF bN bA A n c a b st F cF base) {i : Nat} (hi : i < n) : w.cell? ⟨bN, i, none⟩ = some (.int .i64 (st.nx i)) := by
  rw [h.nx.cellAt i (by omega)]
  simp [hi, iz]
theorem FlR.ahCell (h : FlR w BF bN bA A n c a b st F cF base) {i : Nat} (hi : i < n) : w.cell? ⟨bA, i, none⟩ = some (.int .i64 (st.ah i)) := by
  rw [h.ah.cellAt i (by omega)]
  simp [hi, iz]
end
def qOf (bm B5 : Nat) (w : World) : Nat := 256 - ((match w.heap[bm]? with | some (.map es _) => es.size | _ => 0) - (match w.cell? ⟨B5, 0, none⟩ with | some (.slice _ n _) => n | _ => 0))
theorem SR.form {W0 w : World} {B4 B5 bm : Nat} {v : Value} {M : List (Spt × Spt)} {q : Nat} (h : SR W0 w B4 B5 bm v M q) : ∃ g o c, v = .slice (some ⟨g, o, none⟩) (M.length - q) c ∧ M.length - q ≤ c := by
  obtain ⟨g, o, c, hv, _, _, hc⟩ := h.td.form
  exact ⟨g, o * 2, c, hv, hc⟩
theorem SR.qOf {W0 w : World} {B4 B5 bm : Nat} {v : Value} {M : List (Spt × Spt)} {q : Nat} (h : SR W0 w B4 B5 bm v M q) (hq : q ≤ M.length) : qOf bm B5 w = 256 - q := by
  obtain ⟨g, o, c, hv, _⟩ := h.form
  have h1 : w.heap[bm]? = some (.map (entM M) M.length) := h.mp
  have h2 := h.b5.cell (j := 0) rfl
  unfold Go.Proofs.YtonmkmghpiagjaaDoor.qOf
  rw [h1, h2, hv]
  simp only [entM_len]
  omega
theorem SR.pop {W0 w : World} {B4 B5 bm : Nat} {M : List (Spt × Spt)} {q g o c : Nat} (h : SR W0 w B4 B5 bm (.slice (some ⟨g, o, none⟩) (M.length - q) c) M q) (hq : q < M.length) :
    SR W0 (w.setCell ⟨B5, 0, none⟩ (.slice (some ⟨g, if c = 1 then o else o + 2, none⟩) (M.length - (q + 1)) (c - 1))) B4 B5 bm (.slice (some ⟨g, if c = 1 then o else o + 2, none⟩) (M.length - (q + 1)) (c - 1)) M (q + 1) := by
  have hg := h.dt g rfl
  have htd := h.td
  rw [show M.length - q = M.length - (q + 1) + 1 by omega] at htd
  have ht := htd.tail
  rw [spv_drop, List.drop_drop] at ht
  refine ⟨h.bel.setCell h.n5 _, h.b4.other h.d45 _, h.b5.same 0 _, ?_, ?_, h.n4, h.n5, h.nm, h.d45, h.dm4, h.dm5, fun g' hg' => ?_⟩
  · exact h.mp.same (Below.heap_setCell _ _ _ _ h.dm5)
  · refine ht.same (fun g' hg' => Below.heap_setCell _ _ _ _ ?_)
    have : g = g' := by simpa [Value.ownBlock] using hg'
    rw [← this]
    exact hg.2.1
  · have : g = g' := by simpa [Value.ownBlock] using hg'
    rw [← this]
    exact hg
theorem edge_lt {l : List Nat} {i j : Nat} (h : Ed l i j) : i < l.length := by
  rcases Nat.lt_or_ge i l.length with h1 | h1
  · exact h1
  · unfold Ed at h; rw [rowAt_ge h1] at h; simp at h
theorem own_some {g o n c x : Nat} (h : (Value.slice (some ⟨g, o, none⟩) n c).ownBlock = some x) : g = x := by simpa [Value.ownBlock] using h
theorem meas_q {x y q N : Nat} (h : x = 256 - q) (h' : y = 256 - (q + 1)) (hN : N ≤ 128) (hq : q < N) : y < x := by omega
def SearchEnd (l : List Nat) (a b : Nat) (st : Fl) (W0 : World) (e : Ending) (w' : World) : Prop :=
  ∃ bm M, e = .returned (.map (some bm)) ∧ SPost l a b st M ∧ MapB w' bm M ∧ W0.heap.size ≤ bm ∧ Below W0.heap.size W0 w'
theorem sr_start (W0 wm : World) {bm a : Nat} (hm : MapB wm bm [((a, true), (a, true))]) (hb : Below W0.heap.size W0 wm) (hbm : W0.heap.size ≤ bm) :
    SR W0 (((wm.alloc (.cells #[.map (some bm)] 101)).alloc (.cells #[.int .i64 (a : Int), .bool true] 104)).alloc (.cells #[.slice (some ⟨wm.heap.size + 1, 0, none⟩) 1 1] 142))
      wm.heap.size (wm.heap.size + 1 + 1) bm (.slice (some ⟨wm.heap.size + 1, 0, none⟩) 1 1) [((a, true), (a, true))] 0 := by
  have hlt : bm < wm.heap.size := (Array.getElem?_eq_some_iff.1 hm).1
  have hsz := hb.size
  have s1 : (wm.alloc (.cells #[.map (some bm)] 101)).heap.size = wm.heap.size + 1 := by simp
  have s2 : ((wm.alloc (.cells #[.map (some bm)] 101)).alloc (.cells #[.int .i64 (a : Int), .bool true] 104)).heap.size = wm.heap.size + 1 + 1 := by simp
  refine ⟨((hb.alloc hsz _).alloc (by simp; omega) _).alloc (by simp; omega) _, ?_, ?_, ?_, ?_, hsz, by omega, hbm, by omega, by omega, by omega, fun g hg => ?_⟩
  · unfold Blk
    rw [Below.heap_alloc _ _ _ (by simp; omega), Below.heap_alloc _ _ _ (by simp), heap_alloc_new]
  · have h := Blk.new ((wm.alloc (.cells #[.map (some bm)] 101)).alloc (.cells #[.int .i64 (a : Int), .bool true] 104)) #[.slice (some ⟨wm.heap.size + 1, 0, none⟩) 1 1] 142
    rw [s2] at h
    exact h
  · unfold MapB
    rw [Below.heap_alloc _ _ _ (by simp; omega), Below.heap_alloc _ _ _ (by simp; omega), Below.heap_alloc _ _ _ hlt]
    exact hm
  · refine ⟨rfl, wm.heap.size + 1, 0, 1, #[.int .i64 (a : Int), .bool true], rfl, by omega, ?_, Nat.le_refl _, (by unfold maxLen; decide), Nat.le_refl _, rfl⟩
    rw [Below.heap_alloc _ _ _ (by rw [s2]; omega)]
    have h := heap_alloc_new (wm.alloc (.cells #[.map (some bm)] 101)) (.cells #[.int .i64 (a : Int), .bool true] 104)
    rw [s1] at h
    exact h
  · have hg' : wm.heap.size + 1 = g := by simpa [Value.ownBlock] using hg
    exact ⟨by omega, by omega, by omega⟩
set_option maxHeartbeats 1000000 in
set_option maxRecDepth 4000 in
theorem search_any {BF bN bA : Nat} {A : Option Addr} {n c a b : Nat} {st : Fl} {F : Option Addr} {cF base : Nat} (l : List Nat) (W0 : World) (hR : Rd W0 A (l.map uv)) (hl : l.length = n) (hg : Good l) (hT : Tab W0)
    (hF : FlR W0 BF bN bA A n c a b st F cF base) (hf : FInv l a b st) (ha : a < n) :
    Calls Tryd.prog 68 #[.pointer (some ⟨BF, 0, none⟩)] W0 (SearchEnd l a b st W0) := by
  have hn : n ≤ 64 := by have := hg.1; omega
  have H1 := Lib.hid hR
  have HL := Lib.hid hl
  have HG := Lib.hid hg
  have HT := Lib.hid hT
  have HF := Lib.hid hF
  have HI := Lib.hid hf
  have x1 := hF.box.cell (j := 1) rfl
  have hmm := @run_makeMap Tryd.prog
  have hm0 : MapB ((W0.alloc (.cells #[.int .i64 (a : Int), .bool true] 104)).alloc (.map #[] 0)) (W0.heap.size + 1) [] := by
    unfold MapB
    have h := heap_alloc_new (W0.alloc (.cells #[.int .i64 (a : Int), .bool true] 104)) (.map #[] 0)
    simp only [World.size_alloc] at h
    exact h
  have hup := run_new hm0 (fun s hs => (by cases hs)) (a, true) (a, true) (show a < 64 by omega) (by simp [keysM])
  simp only [sv, List.nil_append] at hup
  have HM := Lib.hid (mapB_new hm0 [((a, true), (a, true))])
  have HB : Hid (Below W0.heap.size W0 (setBlock ((W0.alloc (.cells #[.int .i64 (a : Int), .bool true] 104)).alloc (.map #[] 0)) (W0.heap.size + 1) (.map (entM [((a, true), (a, true))]) [((a, true), (a, true))].length))) := Lib.hid (by
    have h := below_new (below_new (Below.refl W0.heap.size W0) (.cells #[.int .i64 (a : Int), .bool true] 104)) (.map #[] 0)
    refine ⟨h.os, h.tape, h.output, by rw [setBlock_size]; exact h.size, fun k hk => ?_⟩
    rw [setBlock_other _ _ (by omega)]
    exact h.block k hk)
  have HY : Hid (Blk (setBlock ((W0.alloc (.cells #[.int .i64 (a : Int), .bool true] 104)).alloc (.map #[] 0)) (W0.heap.size + 1) (.map (entM [((a, true), (a, true))]) [((a, true), (a, true))].length)) W0.heap.size 104 [.int .i64 (a : Int), .bool true]) := Lib.hid (by
    unfold Blk
    rw [setBlock_other _ _ (by omega), Below.heap_alloc _ _ _ (by simp), heap_alloc_new])
  generalize setBlock ((W0.alloc (.cells #[.int .i64 (a : Int), .bool true] 104)).alloc (.map #[] 0)) (W0.heap.size + 1) (.map (entM [((a, true), (a, true))]) [((a, true), (a, true))].length) = wm at hup HM HB HY
  have HS := Lib.hid (sr_start W0 wm HM.out HB.out (by omega))
  have y0 := HY.out.cell (j := 0) rfl
  have y1 := HY.out.cell (j := 1) rfl
  have hyb := HY.out.below (B := wm.heap.size) ((Below.refl wm.heap.size wm).alloc (Nat.le_refl _) (.cells #[.map (some (W0.heap.size + 1))] 101)) HY.out.lt
  have y2 := hyb.cell (j := 0) rfl
  have y3 := hyb.cell (j := 1) rfl
  clear hR hl hg hT hF hf hm0 hyb
  go_enter Tryd.func68, Tryd.ntmps68
  go_wp2_with fail
  clear y0 y1 y2 y3 hup x1 HY HM HB
  generalize wm.heap.size + 1 + 1 = B5 at HS ⊢
  generalize wm.heap.size = B4 at HS ⊢
  have hbm : W0.heap.size ≤ W0.heap.size + 1 := by omega
  generalize W0.heap.size + 1 = bm at HS hbm ⊢
  go_loopw [7] (fun _ wr => ∃ (M : List (Spt × Spt)) (q : Nat) (v : Value), Hid (SInv l a b st M q) ∧ Hid (SR W0 wr B4 B5 bm v M q)) (fun _ wr => qOf bm B5 wr)
  case atStart => exact ⟨_, 0, _, Lib.hid (sInv_start l st (by rw [HL.out]; exact ha)), HS⟩
  case round =>
    clear HS
    obtain ⟨M, q, v, HSI, HSR⟩ := hrel
    have hqM := HSI.out.qle
    have hlen : M.length ≤ 128 := by have := HSI.out.len; have := HL.out; omega
    have HK : Hid (∀ s ∈ keysM M, s.1 < 64) := Lib.hid (fun s hs => by have := HSI.out.lt s hs; have := HL.out; omega)
    obtain ⟨g, o, cc, rfl, hcc⟩ := HSR.out.form
    have c5 := HSR.out.b5.cell (j := 0) rfl
    by_cases hq : q < M.length
    · obtain ⟨⟨s1, s2⟩, by_, hat⟩ : ∃ (s : Spt) (by_ : Spt), M[q]? = some (s, by_) := ⟨M[q].1, M[q].2, List.getElem?_eq_getElem hq⟩
      have HAT := Lib.hid hat
      have hs1 : s1 < n := by rw [← HL.out]; exact HSI.out.lt _ (keysM_at hat)
      have hkq : ((keysM M).drop q)[0]? = some (s1, s2) := by
        rw [List.getElem?_drop, Nat.add_zero]
        unfold keysM
        rw [List.getElem?_map, hat]
        rfl
      obtain ⟨k0, k1⟩ := spv_at hkq
      have d0 := HSR.out.td.cell k0
      have d1 := HSR.out.td.cell k1
      rw [show o + 2 * 0 = o by omega] at d0
      rw [show o + (2 * 0 + 1) = o + 1 by omega] at d1
      have HA : Hid (SR W0 (wr.alloc (.cells #[.int .i64 (s1 : Int), .bool s2] 104)) B4 B5 bm (.slice (some ⟨g, o, none⟩) (M.length - q) cc) M q) := Lib.hid (HSR.out.below ((Below.refl _ _).alloc (Nat.le_refl _) _))
      have HP := Lib.hid (HA.out.pop hq)
      have a5 := HA.out.b5.cell (j := 0) rfl
      have f5 := HA.out.b5.free 0
      have hn' : M.length - q = M.length - (q + 1) + 1 := by omega
      obtain ⟨i0, hi0, _, hsz0, _⟩ := spotInfo
      have hsl := run_slice_tail (P := Tryd.prog) (t := 142) (by kernel_rfl) hi0 hsz0 (g := g) (o := o) (n := M.length - (q + 1)) (c := cc) (by omega) (wr.alloc (.cells #[.int .i64 (s1 : Int), .bool s2] 104))
      have HTB : Hid (Blk ((wr.alloc (.cells #[.int .i64 (s1 : Int), .bool s2] 104)).setCell ⟨B5, 0, none⟩ (.slice (some ⟨g, if cc = 1 then o else o + 2, none⟩) (M.length - (q + 1)) (cc - 1))) wr.heap.size 104 [.int .i64 (s1 : Int), .bool s2]) := Lib.hid ((Blk.new wr #[.int .i64 (s1 : Int), .bool s2] 104).other (by have := HSR.out.b5.lt; simp; omega) _)
      rw [hn'] at c5 a5
      generalize hn2 : M.length - (q + 1) = n2 at *
      generalize (if cc = 1 then o else o + 2) = o2 at *
      have HNB : Hid (wr.heap.size ≠ B5 ∧ wr.heap.size ≠ bm ∧ g ≠ wr.heap.size) := Lib.hid (by
        obtain ⟨_, l2, l3, l4⟩ := HSR.out.lts
        have := l4 g rfl
        exact ⟨by omega, by omega, by omega⟩)
      have HQ0 := Lib.hid (HSR.out.qOf hqM)
      clear hat hkq k0 k1 hi0 hsz0 HA HSR hn'
      go_wp2_with fail
      clear a5 f5 c5 d0 d1 hsl
      generalize (wr.alloc (.cells #[.int .i64 (s1 : Int), .bool s2] 104)).setCell ⟨B5, 0, none⟩ (.slice (some ⟨g, o2, none⟩) n2 (cc - 1)) = w2 at HP HTB ⊢
      generalize wr.heap.size = bs at HTB HNB ⊢
      have t1 := HTB.out.cell (j := 0) rfl
      have t2 := HTB.out.cell (j := 1) rfl
      have HFW := Lib.hid (HF.out.below HP.out.bel)
      have x1 := HFW.out.box.cell (j := 1) rfl
      have x2 := HFW.out.box.cell (j := 2) rfl
      have x4 := HFW.out.box.cell (j := 4) rfl
      have xa := HFW.out.ahCell hs1
      by_cases hsa : s1 = a
      · have hst := HSI.out.at_a (keysM_at HAT.out) hsa
        injection hst with _ hst
        subst hst
        have hsa' := hsa.symm
        clear hsa
        subst hsa'
        have HSB : Hid (a ≠ b) := Lib.hid HI.out.nab
        have hsb : a ≠ b := HSB.out
        have g2 : (((a : Nat) : Int) == ((b : Nat) : Int)) = false := by simp only [beq_eq_false_iff_ne, ne_eq]; omega
        clear hsb
        go_wp2_with fail
        go_quiet (fail)
        have HP1 := Lib.hid (HP.out.below (below_of_drewN w2 nq))
        have HTB1 : Hid (Blk (w2.drewN nq) bs 104 [.int .i64 (a : Int), .bool true]) := Lib.hid HTB.out
        clear t1 t2 x1 x2 x4 xa HFW HP HTB
        generalize w2.drewN nq = w3 at HP1 HTB1 ⊢
        have t1 := HTB1.out.cell (j := 0) rfl
        have t2 := HTB1.out.cell (j := 1) rfl
        have HFW := Lib.hid (HF.out.below HP1.out.bel)
        have x1 := HFW.out.box.cell (j := 1) rfl
        have x2 := HFW.out.box.cell (j := 2) rfl
        have x4 := HFW.out.box.cell (j := 4) rfl
        have xa := HFW.out.ahCell ha
        go_wp2_with fail
        go_quiet (fail)
        have HP2 := Lib.hid (HP1.out.below (below_of_drewN w3 nq))
        have HTB2 : Hid (Blk (w3.drewN nq) bs 104 [.int .i64 (a : Int), .bool true]) := Lib.hid HTB1.out
        clear t1 t2 x1 x2 x4 xa HFW HP1 HTB1
        generalize w3.drewN nq = w4 at HP2 HTB2 ⊢
        have t1 := HTB2.out.cell (j := 0) rfl
        have t2 := HTB2.out.cell (j := 1) rfl
        have HFW := Lib.hid (HF.out.below HP2.out.bel)
        have x1 := HFW.out.box.cell (j := 1) rfl
        have x2 := HFW.out.box.cell (j := 2) rfl
        have x4 := HFW.out.box.cell (j := 4) rfl
        have xa := HFW.out.ahCell ha
        go_wp2_with fail
        have x0 := HFW.out.box.cell (j := 0) rfl
        obtain ⟨bR, oR, rfl, xr⟩ := (H1.out.below HP2.out.bel).set (k := a) (by rw [HL.out]; exact ha)
        have HTD := Lib.hid (HT.out.below HP2.out.bel)
        have HSBF := Lib.hid (HFW.out.lts.1)
        have hbR : bR < w4.heap.size := lt_of_cell' xr
        have hbs4 : bs < w4.heap.size := HTB2.out.lt
        have bd : Below w4.heap.size w4 w4.drew := Below.drew (Below.refl _ _)
        go_region_held3 (fun W => W.cell? ⟨BF, 0, none⟩ = some (.slice (some ⟨bR, oR, none⟩) n c) ∧ W.cell? ⟨bs, 0, none⟩ = some (.int .i64 (a : Int)) ∧ W.cell? ⟨bR, oR + a, none⟩ = some (.int .u64 (rowAt l a : Nat)))
          ((refine ⟨?_, ?_, ?_⟩ <;> first | assumption))
          ((go_at_call 72; (refine (list_any (rowAt l a) (HG.out.b64 a) _ (HTD.out.below bd)).mono ?_); rintro e w5 ⟨A6, c6, rfl, hown6, hb6⟩; have z1 := (hb6.cell (p := ⟨BF, 0, none⟩) HSBF.out).trans x0; have z2 := (hb6.cell (p := ⟨bs, 0, none⟩) hbs4).trans t1; have z3 := (hb6.cell (p := ⟨bR, oR + a, none⟩) hbR).trans xr))
        have HB5 := Lib.hid (bd.trans hb6)
        have HO6 := Lib.hid hown6
        have HP5 := Lib.hid (HP2.out.below HB5.out)
        have HTB5 := Lib.hid (HTB2.out.below HB5.out HTB2.out.lt)
        have HED : Hid (∀ k ∈ nums (rowAt l a), Ed l a k ∧ k < n) := Lib.hid (fun k hk => (by
          have h1 := (mem_nums (HG.out.b64 a)).1 hk
          exact ⟨h1, by rw [← HL.out]; exact HG.out.2 a k h1⟩))
        have HKI : Hid (∀ k, Ed l a k → k ∈ nums (rowAt l a)) := Lib.hid (fun k hk => (mem_nums (HG.out.b64 a)).2 hk)
        have HNK : Hid (∀ x, ob A6 = some x → x ≠ B5 ∧ x ≠ bm ∧ g ≠ x) := Lib.hid (fun x hx => (by
          have h1 := (own_ob HO6.out hx).1
          obtain ⟨_, l2, l3, l4⟩ := HP2.out.lts
          have l5 := l4 g rfl
          simp at h1
          exact ⟨by omega, by omega, by omega⟩))
        clear z1 z2 z3 t1 t2 x0 x1 x2 x4 xa xr HFW hown6 hb6 bd HP2 HTB2 hbR HSBF hbs4 HTD
        have hklen := nums_len (rowAt l a)
        generalize nums (rowAt l a) = ks at HO6 HED HKI hklen ⊢
        have HM0 : Hid (∀ k ∈ ks.take 0, k ≠ a → (k, false) ∈ keysM M) := Lib.hid (fun k hk => (by simp at hk))
        go_wp2_with fail
        go_loopw [96] (fun x wz => ∃ (j : Nat) (M' : List (Spt × Spt)) (v' : Value), x = .int .i64 (j : Int) ∧ j ≤ ks.length ∧ Hid (SInv l a b st M' q) ∧ Hid (M'[q]? = some ((a, true), by_)) ∧ Hid (∀ k ∈ ks.take j, k ≠ a → (k, false) ∈ keysM M') ∧ Hid (SR W0 wz B4 B5 bm v' M' (q + 1)) ∧ Hid (SF B5 bm w5 wz (.slice (some ⟨g, o2, none⟩) n2 (cc - 1)) v')) (fun x _ => ks.length - (intOf x).toNat)
        case atStart => exact ⟨0, M, _, rfl, Nat.zero_le _, HSI, HAT, HM0, HP5, Lib.hid (SF.refl _ _ _ _)⟩
        case round =>
          clear HP5 HM0
          obtain ⟨j, M', v', rfl, hj, HSI', HAT', HKS', HSR', HSF'⟩ := hrel
          have hlen' : M'.length ≤ 128 := by have := HSI'.out.len; have := HL.out; omega
          have HK' : Hid (∀ s ∈ keysM M', s.1 < 64) := Lib.hid (fun s hs => by have := HSI'.out.lt s hs; have := HL.out; omega)
          have hq' : q < M'.length := getElem?_lt HAT'.out
          have hbz : Blk wr bs 104 [.int .i64 (a : Int), .bool true] := (show wr.heap[bs]? = _ from (HSF'.out.blk bs HTB5.out.lt HNB.out.1 HNB.out.2.1 (fun e => HNB.out.2.2 (own_some e))).trans HTB5.out)
          have t1 := hbz.cell (j := 0) rfl
          have t2 := hbz.cell (j := 1) rfl
          have HFZ := Lib.hid (HF.out.below HSR'.out.bel)
          have x1 := HFZ.out.box.cell (j := 1) rfl
          by_cases hjl : j < ks.length
          · obtain ⟨k, hkq⟩ : ∃ k, ks[j]? = some k := ⟨ks[j], List.getElem?_eq_getElem hjl⟩
            have HE := Lib.hid (HED.out k (List.mem_of_getElem? hkq))
            have hkn : k < n := HE.out.2
            have HTK := Lib.hid (take_kid hkq)
            have hoz := own_same HO6.out (fun x hx => HSF'.out.blk x (own_ob HO6.out hx).2 (HNK.out x hx).1 (HNK.out x hx).2.1 (fun e => (HNK.out x hx).2.2 (own_some e)))
            obtain ⟨bK, oK, rfl, xk⟩ := (Rd.of_own hoz).at_ (k := j) (by simpa using hjl)
            have xk' : wr.cell? ⟨bK, oK + j, none⟩ = some (.int .i64 (k : Nat)) := by
              rw [xk, List.getElem_map]
              rw [List.getElem?_eq_getElem hjl] at hkq
              injection hkq with hkq
              rw [hkq]
              rfl
            clear hkq xk hoz hbz
            by_cases hka : k = a
            · have g3 : (((k : Nat) : Int) != ((a : Nat) : Int)) = false := by rw [hka]; simp
              have HN : Hid (∀ k' ∈ ks.take (j + 1), k' ≠ a → (k', false) ∈ keysM M') := Lib.hid (fun k' hk' hn' => by
                rw [HTK.out] at hk'
                rcases List.mem_append.1 hk' with h | h
                · exact HKS'.out k' h hn'
                · rw [List.mem_singleton] at h
                  exact absurd (h.trans hka) hn')
              clear hka
              go_wp2_with fail
              exact ⟨⟨j + 1, M', v', val_succ j, hjl, HSI', HAT', HN, HSR', HSF'⟩, meas_lt hjl⟩
            · have g3 : (((k : Nat) : Int) != ((a : Nat) : Int)) = true := by simp only [bne_iff_ne, ne_eq]; omega
              have HSP := Lib.hid (HSI'.out.put HAT'.out (.fwd HSB.out HE.out.1 hka) (show k < l.length by rw [HL.out]; exact hkn))
              have HAP : Hid ((putM M' (k, false) (a, true))[q]? = some ((a, true), by_)) := Lib.hid (putM_at HAT'.out)
              have HN : Hid (∀ k' ∈ ks.take (j + 1), k' ≠ a → (k', false) ∈ keysM (putM M' (k, false) (a, true))) := Lib.hid (fun k' hk' hn' => by
                rw [HTK.out] at hk'
                rcases List.mem_append.1 hk' with h | h
                · exact putM_sub (HKS'.out k' h hn')
                · rw [List.mem_singleton] at h
                  rw [h]
                  exact putM_mem _ _ _)
              clear hka
              go_wp2_with fail
              refine (put_any (k, false) (a, true) _ HSR'.out hq' HK'.out (show k < 64 by omega) hlen').mono ?_
              rintro e w6 ⟨rfl, v6, hsr6, hsf6⟩
              have HS6 := Lib.hid hsr6
              have HF6 := Lib.hid (HSF'.out.trans hsf6)
              clear hsr6 hsf6
              go_wp2_with fail
              exact ⟨⟨j + 1, _, v6, val_succ j, hjl, HSP, HAP, HN, HS6, HF6⟩, meas_lt hjl⟩
          · obtain rfl : j = ks.length := by omega
            rw [List.take_length] at HKS'
            have HDN : Hid (SInv l a b st M' (q + 1)) := Lib.hid (HSI'.out.done HAT'.out HSB.out (fun t ht => by
              cases ht with
              | fwd _ h1 h2 => exact HKS'.out _ (HKI.out _ h1) h2
              | back _ h => exact absurd rfl h.1))
            go_wp2_with fail
            exact ⟨⟨M', q + 1, v', HDN, HSR'⟩, meas_q HQ0.out (HSR'.out.qOf HDN.out.qle) hlen' hq'⟩
      · have g1 : (((s1 : Nat) : Int) != ((a : Nat) : Int)) = true := by simp only [bne_iff_ne, ne_eq]; omega
        go_wp2_with fail
        go_quiet (fail)
        have HP1 := Lib.hid (HP.out.below (below_of_drewN w2 nq))
        have HTB1 : Hid (Blk (w2.drewN nq) bs 104 [.int .i64 (s1 : Int), .bool s2]) := Lib.hid HTB.out
        clear t1 t2 x1 x2 x4 xa HFW HP HTB
        generalize w2.drewN nq = w3 at HP1 HTB1 ⊢
        have t1 := HTB1.out.cell (j := 0) rfl
        have t2 := HTB1.out.cell (j := 1) rfl
        have HFW := Lib.hid (HF.out.below HP1.out.bel)
        have x1 := HFW.out.box.cell (j := 1) rfl
        have x2 := HFW.out.box.cell (j := 2) rfl
        have x4 := HFW.out.box.cell (j := 4) rfl
        have xa := HFW.out.ahCell hs1
        by_cases hsb : s1 = b
        · have g2 : (((s1 : Nat) : Int) == ((b : Nat) : Int)) = true := by simp only [beq_iff_eq]; omega
          have HE : Hid (SPost l a b st M) := Lib.hid (sPost_found HSI.out HI.out HAT.out hsb)
          have c4 := HP1.out.b4.cell (j := 0) rfl
          clear hsb hsa
          go_wp2_with fail
          go_quiet (fail)
          go_wp2_with fail
          go_ret
          exact ⟨_, M, rfl, HE.out, HP1.out.mp, hbm, below_drewN HP1.out.bel _⟩
        · have g2 : (((s1 : Nat) : Int) == ((b : Nat) : Int)) = false := by simp only [beq_eq_false_iff_ne, ne_eq]; omega
          have HSB := Lib.hid hsb
          have HSA := Lib.hid hsa
          clear hsb hsa
          go_wp2_with fail
          go_quiet (fail)
          have HP2 := Lib.hid (HP1.out.below (below_of_drewN w3 nq))
          have HTB2 : Hid (Blk (w3.drewN nq) bs 104 [.int .i64 (s1 : Int), .bool s2]) := Lib.hid HTB1.out
          clear t1 t2 x1 x2 x4 xa HFW HP1 HTB1
          generalize w3.drewN nq = w4 at HP2 HTB2 ⊢
          have t1 := HTB2.out.cell (j := 0) rfl
          have t2 := HTB2.out.cell (j := 1) rfl
          have HFW := Lib.hid (HF.out.below HP2.out.bel)
          have x1 := HFW.out.box.cell (j := 1) rfl
          have x2 := HFW.out.box.cell (j := 2) rfl
          have x4 := HFW.out.box.cell (j := 4) rfl
          have xa := HFW.out.ahCell hs1
          cases s2 with
          | true =>
            go_wp2_with fail
            have x0 := HFW.out.box.cell (j := 0) rfl
            obtain ⟨bR, oR, rfl, xr⟩ := (H1.out.below HP2.out.bel).set (k := s1) (by rw [HL.out]; exact hs1)
            have HTD := Lib.hid (HT.out.below HP2.out.bel)
            have HSBF := Lib.hid (HFW.out.lts.1)
            have hbR : bR < w4.heap.size := lt_of_cell' xr
            have hbs4 : bs < w4.heap.size := HTB2.out.lt
            have bd : Below w4.heap.size w4 w4.drew := Below.drew (Below.refl _ _)
            go_region_held3 (fun W => W.cell? ⟨BF, 0, none⟩ = some (.slice (some ⟨bR, oR, none⟩) n c) ∧ W.cell? ⟨bs, 0, none⟩ = some (.int .i64 (s1 : Int)) ∧ W.cell? ⟨bR, oR + s1, none⟩ = some (.int .u64 (rowAt l s1 : Nat)))
              ((refine ⟨?_, ?_, ?_⟩ <;> first | assumption))
              ((go_at_call 72; (refine (list_any (rowAt l s1) (HG.out.b64 s1) _ (HTD.out.below bd)).mono ?_); rintro e w5 ⟨A6, c6, rfl, hown6, hb6⟩; have z1 := (hb6.cell (p := ⟨BF, 0, none⟩) HSBF.out).trans x0; have z2 := (hb6.cell (p := ⟨bs, 0, none⟩) hbs4).trans t1; have z3 := (hb6.cell (p := ⟨bR, oR + s1, none⟩) hbR).trans xr))
            have HB5 := Lib.hid (bd.trans hb6)
            have HO6 := Lib.hid hown6
            have HP5 := Lib.hid (HP2.out.below HB5.out)
            have HTB5 := Lib.hid (HTB2.out.below HB5.out HTB2.out.lt)
            have HED : Hid (∀ k ∈ nums (rowAt l s1), Ed l s1 k ∧ k < n) := Lib.hid (fun k hk => (by
              have h1 := (mem_nums (HG.out.b64 s1)).1 hk
              exact ⟨h1, by rw [← HL.out]; exact HG.out.2 s1 k h1⟩))
            have HKI : Hid (∀ k, Ed l s1 k → k ∈ nums (rowAt l s1)) := Lib.hid (fun k hk => (mem_nums (HG.out.b64 s1)).2 hk)
            have HNK : Hid (∀ x, ob A6 = some x → x ≠ B5 ∧ x ≠ bm ∧ g ≠ x) := Lib.hid (fun x hx => (by
              have h1 := (own_ob HO6.out hx).1
              obtain ⟨_, l2, l3, l4⟩ := HP2.out.lts
              have l5 := l4 g rfl
              simp at h1
              exact ⟨by omega, by omega, by omega⟩))
            clear z1 z2 z3 t1 t2 x0 x1 x2 x4 xa xr HFW hown6 hb6 bd HP2 HTB2 hbR HSBF hbs4 HTD
            have hklen := nums_len (rowAt l s1)
            generalize nums (rowAt l s1) = ks at HO6 HED HKI hklen ⊢
            have HM0 : Hid (∀ k ∈ ks.take 0, k ≠ a → (k, false) ∈ keysM M) := Lib.hid (fun k hk => (by simp at hk))
            go_wp2_with fail
            go_loopw [96] (fun x wz => ∃ (j : Nat) (M' : List (Spt × Spt)) (v' : Value), x = .int .i64 (j : Int) ∧ j ≤ ks.length ∧ Hid (SInv l a b st M' q) ∧ Hid (M'[q]? = some ((s1, true), by_)) ∧ Hid (∀ k ∈ ks.take j, k ≠ a → (k, false) ∈ keysM M') ∧ Hid (SR W0 wz B4 B5 bm v' M' (q + 1)) ∧ Hid (SF B5 bm w5 wz (.slice (some ⟨g, o2, none⟩) n2 (cc - 1)) v')) (fun x _ => ks.length - (intOf x).toNat)
            case atStart => exact ⟨0, M, _, rfl, Nat.zero_le _, HSI, HAT, HM0, HP5, Lib.hid (SF.refl _ _ _ _)⟩
            case round =>
              clear HP5 HM0
              obtain ⟨j, M', v', rfl, hj, HSI', HAT', HKS', HSR', HSF'⟩ := hrel
              have hlen' : M'.length ≤ 128 := by have := HSI'.out.len; have := HL.out; omega
              have HK' : Hid (∀ s ∈ keysM M', s.1 < 64) := Lib.hid (fun s hs => by have := HSI'.out.lt s hs; have := HL.out; omega)
              have hq' : q < M'.length := getElem?_lt HAT'.out
              have hbz : Blk wr bs 104 [.int .i64 (s1 : Int), .bool true] := (show wr.heap[bs]? = _ from (HSF'.out.blk bs HTB5.out.lt HNB.out.1 HNB.out.2.1 (fun e => HNB.out.2.2 (own_some e))).trans HTB5.out)
              have t1 := hbz.cell (j := 0) rfl
              have t2 := hbz.cell (j := 1) rfl
              have HFZ := Lib.hid (HF.out.below HSR'.out.bel)
              have x1 := HFZ.out.box.cell (j := 1) rfl
              by_cases hjl : j < ks.length
              · obtain ⟨k, hkq⟩ : ∃ k, ks[j]? = some k := ⟨ks[j], List.getElem?_eq_getElem hjl⟩
                have HE := Lib.hid (HED.out k (List.mem_of_getElem? hkq))
                have hkn : k < n := HE.out.2
                have HTK := Lib.hid (take_kid hkq)
                have hoz := own_same HO6.out (fun x hx => HSF'.out.blk x (own_ob HO6.out hx).2 (HNK.out x hx).1 (HNK.out x hx).2.1 (fun e => (HNK.out x hx).2.2 (own_some e)))
                obtain ⟨bK, oK, rfl, xk⟩ := (Rd.of_own hoz).at_ (k := j) (by simpa using hjl)
                have xk' : wr.cell? ⟨bK, oK + j, none⟩ = some (.int .i64 (k : Nat)) := by
                  rw [xk, List.getElem_map]
                  rw [List.getElem?_eq_getElem hjl] at hkq
                  injection hkq with hkq
                  rw [hkq]
                  rfl
                clear hkq xk hoz hbz
                by_cases hka : k = a
                · have g3 : (((k : Nat) : Int) != ((a : Nat) : Int)) = false := by rw [hka]; simp
                  have HN : Hid (∀ k' ∈ ks.take (j + 1), k' ≠ a → (k', false) ∈ keysM M') := Lib.hid (fun k' hk' hn' => by
                    rw [HTK.out] at hk'
                    rcases List.mem_append.1 hk' with h | h
                    · exact HKS'.out k' h hn'
                    · rw [List.mem_singleton] at h
                      exact absurd (h.trans hka) hn')
                  clear hka
                  go_wp2_with fail
                  exact ⟨⟨j + 1, M', v', val_succ j, hjl, HSI', HAT', HN, HSR', HSF'⟩, meas_lt hjl⟩
                · have g3 : (((k : Nat) : Int) != ((a : Nat) : Int)) = true := by simp only [bne_iff_ne, ne_eq]; omega
                  have HSP := Lib.hid (HSI'.out.put HAT'.out (.fwd HSB.out HE.out.1 hka) (show k < l.length by rw [HL.out]; exact hkn))
                  have HAP : Hid ((putM M' (k, false) (s1, true))[q]? = some ((s1, true), by_)) := Lib.hid (putM_at HAT'.out)
                  have HN : Hid (∀ k' ∈ ks.take (j + 1), k' ≠ a → (k', false) ∈ keysM (putM M' (k, false) (s1, true))) := Lib.hid (fun k' hk' hn' => by
                    rw [HTK.out] at hk'
                    rcases List.mem_append.1 hk' with h | h
                    · exact putM_sub (HKS'.out k' h hn')
                    · rw [List.mem_singleton] at h
                      rw [h]
                      exact putM_mem _ _ _)
                  clear hka
                  go_wp2_with fail
                  refine (put_any (k, false) (s1, true) _ HSR'.out hq' HK'.out (show k < 64 by omega) hlen').mono ?_
                  rintro e w6 ⟨rfl, v6, hsr6, hsf6⟩
                  have HS6 := Lib.hid hsr6
                  have HF6 := Lib.hid (HSF'.out.trans hsf6)
                  clear hsr6 hsf6
                  go_wp2_with fail
                  exact ⟨⟨j + 1, _, v6, val_succ j, hjl, HSP, HAP, HN, HS6, HF6⟩, meas_lt hjl⟩
              · obtain rfl : j = ks.length := by omega
                rw [List.take_length] at HKS'
                by_cases hah : 0 ≤ st.ah s1
                · have HSP := Lib.hid (HSI'.out.put HAT'.out (.back HSB.out ⟨HSA.out, hah⟩) (show s1 < l.length by rw [HL.out]; exact hs1))
                  have HDN : Hid (SInv l a b st (putM M' (s1, false) (s1, true)) (q + 1)) := Lib.hid (HSP.out.done (putM_at HAT'.out) HSB.out (fun t ht => by
                    cases ht with
                    | fwd _ h1 h2 => exact putM_sub (HKS'.out _ (HKI.out _ h1) h2)
                    | back _ _ => exact putM_mem _ _ _))
                  go_wp2_with fail
                  refine (put_any (s1, false) (s1, true) _ HSR'.out hq' HK'.out (show s1 < 64 by omega) hlen').mono ?_
                  rintro e w6 ⟨rfl, v6, hsr6, _⟩
                  have HS6 := Lib.hid hsr6
                  clear hsr6
                  go_wp2_with fail
                  exact ⟨⟨_, q + 1, v6, HDN, HS6⟩, meas_q HQ0.out (HS6.out.qOf HDN.out.qle) hlen' hq'⟩
                · have HDN : Hid (SInv l a b st M' (q + 1)) := Lib.hid (HSI'.out.done HAT'.out HSB.out (fun t ht => by
                    cases ht with
                    | fwd _ h1 h2 => exact HKS'.out _ (HKI.out _ h1) h2
                    | back _ h => exact absurd h.2 hah))
                  go_wp2_with fail
                  exact ⟨⟨M', q + 1, v', HDN, HSR'⟩, meas_q HQ0.out (HSR'.out.qOf HDN.out.qle) hlen' hq'⟩
          | false =>
            by_cases hah : 0 ≤ st.ah s1
            · have HU : Hid (usedF a st s1) := Lib.hid ⟨HSA.out, hah⟩
              obtain ⟨m, hm⟩ : ∃ m : Nat, st.ah s1 = (m : Int) := ⟨(st.ah s1).toNat, by omega⟩
              have HMM := Lib.hid hm
              rw [hm] at xa
              clear hm
              go_wp2_with fail
              by_cases hma : m = a
              · have g3 : (((m : Nat) : Int) != ((a : Nat) : Int)) = false := by rw [hma]; simp
                have HDN : Hid (SInv l a b st M (q + 1)) := Lib.hid (HSI.out.done HAT.out HSB.out (fun t ht => by
                  cases ht with
                  | thru _ g => exact absurd HU.out g
                  | undo _ _ g1 g2 =>
                    have := HMM.out
                    exact absurd (by omega) g2))
                clear hma
                go_quiet (fail)
                go_wp2_with fail
                have HS5 := Lib.hid (HP2.out.below (below_of_drewN w4 nq))
                exact ⟨⟨_, q + 1, _, HDN, HS5⟩, meas_q HQ0.out (HS5.out.qOf HDN.out.qle) hlen hq⟩
              · have g3 : (((m : Nat) : Int) != ((a : Nat) : Int)) = true := by simp only [bne_iff_ne, ne_eq]; omega
                have hmn : m < l.length := by
                  rcases (HI.out.ah_cases HMM.out).2.2 with ⟨h, _⟩ | ⟨_, h⟩
                  · exact absurd h hma
                  · have := (HI.out.nx_cases h).2.2.2.2
                    exact edge_lt this
                have hm64 : m < 64 := by have := HL.out; omega
                have HSP := Lib.hid (HSI.out.put HAT.out (.undo HSB.out HU.out HMM.out hma) hmn)
                have HDN : Hid (SInv l a b st (putM M (m, true) (s1, false)) (q + 1)) := Lib.hid (HSP.out.done (putM_at HAT.out) HSB.out (fun t ht => by
                  cases ht with
                  | thru _ g => exact absurd HU.out g
                  | @undo _ m' _ _ g1 g2 =>
                    have := HMM.out
                    have : m' = m := by omega
                    subst this
                    exact putM_mem _ _ _))
                clear hma
                go_quiet (fail)
                go_wp2_with fail
                have HP3 := Lib.hid (HP2.out.below (below_of_drewN w4 nq))
                have HTB3 : Hid (Blk (w4.drewN nq) bs 104 [.int .i64 (s1 : Int), .bool false]) := Lib.hid HTB2.out
                clear t1 t2 x1 x2 x4 xa HFW HP2 HTB2
                generalize w4.drewN nq = w5 at HP3 HTB3 ⊢
                have t1 := HTB3.out.cell (j := 0) rfl
                have t2 := HTB3.out.cell (j := 1) rfl
                have HFW := Lib.hid (HF.out.below HP3.out.bel)
                have x4 := HFW.out.box.cell (j := 4) rfl
                have xa := HFW.out.ahCell hs1
                rw [HMM.out] at xa
                have HPD := Lib.hid (HP3.out.below (Below.drew (Below.refl w5.heap.size w5)))
                go_region_held3 (fun W => W.cell? ⟨BF, 4, none⟩ = some (.slice (some ⟨bA, 0, none⟩) n n) ∧ W.cell? ⟨bs, 0, none⟩ = some (.int .i64 (s1 : Int)) ∧ W.cell? ⟨bs, 1, none⟩ = some (.bool false) ∧ W.cell? ⟨bA, s1, none⟩ = some (.int .i64 (m : Int)))
                  ((refine ⟨?_, ?_, ?_, ?_⟩ <;> first | assumption))
                  ((go_at_call 104; (refine (put_any (m, true) (s1, false) _ HPD.out hq HK.out hm64 hlen).mono ?_); rintro e w6 ⟨rfl, v6, hsr6, hsf6⟩; have HFW6 := HF.out.below hsr6.bel; have z1 := HFW6.box.cell (j := 4) rfl; have hb6 : Blk w6 bs 104 [.int .i64 (s1 : Int), .bool false] := (show w6.heap[bs]? = _ from (hsf6.blk bs HTB3.out.lt HNB.out.1 HNB.out.2.1 (fun e => HNB.out.2.2 (own_some e))).trans HTB3.out); have z2 := hb6.cell (j := 0) rfl; have z3 := hb6.cell (j := 1) rfl; have z4 := HFW6.ahCell hs1; rw [HMM.out] at z4))
                have HS6 := Lib.hid hsr6
                clear z1 z2 z3 z4 hsr6 hsf6 HFW6 hb6
                go_wp2_with fail
                exact ⟨⟨_, q + 1, v6, HDN, HS6⟩, meas_q HQ0.out (HS6.out.qOf HDN.out.qle) hlen hq⟩
            · have HNU : Hid (¬ usedF a st s1) := Lib.hid (fun h => hah h.2)
              have HSP := Lib.hid (HSI.out.put HAT.out (.thru HSB.out HNU.out) (show s1 < l.length by rw [HL.out]; exact hs1))
              have HDN : Hid (SInv l a b st (putM M (s1, true) (s1, false)) (q + 1)) := Lib.hid (HSP.out.done (putM_at HAT.out) HSB.out (fun t ht => by
                cases ht with
                | thru _ _ => exact putM_mem _ _ _
                | undo _ g _ _ => exact absurd g HNU.out))
              go_wp2_with fail
              refine (put_any (s1, true) (s1, false) _ HP2.out hq HK.out (show s1 < 64 by omega) hlen).mono ?_
              rintro e w5 ⟨rfl, v5, hsr5, _⟩
              have HS5 := Lib.hid hsr5
              clear hsr5
              go_wp2_with fail
              exact ⟨⟨_, q + 1, v5, HDN, HS5⟩, meas_q HQ0.out (HS5.out.qOf HDN.out.qle) hlen hq⟩
    · have hqe : M.length - q = 0 := by omega
      have c4 := HSR.out.b4.cell (j := 0) rfl
      have HE : Hid (SPost l a b st M) := Lib.hid (by
        have h := HSI.out
        rw [show q = M.length by omega] at h
        exact sPost_all h)
      rw [hqe] at c5
      go_wp2_with fail
      go_ret
      exact ⟨_, M, rfl, HE.out, HSR.out.mp, hbm, HSR.out.bel⟩
end Go.Proofs.YtonmkmghpiagjaaDoor
