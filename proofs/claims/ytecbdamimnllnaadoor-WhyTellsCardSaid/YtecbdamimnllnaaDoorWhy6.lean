/- Contract: why.tell. The graph and what is seen are right; the number is to be made anew; the table of math/bits lies. -/
import Derived.Test.YtecbdamimnllnaaDoorWhy4
namespace Go.Proofs.YtecbdamimnllnaaDoor
open Go.RowKit

/-- A reason in memory, with what is within, in blocks from B on. -/
def WhyVal (B : Nat) (w : World) : List (Nat × Nat × Nat) → WV → Prop
  | [], _ => False
  | (x, c, k) :: R, e => e.n = (x : Int) ∧ e.c = (c : Int) ∧ e.k = (k : Int) ∧ ((R = [] ∧ e.m = 0) ∨ (R ≠ [] ∧ e.m = 1 ∧ ∃ b off e', e.A = some ⟨b, off, none⟩ ∧ B ≤ b ∧
      w.cell? ⟨b, off, none⟩ = some (.int .i64 e'.n) ∧ w.cell? ⟨b, off + 1, none⟩ = some (.int .i64 e'.c) ∧ w.cell? ⟨b, off + 2, none⟩ = some (.int .i64 e'.k) ∧ w.cell? ⟨b, off + 3, none⟩ = some (.slice e'.A e'.m e'.cap) ∧ WhyVal B w R e'))
theorem WhyVal.keep {B B' : Nat} {w w' : World} (hB : B' ≤ B) (hk : ∀ b o v, B ≤ b → w.cell? ⟨b, o, none⟩ = some v → w'.cell? ⟨b, o, none⟩ = some v) : ∀ {R : List (Nat × Nat × Nat)} {e : WV}, WhyVal B w R e → WhyVal B' w' R e
  | [], _, h => h
  | (_, _, _) :: _, _, ⟨h1, h2, h3, h4⟩ => ⟨h1, h2, h3, h4.imp id fun ⟨g1, g2, b, off, e', g3, g0, g4, g5, g6, g7, g8⟩ => ⟨g1, g2, b, off, e', g3, Nat.le_trans hB g0, hk _ _ _ g0 g4, hk _ _ _ g0 g5, hk _ _ _ g0 g6, hk _ _ _ g0 g7, g8.keep hB hk⟩⟩
theorem WhyVal.below {B : Nat} {w w' : World} {R : List (Nat × Nat × Nat)} {e : WV} (h : WhyVal B w R e) (hb : Below w.heap.size w w') : WhyVal B w' R e := h.keep (Nat.le_refl _) (fun _ _ _ _ hc => cell_keep hc hb)
theorem WhyVal.base {B B' : Nat} {w : World} {R : List (Nat × Nat × Nat)} {e : WV} (h : WhyVal B w R e) (hB : B' ≤ B) : WhyVal B' w R e := h.keep hB (fun _ _ _ _ hc => hc)
theorem WhyVal.set {B b0 j : Nat} {w : World} {R : List (Nat × Nat × Nat)} {e : WV} (h : WhyVal B w R e) (hb : b0 < B) (v : Value) : WhyVal B (w.setCell ⟨b0, j, none⟩ v) R e := h.keep (Nat.le_refl _) (fun b o u hle hc => by
  rw [World.cell?_of_block (w := w) (Below.heap_setCell _ _ _ _ (by show b ≠ b0; omega))]
  exact hc)
theorem cell_put4W {w : World} {b b' j : Nat} {v : Value} (h : w.cell? ⟨b', j, none⟩ = some v) (hne : b' ≠ b) (v1 v2 v3 v4 : Value) : ((((w.setCell ⟨b, 0, none⟩ v1).setCell ⟨b, 1, none⟩ v2).setCell ⟨b, 2, none⟩ v3).setCell ⟨b, 3, none⟩ v4).cell? ⟨b', j, none⟩ = some v := by
  have e : ∀ (W : World) (o : Nat) (u : Value), (W.setCell ⟨b, o, none⟩ u).cell? ⟨b', j, none⟩ = W.cell? ⟨b', j, none⟩ := fun W o u => World.cell?_of_block (Below.heap_setCell _ _ _ _ hne)
  rw [e, e, e, e]
  exact h
def zW : WV := ⟨0, 0, 0, none, 0, 0⟩
theorem rsn_out {l : List Nat} {T : List Int} {p d o o' x c k : Nat} (h1 : 1 ≤ c) (h : c < 5) : rsn l T p d o x c k = rsn l T p d o' x c k := by
  unfold rsn
  rcases (by omega : c = 1 ∨ c = 2 ∨ c = 3 ∨ c = 4) with rfl | rfl | rfl | rfl <;> rfl
theorem holds_rsn {l : List Nat} {T : List Int} {p m d x c k : Nat} (o : Nat) (hx : x < l.length) (hk : k < l.length) (h1 : 1 ≤ c) (h : c < 5) (hm : (m ||| p).testBit x = true) : holdsB l T p m d ⟨(x : Int), (c : Int), (k : Int), none, 0, 0⟩ 0 = rsn l T p d o x c k := by
  have e : holdsB l T p m d ⟨(x : Int), (c : Int), (k : Int), none, 0, 0⟩ 0 = ((decide ((0 : Int) ≤ x) && decide ((x : Int) < l.length) && decide ((0 : Int) ≤ k) && decide ((k : Int) < l.length)) && ((m ||| p).testBit x && (rsn l T p d (2 ^ 64 - 1) x c k && (decide ((c : Int) ≠ 5) || decide ((0 : Int) = (k : Int)))))) := rfl
  rw [e, decide_eq_true (show (0 : Int) ≤ x by omega), decide_eq_true (show (x : Int) < l.length by omega), decide_eq_true (show (0 : Int) ≤ k by omega), decide_eq_true (show (k : Int) < l.length by omega), hm, decide_eq_true (show (c : Int) ≠ 5 by omega), rsn_out (o' := o) h1 h]
  simp
def needsL (l : List Nat) (x c : Nat) : List Nat := if c < 3 then [0] else nums (rowAt l x)
theorem needs_mem {l : List Nat} {T : List Int} {p d o x c k : Nat} (hg : Good l) (h1 : 1 ≤ c) (h : c < 5) (hr : rsn l T p d o x c k = true) : k ∈ needsL l x c := by
  unfold needsL
  unfold rsn at hr
  rcases (by omega : c = 1 ∨ c = 2 ∨ c = 3 ∨ c = 4) with rfl | rfl | rfl | rfl
  · simp at hr; simp [hr.1]
  · simp at hr; simp [hr.1]
  · simp at hr; rw [if_neg (by omega)]; exact (mem_nums (hg.b64 x)).2 hr.1
  · simp at hr; rw [if_neg (by omega)]; exact (mem_nums (hg.b64 x)).2 hr.1
theorem needs_sorted (l : List Nat) (x c : Nat) : (needsL l x c).Pairwise (· < ·) := by
  unfold needsL
  split
  · exact List.pairwise_singleton _ _
  · exact nums_sorted _
theorem needs_lt {l : List Nat} {x c k : Nat} (hg : Good l) (hx : x < l.length) (h : k ∈ needsL l x c) : k < l.length := by
  unfold needsL at h
  split at h
  · rw [List.mem_singleton] at h; omega
  · exact hg.2 _ _ ((mem_nums (hg.b64 x)).1 h)
/-- None before. -/
def NoC (l : List Nat) (T : List Int) (p d o x c : Nat) : Prop := ∀ c' k', 1 ≤ c' → c' < c → k' < l.length → rsn l T p d o x c' k' = false
def NoK (l : List Nat) (T : List Int) (p d o x c q : Nat) : Prop := ∀ q' k', q' < q → (needsL l x c)[q']? = some k' → rsn l T p d o x c k' = false
theorem noK_found {l : List Nat} {T : List Int} {p d o x c q k : Nat} (hg : Good l) (hx : x < l.length) (h1 : 1 ≤ c) (h : c < 5) (hC : NoC l T p d o x c) (hK : NoK l T p d o x c q) (hq : (needsL l x c)[q]? = some k) (hr : rsn l T p d o x c k = true) : FoundR l T p d o x c k := by
  refine ⟨h1, by omega, needs_lt hg hx (List.mem_of_getElem? hq), hr, hC, fun k' hk' => ?_⟩
  rw [Bool.eq_false_iff]
  intro hc
  obtain ⟨q', hq'⟩ := List.mem_iff_getElem?.1 (needs_mem hg h1 h hc)
  have hlt : q' < q := by
    rcases Nat.lt_trichotomy q' q with g | g | g
    · exact g
    · subst g; rw [hq] at hq'; injection hq' with hq'; omega
    · have ha := (List.getElem?_eq_some_iff.1 hq)
      have hb := (List.getElem?_eq_some_iff.1 hq')
      have := List.pairwise_iff_getElem.1 (needs_sorted l x c) q q' ha.1 hb.1 g
      rw [ha.2, hb.2] at this
      omega
  rw [hK q' k' hlt hq'] at hc
  cases hc
theorem noK_end {l : List Nat} {T : List Int} {p d o x c : Nat} (hg : Good l) (h1 : 1 ≤ c) (h : c < 5) (hC : NoC l T p d o x c) (hK : NoK l T p d o x c (needsL l x c).length) : NoC l T p d o x (c + 1) := fun c' k' g1 g2 g3 => by
  rcases (by omega : c' < c ∨ c' = c) with g | rfl
  · exact hC c' k' g1 g g3
  · rw [Bool.eq_false_iff]
    intro hc
    obtain ⟨q', hq'⟩ := List.mem_iff_getElem?.1 (needs_mem hg h1 h hc)
    rw [hK q' k' (List.getElem?_eq_some_iff.1 hq').1 hq'] at hc
    cases hc
theorem noK_next {l : List Nat} {T : List Int} {p d o x c q k : Nat} (hK : NoK l T p d o x c q) (hq : (needsL l x c)[q]? = some k) (hr : rsn l T p d o x c k = false) : NoK l T p d o x c (q + 1) := fun q' k' h1 h2 => by
  rcases (by omega : q' < q ∨ q' = q) with g | rfl
  · exact hK q' k' g h2
  · rw [hq] at h2
    injection h2 with h2
    rw [← h2]
    exact hr
theorem tell_last {l : List Nat} {T : List Int} {p d o x : Nat} {R : List (Nat × Nat × Nat)} (h : TellR l T p d o x R) (hC : NoC l T p d o x 5) : ∃ k R', R = (x, 5, k) :: R' ∧ FoundR l T p d o x 5 k ∧ TellR l T p d o k R' := by
  cases h with
  | stop hf hc =>
    have := hC _ _ hf.c1 hc hf.kn
    rw [hf.is] at this
    cases this
  | go hf ht => exact ⟨_, _, rfl, hf, ht⟩
theorem tell_ne {l : List Nat} {T : List Int} {p d o x : Nat} {R : List (Nat × Nat × Nat)} (h : TellR l T p d o x R) : R ≠ [] := by cases h <;> simp
theorem five_low {l : List Nat} {T : List Int} {p d o x k : Nat} (hg : Good l) (h : FoundR l T p d o x 5 k) : fromS (rowAt l x &&& o) ((0 : Nat) : Int) ≠ 0 ∧ low (fromS (rowAt l x &&& o) ((0 : Nat) : Int)) = k := by
  have hbit : ∀ j, (fromS (rowAt l x &&& o) ((0 : Nat) : Int)).testBit j = ((rowAt l x).testBit j && o.testBit j) := fun j => by
    rw [fromS_mid (by omega), minus_bit (B64.and (hg.b64 x)) (upTo_b64 (by omega)), Nat.testBit_and]
    simp [upTo]
  have hb : B64 (fromS (rowAt l x &&& o) ((0 : Nat) : Int)) := B64.of_bits fun j hj => by
    rw [hbit j, Bool.and_eq_true] at hj
    exact (hg.b64 x).bit hj.1
  have h5 : ∀ j, rsn l T p d o x 5 j = ((rowAt l x).testBit j && o.testBit j) := fun j => rfl
  have hk : (fromS (rowAt l x &&& o) ((0 : Nat) : Int)).testBit k = true := by rw [hbit, ← h5]; exact h.is
  have h0 : fromS (rowAt l x &&& o) ((0 : Nat) : Int) ≠ 0 := fun e => by rw [e] at hk; simp at hk
  refine ⟨h0, ?_⟩
  have g1 := low_le hb hk
  have g2 := low_bit hb h0
  rw [hbit, ← h5] at g2
  rcases Nat.lt_or_ge (low (fromS (rowAt l x &&& o) ((0 : Nat) : Int))) k with g | g
  · have := h.fk _ g
    rw [g2] at this
    cases this
  · omega
end Go.Proofs.YtecbdamimnllnaaDoor
/- Contract: why.tell. The graph and what is seen are right; the number is to be made anew; the table of math/bits lies. -/
namespace Go.Proofs.YtecbdamimnllnaaDoor
open Go.RowKit

theorem rd_natW {w : World} {A : Option Addr} {L : List Nat} {j x : Nat} (h : Rd w A (L.map nv)) (hj : L[j]? = some x) : ∃ b o, A = some ⟨b, o, none⟩ ∧ w.cell? ⟨b, o + j, none⟩ = some (.int .i64 (x : Int)) := by
  have hlt := (List.getElem?_eq_some_iff.1 hj).1
  obtain ⟨b, o, hA, hc⟩ := h.at_ (k := j) (by simpa using hlt)
  refine ⟨b, o, hA, ?_⟩
  rw [hc, List.getElem_map, (List.getElem?_eq_some_iff.1 hj).2]
  rfl
theorem B5h {a b c : Nat} (h1 : b ≤ c) (h2 : a ≤ b) : a ≤ c := Nat.le_trans h2 h1
def TellPost (R : List (Nat × Nat × Nat)) (w : World) (e : Ending) (w' : World) : Prop := ∃ ev, e = .returned (wvv ev) ∧ WhyVal w.heap.size w' R ev ∧ Below w.heap.size w w'
section
variable {A1 A2 A3 AR : Option Addr} {n k c1 c2 c3 cR : Nat} {N : List (List UInt8)} {E : List EdgeT} {p m d : Nat} {T : List Int}
set_option maxRecDepth 100000 in
set_option maxHeartbeats 4000000 in
theorem tell_any (l : List Nat) (o : Nat) (ho : B64 o) (hl : l.length = n) (hg : Good l) : ∀ (R : List (Nat × Nat × Nat)) (x : Nat) (w : World), TellR l T p d o x R → x < n → (∀ y, o.testBit y = true → (m ||| p).testBit y = true) → o.testBit x = true → GrIn A1 n A2 k N E p m w → SeIn A3 n T d w → Rd w AR (l.map uv) → Tab w →
    Calls Tryd.prog 16 #[gv A1 n c1 A2 k c2 p m, sx A3 n c3 d, .slice AR n cR, .int .u64 (o : Int), .int .i64 (x : Int)] w (TellPost R w) := by
  intro R
  induction R with
  | nil => intro x w h; exact absurd rfl (tell_ne h)
  | cons r R ih =>
  intro x w htr hx hom hox hG hS hR hT
  have HIH := Lib.hid ih
  have HTR := Lib.hid htr
  have HL := Lib.hid hl
  have HGD := Lib.hid hg
  have HG := Lib.hid hG
  have HS := Lib.hid hS
  have HR := Lib.hid hR
  have HT := Lib.hid hT
  have HO := Lib.hid ho
  have HOM := Lib.hid hom
  have HMB := Lib.hid (hom x hox)
  have hn64 : n ≤ 64 := by have := hg.1; omega
  have hxx : (x : Int) < (n : Int) := by omega
  obtain ⟨x0, y0, v0, z0⟩ := box_ten w (.slice A1 n c1) (.slice A2 k c2) (.int .u64 (p : Int)) (.int .u64 (m : Int)) (.slice A3 n c3) (.int .u64 (d : Int)) zW 26 29 32
  have hblk := Blk.new ((w.alloc (.cells #[.slice A1 n c1, .slice A2 k c2, .int .u64 (p : Int), .int .u64 (m : Int)] 26)).alloc (.cells #[.slice A3 n c3, .int .u64 (d : Int)] 29)) #[.int .i64 0, .int .i64 0, .int .i64 0, .slice none 0 0] 32
  simp only [World.size_alloc] at hblk
  have B2 := Lib.hid z0
  have X2 := Lib.hid x0
  have Y2 := Lib.hid y0
  have HZ := Lib.hid hblk
  obtain ⟨bR, oR, rfl, xr⟩ := hR.set (k := x) (by rw [hl]; exact hx)
  have XR := Lib.hid xr
  have HZL : Hid (w.heap.size ≤ w.heap.size + 1 + 1) := Lib.hid (by omega)
  clear ih htr hl hg hG hS hR hT ho hom hox x0 y0 v0 z0 hblk xr
  unfold gv sx
  go_enter Tryd.func16, Tryd.ntmps16
  go_upto_region 1 with fail
  simp only [zW] at X2 Y2 B2 HZ
  generalize (((w.alloc (.cells #[.slice A1 n c1, .slice A2 k c2, .int .u64 (p : Int), .int .u64 (m : Int)] 26)).alloc (.cells #[.slice A3 n c3, .int .u64 (d : Int)] 29)).alloc (.cells #[.int .i64 0, .int .i64 0, .int .i64 0, .slice none 0 0] 32)) = w2 at *
  generalize hBS : w.heap.size + 1 = BS at *
  generalize hBZ : BS + 1 = BZ0 at *
  clear hBS hBZ
  go_wp2_with fail
  go_loopw [11, 12, 14, 15] (fun y _ _ _ wr => ∃ (c : Nat), y = .int .i64 (c : Int) ∧ 1 ≤ c ∧ c ≤ 5 ∧ Hid (NoC l T p d o x c) ∧ Hid (Below w2.heap.size w2 wr)) (fun y _ _ _ _ => 6 - (intOf y).toNat)
  case atStart => exact ⟨1, rfl, by omega, by omega, Lib.hid (fun c' k' h1 h2 => by omega), Lib.hid (Below.refl _ _)⟩
  case round =>
    obtain ⟨c, rfl, hc1, hc5, HC, HBW⟩ := hrel
    by_cases hc : c < 5
    · have hci : (c : Int) < 5 := by omega
      by_cases h3 : c < 3
      · have HKL : Hid ((needsL l x c).length = 1) := Lib.hid (by unfold needsL; rw [if_pos h3]; rfl)
        have HKS := Lib.hid (needed_lo (c : Int) (by omega))
        have HBM : Hid (Below w2.heap.size w2 (wr.alloc (.cells #[.int .i64 0] 3))) := Lib.hid (below_new HBW.out _)
        have HRK : Hid (Rd (wr.alloc (.cells #[.int .i64 0] 3)) (some ⟨wr.heap.size, 0, none⟩) ((needsL l x c).map nv)) := Lib.hid (by unfold needsL; rw [if_pos h3]; exact rd_lit _ _ _ _ _ rfl rfl)
        go_wp2_with fail
        refine (HKS.out _).mono ?_
        rintro e' w4 ⟨rfl, rfl⟩
        generalize wr.alloc (.cells #[.int .i64 0] 3) = wm at *
        generalize wr.heap.size = bm at *
        go_wp2_with fail
        go_loopw [14, 15, 32] (fun _ _ y wq => ∃ (q : Nat), y = .int .i64 (q : Int) ∧ q ≤ 1 ∧ Hid (NoK l T p d o x c q) ∧ Hid (Below wm.heap.size wm wq)) (fun _ _ y _ => 1 - (intOf y).toNat)
        case atStart => exact ⟨0, rfl, Nat.zero_le _, Lib.hid (fun q' k' hq' => absurd hq' (Nat.not_lt_zero _)), Lib.hid (Below.refl _ _)⟩
        case round =>
          clear HKS
          obtain ⟨q, rfl, hq, HK, HBQ⟩ := hrel
          by_cases hlt : q < 1
          · obtain ⟨kk, hkk⟩ : ∃ kk, (needsL l x c)[q]? = some kk := ⟨(needsL l x c)[q]'(by rw [HKL.out]; exact hlt), List.getElem?_eq_getElem (by rw [HKL.out]; exact hlt)⟩
            have hkn : kk < n := by rw [← HL.out]; exact needs_lt HGD.out (by rw [HL.out]; exact hx) (List.mem_of_getElem? hkk)
            obtain ⟨bK, oK, hKA, zc⟩ := rd_natW (HRK.out.below HBQ.out) hkk
            cases hKA
            (try simp only [Nat.zero_add] at zc)
            have BQ := Lib.hid (below_then HBM.out HBQ.out)
            have HBN := Lib.hid (below_new HBQ.out (.cells #[.int .i64 (x : Int), .int .i64 (c : Int), .int .i64 (kk : Int), .slice none 0 0] 32))
            have BN := Lib.hid (below_then HBM.out HBN.out)
            have BN2 := Lib.hid (below_then B2.out BN.out)
            have hh := holds_any (c1 := c1) (c2 := c2) (c3 := c3) (cR := cR) l _ (HG.out.below BN2.out) (HS.out.below BN2.out) HL.out HGD.out (HR.out.below BN2.out) ⟨(x : Int), (c : Int), (kk : Int), none, 0, 0⟩ 0 (by simp only; omega) (by simp only; omega) (fun h5 => by simp only at h5; omega)
            rw [holds_rsn o (by rw [HL.out]; exact hx) (by rw [HL.out]; exact hkn) (by omega) (by omega) HMB.out] at hh
            unfold gv sx wvv at hh
            have HH := Lib.hid hh
            have HFD := Lib.hid (fun hr => noK_found (l := l) (T := T) (p := p) (d := d) (o := o) HGD.out (by rw [HL.out]; exact hx) (by omega) (by omega) HC.out HK.out hkk hr)
            have HKN := Lib.hid (fun hr => noK_next (l := l) (T := T) (p := p) (d := d) (o := o) HK.out hkk hr)
            obtain ⟨x1, x2, x3, x4⟩ := X2.out.below BN.out
            obtain ⟨y1, y2⟩ := Y2.out.below BN.out
            obtain ⟨q1, q2, q3, q4⟩ := box_why wr ⟨(x : Int), (c : Int), (kk : Int), none, 0, 0⟩ 32
            have VQ := Lib.hid (WyBox.mk (B := wr.heap.size) (e := ⟨(x : Int), (c : Int), (kk : Int), none, 0, 0⟩) q1 q2 q3 q4)
            have HZN := Lib.hid (HZ.out.below BN.out HZ.out.lt)
            clear hh hkk
            go_wp2_with fail
            refine HH.out.mono ?_
            rintro e' w6 ⟨rfl, hb6⟩
            have B6 := Lib.hid (below_then HBN.out hb6)
            have V6 := Lib.hid (VQ.out.below hb6)
            have Z6 := Lib.hid (HZN.out.below hb6 HZN.out.lt)
            clear hb6 x1 x2 x3 x4 y1 y2 zc q1 q2 q3 q4
            cases hrv : rsn l T p d o x c kk with
            | true =>
              have HR1 := Lib.hid ((TellR.stop (HFD.out hrv) (by omega)).un HTR.out)
              obtain ⟨v1, v2, v3, v4⟩ := V6.out
              simp only at v1 v2 v3 v4
              have g0 := Z6.out.cell (j := 0) rfl
              have g1 := Z6.out.cell (j := 1) rfl
              have g2 := Z6.out.cell (j := 2) rfl
              have g3 := Z6.out.cell (j := 3) rfl
              have f0 := Z6.out.free 0
              have f1 := Z6.out.free 1
              have f2 := Z6.out.free 2
              have f3 := Z6.out.free 3
              have RZ := Lib.hid (Z6.out.put4 (.int .i64 (x : Int)) (.int .i64 (c : Int)) (.int .i64 (kk : Int)) (.slice none 0 0))
              have BZ := Lib.hid (below_put4 (below_then B2.out (below_then HBM.out B6.out)) HZL.out (.int .i64 (x : Int)) (.int .i64 (c : Int)) (.int .i64 (kk : Int)) (.slice none 0 0))
              clear hrv
              go_wp2_with fail
              generalize ((((w6.setCell ⟨BZ0, 0, none⟩ (.int .i64 (x : Int))).setCell ⟨BZ0, 1, none⟩ (.int .i64 (c : Int))).setCell ⟨BZ0, 2, none⟩ (.int .i64 (kk : Int))).setCell ⟨BZ0, 3, none⟩ (.slice none 0 0)) = wz at *
              have q1 := RZ.out.cell (j := 0) rfl
              have q2 := RZ.out.cell (j := 1) rfl
              have q3 := RZ.out.cell (j := 2) rfl
              have q4 := RZ.out.cell (j := 3) rfl
              (try simp only [Exit.inBlock, Exit.then])
              refine bodyPost_ret (v := wvv ⟨(x : Int), (c : Int), (kk : Int), none, 0, 0⟩) (by simp [results, Tryd.results16, go_sem, q1, q2, q3, q4, wvv]) rfl ?_
              exact ⟨_, rfl, by rw [← HR1.out]; exact ⟨rfl, rfl, rfl, .inl ⟨rfl, rfl⟩⟩, BZ.out⟩
            | false =>
              have HK2 := Lib.hid (HKN.out hrv)
              clear hrv
              go_wp2_with fail
              exact ⟨⟨q + 1, valW q, hlt, HK2, B6⟩, measW hlt⟩
          · obtain rfl : q = 1 := by omega
            have HC2 := Lib.hid (noK_end (l := l) (T := T) (p := p) (d := d) (o := o) (x := x) HGD.out (by omega) (by omega) HC.out (by rw [HKL.out]; exact HK.out))
            go_wp2_with fail
            exact ⟨⟨c + 1, valW c, by omega, by omega, HC2, Lib.hid (below_then HBM.out HBQ.out)⟩, measW (by omega)⟩
      · have hKN : needsL l x c = nums (rowAt l x) := by unfold needsL; rw [if_neg h3]
        have HKN0 := Lib.hid hKN
        have HKS := Lib.hid (needed_hi (c : Int) (by omega))
        have HLS := Lib.hid (list_any (rowAt l x) (HGD.out.b64 x))
        have xr := cell_keep XR.out (below_then B2.out (below_new HBW.out (.cells #[.int .i64 0] 3)))
        have HBI := Lib.hid (below_new HBW.out (.cells #[.int .i64 0] 3))
        clear hKN
        go_wp2_with fail
        refine (HKS.out _).mono ?_
        rintro e' w4 ⟨rfl, rfl⟩
        go_wp2_with fail
        refine (HLS.out _ (HT.out.below (below_then B2.out HBI.out))).mono ?_
        rintro e' wm ⟨AK, cK, rfl, hownK, hbK⟩
        have HRK : Hid (Rd wm AK ((needsL l x c).map nv)) := Lib.hid (by rw [HKN0.out]; exact Rd.of_own hownK)
        have HBM := Lib.hid (below_then HBI.out hbK)
        have HLEN : Hid ((nums (rowAt l x)).length = (needsL l x c).length) := Lib.hid (by rw [HKN0.out])
        have hK64 : (needsL l x c).length ≤ 64 := by rw [← HLEN.out]; exact nums_len _
        clear hownK hbK xr HBI HLS
        rw [HLEN.out]
        go_wp2_with fail
        go_loopw [14, 15, 32] (fun _ _ y wq => ∃ (q : Nat), y = .int .i64 (q : Int) ∧ q ≤ (needsL l x c).length ∧ Hid (NoK l T p d o x c q) ∧ Hid (Below wm.heap.size wm wq)) (fun _ _ y _ => (needsL l x c).length - (intOf y).toNat)
        case atStart => exact ⟨0, rfl, Nat.zero_le _, Lib.hid (fun q' k' hq' => absurd hq' (Nat.not_lt_zero _)), Lib.hid (Below.refl _ _)⟩
        case round =>
          clear HKS
          obtain ⟨q, rfl, hq, HK, HBQ⟩ := hrel
          by_cases hlt : q < (needsL l x c).length
          · obtain ⟨kk, hkk⟩ : ∃ kk, (needsL l x c)[q]? = some kk := ⟨(needsL l x c)[q]'hlt, List.getElem?_eq_getElem hlt⟩
            have hkn : kk < n := by rw [← HL.out]; exact needs_lt HGD.out (by rw [HL.out]; exact hx) (List.mem_of_getElem? hkk)
            obtain ⟨bK, oK, hKA, zc⟩ := rd_natW (HRK.out.below HBQ.out) hkk
            cases hKA
            (try simp only [Nat.zero_add] at zc)
            have BQ := Lib.hid (below_then HBM.out HBQ.out)
            have HBN := Lib.hid (below_new HBQ.out (.cells #[.int .i64 (x : Int), .int .i64 (c : Int), .int .i64 (kk : Int), .slice none 0 0] 32))
            have BN := Lib.hid (below_then HBM.out HBN.out)
            have BN2 := Lib.hid (below_then B2.out BN.out)
            have hh := holds_any (c1 := c1) (c2 := c2) (c3 := c3) (cR := cR) l _ (HG.out.below BN2.out) (HS.out.below BN2.out) HL.out HGD.out (HR.out.below BN2.out) ⟨(x : Int), (c : Int), (kk : Int), none, 0, 0⟩ 0 (by simp only; omega) (by simp only; omega) (fun h5 => by simp only at h5; omega)
            rw [holds_rsn o (by rw [HL.out]; exact hx) (by rw [HL.out]; exact hkn) (by omega) (by omega) HMB.out] at hh
            unfold gv sx wvv at hh
            have HH := Lib.hid hh
            have HFD := Lib.hid (fun hr => noK_found (l := l) (T := T) (p := p) (d := d) (o := o) HGD.out (by rw [HL.out]; exact hx) (by omega) (by omega) HC.out HK.out hkk hr)
            have HKN := Lib.hid (fun hr => noK_next (l := l) (T := T) (p := p) (d := d) (o := o) HK.out hkk hr)
            obtain ⟨x1, x2, x3, x4⟩ := X2.out.below BN.out
            obtain ⟨y1, y2⟩ := Y2.out.below BN.out
            obtain ⟨q1, q2, q3, q4⟩ := box_why wr ⟨(x : Int), (c : Int), (kk : Int), none, 0, 0⟩ 32
            have VQ := Lib.hid (WyBox.mk (B := wr.heap.size) (e := ⟨(x : Int), (c : Int), (kk : Int), none, 0, 0⟩) q1 q2 q3 q4)
            have HZN := Lib.hid (HZ.out.below BN.out HZ.out.lt)
            clear hh hkk
            go_wp2_with fail
            refine HH.out.mono ?_
            rintro e' w6 ⟨rfl, hb6⟩
            have B6 := Lib.hid (below_then HBN.out hb6)
            have V6 := Lib.hid (VQ.out.below hb6)
            have Z6 := Lib.hid (HZN.out.below hb6 HZN.out.lt)
            clear hb6 x1 x2 x3 x4 y1 y2 zc q1 q2 q3 q4
            cases hrv : rsn l T p d o x c kk with
            | true =>
              have HR1 := Lib.hid ((TellR.stop (HFD.out hrv) (by omega)).un HTR.out)
              obtain ⟨v1, v2, v3, v4⟩ := V6.out
              simp only at v1 v2 v3 v4
              have g0 := Z6.out.cell (j := 0) rfl
              have g1 := Z6.out.cell (j := 1) rfl
              have g2 := Z6.out.cell (j := 2) rfl
              have g3 := Z6.out.cell (j := 3) rfl
              have f0 := Z6.out.free 0
              have f1 := Z6.out.free 1
              have f2 := Z6.out.free 2
              have f3 := Z6.out.free 3
              have RZ := Lib.hid (Z6.out.put4 (.int .i64 (x : Int)) (.int .i64 (c : Int)) (.int .i64 (kk : Int)) (.slice none 0 0))
              have BZ := Lib.hid (below_put4 (below_then B2.out (below_then HBM.out B6.out)) HZL.out (.int .i64 (x : Int)) (.int .i64 (c : Int)) (.int .i64 (kk : Int)) (.slice none 0 0))
              clear hrv
              go_wp2_with fail
              generalize ((((w6.setCell ⟨BZ0, 0, none⟩ (.int .i64 (x : Int))).setCell ⟨BZ0, 1, none⟩ (.int .i64 (c : Int))).setCell ⟨BZ0, 2, none⟩ (.int .i64 (kk : Int))).setCell ⟨BZ0, 3, none⟩ (.slice none 0 0)) = wz at *
              have q1 := RZ.out.cell (j := 0) rfl
              have q2 := RZ.out.cell (j := 1) rfl
              have q3 := RZ.out.cell (j := 2) rfl
              have q4 := RZ.out.cell (j := 3) rfl
              (try simp only [Exit.inBlock, Exit.then])
              refine bodyPost_ret (v := wvv ⟨(x : Int), (c : Int), (kk : Int), none, 0, 0⟩) (by simp [results, Tryd.results16, go_sem, q1, q2, q3, q4, wvv]) rfl ?_
              exact ⟨_, rfl, by rw [← HR1.out]; exact ⟨rfl, rfl, rfl, .inl ⟨rfl, rfl⟩⟩, BZ.out⟩
            | false =>
              have HK2 := Lib.hid (HKN.out hrv)
              clear hrv
              go_wp2_with fail
              exact ⟨⟨q + 1, valW q, hlt, HK2, B6⟩, measW hlt⟩
          · obtain rfl : q = (needsL l x c).length := by omega
            have HC2 := Lib.hid (noK_end (l := l) (T := T) (p := p) (d := d) (o := o) (x := x) HGD.out (by omega) (by omega) HC.out HK.out)
            go_wp2_with fail
            exact ⟨⟨c + 1, valW c, by omega, by omega, HC2, Lib.hid (below_then HBM.out HBQ.out)⟩, measW (by omega)⟩
    · obtain rfl : c = 5 := by omega
      obtain ⟨k5, R', hRR, hf5, ht5⟩ := tell_last HTR.out HC.out
      have hk5 : k5 < n := by rw [← HL.out]; exact hf5.kn
      have hand : bits .and .u64 ((rowAt l x : Nat) : Int) (o : Int) = ((rowAt l x &&& o : Nat) : Int) := u64_and_nat _ _ (HGD.out.b64 x) HO.out
      obtain ⟨hl0, hl1⟩ := five_low HGD.out hf5
      have hb5 : (rowAt l x).testBit k5 = true ∧ o.testBit k5 = true := by have := hf5.is; unfold rsn at this; simpa using this
      have BW := Lib.hid (below_then B2.out HBW.out)
      have HNX := Lib.hid (next_yes (rowAt l x &&& o) ((0 : Nat) : Int) (B64.and (HGD.out.b64 x)) hl0 wr (HT.out.below BW.out))
      rw [hl1] at HNX
      injection hRR with hr1 hr2
      subst hr1 hr2
      have HII := Lib.hid (HIH.out k5 wr ht5 hk5 HOM.out hb5.2 (HG.out.below BW.out) (HS.out.below BW.out) (HR.out.below BW.out) (HT.out.below BW.out))
      have HNE := Lib.hid (tell_ne ht5)
      have xr := cell_keep XR.out BW.out
      obtain ⟨x1, x2, x3, x4⟩ := X2.out.below HBW.out
      obtain ⟨y1, y2⟩ := Y2.out.below HBW.out
      have HZL2 := Lib.hid HZ.out.lt
      have HZW := Lib.hid (HZ.out.below HBW.out HZ.out.lt)
      have hsW := HBW.out.size
      clear hl0 hl1 hf5 ht5 hb5 HIH
      unfold gv sx at HII
      go_wp2_with fail
      refine HNX.out.mono ?_
      rintro e' w4 ⟨rfl, rfl⟩
      go_wp2_with fail
      refine HII.out.mono ?_
      rintro e' w5 ⟨⟨en, ec, ek, eA, em, ecap⟩, rfl, hwv, hb5⟩
      have HWV := Lib.hid hwv
      have HB5 := Lib.hid hb5
      have B5 := Lib.hid (below_new (below_then BW.out hb5) (.cells #[.int .i64 en, .int .i64 ec, .int .i64 ek, .slice eA em ecap] 32))
      have Z5 := Lib.hid ((HZW.out.below hb5 HZW.out.lt).below (w' := w5.alloc (.cells #[.int .i64 en, .int .i64 ec, .int .i64 ek, .slice eA em ecap] 32)) (B := w5.heap.size) ((Below.refl _ _).alloc (Nat.le_refl _) _) (HZW.out.below hb5 HZW.out.lt).lt)
      obtain ⟨q1, q2, q3, q4⟩ := box_why w5 ⟨en, ec, ek, eA, em, ecap⟩ 32
      have VQ := Lib.hid (WyBox.mk (B := w5.heap.size) (e := ⟨en, ec, ek, eA, em, ecap⟩) q1 q2 q3 q4)
      have HW5 := Lib.hid (hwv.below (below_new (Below.refl w5.heap.size w5) (.cells #[.int .i64 en, .int .i64 ec, .int .i64 ek, .slice eA em ecap] 32)))
      have g0 := Z5.out.cell (j := 0) rfl
      have g1 := Z5.out.cell (j := 1) rfl
      have g2 := Z5.out.cell (j := 2) rfl
      have g3 := Z5.out.cell (j := 3) rfl
      have f0 := Z5.out.free 0
      have f1 := Z5.out.free 1
      have f2 := Z5.out.free 2
      have f3 := Z5.out.free 3
      clear hwv hb5 x1 x2 x3 x4 y1 y2 xr q1 q2 q3 q4
      unfold wvv
      have RZ := Lib.hid (Z5.out.put4 (.int .i64 (x : Int)) (.int .i64 5) (.int .i64 (k5 : Int)) (.slice (some ⟨w5.heap.size, 0, none⟩) 1 1))
      have BZ := Lib.hid (below_put4 B5.out HZL.out (.int .i64 (x : Int)) (.int .i64 5) (.int .i64 (k5 : Int)) (.slice (some ⟨w5.heap.size, 0, none⟩) 1 1))
      have hne : w5.heap.size ≠ BZ0 := by have := HB5.out.size; have := HZL2.out; omega
      have hzb : BZ0 < wr.heap.size := by have := HZL2.out; omega
      have HWZ : Hid (WhyVal w.heap.size ((((((w5.alloc (.cells #[.int .i64 en, .int .i64 ec, .int .i64 ek, .slice eA em ecap] 32)).setCell ⟨BZ0, 0, none⟩ (.int .i64 (x : Int))).setCell ⟨BZ0, 1, none⟩ (.int .i64 5)).setCell ⟨BZ0, 2, none⟩ (.int .i64 (k5 : Int))).setCell ⟨BZ0, 3, none⟩ (.slice (some ⟨w5.heap.size, 0, none⟩) 1 1))) ((x, 5, k5) :: R) ⟨(x : Int), 5, (k5 : Int), some ⟨w5.heap.size, 0, none⟩, 1, 1⟩) := Lib.hid (by
        obtain ⟨v1, v2, v3, v4⟩ := VQ.out
        refine ⟨rfl, rfl, rfl, .inr ⟨HNE.out, rfl, w5.heap.size, 0, ⟨en, ec, ek, eA, em, ecap⟩, rfl, B5h HB5.out.size BW.out.size, cell_put4W v1 hne _ _ _ _, cell_put4W v2 hne _ _ _ _, cell_put4W v3 hne _ _ _ _, cell_put4W v4 hne _ _ _ _, ?_⟩⟩
        exact ((((HW5.out.set hzb _).set hzb _).set hzb _).set hzb _).base BW.out.size)
      clear HW5 HWV VQ Z5
      go_wp2_with fail
      generalize ((((((w5.alloc (.cells #[.int .i64 en, .int .i64 ec, .int .i64 ek, .slice eA em ecap] 32)).setCell ⟨BZ0, 0, none⟩ (.int .i64 (x : Int))).setCell ⟨BZ0, 1, none⟩ (.int .i64 5)).setCell ⟨BZ0, 2, none⟩ (.int .i64 (k5 : Int))).setCell ⟨BZ0, 3, none⟩ (.slice (some ⟨w5.heap.size, 0, none⟩) 1 1))) = wz at *
      have q1 := RZ.out.cell (j := 0) rfl
      have q2 := RZ.out.cell (j := 1) rfl
      have q3 := RZ.out.cell (j := 2) rfl
      have q4 := RZ.out.cell (j := 3) rfl
      (try simp only [Exit.inBlock, Exit.then])
      refine bodyPost_ret (v := wvv ⟨(x : Int), 5, (k5 : Int), some ⟨w5.heap.size, 0, none⟩, 1, 1⟩) (by simp [results, Tryd.results16, go_sem, q1, q2, q3, q4, wvv]) rfl ?_
      exact ⟨_, rfl, HWZ.out, BZ.out⟩
end
end Go.Proofs.YtecbdamimnllnaaDoor
