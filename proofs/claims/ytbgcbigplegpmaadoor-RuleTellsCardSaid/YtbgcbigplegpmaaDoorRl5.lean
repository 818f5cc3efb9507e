/- Contract: the reference's RuleRead. Texts of at most 500 bytes. -/
import Derived.Test.YtbgcbigplegpmaaDoorRl4
import Derived.Deep.RegionHeld3
namespace Go.Proofs.YtbgcbigplegpmaaDoor
open Go.RowKit

/-- What lies behind the drawn region: a rule in a block of its own, and where its lists lie. -/
structure RdPk (V R : Nat) (A1 : Option Addr) (c1 : Nat) (A2 : Option Addr) (c2 : Nat) (r : RuleT) (w1 wf : World) : Prop where
  blk : Blk wf R 24 [.slice A1 r.1.length c1, .slice A2 r.2.length c2]
  rl : RlIn A1 r.1.length c1 A2 r.2.length c2 r wf
  bel : Below w1.heap.size w1 wf
  n1 : ∀ g off, A1 = some ⟨g, off, none⟩ → 0 < (r.1.map sv).length → g ≠ V
  n2 : ∀ g off, A2 = some ⟨g, off, none⟩ → 0 < (r.2.map sv).length → g ≠ V
theorem RlIn.set {A1 A2 : Option Addr} {n1 c1 n2 c2 b : Nat} {r : RuleT} {w : World} (h : RlIn A1 n1 c1 A2 n2 c2 r w) (h1 : ∀ g off, A1 = some ⟨g, off, none⟩ → 0 < (r.1.map sv).length → g ≠ b) (h2 : ∀ g off, A2 = some ⟨g, off, none⟩ → 0 < (r.2.map sv).length → g ≠ b) (x y : Value) :
    RlIn A1 n1 c1 A2 n2 c2 r ((w.setCell ⟨b, 0, none⟩ x).setCell ⟨b, 1, none⟩ y) :=
  ⟨rd_setR (rd_setR h.t h1) h1, rd_setR (rd_setR h.n h2) h2, h.tl, h.nl, h.tb, h.nb, h.tc, h.nc, h.ts, h.ns⟩
section
variable {V : Nat} {A1 A2 : Option Addr} {c1 c2 : Nat} {ts ns : List (List UInt8)} {w1 u1 u2 : World}
def InF (ts ns : List (List UInt8)) : Prop := ∀ (W : World) (B1 B2 : Nat) (A1 A2 : Option Addr) (c1 c2 : Nat), W.ownsRow B1 9 1 (.slice A1 ts.length c1) ts.length (ts.map sv) → W.ownsRow B2 9 1 (.slice A2 ns.length c2) ns.length (ns.map sv) → RlIn A1 ts.length c1 A2 ns.length c2 (ts, ns) W
theorem rdPk_1 (HI : InF ts ns) (hV : V < w1.heap.size) (h1 : Below w1.drew.heap.size w1.drew u1) (ho1 : u1.ownsRow w1.drew.heap.size 9 1 (.slice A1 ts.length c1) ts.length (ts.map sv)) (h2 : Below u1.heap.size u1 u2) (ho2 : u2.ownsRow u1.heap.size 9 1 (.slice A2 ns.length c2) ns.length (ns.map sv)) (b2 : Below w1.heap.size w1 u2) :
    RdPk V u2.heap.size A1 c1 A2 c2 (ts, ns) w1 (u2.alloc (.cells #[.slice A1 ts.length c1, .slice A2 ns.length c2] 24)) := by
  have hs : w1.heap.size ≤ u1.heap.size := h1.size
  have hal := below_new (Below.refl u2.heap.size u2) (.cells #[.slice A1 ts.length c1, .slice A2 ns.length c2] 24)
  exact ⟨Blk.new u2 _ _, (HI _ _ _ _ _ _ _ (own_below ho1 h2) ho2).below hal, below_newL b2 hal, rd_own_ne ho1 hV, rd_own_ne ho2 (by omega)⟩
theorem rdPk_2 (HI : InF ts ns) (hV : V < w1.heap.size) (h1 : Below w1.drew.heap.size w1.drew u1) (ho1 : u1.ownsRow w1.drew.heap.size 9 1 (.slice A1 ts.length c1) ts.length (ts.map sv)) (_b1 : Below w1.heap.size w1 u1)
    (h2 : Below (u1.alloc (.cells #[.slice none 0 0, .slice none 0 0] 24)).heap.size (u1.alloc (.cells #[.slice none 0 0, .slice none 0 0] 24)) u2)
    (ho2 : u2.ownsRow (u1.alloc (.cells #[.slice none 0 0, .slice none 0 0] 24)).heap.size 9 1 (.slice A2 ns.length c2) ns.length (ns.map sv)) (b2 : Below w1.heap.size w1 u2) (kb : Blk u2 u1.heap.size 24 [.slice none 0 0, .slice none 0 0]) :
    RdPk V u1.heap.size A1 c1 A2 c2 (ts, ns) w1 ((u2.setCell ⟨u1.heap.size, 0, none⟩ (.slice A1 ts.length c1)).setCell ⟨u1.heap.size, 1, none⟩ (.slice A2 ns.length c2)) := by
  have hs : w1.heap.size ≤ u1.heap.size := h1.size
  have hal := below_new (Below.refl u1.heap.size u1) (.cells #[.slice none 0 0, .slice none 0 0] 24)
  have hz : (u1.alloc (.cells #[.slice none 0 0, .slice none 0 0] 24)).heap.size = u1.heap.size + 1 := by simp
  have ho1' := own_below (own_below ho1 hal) h2
  refine ⟨(kb.same 0 _).same 1 _, (HI _ _ _ _ _ _ _ ho1' ho2).set (fun g off hA hp => ?_) (rd_own_ne ho2 (by omega)) _ _, (b2.setCell (p := ⟨u1.heap.size, 0, none⟩) hs _).setCell (p := ⟨u1.heap.size, 1, none⟩) hs _, rd_own_ne ho1 hV, rd_own_ne ho2 (by omega)⟩
  obtain ⟨b, o, hA', hlt, _⟩ := Rd.of_own ho1 hp
  rw [hA] at hA'
  injection hA' with hA'
  injection hA' with hA' _ _
  omega
theorem rdPk_3 (HI : InF ts ns) (hV : V < w1.heap.size)
    (h1 : Below (w1.alloc (.cells #[.slice none 0 0, .slice none 0 0] 24)).drew.heap.size (w1.alloc (.cells #[.slice none 0 0, .slice none 0 0] 24)).drew u1)
    (ho1 : u1.ownsRow (w1.alloc (.cells #[.slice none 0 0, .slice none 0 0] 24)).drew.heap.size 9 1 (.slice A1 ts.length c1) ts.length (ts.map sv))
    (h2 : Below u1.heap.size u1 u2) (ho2 : u2.ownsRow u1.heap.size 9 1 (.slice A2 ns.length c2) ns.length (ns.map sv)) (b2 : Below w1.heap.size w1 u2) (kb : Blk u2 w1.heap.size 24 [.slice none 0 0, .slice none 0 0]) :
    RdPk V w1.heap.size A1 c1 A2 c2 (ts, ns) w1 ((u2.setCell ⟨w1.heap.size, 0, none⟩ (.slice A1 ts.length c1)).setCell ⟨w1.heap.size, 1, none⟩ (.slice A2 ns.length c2)) := by
  have hz : (w1.alloc (.cells #[.slice none 0 0, .slice none 0 0] 24)).drew.heap.size = w1.heap.size + 1 := by show (w1.alloc _).heap.size = _; simp
  have hs := h1.size
  refine ⟨(kb.same 0 _).same 1 _, (HI _ _ _ _ _ _ _ (own_below ho1 h2) ho2).set (rd_own_ne ho1 (by omega)) (rd_own_ne ho2 (by omega)) _ _, (b2.setCell (p := ⟨w1.heap.size, 0, none⟩) (Nat.le_refl _) _).setCell (p := ⟨w1.heap.size, 1, none⟩) (Nat.le_refl _) _, rd_own_ne ho1 (by omega), rd_own_ne ho2 (by omega)⟩
end
set_option maxRecDepth 100000 in
set_option maxHeartbeats 4000000 in
theorem rRuleRead_any (s : List UInt8) (w : World) (hl : s.length ≤ 500) : Calls Tryd.prog 7 #[.string ⟨s.toArray⟩] w (PaPost s w) := by
  have HL := Lib.hid hl
  have HSP := Lib.hid (fun W => rSplit_any s 58 (by omega) W)
  have HBK := Lib.hid (show Blk (w.alloc (.cells #[.slice none 0 0, .slice none 0 0] 24)) w.heap.size 24 [.slice none 0 0, .slice none 0 0] from Blk.new w _ _)
  have HB0 := Lib.hid (below_new (Below.refl w.heap.size w) (.cells #[.slice none 0 0, .slice none 0 0] 24))
  have hszs : (⟨s.toArray⟩ : ByteArray).size ≤ 500 := hl
  have HEX := Lib.hid (fun i => ext_dropL (strIsL s) i)
  clear hl
  go_enter Tryd.func7, Tryd.ntmps7
  go_upto_region 1 with fail
  generalize w.alloc (.cells #[.slice none 0 0, .slice none 0 0] 24) = w0 at *
  have HSZ : Hid ((⟨s.toArray⟩ : ByteArray).size = s.length) := Lib.hid rfl
  generalize hbs : (⟨s.toArray⟩ : ByteArray) = bs at *
  have HBS := Lib.hid hbs
  clear hbs
  go_wp2_with fail
  refine (HSP.out _).mono ?_
  rintro e w1 ⟨g, kc, X, U, hxu, rfl, hown, hxl, hb1⟩
  have HB1 := Lib.hid (below_then HB0.out hb1)
  have HK1 := Lib.hid (HBK.out.below hb1 HBK.out.lt)
  clear hb1
  by_cases hm : (58 : UInt8) ∈ s
  · obtain ⟨k, hk1, hk2⟩ : ∃ k, s[k]? = some 58 ∧ (58 : UInt8) ∉ s.take k := by
      refine ⟨s.idxOf 58, ?_, ?_⟩
      · have h1 := List.idxOf_lt_length_of_mem hm
        rw [List.getElem?_eq_getElem h1, List.getElem_idxOf h1]
      · intro hc
        obtain ⟨j, hj⟩ := List.mem_iff_getElem?.1 hc
        rw [List.getElem?_take] at hj
        split at hj
        · rename_i hlt
          have := List.not_of_lt_findIdx (p := (· == (58 : UInt8))) (xs := s) (i := j) hlt
          obtain ⟨hj1, hj2⟩ := List.getElem?_eq_some_iff.1 hj
          simp at this
          exact this hj2
        · cases hj
    obtain ⟨Y, hY⟩ := spF_some hk1 hk2
    rw [hxu] at hY
    simp only at hY
    subst hY
    have hkl := (List.getElem?_eq_some_iff.1 hk1).1
    obtain ⟨ts, hts⟩ : ∃ ts, wordsL (s.take k) = ts := ⟨_, rfl⟩
    obtain ⟨ns, hns⟩ : ∃ ns, wordsL (s.drop (k + 1)) = ns := ⟨_, rfl⟩
    have hxl2 := take_le500 HL.out k
    have hyl := drop_le500 HL.out (k + 1)
    have HQ : Hid (halves s = (ts, ns)) := Lib.hid (by rw [halves_at hk1 hk2, ← hts, ← hns])
    have HM : Hid ((58 : UInt8) ∈ s) := Lib.hid hm
    have CW1 := Lib.hid (fun W => rWordsOf_any (s.take k) (by omega) W)
    have CW2 := Lib.hid (fun W => rWordsOf_any (s.drop (k + 1)) (by omega) W)
    unfold WordsPost at CW1 CW2
    have HIN := Lib.hid (fun (W : World) (B1 B2 : Nat) (A1 A2 : Option Addr) (c1 c2 : Nat) h1 h2 => rlIn_words (w := W) (B1 := B1) (B2 := B2) (A1 := A1) (A2 := A2) (c1 := c1) (c2 := c2) (x := s.take k) (y := s.drop (k + 1)) h1 h2 hxl2 hyl)
    rw [hts] at CW1 HIN
    rw [hns] at CW2 HIN
    have hcell : w1.cell? ⟨g, 0, none⟩ = some (.string ⟨(s.take k).toArray⟩) := by
      have h := hown.cells (g := g) rfl 0 (.string ⟨(s.take k).toArray⟩) (by simp [svL])
      simpa [Addr.add] using h
    have hszk : (⟨(s.take k).toArray⟩ : ByteArray).size = k := by show (s.take k).length = k; rw [List.length_take]; omega
    obtain ⟨bn, hbn⟩ : ∃ bn, bs.extract (k + 1) bs.size = bn := ⟨_, rfl⟩
    rw [← HEX.out (k + 1), hbn] at CW2
    generalize hbk : (⟨(s.take k).toArray⟩ : ByteArray) = bk at *
    obtain ⟨m, hm2⟩ : ∃ m, (s.take k :: Y).length + 1 = m := ⟨_, rfl⟩
    have hm0 : (0 : Int) < (m : Int) := by simp at hm2; omega
    have hm0n : 0 < m := by omega
    have hne1 : ((m : Int) == 1) = false := by simp at hm2; simp; omega
    have hk0 : (0 : Int) ≤ (k : Int) + 1 := by omega
    have hkb : (k : Int) + 1 ≤ (bs.size : Int) := by rw [HSZ.out]; omega
    have hkw : IntKind.i64.wrap ((k : Int) + 1) = (k : Int) + 1 := by rw [IntKind.wrap_i64]; omega
    have HCL := Lib.hid hcell
    have HLT : Hid (w.heap.size < w1.heap.size) := Lib.hid HK1.out.lt
    clear hm hk1 hk2 hxu hown hxl hkl hts hns hxl2 hyl hbk
    rw [hm2]
    clear hm2
    go_wp2_with fail
    have HSL := Lib.hid (fun W (hW : Below w1.heap.size w1 W) => (⟨cell_kept HCL.out hW, hW⟩ : W.cell? ⟨g, 0, none⟩ = some (.string bk) ∧ Below w1.heap.size w1 W))
    have b0 := Below.refl w1.heap.size w1
    have bd : Below w1.heap.size w1 w1.drew := Below.drew b0
    have z0 : w1.heap.size ≤ w1.heap.size := Nat.le_refl _
    go_region_held3 (fun W => W.cell? ⟨g, 0, none⟩ = some (.string bk) ∧ Below w1.heap.size w1 W)
      ((refine HSL.out _ ?_; first | assumption | exact Below.drew (by assumption) | exact below_newL (by assumption) (below_new (Below.refl _ _) _) | exact Below.drew (below_newL (by assumption) (below_new (Below.refl _ _) _)) | exact Below.setCell (p := ⟨_, 1, none⟩) (Below.setCell (p := ⟨_, 0, none⟩) (by assumption) (by assumption) _) (by assumption) _ | exact below_newL (by assumption) (below_new (Below.refl _ _) _)))
      ((first
        | (go_at_call 21; (with_reducible refine (CW1.out _).mono ?_); rintro e u1 ⟨A1, c1, rfl, ho1, h1⟩; have b1 := below_then (by first | assumption | exact Below.drew (by assumption) | exact below_newL (by assumption) (below_new (Below.refl _ _) _) | exact Below.drew (below_newL (by assumption) (below_new (Below.refl _ _) _))) h1; have z1 := b1.size; (first | (have ka := (show Blk (w1.alloc (.cells #[.slice none 0 0, .slice none 0 0] 24)).drew w1.heap.size 24 [.slice none 0 0, .slice none 0 0] from Blk.new w1 #[.slice none 0 0, .slice none 0 0] 24).below h1 (by show _ < (w1.alloc _).heap.size; simp); have q0 := ka.cell (j := 0) rfl; have q1 := ka.cell (j := 1) rfl; have q2 := ka.free 0; have q3 := ka.free 1) | skip))
        | (go_at_call 21; (with_reducible refine (CW2.out _).mono ?_); rintro e u2 ⟨A2, c2, rfl, ho2, h2⟩; have b2 := below_then (by first | assumption | exact Below.drew (by assumption) | exact below_newL (by assumption) (below_new (Below.refl _ _) _) | exact Below.drew (below_newL (by assumption) (below_new (Below.refl _ _) _))) h2; (first | (have kb := (Blk.new u1 #[.slice none 0 0, .slice none 0 0] 24).below h2 (by simp); have q0 := kb.cell (j := 0) rfl; have q1 := kb.cell (j := 1) rfl; have q2 := kb.free 0; have q3 := kb.free 1) | (have kb := ka.below h2 ka.lt; have q0 := kb.cell (j := 0) rfl; have q1 := kb.cell (j := 1) rfl; have q2 := kb.free 0; have q3 := kb.free 1) | skip))))
    · have HPK : Hid (RdPk w.heap.size u2.heap.size A1 c1 A2 c2 (ts, ns) w1 (u2.alloc (.cells #[.slice A1 ts.length c1, .slice A2 ns.length c2] 24))) := Lib.hid (rdPk_1 HIN.out HLT.out h1 ho1 h2 ho2 b2)
      clear ho1 h1 b1 z1 ho2 h2 b2 bd b0 z0 HSL CW1 CW2 hszk hcell hm0 hm0n hne1 hk0 hkb hkw
      generalize hW : u2.alloc (.cells #[.slice A1 ts.length c1, .slice A2 ns.length c2] 24) = wf at *
      generalize hR : u2.heap.size = BR at *
      clear hW hR
      have HCK := Lib.hid (rFault_any wf HPK.out.rl)
      unfold rlV at HCK
      have HK4 := Lib.hid (HK1.out.below HPK.out.bel HK1.out.lt)
      have HB4 := Lib.hid (below_then HB1.out HPK.out.bel)
      have hr0 := HPK.out.blk.cell (j := 0) rfl
      have hr1 := HPK.out.blk.cell (j := 1) rfl
      simp only [] at HCK hr0 hr1
      go_wp2_with fail
      refine HCK.out.mono ?_
      rintro e w5 ⟨rfl, hb5⟩
      have HB5 := Lib.hid (below_then HB4.out hb5)
      have HK5 := Lib.hid (HK4.out.below hb5 HK4.out.lt)
      have HKR5 := Lib.hid (HPK.out.blk.below hb5 HPK.out.blk.lt)
      have HRL5 := Lib.hid (HPK.out.rl.below hb5)
      clear hb5 hr0 hr1
      have hc0 := HK5.out.cell (j := 0) rfl
      have hc1 := HK5.out.cell (j := 1) rfl
      have hf0 := HK5.out.free 0
      have hf1 := HK5.out.free 1
      have hr0 := HKR5.out.cell (j := 0) rfl
      have hr1 := HKR5.out.cell (j := 1) rfl
      simp only [] at hr0 hr1
      by_cases h0 : rlE (ts, ns) = 0
      · have HP : Hid (parseR s = (0, (ts, ns))) := Lib.hid (by rw [← HQ.out]; exact parse_good HM.out (by rw [HQ.out]; exact h0))
        rw [h0]
        clear h0
        go_wp2_with fail
        have RZ := Lib.hid ((HK5.out.same 0 (.slice A1 ts.length c1)).same 1 (.slice A2 ns.length c2))
        have BZ := Lib.hid ((HB5.out.setCell (p := ⟨w.heap.size, 0, none⟩) (Nat.le_refl _) (.slice A1 ts.length c1)).setCell (p := ⟨w.heap.size, 1, none⟩) (Nat.le_refl _) (.slice A2 ns.length c2))
        have R1 := Lib.hid (rd_setR (j := 1) (v := .slice A2 ns.length c2) (rd_setR (j := 0) (v := .slice A1 ts.length c1) HRL5.out.t HPK.out.n1) HPK.out.n1)
        have R2 := Lib.hid (rd_setR (j := 1) (v := .slice A2 ns.length c2) (rd_setR (j := 0) (v := .slice A1 ts.length c1) HRL5.out.n HPK.out.n2) HPK.out.n2)
        generalize (w5.setCell ⟨w.heap.size, 0, none⟩ (.slice A1 ts.length c1)).setCell ⟨w.heap.size, 1, none⟩ (.slice A2 ns.length c2) = wz at *
        have q1 := RZ.out.cell (j := 0) rfl
        have q2 := RZ.out.cell (j := 1) rfl
        refine bodyPost_ret (v := .tuple #[.agg #[.slice A1 ts.length c1, .slice A2 ns.length c2], .int .i64 0]) (by simp [results, Tryd.results7, go_sem, q1, q2]) rfl ?_
        exact ⟨_, _, _, _, by rw [HP.out]; rfl, by rw [HP.out]; exact R1.out, by rw [HP.out]; exact R2.out, BZ.out⟩
      · have HP : Hid (parseR s = (rlE (ts, ns), ([], []))) := Lib.hid (by rw [← HQ.out]; exact parse_bad HM.out (by rw [HQ.out]; exact h0))
        have hn0 : (((rlE (ts, ns) : Nat) : Int) != 0) = true := by simp; omega
        clear h0
        go_wp2_with fail
        have RZ := Lib.hid ((HK5.out.same 0 (.slice none 0 0)).same 1 (.slice none 0 0))
        have BZ := Lib.hid ((HB5.out.setCell (p := ⟨w.heap.size, 0, none⟩) (Nat.le_refl _) (.slice none 0 0)).setCell (p := ⟨w.heap.size, 1, none⟩) (Nat.le_refl _) (.slice none 0 0))
        generalize (w5.setCell ⟨w.heap.size, 0, none⟩ (.slice none 0 0)).setCell ⟨w.heap.size, 1, none⟩ (.slice none 0 0) = wz at *
        have q1 := RZ.out.cell (j := 0) rfl
        have q2 := RZ.out.cell (j := 1) rfl
        refine bodyPost_ret (v := .tuple #[.agg #[.slice none 0 0, .slice none 0 0], .int .i64 ((rlE (ts, ns) : Nat) : Int)]) (by simp [results, Tryd.results7, go_sem, q1, q2]) rfl ?_
        exact ⟨none, 0, none, 0, by rw [HP.out]; rfl, Rd.cast_nil (by rw [HP.out]), Rd.cast_nil (by rw [HP.out]), BZ.out⟩
    · have HPK : Hid (RdPk w.heap.size u1.heap.size A1 c1 A2 c2 (ts, ns) w1 ((u2.setCell ⟨u1.heap.size, 0, none⟩ (.slice A1 ts.length c1)).setCell ⟨u1.heap.size, 1, none⟩ (.slice A2 ns.length c2))) := Lib.hid (rdPk_2 HIN.out HLT.out h1 ho1 b1 h2 ho2 b2 kb)
      clear ho1 h1 b1 z1 ho2 h2 b2 bd b0 z0 HSL CW1 CW2 hszk hcell hm0 hm0n hne1 hk0 hkb hkw kb q0 q1 q2 q3
      generalize hW : (u2.setCell ⟨u1.heap.size, 0, none⟩ (.slice A1 ts.length c1)).setCell ⟨u1.heap.size, 1, none⟩ (.slice A2 ns.length c2) = wf at *
      generalize hR : u1.heap.size = BR at *
      clear hW hR
      have HCK := Lib.hid (rFault_any wf HPK.out.rl)
      unfold rlV at HCK
      have HK4 := Lib.hid (HK1.out.below HPK.out.bel HK1.out.lt)
      have HB4 := Lib.hid (below_then HB1.out HPK.out.bel)
      have hr0 := HPK.out.blk.cell (j := 0) rfl
      have hr1 := HPK.out.blk.cell (j := 1) rfl
      simp only [] at HCK hr0 hr1
      go_wp2_with fail
      refine HCK.out.mono ?_
      rintro e w5 ⟨rfl, hb5⟩
      have HB5 := Lib.hid (below_then HB4.out hb5)
      have HK5 := Lib.hid (HK4.out.below hb5 HK4.out.lt)
      have HKR5 := Lib.hid (HPK.out.blk.below hb5 HPK.out.blk.lt)
      have HRL5 := Lib.hid (HPK.out.rl.below hb5)
      clear hb5 hr0 hr1
      have hc0 := HK5.out.cell (j := 0) rfl
      have hc1 := HK5.out.cell (j := 1) rfl
      have hf0 := HK5.out.free 0
      have hf1 := HK5.out.free 1
      have hr0 := HKR5.out.cell (j := 0) rfl
      have hr1 := HKR5.out.cell (j := 1) rfl
      simp only [] at hr0 hr1
      by_cases h0 : rlE (ts, ns) = 0
      · have HP : Hid (parseR s = (0, (ts, ns))) := Lib.hid (by rw [← HQ.out]; exact parse_good HM.out (by rw [HQ.out]; exact h0))
        rw [h0]
        clear h0
        go_wp2_with fail
        have RZ := Lib.hid ((HK5.out.same 0 (.slice A1 ts.length c1)).same 1 (.slice A2 ns.length c2))
        have BZ := Lib.hid ((HB5.out.setCell (p := ⟨w.heap.size, 0, none⟩) (Nat.le_refl _) (.slice A1 ts.length c1)).setCell (p := ⟨w.heap.size, 1, none⟩) (Nat.le_refl _) (.slice A2 ns.length c2))
        have R1 := Lib.hid (rd_setR (j := 1) (v := .slice A2 ns.length c2) (rd_setR (j := 0) (v := .slice A1 ts.length c1) HRL5.out.t HPK.out.n1) HPK.out.n1)
        have R2 := Lib.hid (rd_setR (j := 1) (v := .slice A2 ns.length c2) (rd_setR (j := 0) (v := .slice A1 ts.length c1) HRL5.out.n HPK.out.n2) HPK.out.n2)
        generalize (w5.setCell ⟨w.heap.size, 0, none⟩ (.slice A1 ts.length c1)).setCell ⟨w.heap.size, 1, none⟩ (.slice A2 ns.length c2) = wz at *
        have q1 := RZ.out.cell (j := 0) rfl
        have q2 := RZ.out.cell (j := 1) rfl
        refine bodyPost_ret (v := .tuple #[.agg #[.slice A1 ts.length c1, .slice A2 ns.length c2], .int .i64 0]) (by simp [results, Tryd.results7, go_sem, q1, q2]) rfl ?_
        exact ⟨_, _, _, _, by rw [HP.out]; rfl, by rw [HP.out]; exact R1.out, by rw [HP.out]; exact R2.out, BZ.out⟩
      · have HP : Hid (parseR s = (rlE (ts, ns), ([], []))) := Lib.hid (by rw [← HQ.out]; exact parse_bad HM.out (by rw [HQ.out]; exact h0))
        have hn0 : (((rlE (ts, ns) : Nat) : Int) != 0) = true := by simp; omega
        clear h0
        go_wp2_with fail
        have RZ := Lib.hid ((HK5.out.same 0 (.slice none 0 0)).same 1 (.slice none 0 0))
        have BZ := Lib.hid ((HB5.out.setCell (p := ⟨w.heap.size, 0, none⟩) (Nat.le_refl _) (.slice none 0 0)).setCell (p := ⟨w.heap.size, 1, none⟩) (Nat.le_refl _) (.slice none 0 0))
        generalize (w5.setCell ⟨w.heap.size, 0, none⟩ (.slice none 0 0)).setCell ⟨w.heap.size, 1, none⟩ (.slice none 0 0) = wz at *
        have q1 := RZ.out.cell (j := 0) rfl
        have q2 := RZ.out.cell (j := 1) rfl
        refine bodyPost_ret (v := .tuple #[.agg #[.slice none 0 0, .slice none 0 0], .int .i64 ((rlE (ts, ns) : Nat) : Int)]) (by simp [results, Tryd.results7, go_sem, q1, q2]) rfl ?_
        exact ⟨none, 0, none, 0, by rw [HP.out]; rfl, Rd.cast_nil (by rw [HP.out]), Rd.cast_nil (by rw [HP.out]), BZ.out⟩
    · have HPK : Hid (RdPk w.heap.size w1.heap.size A1 c1 A2 c2 (ts, ns) w1 ((u2.setCell ⟨w1.heap.size, 0, none⟩ (.slice A1 ts.length c1)).setCell ⟨w1.heap.size, 1, none⟩ (.slice A2 ns.length c2))) := Lib.hid (rdPk_3 HIN.out HLT.out h1 ho1 h2 ho2 b2 kb)
      clear ho1 h1 b1 z1 ho2 h2 b2 bd b0 z0 HSL CW1 CW2 hszk hcell hm0 hm0n hne1 hk0 hkb hkw ka kb q0 q1 q2 q3
      generalize hW : (u2.setCell ⟨w1.heap.size, 0, none⟩ (.slice A1 ts.length c1)).setCell ⟨w1.heap.size, 1, none⟩ (.slice A2 ns.length c2) = wf at *
      generalize hR : w1.heap.size = BR at *
      clear hW hR
      have HCK := Lib.hid (rFault_any wf HPK.out.rl)
      unfold rlV at HCK
      have HK4 := Lib.hid (HK1.out.below HPK.out.bel HK1.out.lt)
      have HB4 := Lib.hid (below_then HB1.out HPK.out.bel)
      have hr0 := HPK.out.blk.cell (j := 0) rfl
      have hr1 := HPK.out.blk.cell (j := 1) rfl
      simp only [] at HCK hr0 hr1
      go_wp2_with fail
      refine HCK.out.mono ?_
      rintro e w5 ⟨rfl, hb5⟩
      have HB5 := Lib.hid (below_then HB4.out hb5)
      have HK5 := Lib.hid (HK4.out.below hb5 HK4.out.lt)
      have HKR5 := Lib.hid (HPK.out.blk.below hb5 HPK.out.blk.lt)
      have HRL5 := Lib.hid (HPK.out.rl.below hb5)
      clear hb5 hr0 hr1
      have hc0 := HK5.out.cell (j := 0) rfl
      have hc1 := HK5.out.cell (j := 1) rfl
      have hf0 := HK5.out.free 0
      have hf1 := HK5.out.free 1
      have hr0 := HKR5.out.cell (j := 0) rfl
      have hr1 := HKR5.out.cell (j := 1) rfl
      simp only [] at hr0 hr1
      by_cases h0 : rlE (ts, ns) = 0
      · have HP : Hid (parseR s = (0, (ts, ns))) := Lib.hid (by rw [← HQ.out]; exact parse_good HM.out (by rw [HQ.out]; exact h0))
        rw [h0]
        clear h0
        go_wp2_with fail
        have RZ := Lib.hid ((HK5.out.same 0 (.slice A1 ts.length c1)).same 1 (.slice A2 ns.length c2))
        have BZ := Lib.hid ((HB5.out.setCell (p := ⟨w.heap.size, 0, none⟩) (Nat.le_refl _) (.slice A1 ts.length c1)).setCell (p := ⟨w.heap.size, 1, none⟩) (Nat.le_refl _) (.slice A2 ns.length c2))
        have R1 := Lib.hid (rd_setR (j := 1) (v := .slice A2 ns.length c2) (rd_setR (j := 0) (v := .slice A1 ts.length c1) HRL5.out.t HPK.out.n1) HPK.out.n1)
        have R2 := Lib.hid (rd_setR (j := 1) (v := .slice A2 ns.length c2) (rd_setR (j := 0) (v := .slice A1 ts.length c1) HRL5.out.n HPK.out.n2) HPK.out.n2)
        generalize (w5.setCell ⟨w.heap.size, 0, none⟩ (.slice A1 ts.length c1)).setCell ⟨w.heap.size, 1, none⟩ (.slice A2 ns.length c2) = wz at *
        have q1 := RZ.out.cell (j := 0) rfl
        have q2 := RZ.out.cell (j := 1) rfl
        refine bodyPost_ret (v := .tuple #[.agg #[.slice A1 ts.length c1, .slice A2 ns.length c2], .int .i64 0]) (by simp [results, Tryd.results7, go_sem, q1, q2]) rfl ?_
        exact ⟨_, _, _, _, by rw [HP.out]; rfl, by rw [HP.out]; exact R1.out, by rw [HP.out]; exact R2.out, BZ.out⟩
      · have HP : Hid (parseR s = (rlE (ts, ns), ([], []))) := Lib.hid (by rw [← HQ.out]; exact parse_bad HM.out (by rw [HQ.out]; exact h0))
        have hn0 : (((rlE (ts, ns) : Nat) : Int) != 0) = true := by simp; omega
        clear h0
        go_wp2_with fail
        have RZ := Lib.hid ((HK5.out.same 0 (.slice none 0 0)).same 1 (.slice none 0 0))
        have BZ := Lib.hid ((HB5.out.setCell (p := ⟨w.heap.size, 0, none⟩) (Nat.le_refl _) (.slice none 0 0)).setCell (p := ⟨w.heap.size, 1, none⟩) (Nat.le_refl _) (.slice none 0 0))
        generalize (w5.setCell ⟨w.heap.size, 0, none⟩ (.slice none 0 0)).setCell ⟨w.heap.size, 1, none⟩ (.slice none 0 0) = wz at *
        have q1 := RZ.out.cell (j := 0) rfl
        have q2 := RZ.out.cell (j := 1) rfl
        refine bodyPost_ret (v := .tuple #[.agg #[.slice none 0 0, .slice none 0 0], .int .i64 ((rlE (ts, ns) : Nat) : Int)]) (by simp [results, Tryd.results7, go_sem, q1, q2]) rfl ?_
        exact ⟨none, 0, none, 0, by rw [HP.out]; rfl, Rd.cast_nil (by rw [HP.out]), Rd.cast_nil (by rw [HP.out]), BZ.out⟩
  · have HP := Lib.hid (parse_no hm)
    have hX : X = [] := by rw [spF_none hm] at hxu; injection hxu with h _; exact h.symm
    subst hX
    have hc0 := HK1.out.cell (j := 0) rfl
    have hc1 := HK1.out.cell (j := 1) rfl
    have hf0 := HK1.out.free 0
    have hf1 := HK1.out.free 1
    clear hm hxu hown hxl
    simp only [List.length_nil, Nat.zero_add]
    go_wp2_with fail
    have RZ := Lib.hid ((HK1.out.same 0 (.slice none 0 0)).same 1 (.slice none 0 0))
    have BZ := Lib.hid ((HB1.out.setCell (p := ⟨w.heap.size, 0, none⟩) (Nat.le_refl _) (.slice none 0 0)).setCell (p := ⟨w.heap.size, 1, none⟩) (Nat.le_refl _) (.slice none 0 0))
    generalize (w1.setCell ⟨w.heap.size, 0, none⟩ (.slice none 0 0)).setCell ⟨w.heap.size, 1, none⟩ (.slice none 0 0) = wz at *
    have q1 := RZ.out.cell (j := 0) rfl
    have q2 := RZ.out.cell (j := 1) rfl
    refine bodyPost_ret (v := .tuple #[.agg #[.slice none 0 0, .slice none 0 0], .int .i64 3]) (by simp [results, Tryd.results7, go_sem, q1, q2]) rfl ?_
    exact ⟨none, 0, none, 0, by rw [HP.out]; rfl, Rd.cast_nil (by rw [HP.out]), Rd.cast_nil (by rw [HP.out]), BZ.out⟩
end Go.Proofs.YtbgcbigplegpmaaDoor
