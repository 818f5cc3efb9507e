/- Contracts that the law's proof leans on, and plain lemmas to them, merged. No condition beyond each contract's own hypotheses. -/
import Derived.Test.YtoandhhkmkgmaaaGreatDoorMg44
import Derived.Test.YtoandhhkmkgmaaaGreatDoorMg31
import Derived.Test.YtoandhhkmkgmaaaGreatDoorMg40
import Derived.Test.YtoandhhkmkgmaaaGreatDoorMg5
import Derived.Test.YtoandhhkmkgmaaaGreatDoorMg45
namespace Go.Proofs.YtoandhhkmkgmaaaGreatDoor
open Go.RowKit

theorem fileLens {f : FileT} (h : SzF f) : f.inf.length ≤ 9223372036854775807 ∧ ∀ x ∈ f.inf, x.1.length ≤ 9223372036854775807 ∧ x.2.length ≤ 9223372036854775807 :=
 ⟨by have := h.inf; omega, fun x hx => by have := h.infs x hx; omega⟩
theorem gb_drewN {w w1 : World} {r : Option Nat} (h : w.grownBy w1 r) (q : Nat) : w.grownBy (w1.drewN q) r := ⟨h.os, h.tape, h.output, h.size, h.block⟩
theorem rd_off_blk {w : World} {B : Nat} {t : TypeId} {vs : List Value} {A : Option Addr} {l : List KeyT} (hb : Blk w B t vs) (h : Rd w A (l.map sv)) (hv : ∀ (v : Value), v ∈ vs → ∀ s : ByteArray, v ≠ .string s) : ∀ g off, A = some ⟨g, off, none⟩ → 0 < l.length → g ≠ B := fun g off hA hp e => by
 obtain ⟨g', off', hA', _, hc⟩ := h (by simpa using hp)
 rw [hA] at hA'
 injection hA' with hA'
 injection hA' with h1 h2 _
 subst h1 h2
 obtain ⟨x, hx⟩ : ∃ x, l[0]? = some x := ⟨_, List.getElem?_eq_getElem hp⟩
 have h0 := hc 0 (sv x) (by rw [List.getElem?_map, hx]; rfl)
 unfold Blk at hb
 rw [← e] at hb
 simp [World.cell?, hb] at h0
 exact hv _ (List.mem_of_getElem? h0) _ rfl
section
variable {A0 A1 A2 A3 C : Option Addr} {n0 n1 n2 n3 c0 c1 c2 c3 k e : Nat} (f : FileT) (L : List RSlot) (there : List KeyT) (w : World) (h : FileIn A0 A1 A2 A3 n0 n1 n2 n3 c1 f L w) (hrs : RsAll A3 L w) (hn2c : n2 ≤ c2)
 (ht : Rd w C (there.map sv)) (hk : there.length = k) (hkb : k ≤ 4189000) (hts : StrsOk there)
 (mx : Int) (hmx : w.cell? ⟨1, 0, none⟩ = some (.int .i64 mx)) (h0 : 1 < w.heap.size) (hT : Tab w)
include h hrs hn2c ht hk hkb hts hmx h0 hT
set_option maxRecDepth 100000 in
set_option maxHeartbeats 8000000 in
theorem gMake_any : Calls Tryz.prog 31 #[.agg #[.slice A0 n0 c0, .slice A1 n1 c1, .slice A2 n2 c2, .slice A3 n3 c3], .slice C k e] w (GmPost f there w) := by
 have HF := Lib.hid h
 have HT := Lib.hid hT
 have HCK := Lib.hid (fun W (hW : Below w.heap.size w W) => fCheck_any (c0 := c0) (c1 := c1) (c2 := c2) (c3 := c3) f L W (h.below hW) mx (cell_belowF hmx h0 hW) (Nat.lt_of_lt_of_le h0 hW.size))
 have HFL := Lib.hid (fun W (hW : Below w.heap.size w W) => infFill_any (c := c3) (d := c2) (e := e) L f.inf there W (hrs.below hW) h.e3 (by have h1 := h.sz.rul; have h2 := h.e3; have h3 := h.rd.len; omega) (h.rd.inf.below hW) h.e2 (by have := (fileLens h.sz).1; have := h.e2; omega) hn2c (fileLens h.sz).2 (ht.below hW) hk (by omega) hts)
 rw [h.rd.eq] at HFL
 obtain ⟨w2, hw2, x0, r0, z0⟩ := box_turn w (.slice A0 n0 c0) (.slice A1 n1 c1) (.slice A2 n2 c2) (.slice A3 n3 c3) (.slice none 0 0) (.slice none 0 0) (.int .u64 0) (.int .u64 0) 27 43
 have X2 := Lib.hid x0
 have R2 := Lib.hid r0
 have B2 := Lib.hid z0
 have HW2 := Lib.hid hw2
 have HRU : Hid (fillR f.rul f.inf there = mkRules f there) := Lib.hid rfl
 unfold FillPost at HFL
 rw [HRU.out] at HFL
 clear h hrs hn2c ht hk hts hmx h0 hT x0 r0 z0 hw2
 go_enter Tryz.func31, Tryz.ntmps31
 go_upto_region 1 with fail
 rw [← HW2.out]
 generalize hBr : w.heap.size + 1 = Br at *
 have HBr := Lib.hid hBr
 clear hBr HW2
 obtain ⟨x1, x2, x3, x4⟩ := X2.out
 go_wp2_with fail
 refine (HCK.out _ B2.out).mono ?_
 rintro e w3 ⟨rfl, hb3⟩
 have B3 := Lib.hid (below_then B2.out hb3)
 have X3 := Lib.hid (X2.out.below hb3)
 have R3 := Lib.hid (R2.out.below hb3 R2.out.lt)
 clear hb3 x1 x2 x3 x4 X2 R2 HCK
 have r1 := R3.out.cell (j := 0) rfl
 have r2 := R3.out.cell (j := 1) rfl
 have r3 := R3.out.cell (j := 2) rfl
 have r4 := R3.out.cell (j := 3) rfl
 have rf := R3.out.free
 by_cases hc0 : chkF f = 0
 ·have HC0 := Lib.hid hc0
  have HPH := Lib.hid (chkF_pho hc0)
  rw [hc0]
  clear hc0
  obtain ⟨x1, x2, x3, x4⟩ := X3.out
  go_wp2_with fail
  refine (HFL.out _ B3.out).mono ?_
  rintro e w4 ⟨AR, cR, LR, rfl, hra, hrr, hb4⟩
  have HRA := Lib.hid hra
  have HRR := Lib.hid hrr
  have B4 := Lib.hid (below_then B3.out hb4)
  have X4 := Lib.hid (X3.out.below hb4)
  have R4 := Lib.hid (R3.out.below hb4 R3.out.lt)
  clear hra hrr hb4 x1 x2 x3 x4 r1 r2 r3 r4 rf X3 R3 HFL
  have r1 := R4.out.cell (j := 0) rfl
  have r2 := R4.out.cell (j := 1) rfl
  have r3 := R4.out.cell (j := 2) rfl
  have r4 := R4.out.cell (j := 3) rfl
  have rf := R4.out.free
  by_cases hf0 : fillE f.rul f.inf there = 0
  ·have HF0 := Lib.hid hf0
   have HFF := Lib.hid (fillR_facts hf0)
   have HFN := Lib.hid (fill_len hf0)
   rw [HRU.out] at HFF HFN
   rw [hf0]
   clear hf0
   obtain ⟨x1, x2, x3, x4⟩ := X4.out
   have HCL := Lib.hid (sClone_any (c := c1) f.pho w4 (HF.out.rd.pho.below B4.out) HF.out.e1 (by have := HPH.out.2; have := HF.out.e1; omega))
   have HNP : Hid (n1 ≤ 20) := Lib.hid (by have := HPH.out.2; have := HF.out.e1; omega)
   go_wp2_with fail
   refine HCL.out.mono ?_
   rintro e w5 ⟨AC, cC, rfl, hownC, hb5⟩
   have HRC := Lib.hid (Rd.of_own hownC)
   have B5 := Lib.hid (below_then B4.out hb5)
   have X5 := Lib.hid (X4.out.below hb5)
   have R5 := Lib.hid (R4.out.below hb5 R4.out.lt)
   have HRA5 := Lib.hid (HRA.out.below hb5)
   have HLR : Hid (LR.length ≤ 4160) := Lib.hid (by have h := HFN.out; rw [← HRR.out] at h; unfold rulesOf at h; rw [List.length_map] at h; exact h)
   generalize hrul : mkRules f there = rules at *
   have HRUL := Lib.hid hrul
   clear hrul
   obtain ⟨nr, hnr⟩ : ∃ nr, LR.length = nr := ⟨_, rfl⟩
   have HNR := Lib.hid hnr
   have hnrb : nr ≤ 4160 := by rw [← hnr]; exact HLR.out
   have hnpb := HNP.out
   rw [hnr]
   clear hnr hownC hb5 x1 x2 x3 x4 r1 r2 r3 r4 rf X4 R4 HCL HRA
   have HKS := Lib.hid (fun q => asked_len HFF.out.sum q)
   have HBMd : Hid (Below w5.heap.size w5 w5) := Lib.hid (Below.refl _ _)
   go_wp2_with fail
   go_loopw [9, 10, 12, 44] (fun v u _ i wq => ∃ (q : Nat) (AZ : Option Addr) (cz mz : Nat) (zs : List KeyT) (AM : Option Addr) (cM : Nat), i = .int .i64 (q : Int) ∧ q ≤ nr ∧ v = .slice AZ mz cz ∧ mz ≤ 20 + 65 * q ∧ u = .slice AM q cM ∧ Hid (zs.length = mz) ∧ Hid (zs = f.pho ++ askedP (rules.take q)) ∧ Hid (Rd wq AZ (zs.map sv)) ∧ Hid (wq.ownsRow w5.heap.size 9 1 (.slice AM q cM) q (((rules.take q).map headP).map sv)) ∧ Hid (Below w5.heap.size w5 wq)) (fun _ _ _ i _ => nr - (intOf i).toNat)
   case atStart => exact ⟨0, AC, cC, n1, f.pho, none, 0, rfl, by omega, rfl, by omega, rfl, HF.out.e1, Lib.hid (by simp [askedP]), HRC, Lib.hid (World.ownsRow_nil _ _ _ _), HBMd⟩
   case round =>
    obtain ⟨q, AZ, cz, mz, zs, AM, cM, rfl, hq, rfl, hmz, rfl, HZL, HZS, HRZ, HOM, HBQ⟩ := hrel
    have HRW := Lib.hid (HRA5.out.below HBQ.out)
    by_cases hltq : q < nr
    ·obtain ⟨x, hx⟩ : ∃ x, LR[q]? = some x := ⟨_, List.getElem?_eq_getElem (by rw [HNR.out]; exact hltq)⟩
     have HR : Hid (rules[q]? = some x.2.2) := Lib.hid (by rw [← HRR.out]; exact rulesOf_at hx)
     have HX := Lib.hid (HRW.out.each x (List.mem_of_getElem? hx))
     have HX5 := Lib.hid (HRA5.out.each x (List.mem_of_getElem? hx))
     have HT1 := Lib.hid (HFF.out.tgt _ (List.mem_of_getElem? HR.out))
     have HT2 := Lib.hid (HFF.out.many _ (List.mem_of_getElem? HR.out))
     obtain ⟨b1, o1, rfl, a1, a2⟩ := HRW.out.rd.two hx
     obtain ⟨⟨X1, xc1⟩, ⟨X2', xc2⟩, r⟩ := x
     unfold RsIn at HX HX5
     simp only [rsT, rsN] at a1 a2 HX HX5 HR HT1 HT2
     have hcap : 2 * q = q * 2 := by omega
     rw [hcap] at a1 a2
     rw [HT1.out] at a1
     obtain ⟨t, htt⟩ : ∃ t, r.1 = [t] := List.length_eq_one_iff.1 HT1.out
     have HTT := Lib.hid htt
     have HBN := Lib.hid (below_new (Below.refl wr.heap.size wr) (.cells #[.slice X1 1 xc1, .slice X2' r.2.length xc2] 78))
     have HKX := Lib.hid (Blk.new wr #[.slice X1 1 xc1, .slice X2' r.2.length xc2] 78)
     have HBQ2 := Lib.hid (below_newL HBQ.out HBN.out)
     have HOM2 := Lib.hid (own_below HOM.out HBN.out)
     have HMLT : Hid (∀ g, (Value.slice AM q cM).ownBlock = some g → g < wr.heap.size) := Lib.hid (fun g hg => (HOM.out.lt g hg).2)
     have hn2 : r.2.length ≤ 64 := HT2.out
     have HC3 := Lib.hid (concat3_any (c1 := cz) (c2 := xc1) (c3 := xc2) zs r.1 r.2 (wr.alloc (.cells #[.slice X1 1 xc1, .slice X2' r.2.length xc2] 78)) (HRZ.out.below HBN.out) (HX.out.t.below HBN.out) (HX.out.n.below HBN.out) HZL.out HT1.out rfl (by omega))
     have HZ2 : Hid (zs ++ (r.1 ++ r.2) = f.pho ++ askedP (rules.take (q + 1))) := Lib.hid (by rw [asked_take HR.out, HZS.out, List.append_assoc])
     have HHT : Hid ((rules.take (q + 1)).map headP = (rules.take q).map headP ++ [t]) := Lib.hid (by rw [heads_take HR.out, head_one htt])
     have hk1 : (q : Int) < (nr : Int) := by omega
     clear hx hcap HX htt
     generalize hn2e : r.2.length = n2' at *
     have HM2 : Hid ((zs ++ (r.1 ++ r.2)).length = mz + (1 + n2')) := Lib.hid (by rw [List.length_append, List.length_append, HZL.out, HT1.out, hn2e])
     clear hn2e
     go_upto_region 12 with fail
     generalize wr.alloc (.cells #[.slice X1 1 xc1, .slice X2' n2' xc2] 78) = w6 at *
     have HSZW : Hid (wr.heap.size < w6.heap.size) := Lib.hid HKX.out.lt
     generalize wr.heap.size = CB at *
     have d0 : w6.cell? ⟨CB, 0, none⟩ = some (.slice X1 1 xc1) := HKX.out.cell (j := 0) rfl
     have d1 : w6.cell? ⟨CB, 1, none⟩ = some (.slice X2' n2' xc2) := HKX.out.cell (j := 1) rfl
     clear a1 a2
     go_wp2_with fail
     refine HC3.out.mono ?_
     rintro e w7 ⟨A3', c3', rfl, hr3, hb3, hf3⟩
     have HR3 := Lib.hid hr3
     have HF3 := Lib.hid hf3
     have HB7 := Lib.hid (below_newL HBQ2.out hb3)
     have HOM7 := Lib.hid (own_below HOM2.out hb3)
     have HKX7 := Lib.hid (HKX.out.below hb3 HKX.out.lt)
     have HXT : Hid (Rd w7 X1 ([t].map sv)) := Lib.hid (by have h := HX5.out.t.below HB7.out; rw [HTT.out] at h; exact h)
     have HSZ7 : Hid (w5.heap.size ≤ w7.heap.size) := Lib.hid HB7.out.size
     have e0 : w7.cell? ⟨CB, 0, none⟩ = some (.slice X1 1 xc1) := HKX7.out.cell (j := 0) rfl
     obtain ⟨m2, hm2⟩ : ∃ m2, m2 = mz + (1 + n2') := ⟨_, rfl⟩
     rw [← hm2] at HM2 ⊢
     have hm3 : m2 ≤ 20 + 65 * (q + 1) := by omega
     clear hr3 hb3 hf3 d0 d1 hm2 HC3
     go_wp2_with (at_builtin; refine wpList_catG w7 _ _ w5.heap.size AM q cM (((rules.take q).map headP).map sv) X1 1 xc1 ([t].map sv) HOM7.out HXT.out rfl (by decide) (sv_one _) HSZ7.out (by omega) rfl rfl rfl rfl ?_; intro A8 c8 w8 hown8 hg8)
     have HR8 : Hid (Rd w8 A3' ((zs ++ (r.1 ++ r.2)).map sv)) := Lib.hid (fun hp => by
      obtain ⟨g, off, hA, hlt, hc⟩ := HR3.out hp
      have hg1 := HF3.out g off hA
      have hne : some g ≠ (Value.slice AM q cM).ownBlock := fun e => by have := HMLT.out g e.symm; have := HSZW.out; omega
      refine ⟨g, off, hA, Nat.lt_of_lt_of_le hlt hg8.size, fun j u hu => ?_⟩
      rw [World.cell?_of_block (w := w7) (hg8.block g hlt hne)]
      exact hc j u hu)
     have HO8 : Hid (w8.ownsRow w5.heap.size 9 1 (.slice A8 (q + 1) c8) (q + 1) (((rules.take (q + 1)).map headP).map sv)) := Lib.hid (by rw [HHT.out, List.map_append]; exact hown8)
     have HB8 := Lib.hid (HB7.out.trans (below_gb2 hg8 (fun k hk => (HOM7.out.lt k hk).1) HSZ7.out))
     clear hown8 hg8 e0
     exact ⟨⟨q + 1, A3', c3', m2, _, A8, c8, rfl, by omega, rfl, hm3, rfl, HM2, HZ2, HR8, HO8, HB8⟩, measL hltq⟩
    ·obtain rfl : q = nr := by omega
     have HTK : Hid (rules.take q = rules) := Lib.hid (List.take_of_length_le (by have h := HNR.out; rw [← HRR.out]; unfold rulesOf; rw [List.length_map, h]; exact Nat.le_refl _))
     rw [HTK.out] at HZS HOM
     have HZG : Hid (zs.all goodName = true) := Lib.hid (by rw [HZS.out]; exact gm_all_good HPH.out.1 HFF.out)
     have B6 := Lib.hid (below_then B5.out HBQ.out)
     have X6 := Lib.hid (X5.out.below HBQ.out)
     have R6 := Lib.hid (R5.out.below HBQ.out R5.out.lt)
     have HRA6 := Lib.hid (HRA5.out.below HBQ.out)
     have HM6 := Lib.hid (Blk.new wr #[.slice none 0 0, .slice none 0 0, .int .u64 0, .int .u64 0] 43)
     have HBN := Lib.hid (below_new (Below.refl wr.heap.size wr) (.cells #[.slice none 0 0, .slice none 0 0, .int .u64 0, .int .u64 0] 43))
     have HWB := Lib.hid (fun W (hW : Below wr.heap.size wr W) => (below_newL B6.out hW : Below w.heap.size w W))
     have HXB := Lib.hid (fun W (hW : Below wr.heap.size wr W) => X6.out.below hW)
     have HRB := Lib.hid (fun W (hW : Below wr.heap.size wr W) => R6.out.below hW R6.out.lt)
     have HLB := Lib.hid (fun W (hW : Below wr.heap.size wr W) => HRA6.out.below hW)
     have HMB : Hid (∀ W, Below wr.heap.size wr W → Rd W AM ((rules.map headP).map sv)) := Lib.hid (fun W hW => (Rd.of_own HOM.out).below hW)
     have HMLT : Hid (∀ g off, AM = some ⟨g, off, none⟩ → 0 < ((rules.map headP).map sv).length → g < wr.heap.size) := Lib.hid (fun g off hA hp => rd_lt (Rd.of_own HOM.out) g off hA hp)
     have HZ6 := Lib.hid (HRZ.out.below HBN.out)
     have HBr6 : Hid (Br < wr.heap.size ∧ w.heap.size < wr.heap.size) := Lib.hid ⟨R6.out.lt, lt_of_cell' X6.out.c1⟩
     clear X6 R6 HRA6 HOM HRZ HRA5 X5 R5 HBQ
     go_upto_region 16 with fail
     generalize wr.alloc (.cells #[.slice none 0 0, .slice none 0 0, .int .u64 0, .int .u64 0] 43) = w6 at *
     generalize hBm : wr.heap.size = Bm at *
     have HBmE := Lib.hid hBm
     clear hBm
     have HSO := Lib.hid (nSort_any (c := cz) zs w6 HZ6.out HZL.out (by omega) (fun s hs => by have := good_len (List.all_eq_true.1 HZG.out s hs); omega))
     have HNE : Hid (sortL zs = gmN f.pho rules) := Lib.hid (by rw [sortL_good HZG.out, HZS.out]; rfl)
     have HUP : Hid (Up (gmN f.pho rules)) := Lib.hid (rising_up _)
     have HHD : Hid (∀ r ∈ rules, headP r ∈ gmN f.pho rules) := Lib.hid (gm_heads HFF.out)
     have HEW := Lib.hid (fun h => mkE_wide (f := f) (there := there) HC0.out HF0.out h)
     have HEO := Lib.hid (fun h => mkE_ok (f := f) (there := there) HC0.out HF0.out h)
     unfold SortPost at HSO
     rw [HNE.out] at HSO
     rw [HRUL.out] at HEW HEO
     have HNN : Hid (gmN f.pho rules = gmN f.pho rules) := Lib.hid rfl
     generalize hNN : gmN f.pho rules = N at *
     have HNQ := Lib.hid hNN
     clear hNN HNN
     go_wp2_with fail
     refine HSO.out.mono ?_
     rintro e w7 ⟨AN, cN, rfl, hrN, hb7⟩
     have HRN7 := Lib.hid hrN
     have HM7 := Lib.hid (HM6.out.below hb7 HM6.out.lt)
     have HB7 : Hid (Below Bm wr w7) := Lib.hid (HBN.out.trans (hb7.mono (Nat.le_of_lt HM6.out.lt)))
     have HANB := Lib.hid (rd_off_blk HM7.out HRN7.out (by intro v hv s; simp at hv; rcases hv with rfl | rfl <;> simp))
     clear hrN hb7 HSO HZ6
     have m1 := HM7.out.cell (j := 0) rfl
     have mf := HM7.out.free
     obtain ⟨nN, hnN⟩ : ∃ nN, N.length = nN := ⟨_, rfl⟩
     have HNL := Lib.hid hnN
     rw [hnN]
     have HMC : Hid (Blk (w7.setCell ⟨Bm, 0, none⟩ (.slice AN nN cN)) Bm 43 [.slice AN nN cN, .slice none 0 0, .int .u64 0, .int .u64 0]) := Lib.hid (HM7.out.same 0 _)
     have HBC : Hid (Below Bm wr (w7.setCell ⟨Bm, 0, none⟩ (.slice AN nN cN))) := Lib.hid (HB7.out.setCell (p := ⟨Bm, 0, none⟩) (Nat.le_refl _) _)
     have HNC : Hid (Rd (w7.setCell ⟨Bm, 0, none⟩ (.slice AN nN cN)) AN (N.map sv)) := Lib.hid (fun hp => by
      obtain ⟨g, off, hA, hlt, hcc⟩ := HRN7.out hp
      have hne := HANB.out g off hA (by simpa using hp)
      refine ⟨g, off, hA, by simpa [World.setCell] using hlt, fun j u hu => ?_⟩
      rw [World.cell?_of_block (w := w7) (Below.heap_setCell _ _ _ _ hne)]
      exact hcc j u hu)
     go_upto_region 17 with fail
     generalize w7.setCell ⟨Bm, 0, none⟩ (.slice AN nN cN) = wc at *
     clear m1 mf HM7 HB7 HRN7
     have m1 := HMC.out.cell (j := 0) rfl
     have HANC : Hid (∀ g off, AN = some ⟨g, off, none⟩ → 0 < N.length → g ≠ Bm) := HANB
     by_cases h64 : 64 < nN
     ·have HE := Lib.hid (HEW.out (by rw [HNL.out]; exact h64))
      have h65 : (64 : Int) < (nN : Int) := by omega
      have R7 := Lib.hid (HRB.out _ HBC.out)
      have r1 := R7.out.cell (j := 0) rfl
      have r2 := R7.out.cell (j := 1) rfl
      have r3 := R7.out.cell (j := 2) rfl
      have r4 := R7.out.cell (j := 3) rfl
      have rf := R7.out.free
      clear h64
      go_wp2_with fail
      have RZ := Lib.hid (R7.out.put4 (.slice none 0 0) (.slice none 0 0) (.int .u64 0) (.int .u64 0))
      have BZ := Lib.hid (below_put4 (HWB.out _ HBC.out) (by have := HBr.out; omega : w.heap.size ≤ Br) (.slice none 0 0) (.slice none 0 0) (.int .u64 0) (.int .u64 0))
      generalize ((((wc.setCell ⟨Br, 0, none⟩ (.slice none 0 0)).setCell ⟨Br, 1, none⟩ (.slice none 0 0)).setCell ⟨Br, 2, none⟩ (.int .u64 0)).setCell ⟨Br, 3, none⟩ (.int .u64 0)) = wz at *
      have q1 := RZ.out.cell (j := 0) rfl
      have q2 := RZ.out.cell (j := 1) rfl
      have q3 := RZ.out.cell (j := 2) rfl
      have q4 := RZ.out.cell (j := 3) rfl
      refine bodyPost_ret (v := .tuple #[.agg #[.slice none 0 0, .slice none 0 0, .int .u64 0, .int .u64 0], .int .i64 2]) (by simp [results, Tryz.results31, go_sem, q1, q2, q3, q4]) rfl ?_
      exact gmPost_no (by rw [HE.out]; decide) (by rw [HE.out]; rfl) rfl BZ.out
     ·have HE := Lib.hid (HEO.out (by rw [HNL.out]; exact h64))
      have h65 : ¬ (64 : Int) < (nN : Int) := by omega
      have hnN64 : nN ≤ 64 := by omega
      have HN64 : Hid (nN ≤ 64) := Lib.hid hnN64
      have HGB := Lib.hid (fun W (hW : wc.grownBy W (some Bm)) => (HBC.out.trans (below_gb hW (Nat.le_of_lt HMC.out.lt)) : Below Bm wr W))
      have HNW := Lib.hid (fun W (hW : wc.grownBy W (some Bm)) => rd_gb HNC.out hW HANC.out)
      have HSET := Lib.hid (fun W (hW : wc.grownBy W (some Bm)) (B : Option Addr) (l : List KeyT) (m d : Nat) (hl : Rd W B (l.map sv)) (hm : l.length = m) (hb : m ≤ 9223372036854775807) => gSet_any (c := cN) (d := d) N l W (rd_gb HNC.out hW HANC.out) HNL.out HN64.out HUP.out hl hm hb)
      have HFND := Lib.hid (fun W (hW : wc.grownBy W (some Bm)) (x : KeyT) => nmFind_any (c := cN) N x W (rd_gb HNC.out hW HANC.out) HNL.out (by have := HN64.out; omega) HUP.out)
      have HLIM := Lib.hid (fun q => edgesMk_len N rules q)
      have HSB := Lib.hid (fun l => setIn_b64 (N := N) l (by have := HNL.out; have := HN64.out; omega))
      have HTAB := Lib.hid (fun W (hW : wc.grownBy W (some Bm)) => HT.out.below (HWB.out W (HGB.out W hW)))
      have HGC : Hid (wc.grownBy wc (some Bm)) := Lib.hid (gb_refl _ _)
      have HBmC := Lib.hid HMC.out.lt
      clear h64 HEW HEO HNC
      go_wp2_with fail
      go_loopw [15, 16, 17, 19, 74] (fun _ _ _ _ i wq => ∃ z : Nat, z ≤ q ∧ i = .int .i64 (z : Int) ∧ ∃ AE kE cE, kE ≤ z * 64 ∧ Hid ((edgesMk N (rules.take z)).length = kE) ∧ Hid (Blk wq Bm 43 [.slice AN nN cN, .slice AE kE cE, .int .u64 0, .int .u64 0]) ∧ Hid (wq.ownsRow wc.heap.size 102 2 (.slice AE kE cE) kE (eV (edgesMk N (rules.take z)))) ∧ Hid (wc.grownBy wq (some Bm))) (fun _ _ _ _ i _ => q - (intOf i).toNat)
      case atStart => exact ⟨0, by omega, rfl, none, 0, 0, by omega, Lib.hid rfl, HMC, Lib.hid (World.ownsRow_nil _ _ _ _), HGC⟩
      case round =>
       obtain ⟨z, hz, rfl, AE, kE, cE, hkz, hkE, hm, hown, hgr⟩ := hrel
       by_cases hlt : z < q
       ·obtain ⟨x, hx⟩ : ∃ x, LR[z]? = some x := ⟨_, List.getElem?_eq_getElem (by rw [HNR.out]; exact hlt)⟩
        have HR : Hid (rules[z]? = some x.2.2) := Lib.hid (by rw [← HRR.out]; exact rulesOf_at hx)
        have HLW := Lib.hid (HLB.out _ (HGB.out _ hgr.out))
        have HX := Lib.hid (HLW.out.each x (List.mem_of_getElem? hx))
        have HT1 := Lib.hid (HFF.out.tgt _ (List.mem_of_getElem? HR.out))
        have HT2 := Lib.hid (HFF.out.many _ (List.mem_of_getElem? HR.out))
        have HHR := Lib.hid (HHD.out _ (List.mem_of_getElem? HR.out))
        obtain ⟨b1, o1, rfl, a1, a2⟩ := HLW.out.rd.two hx
        obtain ⟨⟨X1, xc1⟩, ⟨X2', xc2⟩, r⟩ := x
        unfold RsIn at HX
        simp only [rsT, rsN] at a1 a2 HX HR HT1 HT2 HHR
        have hcap : 2 * z = z * 2 := by omega
        rw [hcap] at a1 a2
        rw [HT1.out] at a1
        obtain ⟨t, htt⟩ : ∃ t, r.1 = [t] := List.length_eq_one_iff.1 HT1.out
        have HHP : Hid (headP r = t) := Lib.hid (head_one htt)
        have hxt := HX.out.t
        rw [htt] at hxt
        obtain ⟨tb, tq, rfl, et⟩ := rd_one_at hxt
        have HBN := Lib.hid (below_new (Below.refl wr.heap.size wr) (.cells #[.slice (some ⟨tb, tq, none⟩) 1 xc1, .slice X2' r.2.length xc2] 78))
        have HKX := Lib.hid (Blk.new wr #[.slice (some ⟨tb, tq, none⟩) 1 xc1, .slice X2' r.2.length xc2] 78)
        have HG9 := Lib.hid (gb_below2 hgr.out HBN.out)
        have HM9 := Lib.hid (hm.out.below HBN.out hm.out.lt)
        have HO9 := Lib.hid (own_lt hown.out HBN.out (fun g hg => (hown.out.lt g hg).2))
        have et2 := cell_kept et HBN.out
        have HRD9 := Lib.hid (HX.out.n.below HBN.out)
        have hlen2 : r.2.length ≤ 64 := HT2.out
        have hz2 : (z : Int) < (q : Int) := by omega
        have HSE : Hid (∀ g, (Value.slice AE kE cE).ownBlock = some g → g < wr.heap.size) := Lib.hid (fun g hg => (hown.out.lt g hg).2)
        have HBR5 : Hid (Bm < wr.heap.size) := Lib.hid hm.out.lt
        clear hx hcap HX htt hxt et hm hown hgr
        generalize hn2e : r.2.length = n2' at *
        have HN2E := Lib.hid hn2e
        clear hn2e
        go_upto_region 22 with fail
        generalize wr.alloc (.cells #[.slice (some ⟨tb, tq, none⟩) 1 xc1, .slice X2' n2' xc2] 78) = w9 at *
        have HSZ9 : Hid (wr.heap.size < w9.heap.size) := Lib.hid HKX.out.lt
        generalize wr.heap.size = CB at *
        have d0 : w9.cell? ⟨CB, 0, none⟩ = some (.slice (some ⟨tb, tq, none⟩) 1 xc1) := HKX.out.cell (j := 0) rfl
        have d1 : w9.cell? ⟨CB, 1, none⟩ = some (.slice X2' n2' xc2) := HKX.out.cell (j := 1) rfl
        have m1 := HM9.out.cell (j := 0) rfl
        have m2 := HM9.out.cell (j := 1) rfl
        have HCF := Lib.hid (fun qq => HFND.out (w9.drewN qq) (gb_drewN HG9.out qq) t)
        unfold sv at HCF
        generalize (⟨t.toArray⟩ : ByteArray) = bt at *
        have hhas : hasS N t = true := by unfold hasS; rw [← HHP.out]; simp [HHR.out]
        rw [hhas] at HCF
        clear a1 a2 hhas
        go_quiet ((go_at_call 72; exact quiet_left (HCF.out _)))
        have HBD := Lib.hid (below_of_drewN w9 nq)
        have HKX0 := Lib.hid (HKX.out.below HBD.out HKX.out.lt)
        have HG0 := Lib.hid (gb_drewN HG9.out nq)
        have HM0' := Lib.hid (HM9.out.below HBD.out HM9.out.lt)
        have HO0 := Lib.hid (own_lt HO9.out HBD.out (fun g hg => (HO9.out.lt g hg).2))
        have HRD0 := Lib.hid (HRD9.out.below HBD.out)
        have HSZ0 : Hid (CB < (w9.drewN nq).heap.size) := HSZ9
        clear d0 d1 m1 m2 et2 HKX HG9 HM9 HO9 HRD9 HCF HBD
        generalize w9.drewN nq = w10 at *
        have d1 : w10.cell? ⟨CB, 1, none⟩ = some (.slice X2' n2' xc2) := HKX0.out.cell (j := 1) rfl
        have m1 := HM0'.out.cell (j := 0) rfl
        have HCS := Lib.hid (HSET.out w10 HG0.out X2' r.2 n2' xc2 HRD0.out HN2E.out (by omega))
        have HLS := Lib.hid (list_any (setIn N r.2) (HSB.out r.2) w10 (HTAB.out w10 HG0.out))
        go_wp2_with fail
        refine HCS.out.mono ?_
        rintro e w11 ⟨rfl, rfl⟩
        go_wp2_with fail
        refine HLS.out.mono ?_
        rintro e w5' ⟨ANu, cNu, rfl, hownN, hb5⟩
        have hnl := nums_len (setIn N r.2)
        have HGR5 := Lib.hid (gb_below2 HG0.out hb5)
        have HM5 := Lib.hid (HM0'.out.below hb5 HM0'.out.lt)
        have HO5 := Lib.hid (own_lt HO0.out hb5 (fun g hg => (HO0.out.lt g hg).2))
        have HND : Hid (∀ g, (Value.slice ANu (nums (setIn N r.2)).length cNu).ownBlock = some g → w10.heap.size ≤ g ∧ g < w5'.heap.size) := Lib.hid (fun g hg => hownN.lt g hg)
        have HNO := Lib.hid hownN
        have HSE2 : Hid (∀ g, (Value.slice AE kE cE).ownBlock = some g → g < w10.heap.size) := Lib.hid (fun g hg => Nat.lt_trans (HSE.out g hg) HSZ0.out)
        have HBR6 : Hid (Bm < w10.heap.size) := Lib.hid HM0'.out.lt
        have HTO := Lib.hid (edgesMk_take (N := N) HR.out)
        clear hb5 hownN HCS HLS d1 m1 HO0 HM0' HG0 HRD0 HKX0
        go_wp2_with fail
        go_loopw [19, 95] (fun _ i wi => ∃ t' : Nat, t' ≤ (nums (setIn N r.2)).length ∧ i = .int .i64 (t' : Int) ∧ ∃ AI cI, Hid (Blk wi Bm 43 [.slice AN nN cN, .slice AI (kE + t') cI, .int .u64 0, .int .u64 0]) ∧ Hid (wi.ownsRow wc.heap.size 102 2 (.slice AI (kE + t') cI) (kE + t') (eV (edgesMk N (rules.take z) ++ (edgesRule N r).take t'))) ∧ Hid (wc.grownBy wi (some Bm)) ∧ Hid (wi.ownsRow w10.heap.size 3 1 (.slice ANu (nums (setIn N r.2)).length cNu) (nums (setIn N r.2)).length ((nums (setIn N r.2)).map nv)) ∧ Hid (∀ g, (Value.slice AI (kE + t') cI).ownBlock = some g → (Value.slice ANu (nums (setIn N r.2)).length cNu).ownBlock ≠ some g) ∧ Hid (w5'.heap.size ≤ wi.heap.size)) (fun _ i _ => (nums (setIn N r.2)).length - (intOf i).toNat)
        case atStart => exact ⟨0, by omega, rfl, AE, cE, HM5, by simpa using HO5, HGR5, HNO, Lib.hid (fun g hg he => by have h1 := HSE2.out g hg; have h2 := (HND.out g he).1; omega), Lib.hid (Nat.le_refl _)⟩
        case round =>
         obtain ⟨t', ht', rfl, AI, cI, hmi, howni, hgri, hnum, hnei, hsi⟩ := hrel
         have m1 := hmi.out.cell (j := 0) rfl
         have m2 := hmi.out.cell (j := 1) rfl
         have m3 := hmi.out.cell (j := 2) rfl
         have m4 := hmi.out.cell (j := 3) rfl
         have mf := hmi.out.free
         by_cases hlt2 : t' < (nums (setIn N r.2)).length
         ·obtain ⟨y, hy⟩ : ∃ y, (nums (setIn N r.2))[t']? = some y := ⟨_, List.getElem?_eq_getElem hlt2⟩
          obtain ⟨bN, oN, hAN, z1⟩ := (Rd.of_own hnum.out).at_ (k := t') (by rw [List.length_map]; exact hlt2)
          subst hAN
          rw [List.getElem_map, (List.getElem?_eq_some_iff.1 hy).2] at z1
          have ht2 : (t' : Int) < ((nums (setIn N r.2)).length : Int) := by omega
          have HTK2 : Hid ((edgesRule N r).take (t' + 1) = (edgesRule N r).take t' ++ [(placeMax N t, (y : Int))]) := Lib.hid (by rw [← HHP.out]; exact edgesRule_take hy)
          have hsz : wc.heap.size ≤ wr.heap.size := hgri.out.size
          have HT9 : Hid (∀ w9, Below wc.heap.size wr w9 → w9.cell? ⟨Bm, 1, none⟩ = some (.slice AI (kE + t') cI) ∧ w9.frozen? ⟨Bm, 1, none⟩ = false) := Lib.hid (fun w9 hb9 => by
           have hh := hmi.out.below hb9 HBmC.out
           exact ⟨hh.cell (j := 1) rfl, hh.free 1⟩)
          unfold nv at z1
          clear hy
          go_wp2_with (at_builtin; refine wpList_pushE2 wr _ _ wc.heap.size AI (kE + t') cI (edgesMk N (rules.take z) ++ (edgesRule N r).take t') (placeMax N t, (y : Int)) howni.out hsz (by omega) rfl rfl rfl rfl ?_; intro g9 c9 w9 hown9 hb9 hgr9 hat9; obtain ⟨t1, tf⟩ := HT9.out w9 hb9)
          have HBM9 : Hid (Blk (w9.setCell ⟨Bm, 1, none⟩ (.slice (some ⟨g9, 0, none⟩) (kE + t' + 1) c9)) Bm 43 [.slice AN nN cN, .slice (some ⟨g9, 0, none⟩) (kE + t' + 1) c9, .int .u64 0, .int .u64 0]) := Lib.hid ((hmi.out.below hb9 HBmC.out).same 1 _)
          have HOW : Hid ((w9.setCell ⟨Bm, 1, none⟩ (.slice (some ⟨g9, 0, none⟩) (kE + t' + 1) c9)).ownsRow wc.heap.size 102 2 (.slice (some ⟨g9, 0, none⟩) (kE + t' + 1) c9) (kE + t' + 1) (eV (edgesMk N (rules.take z) ++ (edgesRule N r).take (t' + 1)))) := Lib.hid (by
           rw [HTK2.out, ← List.append_assoc]
           exact ownsRow_setCell_below hown9 (a := ⟨Bm, 1, none⟩) HBmC.out _)
          have HGR : Hid (wc.grownBy (w9.setCell ⟨Bm, 1, none⟩ (.slice (some ⟨g9, 0, none⟩) (kE + t' + 1) c9)) (some Bm)) := Lib.hid (gb_set (gb_below hgri.out hb9) 1 _)
          have HNU : Hid ((w9.setCell ⟨Bm, 1, none⟩ (.slice (some ⟨g9, 0, none⟩) (kE + t' + 1) c9)).ownsRow w10.heap.size 3 1 (.slice (some ⟨bN, oN, none⟩) (nums (setIn N r.2)).length cNu) (nums (setIn N r.2)).length ((nums (setIn N r.2)).map nv)) := Lib.hid (ownsRow_setCell_other (hnum.out.kept hgr9 (.inr (fun he => hnei.out bN he.symm rfl))) (a := ⟨Bm, 1, none⟩) (fun he => by
           have h1 := (HND.out bN rfl).1
           have h2 := HBR6.out
           injection he with he
           simp only at he
           omega) _)
          have HNE2 : Hid (∀ g, (Value.slice (some ⟨g9, 0, none⟩) (kE + t' + 1) c9).ownBlock = some g → (Value.slice (some ⟨bN, oN, none⟩) (nums (setIn N r.2)).length cNu).ownBlock ≠ some g) := Lib.hid (fun g hg => by
           injection hg with hg
           subst hg
           rcases hat9 with hat | hat
           ·exact hnei.out _ hat
           ·intro he
            have h1 := (HND.out _ he).2
            have h2 := hsi.out
            simp only at h1 hat
            omega)
          have HSI : Hid (w5'.heap.size ≤ (w9.setCell ⟨Bm, 1, none⟩ (.slice (some ⟨g9, 0, none⟩) (kE + t' + 1) c9)).heap.size) := Lib.hid (by have h1 := hgr9.size; have h2 := hsi.out; simp [World.setCell]; omega)
          clear hown9 hb9 hgr9 hat9
          go_roundw
          case rel => exact ⟨t' + 1, by omega, by go_num, some ⟨g9, 0, none⟩, c9, HBM9, HOW, HGR, HNU, HNE2, HSI⟩
          case measure => simp [intOf]; omega
         ·obtain rfl : t' = (nums (setIn N r.2)).length := by omega
          have hal : (edgesRule N r).length = (nums (setIn N r.2)).length := edgesRule_len N r
          have HE2 : Hid (edgesMk N (rules.take z) ++ (edgesRule N r).take (nums (setIn N r.2)).length = edgesMk N (rules.take (z + 1))) := Lib.hid (by rw [HTO.out, show (edgesRule N r).take (nums (setIn N r.2)).length = edgesRule N r from List.take_of_length_le (by omega)])
          have HOW : Hid (wr.ownsRow wc.heap.size 102 2 (.slice AI (kE + (nums (setIn N r.2)).length) cI) (kE + (nums (setIn N r.2)).length) (eV (edgesMk N (rules.take (z + 1))))) := Lib.hid (by have := howni.out; rwa [HE2.out] at this)
          have HLN2 : Hid ((edgesMk N (rules.take (z + 1))).length = kE + (nums (setIn N r.2)).length) := Lib.hid (by have := HOW.out.1; rw [eV_len] at this; omega)
          clear howni hnum hnei hal
          go_wp2_with fail
          exact ⟨⟨z + 1, by omega, rfl, AI, kE + (nums (setIn N r.2)).length, cI, by omega, HLN2, hmi, HOW, hgri⟩, measL hlt⟩
       ·obtain rfl : z = q := by omega
        rw [HTK.out] at hkE hown
        have HX9 := Lib.hid (HXB.out _ (HGB.out _ hgr.out))
        have HR9 := Lib.hid (HRB.out _ (HGB.out _ hgr.out))
        have HCP := Lib.hid (HSET.out wr.drew (gb_drewN hgr.out 1) A1 f.pho n1 c1 ((HF.out.rd.pho.below (HWB.out _ (HGB.out _ hgr.out))).drewN 1) HF.out.e1 (by omega))
        have HCM := Lib.hid (HSET.out wr.drew (gb_drewN hgr.out 1) AM (rules.map headP) z cM ((HMB.out _ (HGB.out _ hgr.out)).drewN 1) (by rw [List.length_map, ← HRR.out]; unfold rulesOf; rw [List.length_map]; exact HNR.out) (by omega))
        have m1 := hm.out.cell (j := 0) rfl
        have m2 := hm.out.cell (j := 1) rfl
        have m3 := hm.out.cell (j := 2) rfl
        have m4 := hm.out.cell (j := 3) rfl
        have mf := hm.out.free
        have hne : w.heap.size ≠ Bm := by have := HBr6.out.2; omega
        have hne2 : Br ≠ Bm := by have := HBr6.out.1; omega
        have x2 := HX9.out.c2
        have HHM := Lib.hid hm.out
        have HOE := Lib.hid hown.out
        have HGW := Lib.hid hgr.out
        clear hm hown hgr
        go_upto_region 29 with fail
        have HS1 : Hid ((wr.setCell ⟨Bm, 2, none⟩ (.int .u64 (setIn N f.pho : Nat))).cell? ⟨Bm, 0, none⟩ = some (.slice AN nN cN) ∧ (wr.setCell ⟨Bm, 2, none⟩ (.int .u64 (setIn N f.pho : Nat))).cell? ⟨w.heap.size, 1, none⟩ = some (.slice A1 n1 c1)) := Lib.hid ⟨(HHM.out.same 2 _).cell (j := 0) rfl, (World.cell?_of_block (Below.heap_setCell _ _ _ _ hne)).trans x2⟩
        have HS2 : Hid (((wr.setCell ⟨Bm, 2, none⟩ (.int .u64 (setIn N f.pho : Nat))).setCell ⟨Bm, 3, none⟩ (.int .u64 (setIn N (rules.map headP) : Nat))).cell? ⟨Bm, 0, none⟩ = some (.slice AN nN cN) ∧ ((wr.setCell ⟨Bm, 2, none⟩ (.int .u64 (setIn N f.pho : Nat))).setCell ⟨Bm, 3, none⟩ (.int .u64 (setIn N (rules.map headP) : Nat))).cell? ⟨w.heap.size, 1, none⟩ = some (.slice A1 n1 c1)) := Lib.hid ⟨((HHM.out.same 2 _).same 3 _).cell (j := 0) rfl, (World.cell?_of_block (Below.heap_setCell _ _ _ _ hne)).trans HS1.out.2⟩
        go_region_held3 (fun W => W.cell? ⟨Bm, 0, none⟩ = some (.slice AN nN cN) ∧ W.cell? ⟨w.heap.size, 1, none⟩ = some (.slice A1 n1 c1))
         ((refine ⟨?_, ?_⟩ <;> first | (with_reducible assumption) | exact m1 | exact x2 | exact HS1.out.1 | exact HS1.out.2 | exact HS2.out.1 | exact HS2.out.2))
         ((first
           | (go_at_call 74; (with_reducible refine HCP.out.mono ?_); rintro e u1 ⟨rfl, rfl⟩)
           | (go_at_call 74; (with_reducible refine HCM.out.mono ?_); rintro e u2 ⟨rfl, rfl⟩)))
        have HM2 := Lib.hid ((((HHM.out.same 2 (.int .u64 (setIn N f.pho : Nat))).same 3 (.int .u64 (setIn N (rules.map headP) : Nat)))).drw)
        have HG2 := Lib.hid (gb_drewN (gb_set (gb_set HGW.out 2 (.int .u64 (setIn N f.pho : Nat))) 3 (.int .u64 (setIn N (rules.map headP) : Nat))) 1)
        have HO2 := Lib.hid (ownsRow_setCell_below (ownsRow_setCell_below HOE.out (a := ⟨Bm, 2, none⟩) HBmC.out (.int .u64 (setIn N f.pho : Nat))) (a := ⟨Bm, 3, none⟩) HBmC.out (.int .u64 (setIn N (rules.map headP) : Nat)))
        rw [drew_one] at HG2
        have HO3 := Lib.hid (own_lt HO2.out (Below.drew (Below.refl _ _)) (fun g hg => (HO2.out.lt g hg).2))
        clear m1 m2 m3 m4 mf x2 HHM HGW HOE HS1 HS2 HCP HCM
        generalize ((wr.setCell ⟨Bm, 2, none⟩ (.int .u64 (setIn N f.pho : Nat))).setCell ⟨Bm, 3, none⟩ (.int .u64 (setIn N (rules.map headP) : Nat))).drew = wy at *
        have R9 := Lib.hid (HRB.out _ (HGB.out _ HG2.out))
        have HNY := Lib.hid (HNW.out _ HG2.out)
        have BWY := Lib.hid (HWB.out _ (HGB.out _ HG2.out))
        have m1 := HM2.out.cell (j := 0) rfl
        have m2 := HM2.out.cell (j := 1) rfl
        have m3 := HM2.out.cell (j := 2) rfl
        have m4 := HM2.out.cell (j := 3) rfl
        have r1 := R9.out.cell (j := 0) rfl
        have r2 := R9.out.cell (j := 1) rfl
        have r3 := R9.out.cell (j := 2) rfl
        have r4 := R9.out.cell (j := 3) rfl
        have rf := R9.out.free
        go_wp2_with fail
        have RZ := Lib.hid (R9.out.put4 (.slice AN nN cN) (.slice AE kE cE) (.int .u64 (setIn N f.pho : Nat)) (.int .u64 (setIn N (rules.map headP) : Nat)))
        have BZ := Lib.hid (below_put4 BWY.out (by have := HBr.out; omega : w.heap.size ≤ Br) (.slice AN nN cN) (.slice AE kE cE) (.int .u64 (setIn N f.pho : Nat)) (.int .u64 (setIn N (rules.map headP) : Nat)))
        have EZ := Lib.hid (rd_of_ownK (own_put4 (b := Br) HO3.out (fun he => by have h1 := (HO3.out.lt Br he).1; have h2 := HBr6.out.1; have h3 := HBmC.out; omega) (.slice AN nN cN) (.slice AE kE cE) (.int .u64 (setIn N f.pho : Nat)) (.int .u64 (setIn N (rules.map headP) : Nat))))
        have HBRF := Lib.hid (rd_off_blk R9.out HNY.out (by intro v hv s; simp at hv; rcases hv with rfl | rfl <;> simp))
        have NZ : Hid (Rd ((((wy.setCell ⟨Br, 0, none⟩ (.slice AN nN cN)).setCell ⟨Br, 1, none⟩ (.slice AE kE cE)).setCell ⟨Br, 2, none⟩ (.int .u64 (setIn N f.pho : Nat))).setCell ⟨Br, 3, none⟩ (.int .u64 (setIn N (rules.map headP) : Nat))) AN (N.map sv)) := Lib.hid (fun hp => by
         obtain ⟨g, off, hA, hlt, hcc⟩ := HNY.out hp
         have hng := HBRF.out g off hA (by simpa using hp)
         refine ⟨g, off, hA, by simpa [World.setCell] using hlt, fun j u hu => ?_⟩
         exact cell_put4 (hcc j u hu) hng _ _ _ _)
        generalize ((((wy.setCell ⟨Br, 0, none⟩ (.slice AN nN cN)).setCell ⟨Br, 1, none⟩ (.slice AE kE cE)).setCell ⟨Br, 2, none⟩ (.int .u64 (setIn N f.pho : Nat))).setCell ⟨Br, 3, none⟩ (.int .u64 (setIn N (rules.map headP) : Nat))) = wz at *
        have q1 := RZ.out.cell (j := 0) rfl
        have q2 := RZ.out.cell (j := 1) rfl
        have q3 := RZ.out.cell (j := 2) rfl
        have q4 := RZ.out.cell (j := 3) rfl
        refine bodyPost_ret (v := .tuple #[.agg #[.slice AN nN cN, .slice AE kE cE, .int .u64 (setIn N f.pho : Nat), .int .u64 (setIn N (rules.map headP) : Nat)], .int .i64 0]) (by simp [results, Tryz.results31, go_sem, q1, q2, q3, q4]) rfl ?_
        unfold GmPost mkN mkEd mkP mkM
        rw [if_pos HE.out, if_pos HE.out, if_pos HE.out, if_pos HE.out, HE.out, HRUL.out, HNQ.out]
        exact ⟨AN, cN, AE, cE, by rw [HNL.out, hkE.out]; rfl, NZ.out, EZ.out, BZ.out⟩
  ·have HE := Lib.hid (mkE_fill HC0.out hf0)
   have HF0 := Lib.hid hf0
   have hn0 : (((fillE f.rul f.inf there : Nat) : Int) != 0) = true := by simp; omega
   generalize hv : ((fillE f.rul f.inf there : Nat) : Int) = V at *
   have HV := Lib.hid hv
   clear hf0 hv
   go_wp2_with fail
   have RZ := Lib.hid (R4.out.put4 (.slice none 0 0) (.slice none 0 0) (.int .u64 0) (.int .u64 0))
   have BZ := Lib.hid (below_put4 B4.out (by have := HBr.out; omega : w.heap.size ≤ Br) (.slice none 0 0) (.slice none 0 0) (.int .u64 0) (.int .u64 0))
   generalize ((((w4.setCell ⟨Br, 0, none⟩ (.slice none 0 0)).setCell ⟨Br, 1, none⟩ (.slice none 0 0)).setCell ⟨Br, 2, none⟩ (.int .u64 0)).setCell ⟨Br, 3, none⟩ (.int .u64 0)) = wz at *
   have q1 := RZ.out.cell (j := 0) rfl
   have q2 := RZ.out.cell (j := 1) rfl
   have q3 := RZ.out.cell (j := 2) rfl
   have q4 := RZ.out.cell (j := 3) rfl
   refine bodyPost_ret (v := .tuple #[.agg #[.slice none 0 0, .slice none 0 0, .int .u64 0, .int .u64 0], .int .i64 V]) (by simp [results, Tryz.results31, go_sem, q1, q2, q3, q4]) rfl ?_
   exact gmPost_no (by rw [HE.out]; exact HF0.out) (by rw [HE.out]; exact HV.out.symm) rfl BZ.out
 ·have HE := Lib.hid (mkE_chk (there := there) hc0)
  have HC0 := Lib.hid hc0
  have hn0 : (((chkF f : Nat) : Int) != 0) = true := by simp; omega
  generalize hv : ((chkF f : Nat) : Int) = V at *
  have HV := Lib.hid hv
  clear hc0 hv
  go_wp2_with fail
  have RZ := Lib.hid (R3.out.put4 (.slice none 0 0) (.slice none 0 0) (.int .u64 0) (.int .u64 0))
  have BZ := Lib.hid (below_put4 B3.out (by have := HBr.out; omega : w.heap.size ≤ Br) (.slice none 0 0) (.slice none 0 0) (.int .u64 0) (.int .u64 0))
  generalize ((((w3.setCell ⟨Br, 0, none⟩ (.slice none 0 0)).setCell ⟨Br, 1, none⟩ (.slice none 0 0)).setCell ⟨Br, 2, none⟩ (.int .u64 0)).setCell ⟨Br, 3, none⟩ (.int .u64 0)) = wz at *
  have q1 := RZ.out.cell (j := 0) rfl
  have q2 := RZ.out.cell (j := 1) rfl
  have q3 := RZ.out.cell (j := 2) rfl
  have q4 := RZ.out.cell (j := 3) rfl
  refine bodyPost_ret (v := .tuple #[.agg #[.slice none 0 0, .slice none 0 0, .int .u64 0, .int .u64 0], .int .i64 V]) (by simp [results, Tryz.results31, go_sem, q1, q2, q3, q4]) rfl ?_
  exact gmPost_no (by rw [HE.out]; exact HC0.out) (by rw [HE.out]; exact HV.out.symm) rfl BZ.out
end
end Go.Proofs.YtoandhhkmkgmaaaGreatDoor
namespace Go.Proofs.YtoandhhkmkgmaaaGreatDoor
open Go.RowKit

def hdAny (all : List RuleT) (s : KeyT) : Bool := all.any fun x => decide (x.1.headD [] = s)
theorem hdAny_snoc (l : List RuleT) (r : RuleT) (s : KeyT) : hdAny (l ++ [r]) s = (hdAny l s || decide (r.1.headD [] = s)) := by unfold hdAny; rw [List.any_append]; simp
theorem isF_eq (l : List SufT) (all : List RuleT) (known : List KeyT) (s : KeyT) : isF l all known s = (hdAny all s || (decide (needsR all s = []) && (ofP l known s).isSome)) := rfl
theorem filter_snocT {p : KeyT → Bool} {l : List KeyT} {x : KeyT} (h : p x = true) : (l ++ [x]).filter p = l.filter p ++ [x] := by rw [List.filter_append]; simp [h]
theorem filter_snocF {p : KeyT → Bool} {l : List KeyT} {x : KeyT} (h : p x = false) : (l ++ [x]).filter p = l.filter p := by rw [List.filter_append]; simp [h]
theorem rising_le (l : List KeyT) : (rising l).length ≤ l.length := by
 rw [← compact_sorted]
 exact Nat.le_trans (Lib.compact_length_le _) (by simp)
theorem own_ne_blk2 {w : World} {B CB n : Nat} {v : Value} {xs : List Value} {vs : List Value} (h : w.ownsRow B 9 1 v n xs) (hb : Blk w CB 78 vs) : v.ownBlock ≠ some CB := fun e => by
 rcases h.2 with ⟨hv, _⟩ | ⟨g, cap, cur, hv, _, hg, _⟩
 ·rw [hv] at e; cases e
 ·rw [hv] at e
  simp [Value.ownBlock] at e
  subst e
  unfold Blk at hb
  rw [hb] at hg
  injection hg with hg
  injection hg with _ hg _
  exact absurd hg (by decide)
theorem blk_gb {w w' : World} {CB : Nat} {t : TypeId} {vs : List Value} {r : Option Nat} (h : Blk w CB t vs) (hg : w.grownBy w' r) (hn : r ≠ some CB) : Blk w' CB t vs := by
 unfold Blk at *
 rw [hg.block CB (lt_of_blockG h) (fun e => hn e.symm)]
 exact h
set_option maxRecDepth 100000 in
set_option maxHeartbeats 8000000 in
theorem rFilled_any {A B C : Option Addr} {n c m d k e : Nat} (L0 : List RSlot) (l : List SufT) (there : List KeyT) (w : World) (hA : RsAll A L0 w) (hn : L0.length = n) (hb : n ≤ 9223372036854775807)
 (hl : Rd w B (macV l)) (hm : l.length = m) (hmb : m ≤ 9223372036854775807) (hmc : m ≤ d) (hls : ∀ x ∈ l, x.1.length ≤ 9223372036854775807 ∧ x.2.length ≤ 9223372036854775807)
 (ht : Rd w C (there.map sv)) (hk : there.length = k) (hkb : k ≤ 4189000) (hts : StrsOk there) :
 Calls Tryz.prog 75 #[.slice A n c, .slice B m d, .slice C k e] w (FillPost (rulesOf L0) l there w) := by
 have HJ := Lib.hid (rJoined_any (c := c) L0 w hA hn hb)
 have HCK := Lib.hid (fun W (hW : Below w.heap.size w W) => rInfFault_any l W (hl.below hW) hm hmb hmc hls)
 have HNM := Lib.hid (fun W (hW : Below w.heap.size w W) => goodNames_any (c := e) there W (ht.below hW) hk (by omega) hts)
 have HRL := Lib.hid hl
 have HML := Lib.hid hm
 have HMB := Lib.hid hmb
 have HT := Lib.hid ht
 have HK := Lib.hid hk
 generalize rulesOf L0 = R0 at *
 clear hA hn hl hm hmb hmc hls ht hk hts
 go_enter Tryz.func75, Tryz.ntmps75
 go_wp2_with fail
 refine HJ.out.mono ?_
 rintro e w1 ⟨A1, c1, L, rfl, hrs, hrl, hb1⟩
 have HRS := Lib.hid hrs
 have HRR := Lib.hid hrl
 have HB1 := Lib.hid hb1
 clear hrs hrl hb1
 by_cases hj : joinE R0 = 0
 ·have HJ0 := Lib.hid hj
  have HJF := Lib.hid (joinR_facts hj)
  rw [hj]
  clear hj
  go_wp2_with fail
  refine (HCK.out _ HB1.out).mono ?_
  rintro e w2 ⟨rfl, hb2⟩
  have HB2 := Lib.hid (below_newL HB1.out hb2)
  have HRS2 := Lib.hid (HRS.out.below hb2)
  clear hb2
  by_cases hi : infE l = 0
  ·have HI0 := Lib.hid hi
   rw [hi]
   clear hi
   go_wp2_with fail
   refine (HNM.out _ HB2.out).mono ?_
   rintro e w3 ⟨rfl, rfl⟩
   cases hg : there.all goodName with
   | false =>
     have HE := Lib.hid (fillE_name HJ0.out HI0.out hg)
     clear hg
     go_wp2_with fail
     go_ret2
     exact fillPost_no (by rw [HE.out]; decide) (by rw [HE.out]; rfl) HB2.out
   | true =>
     have HG := Lib.hid hg
     clear hg
     have HLN : Hid (L.length ≤ 64) := Lib.hid (by have h := HJF.out.len; rw [← HRR.out] at h; unfold rulesOf at h; rw [List.length_map] at h; exact h)
     obtain ⟨nl, hnl⟩ : ∃ nl, L.length = nl := ⟨_, rfl⟩
     have hnl64 : nl ≤ 64 := by rw [← hnl]; exact HLN.out
     have HNL := Lib.hid hnl
     rw [hnl]
     clear hnl
     rw [← HRR.out] at HJF
     have HAL := Lib.hid (asked_len HJF.out.sum)
     have HBBW := Lib.hid (fun W (hW : Below w2.heap.size w2 W) => (below_newL HB2.out hW : Below w.heap.size w W))
     have HRSB := Lib.hid (fun W (hW : Below w2.heap.size w2 W) => HRS2.out.below hW)
     clear HB1 HRS HCK HNM HJ
     go_wp2_with fail
     go_loopw [11, 13, 42] (fun v _ i wq => ∃ (q : Nat) (AZ : Option Addr) (cz mz : Nat) (zs : List KeyT), i = .int .i64 (q : Int) ∧ q ≤ nl ∧ v = .slice AZ mz cz ∧ mz ≤ 65 * q ∧ Hid (zs.length = mz) ∧ Hid (zs = askedP ((rulesOf L).take q)) ∧ Hid (wq.ownsRow w2.heap.size 9 1 (.slice AZ mz cz) mz (zs.map sv)) ∧ Hid (Below w2.heap.size w2 wq)) (fun _ _ i _ => nl - (intOf i).toNat)
     case atStart => exact ⟨0, none, 0, 0, [], rfl, by omega, rfl, by omega, Lib.hid rfl, Lib.hid rfl, Lib.hid (World.ownsRow_nil _ _ _ _), Lib.hid (Below.refl _ _)⟩
     case round =>
      obtain ⟨q, AZ, cz, mz, zs, rfl, hq, rfl, hmz, HZL, HZS, HO, HBQ⟩ := hrel
      have HRW := Lib.hid (HRSB.out _ HBQ.out)
      by_cases hltq : q < nl
      ·obtain ⟨x, hx⟩ : ∃ x, L[q]? = some x := ⟨_, List.getElem?_eq_getElem (by rw [HNL.out]; exact hltq)⟩
       have HR := Lib.hid (rulesOf_at hx)
       have HX := Lib.hid (HRW.out.each x (List.mem_of_getElem? hx))
       have HT1 := Lib.hid (HJF.out.tgt _ (List.mem_of_getElem? HR.out))
       have HT2 := Lib.hid (HJF.out.many _ (List.mem_of_getElem? HR.out))
       have HX2 := Lib.hid ((HRS2.out.each x (List.mem_of_getElem? hx)))
       obtain ⟨b1, o1, rfl, a1, a2⟩ := HRW.out.rd.two hx
       obtain ⟨⟨X1, xc1⟩, ⟨X2, xc2⟩, r⟩ := x
       unfold RsIn at HX HX2
       simp only [rsT, rsN] at a1 a2 HX HX2 HR HT1 HT2
       have hcap : 2 * q = q * 2 := by omega
       rw [hcap] at a1 a2
       rw [HT1.out] at a1
       have HBN := Lib.hid (below_new (Below.refl wr.heap.size wr) (.cells #[.slice X1 1 xc1, .slice X2 r.2.length xc2] 78))
       have HKX := Lib.hid (Blk.new wr #[.slice X1 1 xc1, .slice X2 r.2.length xc2] 78)
       have HO1 := Lib.hid (own_below HO.out HBN.out)
       have HB1 := Lib.hid (below_newL HBQ.out HBN.out)
       have HNB : Hid ((Value.slice AZ mz cz).ownBlock ≠ some wr.heap.size) := Lib.hid (fun e => by have := (HO.out.lt _ e).2; omega)
       have hk1 : (q : Int) < (nl : Int) := by omega
       have hn2 : r.2.length ≤ 64 := HT2.out
       clear hx hcap HX
       generalize hn2e : r.2.length = n2 at *
       have HN2E := Lib.hid hn2e
       clear hn2e
       go_upto_region 13 with fail
       generalize wr.alloc (.cells #[.slice X1 1 xc1, .slice X2 n2 xc2] 78) = w5 at *
       generalize wr.heap.size = CB at *
       have HCBL := Lib.hid HKX.out.lt
       have HSS : Hid (w5.drew.cell? ⟨CB, 0, none⟩ = some (.slice X1 1 xc1) ∧ w5.drew.cell? ⟨CB, 1, none⟩ = some (.slice X2 n2 xc2)) := Lib.hid ⟨HKX.out.cell (j := 0) rfl, HKX.out.cell (j := 1) rfl⟩
       clear a1 a2
       refine wp_region_x (fun W => W.cell? ⟨CB, 0, none⟩ = some (.slice X1 1 xc1) ∧ W.cell? ⟨CB, 1, none⟩ = some (.slice X2 n2 xc2)) 7 (by kernel_rfl) ?_
       refine wpAnyX_take (i := 0) (v := ?v0) rfl (by kernel_rfl) (by kernel_rfl) (by kernel_rfl) (by kernel_rfl) (fun _ _ _ h => h) (Or.inl ⟨by rfl, ?hy0⟩) HSS.out ?rest0
       case hy0 => (intro W hSw; (try dsimp only at hSw); obtain ⟨hS1, hS2⟩ := hSw; go_simp; try with_reducible rfl)
       refine wpAnyX_take (i := 1) (v := ?v1) rfl (by kernel_rfl) (by kernel_rfl) (by kernel_rfl) (by kernel_rfl) (fun _ _ _ h => h) (Or.inl ⟨by rfl, ?hy1⟩) HSS.out ?rest1
       case hy1 => (intro W hSw; (try dsimp only at hSw); obtain ⟨hS1, hS2⟩ := hSw; go_simp; try with_reducible rfl)
       refine wpAnyX_take (i := 2) (v := ?v2) rfl (by kernel_rfl) (by kernel_rfl) (by kernel_rfl) (by kernel_rfl) (fun _ _ _ h => h) (Or.inl ⟨by rfl, ?hy2⟩) HSS.out ?rest2
       case hy2 => (intro W hSw; (try dsimp only at hSw); obtain ⟨hS1, hS2⟩ := hSw; go_simp; try with_reducible rfl)
       refine wpAnyX_take (i := 4) (v := ?v4) rfl (by kernel_rfl) (by kernel_rfl) (by kernel_rfl) (by kernel_rfl) (fun _ _ _ h => h) (Or.inl ⟨by rfl, ?hy4⟩) HSS.out ?rest4
       case hy4 => (intro W hSw; (try dsimp only at hSw); obtain ⟨hS1, hS2⟩ := hSw; go_simp; try with_reducible rfl)
       refine wpAnyX_take (i := 5) (v := ?v5) rfl (by kernel_rfl) (by kernel_rfl) (by kernel_rfl) (by kernel_rfl) (fun _ _ _ h => h) (Or.inl ⟨by rfl, ?hy5⟩) HSS.out ?rest5
       case hy5 => (intro W hSw; (try dsimp only at hSw); obtain ⟨hS1, hS2⟩ := hSw; go_simp; try with_reducible rfl)
       refine wpAnyX_one (i := 3) (by kernel_rfl) rfl (fun K hK => ?_)
       have HXT : Hid (Rd w5.drew X1 (r.1.map sv)) := Lib.hid ((HX2.out.t.below HB1.out).drewN 1)
       have HXN : Hid (Rd w5.drew X2 (r.2.map sv)) := Lib.hid ((HX2.out.n.below HB1.out).drewN 1)
       have HSZ : Hid (w2.heap.size ≤ w5.drew.heap.size) := Lib.hid HB1.out.size
       refine step_catN w5.drew (.tmp 46) (.tmp 48) w2.heap.size AZ mz cz (zs.map sv) X1 1 xc1 (r.1.map sv) HO1.out HXT.out (by rw [List.length_map]; exact HT1.out) (sv_one _) HSZ.out (by omega) rfl rfl (by go_simp) (by go_simp) ?_
       intro A6 c6 w6 hown6 hg6
       have HO6 := Lib.hid hown6
       have HG6 := Lib.hid hg6
       have HK6 := Lib.hid (blk_gb (HKX.out.below (Below.drew (Below.refl _ _)) HCBL.out) hg6 HNB.out)
       have HS6 : Hid (w6.cell? ⟨CB, 0, none⟩ = some (.slice X1 1 xc1) ∧ w6.cell? ⟨CB, 1, none⟩ = some (.slice X2 n2 xc2)) := Lib.hid ⟨HK6.out.cell (j := 0) rfl, HK6.out.cell (j := 1) rfl⟩
       have HB6 : Hid (Below w2.heap.size w5.drew w6) := Lib.hid (below_gb2 hg6 (fun k hk => (HO1.out.lt k hk).1) HSZ.out)
       have HXN6 : Hid (Rd w6 X2 (r.2.map sv)) := Lib.hid (HX2.out.n.below ((HB1.out.trans (Below.drew (Below.refl _ _))).trans HB6.out))
       have HSZ6 : Hid (w2.heap.size ≤ w6.heap.size) := Lib.hid (Nat.le_trans HSZ.out HB6.out.size)
       clear hown6 hg6
       refine hK _ _ (fun _ => HS6.out) ?_
       clear hK K
       refine wpAnyX_one (i := 6) (by kernel_rfl) rfl (fun K hK => ?_)
       refine step_catN w6 (.tmp 49) (.tmp 51) w2.heap.size A6 (mz + 1) c6 (zs.map sv ++ r.1.map sv) X2 n2 xc2 (r.2.map sv) HO6.out HXN6.out (by rw [List.length_map]; exact HN2E.out) (sv_one _) HSZ6.out (by omega) rfl rfl (by go_simp) (by go_simp) ?_
       intro A7 c7 w7 hown7 hg7
       have HK7 := Lib.hid (blk_gb HK6.out hg7 (own_ne_blk2 HO6.out HK6.out))
       have HS7 : Hid (w7.cell? ⟨CB, 0, none⟩ = some (.slice X1 1 xc1) ∧ w7.cell? ⟨CB, 1, none⟩ = some (.slice X2 n2 xc2)) := Lib.hid ⟨HK7.out.cell (j := 0) rfl, HK7.out.cell (j := 1) rfl⟩
       have HB7 := Lib.hid (((HB1.out.trans (Below.drew (Below.refl _ _))).trans HB6.out).trans (below_gb2 hg7 (fun k hk => (HO6.out.lt k hk).1) HSZ6.out))
       have HO7 : Hid (w7.ownsRow w2.heap.size 9 1 (.slice A7 (mz + 1 + n2) c7) (mz + 1 + n2) ((zs ++ (r.1 ++ r.2)).map sv)) := Lib.hid (by rw [List.map_append, List.map_append, ← List.append_assoc]; exact hown7)
       clear hown7 hg7
       refine hK _ _ (fun _ => HS7.out) ?_
       clear hK K
       refine wpAnyX_one (i := 7) (by kernel_rfl) rfl (fun K hK => ?_)
       rw [if_pos (by rfl)]
       go_simp
       refine hK _ _ (fun h => absurd rfl h) ?_
       clear hK K
       refine wpAnyX_done (by kernel_rfl) ?_ _
       have HZ2 : Hid (zs ++ (r.1 ++ r.2) = askedP ((rulesOf L).take (q + 1))) := Lib.hid (by rw [asked_take HR.out, HZS.out])
       have HM2 : Hid ((zs ++ (r.1 ++ r.2)).length = mz + 1 + n2) := Lib.hid (by rw [List.length_append, List.length_append, HZL.out, HT1.out, HN2E.out]; omega)
       obtain ⟨m2, hm2⟩ : ∃ m2, m2 = mz + 1 + n2 := ⟨_, rfl⟩
       rw [← hm2] at HM2 HO7
       simp only [← hm2]
       have hm3 : m2 ≤ 65 * (q + 1) := by omega
       clear hm2
       go_wp2_with fail
       exact ⟨⟨q + 1, A7, c7, m2, _, rfl, by omega, rfl, hm3, HM2, HZ2, HO7, HB7⟩, measL hltq⟩
      ·obtain rfl : q = nl := by omega
       have HTK : Hid ((rulesOf L).take q = rulesOf L) := Lib.hid (List.take_of_length_le (by unfold rulesOf; rw [List.length_map, HNL.out]; exact Nat.le_refl _))
       rw [HTK.out] at HZS
       have HRIS := Lib.hid (rRising_any (c := cz) zs wr (Rd.of_own HO.out) HZL.out (by omega))
       have HR64 : Hid ((rising zs).length ≤ 4160) := Lib.hid (by have := rising_le zs; have := HZL.out; omega)
       unfold RisPost at HRIS
       clear HO
       go_wp2_with fail
       refine HRIS.out.mono ?_
       rintro e w5 ⟨AR, cR, rfl, hr5, hb5⟩
       have HR5 := Lib.hid hr5
       have HB5 := Lib.hid (below_newL HBQ.out hb5)
       have HRAE : Hid (rising zs = rising (askedP (rulesOf L))) := Lib.hid (by rw [HZS.out])
       have HAGD : Hid (∀ s ∈ rising zs, goodName s = true) := Lib.hid (fun s hs => by
        rw [mem_rising, HZS.out] at hs
        exact HJF.out.asked_good s hs)
       have HKS : Hid (rising (rising zs ++ there) = saidP (rulesOf L) there) := Lib.hid (by rw [HZS.out]; exact said_swap _ _)
       clear hr5 hb5 HRIS
       generalize rising zs = RA at *
       generalize hra : RA.length = nr at *
       have HRL2 := Lib.hid hra
       have hnr := HR64.out
       have HTW := Lib.hid (fun W (hW : Below w2.heap.size w2 W) => HT.out.below (HBBW.out W hW))
       clear hra
       go_wp2_with (first
        | (at_builtin; refine wpList_cat elStr w5 (.const (.slice none 0 0)) _ w5.heap.size none 0 0 [] AR nr cR (RA.map sv) (World.ownsRow_nil _ _ _ _) HR5.out (by rw [List.length_map]; exact HRL2.out) (sv_one _) (Nat.le_refl _) (by omega) (by omega) rfl rfl rfl rfl ?_; intro A6 c6 w6 hown6 hb6; have HO6 := Lib.hid hown6; rw [Nat.zero_add] at HO6; have HB6 := Lib.hid hb6; have HSZ6 := Lib.hid hb6.size; clear hown6 hb6)
        | (at_builtin; refine wpList_cat elStr w6 _ _ w5.heap.size A6 nr c6 ([] ++ RA.map sv) C k e (there.map sv) HO6.out (HTW.out _ (below_newL HB5.out HB6.out)) (by rw [List.length_map]; exact HK.out) (sv_one _) HSZ6.out (by omega) (by omega) rfl rfl rfl rfl ?_; intro A7 c7 w7 hown7 hb7; have HO7 := Lib.hid hown7; have HB7 := Lib.hid (HB6.out.trans hb7); clear hown7 hb7))
       have HRK0 : Hid (Rd w7 A7 ((RA ++ there).map sv)) := Lib.hid (by have h := Rd.of_own HO7.out; rw [List.nil_append, ← List.map_append] at h; exact h)
       have HRIS := Lib.hid (rRising_any (c := c7) (n := nr + k) (RA ++ there) w7 HRK0.out (by rw [List.length_append, HRL2.out, HK.out]) (by omega))
       unfold RisPost at HRIS
       rw [HKS.out] at HRIS
       clear HO7 HO6 HSZ6 HRK0
       refine HRIS.out.mono ?_
       rintro e w8 ⟨AK, cK, rfl, hr8, hb8⟩
       have HRK := Lib.hid hr8
       have HB58 := Lib.hid (below_newL HB7.out hb8)
       have HB8w := Lib.hid (below_newL HB5.out HB58.out)
       have HR8 := Lib.hid (HR5.out.below HB58.out)
       have HEW := Lib.hid (fun h => fillE_wide (r := R0) (l := l) (there := there) HJ0.out HI0.out HG.out h)
       have HEO := Lib.hid (fun h => fillE_ok (r := R0) (l := l) (there := there) HJ0.out HI0.out HG.out h)
       have HFO := Lib.hid (fun h => fillR_ok (r := R0) (l := l) (there := there) h)
       have HKG : Hid (∀ s ∈ saidP (rulesOf L) there, goodName s = true) := Lib.hid (fun s hs => by
        unfold saidP at hs
        rw [mem_rising] at hs
        exact List.all_eq_true.1 (HJF.out.said_good HG.out) s hs)
       rw [← HRR.out] at HEW HEO HFO
       clear hr8 hb8 HRIS HR5 HB6 HB7
       generalize saidP (rulesOf L) there = K at *
       by_cases h64 : 64 < K.length
       ·have HE := Lib.hid (HEW.out h64)
        have h65 : (64 : Int) < (K.length : Int) := by omega
        clear h64
        go_wp2_with fail
        go_ret2
        exact fillPost_no (by rw [HE.out]; decide) (by rw [HE.out]; rfl) (HBBW.out _ HB8w.out)
       ·have HE := Lib.hid (HEO.out h64)
        have h65 : ¬ (64 : Int) < (K.length : Int) := by omega
        have HRW8 := Lib.hid (HRSB.out _ HB8w.out)
        have HRL8 : Hid (Rd w8 B (macV l)) := Lib.hid (HRL.out.below (HBBW.out _ HB8w.out))
        have HLS := Lib.hid (fun x (hx : x ∈ l) => Nat.le_trans (sufB_len ((infE_ok HI0.out).2 x hx).1) (by decide : 10 ≤ 1099511627776))
        clear h64
        generalize hkl : K.length = kl at *
        have HKL := Lib.hid hkl
        have hkl64 : kl ≤ 64 := by omega
        clear hkl HTW
        go_wp2_with fail
        go_loopw [15, 17, 18, 19, 21, 22, 23, 66] (fun v _ _ _ _ _ _ i wq => ∃ (z z2 : Nat) (AO : Option Addr) (cO : Nat) (LO : List RSlot), i = .int .i64 (z : Int) ∧ z ≤ nr ∧ z2 ≤ z ∧ v = .slice AO z2 cO ∧ Hid (rulesOf LO = ((RA.take z).filter (isF l (rulesOf L) K)).map fun s => ([s], needF l (rulesOf L) K s)) ∧ Hid (OutInv wq w8.heap.size AO z2 cO LO) ∧ Hid (Below w8.heap.size w8 wq)) (fun _ _ _ _ _ _ _ i _ => nr - (intOf i).toNat)
        case atStart => exact ⟨0, 0, none, 0, [], rfl, by omega, by omega, rfl, Lib.hid rfl, Lib.hid (OutInv.start _ _), Lib.hid (Below.refl _ _)⟩
        case round =>
         obtain ⟨z, z2, AO, cO, LO, rfl, hz, hz2, rfl, HRO, HOI, HBZ⟩ := hrel
         by_cases hltz : z < nr
         ·obtain ⟨t, htz⟩ : ∃ t, RA[z]? = some t := ⟨_, List.getElem?_eq_getElem (by rw [HRL2.out]; exact hltz)⟩
          obtain ⟨b3, o3, rfl, ec⟩ := (HR8.out.below HBZ.out).scell htz
          have HTZ := Lib.hid htz
          have HTK2 : Hid (RA.take (z + 1) = RA.take z ++ [t]) := Lib.hid (take_snocS htz)
          have HTG := Lib.hid (HAGD.out t (List.mem_of_getElem? htz))
          have HT40 := Lib.hid (good_len HTG.out)
          have HNG := Lib.hid (needF_good (l := l) HJF.out HKG.out t)
          have HNL2 := Lib.hid (needF_len (l := l) (known := K) HJF.out t)
          have CN := Lib.hid (needsOf_any (c := c1) L t wr (HRW8.out.below HBZ.out) HNL.out (by omega) HJF.out.many)
          have HBS : Hid (sv t = .string ⟨t.toArray⟩) := Lib.hid rfl
          have HEQ := Lib.hid (fun x => eq_sv x t)
          have hz1 : (z : Int) < (nr : Int) := by omega
          have CIN := Lib.hid (fun W (hW : Below w8.heap.size w8 W) => rInferred_any (c := d) (d := cK) l K t W (HRL8.out.below hW) HML.out HMB.out (HRK.out.below hW) HKL.out (by omega) (by have := HT40.out; omega) HLS.out)
          unfold NdPost at CN
          unfold sv at CIN
          generalize hbs : (⟨t.toArray⟩ : ByteArray) = bs at *
          clear htz hbs
          go_wp2_with fail
          refine CN.out.mono ?_
          rintro e w9 ⟨AN, cN, rfl, hown9, hb9⟩
          have HNO := Lib.hid hown9
          have HB9 := Lib.hid (HBZ.out.trans (hb9.mono HBZ.out.size))
          have HBR9 := Lib.hid hb9
          have HOFF := Lib.hid (fun (h : t ∉ headsP (rulesOf L)) => needsR_off HJF.out.one h)
          clear hown9 hb9
          obtain ⟨nn, hnn⟩ : ∃ nn, (needsR (rulesOf L) t).length = nn := ⟨_, rfl⟩
          have HNN0 := Lib.hid hnn
          rw [hnn]
          rw [hnn] at HNO
          clear hnn
          go_wp2_with fail
          go_loopw [19, 21, 75] (fun b _ i wq => ∃ p : Nat, i = .int .i64 (p : Int) ∧ p ≤ q ∧ b = .bool (hdAny ((rulesOf L).take p) t) ∧ Hid (Below w9.heap.size w9 wq)) (fun _ _ i _ => q - (intOf i).toNat)
          case atStart => exact ⟨0, rfl, by omega, rfl, Lib.hid (Below.refl _ _)⟩
          case round =>
           obtain ⟨p, rfl, hp, rfl, HBP⟩ := hrel
           by_cases hltp : p < q
           ·obtain ⟨x, hx⟩ : ∃ x, L[p]? = some x := ⟨_, List.getElem?_eq_getElem (by rw [HNL.out]; exact hltp)⟩
            have HRX := Lib.hid (rulesOf_at hx)
            have HRWp := Lib.hid ((HRW8.out.below HB9.out).below HBP.out)
            have HXX := Lib.hid (HRWp.out.each x (List.mem_of_getElem? hx))
            have HT1 := Lib.hid (HJF.out.tgt _ (List.mem_of_getElem? HRX.out))
            obtain ⟨b1, o1, rfl, a1, a2⟩ := HRWp.out.rd.two hx
            obtain ⟨⟨X1, xc1⟩, ⟨X2, xc2⟩, r⟩ := x
            unfold RsIn at HXX
            simp only [rsT, rsN] at a1 a2 HXX HRX HT1
            have hcap : 2 * p = p * 2 := by omega
            rw [hcap] at a1 a2
            rw [HT1.out] at a1
            obtain ⟨t1, ht1⟩ : ∃ t1, r.1 = [t1] := List.length_eq_one_iff.1 HT1.out
            have hxt := HXX.out.t
            rw [ht1] at hxt
            obtain ⟨tb, tq, rfl, et⟩ := rd_one_at hxt
            have HBN := Lib.hid (below_new (Below.refl wr.heap.size wr) (.cells #[.slice (some ⟨tb, tq, none⟩) 1 xc1, .slice X2 r.2.length xc2] 78))
            have HKX := Lib.hid (Blk.new wr #[.slice (some ⟨tb, tq, none⟩) 1 xc1, .slice X2 r.2.length xc2] 78)
            have et2 := cell_kept et HBN.out
            have HBP2 := Lib.hid (below_newL HBP.out HBN.out)
            have HHD : Hid (hdAny ((rulesOf L).take (p + 1)) t = (hdAny ((rulesOf L).take p) t || decide (t1 = t))) := Lib.hid (by rw [take_snocS HRX.out, hdAny_snoc, ht1]; rfl)
            have heq := HEQ.out t1
            have hp1 : (p : Int) < (q : Int) := by omega
            generalize r.2.length = n2 at *
            clear hx hcap HXX ht1 hxt
            generalize (⟨t1.toArray⟩ : ByteArray) = b1s at *
            generalize hdAny ((rulesOf L).take p) t = HD at *
            go_upto_region 28 with fail
            generalize wr.alloc (.cells #[.slice (some ⟨tb, tq, none⟩) 1 xc1, .slice X2 n2 xc2] 78) = w10 at *
            generalize wr.heap.size = CB at *
            have d0 : w10.cell? ⟨CB, 0, none⟩ = some (.slice (some ⟨tb, tq, none⟩) 1 xc1) := HKX.out.cell (j := 0) rfl
            clear a1 a2 et
            cases HD with
            | true =>
              go_wp2_with fail
              exact ⟨⟨p + 1, rfl, by omega, by rw [HHD.out]; rfl, HBP2⟩, measL hltp⟩
            | false =>
              rw [Bool.false_or] at HHD
              rw [← HHD.out] at heq
              clear HHD
              obtain ⟨HD2, hhd2⟩ : ∃ b, hdAny ((rulesOf L).take (p + 1)) t = b := ⟨_, rfl⟩
              have HHD2 := Lib.hid hhd2
              rw [hhd2] at heq
              clear hhd2
              cases HD2 with
              | true =>
                go_wp2_with fail
                exact ⟨⟨p + 1, rfl, by omega, by rw [HHD2.out], HBP2⟩, measL hltp⟩
              | false =>
                go_wp2_with fail
                exact ⟨⟨p + 1, rfl, by omega, by rw [HHD2.out], HBP2⟩, measL hltp⟩
           -- END
           ·obtain rfl : p = q := by omega
            rw [HTK.out]
            have HBR0 := Lib.hid (below_newL HBR9.out HBP.out)
            have HBX0 := Lib.hid (HB9.out.trans (HBP.out.mono HB9.out.size))
            obtain ⟨HD, hhd⟩ : ∃ b, hdAny (rulesOf L) t = b := ⟨_, rfl⟩
            have HHD := Lib.hid hhd
            rw [hhd]
            clear hhd
            by_cases hn0 : nn = 0
            ·have HN0 : Hid (needsR (rulesOf L) t = []) := Lib.hid (List.eq_nil_of_length_eq_zero (by rw [HNN0.out]; exact hn0))
             subst hn0
             cases ho : ofP l K t with
             | none =>
               have HNF := Lib.hid (needF_none HN0.out ho)
               have HISF : Hid (isF l (rulesOf L) K t = HD) := Lib.hid (by rw [isF_eq, HHD.out, ho]; simp)
               rw [ho] at CIN
               clear ho
               cases HD with
               | true =>
                 go_wp2_with fail
                 refine (CIN.out _ HBX0.out).mono ?_
                 rintro e wX ⟨rfl, hbX⟩
                 have HBX := Lib.hid (HBX0.out.trans (hbX.mono HBX0.out.size))
                 have HBR := Lib.hid (below_newL HBR0.out hbX)
                 have HOIX := Lib.hid (HOI.out.below HBR.out)
                 have HNX : Hid (Rd wX AN ((needF l (rulesOf L) K t).map sv)) := Lib.hid (by rw [HNF.out]; exact Rd.nil_ _ _)
                 have HCX : Hid ((needF l (rulesOf L) K t).length ≤ cN) := Lib.hid (by rw [HNF.out]; simp)
                 have HNN : Hid ((needF l (rulesOf L) K t).length = 0) := Lib.hid (by rw [HNF.out]; rfl)
                 have HFARN : Hid (∀ g off, AN = some ⟨g, off, none⟩ → 0 < ((needF l (rulesOf L) K t).map sv).length → _ ≤ g) := Lib.hid (fun g off hA _ => own_ge HNO.out g off hA)
                 clear hbX ec
                 have HSVS : Hid (sv t = .string bs) := HBS
                 have hba := below_new (Below.refl wX.heap.size wX) (.cells #[.string bs] 9)
                 have HOI8 := Lib.hid (HOIX.out.below hba)
                 have HB8 := Lib.hid (below_newL HBX.out hba)
                 have HP : Hid (RsIn ((some ⟨wX.heap.size, 0, none⟩, 1), (AN, cN), ([t], needF l (rulesOf L) K t)) (wX.alloc (.cells #[.string bs] 9))) := Lib.hid (rsIn_one (rd_lit wX _ #[.string bs] 9 _ rfl (by simp only [List.map_cons, List.map_nil]; rw [HSVS.out])) (HNX.out.below hba) HCX.out HT40.out (fun s hs => good_len (HNG.out s hs)) (by have := HNL2.out; omega))
                 have HFP2 : Hid (farS ((some ⟨wX.heap.size, 0, none⟩, 1), (AN, cN), ([t], needF l (rulesOf L) K t)) (Value.slice AO z2 cO).ownBlock) := Lib.hid (farS_new HOI.out (fun g off hA _ => by
                  injection hA with hA; injection hA with hA _ _
                  have := HBR.out.size
                  left
                  omega) (fun g off hA hp => .inl (HFARN.out g off hA hp)))
                 have HRO2 : Hid (rulesOf (LO ++ [((some ⟨wX.heap.size, 0, none⟩, 1), (AN, cN), ([t], needF l (rulesOf L) K t))]) = ((RA.take (z + 1)).filter (isF l (rulesOf L) K)).map fun s => ([s], needF l (rulesOf L) K s)) := Lib.hid (by
                  rw [HTK2.out, filter_snocT HISF.out, List.map_append, ← HRO.out]
                  unfold rulesOf
                  rw [List.map_append]
                  rfl)
                 have HV1 : Hid (Value.slice (some ⟨wX.heap.size, 0, none⟩) 1 1 = rsT ((some ⟨wX.heap.size, 0, none⟩, 1), (AN, cN), ([t], needF l (rulesOf L) K t))) := Lib.hid rfl
                 have HV2 : Hid (Value.slice AN 0 cN = rsN ((some ⟨wX.heap.size, 0, none⟩, 1), (AN, cN), ([t], needF l (rulesOf L) K t))) := Lib.hid (by unfold rsN; simp only []; rw [HNN.out])
                 have HSZ2 := Lib.hid HB8.out.size
                 clear hba
                 go_wp2_with (at_builtin; refine wpList_pushRl (wX.alloc (.cells #[.string bs] 9)) _ _ w8.heap.size AO z2 cO LO ((some ⟨wX.heap.size, 0, none⟩, 1), (AN, cN), ([t], needF l (rulesOf L) K t)) _ _ HV1.out HV2.out HOI8.out HSZ2.out (by omega) HP.out HFP2.out rfl rfl rfl (by simp [go_sem]) ?_; intro g9 c9 w9' hoi9 hb9)
                 exact ⟨⟨z + 1, z2 + 1, _, c9, _, rfl, by omega, by omega, rfl, HRO2, Lib.hid hoi9, Lib.hid (HB8.out.trans hb9)⟩, measL hltz⟩
               | false =>
                 go_wp2_with fail
                 refine (CIN.out _ HBX0.out).mono ?_
                 rintro e wX ⟨rfl, hbX⟩
                 have HBX := Lib.hid (HBX0.out.trans (hbX.mono HBX0.out.size))
                 have HOIX := Lib.hid (HOI.out.below (below_newL HBR0.out hbX))
                 have HRO2 : Hid (rulesOf LO = ((RA.take (z + 1)).filter (isF l (rulesOf L) K)).map fun s => ([s], needF l (rulesOf L) K s)) := Lib.hid (by rw [HTK2.out, filter_snocF HISF.out]; exact HRO.out)
                 clear hbX ec
                 go_wp2_with fail
                 exact ⟨⟨z + 1, z2, AO, cO, LO, rfl, by omega, by omega, rfl, HRO2, HOIX, HBX⟩, measL hltz⟩
             | some f =>
               have HNF := Lib.hid (needF_some HN0.out ho)
               have HISF : Hid (isF l (rulesOf L) K t = true) := Lib.hid (by rw [isF_eq, HN0.out, ho]; simp)
               rw [ho] at CIN
               unfold ofV at CIN
               simp only [Option.getD_some, Option.isSome_some] at CIN
               have HBF : Hid (sv f = .string ⟨f.toArray⟩) := Lib.hid rfl
               generalize (⟨f.toArray⟩ : ByteArray) = bf at *
               clear ho
               go_wp2_with fail
               refine (CIN.out _ HBX0.out).mono ?_
               rintro e w10 ⟨rfl, hbX⟩
               have HBX1 := Lib.hid (HBX0.out.trans (hbX.mono HBX0.out.size))
               have HBR1 := Lib.hid (below_newL HBR0.out hbX)
               have HRDL := Lib.hid (rd_lit w10 _ #[.string bf] 9 ([f].map sv) rfl (by simp only [List.map_cons, List.map_nil]; rw [HBF.out]))
               have HBN := Lib.hid (below_new (Below.refl w10.heap.size w10) (.cells #[.string bf] 9))
               clear hbX ec
               go_upto_region 35 with fail
               generalize w10.alloc (.cells #[.string bf] 9) = wX at *
               have HBX := Lib.hid (HBX1.out.trans (HBN.out.mono HBX1.out.size))
               have HBR := Lib.hid (below_newL HBR1.out HBN.out)
               have HOIX := Lib.hid (HOI.out.below HBR.out)
               have HNX : Hid (Rd wX (some ⟨w10.heap.size, 0, none⟩) ((needF l (rulesOf L) K t).map sv)) := Lib.hid (by rw [HNF.out]; exact HRDL.out)
               have HCX : Hid ((needF l (rulesOf L) K t).length ≤ 1) := Lib.hid (by rw [HNF.out]; exact Nat.le_refl _)
               have HNN : Hid ((needF l (rulesOf L) K t).length = 1) := Lib.hid (by rw [HNF.out]; rfl)
               have HFARN : Hid (∀ g off, some (⟨w10.heap.size, 0, none⟩ : Addr) = some ⟨g, off, none⟩ → 0 < ((needF l (rulesOf L) K t).map sv).length → _ ≤ g) := Lib.hid (fun g off hA _ => by
                injection hA with hA; injection hA with hA _ _
                rw [← hA]
                exact HBR1.out.size)
               generalize w10.heap.size = kX at *
               have HSVS : Hid (sv t = .string bs) := HBS
               have hba := below_new (Below.refl wX.heap.size wX) (.cells #[.string bs] 9)
               have HOI8 := Lib.hid (HOIX.out.below hba)
               have HB8 := Lib.hid (below_newL HBX.out hba)
               have HP : Hid (RsIn ((some ⟨wX.heap.size, 0, none⟩, 1), (some ⟨kX, 0, none⟩, 1), ([t], needF l (rulesOf L) K t)) (wX.alloc (.cells #[.string bs] 9))) := Lib.hid (rsIn_one (rd_lit wX _ #[.string bs] 9 _ rfl (by simp only [List.map_cons, List.map_nil]; rw [HSVS.out])) (HNX.out.below hba) HCX.out HT40.out (fun s hs => good_len (HNG.out s hs)) (by have := HNL2.out; omega))
               have HFP2 : Hid (farS ((some ⟨wX.heap.size, 0, none⟩, 1), (some ⟨kX, 0, none⟩, 1), ([t], needF l (rulesOf L) K t)) (Value.slice AO z2 cO).ownBlock) := Lib.hid (farS_new HOI.out (fun g off hA _ => by
                injection hA with hA; injection hA with hA _ _
                have := HBR.out.size
                left
                omega) (fun g off hA hp => .inl (HFARN.out g off hA hp)))
               have HRO2 : Hid (rulesOf (LO ++ [((some ⟨wX.heap.size, 0, none⟩, 1), (some ⟨kX, 0, none⟩, 1), ([t], needF l (rulesOf L) K t))]) = ((RA.take (z + 1)).filter (isF l (rulesOf L) K)).map fun s => ([s], needF l (rulesOf L) K s)) := Lib.hid (by
                rw [HTK2.out, filter_snocT HISF.out, List.map_append, ← HRO.out]
                unfold rulesOf
                rw [List.map_append]
                rfl)
               have HV1 : Hid (Value.slice (some ⟨wX.heap.size, 0, none⟩) 1 1 = rsT ((some ⟨wX.heap.size, 0, none⟩, 1), (some ⟨kX, 0, none⟩, 1), ([t], needF l (rulesOf L) K t))) := Lib.hid rfl
               have HV2 : Hid (Value.slice (some ⟨kX, 0, none⟩) 1 1 = rsN ((some ⟨wX.heap.size, 0, none⟩, 1), (some ⟨kX, 0, none⟩, 1), ([t], needF l (rulesOf L) K t))) := Lib.hid (by unfold rsN; simp only []; rw [HNN.out])
               have HSZ2 := Lib.hid HB8.out.size
               clear hba
               go_wp2_with (at_builtin; refine wpList_pushRl (wX.alloc (.cells #[.string bs] 9)) _ _ w8.heap.size AO z2 cO LO ((some ⟨wX.heap.size, 0, none⟩, 1), (some ⟨kX, 0, none⟩, 1), ([t], needF l (rulesOf L) K t)) _ _ HV1.out HV2.out HOI8.out HSZ2.out (by omega) HP.out HFP2.out rfl rfl rfl (by simp [go_sem]) ?_; intro g9 c9 w9' hoi9 hb9)
               exact ⟨⟨z + 1, z2 + 1, _, c9, _, rfl, by omega, by omega, rfl, HRO2, Lib.hid hoi9, Lib.hid (HB8.out.trans hb9)⟩, measL hltz⟩
            ·have HNE : Hid (needsR (rulesOf L) t ≠ []) := Lib.hid (fun e => hn0 (by rw [← HNN0.out, e]; rfl))
             have HNF := Lib.hid (needF_more (l := l) (known := K) HNE.out)
             have hd1 : HD = true := by
              by_cases hm : t ∈ headsP (rulesOf L)
              ·rw [← HHD.out]; exact heads_mem.1 hm
              ·exact absurd (HOFF.out hm) HNE.out
             subst hd1
             have HISF : Hid (isF l (rulesOf L) K t = true) := Lib.hid (by rw [isF_eq, HHD.out]; rfl)
             have hnn1 : ((nn : Int) == 0) = false := by simp; omega
             obtain ⟨wX, hwX⟩ : ∃ wX, wr = wX := ⟨_, rfl⟩
             subst hwX
             have HBX := HBX0
             have HBR := HBR0
             have HOIX := Lib.hid (HOI.out.below HBR.out)
             have HNX : Hid (Rd wr AN ((needF l (rulesOf L) K t).map sv)) := Lib.hid (by rw [HNF.out]; exact (Rd.of_own HNO.out).below HBP.out)
             have HCX : Hid ((needF l (rulesOf L) K t).length ≤ cN) := Lib.hid (by rw [HNF.out, HNN0.out]; exact own_cap HNO.out)
             have HNN : Hid ((needF l (rulesOf L) K t).length = nn) := Lib.hid (by rw [HNF.out]; exact HNN0.out)
             have HFARN : Hid (∀ g off, AN = some ⟨g, off, none⟩ → 0 < ((needF l (rulesOf L) K t).map sv).length → _ ≤ g) := Lib.hid (fun g off hA _ => own_ge HNO.out g off hA)
             clear hn0 ec
             have HSVS : Hid (sv t = .string bs) := HBS
             have hba := below_new (Below.refl wr.heap.size wr) (.cells #[.string bs] 9)
             have HOI8 := Lib.hid (HOIX.out.below hba)
             have HB8 := Lib.hid (below_newL HBX.out hba)
             have HP : Hid (RsIn ((some ⟨wr.heap.size, 0, none⟩, 1), (AN, cN), ([t], needF l (rulesOf L) K t)) (wr.alloc (.cells #[.string bs] 9))) := Lib.hid (rsIn_one (rd_lit wr _ #[.string bs] 9 _ rfl (by simp only [List.map_cons, List.map_nil]; rw [HSVS.out])) (HNX.out.below hba) HCX.out HT40.out (fun s hs => good_len (HNG.out s hs)) (by have := HNL2.out; omega))
             have HFP2 : Hid (farS ((some ⟨wr.heap.size, 0, none⟩, 1), (AN, cN), ([t], needF l (rulesOf L) K t)) (Value.slice AO z2 cO).ownBlock) := Lib.hid (farS_new HOI.out (fun g off hA _ => by
              injection hA with hA; injection hA with hA _ _
              have := HBR.out.size
              left
              omega) (fun g off hA hp => .inl (HFARN.out g off hA hp)))
             have HRO2 : Hid (rulesOf (LO ++ [((some ⟨wr.heap.size, 0, none⟩, 1), (AN, cN), ([t], needF l (rulesOf L) K t))]) = ((RA.take (z + 1)).filter (isF l (rulesOf L) K)).map fun s => ([s], needF l (rulesOf L) K s)) := Lib.hid (by
              rw [HTK2.out, filter_snocT HISF.out, List.map_append, ← HRO.out]
              unfold rulesOf
              rw [List.map_append]
              rfl)
             have HV1 : Hid (Value.slice (some ⟨wr.heap.size, 0, none⟩) 1 1 = rsT ((some ⟨wr.heap.size, 0, none⟩, 1), (AN, cN), ([t], needF l (rulesOf L) K t))) := Lib.hid rfl
             have HV2 : Hid (Value.slice AN nn cN = rsN ((some ⟨wr.heap.size, 0, none⟩, 1), (AN, cN), ([t], needF l (rulesOf L) K t))) := Lib.hid (by unfold rsN; simp only []; rw [HNN.out])
             have HSZ2 := Lib.hid HB8.out.size
             clear hba
             go_wp2_with (at_builtin; refine wpList_pushRl (wr.alloc (.cells #[.string bs] 9)) _ _ w8.heap.size AO z2 cO LO ((some ⟨wr.heap.size, 0, none⟩, 1), (AN, cN), ([t], needF l (rulesOf L) K t)) _ _ HV1.out HV2.out HOI8.out HSZ2.out (by omega) HP.out HFP2.out rfl rfl rfl (by simp [go_sem]) ?_; intro g9 c9 w9' hoi9 hb9)
             exact ⟨⟨z + 1, z2 + 1, _, c9, _, rfl, by omega, by omega, rfl, HRO2, Lib.hid hoi9, Lib.hid (HB8.out.trans hb9)⟩, measL hltz⟩
         ·obtain rfl : z = nr := by omega
          have HRR2 : Hid (rulesOf LO = fillR R0 l there) := Lib.hid (by
           rw [HFO.out HE.out, HRO.out, List.take_of_length_le (by rw [HRL2.out]; exact Nat.le_refl _)]
           unfold fillP
           rw [HRAE.out])
          go_wp2_with fail
          go_ret2
          exact ⟨AO, cO, LO, by rw [HE.out, HOI.out.len]; rfl, HOI.out.all, HRR2.out, HBBW.out _ (below_newL HB8w.out HBZ.out)⟩
           -- END2
  ·have HE := Lib.hid (fillE_inf (there := there) HJ0.out hi)
   have HI0 := Lib.hid hi
   have hn0 : (((infE l : Nat) : Int) != 0) = true := by simp; omega
   generalize hv : ((infE l : Nat) : Int) = V at *
   have HV := Lib.hid hv
   clear hi hv
   go_wp2_with fail
   go_ret2
   exact fillPost_no (by rw [HE.out]; exact HI0.out) (by rw [HE.out]; exact HV.out.symm) HB2.out
 ·have HE := Lib.hid (fillE_join (l := l) (there := there) hj)
  have HJ0 := Lib.hid hj
  have hn0 : (((joinE R0 : Nat) : Int) != 0) = true := by simp; omega
  generalize hv : ((joinE R0 : Nat) : Int) = V at *
  have HV := Lib.hid hv
  clear hj hv
  go_wp2_with fail
  go_ret2
  exact fillPost_no (by rw [HE.out]; exact HJ0.out) (by rw [HE.out]; exact HV.out.symm) HB1.out
end Go.Proofs.YtoandhhkmkgmaaaGreatDoor
