/- Contracts that the law's proof leans on, and plain lemmas to them, merged. No condition beyond each contract's own hypotheses. -/
import Derived.Test.YtoandhhkmkgmaaaGreatDoorMg44
import Derived.Test.YtoandhhkmkgmaaaGreatDoorMg50
import Derived.Test.YtoandhhkmkgmaaaGreatDoorMg46
namespace Go.Proofs.YtoandhhkmkgmaaaGreatDoor
open Go.RowKit

section
variable {A0 A1 A2 A3 C : Option Addr} {n0 n1 n2 n3 c0 c1 c2 c3 k e : Nat} (f : FileT) (L : List RSlot) (there : List KeyT) (w : World) (h : FileIn A0 A1 A2 A3 n0 n1 n2 n3 c1 f L w) (hrs : RsAll A3 L w) (hn2c : n2 ≤ c2)
 (ht : Rd w C (there.map sv)) (hk : there.length = k) (hkb : k ≤ 4189000) (hts : StrsOk there)
include h hrs hn2c ht hk hkb hts
set_option maxRecDepth 100000 in
set_option maxHeartbeats 8000000 in
theorem rMade_any : Calls Tryz.prog 32 #[.agg #[.slice A0 n0 c0, .slice A1 n1 c1, .slice A2 n2 c2, .slice A3 n3 c3], .slice C k e] w (GmPost f there w) := by
 have HF := Lib.hid h
 have HCK := Lib.hid (fun W (hW : Below w.heap.size w W) => rFileFault_any (c0 := c0) (c1 := c1) (c2 := c2) (c3 := c3) f L W (h.below hW))
 have HFL := Lib.hid (fun W (hW : Below w.heap.size w W) => rFilled_any (c := c3) (d := c2) (e := e) L f.inf there W (hrs.below hW) h.e3 (by have h1 := h.sz.rul; have h2 := h.e3; have h3 := h.rd.len; omega) (h.rd.inf.below hW) h.e2 (by have := (fileLens h.sz).1; have := h.e2; omega) hn2c (fileLens h.sz).2 (ht.below hW) hk hkb hts)
 rw [h.rd.eq] at HFL
 obtain ⟨w2, hw2, x0, r0, z0⟩ := box_turn w (.slice A0 n0 c0) (.slice A1 n1 c1) (.slice A2 n2 c2) (.slice A3 n3 c3) (.slice none 0 0) (.slice none 0 0) (.int .u64 0) (.int .u64 0) 27 43
 have X2 := Lib.hid x0
 have R2 := Lib.hid r0
 have B2 := Lib.hid z0
 have HW2 := Lib.hid hw2
 have HRU : Hid (fillR f.rul f.inf there = mkRules f there) := Lib.hid rfl
 unfold FillPost at HFL
 rw [HRU.out] at HFL
 clear h hrs hn2c ht hk hts x0 r0 z0 hw2
 go_enter Tryz.func32, Tryz.ntmps32
 go_upto_region 1 with fail
 rw [← HW2.out]
 generalize hBr : w.heap.size + 1 = Br at *
 have HBr := Lib.hid hBr
 clear hBr HW2
 obtain ⟨x1, x2, x3, x4⟩ := X2.out
 go_wp2_with fail
 refine (HCK.out _ B2.out).mono ?_
 rintro e w3 ⟨rfl, hb3⟩
 have B3 := Lib.hid (below_then B2.out hb3)
 have X3 := Lib.hid (X2.out.below hb3)
 have R3 := Lib.hid (R2.out.below hb3 R2.out.lt)
 clear hb3 x1 x2 x3 x4 X2 R2 HCK
 have r1 := R3.out.cell (j := 0) rfl
 have r2 := R3.out.cell (j := 1) rfl
 have r3 := R3.out.cell (j := 2) rfl
 have r4 := R3.out.cell (j := 3) rfl
 have rf := R3.out.free
 by_cases hc0 : chkF f = 0
 ·have HC0 := Lib.hid hc0
  have HPH := Lib.hid (chkF_pho hc0)
  rw [hc0]
  clear hc0
  obtain ⟨x1, x2, x3, x4⟩ := X3.out
  go_wp2_with fail
  refine (HFL.out _ B3.out).mono ?_
  rintro e w4 ⟨AR, cR, LR, rfl, hra, hrr, hb4⟩
  have HRA := Lib.hid hra
  have HRR := Lib.hid hrr
  have B4 := Lib.hid (below_then B3.out hb4)
  have X4 := Lib.hid (X3.out.below hb4)
  have R4 := Lib.hid (R3.out.below hb4 R3.out.lt)
  clear hra hrr hb4 x1 x2 x3 x4 r1 r2 r3 r4 rf X3 R3 HFL
  have r1 := R4.out.cell (j := 0) rfl
  have r2 := R4.out.cell (j := 1) rfl
  have r3 := R4.out.cell (j := 2) rfl
  have r4 := R4.out.cell (j := 3) rfl
  have rf := R4.out.free
  by_cases hf0 : fillE f.rul f.inf there = 0
  ·have HF0 := Lib.hid hf0
   have HFF := Lib.hid (fillR_facts hf0)
   have HFN := Lib.hid (fill_len hf0)
   rw [HRU.out] at HFF HFN
   rw [hf0]
   clear hf0
   obtain ⟨x1, x2, x3, x4⟩ := X4.out
   have HNP : Hid (n1 ≤ 20) := Lib.hid (by have := HPH.out.2; have := HF.out.e1; omega)
   have HPR : Hid (Rd w4 A1 (f.pho.map sv)) := Lib.hid (HF.out.rd.pho.below B4.out)
   have HLR : Hid (LR.length ≤ 4160) := Lib.hid (by have h := HFN.out; rw [← HRR.out] at h; unfold rulesOf at h; rw [List.length_map] at h; exact h)
   generalize hrul : mkRules f there = rules at *
   have HRUL := Lib.hid hrul
   clear hrul
   obtain ⟨nr, hnr⟩ : ∃ nr, LR.length = nr := ⟨_, rfl⟩
   have HNR := Lib.hid hnr
   have hnrb : nr ≤ 4160 := by rw [← hnr]; exact HLR.out
   have hnpb := HNP.out
   rw [hnr]
   clear hnr
   have HPL : Hid ((f.pho.map sv).length = n1) := Lib.hid (by rw [List.length_map]; exact HF.out.e1)
   have HKS := Lib.hid (fun q => asked_len HFF.out.sum q)
   go_wp2_with (at_builtin; refine wpList_cat elStr w4 (.const (.slice none 0 0)) _ w4.heap.size none 0 0 [] A1 n1 c1 (f.pho.map sv) (World.ownsRow_nil _ _ _ _) HPR.out HPL.out (sv_one _) (Nat.le_refl _) (by omega) (by omega) rfl rfl rfl rfl ?_; intro AC cC w5 hownC hb5)
   rw [List.nil_append, Nat.zero_add] at hownC
   have HOC := Lib.hid hownC
   have HB45 := Lib.hid hb5
   have HRA5 := HRA
   clear hownC hb5 x1 x2 x3 x4 r1 r2 r3 r4 rf HPR
   go_wp2_with fail
   go_loopw [9, 11, 45] (fun v _ i wq => ∃ (q : Nat) (AZ : Option Addr) (cz mz : Nat) (zs : List KeyT), i = .int .i64 (q : Int) ∧ q ≤ nr ∧ v = .slice AZ mz cz ∧ mz ≤ 20 + 65 * q ∧ Hid (zs.length = mz) ∧ Hid (zs = f.pho ++ askedP (rules.take q)) ∧ Hid (wq.ownsRow w4.heap.size 9 1 (.slice AZ mz cz) mz (zs.map sv)) ∧ Hid (Below w4.heap.size w4 wq)) (fun _ _ i _ => nr - (intOf i).toNat)
   case atStart => exact ⟨0, AC, cC, n1, f.pho, rfl, by omega, rfl, by omega, HF.out.e1, Lib.hid (by simp [askedP]), HOC, HB45⟩
   case round =>
    obtain ⟨q, AZ, cz, mz, zs, rfl, hq, rfl, hmz, HZL, HZS, HO, HBQ⟩ := hrel
    have HRW := Lib.hid (HRA.out.below HBQ.out)
    by_cases hltq : q < nr
    ·obtain ⟨x, hx⟩ : ∃ x, LR[q]? = some x := ⟨_, List.getElem?_eq_getElem (by rw [HNR.out]; exact hltq)⟩
     have HR : Hid (rules[q]? = some x.2.2) := Lib.hid (by rw [← HRR.out]; exact rulesOf_at hx)
     have HX := Lib.hid (HRW.out.each x (List.mem_of_getElem? hx))
     have HT1 := Lib.hid (HFF.out.tgt _ (List.mem_of_getElem? HR.out))
     have HT2 := Lib.hid (HFF.out.many _ (List.mem_of_getElem? HR.out))
     have HX2 := Lib.hid (HRA.out.each x (List.mem_of_getElem? hx))
     obtain ⟨b1, o1, rfl, a1, a2⟩ := HRW.out.rd.two hx
     obtain ⟨⟨X1, xc1⟩, ⟨X2', xc2⟩, r⟩ := x
     unfold RsIn at HX HX2
     simp only [rsT, rsN] at a1 a2 HX HX2 HR HT1 HT2
     have hcap : 2 * q = q * 2 := by omega
     rw [hcap] at a1 a2
     rw [HT1.out] at a1
     have HBN := Lib.hid (below_new (Below.refl wr.heap.size wr) (.cells #[.slice X1 1 xc1, .slice X2' r.2.length xc2] 78))
     have HKX := Lib.hid (Blk.new wr #[.slice X1 1 xc1, .slice X2' r.2.length xc2] 78)
     have HO1 := Lib.hid (own_below HO.out HBN.out)
     have HB1 := Lib.hid (below_newL HBQ.out HBN.out)
     have HNB : Hid ((Value.slice AZ mz cz).ownBlock ≠ some wr.heap.size) := Lib.hid (fun e => by have := (HO.out.lt _ e).2; omega)
     have hk1 : (q : Int) < (nr : Int) := by omega
     have hn2 : r.2.length ≤ 64 := HT2.out
     clear hx hcap HX
     generalize hn2e : r.2.length = n2' at *
     have HN2E := Lib.hid hn2e
     clear hn2e
     go_upto_region 11 with fail
     generalize wr.alloc (.cells #[.slice X1 1 xc1, .slice X2' n2' xc2] 78) = w6 at *
     generalize wr.heap.size = CB at *
     have HCBL := Lib.hid HKX.out.lt
     have HSS : Hid (w6.drew.cell? ⟨CB, 0, none⟩ = some (.slice X1 1 xc1) ∧ w6.drew.cell? ⟨CB, 1, none⟩ = some (.slice X2' n2' xc2)) := Lib.hid ⟨HKX.out.cell (j := 0) rfl, HKX.out.cell (j := 1) rfl⟩
     clear a1 a2
     refine wp_region_x (fun W => W.cell? ⟨CB, 0, none⟩ = some (.slice X1 1 xc1) ∧ W.cell? ⟨CB, 1, none⟩ = some (.slice X2' n2' xc2)) 7 (by kernel_rfl) ?_
     refine wpAnyX_take (i := 0) (v := ?v0) rfl (by kernel_rfl) (by kernel_rfl) (by kernel_rfl) (by kernel_rfl) (fun _ _ _ h => h) (Or.inl ⟨by rfl, ?hy0⟩) HSS.out ?rest0
     case hy0 => (intro W hSw; (try dsimp only at hSw); obtain ⟨hS1, hS2⟩ := hSw; go_simp; try with_reducible rfl)
     refine wpAnyX_take (i := 1) (v := ?v1) rfl (by kernel_rfl) (by kernel_rfl) (by kernel_rfl) (by kernel_rfl) (fun _ _ _ h => h) (Or.inl ⟨by rfl, ?hy1⟩) HSS.out ?rest1
     case hy1 => (intro W hSw; (try dsimp only at hSw); obtain ⟨hS1, hS2⟩ := hSw; go_simp; try with_reducible rfl)
     refine wpAnyX_take (i := 2) (v := ?v2) rfl (by kernel_rfl) (by kernel_rfl) (by kernel_rfl) (by kernel_rfl) (fun _ _ _ h => h) (Or.inl ⟨by rfl, ?hy2⟩) HSS.out ?rest2
     case hy2 => (intro W hSw; (try dsimp only at hSw); obtain ⟨hS1, hS2⟩ := hSw; go_simp; try with_reducible rfl)
     refine wpAnyX_take (i := 4) (v := ?v4) rfl (by kernel_rfl) (by kernel_rfl) (by kernel_rfl) (by kernel_rfl) (fun _ _ _ h => h) (Or.inl ⟨by rfl, ?hy4⟩) HSS.out ?rest4
     case hy4 => (intro W hSw; (try dsimp only at hSw); obtain ⟨hS1, hS2⟩ := hSw; go_simp; try with_reducible rfl)
     refine wpAnyX_take (i := 5) (v := ?v5) rfl (by kernel_rfl) (by kernel_rfl) (by kernel_rfl) (by kernel_rfl) (fun _ _ _ h => h) (Or.inl ⟨by rfl, ?hy5⟩) HSS.out ?rest5
     case hy5 => (intro W hSw; (try dsimp only at hSw); obtain ⟨hS1, hS2⟩ := hSw; go_simp; try with_reducible rfl)
     refine wpAnyX_one (i := 3) (by kernel_rfl) rfl (fun K hK => ?_)
     have HXT : Hid (Rd w6.drew X1 (r.1.map sv)) := Lib.hid ((HX2.out.t.below HB1.out).drewN 1)
     have HSZ : Hid (w4.heap.size ≤ w6.drew.heap.size) := Lib.hid HB1.out.size
     refine step_catN w6.drew (.tmp 49) (.tmp 51) w4.heap.size AZ mz cz (zs.map sv) X1 1 xc1 (r.1.map sv) HO1.out HXT.out (by rw [List.length_map]; exact HT1.out) (sv_one _) HSZ.out (by omega) rfl rfl (by go_simp) (by go_simp) ?_
     intro A6 c6 w7 hown6 hg6
     have HO6 := Lib.hid hown6
     have HK6 := Lib.hid (blk_gb (HKX.out.below (Below.drew (Below.refl _ _)) HCBL.out) hg6 HNB.out)
     have HS6 : Hid (w7.cell? ⟨CB, 0, none⟩ = some (.slice X1 1 xc1) ∧ w7.cell? ⟨CB, 1, none⟩ = some (.slice X2' n2' xc2)) := Lib.hid ⟨HK6.out.cell (j := 0) rfl, HK6.out.cell (j := 1) rfl⟩
     have HB6 : Hid (Below w4.heap.size w6.drew w7) := Lib.hid (below_gb2 hg6 (fun k hk => (HO1.out.lt k hk).1) HSZ.out)
     have HXN6 : Hid (Rd w7 X2' (r.2.map sv)) := Lib.hid (HX2.out.n.below ((HB1.out.trans (Below.drew (Below.refl _ _))).trans HB6.out))
     have HSZ6 : Hid (w4.heap.size ≤ w7.heap.size) := Lib.hid (Nat.le_trans HSZ.out HB6.out.size)
     clear hown6 hg6
     refine hK _ _ (fun _ => HS6.out) ?_
     clear hK K
     refine wpAnyX_one (i := 6) (by kernel_rfl) rfl (fun K hK => ?_)
     refine step_catN w7 (.tmp 52) (.tmp 54) w4.heap.size A6 (mz + 1) c6 (zs.map sv ++ r.1.map sv) X2' n2' xc2 (r.2.map sv) HO6.out HXN6.out (by rw [List.length_map]; exact HN2E.out) (sv_one _) HSZ6.out (by omega) rfl rfl (by go_simp) (by go_simp) ?_
     intro A7 c7 w8 hown7 hg7
     have HK7 := Lib.hid (blk_gb HK6.out hg7 (own_ne_blk2 HO6.out HK6.out))
     have HS7 : Hid (w8.cell? ⟨CB, 0, none⟩ = some (.slice X1 1 xc1) ∧ w8.cell? ⟨CB, 1, none⟩ = some (.slice X2' n2' xc2)) := Lib.hid ⟨HK7.out.cell (j := 0) rfl, HK7.out.cell (j := 1) rfl⟩
     have HB7 := Lib.hid (((HB1.out.trans (Below.drew (Below.refl _ _))).trans HB6.out).trans (below_gb2 hg7 (fun k hk => (HO6.out.lt k hk).1) HSZ6.out))
     have HO7 : Hid (w8.ownsRow w4.heap.size 9 1 (.slice A7 (mz + 1 + n2') c7) (mz + 1 + n2') ((zs ++ (r.1 ++ r.2)).map sv)) := Lib.hid (by rw [List.map_append, List.map_append, ← List.append_assoc]; exact hown7)
     clear hown7 hg7
     refine hK _ _ (fun _ => HS7.out) ?_
     clear hK K
     refine wpAnyX_one (i := 7) (by kernel_rfl) rfl (fun K hK => ?_)
     rw [if_pos (by rfl)]
     go_simp
     refine hK _ _ (fun h => absurd rfl h) ?_
     clear hK K
     refine wpAnyX_done (by kernel_rfl) ?_ _
     have HZ2 : Hid (zs ++ (r.1 ++ r.2) = f.pho ++ askedP (rules.take (q + 1))) := Lib.hid (by rw [asked_take HR.out, HZS.out, List.append_assoc])
     have HM2 : Hid ((zs ++ (r.1 ++ r.2)).length = mz + 1 + n2') := Lib.hid (by rw [List.length_append, List.length_append, HZL.out, HT1.out, HN2E.out]; omega)
     obtain ⟨m2, hm2⟩ : ∃ m2, m2 = mz + 1 + n2' := ⟨_, rfl⟩
     rw [← hm2] at HM2 HO7
     simp only [← hm2]
     have hm3 : m2 ≤ 20 + 65 * (q + 1) := by omega
     clear hm2
     go_wp2_with fail
     exact ⟨⟨q + 1, A7, c7, m2, _, rfl, by omega, rfl, hm3, HM2, HZ2, HO7, HB7⟩, measL hltq⟩
    ·obtain rfl : q = nr := by omega
     have HTK : Hid (rules.take q = rules) := Lib.hid (List.take_of_length_le (by have h := HNR.out; rw [← HRR.out]; unfold rulesOf; rw [List.length_map, h]; exact Nat.le_refl _))
     rw [HTK.out] at HZS
     have HRIS := Lib.hid (rRising_any (c := cz) zs wr (Rd.of_own HO.out) HZL.out (by omega))
     have HNE : Hid (rising zs = gmN f.pho rules) := Lib.hid (by rw [HZS.out]; rfl)
     have HUP : Hid (Up (gmN f.pho rules)) := Lib.hid (rising_up _)
     have HHD : Hid (∀ r ∈ rules, headP r ∈ gmN f.pho rules) := Lib.hid (gm_heads HFF.out)
     have HND : Hid (∀ r ∈ rules, ∀ x ∈ r.2, x ∈ gmN f.pho rules) := Lib.hid gm_needs
     have HEW := Lib.hid (fun h => mkE_wide (f := f) (there := there) HC0.out HF0.out h)
     have HEO := Lib.hid (fun h => mkE_ok (f := f) (there := there) HC0.out HF0.out h)
     unfold RisPost at HRIS
     rw [HNE.out] at HRIS
     rw [HRUL.out] at HEW HEO
     generalize hNN : gmN f.pho rules = N at *
     have HNQ := Lib.hid hNN
     clear hNN HO
     go_wp2_with fail
     refine HRIS.out.mono ?_
     rintro e w6 ⟨AN, cN, rfl, hrN, hb6⟩
     have HRN := Lib.hid hrN
     have HB6 := Lib.hid (below_newL HBQ.out hb6)
     have B6 := Lib.hid (below_then B4.out HB6.out)
     have X6 := Lib.hid (X4.out.below HB6.out)
     have R6 := Lib.hid (R4.out.below HB6.out R4.out.lt)
     have HRA6 := Lib.hid (HRA.out.below HB6.out)
     have HPH6 : Hid (Rd w6 A1 (f.pho.map sv)) := Lib.hid (HF.out.rd.pho.below B6.out)
     clear hrN hb6 HRIS X4 R4
     obtain ⟨nN, hnN⟩ : ∃ nN, N.length = nN := ⟨_, rfl⟩
     have HNL := Lib.hid hnN
     rw [hnN]
     by_cases h64 : 64 < nN
     ·have HE := Lib.hid (HEW.out (by rw [HNL.out]; exact h64))
      have h65 : (64 : Int) < (nN : Int) := by omega
      have r1 := R6.out.cell (j := 0) rfl
      have r2 := R6.out.cell (j := 1) rfl
      have r3 := R6.out.cell (j := 2) rfl
      have r4 := R6.out.cell (j := 3) rfl
      have rf := R6.out.free
      clear h64
      go_wp2_with fail
      have RZ := Lib.hid (R6.out.put4 (.slice none 0 0) (.slice none 0 0) (.int .u64 0) (.int .u64 0))
      have BZ := Lib.hid (below_put4 B6.out (by have := HBr.out; omega : w.heap.size ≤ Br) (.slice none 0 0) (.slice none 0 0) (.int .u64 0) (.int .u64 0))
      generalize ((((w6.setCell ⟨Br, 0, none⟩ (.slice none 0 0)).setCell ⟨Br, 1, none⟩ (.slice none 0 0)).setCell ⟨Br, 2, none⟩ (.int .u64 0)).setCell ⟨Br, 3, none⟩ (.int .u64 0)) = wz at *
      have q1 := RZ.out.cell (j := 0) rfl
      have q2 := RZ.out.cell (j := 1) rfl
      have q3 := RZ.out.cell (j := 2) rfl
      have q4 := RZ.out.cell (j := 3) rfl
      refine bodyPost_ret (v := .tuple #[.agg #[.slice none 0 0, .slice none 0 0, .int .u64 0, .int .u64 0], .int .i64 2]) (by simp [results, Tryz.results32, go_sem, q1, q2, q3, q4]) rfl ?_
      exact gmPost_no (by rw [HE.out]; decide) (by rw [HE.out]; rfl) rfl BZ.out
     ·have HE := Lib.hid (HEO.out (by rw [HNL.out]; exact h64))
      have h65 : ¬ (64 : Int) < (nN : Int) := by omega
      have hnN64 : nN ≤ 64 := by omega
      have HN64 : Hid (nN ≤ 64) := Lib.hid hnN64
      have HNLE : Hid (N.length ≤ 64) := Lib.hid (by rw [HNL.out]; exact hnN64)
      have HPP := Lib.hid (fun W (hW : Below w6.heap.size w6 W) x => placeF_any (c := c1) f.pho x W (HPH6.out.below hW) HF.out.e1 (by have := HNP.out; omega))
      have HPN := Lib.hid (fun W (hW : Below w6.heap.size w6 W) x => placeF_any (c := cN) N x W (HRN.out.below hW) HNL.out (by have := HN64.out; omega))
      clear h64 HEW HEO
      go_wp2_with (at_make; refine wpList_new elU64 rfl w6 _ w6.heap.size nN .i64 (by omega) (by omega) (Nat.le_refl _) rfl rfl rfl ?_)
      intro w7 hown7 hb7 hlt7
      have HO7 : Hid (w7.ownsRow w6.heap.size 41 1 (.slice (some ⟨w6.heap.size, 0, none⟩) nN nN) nN ((rowsT N rules 0).map uv)) := Lib.hid (by rw [rowsT_zero, HNL.out, List.map_replicate]; exact hown7)
      have HB7 := Lib.hid hb7
      clear hown7 hb7 hlt7
      go_wp2
      go_loopw [13, 14, 15, 16, 18, 20, 68] (fun p m _ _ _ _ i wq => ∃ z : Nat, z ≤ nN ∧ i = .int .i64 (z : Int) ∧ p = .int .u64 (setP z (fun i => inL f.pho (N.getD i [])) : Nat) ∧ m = .int .u64 (setP z (fun i => hdIn rules (N.getD i [])) : Nat) ∧ Hid (wq.ownsRow w6.heap.size 41 1 (.slice (some ⟨w6.heap.size, 0, none⟩) nN nN) nN ((rowsT N rules z).map uv)) ∧ Hid (Below w6.heap.size w6 wq)) (fun _ _ _ _ _ _ i _ => nN - (intOf i).toNat)
      case atStart => exact ⟨0, by omega, rfl, rfl, rfl, HO7, HB7⟩
      case round =>
       obtain ⟨z, hz, rfl, rfl, rfl, HO, HBZ⟩ := hrel
       by_cases hltz : z < nN
       ·obtain ⟨s, hs⟩ : ∃ s, N[z]? = some s := ⟨_, List.getElem?_eq_getElem (by rw [HNL.out]; exact hltz)⟩
        obtain ⟨bN, oN, rfl, es⟩ := (HRN.out.below HBZ.out).scell hs
        have HSN := Lib.hid hs
        have x2 := (X6.out.below HBZ.out).c2
        have hsd : N.getD z [] = s := by rw [List.getD_eq_getElem?_getD, hs]; rfl
        have hz64 : z < 64 := by omega
        have CPP := Lib.hid (HPP.out wr HBZ.out s)
        have HP64 := Lib.hid (setP_b64 (m := z) (fun i => inL f.pho (N.getD i [])) (by omega))
        have HM64 := Lib.hid (setP_b64 (m := z) (fun i => hdIn rules (N.getD i [])) (by omega))
        have HPS := Lib.hid (setP_succ z (fun i => inL f.pho (N.getD i [])))
        have HMS := Lib.hid (setP_succ z (fun i => hdIn rules (N.getD i [])))
        simp only [hsd] at HPS HMS
        have HO0 : Hid (wr.ownsRow w6.heap.size 41 1 (.slice (some ⟨w6.heap.size, 0, none⟩) nN nN) nN (((rowsT N rules z).set z (rowM N (rules.take 0) s)).map uv)) := Lib.hid (by rw [List.take_zero, rowM_nil, rowsT_same (by rw [HNL.out]; exact hltz)]; exact HO.out)
        have hz1 : (z : Int) < (nN : Int) := by omega
        have hz0 : (0 : Int) ≤ (z : Int) := by omega
        have HEQ := Lib.hid (fun x => eq_sv x s)
        unfold sv at CPP
        generalize setP z (fun i => inL f.pho (N.getD i [])) = P0 at *
        generalize setP z (fun i => hdIn rules (N.getD i [])) = M0 at *
        generalize (⟨s.toArray⟩ : ByteArray) = bs at *
        clear hs hsd HO
        by_cases hin : s ∈ f.pho
        case' pos =>
         obtain ⟨k1, hk1, _⟩ := placeOf_in hin
         have k0 : (0 : Int) ≤ (k1 : Int) := by omega
         have her := or_raw P0 z HP64.out hz64
         rw [show inL f.pho s = true from decide_eq_true hin, if_pos rfl] at HPS
         rw [hk1] at CPP
         clear hin hk1
         go_wp2_with fail
         refine CPP.out.mono ?_
         rintro e w8 ⟨rfl, rfl⟩
         go_upto_region 23 with fail
         generalize addN P0 z = P1 at *
         clear her k0
        case' neg =>
         rw [show inL f.pho s = false from decide_eq_false hin, if_neg (by decide)] at HPS
         rw [placeOf_out hin] at CPP
         clear hin
         go_wp2_with fail
         refine CPP.out.mono ?_
         rintro e w8 ⟨rfl, rfl⟩
         go_upto_region 23 with fail
         generalize P0 = P1 at *
        all_goals (
         clear es CPP HP64 x2
         go_wp2_with fail
         go_loopw [14, 18, 20, 84] (fun m _ _ i wq => ∃ y : Nat, y ≤ q ∧ i = .int .i64 (y : Int) ∧ m = .int .u64 (madeY M0 z (hdIn (rules.take y) s) : Nat) ∧ Hid (wq.ownsRow w6.heap.size 41 1 (.slice (some ⟨w6.heap.size, 0, none⟩) nN nN) nN (((rowsT N rules z).set z (rowM N (rules.take y) s)).map uv)) ∧ Hid (Below w6.heap.size w6 wq)) (fun _ _ _ i _ => q - (intOf i).toNat)
         case atStart => exact ⟨0, by omega, rfl, rfl, HO0, HBZ⟩
         case round =>
          obtain ⟨y, hy, rfl, rfl, HO, HBY⟩ := hrel
          by_cases hlty : y < q
          ·obtain ⟨x, hx⟩ : ∃ x, LR[y]? = some x := ⟨_, List.getElem?_eq_getElem (by rw [HNR.out]; exact hlty)⟩
           have HR : Hid (rules[y]? = some x.2.2) := Lib.hid (by rw [← HRR.out]; exact rulesOf_at hx)
           have HLW := Lib.hid (HRA6.out.below HBY.out)
           have HX := Lib.hid (HLW.out.each x (List.mem_of_getElem? hx))
           have HX6 := Lib.hid (HRA6.out.each x (List.mem_of_getElem? hx))
           have HT1 := Lib.hid (HFF.out.tgt _ (List.mem_of_getElem? HR.out))
           have HT2 := Lib.hid (HFF.out.many _ (List.mem_of_getElem? HR.out))
           have HNDR := Lib.hid (HND.out _ (List.mem_of_getElem? HR.out))
           obtain ⟨b1, o1, rfl, a1, a2⟩ := HLW.out.rd.two hx
           obtain ⟨⟨X1, xc1⟩, ⟨X2', xc2⟩, r⟩ := x
           unfold RsIn at HX HX6
           simp only [rsT, rsN] at a1 a2 HX HX6 HR HT1 HT2 HNDR
           have hcap : 2 * y = y * 2 := by omega
           rw [hcap] at a1 a2
           rw [HT1.out] at a1
           obtain ⟨t, htt⟩ : ∃ t, r.1 = [t] := List.length_eq_one_iff.1 HT1.out
           have HHP : Hid (headP r = t) := Lib.hid (head_one htt)
           have hxt := HX.out.t
           rw [htt] at hxt
           obtain ⟨tb, tq, rfl, et⟩ := rd_one_at hxt
           have HBN := Lib.hid (below_new (Below.refl wr.heap.size wr) (.cells #[.slice (some ⟨tb, tq, none⟩) 1 xc1, .slice X2' r.2.length xc2] 78))
           have HKX := Lib.hid (Blk.new wr #[.slice (some ⟨tb, tq, none⟩) 1 xc1, .slice X2' r.2.length xc2] 78)
           have HO1 := Lib.hid (own_below HO.out HBN.out)
           have HB1 := Lib.hid (below_newL HBY.out HBN.out)
           have et2 := cell_kept et HBN.out
           have heq := HEQ.out t
           have HTKR : Hid (rules.take (y + 1) = rules.take y ++ [r]) := Lib.hid (take_snocS HR.out)
           have hy1 : (y : Int) < (q : Int) := by omega
           have hn2 : r.2.length ≤ 64 := HT2.out
           clear hx hcap HX htt hxt et HO
           generalize hn2e : r.2.length = n2' at *
           have HN2E := Lib.hid hn2e
           clear hn2e
           generalize (⟨t.toArray⟩ : ByteArray) = bt at *
           go_upto_region 26 with fail
           generalize wr.alloc (.cells #[.slice (some ⟨tb, tq, none⟩) 1 xc1, .slice X2' n2' xc2] 78) = w9 at *
           generalize wr.heap.size = CB at *
           have d0 : w9.cell? ⟨CB, 0, none⟩ = some (.slice (some ⟨tb, tq, none⟩) 1 xc1) := HKX.out.cell (j := 0) rfl
           have d1 : w9.cell? ⟨CB, 1, none⟩ = some (.slice X2' n2' xc2) := HKX.out.cell (j := 1) rfl
           clear a1 a2
           by_cases hts : t = s
           ·have HM1 : Hid (madeY M0 z (hdIn (rules.take (y + 1)) s) = addN M0 z) := Lib.hid (by rw [HTKR.out, hdIn_snoc, HHP.out, hts]; simp [madeY])
            have HRH : Hid (rowM N (rules.take (y + 1)) s = rowM N (rules.take y) s ||| setIn N r.2) := Lib.hid (by rw [HTKR.out]; exact rowM_hit (by rw [HHP.out]; exact hts))
            have her := or_raw (madeY M0 z (hdIn (rules.take y) s)) z (madeY_b64 HM64.out hz64 _) hz64
            rw [madeY_hit] at her
            rw [decide_eq_true hts] at heq
            have HR64 := Lib.hid (rowM_b64 (rules.take y) s HNLE.out)
            clear hts
            generalize rowM N (rules.take y) s = R0 at *
            have HOS : Hid (w9.ownsRow w6.heap.size 41 1 (.slice (some ⟨w6.heap.size, 0, none⟩) nN nN) nN (((rowsT N rules z).set z (R0 ||| setIn N (r.2.take 0))).map uv)) := Lib.hid (by rw [List.take_zero, setIn_none, Nat.or_zero]; exact HO1.out)
            clear HO1
            go_wp2_with fail
            clear d0 d1 et2 her heq
            go_loopw [20, 101] (fun _ i wi => ∃ u : Nat, u ≤ n2' ∧ i = .int .i64 (u : Int) ∧ Hid (wi.ownsRow w6.heap.size 41 1 (.slice (some ⟨w6.heap.size, 0, none⟩) nN nN) nN (((rowsT N rules z).set z (R0 ||| setIn N (r.2.take u))).map uv)) ∧ Hid (Below w6.heap.size w6 wi)) (fun _ i _ => n2' - (intOf i).toNat)
            case atStart => exact ⟨0, by omega, rfl, HOS, HB1⟩
            case round =>
             obtain ⟨u, hu, rfl, HO, HBU⟩ := hrel
             by_cases hltu : u < n2'
             ·obtain ⟨v, hv⟩ : ∃ v, r.2[u]? = some v := ⟨_, List.getElem?_eq_getElem (by rw [HN2E.out]; exact hltu)⟩
              obtain ⟨b2, o2, rfl, ev⟩ := (HX6.out.n.below HBU.out).scell hv
              obtain ⟨k1, hk1, hk2⟩ := placeOf_in (HNDR.out v (List.mem_of_getElem? hv))
              have HTKU : Hid (r.2.take (u + 1) = r.2.take u ++ [v]) := Lib.hid (take_snocS hv)
              have hk64 : k1 < 64 := by have := (List.getElem?_eq_some_iff.1 hk2).1; have := HNLE.out; omega
              have HRN1 : Hid (R0 ||| setIn N (r.2.take (u + 1)) = addN (R0 ||| setIn N (r.2.take u)) k1) := Lib.hid (by rw [HTKU.out]; exact or_in_snoc HUP.out hk2)
              have HR64b := Lib.hid (HR64.out.or (setIn_b64 (r.2.take u) HNLE.out))
              have HRL : Hid (((rowsT N rules z).set z (R0 ||| setIn N (r.2.take u)))[z]? = some (R0 ||| setIn N (r.2.take u))) := Lib.hid (List.getElem?_set_self (by rw [rowsT_len, HNL.out]; exact hltz))
              have HSET2 : Hid (((rowsT N rules z).set z (R0 ||| setIn N (r.2.take u))).set z (R0 ||| setIn N (r.2.take (u + 1))) = (rowsT N rules z).set z (R0 ||| setIn N (r.2.take (u + 1)))) := Lib.hid (by rw [List.set_set])
              have CPN := Lib.hid (HPN.out wr.drew (below_newL HBU.out (Below.drew (Below.refl _ _))) v)
              have hu1 : (u : Int) < (n2' : Int) := by omega
              have her := or_raw (R0 ||| setIn N (r.2.take u)) k1 HR64b.out hk64
              unfold sv at CPN
              rw [hk1] at CPN
              rw [HRN1.out] at HSET2
              generalize (⟨v.toArray⟩ : ByteArray) = bv at *
              generalize R0 ||| setIn N (r.2.take u) = R at *
              clear hv hk1 hk2
              have hcq : wr.cell? ⟨w6.heap.size, z, none⟩ = some (.int .u64 (R : Nat)) := by
               rw [HO.out.cellAt z (by omega), List.getElem?_map, HRL.out]
               rfl
              have hfq := HO.out.frozenAt z
              have HROW : Hid ((wr.setCell ⟨w6.heap.size, z, none⟩ (.int .u64 ((addN R k1 : Nat) : Int))).drew.ownsRow w6.heap.size 41 1 (.slice (some ⟨w6.heap.size, 0, none⟩) nN nN) nN (((rowsT N rules z).set z (R0 ||| setIn N (r.2.take (u + 1)))).map uv)) := Lib.hid (by
               rw [HRN1.out]
               have h := own_drewN (HO.out.stored z (.int .u64 ((addN R k1 : Nat) : Int))).1 1
               rw [show (Value.int .u64 ((addN R k1 : Nat) : Int)) = uv (addN R k1) from rfl, ← List.map_set, HSET2.out] at h
               exact h)
              have HBS : Hid (Below w6.heap.size w6 (wr.setCell ⟨w6.heap.size, z, none⟩ (.int .u64 ((addN R k1 : Nat) : Int))).drew) := Lib.hid (below_drewN (HBU.out.setCell (p := ⟨w6.heap.size, z, none⟩) (Nat.le_refl _) _) 1)
              have HSS : Hid (wr.drew.cell? ⟨w6.heap.size, z, none⟩ = some (.int .u64 (R : Nat))) := Lib.hid hcq
              go_upto_region 31 with fail
              refine wp_region_x (fun W => W.cell? ⟨w6.heap.size, z, none⟩ = some (.int .u64 (R : Nat))) 10 (by kernel_rfl) ?_
              refine wpAnyX_take (i := 0) (v := .slice (some ⟨w6.heap.size, 0, none⟩) nN nN) rfl (by kernel_rfl) (by kernel_rfl) (by kernel_rfl) (by kernel_rfl) (fun _ _ _ h => h) (Or.inl ⟨by rfl, ?_⟩) HSS.out ?_
              ·(intro W hSw; (try dsimp only at hSw); have hS1 := hSw; go_simp; try with_reducible rfl)
              refine wpAnyX_take (i := 1) (v := .int .i64 (z : Int)) rfl (by kernel_rfl) (by kernel_rfl) (by kernel_rfl) (by kernel_rfl) (fun _ _ _ h => h) (Or.inl ⟨by rfl, ?_⟩) HSS.out ?_
              ·(intro W hSw; (try dsimp only at hSw); have hS1 := hSw; go_simp; try with_reducible rfl)
              refine wpAnyX_take (i := 2) (v := .pointer (some ⟨w6.heap.size, z, none⟩)) rfl (by kernel_rfl) (by kernel_rfl) (by kernel_rfl) (by kernel_rfl) (fun _ _ _ h => h) (Or.inl ⟨by rfl, ?_⟩) HSS.out ?_
              ·(intro W hSw; (try dsimp only at hSw); have hS1 := hSw; go_simp; try with_reducible rfl)
              refine wpAnyX_take (i := 3) (v := .int .u64 (R : Nat)) rfl (by kernel_rfl) (by kernel_rfl) (by kernel_rfl) (by kernel_rfl) (fun _ _ _ h => h) (Or.inl ⟨by rfl, ?_⟩) HSS.out ?_
              ·(intro W hSw; (try dsimp only at hSw); have hS1 := hSw; go_simp; try with_reducible rfl)
              refine wpAnyX_take (i := 4) (v := .slice (some ⟨bN, oN, none⟩) nN cN) rfl (by kernel_rfl) (by kernel_rfl) (by kernel_rfl) (by kernel_rfl) (fun _ _ _ h => h) (Or.inl ⟨by rfl, ?_⟩) HSS.out ?_
              ·(intro W hSw; (try dsimp only at hSw); have hS1 := hSw; go_simp; try with_reducible rfl)
              refine wpAnyX_take (i := 5) (v := .string bv) rfl (by kernel_rfl) (by kernel_rfl) (by kernel_rfl) (by kernel_rfl) (fun _ _ _ h => h) (Or.inl ⟨by rfl, ?_⟩) HSS.out ?_
              ·(intro W hSw; (try dsimp only at hSw); have hS1 := hSw; go_simp; try with_reducible rfl)
              refine wpAnyX_one (i := 6) (by kernel_rfl) rfl (fun K hK => ?_)
              rw [if_pos (by rfl)]
              go_simp
              go_at_call 43
              refine CPN.out.mono ?_
              rintro e5 u5 ⟨rfl, rfl⟩
              refine hK _ _ (fun _ => HSS.out) ?_
              clear hK K
              refine wpAnyX_one (i := 7) (by kernel_rfl) rfl (fun K hK => ?_)
              rw [if_pos (by rfl)]
              go_simp
              refine hK _ _ (fun _ => HSS.out) ?_
              clear hK K
              refine wpAnyX_one (i := 8) (by kernel_rfl) rfl (fun K hK => ?_)
              rw [if_pos (by rfl)]
              go_simp
              refine hK _ _ (fun _ => HSS.out) ?_
              clear hK K
              refine wpAnyX_one (i := 9) (by kernel_rfl) rfl (fun K hK => ?_)
              rw [if_pos (by rfl)]
              go_simp
              refine hK _ _ (fun _ => HSS.out) ?_
              clear hK K
              refine wpAnyX_one (i := 10) (by kernel_rfl) rfl (fun K hK => ?_)
              rw [if_pos (by rfl)]
              go_simp
              refine hK _ _ (fun h => absurd rfl h) ?_
              clear hK K
              refine wpAnyX_done (by kernel_rfl) ?_ _
              clear hcq hfq her ev HSS
              go_wp2_with fail
              exact ⟨⟨u + 1, by omega, rfl, HROW, HBS⟩, measL hltu⟩
             ·obtain rfl : u = n2' := by omega
              have HOE : Hid (wr.ownsRow w6.heap.size 41 1 (.slice (some ⟨w6.heap.size, 0, none⟩) nN nN) nN (((rowsT N rules z).set z (rowM N (rules.take (y + 1)) s)).map uv)) := Lib.hid (by
               have h := HO.out
               rw [List.take_of_length_le (by rw [HN2E.out]; exact Nat.le_refl _), ← HRH.out] at h
               exact h)
              go_wp2_with fail
              exact ⟨⟨y + 1, by omega, rfl, by rw [HM1.out], HOE, HBU⟩, measL hlty⟩
           ·have HM1 : Hid (madeY M0 z (hdIn (rules.take (y + 1)) s) = madeY M0 z (hdIn (rules.take y) s)) := Lib.hid (by rw [HTKR.out, hdIn_snoc, HHP.out, show decide (t = s) = false from decide_eq_false hts, Bool.or_false])
            have HOE : Hid (w9.ownsRow w6.heap.size 41 1 (.slice (some ⟨w6.heap.size, 0, none⟩) nN nN) nN (((rowsT N rules z).set z (rowM N (rules.take (y + 1)) s)).map uv)) := Lib.hid (by
             have h := HO1.out
             rw [HTKR.out, rowM_skip (by rw [HHP.out]; exact hts)]
             exact h)
            rw [decide_eq_false hts] at heq
            clear hts
            go_wp2_with fail
            exact ⟨⟨y + 1, by omega, rfl, by rw [HM1.out], HOE, HB1⟩, measL hlty⟩
          ·obtain rfl : y = q := by omega
           have HOE : Hid (wr.ownsRow w6.heap.size 41 1 (.slice (some ⟨w6.heap.size, 0, none⟩) nN nN) nN ((rowsT N rules (z + 1)).map uv)) := Lib.hid (by
            have h := HO.out
            rw [HTK.out, rowsT_succ HSN.out] at h
            exact h)
           have HMM : Hid (madeY M0 z (hdIn (rules.take y) s) = setP (z + 1) (fun i => hdIn rules (N.getD i []))) := Lib.hid (by rw [HMS.out, HTK.out]; rfl)
           go_wp2_with fail
           exact ⟨⟨z + 1, by omega, rfl, by rw [HPS.out], by rw [HMM.out], HOE, HBY⟩, measL hltz⟩)
       ·obtain rfl : z = nN := by omega
        have HME : Hid (setP z (fun i => hdIn rules (N.getD i [])) = setIn N (rules.map headP)) := Lib.hid (by rw [← HNL.out]; exact made_eq N rules)
        have HPE : Hid (setP z (fun i => inL f.pho (N.getD i [])) = setIn N f.pho) := Lib.hid (by rw [← HNL.out]; exact rfl)
        have HRO : Hid (Rd wr (some ⟨w6.heap.size, 0, none⟩) ((rowsM N rules).map uv)) := Lib.hid (by
         have h := Rd.of_own HO.out
         rw [← HNL.out, rowsT_end] at h
         exact h)
        rw [HME.out, HPE.out]
        have HGO := Lib.hid (rGraphOf_any (A := AN) (n := z) (c := cN) (cr := z) (rowsM N rules) (setIn N f.pho) (setIn N (rules.map headP)) wr HRO.out ((List.length_map _).trans HNL.out) (by omega) (rowsM_b64 rules HNLE.out))
        have HEE : Hid (edgesOf (rowsM N rules) = edgesMk N rules) := Lib.hid (edges_same HUP.out HFF.out.up HHD.out).symm
        unfold GOfPost at HGO
        rw [HEE.out] at HGO
        generalize hpv : setIn N f.pho = PV at *
        generalize hmv : setIn N (rules.map headP) = MV at *
        generalize hev : edgesMk N rules = EV at *
        have HPV := Lib.hid hpv
        have HMV := Lib.hid hmv
        have HEV := Lib.hid hev
        clear hpv hmv hev
        clear HO
        go_wp2_with fail
        refine HGO.out.mono ?_
        rintro e w8 ⟨A2', c2', rfl, hownE, hb8⟩
        have HOE := Lib.hid hownE
        have HB8 := Lib.hid (below_newL HBZ.out hb8)
        have B8 := Lib.hid (below_then B6.out HB8.out)
        have R9 := Lib.hid (R6.out.below HB8.out R6.out.lt)
        have HNY := Lib.hid (HRN.out.below HB8.out)
        have HBrL : Hid (Br < w6.heap.size) := Lib.hid R6.out.lt
        have HW6 : Hid (w6.heap.size ≤ wr.heap.size) := Lib.hid HBZ.out.size
        clear hownE hb8 HGO
        have r1 := R9.out.cell (j := 0) rfl
        have r2 := R9.out.cell (j := 1) rfl
        have r3 := R9.out.cell (j := 2) rfl
        have r4 := R9.out.cell (j := 3) rfl
        have rf := R9.out.free
        unfold gv
        clear hnN
        go_wp2_with fail
        have RZ := Lib.hid (R9.out.put4 (.slice AN z cN) (.slice A2' EV.length c2') (.int .u64 (PV : Nat)) (.int .u64 (MV : Nat)))
        have BZ := Lib.hid (below_put4 B8.out (by have := HBr.out; omega : w.heap.size ≤ Br) (.slice AN z cN) (.slice A2' EV.length c2') (.int .u64 (PV : Nat)) (.int .u64 (MV : Nat)))
        have EZ := Lib.hid (rd_of_ownK (own_put4 (b := Br) HOE.out (fun he => by have h1 := (HOE.out.lt Br he).1; have h2 := HBrL.out; have h3 := HW6.out; omega) (.slice AN z cN) (.slice A2' EV.length c2') (.int .u64 (PV : Nat)) (.int .u64 (MV : Nat))))
        have HBRF := Lib.hid (rd_off_blk R9.out HNY.out (by intro v hv s; simp at hv; rcases hv with rfl | rfl <;> simp))
        have NZ : Hid (Rd ((((w8.setCell ⟨Br, 0, none⟩ (.slice AN z cN)).setCell ⟨Br, 1, none⟩ (.slice A2' EV.length c2')).setCell ⟨Br, 2, none⟩ (.int .u64 (PV : Nat))).setCell ⟨Br, 3, none⟩ (.int .u64 (MV : Nat))) AN (N.map sv)) := Lib.hid (fun hp => by
         obtain ⟨g, off, hA, hlt, hcc⟩ := HNY.out hp
         have hng := HBRF.out g off hA (by simpa using hp)
         refine ⟨g, off, hA, by simpa [World.setCell] using hlt, fun j u hu => ?_⟩
         exact cell_put4 (hcc j u hu) hng _ _ _ _)
        generalize ((((w8.setCell ⟨Br, 0, none⟩ (.slice AN z cN)).setCell ⟨Br, 1, none⟩ (.slice A2' EV.length c2')).setCell ⟨Br, 2, none⟩ (.int .u64 (PV : Nat))).setCell ⟨Br, 3, none⟩ (.int .u64 (MV : Nat))) = wz at *
        have q1 := RZ.out.cell (j := 0) rfl
        have q2 := RZ.out.cell (j := 1) rfl
        have q3 := RZ.out.cell (j := 2) rfl
        have q4 := RZ.out.cell (j := 3) rfl
        refine bodyPost_ret (v := .tuple #[.agg #[.slice AN z cN, .slice A2' EV.length c2', .int .u64 (PV : Nat), .int .u64 (MV : Nat)], .int .i64 0]) (by simp [results, Tryz.results32, go_sem, q1, q2, q3, q4]) rfl ?_
        unfold GmPost mkN mkEd mkP mkM
        rw [if_pos HE.out, if_pos HE.out, if_pos HE.out, if_pos HE.out, HE.out, HRUL.out, HNQ.out, HPV.out, HMV.out, HEV.out]
        exact ⟨AN, cN, A2', c2', by rw [HNL.out]; rfl, NZ.out, EZ.out, BZ.out⟩
  ·have HE := Lib.hid (mkE_fill HC0.out hf0)
   have HF0 := Lib.hid hf0
   have hn0 : (((fillE f.rul f.inf there : Nat) : Int) != 0) = true := by simp; omega
   generalize hv : ((fillE f.rul f.inf there : Nat) : Int) = V at *
   have HV := Lib.hid hv
   clear hf0 hv
   go_wp2_with fail
   have RZ := Lib.hid (R4.out.put4 (.slice none 0 0) (.slice none 0 0) (.int .u64 0) (.int .u64 0))
   have BZ := Lib.hid (below_put4 B4.out (by have := HBr.out; omega : w.heap.size ≤ Br) (.slice none 0 0) (.slice none 0 0) (.int .u64 0) (.int .u64 0))
   generalize ((((w4.setCell ⟨Br, 0, none⟩ (.slice none 0 0)).setCell ⟨Br, 1, none⟩ (.slice none 0 0)).setCell ⟨Br, 2, none⟩ (.int .u64 0)).setCell ⟨Br, 3, none⟩ (.int .u64 0)) = wz at *
   have q1 := RZ.out.cell (j := 0) rfl
   have q2 := RZ.out.cell (j := 1) rfl
   have q3 := RZ.out.cell (j := 2) rfl
   have q4 := RZ.out.cell (j := 3) rfl
   refine bodyPost_ret (v := .tuple #[.agg #[.slice none 0 0, .slice none 0 0, .int .u64 0, .int .u64 0], .int .i64 V]) (by simp [results, Tryz.results32, go_sem, q1, q2, q3, q4]) rfl ?_
   exact gmPost_no (by rw [HE.out]; exact HF0.out) (by rw [HE.out]; exact HV.out.symm) rfl BZ.out
 ·have HE := Lib.hid (mkE_chk (there := there) hc0)
  have HC0 := Lib.hid hc0
  have hn0 : (((chkF f : Nat) : Int) != 0) = true := by simp; omega
  generalize hv : ((chkF f : Nat) : Int) = V at *
  have HV := Lib.hid hv
  clear hc0 hv
  go_wp2_with fail
  have RZ := Lib.hid (R3.out.put4 (.slice none 0 0) (.slice none 0 0) (.int .u64 0) (.int .u64 0))
  have BZ := Lib.hid (below_put4 B3.out (by have := HBr.out; omega : w.heap.size ≤ Br) (.slice none 0 0) (.slice none 0 0) (.int .u64 0) (.int .u64 0))
  generalize ((((w3.setCell ⟨Br, 0, none⟩ (.slice none 0 0)).setCell ⟨Br, 1, none⟩ (.slice none 0 0)).setCell ⟨Br, 2, none⟩ (.int .u64 0)).setCell ⟨Br, 3, none⟩ (.int .u64 0)) = wz at *
  have q1 := RZ.out.cell (j := 0) rfl
  have q2 := RZ.out.cell (j := 1) rfl
  have q3 := RZ.out.cell (j := 2) rfl
  have q4 := RZ.out.cell (j := 3) rfl
  refine bodyPost_ret (v := .tuple #[.agg #[.slice none 0 0, .slice none 0 0, .int .u64 0, .int .u64 0], .int .i64 V]) (by simp [results, Tryz.results32, go_sem, q1, q2, q3, q4]) rfl ?_
  exact gmPost_no (by rw [HE.out]; exact HC0.out) (by rw [HE.out]; exact HV.out.symm) rfl BZ.out
end
end Go.Proofs.YtoandhhkmkgmaaaGreatDoor
namespace Go.Proofs.YtoandhhkmkgmaaaGreatDoor
open Go.RowKit

theorem mkE_zero {f : FileT} {there : List KeyT} (h : mkE f there = 0) : chkF f = 0 ∧ fillE f.rul f.inf there = 0 ∧ ¬ 64 < (gmN f.pho (mkRules f there)).length := by
 have h1 : chkF f = 0 := by
  by_cases h1 : chkF f = 0
  ·exact h1
  ·rw [mkE_chk h1] at h; exact absurd h h1
 have h2 : fillE f.rul f.inf there = 0 := by
  by_cases h2 : fillE f.rul f.inf there = 0
  ·exact h2
  ·rw [mkE_fill h1 h2] at h; exact absurd h h2
 refine ⟨h1, h2, fun h3 => ?_⟩
 rw [mkE_wide h1 h2 h3] at h
 cases h
theorem mk_lens (f : FileT) (there : List KeyT) : (mkN f there).length ≤ 9223372036854775807 ∧ (mkEd f there).length ≤ 9223372036854775807 := by
 unfold mkN mkEd
 by_cases h : mkE f there = 0
 ·obtain ⟨h1, h2, h3⟩ := mkE_zero h
  rw [if_pos h, if_pos h]
  refine ⟨by omega, ?_⟩
  have hl := fill_len h2
  have he := edgesMk_len (gmN f.pho (mkRules f there)) (mkRules f there) (mkRules f there).length
  rw [List.take_length] at he
  have : (mkRules f there).length ≤ 4160 := hl
  have h5 : (mkRules f there).length * 64 ≤ 4160 * 64 := Nat.mul_le_mul_right 64 this
  omega
 ·rw [if_neg h, if_neg h]
  exact ⟨by simp, by simp⟩
section
variable {A0 A1 A2 A3 C : Option Addr} {n0 n1 n2 n3 c0 c1 c2 c3 k e : Nat} (f : FileT) (L : List RSlot) (there : List KeyT) (w : World) (h : FileIn A0 A1 A2 A3 n0 n1 n2 n3 c1 f L w) (hrs : RsAll A3 L w) (hn2c : n2 ≤ c2)
 (ht : Rd w C (there.map sv)) (hk : there.length = k) (hkb : k ≤ 4189000) (hts : StrsOk there)
 (mx : Int) (hmx : w.cell? ⟨1, 0, none⟩ = some (.int .i64 mx)) (h0 : 1 < w.heap.size) (hT : Tab w)
include h hrs hn2c ht hk hkb hts hmx h0 hT
set_option maxRecDepth 100000 in
set_option maxHeartbeats 4000000 in
theorem graphMakes_any : Calls Tryz.prog 6 #[.agg #[.slice A0 n0 c0, .slice A1 n1 c1, .slice A2 n2 c2, .slice A3 n3 c3], .slice C k e] w fun e w' => e = .returned (.bool true) ∧ Below w.heap.size w w' := by
 have HM := Lib.hid (fun W (hW : Below w.heap.size w W) => gMake_any (c0 := c0) (c1 := c1) (c2 := c2) (c3 := c3) (e := e) f L there W (h.below hW) (hrs.below hW) hn2c (ht.below hW) hk hkb hts mx (cell_belowF hmx h0 hW) (Nat.lt_of_lt_of_le h0 hW.size) (hT.below hW))
 have HR := Lib.hid (fun W (hW : Below w.heap.size w W) => rMade_any (c0 := c0) (c1 := c1) (c2 := c2) (c3 := c3) (e := e) f L there W (h.below hW) (hrs.below hW) hn2c (ht.below hW) hk hkb hts)
 have HLN := Lib.hid (mk_lens f there)
 have HB0 := Lib.hid (below_new (Below.refl w.heap.size w) (.cells #[.slice A0 n0 c0, .slice A1 n1 c1, .slice A2 n2 c2, .slice A3 n3 c3] 27))
 have HK0 := Lib.hid (Blk.new w #[.slice A0 n0 c0, .slice A1 n1 c1, .slice A2 n2 c2, .slice A3 n3 c3] 27)
 unfold GmPost GPost at HM HR
 generalize mkN f there = N at *
 generalize mkEd f there = E at *
 generalize mkP f there = P at *
 generalize mkM f there = M at *
 generalize mkE f there = er at *
 clear h hrs hn2c ht hk hkb hts hmx h0 hT
 go_enter Tryz.func6, Tryz.ntmps6
 go_upto_region 1 with fail
 generalize w.alloc (.cells #[.slice A0 n0 c0, .slice A1 n1 c1, .slice A2 n2 c2, .slice A3 n3 c3] 27) = w0 at *
 have a0 := HK0.out.cell (j := 0) rfl
 have a1 := HK0.out.cell (j := 1) rfl
 have a2 := HK0.out.cell (j := 2) rfl
 have a3 := HK0.out.cell (j := 3) rfl
 go_wp2_with fail
 refine (HM.out _ HB0.out).mono ?_
 rintro e w1 ⟨B1, d1, B2, d2, rfl, rn1, re1, hb1⟩
 have RN1 := Lib.hid rn1
 have RE1 := Lib.hid re1
 have HB1 := Lib.hid (below_then HB0.out hb1)
 have HK1 := Lib.hid (HK0.out.below hb1 HK0.out.lt)
 clear rn1 re1 hb1 a0 a1 a2 a3 HM HB0
 have hbn := below_new (Below.refl w1.heap.size w1) (.cells #[.slice B1 N.length d1, .slice B2 E.length d2, .int .u64 (P : Int), .int .u64 (M : Int)] 43)
 have HB2 := Lib.hid (below_then HB1.out hbn)
 have HK2 := Lib.hid (HK1.out.below hbn HK1.out.lt)
 have HG2 := Lib.hid (Blk.new w1 #[.slice B1 N.length d1, .slice B2 E.length d2, .int .u64 (P : Int), .int .u64 (M : Int)] 43)
 have RN2 := Lib.hid (RN1.out.below hbn)
 have RE2 := Lib.hid (RE1.out.below hbn)
 clear hbn
 unfold gv
 go_upto_region 2 with fail
 generalize w1.alloc (.cells #[.slice B1 N.length d1, .slice B2 E.length d2, .int .u64 (P : Int), .int .u64 (M : Int)] 43) = w2 at *
 generalize w1.heap.size = K1 at *
 have a0 := HK2.out.cell (j := 0) rfl
 have a1 := HK2.out.cell (j := 1) rfl
 have a2 := HK2.out.cell (j := 2) rfl
 have a3 := HK2.out.cell (j := 3) rfl
 go_wp2_with fail
 refine (HR.out _ HB2.out).mono ?_
 rintro e w3 ⟨F1, g1, F2, g2, rfl, rn3, re3, hb3⟩
 have RN3 := Lib.hid rn3
 have RE3 := Lib.hid re3
 have HB3 := Lib.hid (below_then HB2.out hb3)
 have HG3 := Lib.hid (HG2.out.below hb3 HG2.out.lt)
 have RN2b := Lib.hid (RN2.out.below hb3)
 have RE2b := Lib.hid (RE2.out.below hb3)
 clear rn3 re3 hb3 a0 a1 a2 a3 HR
 have hbn := below_new (Below.refl w3.heap.size w3) (.cells #[.slice F1 N.length g1, .slice F2 E.length g2, .int .u64 (P : Int), .int .u64 (M : Int)] 43)
 have HB4 := Lib.hid (below_then HB3.out hbn)
 have HG4 := Lib.hid (HG3.out.below hbn HG3.out.lt)
 have HH4 := Lib.hid (Blk.new w3 #[.slice F1 N.length g1, .slice F2 E.length g2, .int .u64 (P : Int), .int .u64 (M : Int)] 43)
 have HS := Lib.hid (sameGraph_any (c1 := d1) (c2 := d2) (d1 := g1) (d2 := g2) N E P M (w3.alloc (.cells #[.slice F1 N.length g1, .slice F2 E.length g2, .int .u64 (P : Int), .int .u64 (M : Int)] 43)) (RN2b.out.below hbn) (RE2b.out.below hbn) (RN3.out.below hbn) (RE3.out.below hbn) HLN.out.1 HLN.out.2)
 clear hbn
 unfold gv at HS ⊢
 go_upto_region 3 with fail
 generalize w3.alloc (.cells #[.slice F1 N.length g1, .slice F2 E.length g2, .int .u64 (P : Int), .int .u64 (M : Int)] 43) = w4 at *
 generalize w3.heap.size = K3 at *
 have m0 := HG4.out.cell (j := 0) rfl
 have m1 := HG4.out.cell (j := 1) rfl
 have m2 := HG4.out.cell (j := 2) rfl
 have m3 := HG4.out.cell (j := 3) rfl
 have q0 := HH4.out.cell (j := 0) rfl
 have q1 := HH4.out.cell (j := 1) rfl
 have q2 := HH4.out.cell (j := 2) rfl
 have q3 := HH4.out.cell (j := 3) rfl
 go_wp2_with fail
 refine HS.out.mono ?_
 rintro e w5 ⟨rfl, hb5⟩
 have HB5 := Lib.hid (below_then HB4.out hb5)
 have hrr : (((er : Nat) : Int) == ((er : Nat) : Int)) = true := by simp
 clear hb5 m0 m1 m2 m3 q0 q1 q2 q3
 go_wp2_with fail
 go_ret
 exact ⟨rfl, HB5.out⟩
end
end Go.Proofs.YtoandhhkmkgmaaaGreatDoor
