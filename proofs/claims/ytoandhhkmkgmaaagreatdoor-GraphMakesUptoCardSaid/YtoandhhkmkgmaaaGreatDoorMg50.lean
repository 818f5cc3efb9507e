/- Contracts that the law's proof leans on, and plain lemmas to them, merged. No condition beyond each contract's own hypotheses. -/
import Derived.Test.YtoandhhkmkgmaaaGreatDoorMg22
import Derived.Test.YtoandhhkmkgmaaaGreatDoorMg31
import Derived.Test.YtoandhhkmkgmaaaGreatDoorMg49
import Derived.Test.YtoandhhkmkgmaaaGreatDoorMg2
import Derived.Test.YtoandhhkmkgmaaaGreatDoorMg17
import Derived.Test.YtoandhhkmkgmaaaGreatDoorMg47
namespace Go.Proofs.YtoandhhkmkgmaaaGreatDoor
open Go.RowKit

theorem definedP_lt {s : List UInt8} {m : MacT} (h : definedP s = some m) : m.1.length ≤ s.length ∧ m.2.length + 1 ≤ s.length := by
 unfold definedP at h
 split at h
 ·rename_i hc
  injection h with h
  subst h
  have h0 : s.idxOf 61 < s.length := List.idxOf_lt_length_of_mem hc.1
  have h1 := trimBL_len (s.take (s.idxOf 61))
  have h2 := trimBL_len (s.drop (s.idxOf 61 + 1))
  rw [List.length_take] at h1
  rw [List.length_drop] at h2
  exact ⟨by dsimp only; omega, by dsimp only; omega⟩
 ·cases h
set_option maxRecDepth 100000 in
set_option maxHeartbeats 16000000 in
theorem rFileRead_any {A : Option Addr} {n c : Nat} (l : List (List UInt8)) (w : World) (hr : Rd w A (l.map sv)) (hn : l.length = n) (hs : ∀ s ∈ l, s.length ≤ 1048639) :
 Calls Tryz.prog 10 #[.slice A n c] w (ParsePost l w) := by
 have HR := Lib.hid hr
 have HN := Lib.hid hn
 have HS := Lib.hid hs
 have HB0 := Lib.hid (below_new (Below.refl w.heap.size w) (.cells #[.slice none 0 0, .slice none 0 0, .slice none 0 0, .slice none 0 0] 27))
 have HK0 := Lib.hid (Blk.new w #[.slice none 0 0, .slice none 0 0, .slice none 0 0, .slice none 0 0] 27)
 clear hr hn hs
 go_enter Tryz.func10, Tryz.ntmps10
 go_upto_region 1 with fail
 generalize w.alloc (.cells #[.slice none 0 0, .slice none 0 0, .slice none 0 0, .slice none 0 0] 27) = w0 at *
 generalize hb : w.heap.size = b at *
 have HBB := Lib.hid hb
 clear hb
 have hb1 := below_new (Below.refl w0.heap.size w0) (.cells #[.slice none 0 0, .slice none 0 0, .slice none 0 0, .slice none 0 0] 27)
 have HB1 := Lib.hid (HB0.out.trans (hb1.mono (Nat.le_of_lt HK0.out.lt)))
 have HK1 := Lib.hid (HK0.out.below hb1 HK0.out.lt)
 have HE1 := Lib.hid (Blk.new w0 #[.slice none 0 0, .slice none 0 0, .slice none 0 0, .slice none 0 0] 27)
 have hlt1 := HK0.out.lt
 clear hb1
 go_upto_region 2 with fail
 generalize w0.alloc (.cells #[.slice none 0 0, .slice none 0 0, .slice none 0 0, .slice none 0 0] 27) = w1 at *
 generalize w0.heap.size = b1 at *
 by_cases h200 : 200 < n
 ·have q1 : decide ((200 : Int) < (n : Int)) = true := by simp; omega
  have HE := Lib.hid (fileP_big (l := l) (by rw [HN.out]; exact h200))
  clear h200
  have c0 := HK1.out.cell (j := 0) rfl
  have c1 := HK1.out.cell (j := 1) rfl
  have c2 := HK1.out.cell (j := 2) rfl
  have c3 := HK1.out.cell (j := 3) rfl
  have f0 := HK1.out.free 0
  have f1 := HK1.out.free 1
  have f2 := HK1.out.free 2
  have f3 := HK1.out.free 3
  have e0 := HE1.out.cell (j := 0) rfl
  have e1 := HE1.out.cell (j := 1) rfl
  have e2 := HE1.out.cell (j := 2) rfl
  have e3 := HE1.out.cell (j := 3) rfl
  go_wp2_with fail
  have RZ := Lib.hid (HK1.out.put4P (.slice none 0 0) (.slice none 0 0) (.slice none 0 0) (.slice none 0 0))
  have BZ := Lib.hid (below_put4P HB1.out (Nat.le_refl _) (.slice none 0 0) (.slice none 0 0) (.slice none 0 0) (.slice none 0 0))
  show bodyPost _ _ _ _ _ (put4P w1 b (.slice none 0 0) (.slice none 0 0) (.slice none 0 0) (.slice none 0 0))
  generalize put4P w1 b (.slice none 0 0) (.slice none 0 0) (.slice none 0 0) (.slice none 0 0) = wz at *
  have g0 := RZ.out.cell (j := 0) rfl
  have g1 := RZ.out.cell (j := 1) rfl
  have g2 := RZ.out.cell (j := 2) rfl
  have g3 := RZ.out.cell (j := 3) rfl
  refine bodyPost_ret (v := .tuple #[.agg #[.slice none 0 0, .slice none 0 0, .slice none 0 0, .slice none 0 0], .int .i64 0, .int .i64 2]) (by simp [results, Tryz.results10, go_sem, g0, g1, g2, g3]) rfl ?_
  exact ⟨by rw [HBB.out]; exact BZ.out, [], _, _, _, _, by rw [HE.out]; rfl, by rw [HE.out]; exact FileAt.none _ _⟩
 ·have q1 : decide ((200 : Int) < (n : Int)) = false := by simp; omega
  have hn200 : n ≤ 200 := by omega
  clear h200
  have HRS := Lib.hid (RowsAt.start w1)
  have hb2 := below_new (Below.refl w1.heap.size w1) (.cells #[.slice none 0 0, .slice none 0 0, .slice none 0 0, .slice none 0 0] 27)
  have HB2 := Lib.hid (HB1.out.trans (hb2.mono (Nat.le_of_lt HK1.out.lt)))
  have HK2 := Lib.hid (HK1.out.below hb2 HK1.out.lt)
  have HE2 := Lib.hid (HE1.out.below hb2 HE1.out.lt)
  have hlt2 := HE1.out.lt
  clear hb2
  go_upto_region 5 with fail
  generalize w1.alloc (.cells #[.slice none 0 0, .slice none 0 0, .slice none 0 0, .slice none 0 0] 27) = w2 at *
  generalize w1.heap.size = b2 at *
  have hlt3 : b < b2 := by omega
  have HLT := Lib.hid (And.intro hlt1 (And.intro hlt2 hlt3))
  go_wp2_with fail
  go_loopw [33] (fun i wr => ∃ (j : Nat) (v0 : Value), j ≤ n ∧ i = .int .i64 (j : Int) ∧ Hid (RowsAt (b2 + 1) b2 27 (rowsF { emptyF with mac := macrosP (l.take j) } [] v0 (.slice none 0 0) (.slice none 0 0) (.slice none 0 0)) [] wr) ∧ Hid (ButLo (b2 + 1) b2 w2 wr)) (fun i _ => n - (intOf i).toNat)
  case atStart => exact ⟨0, _, by omega, rfl, HRS, Lib.hid (ButLo.refl _ _ _)⟩
  case round =>
   obtain ⟨j, v0, hj, rfl, HRj, HBj⟩ := hrel
   have HBL := Lib.hid (ButLo.toBelow HB2.out HBj.out (by omega) (by omega))
   by_cases hlt : j < n
   ·obtain ⟨s, hx⟩ : ∃ s, l[j]? = some s := ⟨_, List.getElem?_eq_getElem (by rw [HN.out]; exact hlt)⟩
    obtain ⟨bA, off, rfl, hc⟩ := Rd.scell (HR.out.below (by rw [HBB.out]; exact HBL.out)) hx
    have HDF := Lib.hid (show Calls Tryz.prog 39 #[.string ⟨s.toArray⟩] wr (DefPost s wr) from rDefined_any s (by have := HS.out s (List.mem_of_getElem? hx); omega) wr)
    have HMS := Lib.hid (macrosP_snoc hx)
    have HML : Hid ((macrosP (l.take j)).length ≤ 200) := Lib.hid (by have := macrosP_len (l.take j); rw [List.length_take] at this; omega)
    obtain ⟨A0, r0, hv0⟩ := slice_ofF (HRj.out.own ⟨71, 2, v0, (macrosP (l.take j)).length, macV (macrosP (l.take j))⟩ (by unfold rowsF; simp))
    dsimp only at hv0
    subst hv0
    generalize hM : macrosP (l.take j) = M at *
    obtain ⟨n0, hn0⟩ : ∃ n0, M.length = n0 := ⟨_, rfl⟩
    have HN0 := Lib.hid hn0
    rw [hn0] at HRj HML
    generalize (⟨s.toArray⟩ : ByteArray) = bs at hc HDF
    have j0 : (0 : Int) ≤ (j : Int) := by omega
    have j1 : (j : Int) < (n : Int) := by omega
    clear hx hM hn0
    go_wp2_with fail
    refine HDF.out.mono ?_
    rintro e w3 ⟨hb3, mn, mv, hmv, rfl⟩
    have HR2 := Lib.hid (HRj.out.below hb3)
    have HW2 := Lib.hid (HBj.out.below hb3 HRj.out.top)
    have HMV := Lib.hid hmv
    obtain ⟨bn, hbn⟩ : ∃ bn, sv mn = .string bn := ⟨_, rfl⟩
    obtain ⟨bv, hbv⟩ : ∃ bv, sv mv = .string bv := ⟨_, rfl⟩
    rw [hbn, hbv]
    have HBN := Lib.hid hbn
    have HBV := Lib.hid hbv
    have hb4 := below_new (Below.refl w3.heap.size w3) (.cells #[.string bn, .string bv] 71)
    have HR3 := Lib.hid (HR2.out.below hb4)
    have HW3 := Lib.hid (HW2.out.below hb4 HR2.out.top)
    have HK8 := Lib.hid (Blk.new w3 #[.string bn, .string bv] 71)
    clear hb3 hmv hbn hbv hb4
    cases hd : definedP s with
    | none =>
      have HD := Lib.hid hd
      simp only [Option.isSome_none]
      clear hd
      go_wp2_with fail
      go_roundw
      case rel => exact ⟨j + 1, _, by omega, by go_num, by rw [HMS.out, HD.out]; simpa using HR3, HW3⟩
      case measure => simp [intOf]; omega
    | some m =>
      have HD : Hid (definedP s = some (mn, mv)) := Lib.hid (by rw [hd]; have := HMV.out; rw [hd] at this; exact congrArg some this.symm)
      simp only [Option.isSome_some]
      clear hd
      go_upto_region 10 with fail
      generalize w3.alloc (.cells #[.string bn, .string bv] 71) = w4 at *
      generalize w3.heap.size = k8 at *
      have m0 : w4.cell? ⟨b2, 0, none⟩ = some (.slice A0 n0 r0) := HR3.out.box.cell (j := 0) rfl
      have d0 : w4.cell? ⟨k8, 0, none⟩ = some (.string bn) := HK8.out.cell (j := 0) rfl
      have d1 : w4.cell? ⟨k8, 1, none⟩ = some (.string bv) := HK8.out.cell (j := 1) rfl
      have HRK : Hid ((rowsF { emptyF with mac := M } [] (.slice A0 n0 r0) (.slice none 0 0) (.slice none 0 0) (.slice none 0 0))[0]? = some ⟨71, 2, .slice A0 n0 r0, n0, macV M⟩) := Lib.hid (by unfold rowsF; simp [HN0.out])
      go_wp2_with (at_builtin; refine wpList_pushF w4 _ _ HR3.out 0 elMacF A0 n0 r0 (macV M) HRK.out #[.string bn, .string bv] rfl (by intro u hu; simp at hu; rcases hu with rfl | rfl <;> rfl) (by have := HML.out; omega) (by have := HML.out; omega) (N := []) (by simp) rfl rfl rfl rfl ?_; intro g c' w5 hb4 hr4 hw4; have e0 := hb4.cell (j := 0) rfl; have e1 := hb4.free 0; have HR4 := Lib.hid hr4; have HW4 := Lib.hid hw4; clear hb4 hr4 hw4)
      go_roundw
      case rel => exact ⟨j + 1, .slice (some ⟨g, 0, none⟩) (n0 + 1) c', by omega, by go_num, Lib.hid (by
       have hh := HR4.out
       rw [HMS.out, HD.out, Option.toList_some, ← rowsF_mac (f := { emptyF with mac := M }) (A := A0) (c := r0) HN0.out (p := (mn, mv)) HBN.out HBV.out]
       exact hh), Lib.hid (HW3.out.trans HW4.out)⟩
      case measure => simp [intOf]; omega
   ·obtain rfl : j = n := by omega
    have hMA : macrosP (l.take j) = macrosP l := by rw [List.take_of_length_le (by have := HN.out; omega)]
    rw [hMA] at HRj
    clear hMA
    have HML : Hid ((macrosP l).length ≤ 200) := Lib.hid (by have := macrosP_len l; have := HN.out; omega)
    have HSM : Hid (∀ x ∈ macrosP l, x.1.length ≤ 9223372036854775807 ∧ x.2.length ≤ 1048639) := Lib.hid (fun x hx => by
     unfold macrosP at hx
     obtain ⟨s, hs, hd⟩ := List.mem_filterMap.1 hx
     have h1 := definedP_lt hd
     have h2 := HS.out s hs
     exact ⟨by omega, by omega⟩)
    have HFB : Hid (flatsE (macrosP l) ≠ 0 → fileP l = (flatsE (macrosP l), 0, emptyF)) := Lib.hid (fun h => fileP_flat (by rw [HN.out]; omega) h)
    have HFO : Hid (flatsE (macrosP l) = 0 → fileP l = parseFrom (macrosP l) 0 { emptyF with mac := macrosP l } l) := Lib.hid (fun h => fileP_from (by rw [HN.out]; omega) h)
    obtain ⟨A0, r0, hv0⟩ := slice_ofF (HRj.out.own ⟨71, 2, v0, (macrosP l).length, macV (macrosP l)⟩ (by unfold rowsF; simp))
    dsimp only at hv0
    subst hv0
    generalize macrosP l = M at *
    obtain ⟨n0, hn0⟩ : ∃ n0, M.length = n0 := ⟨_, rfl⟩
    have HN0 := Lib.hid hn0
    have HRD0 := Lib.hid (Rd.own2 (HRj.out.own ⟨71, 2, .slice A0 M.length r0, M.length, macV M⟩ (by unfold rowsF; simp)))
    rw [hn0] at HRj HML HRD0
    clear hn0
    have m0 : wr.cell? ⟨b2, 0, none⟩ = some (.slice A0 n0 r0) := HRj.out.box.cell (j := 0) rfl
    have HKr := Lib.hid (HK2.out.butLo HBj.out (by omega) (by omega))
    have HEr := Lib.hid (HE2.out.butLo HBj.out (by omega) (by omega))
    have HFL := Lib.hid (rFlat_any (c := r0) M wr HRD0.out HN0.out (by have := HML.out; omega) HSM.out)
    go_wp2_with fail
    refine HFL.out.mono ?_
    rintro e w3 ⟨hb3, (⟨hbad, rfl⟩ | ⟨hok, _, _, AF, cF, rfl, hown⟩)⟩
    ·have HE := Lib.hid (HFB.out hbad)
     have HB3 := Lib.hid (HBL.out.trans (hb3.mono (by have := HKr.out.lt; omega)))
     have HK3 := Lib.hid (HKr.out.below hb3 HKr.out.lt)
     have HE3 := Lib.hid (HEr.out.below hb3 HEr.out.lt)
     have p1 : (((flatsE M : Nat) : Int) != 0) = true := by simp; omega
     generalize flatsE M = E0 at *
     clear hbad hb3
     have c0 := HK3.out.cell (j := 0) rfl
     have c1 := HK3.out.cell (j := 1) rfl
     have c2 := HK3.out.cell (j := 2) rfl
     have c3 := HK3.out.cell (j := 3) rfl
     have f0 := HK3.out.free 0
     have f1 := HK3.out.free 1
     have f2 := HK3.out.free 2
     have f3 := HK3.out.free 3
     have e0 := HE3.out.cell (j := 0) rfl
     have e1 := HE3.out.cell (j := 1) rfl
     have e2 := HE3.out.cell (j := 2) rfl
     have e3 := HE3.out.cell (j := 3) rfl
     go_wp2_with fail
     have RZ := Lib.hid (HK3.out.put4P (.slice none 0 0) (.slice none 0 0) (.slice none 0 0) (.slice none 0 0))
     have BZ := Lib.hid (below_put4P HB3.out (Nat.le_refl _) (.slice none 0 0) (.slice none 0 0) (.slice none 0 0) (.slice none 0 0))
     show bodyPost _ _ _ _ _ (put4P w3 b (.slice none 0 0) (.slice none 0 0) (.slice none 0 0) (.slice none 0 0))
     generalize put4P w3 b (.slice none 0 0) (.slice none 0 0) (.slice none 0 0) (.slice none 0 0) = wz at *
     have g0 := RZ.out.cell (j := 0) rfl
     have g1 := RZ.out.cell (j := 1) rfl
     have g2 := RZ.out.cell (j := 2) rfl
     have g3 := RZ.out.cell (j := 3) rfl
     refine bodyPost_ret (v := .tuple #[.agg #[.slice none 0 0, .slice none 0 0, .slice none 0 0, .slice none 0 0], .int .i64 0, .int .i64 (E0 : Int)]) (by simp [results, Tryz.results10, go_sem, g0, g1, g2, g3]) rfl ?_
     exact ⟨by rw [HBB.out]; exact BZ.out, [], _, _, _, _, by rw [HE.out]; rfl, by rw [HE.out]; exact FileAt.none _ _⟩
    ·have HE := Lib.hid (HFO.out hok)
     have HB3 := Lib.hid (HBL.out.trans (hb3.mono (by have := HKr.out.lt; omega)))
     have HR2 := Lib.hid (HRj.out.below hb3)
     have HW2 := Lib.hid (HBj.out.below hb3 HRj.out.top)
     clear hb3 hown hok HFB HFO HRj HBj HFL HKr HEr m0 HRD0 HBL
     go_wp2_with fail
     go_loopw [62] (fun i wq => ∃ (q : Nat) (f : FileT) (L : List RSlot) (v0 v1 v2 v3 : Value), q ≤ j ∧ i = .int .i64 (q : Int) ∧ Hid (RowsAt (b2 + 1) b2 27 (rowsF f L v0 v1 v2 v3) L wq) ∧ Hid (rulesOf L = f.rul) ∧ Hid (ButLo (b2 + 1) b2 w2 wq) ∧ Hid (f.mac = M) ∧ Hid (f.pho.length ≤ 20 ∧ f.rul.length ≤ 100 ∧ f.inf.length ≤ q) ∧ Hid (fileP l = parseFrom M q f (l.drop q)) ∧ Hid (∀ x ∈ L, farS x (some b))) (fun i _ => j - (intOf i).toNat)
     case atStart => exact ⟨0, { emptyF with mac := M }, [], _, _, _, _, by omega, rfl, HR2, Lib.hid rfl, HW2, Lib.hid rfl, Lib.hid ⟨by simp [emptyF], by simp [emptyF], by simp [emptyF]⟩, HE, Lib.hid (fun x hx => by cases hx)⟩
     case round =>
      obtain ⟨q, f, L, v0, v1, v2, v3, hq, rfl, HRq, HLq, HBq, HMq, HCq, HEq, HFq⟩ := hrel
      have HBLq := Lib.hid (ButLo.toBelow HB2.out HBq.out (by omega) (by omega))
      by_cases hlt : q < j
      ·obtain ⟨s, hx⟩ : ∃ s, l[q]? = some s := ⟨_, List.getElem?_eq_getElem (by rw [HN.out]; exact hlt)⟩
       have hdr : l.drop q = s :: l.drop (q + 1) := by
        obtain ⟨h1, h2⟩ := List.getElem?_eq_some_iff.1 hx
        rw [List.drop_eq_getElem_cons h1, h2]
       have HST := Lib.hid (HEq.out.trans (congrArg (parseFrom M q f) hdr))
       have HSS := Lib.hid (HS.out s (List.mem_of_getElem? hx))
       obtain ⟨bA, off, rfl, hc⟩ := Rd.scell (HR.out.below (by rw [HBB.out]; exact HBLq.out)) hx
       have HDF := Lib.hid (show Calls Tryz.prog 39 #[.string ⟨s.toArray⟩] wr (DefPost s wr) from rDefined_any s (by have := HSS.out; omega) wr)
       have j0 : (0 : Int) ≤ (q : Int) := by omega
       have j1 : (q : Int) < (j : Int) := by omega
       clear hx hdr
       go_wp2_with fail
       refine HDF.out.mono ?_
       rintro e w3 ⟨hb3, mn, mv, hmv, rfl⟩
       have HR3 := Lib.hid (HRq.out.below hb3)
       have HW3 := Lib.hid (HBq.out.below hb3 HRq.out.top)
       obtain ⟨bn, hbn⟩ : ∃ bn, sv mn = .string bn := ⟨_, rfl⟩
       obtain ⟨bv, hbv⟩ : ∃ bv, sv mv = .string bv := ⟨_, rfl⟩
       rw [hbn, hbv]
       have hb4 := below_new (Below.refl w3.heap.size w3) (.cells #[.string bn, .string bv] 71)
       have HR4 := Lib.hid (HR3.out.below hb4)
       have HW4 := Lib.hid (HW3.out.below hb4 HR3.out.top)
       clear hb3 hmv hbn hbv hb4
       cases hd : (definedP s).isSome with
       | true =>
         have HD := Lib.hid hd
         clear hd
         go_wp2_with fail
         go_roundw
         case rel => exact ⟨q + 1, f, L, v0, v1, v2, v3, by omega, by go_num, HR4, HLq, HW4, HMq, Lib.hid ⟨HCq.out.1, HCq.out.2.1, by have := HCq.out.2.2; omega⟩, Lib.hid (by rw [HST.out, parseFrom, if_pos HD.out]), HFq⟩
         case measure => simp [intOf]; omega
       | false =>
         have HD := Lib.hid hd
         clear hd
         go_upto_region 19 with fail
         generalize w3.alloc (.cells #[.string bn, .string bv] 71) = w4 at *
         generalize w3.heap.size = k8 at *
         obtain ⟨A5, r5, hv5⟩ := slice_ofF (HR4.out.own ⟨71, 2, v0, f.mac.length, macV f.mac⟩ (by unfold rowsF; simp))
         dsimp only at hv5
         subst hv5
         have HRD5 := Lib.hid (Rd.own2 (HR4.out.own ⟨71, 2, .slice A5 f.mac.length r5, f.mac.length, macV f.mac⟩ (by unfold rowsF; simp)))
         have m5 : w4.cell? ⟨b2, 0, none⟩ = some (.slice A5 f.mac.length r5) := HR4.out.box.cell (j := 0) rfl
         have HXP := Lib.hid (show Calls Tryz.prog 41 #[.slice A5 f.mac.length r5, .string ⟨s.toArray⟩] w4 (ExpPost M s w4) from rExp_any (c := r5) M s w4 (HMq.out ▸ HRD5.out) (by rw [HMq.out]) (by rw [HMq.out, HN0.out]; have := HML.out; omega) HSM.out (by have := HSS.out; omega))
         generalize (⟨s.toArray⟩ : ByteArray) = bs at *
         go_wp2_with fail
         refine HXP.out.mono ?_
         rintro e w5 ⟨hb5, rfl⟩
         have HR5 := Lib.hid (HR4.out.below hb5)
         have HW5 := Lib.hid (HW4.out.below hb5 HR4.out.top)
         clear hb5 HXP m5 HRD5
         by_cases he : expE M s ≠ 0
         ·have HEX : Hid (fileP l = (expE M s, q + 1, emptyF)) := Lib.hid (by rw [HST.out, parseFrom, if_neg (by rw [HD.out]; decide), if_pos he])
          have HB5 := Lib.hid (ButLo.toBelow HB2.out HW5.out (by omega) (by omega))
          have HK5 := Lib.hid (HK2.out.butLo HW5.out (by omega) (by omega))
          have HN5 := Lib.hid (HE2.out.butLo HW5.out (by omega) (by omega))
          have p1 : (((expE M s : Nat) : Int) != 0) = true := by simp; omega
          generalize expE M s = E0 at *
          clear he
          have c0 := HK5.out.cell (j := 0) rfl
          have c1 := HK5.out.cell (j := 1) rfl
          have c2 := HK5.out.cell (j := 2) rfl
          have c3 := HK5.out.cell (j := 3) rfl
          have f0 := HK5.out.free 0
          have f1 := HK5.out.free 1
          have f2 := HK5.out.free 2
          have f3 := HK5.out.free 3
          have e0 := HN5.out.cell (j := 0) rfl
          have e1 := HN5.out.cell (j := 1) rfl
          have e2 := HN5.out.cell (j := 2) rfl
          have e3 := HN5.out.cell (j := 3) rfl
          go_wp2_with fail
          have RZ := Lib.hid (HK5.out.put4P (.slice none 0 0) (.slice none 0 0) (.slice none 0 0) (.slice none 0 0))
          have BZ := Lib.hid (below_put4P HB5.out (Nat.le_refl _) (.slice none 0 0) (.slice none 0 0) (.slice none 0 0) (.slice none 0 0))
          show bodyPost _ _ _ _ _ (put4P w5 b (.slice none 0 0) (.slice none 0 0) (.slice none 0 0) (.slice none 0 0))
          generalize put4P w5 b (.slice none 0 0) (.slice none 0 0) (.slice none 0 0) (.slice none 0 0) = wz at *
          have g0 := RZ.out.cell (j := 0) rfl
          have g1 := RZ.out.cell (j := 1) rfl
          have g2 := RZ.out.cell (j := 2) rfl
          have g3 := RZ.out.cell (j := 3) rfl
          refine bodyPost_ret (v := .tuple #[.agg #[.slice none 0 0, .slice none 0 0, .slice none 0 0, .slice none 0 0], .int .i64 ((q : Int) + 1), .int .i64 (E0 : Int)]) (by simp [results, Tryz.results10, go_sem, g0, g1, g2, g3]) rfl ?_
          exact ⟨by rw [HBB.out]; exact BZ.out, [], _, _, _, _, by rw [HEX.out]; rfl, by rw [HEX.out]; exact FileAt.none _ _⟩
         ·have he0 : expE M s = 0 := by omega
          have HT : Hid ((expT M s).length ≤ 2000) := Lib.hid (by unfold expT; rw [if_pos he0]; exact flatP_short _ _)
          have HS2 : Hid (fileP l = if (parseR (expT M s)).1 ≠ 0 then ((parseR (expT M s)).1, q + 1, emptyF) else if (addP f (parseR (expT M s)).2).1 ≠ 0 then ((addP f (parseR (expT M s)).2).1, q + 1, emptyF) else parseFrom M (q + 1) (addP f (parseR (expT M s)).2).2 (l.drop (q + 1))) := Lib.hid (by rw [HST.out, parseFrom, if_neg (by rw [HD.out]; decide), if_neg he])
          have p1 : (((expE M s : Nat) : Int) != 0) = false := by rw [he0]; rfl
          have HPR := Lib.hid (show Calls Tryz.prog 42 #[sv (expT M s)] w5 (PaPostG (expT M s) w5) from rRuleReadG_any (expT M s) w5 (by have := HT.out; omega))
          generalize expT M s = TX at *
          generalize expE M s = E0 at *
          clear he he0
          go_wp2_with fail
          refine HPR.out.mono ?_
          intro e w6 hpg
          by_cases hp0 : (parseR TX).1 = 0
          ·obtain ⟨x, hx1, rfl, hx2, hb6, hf1, hf2, hns, t0, ht0, ht0l⟩ := parsed_in (by have := HT.out; omega) hp0 hpg
           have HW6 := Lib.hid (HW5.out.below hb6 HR5.out.top)
           have HR6 := Lib.hid (HR5.out.below hb6)
           have hb7 := below_new (Below.refl w6.heap.size w6) (.cells #[rsT x, rsN x] 78)
           have HX7 := Lib.hid (hx2.below hb7)
           have HFR : Hid (∀ r ∈ rowsF f L (.slice A5 f.mac.length r5) v1 v2 v3, farS x r.v.ownBlock) := Lib.hid (fun r hr => fresh_far hf1 hf2 (fun g hg => ((HR5.out.own r hr).lt g hg).2))
           have HFB : Hid (farS x (some b2)) := Lib.hid (fresh_far hf1 hf2 (fun g hg => by injection hg with hg; have := HR5.out.box.lt; omega))
           have HFb : Hid (farS x (some b)) := Lib.hid (fresh_far hf1 hf2 (fun g hg => by injection hg with hg; have := HR5.out.box.lt; omega))
           have HR7 := Lib.hid ((HR6.out.below hb7).with HX7.out HFR.out HFB.out)
           have HW7 := Lib.hid (HW6.out.below hb7 HR6.out.top)
           have HK9 := Lib.hid (Blk.new w6 #[rsT x, rsN x] 78)
           have HS3 : Hid (fileP l = if (addP f x.2.2).1 ≠ 0 then ((addP f x.2.2).1, q + 1, emptyF) else parseFrom M (q + 1) (addP f x.2.2).2 (l.drop (q + 1))) := Lib.hid (by rw [HS2.out, if_neg (fun e => e hp0), ← hx1])
           have HKP : Hid ((addP f x.2.2).1 = 0 → (addP f x.2.2).2.pho.length ≤ 20 ∧ (addP f x.2.2).2.rul.length ≤ 100 ∧ (addP f x.2.2).2.inf.length ≤ q + 1) := Lib.hid (fun ha => addP_keeps ha HCq.out.1 HCq.out.2.1 HCq.out.2.2)
           have HMC : Hid ((addP f x.2.2).2.mac = M) := Lib.hid (by rw [addP_mac]; exact HMq.out)
           have HT0 := Lib.hid ht0
           have HT0L := Lib.hid ht0l
           have HNS := Lib.hid hns
           have HLT0 := Lib.hid (List.getElem?_eq_some_iff.1 ht0).1
           clear hb6 hb7 hx2 hf1 hf2 hx1 hp0 hns ht0 ht0l HR6 HW6 HFR HFB HR5 HW5 HR4 HW4 HR3 HW3 HPR HS2 HDF hc
           obtain ⟨⟨X1, xc1⟩, ⟨X2, xc2⟩, ts, ns⟩ := x
           simp only [rsT, rsN] at *
           obtain ⟨tl, htl⟩ : ∃ tl, ts.length = tl := ⟨_, rfl⟩
           obtain ⟨nl, hnl⟩ : ∃ nl, ns.length = nl := ⟨_, rfl⟩
           have HTL := Lib.hid htl
           have HNL := Lib.hid hnl
           have htl1 : 0 < tl := by rw [← htl]; exact HLT0.out
           have hnb : nl ≤ 20 := by rw [← hnl]; exact HNS.out
           simp only [htl, hnl] at HK9 HR7 HW7 HX7 HNS HLT0 ⊢
           clear htl hnl
           go_upto_region 24 with fail
           generalize w6.alloc (.cells #[.slice X1 tl xc1, .slice X2 nl xc2] 78) = w7 at *
           generalize w6.heap.size = k9 at *
           have y0 : w7.cell? ⟨k9, 0, none⟩ = some (.slice X1 tl xc1) := HK9.out.cell (j := 0) rfl
           have CT := Lib.hid (show Calls Tryz.prog 43 #[.slice X1 tl xc1, .string ⟨#[46, 80, 72, 79, 78, 89]⟩] w7 _ from placeF_any (c := xc1) ts phonyW w7 HX7.out.t HTL.out HX7.out.tb)
           have HGE := Lib.hid (placeGe (l := ts) (s := phonyW))
           generalize hP0 : placeOf ts phonyW = P0 at *
           clear hP0
           by_cases hph : phonyW ∈ ts
           ·have hge : decide (0 ≤ P0) = true := by rw [HGE.out]; exact decide_eq_true hph
            have HPH := Lib.hid hph
            clear hph
            by_cases hone : tl = 1
            case neg =>
             have HEA := Lib.hid (addP_one (f := f) (r := (ts, ns)) HPH.out (by have := HTL.out; show 1 < ts.length; omega))
             have HEX : Hid (fileP l = (3, q + 1, emptyF)) := Lib.hid (by rw [HS3.out, HEA.out]; rfl)
             have hne : ((tl : Int) != 1) = true := by simp; omega
             clear hone
             go_wp2_with fail
             refine CT.out.mono ?_
             rintro e w8 ⟨rfl, rfl⟩
             have HBx := Lib.hid (ButLo.toBelow HB2.out HW7.out (by omega) (by omega))
             have HKx := Lib.hid (HK2.out.butLo HW7.out (by omega) (by omega))
             have HNx := Lib.hid (HE2.out.butLo HW7.out (by omega) (by omega))
             have c0 := HKx.out.cell (j := 0) rfl
             have c1 := HKx.out.cell (j := 1) rfl
             have c2 := HKx.out.cell (j := 2) rfl
             have c3 := HKx.out.cell (j := 3) rfl
             have f0 := HKx.out.free 0
             have f1 := HKx.out.free 1
             have f2 := HKx.out.free 2
             have f3 := HKx.out.free 3
             have e0 := HNx.out.cell (j := 0) rfl
             have e1 := HNx.out.cell (j := 1) rfl
             have e2 := HNx.out.cell (j := 2) rfl
             have e3 := HNx.out.cell (j := 3) rfl
             go_wp2_with fail
             have RZ := Lib.hid (HKx.out.put4P (.slice none 0 0) (.slice none 0 0) (.slice none 0 0) (.slice none 0 0))
             have BZ := Lib.hid (below_put4P HBx.out (Nat.le_refl _) (.slice none 0 0) (.slice none 0 0) (.slice none 0 0) (.slice none 0 0))
             show bodyPost _ _ _ _ _ (put4P w7 b (.slice none 0 0) (.slice none 0 0) (.slice none 0 0) (.slice none 0 0))
             generalize put4P w7 b (.slice none 0 0) (.slice none 0 0) (.slice none 0 0) (.slice none 0 0) = wz at *
             have g0 := RZ.out.cell (j := 0) rfl
             have g1 := RZ.out.cell (j := 1) rfl
             have g2 := RZ.out.cell (j := 2) rfl
             have g3 := RZ.out.cell (j := 3) rfl
             refine bodyPost_ret (v := .tuple #[.agg #[.slice none 0 0, .slice none 0 0, .slice none 0 0, .slice none 0 0], .int .i64 ((q : Int) + 1), .int .i64 3]) (by simp [results, Tryz.results10, go_sem, g0, g1, g2, g3]) rfl ?_
             exact ⟨by rw [HBB.out]; exact BZ.out, [], _, _, _, _, by rw [HEX.out]; rfl, by rw [HEX.out]; exact FileAt.none _ _⟩
            case pos =>
             subst hone
             have HEA := Lib.hid (addP_ph (f := f) (r := (ts, ns)) HPH.out (by have := HTL.out; show ¬ 1 < ts.length; omega))
             have y1 : w7.cell? ⟨k9, 1, none⟩ = some (.slice X2 nl xc2) := HK9.out.cell (j := 1) rfl
             go_wp2_with fail
             refine CT.out.mono ?_
             rintro e w8 ⟨rfl, rfl⟩
             go_wp2_with fail
             go_loopw [21, 111] (fun _ i wz => ∃ (p : Nat) (u1 : Value), p ≤ nl ∧ i = .int .i64 (p : Int) ∧ Hid (RowsAt (b2 + 1) b2 27 (rowsF { f with pho := addAllO f.pho (ns.take p) } L (.slice A5 f.mac.length r5) u1 v2 v3) (L ++ [((X1, xc1), (X2, xc2), ts, ns)]) wz) ∧ Hid (ButLo (b2 + 1) b2 w2 wz)) (fun _ i _ => nl - (intOf i).toNat)
             case atStart => exact ⟨0, v1, by omega, rfl, HR7, HW7⟩
             case round =>
              obtain ⟨p, u1, hpn, rfl, HRj, HBj⟩ := hrel
              by_cases hlt : p < nl
              ·obtain ⟨xx, hx⟩ : ∃ xx, ns[p]? = some xx := ⟨_, List.getElem?_eq_getElem (by rw [HNL.out]; exact hlt)⟩
               obtain ⟨ob, off2, rfl, hc⟩ := Rd.scell (HRj.out.each _ (List.mem_append_right _ (List.mem_singleton_self _))).n hx
               have HTK := Lib.hid (addAllO_take (p := f.pho) hx)
               obtain ⟨A1, c1, hu1⟩ := slice_ofF (HRj.out.own _ (List.mem_cons_of_mem _ (List.mem_cons_self ..)))
               dsimp only at hu1
               subst hu1
               have m1 : wr.cell? ⟨b2, 1, none⟩ = some (.slice A1 (addAllO f.pho (ns.take p)).length c1) := HRj.out.box.cell (j := 1) rfl
               have HPL := Lib.hid (addAllO_len (ns.take p) f.pho)
               have HPL2 : Hid ((addAllO f.pho (ns.take p)).length ≤ 1048596) := Lib.hid (by
                have h1 := HPL.out
                have h2 := HCq.out.1
                simp only [List.length_take] at h1
                omega)
               have CC := Lib.hid (show Calls Tryz.prog 43 #[.slice A1 (addAllO f.pho (ns.take p)).length c1, .string ⟨xx.toArray⟩] wr _ from placeF_any (c := c1) (addAllO f.pho (ns.take p)) xx wr (Rd.own2 (HRj.out.own _ (List.mem_cons_of_mem _ (List.mem_cons_self ..)))) rfl (by have := HPL2.out; omega))
               generalize hP : addAllO f.pho (ns.take p) = P at *
               have HGP := Lib.hid (placeGe (l := P) (s := xx))
               have HLO : Hid (xx ∉ P → placeOf P xx = -1) := Lib.hid placeOf_out
               generalize hbx : (⟨xx.toArray⟩ : ByteArray) = bx at *
               have HBX := Lib.hid hbx
               obtain ⟨pl, hpl⟩ : ∃ pl, P.length = pl := ⟨_, rfl⟩
               have HPN := Lib.hid hpl
               rw [hpl] at m1 CC HPL2 HRj
               have j0 : (0 : Int) ≤ (p : Int) := by omega
               have j1 : (p : Int) < (nl : Int) := by omega
               clear hx hbx hP hpl
               by_cases hin : xx ∈ P
               ·have hi : 0 ≤ placeOf P xx := of_decide_eq_true (HGP.out.trans (decide_eq_true hin))
                have HO := Lib.hid (addO_in hin)
                generalize placeOf P xx = P1 at *
                have hi2 : decide (P1 < 0) = false := by simp; omega
                clear hin hi
                go_wp2_with fail
                refine CC.out.mono ?_
                rintro e w8 ⟨rfl, rfl⟩
                go_wp2_with fail
                go_roundw
                case rel => exact ⟨p + 1, _, by omega, by go_num, by rw [HTK.out, HO.out]; exact HRj, HBj⟩
                case measure => simp [intOf]; omega
               ·rw [HLO.out hin] at CC
                have HO := Lib.hid (addO_out hin)
                clear hin
                go_wp2_with fail
                refine CC.out.mono ?_
                rintro e w8 ⟨rfl, rfl⟩
                have HRK : Hid ((rowsF { f with pho := P } L (.slice A5 f.mac.length r5) (.slice A1 pl c1) v2 v3)[1]? = some ⟨9, 1, .slice A1 pl c1, pl, P.map sv⟩) := Lib.hid (by unfold rowsF; simp [HPN.out])
                go_wp2_with (at_builtin; refine wpList_pushF wr _ _ HRj.out 1 elStrF A1 pl c1 (P.map sv) HRK.out #[.string bx] rfl (by simp [Value.oneCell']) (by have := HPL2.out; omega) (by have := HPL2.out; omega) (N := []) (by simp) rfl rfl rfl rfl ?_; intro g c' w9 hb3 hr3 hw3; have n1 := hb3.cell (j := 1) rfl; have n2 := hb3.free 1; have HR3 := Lib.hid hr3; have HW3 := Lib.hid hw3; clear hr3 hw3 hb3)
                go_roundw
                case rel => exact ⟨p + 1, .slice (some ⟨g, 0, none⟩) (pl + 1) c', by omega, by go_num, Lib.hid (by
                 rw [HTK.out, HO.out]
                 have hh := HR3.out
                 rw [List.append_nil] at hh
                 have e : (rowsF { f with pho := P } L (.slice A5 f.mac.length r5) (.slice A1 pl c1) v2 v3).set 1 ⟨9, 1, .slice (some ⟨g, 0, none⟩) (pl + 1) c', pl + 1, P.map sv ++ [.string bx]⟩ = rowsF { f with pho := P ++ [xx] } L (.slice A5 f.mac.length r5) (.slice (some ⟨g, 0, none⟩) (pl + 1) c') v2 v3 := by
                  unfold rowsF
                  simp [HPN.out, ← HBX.out, sv]
                 rw [← e]
                 exact hh), Lib.hid (HBj.out.trans HW3.out)⟩
                case measure => simp [intOf]; omega
              ·obtain rfl : p = nl := by omega
               have HTA : Hid (addAllO f.pho ns = addAllO f.pho (ns.take p)) := Lib.hid (by rw [List.take_of_length_le (by have := HNL.out; omega)])
               obtain ⟨A1, c1, hu1⟩ := slice_ofF (HRj.out.own _ (List.mem_cons_of_mem _ (List.mem_cons_self ..)))
               dsimp only at hu1
               subst hu1
               have m1 : wr.cell? ⟨b2, 1, none⟩ = some (.slice A1 (addAllO f.pho (ns.take p)).length c1) := HRj.out.box.cell (j := 1) rfl
               generalize addAllO f.pho (ns.take p) = P at *
               by_cases h20 : 20 < P.length
               ·have q1 : decide ((20 : Int) < (P.length : Int)) = true := by simp; omega
                have HEX : Hid (fileP l = (2, q + 1, emptyF)) := Lib.hid (by rw [HS3.out, HEA.out, HTA.out]; dsimp only; rw [if_pos h20]; rfl)
                clear h20
                have HBx := Lib.hid (ButLo.toBelow HB2.out HBj.out (by omega) (by omega))
                have HKx := Lib.hid (HK2.out.butLo HBj.out (by omega) (by omega))
                have HNx := Lib.hid (HE2.out.butLo HBj.out (by omega) (by omega))
                have c0 := HKx.out.cell (j := 0) rfl
                have c1 := HKx.out.cell (j := 1) rfl
                have c2 := HKx.out.cell (j := 2) rfl
                have c3 := HKx.out.cell (j := 3) rfl
                have f0 := HKx.out.free 0
                have f1 := HKx.out.free 1
                have f2 := HKx.out.free 2
                have f3 := HKx.out.free 3
                have e0 := HNx.out.cell (j := 0) rfl
                have e1 := HNx.out.cell (j := 1) rfl
                have e2 := HNx.out.cell (j := 2) rfl
                have e3 := HNx.out.cell (j := 3) rfl
                go_wp2_with fail
                have RZ := Lib.hid (HKx.out.put4P (.slice none 0 0) (.slice none 0 0) (.slice none 0 0) (.slice none 0 0))
                have BZ := Lib.hid (below_put4P HBx.out (Nat.le_refl _) (.slice none 0 0) (.slice none 0 0) (.slice none 0 0) (.slice none 0 0))
                show bodyPost _ _ _ _ _ (put4P wr b (.slice none 0 0) (.slice none 0 0) (.slice none 0 0) (.slice none 0 0))
                generalize put4P wr b (.slice none 0 0) (.slice none 0 0) (.slice none 0 0) (.slice none 0 0) = wz at *
                have g0 := RZ.out.cell (j := 0) rfl
                have g1 := RZ.out.cell (j := 1) rfl
                have g2 := RZ.out.cell (j := 2) rfl
                have g3 := RZ.out.cell (j := 3) rfl
                refine bodyPost_ret (v := .tuple #[.agg #[.slice none 0 0, .slice none 0 0, .slice none 0 0, .slice none 0 0], .int .i64 ((q : Int) + 1), .int .i64 2]) (by simp [results, Tryz.results10, go_sem, g0, g1, g2, g3]) rfl ?_
                exact ⟨by rw [HBB.out]; exact BZ.out, [], _, _, _, _, by rw [HEX.out]; rfl, by rw [HEX.out]; exact FileAt.none _ _⟩
               ·have q1 : decide ((20 : Int) < (P.length : Int)) = false := by simp; omega
                have HA2 : Hid (addP f (ts, ns) = (0, { f with pho := P })) := Lib.hid (by rw [HEA.out, HTA.out, if_neg h20])
                have HKP2 := Lib.hid (HKP.out (by rw [HA2.out]))
                have HNX : Hid (fileP l = parseFrom M (q + 1) { f with pho := P } (l.drop (q + 1))) := Lib.hid (by rw [HS3.out, HA2.out]; rfl)
                rw [HA2.out] at HKP2 HMC
                clear h20
                go_wp2_with fail
                go_roundw
                case rel => exact ⟨q + 1, { f with pho := P }, L, _, _, v2, v3, by omega, by go_num, Lib.hid (HRj.out.sub (fun y hy => List.mem_append_left _ hy)), HLq, HBj, HMC, HKP2, HNX, HFq⟩
                case measure => simp [intOf]; omega
           ·have hge : decide (0 ≤ P0) = false := by rw [HGE.out]; exact decide_eq_false hph
            have HPH := Lib.hid hph
            clear hph
            obtain ⟨tb, tq, rfl, hc0⟩ := Rd.scell HX7.out.t HT0.out
            simp only [Nat.add_zero] at hc0
            have HPR := Lib.hid (show Calls Tryz.prog 44 #[.string ⟨t0.toArray⟩] w7 (PairPost t0 w7) from rPair_any t0 (by have := HT0L.out; omega) w7)
            have HHD : Hid ((ts, ns).1.headD [] = t0) := Lib.hid (by
             have ht0 := HT0.out
             cases hh : ts with
             | nil => rw [hh] at ht0; cases ht0
             | cons a l => rw [hh] at ht0; injection ht0)
            generalize (⟨t0.toArray⟩ : ByteArray) = bt at *
            go_wp2_with fail
            refine CT.out.mono ?_
            rintro e w8 ⟨rfl, rfl⟩
            go_wp2_with fail
            refine HPR.out.mono ?_
            rintro e w8 ⟨hb8, pa, pb, hab, rfl⟩
            have HAB := Lib.hid hab
            have HR8 := Lib.hid (HR7.out.below hb8)
            have HW8 := Lib.hid (HW7.out.below hb8 HR7.out.top)
            have HK8 := Lib.hid (HK9.out.below hb8 HK9.out.lt)
            obtain ⟨ba, hba⟩ : ∃ ba, sv pa = .string ba := ⟨_, rfl⟩
            obtain ⟨bb, hbb⟩ : ∃ bb, sv pb = .string bb := ⟨_, rfl⟩
            rw [hba, hbb]
            have HBA := Lib.hid hba
            have HBX := Lib.hid hbb
            have hb9 := below_new (Below.refl w8.heap.size w8) (.cells #[.string ba, .string bb] 85)
            have HR9 := Lib.hid (HR8.out.below hb9)
            have HW9 := Lib.hid (HW8.out.below hb9 HR8.out.top)
            have HK10 := Lib.hid (HK8.out.below hb9 HK8.out.lt)
            have HI10 := Lib.hid (Blk.new w8 #[.string ba, .string bb] 85)
            clear hb8 hab hba hbb hb9 HR7 HW7 HK9 HX7 HR8 HW8 HK8 y0 hc0
            go_upto_region 38 with fail
            generalize w8.alloc (.cells #[.string ba, .string bb] 85) = w9 at *
            generalize w8.heap.size = k10 at *
            have y0 : w9.cell? ⟨k9, 0, none⟩ = some (.slice (some ⟨tb, tq, none⟩) tl xc1) := HK10.out.cell (j := 0) rfl
            have y1 : w9.cell? ⟨k9, 1, none⟩ = some (.slice X2 nl xc2) := HK10.out.cell (j := 1) rfl
            by_cases hcase : (∃ p, pairP t0 = some p) ∧ tl = 1 ∧ nl = 0
            ·obtain ⟨⟨p, hp⟩, rfl, rfl⟩ := hcase
             have hpp : (pa, pb) = p := by have := HAB.out; rw [hp] at this; exact this
             have HEA := Lib.hid (addP_inf (f := f) (r := (ts, ns)) HPH.out (by rw [HHD.out]; exact hp) ⟨HTL.out, HNL.out⟩)
             subst hpp
             rw [hp, Option.isSome_some]
             clear hp
             obtain ⟨A2, c2, hv2⟩ := slice_ofF (HR9.out.own ⟨85, 2, v2, f.inf.length, macV f.inf⟩ (by unfold rowsF; simp))
             dsimp only at hv2
             subst hv2
             have HRD := Lib.hid (Rd.own2 (HR9.out.own ⟨85, 2, .slice A2 f.inf.length c2, f.inf.length, macV f.inf⟩ (by unfold rowsF; simp)))
             obtain ⟨n2, hn2⟩ : ∃ n2, f.inf.length = n2 := ⟨_, rfl⟩
             have HN2 := Lib.hid hn2
             rw [hn2] at HR9
             have m2 : w9.cell? ⟨b2, 2, none⟩ = some (.slice A2 n2 c2) := HR9.out.box.cell (j := 2) rfl
             have hn2b : n2 ≤ 200 := by have := HCq.out.2.2; omega
             clear hn2
             go_wp2_with fail
             go_loopw [24, 158] (fun th i wz => ∃ p : Nat, p ≤ n2 ∧ i = .int .i64 (p : Int) ∧ th = .bool (inI (f.inf.take p) (pa, pb)) ∧ Hid (Below w9.heap.size w9 wz)) (fun _ i _ => n2 - (intOf i).toNat)
             case atStart => exact ⟨0, by omega, rfl, by simp [inI], Lib.hid (Below.refl _ _)⟩
             case round =>
              obtain ⟨p, hpn, rfl, rfl, HBw⟩ := hrel
              by_cases hlt : p < n2
              ·obtain ⟨y, hy⟩ : ∃ y, f.inf[p]? = some y := ⟨_, List.getElem?_eq_getElem (by rw [HN2.out]; exact hlt)⟩
               obtain ⟨ob, off2, rfl, e1, e2⟩ := (HRD.out.below HBw.out).macs hy
               have HY := Lib.hid hy
               have HTK : Hid (inI (f.inf.take (p + 1)) (pa, pb) = (inI (f.inf.take p) (pa, pb) || decide ((pa, pb) = y))) := Lib.hid (by
                rw [List.take_add_one, hy]
                unfold inI
                simp only [List.mem_append, Option.toList_some, List.mem_singleton, Bool.decide_or])
               obtain ⟨ya, yb⟩ := y
               dsimp only at e1 e2
               unfold sv at e1 e2
               have hq := eq_sv pa ya
               have hp := eq_sv pb yb
               have hbA : (⟨pa.toArray⟩ : ByteArray) = ba := by have := HBA.out; unfold sv at this; injection this
               have hbB : (⟨pb.toArray⟩ : ByteArray) = bb := by have := HBX.out; unfold sv at this; injection this
               rw [hbA] at hq
               rw [hbB] at hp
               generalize (⟨ya.toArray⟩ : ByteArray) = bya at e1 hq
               generalize (⟨yb.toArray⟩ : ByteArray) = byb at e2 hp
               have k0 : (0 : Int) ≤ (p : Int) := by omega
               have k1 : (p : Int) < (n2 : Int) := by omega
               have hb5 := below_new (Below.refl wr.heap.size wr) (.cells #[.string bya, .string byb] 85)
               have HB5 := Lib.hid (below_then HBw.out hb5)
               have HI5 := Lib.hid (Blk.new wr #[.string bya, .string byb] 85)
               have HI6 := Lib.hid (HI10.out.below HB5.out HI10.out.lt)
               clear hy hbA hbB hb5 y0 y1
               go_upto_region 43 with fail
               generalize wr.alloc (.cells #[.string bya, .string byb] 85) = w12 at *
               generalize wr.heap.size = k12 at *
               have d0 := HI6.out.cell (j := 0) rfl
               have d1 := HI6.out.cell (j := 1) rfl
               have d2 := HI5.out.cell (j := 0) rfl
               have d3 := HI5.out.cell (j := 1) rfl
               cases hth : inI (f.inf.take p) (pa, pb) with
               | true =>
                 rw [hth] at HTK
                 clear hth hq hp
                 go_wp2_with fail
                 go_roundw
                 case rel => exact ⟨p + 1, by omega, by go_num, by rw [HTK.out]; rfl, HB5⟩
                 case measure => simp [intOf]; omega
               | false =>
                 rw [hth] at HTK
                 clear hth
                 by_cases he : pa = ya
                 ·have g1 : (ba.toList == bya.toList) = true := by rw [hq]; simp [he]
                  by_cases he2 : pb = yb
                  ·have g2 : (bb.toList == byb.toList) = true := by rw [hp]; simp [he2]
                   have HE : Hid (decide ((pa, pb) = (ya, yb)) = true) := Lib.hid (decide_eq_true (by rw [he, he2]))
                   clear he he2 hq hp
                   go_wp2_with fail
                   go_roundw
                   case rel => exact ⟨p + 1, by omega, by go_num, by rw [HTK.out, HE.out]; rfl, HB5⟩
                   case measure => simp [intOf]; omega
                  ·have g2 : (bb.toList == byb.toList) = false := by rw [hp]; simp [he2]
                   have HE : Hid (decide ((pa, pb) = (ya, yb)) = false) := Lib.hid (decide_eq_false (fun e => he2 (by injection e)))
                   clear he he2 hq hp
                   go_wp2_with fail
                   go_roundw
                   case rel => exact ⟨p + 1, by omega, by go_num, by rw [HTK.out, HE.out]; rfl, HB5⟩
                   case measure => simp [intOf]; omega
                 ·have g1 : (ba.toList == bya.toList) = false := by rw [hq]; simp [he]
                  have HE : Hid (decide ((pa, pb) = (ya, yb)) = false) := Lib.hid (decide_eq_false (fun e => he (by injection e)))
                  clear he hq hp
                  go_wp2_with fail
                  go_roundw
                  case rel => exact ⟨p + 1, by omega, by go_num, by rw [HTK.out, HE.out]; rfl, HB5⟩
                  case measure => simp [intOf]; omega
              ·obtain rfl : p = n2 := by omega
               have HTI : Hid (f.inf.take p = f.inf) := Lib.hid (List.take_of_length_le (by rw [HN2.out]; exact Nat.le_refl _))
               rw [HTI.out]
               have HR10 := Lib.hid (HR9.out.below HBw.out)
               have HW10 := Lib.hid (HW9.out.below HBw.out HR9.out.top)
               have HI6 := Lib.hid (HI10.out.below HBw.out HI10.out.lt)
               clear y0 y1 m2
               by_cases hin : (pa, pb) ∈ f.inf
               ·have hi : inI f.inf (pa, pb) = true := decide_eq_true hin
                have HA2 : Hid (addP f (ts, ns) = (0, f)) := Lib.hid (by rw [HEA.out, if_pos hin])
                have HKP2 := Lib.hid (HKP.out (by rw [HA2.out]))
                have HNX : Hid (fileP l = parseFrom M (q + 1) f (l.drop (q + 1))) := Lib.hid (by rw [HS3.out, HA2.out]; rfl)
                rw [HA2.out] at HKP2 HMC
                rw [hi]
                clear hi hin
                go_wp2_with fail
                go_roundw
                case rel => exact ⟨q + 1, f, L, _, v1, _, v3, by omega, by go_num, Lib.hid (by rw [HN2.out] at *; exact HR10.out.sub (fun y hy => List.mem_append_left _ hy)), HLq, HW10, HMC, HKP2, HNX, HFq⟩
                case measure => simp [intOf]; omega
               ·have hi : inI f.inf (pa, pb) = false := decide_eq_false hin
                have HA2 : Hid (addP f (ts, ns) = (0, { f with inf := f.inf ++ [(pa, pb)] })) := Lib.hid (by rw [HEA.out, if_neg hin])
                have HKP2 := Lib.hid (HKP.out (by rw [HA2.out]))
                have HNX : Hid (fileP l = parseFrom M (q + 1) { f with inf := f.inf ++ [(pa, pb)] } (l.drop (q + 1))) := Lib.hid (by rw [HS3.out, HA2.out]; rfl)
                rw [HA2.out] at HKP2 HMC
                rw [hi]
                clear hi hin
                have m2 : wr.cell? ⟨b2, 2, none⟩ = some (.slice A2 p c2) := HR10.out.box.cell (j := 2) rfl
                have d0 := HI6.out.cell (j := 0) rfl
                have d1 := HI6.out.cell (j := 1) rfl
                have HRK : Hid ((rowsF f L (.slice A5 f.mac.length r5) v1 (.slice A2 p c2) v3)[2]? = some ⟨85, 2, .slice A2 p c2, p, macV f.inf⟩) := Lib.hid (by unfold rowsF; simp [HN2.out])
                go_wp2_with (at_builtin; refine wpList_pushF wr _ _ HR10.out 2 elInfF A2 p c2 (macV f.inf) HRK.out #[.string ba, .string bb] rfl (by intro u hu; simp at hu; rcases hu with rfl | rfl <;> rfl) (by omega) (by omega) (N := []) (by simp) rfl rfl rfl rfl ?_; intro g c' w13 hb3 hr3 hw3; have n1 := hb3.cell (j := 2) rfl; have n2 := hb3.free 2; have HR3 := Lib.hid hr3; have HW3 := Lib.hid hw3; clear hr3 hw3 hb3)
                go_roundw
                case rel => exact ⟨q + 1, { f with inf := f.inf ++ [(pa, pb)] }, L, _, v1, .slice (some ⟨g, 0, none⟩) (p + 1) c', v3, by omega, by go_num, Lib.hid (by
                 have hh := HR3.out
                 rw [List.append_nil] at hh
                 rw [← rowsF_inf (A := A2) (c := c2) HN2.out (u1 := .string ba) (u2 := .string bb) HBA.out HBX.out]
                 exact hh.sub (fun y hy => List.mem_append_left _ hy)), HLq, Lib.hid (HW10.out.trans HW3.out), HMC, HKP2, HNX, HFq⟩
                case measure => simp [intOf]; omega
            ·have HEA := Lib.hid (addP_rule (f := f) (r := (ts, ns)) HPH.out (by
              rw [HHD.out]
              cases hp : pairP t0 with
              | none => exact .inl rfl
              | some p => exact .inr (fun hl => hcase ⟨⟨p, hp⟩, by rw [← HTL.out]; exact hl.1, by rw [← HNL.out]; exact hl.2⟩)))
             have hcs : (pairP t0).isSome = false ∨ ((pairP t0).isSome = true ∧ ((tl : Int) == 1) = false) ∨ ((pairP t0).isSome = true ∧ ((tl : Int) == 1) = true ∧ ((nl : Int) == 0) = false) := by
              cases hp : pairP t0 with
              | none => exact .inl rfl
              | some p =>
                right
                by_cases h1 : tl = 1
                ·exact .inr ⟨rfl, by simp [h1], by simp; intro h2; exact hcase ⟨⟨p, hp⟩, h1, by omega⟩⟩
                ·exact .inl ⟨rfl, by simp; omega⟩
             clear hcase
             obtain ⟨A3, c3, hv3⟩ := slice_ofF (HR9.out.own ⟨78, 2, v3, L.length, rsV L⟩ (by unfold rowsF; simp))
             dsimp only at hv3
             subst hv3
             have HLE : Hid (L.length = f.rul.length) := Lib.hid (by rw [← HLq.out]; unfold rulesOf; simp)
             obtain ⟨n3, hn3⟩ : ∃ n3, L.length = n3 := ⟨_, rfl⟩
             have HN3 := Lib.hid hn3
             rw [hn3] at HLE HR9
             have m3 : w9.cell? ⟨b2, 3, none⟩ = some (.slice A3 n3 c3) := HR9.out.box.cell (j := 3) rfl
             have hn100 : n3 ≤ 100 := by rw [HLE.out]; exact HCq.out.2.1
             have HRK : Hid ((rowsF f L (.slice A5 f.mac.length r5) v1 v2 (.slice A3 n3 c3))[3]? = some ⟨78, 2, .slice A3 n3 c3, n3, rsV L⟩) := Lib.hid (by unfold rowsF; simp [HN3.out])
             have HRU : Hid (rulesOf (L ++ [((some ⟨tb, tq, none⟩, xc1), (X2, xc2), ts, ns)]) = f.rul ++ [(ts, ns)]) := Lib.hid (by rw [← HLq.out]; unfold rulesOf; simp)
             clear hn3
             generalize (pairP t0).isSome = ps at *
             rcases hcs with rfl | ⟨rfl, q1⟩ | ⟨rfl, q1, q2⟩
             all_goals
              go_upto_region 48 with (at_builtin; refine wpList_pushF w9 _ _ HR9.out 3 elRulF A3 n3 c3 (rsV L) HRK.out #[.slice (some ⟨tb, tq, none⟩) tl xc1, .slice X2 nl xc2] rfl (by intro u hu; simp at hu; rcases hu with rfl | rfl <;> rfl) (by omega) (by omega) (N := []) (by simp) rfl rfl rfl rfl ?_; intro g c' w13 hb3 hr3 hw3; have n1 := hb3.cell (j := 3) rfl; have n2 := hb3.free 3; have HR3 := Lib.hid hr3; have HW3 := Lib.hid hw3; clear hr3 hw3 hb3)
              have HQ : Hid (RowsAt (b2 + 1) b2 27 (rowsF { f with rul := f.rul ++ [(ts, ns)] } (L ++ [((some ⟨tb, tq, none⟩, xc1), (X2, xc2), ts, ns)]) (.slice A5 f.mac.length r5) v1 v2 (.slice (some ⟨g, 0, none⟩) (n3 + 1) c')) (L ++ [((some ⟨tb, tq, none⟩, xc1), (X2, xc2), ts, ns)]) (w13.setCell ⟨b2, 3, none⟩ (.slice (some ⟨g, 0, none⟩) (n3 + 1) c'))) := Lib.hid (by
               have hh := HR3.out
               rw [List.append_nil] at hh
               rw [← rowsF_rule (A := A3) (c := c3) HN3.out (u1 := .slice (some ⟨tb, tq, none⟩) tl xc1) (u2 := .slice X2 nl xc2) (by unfold rsT; rw [← HTL.out]) (by unfold rsN; rw [← HNL.out])]
               exact hh)
              have HWQ := Lib.hid (HW9.out.trans HW3.out)
              clear n1 n2 m3 y0 y1 HR3 HW3
              generalize w13.setCell ⟨b2, 3, none⟩ (.slice (some ⟨g, 0, none⟩) (n3 + 1) c') = w14 at *
              have z3 : w14.cell? ⟨b2, 3, none⟩ = some (.slice (some ⟨g, 0, none⟩) (n3 + 1) c') := HQ.out.box.cell (j := 3) rfl
              have HN4 : Hid (f.rul.length + 1 = n3 + 1) := Lib.hid (by rw [← HLE.out])
              by_cases h100 : 100 < n3 + 1
              ·have p1 : decide ((100 : Int) < (n3 : Int) + 1) = true := by simp; omega
               have HEX : Hid (fileP l = (2, q + 1, emptyF)) := Lib.hid (by rw [HS3.out, HEA.out]; dsimp only; rw [HN4.out, if_pos h100]; rfl)
               clear h100
               have HBx := Lib.hid (ButLo.toBelow HB2.out HWQ.out (by omega) (by omega))
               have HKx := Lib.hid (HK2.out.butLo HWQ.out (by omega) (by omega))
               have HNx := Lib.hid (HE2.out.butLo HWQ.out (by omega) (by omega))
               have c0 := HKx.out.cell (j := 0) rfl
               have c1 := HKx.out.cell (j := 1) rfl
               have c2 := HKx.out.cell (j := 2) rfl
               have c3 := HKx.out.cell (j := 3) rfl
               have f0 := HKx.out.free 0
               have f1 := HKx.out.free 1
               have f2 := HKx.out.free 2
               have f3 := HKx.out.free 3
               have e0 := HNx.out.cell (j := 0) rfl
               have e1 := HNx.out.cell (j := 1) rfl
               have e2 := HNx.out.cell (j := 2) rfl
               have e3 := HNx.out.cell (j := 3) rfl
               go_wp2_with fail
               have RZ := Lib.hid (HKx.out.put4P (.slice none 0 0) (.slice none 0 0) (.slice none 0 0) (.slice none 0 0))
               have BZ := Lib.hid (below_put4P HBx.out (Nat.le_refl _) (.slice none 0 0) (.slice none 0 0) (.slice none 0 0) (.slice none 0 0))
               show bodyPost _ _ _ _ _ (put4P w14 b (.slice none 0 0) (.slice none 0 0) (.slice none 0 0) (.slice none 0 0))
               generalize put4P w14 b (.slice none 0 0) (.slice none 0 0) (.slice none 0 0) (.slice none 0 0) = wz at *
               have g0 := RZ.out.cell (j := 0) rfl
               have g1 := RZ.out.cell (j := 1) rfl
               have g2 := RZ.out.cell (j := 2) rfl
               have g3 := RZ.out.cell (j := 3) rfl
               refine bodyPost_ret (v := .tuple #[.agg #[.slice none 0 0, .slice none 0 0, .slice none 0 0, .slice none 0 0], .int .i64 ((q : Int) + 1), .int .i64 2]) (by simp [results, Tryz.results10, go_sem, g0, g1, g2, g3]) rfl ?_
               exact ⟨by rw [HBB.out]; exact BZ.out, [], _, _, _, _, by rw [HEX.out]; rfl, by rw [HEX.out]; exact FileAt.none _ _⟩
              ·have p1 : decide ((100 : Int) < (n3 : Int) + 1) = false := by simp; omega
               have HA2 : Hid (addP f (ts, ns) = (0, { f with rul := f.rul ++ [(ts, ns)] })) := Lib.hid (by rw [HEA.out, HN4.out, if_neg h100])
               have HKP2 := Lib.hid (HKP.out (by rw [HA2.out]))
               have HNX : Hid (fileP l = parseFrom M (q + 1) { f with rul := f.rul ++ [(ts, ns)] } (l.drop (q + 1))) := Lib.hid (by rw [HS3.out, HA2.out]; rfl)
               rw [HA2.out] at HKP2 HMC
               have HFX : Hid (∀ y ∈ L ++ [((some ⟨tb, tq, none⟩, xc1), (X2, xc2), ts, ns)], farS y (some b)) := Lib.hid (fun y hy => by
                rcases List.mem_append.1 hy with h | h
                ·exact HFq.out y h
                ·rw [List.mem_singleton.1 h]; exact HFb.out)
               clear h100
               go_wp2_with fail
               go_roundw
               case rel => exact ⟨q + 1, { f with rul := f.rul ++ [(ts, ns)] }, L ++ [((some ⟨tb, tq, none⟩, xc1), (X2, xc2), ts, ns)], _, v1, v2, _, by omega, by go_num, HQ, HRU, HWQ, HMC, HKP2, HNX, HFX⟩
               case measure => simp [intOf]; omega
          ·obtain ⟨A6, c6, A7, c7, rfl, _, _, hb6, _⟩ := hpg
           have HEX : Hid (fileP l = ((parseR TX).1, q + 1, emptyF)) := Lib.hid (by rw [HS2.out, if_pos hp0])
           have HW6 := Lib.hid (HW5.out.below hb6 HR5.out.top)
           have hb7 := below_new (Below.refl w6.heap.size w6) (.cells #[.slice A6 (parseR TX).2.1.length c6, .slice A7 (parseR TX).2.2.length c7] 78)
           have HW7 := Lib.hid (HW6.out.below hb7 (Nat.le_trans HR5.out.top hb6.size))
           have HB7 := Lib.hid (ButLo.toBelow HB2.out HW7.out (by omega) (by omega))
           have HK7 := Lib.hid (HK2.out.butLo HW7.out (by omega) (by omega))
           have HN7 := Lib.hid (HE2.out.butLo HW7.out (by omega) (by omega))
           have p2 : ((((parseR TX).1 : Nat) : Int) != 0) = true := by simp; omega
           clear hb6 hb7
           unfold rlV
           go_upto_region 24 with fail
           generalize w6.alloc (.cells #[.slice A6 (parseR TX).2.1.length c6, .slice A7 (parseR TX).2.2.length c7] 78) = w7 at *
           generalize (parseR TX).1 = E1 at *
           clear hp0
           have c0 := HK7.out.cell (j := 0) rfl
           have c1 := HK7.out.cell (j := 1) rfl
           have c2 := HK7.out.cell (j := 2) rfl
           have c3 := HK7.out.cell (j := 3) rfl
           have f0 := HK7.out.free 0
           have f1 := HK7.out.free 1
           have f2 := HK7.out.free 2
           have f3 := HK7.out.free 3
           have e0 := HN7.out.cell (j := 0) rfl
           have e1 := HN7.out.cell (j := 1) rfl
           have e2 := HN7.out.cell (j := 2) rfl
           have e3 := HN7.out.cell (j := 3) rfl
           go_wp2_with fail
           have RZ := Lib.hid (HK7.out.put4P (.slice none 0 0) (.slice none 0 0) (.slice none 0 0) (.slice none 0 0))
           have BZ := Lib.hid (below_put4P HB7.out (Nat.le_refl _) (.slice none 0 0) (.slice none 0 0) (.slice none 0 0) (.slice none 0 0))
           show bodyPost _ _ _ _ _ (put4P w7 b (.slice none 0 0) (.slice none 0 0) (.slice none 0 0) (.slice none 0 0))
           generalize put4P w7 b (.slice none 0 0) (.slice none 0 0) (.slice none 0 0) (.slice none 0 0) = wz at *
           have g0 := RZ.out.cell (j := 0) rfl
           have g1 := RZ.out.cell (j := 1) rfl
           have g2 := RZ.out.cell (j := 2) rfl
           have g3 := RZ.out.cell (j := 3) rfl
           refine bodyPost_ret (v := .tuple #[.agg #[.slice none 0 0, .slice none 0 0, .slice none 0 0, .slice none 0 0], .int .i64 ((q : Int) + 1), .int .i64 (E1 : Int)]) (by simp [results, Tryz.results10, go_sem, g0, g1, g2, g3]) rfl ?_
           exact ⟨by rw [HBB.out]; exact BZ.out, [], _, _, _, _, by rw [HEX.out]; rfl, by rw [HEX.out]; exact FileAt.none _ _⟩
      ·obtain rfl : q = j := by omega
       have HE3 : Hid (fileP l = (0, 0, f)) := Lib.hid (by rw [HEq.out, List.drop_of_length_le (by have := HN.out; omega), parseFrom])
       have HKq := Lib.hid (HK2.out.butLo HBq.out (by omega) (by omega))
       have c0 := HKq.out.cell (j := 0) rfl
       have c1 := HKq.out.cell (j := 1) rfl
       have c2 := HKq.out.cell (j := 2) rfl
       have c3 := HKq.out.cell (j := 3) rfl
       have f0 := HKq.out.free 0
       have f1 := HKq.out.free 1
       have f2 := HKq.out.free 2
       have f3 := HKq.out.free 3
       have d0 : wr.cell? ⟨b2, 0, none⟩ = some v0 := HRq.out.box.cell (j := 0) rfl
       have d1 : wr.cell? ⟨b2, 1, none⟩ = some v1 := HRq.out.box.cell (j := 1) rfl
       have d2 : wr.cell? ⟨b2, 2, none⟩ = some v2 := HRq.out.box.cell (j := 2) rfl
       have d3 : wr.cell? ⟨b2, 3, none⟩ = some v3 := HRq.out.box.cell (j := 3) rfl
       have RZ := Lib.hid (HKq.out.put4P v0 v1 v2 v3)
       have BZ := Lib.hid (below_put4P HBLq.out (Nat.le_refl _) v0 v1 v2 v3)
       have FZ := Lib.hid (FileAt.put (b := b) (b' := w.heap.size) HRq.out HLq.out (by omega) HFq.out (by have := HBB.out; omega) v0 v1 v2 v3)
       obtain ⟨A0, r0, hv0⟩ := slice_ofF (HRq.out.own ⟨71, 2, v0, f.mac.length, macV f.mac⟩ (by unfold rowsF; simp))
       obtain ⟨A1, r1, hv1⟩ := slice_ofF (HRq.out.own ⟨9, 1, v1, f.pho.length, f.pho.map sv⟩ (by unfold rowsF; simp))
       obtain ⟨A2, r2, hv2⟩ := slice_ofF (HRq.out.own ⟨85, 2, v2, f.inf.length, macV f.inf⟩ (by unfold rowsF; simp))
       obtain ⟨A3, r3, hv3⟩ := slice_ofF (HRq.out.own ⟨78, 2, v3, L.length, rsV L⟩ (by unfold rowsF; simp))
       dsimp only at hv0 hv1 hv2 hv3
       subst hv0 hv1 hv2 hv3
       go_wp2_with fail
       show bodyPost _ _ _ _ _ (put4P wr b (.slice A0 f.mac.length r0) (.slice A1 f.pho.length r1) (.slice A2 f.inf.length r2) (.slice A3 L.length r3))
       generalize put4P wr b (.slice A0 f.mac.length r0) (.slice A1 f.pho.length r1) (.slice A2 f.inf.length r2) (.slice A3 L.length r3) = wz at *
       have g0 := RZ.out.cell (j := 0) rfl
       have g1 := RZ.out.cell (j := 1) rfl
       have g2 := RZ.out.cell (j := 2) rfl
       have g3 := RZ.out.cell (j := 3) rfl
       refine bodyPost_ret (v := .tuple #[.agg #[.slice A0 f.mac.length r0, .slice A1 f.pho.length r1, .slice A2 f.inf.length r2, .slice A3 L.length r3], .int .i64 0, .int .i64 0]) (by simp [results, Tryz.results10, go_sem, g0, g1, g2, g3]) rfl ?_
       exact ⟨by rw [HBB.out]; exact BZ.out, L, _, _, _, _, by rw [HE3.out]; rfl, by rw [HE3.out]; exact FZ.out⟩
end Go.Proofs.YtoandhhkmkgmaaaGreatDoor
namespace Go.Proofs.YtoandhhkmkgmaaaGreatDoor
open Go.RowKit

section
variable {A0 A1 A2 A3 : Option Addr} {n0 n1 n2 n3 c0 c1 c2 c3 : Nat} (f : FileT) (L : List RSlot) (w : World) (h : FileIn A0 A1 A2 A3 n0 n1 n2 n3 c1 f L w)
include h
set_option maxRecDepth 100000 in
set_option maxHeartbeats 4000000 in
theorem rFileFault_any : Calls Tryz.prog 13 #[.agg #[.slice A0 n0 c0, .slice A1 n1 c1, .slice A2 n2 c2, .slice A3 n3 c3]] w (ChkPost (chkF f) w) := by
 have HF := Lib.hid h
 have HL := Lib.hid (fun W (hW : Below w.heap.size w W) => rFileText_any (c0 := c0) (c1 := c1) (c2 := c2) (c3 := c3) f L W (h.rd.below hW) h.sz h.e0 h.e1 h.e2 h.e3)
 have HB0 := Lib.hid (below_new (Below.refl w.heap.size w) (.cells #[.slice A0 n0 c0, .slice A1 n1 c1, .slice A2 n2 c2, .slice A3 n3 c3] 27))
 have HK0 := Lib.hid (Blk.new w #[.slice A0 n0 c0, .slice A1 n1 c1, .slice A2 n2 c2, .slice A3 n3 c3] 27)
 clear h
 go_enter Tryz.func13, Tryz.ntmps13
 go_upto_region 1 with fail
 generalize w.alloc (.cells #[.slice A0 n0 c0, .slice A1 n1 c1, .slice A2 n2 c2, .slice A3 n3 c3] 27) = w0 at *
 have a0 := HK0.out.cell (j := 0) rfl
 have a1 := HK0.out.cell (j := 1) rfl
 have a2 := HK0.out.cell (j := 2) rfl
 have a3 := HK0.out.cell (j := 3) rfl
 go_wp2_with fail
 refine (HL.out _ HB0.out).mono ?_
 rintro e w1 ⟨A, n, c, rfl, ho⟩
 have HO := Lib.hid ho
 have HB1 := Lib.hid (below_then HB0.out ho.bel)
 have HP := Lib.hid (rFileRead_any (A := A) (n := n) (c := c) (linesP f) w1 (Rd.own2 ho.own) ho.len HF.out.sz.lin)
 clear ho a0 a1 a2 a3
 go_wp2_with fail
 refine HP.out.mono ?_
 rintro e w2 ⟨hb2, M, v0, v1, v2, v3, rfl, hfa⟩
 have HB2 := Lib.hid (below_then HB1.out hb2)
 have HK2 := Lib.hid ((HK0.out.below HO.out.bel HK0.out.lt).below hb2 (HK0.out.below HO.out.bel HK0.out.lt).lt)
 have HSG := Lib.hid (fileP_szl (linesP f))
 obtain ⟨G0, d0, G1, d1, G2, d2, G3, d3, rfl, rfl, rfl, rfl, hrd, _⟩ := hfa.rd
 have HE : Hid (chkF f = if (fileP (linesP f)).1 = 0 ∧ eqF f (fileP (linesP f)).2.2 = false then 3 else (fileP (linesP f)).1) := Lib.hid rfl
 generalize (fileP (linesP f)).2.2 = g at *
 generalize (fileP (linesP f)).1 = E at *
 generalize (fileP (linesP f)).2.1 = ln at *
 have HG := Lib.hid hrd
 clear hrd hb2 hfa
 obtain ⟨m0, hm0⟩ : ∃ m0, g.mac.length = m0 := ⟨_, rfl⟩
 obtain ⟨m1, hm1⟩ : ∃ m1, g.pho.length = m1 := ⟨_, rfl⟩
 obtain ⟨m2, hm2⟩ : ∃ m2, g.inf.length = m2 := ⟨_, rfl⟩
 obtain ⟨m3, hm3⟩ : ∃ m3, M.length = m3 := ⟨_, rfl⟩
 rw [hm0, hm1, hm2, hm3]
 have hb3 := below_new (Below.refl w2.heap.size w2) (.cells #[.slice G0 m0 d0, .slice G1 m1 d1, .slice G2 m2 d2, .slice G3 m3 d3] 27)
 have HB3 := Lib.hid (below_then HB2.out hb3)
 have HK3 := Lib.hid (HK2.out.below hb3 HK2.out.lt)
 have HK4 := Lib.hid (Blk.new w2 #[.slice G0 m0 d0, .slice G1 m1 d1, .slice G2 m2 d2, .slice G3 m3 d3] 27)
 have HS := Lib.hid (rSameFile_any (c0 := c0) (c1 := c1) (c2 := c2) (c3 := c3) (d0 := d0) (d1 := d1) (d2 := d2) (d3 := d3) f g L M (w2.alloc (.cells #[.slice G0 m0 d0, .slice G1 m1 d1, .slice G2 m2 d2, .slice G3 m3 d3] 27)) ⟨HF.out.rd.below HB3.out, HG.out.below hb3, HF.out.sz.szl, HSG.out, HF.out.e0, HF.out.e1, HF.out.e2, HF.out.e3, hm0, hm1, hm2, hm3⟩)
 clear hm0 hm1 hm2 hm3 hb3
 go_upto_region 2 with fail
 generalize w2.alloc (.cells #[.slice G0 m0 d0, .slice G1 m1 d1, .slice G2 m2 d2, .slice G3 m3 d3] 27) = w3 at *
 generalize w2.heap.size = k3 at *
 by_cases hE : E = 0
 ·subst hE
  have a0 := HK3.out.cell (j := 0) rfl
  have a1 := HK3.out.cell (j := 1) rfl
  have a2 := HK3.out.cell (j := 2) rfl
  have a3 := HK3.out.cell (j := 3) rfl
  have b0 := HK4.out.cell (j := 0) rfl
  have b1 := HK4.out.cell (j := 1) rfl
  have b2 := HK4.out.cell (j := 2) rfl
  have b3 := HK4.out.cell (j := 3) rfl
  cases hq : eqF f g with
  | false =>
    rw [hq] at HS HE
    clear hq
    go_wp2_with fail
    refine HS.out.mono ?_
    rintro e w4 ⟨rfl, hb4⟩
    have HB4 := Lib.hid (below_then HB3.out hb4)
    clear hb4
    go_wp2_with fail
    go_ret
    exact ⟨by rw [HE.out]; rfl, HB4.out⟩
  | true =>
    rw [hq] at HS HE
    clear hq
    go_wp2_with fail
    refine HS.out.mono ?_
    rintro e w4 ⟨rfl, hb4⟩
    have HB4 := Lib.hid (below_then HB3.out hb4)
    clear hb4
    go_wp2_with fail
    go_ret
    exact ⟨by rw [HE.out]; rfl, HB4.out⟩
 ·have HE2 : Hid (chkF f = E) := Lib.hid (by rw [HE.out, if_neg (fun h => hE h.1)])
  have p1 : (((E : Nat) : Int) == 0) = false := by simp; omega
  clear hE
  go_wp2_with fail
  go_ret
  exact ⟨by rw [HE2.out]; rfl, HB3.out⟩
end
end Go.Proofs.YtoandhhkmkgmaaaGreatDoor
