/- Contract: the reference's MacroFlat. Values of at most 2^20 bytes. -/
import Derived.Test.YtoandhhkmkgmaaaGreatDoorMg48
import Derived.Test.YtoandhhkmkgmaaaGreatDoorMg30
import Derived.Test.YtoandhhkmkgmaaaGreatDoorMg25
namespace Go.Proofs.YtoandhhkmkgmaaaGreatDoor
open Go.RowKit

theorem elMac : El2 Tryz.prog 23 71 32 := El2.mk' (by kernel_rfl) (z := .agg #[.string ⟨#[]⟩, .string ⟨#[]⟩]) (by kernel_rfl) rfl
theorem bigM_of {l : List MacT} {x : MacT} (h : x ∈ l) (hb : (flM l x.1).1 = true) : bigM l = true := by
 unfold bigM
 rw [List.any_eq_true]
 exact ⟨x, h, hb⟩
theorem flM_short {l : List MacT} (hf : FixM l (flM l)) {n v : List UInt8} (h : (n, v) ∈ l) : (flM l n).2.length ≤ 2000 := by rw [hf n v h]; exact flatP_short _ _
theorem placeGe {l : List (List UInt8)} {s : List UInt8} : decide (0 ≤ placeOf l s) = inL l s := by
 unfold inL
 by_cases h : s ∈ l
 ·obtain ⟨k, h1, _⟩ := placeOf_in h
  rw [h1]
  simp [h]
 ·rw [placeOf_out h]
  simp [h]
theorem DoneM.short {l : List MacT} {D : List MacT} (h : DoneM l (flM l) D) (hf : FixM l (flM l)) : ∀ m ∈ D, m.2.length ≤ 1048640 := fun m hm => by
 obtain ⟨h1, h2⟩ := h.mem m hm
 obtain ⟨⟨a, v⟩, hv, he⟩ := List.mem_map.1 h1
 have := flM_short hf (n := m.1) (v := v) (by rw [← he]; exact hv)
 rw [h2] at this
 simp only [] at this
 omega
theorem all_small {l : List MacT} {D : List MacT} (h : DoneM l (flM l) D) (hl : l.length ≤ D.length) : bigM l = false := by
 unfold bigM
 rw [List.any_eq_false]
 intro x hx
 obtain ⟨m, hm, he⟩ := List.mem_map.1 (done_all h hl x.1 (List.mem_map.2 ⟨x, hx, rfl⟩))
 rw [← he, (h.mem m hm).2]
 simp
theorem lookD_fl {l : List MacT} {D : List MacT} (h : DoneM l (flM l) D) {n : List UInt8} {j : Nat} (hj : (namesL D)[j]? = some n) : D[j]? = some (n, (flM l n).2) := by
 obtain ⟨v, hv⟩ := names_of hj
 have := (h.mem _ (List.mem_of_getElem? hv)).2
 simp only [] at this
 rw [hv, this]
theorem callsF_short : ∀ (f : Nat) (s : List UInt8) (cs : List PieceM), callsF f s = some cs → ∀ p ∈ cs, p.2.length ≤ s.length + 1
 | 0, _, _, h, _, _ => by cases h
 | f + 1, [], cs, h, p, hp => by
   unfold callsF at h
   injection h with h
   subst h
   cases hp
 | f + 1, b :: r, cs, h, p, hp => by
   have ht := trimP_len r [36]
   have hc := cut_len r 41
   have hg := trimP_len (Lib.cut r [41]).1 [40]
   unfold callsF at h
   rw [List.length_cons]
   split at h
   ·split at h
    ·obtain ⟨cs', h1, h2⟩ := Option.map_eq_some_iff.1 h
     subst h2
     rcases List.mem_cons.1 hp with rfl | hp
     ·simp
     ·have := callsF_short f _ cs' h1 p hp
      omega
    ·split at h
     ·obtain ⟨cs', h1, h2⟩ := Option.map_eq_some_iff.1 h
      subst h2
      rcases List.mem_cons.1 hp with rfl | hp
      ·simp only []
       omega
      ·have := callsF_short f _ cs' h1 p hp
       omega
     ·cases h
   ·obtain ⟨cs', h1, h2⟩ := Option.map_eq_some_iff.1 h
    subst h2
    rcases List.mem_cons.1 hp with rfl | hp
    ·simp
    ·have := callsF_short f _ cs' h1 p hp
     omega
theorem calls_short {s : List UInt8} {cs : List PieceM} (h : callsR s = some cs) (hl : s.length ≤ 1048639) : ∀ p ∈ cs, p.2.length ≤ 1048640 := fun p hp => by
 have := callsF_short _ s cs h p hp
 omega
def RFlatPost (l : List MacT) (w : World) (e : Ending) (w' : World) : Prop :=
 Below w.heap.size w w' ∧ ((flatsE l ≠ 0 ∧ e = .returned (.tuple #[.slice none 0 0, .int .i64 (flatsE l : Nat)])) ∨ (flatsE l = 0 ∧ macE l = 0 ∧ bigM l = false ∧ ∃ A c, e = .returned (.tuple #[.slice A l.length c, .int .i64 0]) ∧ w'.ownsRow w.heap.size 71 2 (.slice A l.length c) l.length (macV (flatL l))))
set_option maxRecDepth 100000 in
set_option maxHeartbeats 8000000 in
theorem rFlat_any {A : Option Addr} {n c : Nat} (l : List MacT) (w : World) (hr : Rd w A (macV l)) (hn : l.length = n) (hb : n ≤ 9223372036854775807) (hs : ∀ x ∈ l, x.1.length ≤ 9223372036854775807 ∧ x.2.length ≤ 1048639) :
 Calls Tryz.prog 40 #[.slice A n c] w (RFlatPost l w) := by
 have HFA := Lib.hid (rFault_anyM (c := c) l w hr hn hb (fun x hx => ⟨(hs x hx).1, by have := (hs x hx).2; omega⟩))
 have HR := Lib.hid hr
 have HN := Lib.hid hn
 have HS := Lib.hid hs
 clear hr hn hs hb
 go_enter Tryz.func40, Tryz.ntmps40
 go_wp2_with fail
 refine HFA.out.mono ?_
 rintro e w1 ⟨rfl, hb1⟩
 have HB1 := Lib.hid hb1
 clear hb1
 by_cases hz : macE l = 0
 ·have HZ := Lib.hid hz
  have hn40 : n ≤ 40 := by have := (macE_zero hz).1; rw [HN.out] at this; omega
  have HX := Lib.hid (mac_fix hz)
  rw [hz]
  clear hz
  go_wp2_with fail
  go_loopw [5, 7, 8, 9, 10, 12, 13, 14] (fun v _ _ _ _ _ _ _ wr => ∃ (k : Nat) (D : List MacT) (AD : Option Addr) (cD : Nat), v = .slice AD k cD ∧ k ≤ n ∧ Hid (D.length = k) ∧ Hid (DoneM l (flM l) D) ∧ Hid (wr.ownsRow w1.heap.size 71 2 (.slice AD k cD) k (macV D)) ∧ Hid (Below w1.heap.size w1 wr)) (fun v _ _ _ _ _ _ _ _ => n - sliceLen v)
  case atStart => exact ⟨0, [], none, 0, rfl, by omega, Lib.hid rfl, Lib.hid (DoneM.nil _ _), Lib.hid (World.ownsRow_nil _ _ _ _), Lib.hid (Below.refl _ _)⟩
  case round =>
   obtain ⟨k, D0, AD, cD, rfl, hk, HK, HD, HO, HB⟩ := hrel
   obtain ⟨wz, hwz⟩ : ∃ wz, wz = wr := ⟨_, rfl⟩
   subst hwz
   by_cases hlt : k < n
   ·have hki : (k : Int) < (n : Int) := by omega
    go_wp2_with fail
    go_loopw [5, 7, 8, 9, 10, 12, 13, 14, 30] (fun v _ _ _ _ _ _ _ i wr => ∃ (q k2 : Nat) (D : List MacT) (A2 : Option Addr) (c2 : Nat), i = .int .i64 (q : Int) ∧ q ≤ n ∧ v = .slice A2 k2 c2 ∧ k2 ≤ n ∧ Hid (D.length = k2) ∧ Hid (DoneM l (flM l) D) ∧ Hid (RoundM l D0 D q) ∧ Hid (wr.ownsRow w1.heap.size 71 2 (.slice A2 k2 c2) k2 (macV D)) ∧ Hid (Below w1.heap.size w1 wr)) (fun _ _ _ _ _ _ _ _ i _ => n - (intOf i).toNat)
    case atStart => exact ⟨0, k, D0, AD, cD, rfl, by omega, rfl, hk, HK, HD, Lib.hid (.inr ⟨rfl, by simp⟩), HO, HB⟩
    case round =>
     obtain ⟨q, k2, D, A2, c2, rfl, hq, rfl, hk2, HK2, HD2, HRD, HO2, HB2⟩ := hrel
     by_cases hltq : q < n
     ·obtain ⟨x, hx⟩ : ∃ x, l[q]? = some x := ⟨_, List.getElem?_eq_getElem (by rw [HN.out]; exact hltq)⟩
      obtain ⟨b, off, rfl, c0, cv⟩ := ((HR.out.below HB1.out).below HB2.out).macs hx
      have HXX := Lib.hid hx
      have HXS := Lib.hid (HS.out x (List.mem_of_getElem? hx))
      have HXP := Lib.hid (HX.out.2.2.2.2 x (List.mem_of_getElem? hx))
      have HSK := Lib.hid (fun h => HRD.out.skip hx h)
      have HMO := Lib.hid (fun y => HRD.out.more y)
      obtain ⟨xn, xv⟩ := x
      simp only [] at c0 cv HXS HXP HSK
      obtain ⟨bn, hbn⟩ : ∃ bn, sv xn = .string bn := ⟨_, rfl⟩
      obtain ⟨bv, hbv⟩ : ∃ bv, sv xv = .string bv := ⟨_, rfl⟩
      rw [hbn] at c0
      rw [hbv] at cv
      have HB3 := Lib.hid (HB2.out.alloc HB2.out.size (.cells #[.string bn, .string bv] 71))
      have HBK := Lib.hid (Blk.new wr #[.string bn, .string bv] 71)
      have yb0 := HBK.out.cell (j := 0) rfl
      have yb1 := HBK.out.cell (j := 1) rfl
      have HO3 := Lib.hid (HO2.out.alloc (.cells #[.string bn, .string bv] 71))
      have HCL := Lib.hid (fun W => rCalls_any xv W (by have := HXS.out.2; omega))
      rw [hbv] at HCL
      have HBN := Lib.hid hbn
      clear hx hbn hbv
      go_upto_region 9 with fail
      generalize hw3 : wr.alloc (.cells #[.string bn, .string bv] 71) = w4 at *
      clear hw3
      have hnl : (namesL D).length = k2 := by rw [names_len]; exact HK2.out
      have HNM : Hid (∀ W, Below w4.heap.size w4 W → Calls Tryz.prog 89 #[.slice A2 k2 c2] W fun e w' => ∃ A c, e = .returned (.slice A k2 c) ∧ Rd w' A ((namesL D).map sv) ∧ Below w4.heap.size w4 w') := Lib.hid (fun W hW => (rNames_any (c := c2) D W (Rd.below (rd_ownM HO3.out) hW) HK2.out (by omega)).mono (by
       rintro e w' ⟨A, c, h1, h2, h3⟩
       rw [hnl] at h1 h2
       exact ⟨A, c, h1, rd_ownM h2, below_then hW h3⟩))
      have HPL : Hid (∀ (t : List UInt8) (W : World) (A : Option Addr) (c : Nat), Rd W A ((namesL D).map sv) → Calls Tryz.prog 43 #[.slice A k2 c, sv t] W fun e w' => e = .returned (.int .i64 (placeOf (namesL D) t)) ∧ W = w') := Lib.hid (fun t W A c h => placeF_any (namesL D) t W h hnl (by omega))
      have HPN : Hid (∀ (W : World) (A : Option Addr) (c : Nat), Rd W A ((namesL D).map sv) → Calls Tryz.prog 43 #[.slice A k2 c, .string bn] W fun e w' => e = .returned (.int .i64 (placeOf (namesL D) xn)) ∧ W = w') := Lib.hid (fun W A c h => by rw [← HBN.out]; exact HPL.out xn W A c h)
      have HSL : Hid (∀ W, Below w4.heap.size w4 W → W.cell? ⟨wr.heap.size, 0, none⟩ = some (.string bn) ∧ Below w4.heap.size w4 W) := Lib.hid (fun W hW => ⟨(HBK.out.below hW HBK.out.lt).cell (j := 0) rfl, hW⟩)
      clear hnl
      by_cases hin : xn ∈ namesL D
      ·obtain ⟨j, hj, _⟩ := placeOf_in hin
       rw [hj] at HPN
       have HRS := Lib.hid (HSK.out (.inl hin))
       clear hin hj
       go_region_held3 (fun W => W.cell? ⟨wr.heap.size, 0, none⟩ = some (.string bn) ∧ Below w4.heap.size w4 W) ((refine HSL.out _ ?_; first | assumption | exact below_drewN (Below.refl _ _) 1 | exact Below.refl _ _)) ((first | (go_at_call 89; refine (HNM.out _ (by first | assumption | exact below_drewN (Below.refl _ _) 1)).mono ?_; rintro e w6 ⟨A6, c6, rfl, hrd6, hb6⟩) | (go_at_call 43; refine (HPN.out _ _ _ (by assumption)).mono ?_; rintro e w7 ⟨rfl, rfl⟩)))
       have HB6 := Lib.hid (HB3.out.trans (hb6.mono HB3.out.size))
       have HO6 := Lib.hid (own_belowK HO3.out hb6)
       go_wp2_with fail
       exact ⟨⟨q + 1, k2, D, A2, c2, by go_num, by omega, rfl, hk2, HK2, HD2, HRS, HO6, HB6⟩, by simp [intOf]; omega⟩
      ·rw [placeOf_out hin] at HPN
       have HNIN := Lib.hid hin
       clear hin
       go_region_held3 (fun W => W.cell? ⟨wr.heap.size, 0, none⟩ = some (.string bn) ∧ Below w4.heap.size w4 W) ((refine HSL.out _ ?_; first | assumption | exact below_drewN (Below.refl _ _) 1 | exact Below.refl _ _)) ((first | (go_at_call 89; refine (HNM.out _ (by first | assumption | exact below_drewN (Below.refl _ _) 1)).mono ?_; rintro e w6 ⟨A6, c6, rfl, hrd6, hb6⟩) | (go_at_call 43; refine (HPN.out _ _ _ (by assumption)).mono ?_; rintro e w7 ⟨rfl, rfl⟩)))
       have HB6 := Lib.hid (HB3.out.trans (hb6.mono HB3.out.size))
       have HO6 := Lib.hid (own_belowK HO3.out hb6)
       have HBK6 := Lib.hid (HBK.out.below hb6 HBK.out.lt)
       have z0 := HBK6.out.cell (j := 0) rfl
       have z1 := HBK6.out.cell (j := 1) rfl
       clear yb0 yb1
       obtain ⟨cs, hcr⟩ : ∃ cs, callsR xv = some cs := by
        cases hcr : callsR xv with
        | none => have := calls_none.1 hcr; rw [HXP.out.2] at this; cases this
        | some cs => exact ⟨cs, rfl⟩
       have HCR := Lib.hid hcr
       go_wp2_with fail
       refine (HCL.out _).mono ?_
       rintro e w8 ⟨hb8, hres⟩
       rw [hcr] at hres
       simp only [] at hres
       obtain ⟨A8, c8, rfl, hown8, hcl⟩ := hres
       have HUS : Hid (usesP cs = usesOf xv) := Lib.hid (uses_same (calls_some hcr).2)
       have hcl2 : cs.length ≤ 1048640 := by have := HXS.out.2; omega
       have HCD := Lib.hid (rCalled_any (c := c8) cs w8 (rd_ownM hown8) rfl hcl2)
       rw [HUS.out] at HCD
       have HRC := Lib.hid (rd_ownM hown8)
       have HB8 := Lib.hid (HB6.out.trans (hb8.mono HB6.out.size))
       have HO8 := Lib.hid (own_belowK HO6.out hb8)
       have HBK8 := Lib.hid (HBK6.out.below hb8 HBK6.out.lt)
       have HCN : Hid (cs.length = cs.length) := Lib.hid rfl
       clear hb8 hown8 hcl hcr z0 z1 hb6 hrd6
       generalize hncs : cs.length = ncs at *
       have HCN2 := Lib.hid hncs
       clear hncs HCN
       go_wp2_with fail
       refine HCD.out.mono ?_
       rintro e w9 ⟨A9, c9, rfl, hown9, hb9⟩
       have HRU := Lib.hid (rd_ownM hown9)
       have HB9 := Lib.hid (HB8.out.trans (hb9.mono HB8.out.size))
       have HO9 := Lib.hid (own_belowK HO8.out hb9)
       have HBK9 := Lib.hid (HBK8.out.below hb9 HBK8.out.lt)
       have HRC9 := Lib.hid (HRC.out.below hb9)
       have hul : (usesOf xv).length ≤ 2097409 := by have := usesOf_len xv; have := HXS.out.2; omega
       generalize hus : usesOf xv = us at *
       have HUSE := Lib.hid hus
       clear hown9 hb9 hus
       go_wp2_with fail
       obtain ⟨wy, hwy⟩ : ∃ wy, wy = wr := ⟨_, rfl⟩
       subst hwy
       go_loopw [10, 12, 49] (fun v _ i wr => ∃ (j : Nat), i = .int .i64 (j : Int) ∧ j ≤ us.length ∧ v = .bool ((us.take j).all fun u => inL (namesL D) u) ∧ Hid (Below w9.heap.size w9 wr)) (fun _ _ i _ => us.length - (intOf i).toNat)
       case atStart => exact ⟨0, rfl, by omega, rfl, Lib.hid (Below.refl _ _)⟩
       case round =>
        obtain ⟨j, rfl, hj, rfl, HBJ⟩ := hrel
        by_cases hlj : j < us.length
        ·obtain ⟨u, hu⟩ : ∃ u, us[j]? = some u := ⟨_, List.getElem?_eq_getElem hlj⟩
         obtain ⟨b0, o0, rfl, cu⟩ := (HRU.out.below HBJ.out).scell hu
         obtain ⟨bu, hbu⟩ : ∃ bu, sv u = .string bu := ⟨_, rfl⟩
         have cu' : wr.cell? ⟨b0, o0 + j, none⟩ = some (.string bu) := by rw [← hbu]; exact cu
         have HU := Lib.hid hu
         have HALL : Hid (((us.take (j + 1)).all fun u => inL (namesL D) u) = (((us.take j).all fun u => inL (namesL D) u) && inL (namesL D) u)) := Lib.hid (by rw [takeS_M hu, List.all_append]; simp)
         generalize hpr : ((us.take j).all fun u => inL (namesL D) u) = pr at *
         clear hu cu hpr
         cases pr with
         | false =>
           rw [Bool.false_and] at HALL
           go_wp2_with fail
           go_roundw
           case rel => exact ⟨j + 1, by go_num, by omega, by rw [HALL.out], HBJ⟩
           case measure => simp [intOf]; omega
         | true =>
           rw [Bool.true_and] at HALL
           have HN2 := Lib.hid (rNames_any (c := c2) D wr (Rd.below (rd_ownM HO9.out) HBJ.out) HK2.out (by omega))
           go_wp2_with fail
           refine HN2.out.mono ?_
           rintro e w10 ⟨A10, c10, rfl, hown10, hb10⟩
           have hnl : (namesL D).length = k2 := by rw [names_len]; exact HK2.out
           rw [hnl] at hown10 ⊢
           have HP10 := Lib.hid (HPL.out u w10 A10 c10 (rd_ownM hown10))
           rw [hbu] at HP10
           have HB10 := Lib.hid (HBJ.out.trans (hb10.mono HBJ.out.size))
           clear hown10 hb10 hnl hbu
           have hge : decide (0 ≤ placeOf (namesL D) u) = inL (namesL D) u := placeGe
           generalize placeOf (namesL D) u = po at *
           generalize inL (namesL D) u = iu at *
           go_wp2_with fail
           refine HP10.out.mono ?_
           rintro e w11 ⟨rfl, rfl⟩
           cases iu with
           | true =>
             have hpo : 0 ≤ po := by simpa using hge
             clear hge
             go_wp2_with fail
             go_roundw
             case rel => exact ⟨j + 1, by go_num, by omega, by rw [HALL.out], HB10⟩
             case measure => simp [intOf]; omega
           | false =>
             have hpo : ¬ 0 ≤ po := by simpa using hge
             clear hge
             go_wp2_with fail
             go_roundw
             case rel => exact ⟨j + 1, by go_num, by omega, by rw [HALL.out, decide_eq_false (by omega)], HB10⟩
             case measure => simp [intOf]; omega
        ·obtain rfl : j = us.length := by omega
         have HRDY : Hid (((us.take us.length).all fun u => inL (namesL D) u) = readyM D xv) := Lib.hid (by rw [List.take_length, ← HUSE.out]; rfl)
         have HBE := Lib.hid (HB9.out.trans (HBJ.out.mono HB9.out.size))
         have HOE := Lib.hid (own_belowK HO9.out HBJ.out)
         have z0 := (HBK9.out.below HBJ.out HBK9.out.lt).cell (j := 0) rfl
         rw [HRDY.out]
         cases hrd : readyM D xv with
         | false =>
           have HRS := Lib.hid (HSK.out (.inr hrd))
           clear hrd
           go_wp2_with fail
           exact ⟨⟨q + 1, k2, D, A2, c2, by go_num, by omega, rfl, hk2, HK2, HD2, HRS, HOE, HBE⟩, by simp [intOf]; omega⟩
         | true =>
           have HTX := Lib.hid (HD2.out.text HX.out.1 (List.mem_of_getElem? HXX.out) HCR.out hrd)
           have HMEM : Hid (∀ u, (true, u) ∈ cs → u ∈ namesL D) := Lib.hid (fun u hu => by
            unfold readyM at hrd
            rw [List.all_eq_true] at hrd
            have := hrd u (by rw [HUSE.out, ← HUS.out]; exact mem_uses.2 hu)
            unfold inL at this
            simpa using this)
           have HSHC : Hid (∀ p ∈ cs, p.2.length ≤ 1048640) := Lib.hid (fun p hp => calls_short HCR.out HXS.out.2 p hp)
           have HFT := Lib.hid (rFlatten_any (A := A2) (B := A8) (c := c2) (d := c8) D (lookD D) cs wr (rd_ownM HOE.out) HK2.out (by omega) (HRC9.out.below HBJ.out) HCN2.out hcl2 HD2.out.nodup (fun m hm => lookD_of HD2.out.nodup hm) HMEM.out HSHC.out (HD2.out.short HX.out.1))
           clear hrd
           have HFP : Hid (FlattenPost (lookD D) cs wr = fun e w' => Below wr.heap.size wr w' ∧ e = .returned (if (putIn (lookD D) cs).length ≤ 2000 then .tuple #[sv (putIn (lookD D) cs), .bool true] else .tuple #[.string ⟨#[]⟩, .bool false])) := Lib.hid rfl
           rw [HFP.out] at HFT
           generalize putIn (lookD D) cs = T at *
           by_cases hT : T.length ≤ 2000
           ·rw [if_pos hT] at HFT HTX
            obtain ⟨bt, hbt⟩ : ∃ bt, sv T = .string bt := ⟨_, rfl⟩
            rw [hbt] at HFT
            have HBT := Lib.hid hbt
            have HDN := Lib.hid (HD2.out.snoc (List.mem_map.2 ⟨(xn, xv), List.mem_of_getElem? HXX.out, rfl⟩) HNIN.out HTX.out)
            clear hT hbt
            go_wp2_with fail
            refine HFT.out.mono ?_
            rintro e w12 ⟨hb12, rfl⟩
            have HB12 := Lib.hid (HBE.out.trans (hb12.mono HBE.out.size))
            have HO12 := Lib.hid (own_belowK HOE.out hb12)
            have z12 := ((HBK9.out.below HBJ.out HBK9.out.lt).below hb12 (Nat.lt_of_lt_of_le HBK9.out.lt HBJ.out.size)).cell (j := 0) rfl
            have hsz12 := HB12.out.size
            clear hb12 z0
            go_wp2_with (at_builtin; refine wpList_push2 elMac w12 _ _ w1.heap.size A2 k2 c2 (macV D) _ _ (by rfl) (by rfl) HO12.out hsz12 (by omega) (by omega) rfl rfl rfl rfl ?_; intro g' c' w13 hown13 hb13 _)
            rw [← HBN.out, ← HBT.out] at hown13
            have hlen : (D ++ [(xn, T)]).length ≤ l.length := HDN.out.len
            exact ⟨⟨q + 1, k2 + 1, D ++ [(xn, T)], _, c', by go_num, by omega, rfl, by rw [List.length_append, HK2.out, HN.out] at hlen; simpa using hlen, Lib.hid (by rw [List.length_append, HK2.out]; rfl), HDN, Lib.hid (HMO.out (xn, T)), Lib.hid (by rw [macV_snoc]; exact hown13), Lib.hid (HB12.out.trans hb13)⟩, by simp [intOf]; omega⟩
           ·rw [if_neg hT] at HFT HTX
            have HE : Hid (flatsE l = 2) := Lib.hid (flatsE_big HZ.out (bigM_of (List.mem_of_getElem? HXX.out) (by rw [show ((xn, xv) : MacT).1 = xn from rfl, HTX.out])))
            clear hT
            go_wp2_with fail
            refine HFT.out.mono ?_
            rintro e w12 ⟨hb12, rfl⟩
            have HB12 := Lib.hid (HBE.out.trans (hb12.mono HBE.out.size))
            clear hb12
            go_wp2_with fail
            go_ret2
            exact ⟨below_then HB1.out HB12.out, .inl ⟨by rw [HE.out]; decide, by rw [HE.out]; rfl⟩⟩
     ·obtain rfl : q = n := by omega
      have HMORE : Hid (k < k2) := Lib.hid (by
       have h := HRD.out
       rw [← HN.out] at h
       have := h.end_ HX.out.2.1 HX.out.2.2.1 HX.out.2.2.2.1 (by rw [HK.out, HN.out]; exact hlt)
       rw [HK.out, HK2.out] at this
       exact this)
      have hm := HMORE.out
      go_wp2_with fail
      exact ⟨⟨k2, D, A2, c2, rfl, hk2, HK2, HD2, HO2, HB2⟩, by simp [sliceLen]; omega⟩
   ·obtain rfl : k = n := by omega
    have HBG : Hid (bigM l = false) := Lib.hid (all_small HD.out (by rw [HK.out, HN.out]; exact Nat.le_refl _))
    have HALL : Hid (∀ x ∈ namesL l, x ∈ namesL D0) := Lib.hid (done_all HD.out (by rw [HK.out, HN.out]; exact Nat.le_refl _))
    have hki : ¬ (k : Int) < (k : Int) := by omega
    have hnl : (namesL D0).length = k := by rw [names_len]; exact HK.out
    have HNL := Lib.hid hnl
    clear hnl
    go_wp2_with fail
    go_loopw [15, 17, 82] (fun v _ i wr => ∃ (q : Nat) (AO : Option Addr) (cO : Nat), i = .int .i64 (q : Int) ∧ q ≤ k ∧ v = .slice AO q cO ∧ Hid (wr.ownsRow wz.heap.size 71 2 (.slice AO q cO) q (macV ((flatL l).take q))) ∧ Hid (Below wz.heap.size wz wr)) (fun _ _ i _ => k - (intOf i).toNat)
    case atStart => exact ⟨0, none, 0, rfl, by omega, rfl, Lib.hid (World.ownsRow_nil _ _ _ _), Lib.hid (Below.refl _ _)⟩
    case round =>
     obtain ⟨q, AO, cO, rfl, hq, rfl, HOO, HBW⟩ := hrel
     by_cases hltq : q < k
     ·obtain ⟨x, hx⟩ : ∃ x, l[q]? = some x := ⟨_, List.getElem?_eq_getElem (by rw [HN.out]; exact hltq)⟩
      obtain ⟨b, off, rfl, c0, cv⟩ := (((HR.out.below HB1.out).below HB.out).below HBW.out).macs hx
      have HXX := Lib.hid hx
      obtain ⟨xn, xv⟩ := x
      simp only [] at c0 cv
      obtain ⟨bn, hbn⟩ : ∃ bn, sv xn = .string bn := ⟨_, rfl⟩
      obtain ⟨bv, hbv⟩ : ∃ bv, sv xv = .string bv := ⟨_, rfl⟩
      rw [hbn] at c0
      rw [hbv] at cv
      have HBN := Lib.hid hbn
      obtain ⟨j, hj1, hj2⟩ := placeOf_in (HALL.out xn (List.mem_map.2 ⟨(xn, xv), List.mem_of_getElem? hx, rfl⟩))
      have HDJ := Lib.hid (lookD_fl HD.out hj2)
      have hjk : j < k := by have := (List.getElem?_eq_some_iff.1 hj2).1; rw [HNL.out] at this; exact this
      have HFLQ : Hid ((flatL l)[q]? = some (xn, (flM l xn).2)) := Lib.hid (by unfold flatL; rw [List.getElem?_map, hx]; rfl)
      generalize hfx : (flM l xn).2 = fx at *
      obtain ⟨bf, hbf⟩ : ∃ bf, sv fx = .string bf := ⟨_, rfl⟩
      have HBF := Lib.hid hbf
      have HB3 := Lib.hid (HBW.out.alloc HBW.out.size (.cells #[.string bn, .string bv] 71))
      have HBK := Lib.hid (Blk.new wr #[.string bn, .string bv] 71)
      have HO3 := Lib.hid (HOO.out.alloc (.cells #[.string bn, .string bv] 71))
      clear hx hbn hbv hj2 hfx
      go_upto_region 27 with fail
      generalize hw3 : wr.alloc (.cells #[.string bn, .string bv] 71) = w4 at *
      clear hw3
      have HRD : Hid (∀ W, Below w4.heap.size w4 W → Rd W AD (macV D0)) := Lib.hid (fun W hW => ((rd_ownM HO.out).below HB3.out).below hW)
      obtain ⟨bD, oD, rfl, _, _⟩ := (HRD.out w4 (Below.refl _ _)).macs HDJ.out
      have HNM : Hid (∀ W, Below w4.heap.size w4 W → Calls Tryz.prog 89 #[.slice (some ⟨bD, oD, none⟩) k cD] W fun e w' => ∃ A c, e = .returned (.slice A k c) ∧ Rd w' A ((namesL D0).map sv) ∧ Below w4.heap.size w4 w') := Lib.hid (fun W hW => (rNames_any (c := cD) D0 W (HRD.out W hW) HK.out (by omega)).mono (by
       rintro e w' ⟨A, c, h1, h2, h3⟩
       rw [HNL.out] at h1 h2
       exact ⟨A, c, h1, rd_ownM h2, below_then hW h3⟩))
      have HPN : Hid (∀ (W : World) (A : Option Addr) (c : Nat), Rd W A ((namesL D0).map sv) → Calls Tryz.prog 43 #[.slice A k c, .string bn] W fun e w' => e = .returned (.int .i64 (j : Int)) ∧ W = w') := Lib.hid (fun W A c h => by
       have h2 := placeF_any (c := c) (namesL D0) xn W h HNL.out (by omega)
       rw [hj1, HBN.out] at h2
       exact h2)
      have HSL : Hid (∀ W, Below w4.heap.size w4 W → W.cell? ⟨wr.heap.size, 0, none⟩ = some (.string bn) ∧ W.cell? ⟨bD, oD + j * 2, none⟩ = some (.string bn) ∧ W.cell? ⟨bD, oD + j * 2 + 1, none⟩ = some (.string bf)) := Lib.hid (fun W hW => by
       obtain ⟨b', o', hA, d0, d1⟩ := (HRD.out W hW).macs HDJ.out
       injection hA with hA
       injection hA with hA1 hA2 _
       subst hA1 hA2
       simp only [] at d0 d1
       rw [HBN.out] at d0
       rw [HBF.out] at d1
       exact ⟨(HBK.out.below hW HBK.out.lt).cell (j := 0) rfl, d0, d1⟩)
      obtain ⟨s0, _, _⟩ := HSL.out w4.drew (below_of_drewN _ 1)
      have HOK : Hid (∀ w6, Below w4.heap.size w4 w6 → (w6.alloc (.cells #[.string bn, .string bf] 71)).ownsRow wz.heap.size 71 2 (.slice AO q cO) q (macV ((flatL l).take q)) ∧ (∀ i u, ([.string bn, .string bf] : List Value)[i]? = some u → (w6.alloc (.cells #[.string bn, .string bf] 71)).cell? ((⟨w6.heap.size, 0, none⟩ : Addr).add i) = some u) ∧ wz.heap.size ≤ (w6.alloc (.cells #[.string bn, .string bf] 71)).heap.size ∧ Below wz.heap.size wz (w6.alloc (.cells #[.string bn, .string bf] 71))) := Lib.hid (fun w6 h6 => by
       have hB := HB3.out.trans (h6.mono HB3.out.size)
       exact ⟨(own_belowK HO3.out h6).alloc _, cell2_new w6 _ _ _, Nat.le_trans hB.size (by simp), hB.alloc hB.size _⟩)
      have H3 : Hid (∀ u ∈ ([.string bn, .string bf] : List Value), u.oneCell' = true) := Lib.hid (by intro u hu; simp at hu; rcases hu with rfl | rfl <;> rfl)
      obtain ⟨i0, hi, hz0, hs1, hby⟩ := macInfo
      have ht : Tryz.prog.underlying 23 = some (.slice 71) := by kernel_rfl
      have hjI : (j : Int) < (k : Int) := by omega
      have hj0 : (0 : Int) ≤ (j : Int) := by omega
      have HDR : Hid (Below w4.heap.size w4 w4.drew) := Lib.hid (below_of_drewN _ 1)
      clear c0 cv hbf hj1
      go_region_law
       ((first
         | (refine step_append_lies _ rfl (.tmp 86) (.tmp 95) 23 rfl wz.heap.size 71 i0 _ 2 32 ht hi hz0 hs1 hby rfl (by decide) (.slice AO q cO) q (macV ((flatL l).take q)) (by simp [Act.eval]) hok.1 ⟨w6.heap.size, 0, none⟩ 1 1 [.string bn, .string bf] (by simp [Act.eval]) rfl hok.2.1 H3.out (by decide) (by unfold maxLen; omega) (by omega) hok.2.2.1 _ rfl ?_; intro g9 c9 w9 hown9 hg9 _ _)
         | ((rw [if_pos (by rfl)]); go_simp; go_at_call 89; (with_reducible refine (HNM.out w4.drew HDR.out).mono ?_); rintro e w6 ⟨A6, c6, rfl, hrd6, hb6⟩; (have hok := HOK.out w6 hb6); obtain ⟨t0, t1, t2⟩ := HSL.out w6 hb6)
         | ((rw [if_pos (by rfl)]); go_simp; go_at_call 43; (with_reducible refine (HPN.out _ _ _ hrd6).mono ?_); rintro e w' ⟨rfl, rfl⟩)))
      all_goals (
       have HOW : Hid (w9.ownsRow wz.heap.size 71 2 (.slice (some ⟨g9, 0, none⟩) (q + 1) c9) (q + 1) (macV ((flatL l).take (q + 1)))) := Lib.hid (by
        rw [takeS_any HFLQ.out, macV_snoc, HBN.out, HBF.out]
        exact hown9)
       have HB9 : Hid (Below wz.heap.size wz w9) := Lib.hid (hok.2.2.2.grown hg9 hok.2.2.1 (fun i hi => (hok.1.lt i hi).1))
       clear hown9 hg9 hok
       go_simp
       go_wp2_with fail
       exact ⟨⟨q + 1, some ⟨g9, 0, none⟩, c9, by go_num, by omega, rfl, HOW, HB9⟩, by simp [intOf]; omega⟩)
     ·obtain rfl : q = k := by omega
      go_wp2_with fail
      go_ret2
      have hfl : (flatL l).length = q := by unfold flatL; rw [List.length_map]; exact HN.out
      refine ⟨below_then HB1.out (HB.out.trans (HBW.out.mono HB.out.size)), .inr ⟨flatsE_ok HZ.out HBG.out, HZ.out, HBG.out, AO, cO, by rw [HN.out]; rfl, ?_⟩⟩
      have h := HOO.out
      rw [← hfl, List.take_length, hfl] at h
      rw [HN.out]
      exact own_baseM h (Nat.le_trans HB1.out.size HB.out.size)
 ·have HE := Lib.hid (flatsE_bad hz)
  have HZ := Lib.hid hz
  have hne : ((macE l : Int) == 0) = false := by simp; exact hz
  clear hz
  go_wp2_with fail
  go_ret2
  exact ⟨HB1.out, .inl ⟨by rw [HE.out]; exact HZ.out, by rw [HE.out]; rfl⟩⟩
end Go.Proofs.YtoandhhkmkgmaaaGreatDoor
/- Contract: the reference's Expanded. Values and the text of at most 2^20 - 1 bytes. -/
namespace Go.Proofs.YtoandhhkmkgmaaaGreatDoor
open Go.RowKit

theorem flatL_names (l : List MacT) : namesL (flatL l) = namesL l := by unfold namesL flatL; rw [List.map_map]; rfl
theorem flatL_len (l : List MacT) : (flatL l).length = l.length := by unfold flatL; rw [List.length_map]
theorem flatL_mem {l : List MacT} {u : List UInt8} (h : u ∈ namesL l) : (u, (flM l u).2) ∈ flatL l := by
 obtain ⟨x, hx, rfl⟩ := List.mem_map.1 h
 exact List.mem_map.2 ⟨x, hx, rfl⟩
theorem flat_small {l : List MacT} (h : bigM l = false) {u : List UInt8} (hu : u ∈ namesL l) : (flM l u).1 = false := by
 obtain ⟨x, hx, rfl⟩ := List.mem_map.1 hu
 unfold bigM at h
 rw [List.any_eq_false] at h
 simpa using h x hx
theorem exp_text {l : List MacT} {s : List UInt8} {cs : List PieceM} (hz : macE l = 0) (hb : bigM l = false) (hc : callsR s = some cs) (hl : lackM l s = false) :
 flatP (flM l) s = if (putIn (lookD (flatL l)) cs).length ≤ 2000 then (false, putIn (lookD (flatL l)) cs) else (true, []) := by
 have hn := (mac_fix hz).2.1
 refine flatten_flat hc (fun u hu => flat_small hb (lack_mem hl u hu)) _ (fun u hu => ?_)
 exact lookD_of (m := (u, (flM l u).2)) (by rw [flatL_names]; exact hn) (flatL_mem (lack_mem hl u hu))
set_option maxRecDepth 100000 in
set_option maxHeartbeats 4000000 in
theorem rExp_any {A : Option Addr} {n c : Nat} (l : List MacT) (s : List UInt8) (w : World) (hr : Rd w A (macV l)) (hn : l.length = n) (hb : n ≤ 9223372036854775807) (hs : ∀ x ∈ l, x.1.length ≤ 9223372036854775807 ∧ x.2.length ≤ 1048639) (hsl : s.length ≤ 1048639) :
 Calls Tryz.prog 41 #[.slice A n c, sv s] w (ExpPost l s w) := by
 have HFA := Lib.hid (rFlat_any (c := c) l w hr hn hb hs)
 have HR := Lib.hid hr
 have HN := Lib.hid hn
 have HSL := Lib.hid hsl
 have HCL := Lib.hid (fun W => rCalls_any s W (by omega))
 obtain ⟨bs, hbs⟩ : ∃ bs, sv s = .string bs := ⟨_, rfl⟩
 rw [hbs] at HCL ⊢
 clear hr hn hs hsl hbs
 go_enter Tryz.func41, Tryz.ntmps41
 go_wp2_with fail
 refine HFA.out.mono ?_
 rintro e w1 ⟨hb1, ⟨h1, rfl⟩ | ⟨h1, h2, h3, AF, cF, rfl, hown⟩⟩
 ·have HB := Lib.hid hb1
  have HE := Lib.hid h1
  have hne : ((flatsE l : Int) == 0) = false := by simp; exact h1
  clear hb1 h1
  go_wp2_with fail
  go_ret2
  exact expPost_no HB.out (expE_bad HE.out) HE.out
 ·have HB1 := Lib.hid hb1
  have HE := Lib.hid h1
  have HZ := Lib.hid h2
  have HG := Lib.hid h3
  have HO := Lib.hid hown
  have hn40 : n ≤ 40 := by have := (macE_zero h2).1; rw [HN.out] at this; omega
  have HX := Lib.hid (mac_fix h2)
  clear hb1 h1 h2 h3 hown hb
  go_wp2_with fail
  refine (HCL.out _).mono ?_
  rintro e w2 ⟨hb2, hres⟩
  have HB2 := Lib.hid (below_then HB1.out hb2)
  have HO2 := Lib.hid (own_belowK HO.out hb2)
  clear hb2
  cases hcr : callsR s with
  | none =>
    rw [hcr] at hres
    simp only [] at hres
    subst hres
    have HEE := Lib.hid (expE_form HE.out (calls_none.1 hcr))
    clear hcr
    go_wp2_with fail
    go_ret2
    exact expPost_no (k := 3) HB2.out HEE.out (by decide)
  | some cs =>
    rw [hcr] at hres
    simp only [] at hres
    obtain ⟨A8, c8, rfl, hown8, hcl⟩ := hres
    have HP : Hid ((parseM s).2 = true) := Lib.hid (calls_some hcr).1
    have HUS : Hid (usesP cs = usesOf s) := Lib.hid (uses_same (calls_some hcr).2)
    have HSHC : Hid (∀ p ∈ cs, p.2.length ≤ 1048640) := Lib.hid (fun p hp => calls_short hcr HSL.out p hp)
    have hcl2 : cs.length ≤ 1048640 := by have := HSL.out; omega
    have HCD := Lib.hid (rCalled_any (c := c8) cs w2 (rd_ownM hown8) rfl hcl2)
    have HCU := Lib.hid (fun u (hu : (true, u) ∈ cs) => show u ∈ usesOf s from by rw [← HUS.out]; exact mem_uses.2 hu)
    rw [HUS.out] at HCD
    have HRC := Lib.hid (rd_ownM hown8)
    have HTX := Lib.hid (fun h => exp_text HZ.out HG.out hcr h)
    have HCR := Lib.hid hcr
    clear hown8 hcl hcr
    generalize hncs : cs.length = ncs at *
    have HCN2 := Lib.hid hncs
    clear hncs
    go_wp2_with fail
    refine HCD.out.mono ?_
    rintro e w3 ⟨A9, c9, rfl, hown9, hb9⟩
    have HRU := Lib.hid (rd_ownM hown9)
    have HB3 := Lib.hid (below_then HB2.out hb9)
    have HO3 := Lib.hid (own_belowK HO2.out hb9)
    have HRC3 := Lib.hid (HRC.out.below hb9)
    have hul : (usesOf s).length ≤ 2097409 := by have := usesOf_len s; have := HSL.out; omega
    generalize hus : usesOf s = us at *
    have HUSE := Lib.hid hus
    clear hown9 hb9 hus
    go_wp2_with fail
    go_loopw [11, 31] (fun _ i wr => ∃ (j : Nat), i = .int .i64 (j : Int) ∧ j ≤ us.length ∧ Hid (∀ u ∈ us.take j, u ∈ namesL l) ∧ Hid (Below w3.heap.size w3 wr)) (fun _ i _ => us.length - (intOf i).toNat)
    case atStart => exact ⟨0, rfl, by omega, Lib.hid (by simp), Lib.hid (Below.refl _ _)⟩
    case round =>
     obtain ⟨j, rfl, hj, HALL, HBJ⟩ := hrel
     have HBW := Lib.hid (below_then HB3.out HBJ.out)
     by_cases hlj : j < us.length
     ·obtain ⟨u, hu⟩ : ∃ u, us[j]? = some u := ⟨_, List.getElem?_eq_getElem hlj⟩
      obtain ⟨b0, o0, rfl, cu⟩ := (HRU.out.below HBJ.out).scell hu
      obtain ⟨bu, hbu⟩ : ∃ bu, sv u = .string bu := ⟨_, rfl⟩
      have cu' : wr.cell? ⟨b0, o0 + j, none⟩ = some (.string bu) := by rw [← hbu]; exact cu
      have HU := Lib.hid hu
      have HN2 := Lib.hid (rNames_any (c := c) l wr (HR.out.below HBW.out) HN.out (by omega))
      clear hu cu
      go_wp2_with fail
      refine HN2.out.mono ?_
      rintro e w10 ⟨A10, c10, rfl, hown10, hb10⟩
      have hnl : (namesL l).length = n := by rw [names_len]; exact HN.out
      rw [hnl] at hown10 ⊢
      have HP10 := Lib.hid (placeF_any (c := c10) (namesL l) u w10 (rd_ownM hown10) hnl (by omega))
      rw [hbu] at HP10
      have HB10 := Lib.hid (below_then HBJ.out hb10)
      clear hown10 hb10 hnl hbu
      by_cases hin : u ∈ namesL l
      ·have HIN := Lib.hid hin
       obtain ⟨kk, hk1, _⟩ := placeOf_in hin
       rw [hk1] at HP10
       clear hin hk1
       go_wp2_with fail
       refine HP10.out.mono ?_
       rintro e w11 ⟨rfl, rfl⟩
       go_wp2_with fail
       go_roundw
       case rel => exact ⟨j + 1, by go_num, by omega, Lib.hid (fun v hv => by
        rw [takeS_M HU.out] at hv
        rcases List.mem_append.1 hv with hv | hv
        ·exact HALL.out v hv
        ·rw [List.mem_singleton.1 hv]; exact HIN.out), HB10⟩
       case measure => simp [intOf]; omega
      ·have HEE := Lib.hid (expE_none HE.out HP.out (lack_yes (s := s) (by rw [HUSE.out]; exact List.mem_of_getElem? HU.out) hin))
       rw [placeOf_out hin] at HP10
       clear hin
       go_wp2_with fail
       refine HP10.out.mono ?_
       rintro e w11 ⟨rfl, rfl⟩
       go_wp2_with fail
       go_ret2
       exact expPost_no (k := 5) (below_then HB3.out HB10.out) HEE.out (by decide)
     ·obtain rfl : j = us.length := by omega
      have HLK : Hid (lackM l s = false) := Lib.hid (lack_no (fun u hu => HALL.out u (by rw [HUSE.out] at hu; rw [List.take_length]; exact hu)))
      have HMEM : Hid (∀ u, (true, u) ∈ cs → u ∈ namesL (flatL l)) := Lib.hid (fun u hu => by
       rw [flatL_names]
       exact lack_mem HLK.out u (by rw [HUSE.out]; exact HCU.out u hu))
      have HND : Hid ((namesL (flatL l)).Nodup) := Lib.hid (by rw [flatL_names]; exact HX.out.2.1)
      have HFS : Hid (∀ x ∈ flatL l, x.2.length ≤ 1048640) := Lib.hid (fun x hx => by
       obtain ⟨y, hy, rfl⟩ := List.mem_map.1 hx
       have := flM_short HX.out.1 (n := y.1) (v := y.2) hy
       simp only []
       omega)
      have HOJ := Lib.hid (own_belowK HO3.out HBJ.out)
      have HFT := Lib.hid (rFlatten_any (A := AF) (B := A8) (c := cF) (d := c8) (flatL l) (lookD (flatL l)) cs wr (rd_ownM HOJ.out) (flatL_len l) (by rw [HN.out]; omega) (HRC3.out.below HBJ.out) HCN2.out hcl2 HND.out (fun x hx => lookD_of HND.out hx) HMEM.out HSHC.out HFS.out)
      have HT := Lib.hid (HTX.out HLK.out)
      have HE4 := Lib.hid (fun h4 => expE_big HE.out HP.out HLK.out h4)
      have HE5 := Lib.hid (fun h4 => expE_ok HE.out HP.out HLK.out h4)
      have HET : Hid (expT l s = if expE l s = 0 then (flatP (flM l) s).2 else []) := Lib.hid rfl
      have HFP : Hid (FlattenPost (lookD (flatL l)) cs wr = fun e w' => Below wr.heap.size wr w' ∧ e = .returned (if (putIn (lookD (flatL l)) cs).length ≤ 2000 then .tuple #[sv (putIn (lookD (flatL l)) cs), .bool true] else .tuple #[.string ⟨#[]⟩, .bool false])) := Lib.hid rfl
      rw [HFP.out] at HFT
      rw [HT.out] at HE4 HE5 HET
      generalize putIn (lookD (flatL l)) cs = T at *
      by_cases hT : T.length ≤ 2000
      ·rw [if_pos hT] at HFT HE4 HE5 HET
       have HEE := Lib.hid (HE5.out rfl)
       clear hT
       go_wp2_with fail
       refine HFT.out.mono ?_
       rintro e w12 ⟨hb12, rfl⟩
       have HB12 := Lib.hid (below_then HBW.out hb12)
       clear hb12
       go_wp2_with fail
       go_ret2
       exact ⟨HB12.out, by rw [HET.out, if_pos HEE.out, HEE.out]; rfl⟩
      ·rw [if_neg hT] at HFT HE4 HE5 HET
       have HEE := Lib.hid (HE4.out rfl)
       clear hT
       go_wp2_with fail
       refine HFT.out.mono ?_
       rintro e w12 ⟨hb12, rfl⟩
       have HB12 := Lib.hid (below_then HBW.out hb12)
       clear hb12
       go_wp2_with fail
       go_ret2
       exact expPost_no (k := 2) HB12.out HEE.out (by decide)
end Go.Proofs.YtoandhhkmkgmaaaGreatDoor
