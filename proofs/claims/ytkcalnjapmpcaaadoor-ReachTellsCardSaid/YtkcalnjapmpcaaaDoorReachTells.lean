/- The law ReachTells: its walk: for every list of rows, two sets and a depth it returns true and leaves what was there. Conditions: sets below 2^64, an int64 depth, a length below 2^63; the table of math/bits lies. -/
import Derived.Test.YtkcalnjapmpcaaaDoorReach6
import Derived.Test.YtkcalnjapmpcaaaDoorQuiet
namespace Go.Proofs.YtkcalnjapmpcaaaDoor
open Go.RowKit

theorem fault_more {l : List Nat} (h : faultOf l [] ≠ 0) (sets : List Nat) : faultOf l sets = faultOf l [] := by
  rcases faultOf_cases l [] with hf | hf | hf
  · exact absurd hf h
  · rw [hf]; exact faultOf_two hf
  · rw [hf]; exact faultOf_four hf
theorem fault_pair {l : List Nat} {s t : Nat} (h0 : faultOf l [] = 0) (h : faultOf l [s] ≠ 0) : faultOf l [s] = 4 ∧ faultOf l [s, t] = 4 := by
  obtain ⟨e1, hn⟩ := faultOf_zero (sets := [s]) h0
  obtain ⟨e2, _⟩ := faultOf_zero (sets := [s, t]) h0
  rw [e1] at h ⊢
  rw [e2]
  unfold okErr at h ⊢
  cases hs : inU l.length s <;> simp [hs] at h ⊢
theorem fault_both {l : List Nat} {s t : Nat} (h0 : faultOf l [] = 0) (h : faultOf l [s, t] ≠ 0) : faultOf l [s, t] = 4 := by
  rcases faultOf_cases l [s, t] with hf | hf | hf
  · exact absurd hf h
  · obtain ⟨e2, _⟩ := faultOf_zero (sets := [s, t]) h0
    rw [e2] at hf
    unfold okErr at hf
    split at hf <;> cases hf
  · exact hf

set_option maxRecDepth 100000 in
set_option maxHeartbeats 1000000 in
theorem reachTells_bad {A : Option Addr} {n c : Nat} (l : List Nat) (s t : Nat) (d : Int) (w : World) (h1 : Rd w A (l.map uv)) (hl : l.length = n) (hnb : n ≤ 9223372036854775807) (hb : Rows64 l) (hs : B64 s) (ht : B64 t) (hT : Tab w) (hf : faultOf l [] ≠ 0) :
    Calls Tryd.prog 5 #[.slice A n c, .int .u64 s, .int .u64 t, .int .i64 d] w fun e w' => e = .returned (.bool true) ∧ Below w.heap.size w w' := by
  have E1 := Lib.hid (fault_more hf [s])
  have E2 := Lib.hid (fault_more hf [s, t])
  have E3 : Hid (withinFault l s d = faultOf l []) := Lib.hid (by unfold withinFault; rw [if_neg (fun h => hf (by rw [← E1.out]; exact h.1)), E1.out])
  have N1 : Hid (faultOf l [s] ≠ 0) := Lib.hid (by rw [E1.out]; exact hf)
  have N2 : Hid (faultOf l [s, t] ≠ 0) := Lib.hid (by rw [E2.out]; exact hf)
  have N3 : Hid (withinFault l s d ≠ 0) := Lib.hid (by rw [E3.out]; exact hf)
  have N0 := Lib.hid hf
  have hz := fault_ne hf
  have H1 := Lib.hid h1
  have HL := Lib.hid hl
  have HB := Lib.hid hb
  have HS := Lib.hid hs
  have HT := Lib.hid ht
  have HTab := Lib.hid hT
  have B0 := Lib.hid (Below.refl w.heap.size w)
  clear h1 hl hb hs ht hT hf
  go_enter Tryd.func5, Tryd.ntmps5
  go_wp2_with fail
  refine (pFrom_bad l s _ (H1.out.below B0.out) HL.out hnb HB.out HS.out N1.out).mono ?_
  rintro e w1 ⟨rfl, hbn⟩
  have B1 := Lib.hid (below_then B0.out hbn)
  clear hbn
  rw [E1.out]
  go_wp2_with fail
  refine (pWithin_bad l s d _ (H1.out.below B1.out) HL.out hnb HB.out HS.out N3.out).mono ?_
  rintro e w2 ⟨rfl, hbn⟩
  have B2 := Lib.hid (below_then B1.out hbn)
  clear hbn
  rw [E3.out]
  go_wp2_with fail
  refine (pBack_bad l _ (H1.out.below B2.out) HL.out hnb HB.out N0.out).mono ?_
  rintro e w' ⟨rfl, rfl⟩
  go_wp2_with fail
  refine (pClose_bad l _ (H1.out.below B2.out) HL.out hnb HB.out N0.out).mono ?_
  rintro e w' ⟨rfl, rfl⟩
  go_wp2_with fail
  refine (pBetween_bad l s t _ (H1.out.below B2.out) HL.out hnb HB.out HS.out HT.out N2.out).mono ?_
  rintro e w3 ⟨rfl, hbn⟩
  have B3 := Lib.hid (below_then B2.out hbn)
  clear hbn
  rw [E2.out]
  go_wp2_with fail
  refine (rRowsFault_any l [] _ (H1.out.below B3.out) HL.out hnb HB.out (Rd.nil_ _ _) rfl (by decide) (rowAt_all (by simp))).mono ?_
  rintro e w4 ⟨rfl, hbn⟩
  have B4 := Lib.hid (below_then B3.out hbn)
  clear hbn
  go_wp2_with fail
  refine (pCheck_any l _ (H1.out.below B4.out) HL.out hnb HB.out).mono ?_
  rintro e w' ⟨rfl, rfl⟩
  go_wp2_with fail
  go_ret
  exact ⟨rfl, B4.out⟩
set_option maxRecDepth 100000 in
set_option maxHeartbeats 2000000 in
theorem reachTells_one {A : Option Addr} {n c : Nat} (l : List Nat) (s t : Nat) (d : Int) (w : World) (h1 : Rd w A (l.map uv)) (hl : l.length = n) (hnb : n ≤ 9223372036854775807) (hb : Rows64 l) (hs : B64 s) (ht : B64 t) (hT : Tab w) (h0 : faultOf l [] = 0) (e1 : faultOf l [s] = 4) (e2 : faultOf l [s, t] = 4) :
    Calls Tryd.prog 5 #[.slice A n c, .int .u64 s, .int .u64 t, .int .i64 d] w fun e w' => e = .returned (.bool true) ∧ Below w.heap.size w w' := by
  have F0 := Lib.hid h0
  have F1 := Lib.hid e1
  have F2 := Lib.hid e2
  have HG := Lib.hid (faultOf_ok hb (by simp) h0).1
  have hn : n ≤ 64 := by have := HG.out.1; omega
  have HTG := Lib.hid (turned_good HG.out)
  have HTL : Hid ((turned l).length = n) := Lib.hid (by rw [turned_len, hl])
  have HCL : Hid ((closed l).length = n) := Lib.hid (by rw [closed_len, hl])
  have R1 := Lib.hid (rows1 hs)
  have R2 := Lib.hid (rows2 hs ht)
  have W1 : Hid (withinFault l s d = 4) := Lib.hid (by unfold withinFault; rw [if_neg (fun h => by rw [e1] at h; exact absurd h.1 (by decide)), e1])
  have WN : Hid (withinFault l s d ≠ 0) := Lib.hid (by rw [W1.out]; decide)
  have N1 : Hid (faultOf l [s] ≠ 0) := Lib.hid (by rw [e1]; decide)
  have N2 : Hid (faultOf l [s, t] ≠ 0) := Lib.hid (by rw [e2]; decide)
  have H1 := Lib.hid h1
  have HL := Lib.hid hl
  have HB := Lib.hid hb
  have HS := Lib.hid hs
  have HT := Lib.hid ht
  have HTab := Lib.hid hT
  have B0 := Lib.hid (Below.refl w.heap.size w)
  clear h1 hl hb hs ht hT h0 e1 e2
  go_enter Tryd.func5, Tryd.ntmps5
  go_wp2_with fail
  refine (pFrom_bad l s _ (H1.out.below B0.out) HL.out hnb HB.out HS.out N1.out).mono ?_
  rintro e w1 ⟨rfl, hbn⟩
  have B1 := Lib.hid (below_then B0.out hbn)
  clear hbn
  rw [F1.out]
  go_wp2_with fail
  refine (pWithin_bad l s d _ (H1.out.below B1.out) HL.out hnb HB.out HS.out WN.out).mono ?_
  rintro e w2 ⟨rfl, hbn⟩
  have B2 := Lib.hid (below_then B1.out hbn)
  clear hbn
  rw [W1.out]
  go_wp2_with fail
  refine (pBack_good l _ (H1.out.below B2.out) HL.out hnb HB.out F0.out (HTab.out.below B2.out)).mono ?_
  rintro e w3 ⟨A3, c3, rfl, hown, hbn⟩
  have B3 := Lib.hid (below_then B2.out hbn)
  clear hbn
  have HC := Lib.hid (Rd.of_own hown)
  clear hown
  go_wp2_with fail
  refine (pClose_good l _ (H1.out.below B3.out) HL.out hnb HB.out F0.out (HTab.out.below B3.out)).mono ?_
  rintro e w4 ⟨A4, c4, rfl, hown, hbn⟩
  have HC4 := Lib.hid (HC.out.below hbn)
  have B4 := Lib.hid (below_then B3.out hbn)
  clear hbn
  have HD := Lib.hid (Rd.of_own hown)
  clear hown
  go_wp2_with fail
  refine (pBetween_bad l s t _ (H1.out.below B4.out) HL.out hnb HB.out HS.out HT.out N2.out).mono ?_
  rintro e w5 ⟨rfl, hbn⟩
  have HC5 := Lib.hid (HC4.out.below hbn)
  have HD5 := Lib.hid (HD.out.below hbn)
  have B5 := Lib.hid (below_then B4.out hbn)
  clear hbn
  rw [F2.out]
  go_wp2_with fail
  refine (rRowsFault_any l [] _ (H1.out.below B5.out) HL.out hnb HB.out (Rd.nil_ _ _) rfl (by decide) (rowAt_all (by simp))).mono ?_
  rintro e w6 ⟨rfl, hbn⟩
  have HC6 := Lib.hid (HC5.out.below hbn)
  have HD6 := Lib.hid (HD5.out.below hbn)
  have B6 := Lib.hid (below_then B5.out hbn)
  clear hbn
  rw [F0.out]
  go_wp2_with fail
  refine (pCheck_any l _ (H1.out.below B6.out) HL.out hnb HB.out).mono ?_
  rintro e w' ⟨rfl, rfl⟩
  rw [F0.out]
  go_wp2_with fail
  refine (rTurned_any l _ (H1.out.below B6.out) HL.out hn HB.out).mono ?_
  rintro e w7 ⟨A7, c7, rfl, hown, hbn⟩
  have HC7 := Lib.hid (HC6.out.below hbn)
  have HD7 := Lib.hid (HD6.out.below hbn)
  have B7 := Lib.hid (below_then B6.out hbn)
  clear hbn
  have HU := Lib.hid (Rd.of_own hown)
  clear hown
  go_wp2_with fail
  refine (slEq_uv (turned l) (turned l) HC7.out HU.out HTL.out HTL.out hnb hnb).mono ?_
  rintro e w8 ⟨rfl, hbn⟩
  have HD8 := Lib.hid (HD7.out.below hbn)
  have HU8 := Lib.hid (HU.out.below hbn)
  have B8 := Lib.hid (below_then B7.out hbn)
  clear hbn
  rw [decide_eq_true (rfl : turned l = turned l)]
  go_wp2_with fail
  go_loopw [21, 130] (fun _ i wr => ∃ k : Nat, k ≤ n ∧ i = .int .i64 k ∧ Hid (Below w8.heap.size w8 wr)) (fun _ i _ => n - (intOf i).toNat)
  case atStart => exact ⟨0, by omega, rfl, Lib.hid (Below.refl _ _)⟩
  case round =>
    obtain ⟨k, hk, rfl, hbr⟩ := hrel
    by_cases hlt : k < n
    · have hkl : k < l.length := by rw [HL.out]; exact hlt
      obtain ⟨b1, o1, rfl, x1⟩ := ((H1.out.below B8.out).below hbr.out).set hkl
      obtain ⟨b2, o2, rfl, x2⟩ := (HD8.out.below hbr.out).set (k := k) (by rw [HCL.out]; exact hlt)
      rw [rowAt_closed l k hkl] at x2
      have HIN : Hid (InRows l (rowAt l k)) := Lib.hid (fun j hj => HG.out.2 k j hj)
      have HR8 := Lib.hid ((H1.out.below B8.out).below hbr.out)
      clear hkl
      go_wp2
      go_quiet ((go_at_call 30; exact quiet_left (rSteps_any l (rowAt l k) (-1) _ (HR8.out.drewN _) HL.out HG.out HIN.out (by decide) (by decide))))
      go_wp2
      go_roundw
      case rel => exact ⟨k + 1, by omega, by go_num, Lib.hid (below_drewN hbr.out _)⟩
      case measure => simp [intOf]; omega
    · have B9 := Lib.hid (below_then B8.out hbr.out)
      have HU9 := Lib.hid (HU8.out.below hbr.out)
      clear hk
      go_wp2_with fail
      refine (rRowsFault_any l [s] _ ((H1.out.below B9.out).alloc _) HL.out hnb HB.out (rd_lit _ _ _ _ _ rfl rfl) rfl (by simp) R1.out).mono ?_
      rintro e w10 ⟨rfl, hbn⟩
      have B10 := Lib.hid (below_then (below_new B9.out _) hbn)
      have HU10 := Lib.hid ((HU9.out.alloc _).below hbn)
      clear hbn
      rw [F1.out]
      go_wp2_with fail
      refine (rRowsFault_any l [s, t] _ ((H1.out.below B10.out).alloc _) HL.out hnb HB.out (rd_lit _ _ _ _ _ rfl rfl) rfl (by simp) R2.out).mono ?_
      rintro e w11 ⟨rfl, hbn⟩
      have B11 := Lib.hid (below_then (below_new B10.out _) hbn)
      have HU11 := Lib.hid ((HU10.out.alloc _).below hbn)
      clear hbn
      rw [F2.out]
      go_wp2_with fail
      go_ret
      exact ⟨rfl, B11.out⟩
set_option maxRecDepth 100000 in
set_option maxHeartbeats 2000000 in
theorem reachTells_bothNeg {A : Option Addr} {n c : Nat} (l : List Nat) (s t : Nat) (d : Int) (w : World) (h1 : Rd w A (l.map uv)) (hl : l.length = n) (hnb : n ≤ 9223372036854775807) (hb : Rows64 l) (hs : B64 s) (ht : B64 t) (hT : Tab w) (h0 : faultOf l [] = 0) (e1 : faultOf l [s] = 0) (e2 : faultOf l [s, t] = 4) (hdn : d < 0) :
    Calls Tryd.prog 5 #[.slice A n c, .int .u64 s, .int .u64 t, .int .i64 d] w fun e w' => e = .returned (.bool true) ∧ Below w.heap.size w w' := by
  have F0 := Lib.hid h0
  have F1 := Lib.hid e1
  have F2 := Lib.hid e2
  have HG := Lib.hid (faultOf_ok hb (by simp) h0).1
  have hn : n ≤ 64 := by have := HG.out.1; omega
  have HTG := Lib.hid (turned_good HG.out)
  have HTL : Hid ((turned l).length = n) := Lib.hid (by rw [turned_len, hl])
  have HCL : Hid ((closed l).length = n) := Lib.hid (by rw [closed_len, hl])
  have R1 := Lib.hid (rows1 hs)
  have R2 := Lib.hid (rows2 hs ht)
  have HI : Hid (InRows l s) := Lib.hid ((faultOf_ok hb (by intro x hx; rw [List.mem_singleton] at hx; rw [hx]; exact hs) e1).2 s (List.mem_singleton_self s))
  have W1 : Hid (withinFault l s d = 1) := Lib.hid (by unfold withinFault; rw [if_pos ⟨e1, hdn⟩])
  have WN : Hid (withinFault l s d ≠ 0) := Lib.hid (by rw [W1.out]; decide)
  have N2 : Hid (faultOf l [s, t] ≠ 0) := Lib.hid (by rw [e2]; decide)
  have H1 := Lib.hid h1
  have HL := Lib.hid hl
  have HB := Lib.hid hb
  have HS := Lib.hid hs
  have HT := Lib.hid ht
  have HTab := Lib.hid hT
  have B0 := Lib.hid (Below.refl w.heap.size w)
  clear h1 hl hb hs ht hT h0 e1 e2
  go_enter Tryd.func5, Tryd.ntmps5
  go_wp2_with fail
  refine (pFrom_good l s _ (H1.out.below B0.out) HL.out hnb HB.out HS.out F1.out (HTab.out.below B0.out)).mono ?_
  rintro e w1 ⟨rfl, hbn⟩
  have B1 := Lib.hid (below_then B0.out hbn)
  clear hbn
  go_wp2_with fail
  refine (pWithin_bad l s d _ (H1.out.below B1.out) HL.out hnb HB.out HS.out WN.out).mono ?_
  rintro e w2 ⟨rfl, hbn⟩
  have B2 := Lib.hid (below_then B1.out hbn)
  clear hbn
  rw [W1.out]
  go_wp2_with fail
  refine (pBack_good l _ (H1.out.below B2.out) HL.out hnb HB.out F0.out (HTab.out.below B2.out)).mono ?_
  rintro e w3 ⟨A3, c3, rfl, hown, hbn⟩
  have B3 := Lib.hid (below_then B2.out hbn)
  clear hbn
  have HC := Lib.hid (Rd.of_own hown)
  clear hown
  go_wp2_with fail
  refine (pClose_good l _ (H1.out.below B3.out) HL.out hnb HB.out F0.out (HTab.out.below B3.out)).mono ?_
  rintro e w4 ⟨A4, c4, rfl, hown, hbn⟩
  have HC4 := Lib.hid (HC.out.below hbn)
  have B4 := Lib.hid (below_then B3.out hbn)
  clear hbn
  have HD := Lib.hid (Rd.of_own hown)
  clear hown
  go_wp2_with fail
  refine (pBetween_bad l s t _ (H1.out.below B4.out) HL.out hnb HB.out HS.out HT.out N2.out).mono ?_
  rintro e w5 ⟨rfl, hbn⟩
  have HC5 := Lib.hid (HC4.out.below hbn)
  have HD5 := Lib.hid (HD.out.below hbn)
  have B5 := Lib.hid (below_then B4.out hbn)
  clear hbn
  rw [F2.out]
  go_wp2_with fail
  refine (rRowsFault_any l [] _ (H1.out.below B5.out) HL.out hnb HB.out (Rd.nil_ _ _) rfl (by decide) (rowAt_all (by simp))).mono ?_
  rintro e w6 ⟨rfl, hbn⟩
  have HC6 := Lib.hid (HC5.out.below hbn)
  have HD6 := Lib.hid (HD5.out.below hbn)
  have B6 := Lib.hid (below_then B5.out hbn)
  clear hbn
  rw [F0.out]
  go_wp2_with fail
  refine (pCheck_any l _ (H1.out.below B6.out) HL.out hnb HB.out).mono ?_
  rintro e w' ⟨rfl, rfl⟩
  rw [F0.out]
  go_wp2_with fail
  refine (rTurned_any l _ (H1.out.below B6.out) HL.out hn HB.out).mono ?_
  rintro e w7 ⟨A7, c7, rfl, hown, hbn⟩
  have HC7 := Lib.hid (HC6.out.below hbn)
  have HD7 := Lib.hid (HD6.out.below hbn)
  have B7 := Lib.hid (below_then B6.out hbn)
  clear hbn
  have HU := Lib.hid (Rd.of_own hown)
  clear hown
  go_wp2_with fail
  refine (slEq_uv (turned l) (turned l) HC7.out HU.out HTL.out HTL.out hnb hnb).mono ?_
  rintro e w8 ⟨rfl, hbn⟩
  have HD8 := Lib.hid (HD7.out.below hbn)
  have HU8 := Lib.hid (HU.out.below hbn)
  have B8 := Lib.hid (below_then B7.out hbn)
  clear hbn
  rw [decide_eq_true (rfl : turned l = turned l)]
  go_wp2_with fail
  go_loopw [21, 130] (fun _ i wr => ∃ k : Nat, k ≤ n ∧ i = .int .i64 k ∧ Hid (Below w8.heap.size w8 wr)) (fun _ i _ => n - (intOf i).toNat)
  case atStart => exact ⟨0, by omega, rfl, Lib.hid (Below.refl _ _)⟩
  case round =>
    obtain ⟨k, hk, rfl, hbr⟩ := hrel
    by_cases hlt : k < n
    · have hkl : k < l.length := by rw [HL.out]; exact hlt
      obtain ⟨b1, o1, rfl, x1⟩ := ((H1.out.below B8.out).below hbr.out).set hkl
      obtain ⟨b2, o2, rfl, x2⟩ := (HD8.out.below hbr.out).set (k := k) (by rw [HCL.out]; exact hlt)
      rw [rowAt_closed l k hkl] at x2
      have HIN : Hid (InRows l (rowAt l k)) := Lib.hid (fun j hj => HG.out.2 k j hj)
      have HR8 := Lib.hid ((H1.out.below B8.out).below hbr.out)
      clear hkl
      go_wp2
      go_quiet ((go_at_call 30; exact quiet_left (rSteps_any l (rowAt l k) (-1) _ (HR8.out.drewN _) HL.out HG.out HIN.out (by decide) (by decide))))
      go_wp2
      go_roundw
      case rel => exact ⟨k + 1, by omega, by go_num, Lib.hid (below_drewN hbr.out _)⟩
      case measure => simp [intOf]; omega
    · have B9 := Lib.hid (below_then B8.out hbr.out)
      have HU9 := Lib.hid (HU8.out.below hbr.out)
      clear hk
      go_wp2_with fail
      refine (rRowsFault_any l [s] _ ((H1.out.below B9.out).alloc _) HL.out hnb HB.out (rd_lit _ _ _ _ _ rfl rfl) rfl (by simp) R1.out).mono ?_
      rintro e w10 ⟨rfl, hbn⟩
      have B10 := Lib.hid (below_then (below_new B9.out _) hbn)
      have HU10 := Lib.hid ((HU9.out.alloc _).below hbn)
      clear hbn
      rw [F1.out]
      go_wp2_with fail
      refine (rRowsFault_any l [s, t] _ ((H1.out.below B10.out).alloc _) HL.out hnb HB.out (rd_lit _ _ _ _ _ rfl rfl) rfl (by simp) R2.out).mono ?_
      rintro e w11 ⟨rfl, hbn⟩
      have B11 := Lib.hid (below_then (below_new B10.out _) hbn)
      have HU11 := Lib.hid ((HU10.out.alloc _).below hbn)
      clear hbn
      rw [F2.out]
      go_wp2_with fail
      refine (rSteps_any l s (-1) _ (H1.out.below B11.out) HL.out HG.out HI.out (by decide) (by decide)).mono ?_
      rintro e w' ⟨rfl, rfl⟩
      go_wp2_with fail
      go_ret
      exact ⟨rfl, B11.out⟩
set_option maxRecDepth 100000 in
set_option maxHeartbeats 2000000 in
theorem reachTells_bothPos {A : Option Addr} {n c : Nat} (l : List Nat) (s t : Nat) (d : Int) (w : World) (h1 : Rd w A (l.map uv)) (hl : l.length = n) (hnb : n ≤ 9223372036854775807) (hb : Rows64 l) (hs : B64 s) (ht : B64 t) (hd : d ≤ 9223372036854775807) (hT : Tab w) (h0 : faultOf l [] = 0) (e1 : faultOf l [s] = 0) (e2 : faultOf l [s, t] = 4) (hdn : 0 ≤ d) :
    Calls Tryd.prog 5 #[.slice A n c, .int .u64 s, .int .u64 t, .int .i64 d] w fun e w' => e = .returned (.bool true) ∧ Below w.heap.size w w' := by
  have F0 := Lib.hid h0
  have F1 := Lib.hid e1
  have F2 := Lib.hid e2
  have HG := Lib.hid (faultOf_ok hb (by simp) h0).1
  have hn : n ≤ 64 := by have := HG.out.1; omega
  have HTG := Lib.hid (turned_good HG.out)
  have HTL : Hid ((turned l).length = n) := Lib.hid (by rw [turned_len, hl])
  have HCL : Hid ((closed l).length = n) := Lib.hid (by rw [closed_len, hl])
  have R1 := Lib.hid (rows1 hs)
  have R2 := Lib.hid (rows2 hs ht)
  have HI : Hid (InRows l s) := Lib.hid ((faultOf_ok hb (by intro x hx; rw [List.mem_singleton] at hx; rw [hx]; exact hs) e1).2 s (List.mem_singleton_self s))
  have N2 : Hid (faultOf l [s, t] ≠ 0) := Lib.hid (by rw [e2]; decide)
  have H1 := Lib.hid h1
  have HL := Lib.hid hl
  have HB := Lib.hid hb
  have HS := Lib.hid hs
  have HT := Lib.hid ht
  have HTab := Lib.hid hT
  have B0 := Lib.hid (Below.refl w.heap.size w)
  clear h1 hl hb hs ht hT h0 e1 e2
  go_enter Tryd.func5, Tryd.ntmps5
  go_wp2_with fail
  refine (pFrom_good l s _ (H1.out.below B0.out) HL.out hnb HB.out HS.out F1.out (HTab.out.below B0.out)).mono ?_
  rintro e w1 ⟨rfl, hbn⟩
  have B1 := Lib.hid (below_then B0.out hbn)
  clear hbn
  go_wp2_with fail
  refine (pWithin_good l s d _ (H1.out.below B1.out) HL.out hnb HB.out HS.out F1.out hdn hd (HTab.out.below B1.out)).mono ?_
  rintro e w2 ⟨rfl, hbn⟩
  have B2 := Lib.hid (below_then B1.out hbn)
  clear hbn
  go_wp2_with fail
  refine (pBack_good l _ (H1.out.below B2.out) HL.out hnb HB.out F0.out (HTab.out.below B2.out)).mono ?_
  rintro e w3 ⟨A3, c3, rfl, hown, hbn⟩
  have B3 := Lib.hid (below_then B2.out hbn)
  clear hbn
  have HC := Lib.hid (Rd.of_own hown)
  clear hown
  go_wp2_with fail
  refine (pClose_good l _ (H1.out.below B3.out) HL.out hnb HB.out F0.out (HTab.out.below B3.out)).mono ?_
  rintro e w4 ⟨A4, c4, rfl, hown, hbn⟩
  have HC4 := Lib.hid (HC.out.below hbn)
  have B4 := Lib.hid (below_then B3.out hbn)
  clear hbn
  have HD := Lib.hid (Rd.of_own hown)
  clear hown
  go_wp2_with fail
  refine (pBetween_bad l s t _ (H1.out.below B4.out) HL.out hnb HB.out HS.out HT.out N2.out).mono ?_
  rintro e w5 ⟨rfl, hbn⟩
  have HC5 := Lib.hid (HC4.out.below hbn)
  have HD5 := Lib.hid (HD.out.below hbn)
  have B5 := Lib.hid (below_then B4.out hbn)
  clear hbn
  rw [F2.out]
  go_wp2_with fail
  refine (rRowsFault_any l [] _ (H1.out.below B5.out) HL.out hnb HB.out (Rd.nil_ _ _) rfl (by decide) (rowAt_all (by simp))).mono ?_
  rintro e w6 ⟨rfl, hbn⟩
  have HC6 := Lib.hid (HC5.out.below hbn)
  have HD6 := Lib.hid (HD5.out.below hbn)
  have B6 := Lib.hid (below_then B5.out hbn)
  clear hbn
  rw [F0.out]
  go_wp2_with fail
  refine (pCheck_any l _ (H1.out.below B6.out) HL.out hnb HB.out).mono ?_
  rintro e w' ⟨rfl, rfl⟩
  rw [F0.out]
  go_wp2_with fail
  refine (rTurned_any l _ (H1.out.below B6.out) HL.out hn HB.out).mono ?_
  rintro e w7 ⟨A7, c7, rfl, hown, hbn⟩
  have HC7 := Lib.hid (HC6.out.below hbn)
  have HD7 := Lib.hid (HD6.out.below hbn)
  have B7 := Lib.hid (below_then B6.out hbn)
  clear hbn
  have HU := Lib.hid (Rd.of_own hown)
  clear hown
  go_wp2_with fail
  refine (slEq_uv (turned l) (turned l) HC7.out HU.out HTL.out HTL.out hnb hnb).mono ?_
  rintro e w8 ⟨rfl, hbn⟩
  have HD8 := Lib.hid (HD7.out.below hbn)
  have HU8 := Lib.hid (HU.out.below hbn)
  have B8 := Lib.hid (below_then B7.out hbn)
  clear hbn
  rw [decide_eq_true (rfl : turned l = turned l)]
  go_wp2_with fail
  go_loopw [21, 130] (fun _ i wr => ∃ k : Nat, k ≤ n ∧ i = .int .i64 k ∧ Hid (Below w8.heap.size w8 wr)) (fun _ i _ => n - (intOf i).toNat)
  case atStart => exact ⟨0, by omega, rfl, Lib.hid (Below.refl _ _)⟩
  case round =>
    obtain ⟨k, hk, rfl, hbr⟩ := hrel
    by_cases hlt : k < n
    · have hkl : k < l.length := by rw [HL.out]; exact hlt
      obtain ⟨b1, o1, rfl, x1⟩ := ((H1.out.below B8.out).below hbr.out).set hkl
      obtain ⟨b2, o2, rfl, x2⟩ := (HD8.out.below hbr.out).set (k := k) (by rw [HCL.out]; exact hlt)
      rw [rowAt_closed l k hkl] at x2
      have HIN : Hid (InRows l (rowAt l k)) := Lib.hid (fun j hj => HG.out.2 k j hj)
      have HR8 := Lib.hid ((H1.out.below B8.out).below hbr.out)
      clear hkl
      go_wp2
      go_quiet ((go_at_call 30; exact quiet_left (rSteps_any l (rowAt l k) (-1) _ (HR8.out.drewN _) HL.out HG.out HIN.out (by decide) (by decide))))
      go_wp2
      go_roundw
      case rel => exact ⟨k + 1, by omega, by go_num, Lib.hid (below_drewN hbr.out _)⟩
      case measure => simp [intOf]; omega
    · have B9 := Lib.hid (below_then B8.out hbr.out)
      have HU9 := Lib.hid (HU8.out.below hbr.out)
      clear hk
      go_wp2_with fail
      refine (rRowsFault_any l [s] _ ((H1.out.below B9.out).alloc _) HL.out hnb HB.out (rd_lit _ _ _ _ _ rfl rfl) rfl (by simp) R1.out).mono ?_
      rintro e w10 ⟨rfl, hbn⟩
      have B10 := Lib.hid (below_then (below_new B9.out _) hbn)
      have HU10 := Lib.hid ((HU9.out.alloc _).below hbn)
      clear hbn
      rw [F1.out]
      go_wp2_with fail
      refine (rRowsFault_any l [s, t] _ ((H1.out.below B10.out).alloc _) HL.out hnb HB.out (rd_lit _ _ _ _ _ rfl rfl) rfl (by simp) R2.out).mono ?_
      rintro e w11 ⟨rfl, hbn⟩
      have B11 := Lib.hid (below_then (below_new B10.out _) hbn)
      have HU11 := Lib.hid ((HU10.out.alloc _).below hbn)
      clear hbn
      rw [F2.out]
      go_wp2_with fail
      refine (rSteps_any l s (-1) _ (H1.out.below B11.out) HL.out HG.out HI.out (by decide) (by decide)).mono ?_
      rintro e w' ⟨rfl, rfl⟩
      go_wp2_with fail
      refine (rSteps_any l s d _ (H1.out.below B11.out) HL.out HG.out HI.out (by omega) hd).mono ?_
      rintro e w' ⟨rfl, rfl⟩
      go_wp2_with fail
      go_ret
      exact ⟨rfl, B11.out⟩
set_option maxRecDepth 100000 in
set_option maxHeartbeats 2000000 in
theorem reachTells_okNeg {A : Option Addr} {n c : Nat} (l : List Nat) (s t : Nat) (d : Int) (w : World) (h1 : Rd w A (l.map uv)) (hl : l.length = n) (hnb : n ≤ 9223372036854775807) (hb : Rows64 l) (hs : B64 s) (ht : B64 t) (hT : Tab w) (h0 : faultOf l [] = 0) (e1 : faultOf l [s] = 0) (e2 : faultOf l [s, t] = 0) (hdn : d < 0) :
    Calls Tryd.prog 5 #[.slice A n c, .int .u64 s, .int .u64 t, .int .i64 d] w fun e w' => e = .returned (.bool true) ∧ Below w.heap.size w w' := by
  have F0 := Lib.hid h0
  have F1 := Lib.hid e1
  have F2 := Lib.hid e2
  have HG := Lib.hid (faultOf_ok hb (by simp) h0).1
  have hn : n ≤ 64 := by have := HG.out.1; omega
  have HTG := Lib.hid (turned_good HG.out)
  have HTL : Hid ((turned l).length = n) := Lib.hid (by rw [turned_len, hl])
  have HCL : Hid ((closed l).length = n) := Lib.hid (by rw [closed_len, hl])
  have R1 := Lib.hid (rows1 hs)
  have R2 := Lib.hid (rows2 hs ht)
  have HI : Hid (InRows l s) := Lib.hid ((faultOf_ok hb (by intro x hx; rw [List.mem_singleton] at hx; rw [hx]; exact hs) e1).2 s (List.mem_singleton_self s))
  have hok2 := (faultOf_ok hb (by
    intro x hx
    rcases List.mem_cons.1 hx with h | h
    · rw [h]; exact hs
    · rw [List.mem_singleton] at h; rw [h]; exact ht) e2).2
  have HJ : Hid (InRows (turned l) t) := Lib.hid (fun j hj => by rw [turned_len]; exact hok2 t (by simp) j hj)
  have Q1 := Lib.hid ((reachD_in HG.out HI.out (-1)).b64 HG.out)
  have Q2 := Lib.hid ((reachD_in HTG.out HJ.out (-1)).b64 HTG.out)
  have hraw := u64_and_nat _ _ Q1.out Q2.out
  clear hok2
  have W1 : Hid (withinFault l s d = 1) := Lib.hid (by unfold withinFault; rw [if_pos ⟨e1, hdn⟩])
  have WN : Hid (withinFault l s d ≠ 0) := Lib.hid (by rw [W1.out]; decide)
  have H1 := Lib.hid h1
  have HL := Lib.hid hl
  have HB := Lib.hid hb
  have HS := Lib.hid hs
  have HT := Lib.hid ht
  have HTab := Lib.hid hT
  have B0 := Lib.hid (Below.refl w.heap.size w)
  clear h1 hl hb hs ht hT h0 e1 e2
  go_enter Tryd.func5, Tryd.ntmps5
  go_wp2_with fail
  refine (pFrom_good l s _ (H1.out.below B0.out) HL.out hnb HB.out HS.out F1.out (HTab.out.below B0.out)).mono ?_
  rintro e w1 ⟨rfl, hbn⟩
  have B1 := Lib.hid (below_then B0.out hbn)
  clear hbn
  go_wp2_with fail
  refine (pWithin_bad l s d _ (H1.out.below B1.out) HL.out hnb HB.out HS.out WN.out).mono ?_
  rintro e w2 ⟨rfl, hbn⟩
  have B2 := Lib.hid (below_then B1.out hbn)
  clear hbn
  rw [W1.out]
  go_wp2_with fail
  refine (pBack_good l _ (H1.out.below B2.out) HL.out hnb HB.out F0.out (HTab.out.below B2.out)).mono ?_
  rintro e w3 ⟨A3, c3, rfl, hown, hbn⟩
  have B3 := Lib.hid (below_then B2.out hbn)
  clear hbn
  have HC := Lib.hid (Rd.of_own hown)
  clear hown
  go_wp2_with fail
  refine (pClose_good l _ (H1.out.below B3.out) HL.out hnb HB.out F0.out (HTab.out.below B3.out)).mono ?_
  rintro e w4 ⟨A4, c4, rfl, hown, hbn⟩
  have HC4 := Lib.hid (HC.out.below hbn)
  have B4 := Lib.hid (below_then B3.out hbn)
  clear hbn
  have HD := Lib.hid (Rd.of_own hown)
  clear hown
  go_wp2_with fail
  refine (pBetween_good l s t _ (H1.out.below B4.out) HL.out hnb HB.out HS.out HT.out F2.out (HTab.out.below B4.out)).mono ?_
  rintro e w5 ⟨rfl, hbn⟩
  have HC5 := Lib.hid (HC4.out.below hbn)
  have HD5 := Lib.hid (HD.out.below hbn)
  have B5 := Lib.hid (below_then B4.out hbn)
  clear hbn
  go_wp2_with fail
  refine (rRowsFault_any l [] _ (H1.out.below B5.out) HL.out hnb HB.out (Rd.nil_ _ _) rfl (by decide) (rowAt_all (by simp))).mono ?_
  rintro e w6 ⟨rfl, hbn⟩
  have HC6 := Lib.hid (HC5.out.below hbn)
  have HD6 := Lib.hid (HD5.out.below hbn)
  have B6 := Lib.hid (below_then B5.out hbn)
  clear hbn
  rw [F0.out]
  go_wp2_with fail
  refine (pCheck_any l _ (H1.out.below B6.out) HL.out hnb HB.out).mono ?_
  rintro e w' ⟨rfl, rfl⟩
  rw [F0.out]
  go_wp2_with fail
  refine (rTurned_any l _ (H1.out.below B6.out) HL.out hn HB.out).mono ?_
  rintro e w7 ⟨A7, c7, rfl, hown, hbn⟩
  have HC7 := Lib.hid (HC6.out.below hbn)
  have HD7 := Lib.hid (HD6.out.below hbn)
  have B7 := Lib.hid (below_then B6.out hbn)
  clear hbn
  have HU := Lib.hid (Rd.of_own hown)
  clear hown
  go_wp2_with fail
  refine (slEq_uv (turned l) (turned l) HC7.out HU.out HTL.out HTL.out hnb hnb).mono ?_
  rintro e w8 ⟨rfl, hbn⟩
  have HD8 := Lib.hid (HD7.out.below hbn)
  have HU8 := Lib.hid (HU.out.below hbn)
  have B8 := Lib.hid (below_then B7.out hbn)
  clear hbn
  rw [decide_eq_true (rfl : turned l = turned l)]
  go_wp2_with fail
  go_loopw [21, 130] (fun _ i wr => ∃ k : Nat, k ≤ n ∧ i = .int .i64 k ∧ Hid (Below w8.heap.size w8 wr)) (fun _ i _ => n - (intOf i).toNat)
  case atStart => exact ⟨0, by omega, rfl, Lib.hid (Below.refl _ _)⟩
  case round =>
    obtain ⟨k, hk, rfl, hbr⟩ := hrel
    by_cases hlt : k < n
    · have hkl : k < l.length := by rw [HL.out]; exact hlt
      obtain ⟨b1, o1, rfl, x1⟩ := ((H1.out.below B8.out).below hbr.out).set hkl
      obtain ⟨b2, o2, rfl, x2⟩ := (HD8.out.below hbr.out).set (k := k) (by rw [HCL.out]; exact hlt)
      rw [rowAt_closed l k hkl] at x2
      have HIN : Hid (InRows l (rowAt l k)) := Lib.hid (fun j hj => HG.out.2 k j hj)
      have HR8 := Lib.hid ((H1.out.below B8.out).below hbr.out)
      clear hkl
      go_wp2
      go_quiet ((go_at_call 30; exact quiet_left (rSteps_any l (rowAt l k) (-1) _ (HR8.out.drewN _) HL.out HG.out HIN.out (by decide) (by decide))))
      go_wp2
      go_roundw
      case rel => exact ⟨k + 1, by omega, by go_num, Lib.hid (below_drewN hbr.out _)⟩
      case measure => simp [intOf]; omega
    · have B9 := Lib.hid (below_then B8.out hbr.out)
      have HU9 := Lib.hid (HU8.out.below hbr.out)
      clear hk
      go_wp2_with fail
      refine (rRowsFault_any l [s] _ ((H1.out.below B9.out).alloc _) HL.out hnb HB.out (rd_lit _ _ _ _ _ rfl rfl) rfl (by simp) R1.out).mono ?_
      rintro e w10 ⟨rfl, hbn⟩
      have B10 := Lib.hid (below_then (below_new B9.out _) hbn)
      have HU10 := Lib.hid ((HU9.out.alloc _).below hbn)
      clear hbn
      rw [F1.out]
      go_wp2_with fail
      refine (rRowsFault_any l [s, t] _ ((H1.out.below B10.out).alloc _) HL.out hnb HB.out (rd_lit _ _ _ _ _ rfl rfl) rfl (by simp) R2.out).mono ?_
      rintro e w11 ⟨rfl, hbn⟩
      have B11 := Lib.hid (below_then (below_new B10.out _) hbn)
      have HU11 := Lib.hid ((HU10.out.alloc _).below hbn)
      clear hbn
      rw [F2.out]
      go_wp2_with fail
      refine (rSteps_any l s (-1) _ (H1.out.below B11.out) HL.out HG.out HI.out (by decide) (by decide)).mono ?_
      rintro e w' ⟨rfl, rfl⟩
      go_wp2_with fail
      refine (rSteps_any l s (-1) _ (H1.out.below B11.out) HL.out HG.out HI.out (by decide) (by decide)).mono ?_
      rintro e w' ⟨rfl, rfl⟩
      go_wp2_with fail
      refine (rSteps_any (turned l) t (-1) _ HU11.out HTL.out HTG.out HJ.out (by decide) (by decide)).mono ?_
      rintro e w' ⟨rfl, rfl⟩
      go_wp2_with fail
      go_ret
      exact ⟨rfl, B11.out⟩
set_option maxRecDepth 100000 in
set_option maxHeartbeats 2000000 in
theorem reachTells_okPos {A : Option Addr} {n c : Nat} (l : List Nat) (s t : Nat) (d : Int) (w : World) (h1 : Rd w A (l.map uv)) (hl : l.length = n) (hnb : n ≤ 9223372036854775807) (hb : Rows64 l) (hs : B64 s) (ht : B64 t) (hd : d ≤ 9223372036854775807) (hT : Tab w) (h0 : faultOf l [] = 0) (e1 : faultOf l [s] = 0) (e2 : faultOf l [s, t] = 0) (hdn : 0 ≤ d) :
    Calls Tryd.prog 5 #[.slice A n c, .int .u64 s, .int .u64 t, .int .i64 d] w fun e w' => e = .returned (.bool true) ∧ Below w.heap.size w w' := by
  have F0 := Lib.hid h0
  have F1 := Lib.hid e1
  have F2 := Lib.hid e2
  have HG := Lib.hid (faultOf_ok hb (by simp) h0).1
  have hn : n ≤ 64 := by have := HG.out.1; omega
  have HTG := Lib.hid (turned_good HG.out)
  have HTL : Hid ((turned l).length = n) := Lib.hid (by rw [turned_len, hl])
  have HCL : Hid ((closed l).length = n) := Lib.hid (by rw [closed_len, hl])
  have R1 := Lib.hid (rows1 hs)
  have R2 := Lib.hid (rows2 hs ht)
  have HI : Hid (InRows l s) := Lib.hid ((faultOf_ok hb (by intro x hx; rw [List.mem_singleton] at hx; rw [hx]; exact hs) e1).2 s (List.mem_singleton_self s))
  have hok2 := (faultOf_ok hb (by
    intro x hx
    rcases List.mem_cons.1 hx with h | h
    · rw [h]; exact hs
    · rw [List.mem_singleton] at h; rw [h]; exact ht) e2).2
  have HJ : Hid (InRows (turned l) t) := Lib.hid (fun j hj => by rw [turned_len]; exact hok2 t (by simp) j hj)
  have Q1 := Lib.hid ((reachD_in HG.out HI.out (-1)).b64 HG.out)
  have Q2 := Lib.hid ((reachD_in HTG.out HJ.out (-1)).b64 HTG.out)
  have hraw := u64_and_nat _ _ Q1.out Q2.out
  clear hok2
  have H1 := Lib.hid h1
  have HL := Lib.hid hl
  have HB := Lib.hid hb
  have HS := Lib.hid hs
  have HT := Lib.hid ht
  have HTab := Lib.hid hT
  have B0 := Lib.hid (Below.refl w.heap.size w)
  clear h1 hl hb hs ht hT h0 e1 e2
  go_enter Tryd.func5, Tryd.ntmps5
  go_wp2_with fail
  refine (pFrom_good l s _ (H1.out.below B0.out) HL.out hnb HB.out HS.out F1.out (HTab.out.below B0.out)).mono ?_
  rintro e w1 ⟨rfl, hbn⟩
  have B1 := Lib.hid (below_then B0.out hbn)
  clear hbn
  go_wp2_with fail
  refine (pWithin_good l s d _ (H1.out.below B1.out) HL.out hnb HB.out HS.out F1.out hdn hd (HTab.out.below B1.out)).mono ?_
  rintro e w2 ⟨rfl, hbn⟩
  have B2 := Lib.hid (below_then B1.out hbn)
  clear hbn
  go_wp2_with fail
  refine (pBack_good l _ (H1.out.below B2.out) HL.out hnb HB.out F0.out (HTab.out.below B2.out)).mono ?_
  rintro e w3 ⟨A3, c3, rfl, hown, hbn⟩
  have B3 := Lib.hid (below_then B2.out hbn)
  clear hbn
  have HC := Lib.hid (Rd.of_own hown)
  clear hown
  go_wp2_with fail
  refine (pClose_good l _ (H1.out.below B3.out) HL.out hnb HB.out F0.out (HTab.out.below B3.out)).mono ?_
  rintro e w4 ⟨A4, c4, rfl, hown, hbn⟩
  have HC4 := Lib.hid (HC.out.below hbn)
  have B4 := Lib.hid (below_then B3.out hbn)
  clear hbn
  have HD := Lib.hid (Rd.of_own hown)
  clear hown
  go_wp2_with fail
  refine (pBetween_good l s t _ (H1.out.below B4.out) HL.out hnb HB.out HS.out HT.out F2.out (HTab.out.below B4.out)).mono ?_
  rintro e w5 ⟨rfl, hbn⟩
  have HC5 := Lib.hid (HC4.out.below hbn)
  have HD5 := Lib.hid (HD.out.below hbn)
  have B5 := Lib.hid (below_then B4.out hbn)
  clear hbn
  go_wp2_with fail
  refine (rRowsFault_any l [] _ (H1.out.below B5.out) HL.out hnb HB.out (Rd.nil_ _ _) rfl (by decide) (rowAt_all (by simp))).mono ?_
  rintro e w6 ⟨rfl, hbn⟩
  have HC6 := Lib.hid (HC5.out.below hbn)
  have HD6 := Lib.hid (HD5.out.below hbn)
  have B6 := Lib.hid (below_then B5.out hbn)
  clear hbn
  rw [F0.out]
  go_wp2_with fail
  refine (pCheck_any l _ (H1.out.below B6.out) HL.out hnb HB.out).mono ?_
  rintro e w' ⟨rfl, rfl⟩
  rw [F0.out]
  go_wp2_with fail
  refine (rTurned_any l _ (H1.out.below B6.out) HL.out hn HB.out).mono ?_
  rintro e w7 ⟨A7, c7, rfl, hown, hbn⟩
  have HC7 := Lib.hid (HC6.out.below hbn)
  have HD7 := Lib.hid (HD6.out.below hbn)
  have B7 := Lib.hid (below_then B6.out hbn)
  clear hbn
  have HU := Lib.hid (Rd.of_own hown)
  clear hown
  go_wp2_with fail
  refine (slEq_uv (turned l) (turned l) HC7.out HU.out HTL.out HTL.out hnb hnb).mono ?_
  rintro e w8 ⟨rfl, hbn⟩
  have HD8 := Lib.hid (HD7.out.below hbn)
  have HU8 := Lib.hid (HU.out.below hbn)
  have B8 := Lib.hid (below_then B7.out hbn)
  clear hbn
  rw [decide_eq_true (rfl : turned l = turned l)]
  go_wp2_with fail
  go_loopw [21, 130] (fun _ i wr => ∃ k : Nat, k ≤ n ∧ i = .int .i64 k ∧ Hid (Below w8.heap.size w8 wr)) (fun _ i _ => n - (intOf i).toNat)
  case atStart => exact ⟨0, by omega, rfl, Lib.hid (Below.refl _ _)⟩
  case round =>
    obtain ⟨k, hk, rfl, hbr⟩ := hrel
    by_cases hlt : k < n
    · have hkl : k < l.length := by rw [HL.out]; exact hlt
      obtain ⟨b1, o1, rfl, x1⟩ := ((H1.out.below B8.out).below hbr.out).set hkl
      obtain ⟨b2, o2, rfl, x2⟩ := (HD8.out.below hbr.out).set (k := k) (by rw [HCL.out]; exact hlt)
      rw [rowAt_closed l k hkl] at x2
      have HIN : Hid (InRows l (rowAt l k)) := Lib.hid (fun j hj => HG.out.2 k j hj)
      have HR8 := Lib.hid ((H1.out.below B8.out).below hbr.out)
      clear hkl
      go_wp2
      go_quiet ((go_at_call 30; exact quiet_left (rSteps_any l (rowAt l k) (-1) _ (HR8.out.drewN _) HL.out HG.out HIN.out (by decide) (by decide))))
      go_wp2
      go_roundw
      case rel => exact ⟨k + 1, by omega, by go_num, Lib.hid (below_drewN hbr.out _)⟩
      case measure => simp [intOf]; omega
    · have B9 := Lib.hid (below_then B8.out hbr.out)
      have HU9 := Lib.hid (HU8.out.below hbr.out)
      clear hk
      go_wp2_with fail
      refine (rRowsFault_any l [s] _ ((H1.out.below B9.out).alloc _) HL.out hnb HB.out (rd_lit _ _ _ _ _ rfl rfl) rfl (by simp) R1.out).mono ?_
      rintro e w10 ⟨rfl, hbn⟩
      have B10 := Lib.hid (below_then (below_new B9.out _) hbn)
      have HU10 := Lib.hid ((HU9.out.alloc _).below hbn)
      clear hbn
      rw [F1.out]
      go_wp2_with fail
      refine (rRowsFault_any l [s, t] _ ((H1.out.below B10.out).alloc _) HL.out hnb HB.out (rd_lit _ _ _ _ _ rfl rfl) rfl (by simp) R2.out).mono ?_
      rintro e w11 ⟨rfl, hbn⟩
      have B11 := Lib.hid (below_then (below_new B10.out _) hbn)
      have HU11 := Lib.hid ((HU10.out.alloc _).below hbn)
      clear hbn
      rw [F2.out]
      go_wp2_with fail
      refine (rSteps_any l s (-1) _ (H1.out.below B11.out) HL.out HG.out HI.out (by decide) (by decide)).mono ?_
      rintro e w' ⟨rfl, rfl⟩
      go_wp2_with fail
      refine (rSteps_any l s (-1) _ (H1.out.below B11.out) HL.out HG.out HI.out (by decide) (by decide)).mono ?_
      rintro e w' ⟨rfl, rfl⟩
      go_wp2_with fail
      refine (rSteps_any (turned l) t (-1) _ HU11.out HTL.out HTG.out HJ.out (by decide) (by decide)).mono ?_
      rintro e w' ⟨rfl, rfl⟩
      go_wp2_with fail
      refine (rSteps_any l s d _ (H1.out.below B11.out) HL.out HG.out HI.out (by omega) hd).mono ?_
      rintro e w' ⟨rfl, rfl⟩
      go_wp2_with fail
      go_ret
      exact ⟨rfl, B11.out⟩
theorem reachTells_walk (A : Option Addr) (c : Nat) (l : List Nat) (s t : Nat) (d : Int) (w : World) (h1 : Rd w A (l.map uv)) (hnb : l.length ≤ 9223372036854775807) (hb : ∀ x ∈ l, B64 x) (hs : B64 s) (ht : B64 t) (hd : (Lit.int .i64 d).wf = true) (hT : Tab w) :
    Calls Tryd.prog 5 #[.slice A l.length c, .int .u64 s, .int .u64 t, .int .i64 d] w fun e w' => e = .returned (.bool true) ∧ Below w.heap.size w w' := by
  have hb' := rowAt_all hb
  have hd' : d ≤ 9223372036854775807 := by
    simp [Lit.wf, IntKind.min, IntKind.max, IntKind.signed, IntKind.bits] at hd
    omega
  by_cases h0 : faultOf l [] = 0
  · by_cases e1 : faultOf l [s] = 0
    · by_cases e2 : faultOf l [s, t] = 0
      · by_cases hn : d < 0
        · exact reachTells_okNeg l s t d w h1 rfl hnb hb' hs ht hT h0 e1 e2 hn
        · exact reachTells_okPos l s t d w h1 rfl hnb hb' hs ht hd' hT h0 e1 e2 (by omega)
      · have e2' := fault_both h0 e2
        by_cases hn : d < 0
        · exact reachTells_bothNeg l s t d w h1 rfl hnb hb' hs ht hT h0 e1 e2' hn
        · exact reachTells_bothPos l s t d w h1 rfl hnb hb' hs ht hd' hT h0 e1 e2' (by omega)
    · obtain ⟨a, b⟩ := fault_pair (t := t) h0 e1
      exact reachTells_one l s t d w h1 rfl hnb hb' hs ht hT h0 a b
  · exact reachTells_bad l s t d w h1 rfl hnb hb' hs ht hT h0
end Go.Proofs.YtkcalnjapmpcaaaDoor
