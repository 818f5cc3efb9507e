/- Contract: log.read. Texts of at most 20000 bytes; the tables and the errors of strconv lie. -/
import Derived.Test.YtcjhkfhogcdobaaDoorLogT
import Derived.Test.YtcjhkfhogcdobaaDoorBlk
import Derived.Test.YtcjhkfhogcdobaaDoorHex7
import Derived.StillTailTactics
import Derived.Lib.AtoiErrMem
import Derived.Lib.ParseIntBTie
import Derived.Test.YtcjhkfhogcdobaaDoorLinesIt
namespace Go.Proofs.YtcjhkfhogcdobaaDoor
open Go.RowKit

/-- What reading a stamp leans on. -/
structure LEnv (w : World) : Prop where
  t : LTab w
  e : ErrVars w
  m : ∃ m, w.cell? ⟨2, 0, none⟩ = some (.int .i64 m)
theorem LEnv.below {w w' : World} (h : LEnv w) (hb : Below w.heap.size w w') : LEnv w' := ⟨h.t.below hb, h.e.below hb, by obtain ⟨m, hm⟩ := h.m; exact ⟨m, cell_up hm hb⟩⟩
theorem sTrim_any (s : List UInt8) (w : World) (hs : s.length ≤ 20000) : Calls Tryd.prog 32 #[.string ⟨s.toArray⟩, .string ⟨#[10]⟩] w fun e w' => e = .returned (.string ⟨(trimN s).toArray⟩) ∧ w = w' :=
  (Tryd.strings_TrimSuffix ⟨s.toArray⟩ ⟨#[10]⟩ w (by simp [ByteArray.size]; omega)).mono fun e w' h => ⟨by rw [h.1]; show Ending.returned (.string ⟨(Lib.trimSuffix s [10]).toArray⟩) = _; rw [trim_is], h.2.symm⟩
theorem trimN_len (s : List UInt8) : (trimN s).length ≤ s.length := by
  unfold trimN
  split
  · rw [List.length_dropLast]; omega
  · exact Nat.le_refl _
theorem sSplit_any (s : List UInt8) (w : World) (hs : s.length ≤ 20000) (hm : ∃ m, w.cell? ⟨2, 0, none⟩ = some (.int .i64 m)) : Calls Tryd.prog 31 #[.string ⟨s.toArray⟩, .string ⟨#[32]⟩] w fun e w' => e = .returned (.slice (some ⟨w.heap.size, 0, none⟩) (splitC 32 s).length (splitC 32 s).length) ∧ w' = w.alloc (.cells ((splitC 32 s).map sv).toArray 9) := by
  obtain ⟨m, hm⟩ := hm
  obtain ⟨h1, h2⟩ := split_is 32 s
  refine (Tryd.strings_Split ⟨s.toArray⟩ ⟨#[32]⟩ m w (by simp [ByteArray.size]; omega) hm (by decide)).mono fun e w' h => ⟨by rw [h.1, h2], ?_⟩
  rw [h.2]
  have e3 : (Lib.splitB ⟨#[32]⟩ 0 (Lib.countB ⟨s.toArray⟩ ⟨#[32]⟩) ⟨s.toArray⟩).map Value.string = (splitC 32 s).map sv := by
    rw [← h1, List.map_map]
    apply List.map_congr_left
    intro b _
    rfl
  rw [e3]
/-- What ParseInt gives: a number and an error, the error nil just where the text is a number. -/
def ParsePost (b : List UInt8) (w : World) (e : Ending) (w' : World) : Prop := ∃ (v : Int) (ev : Value), e = .returned (.tuple #[.int .i64 v, ev]) ∧ -9223372036854775808 ≤ v ∧ v ≤ 9223372036854775807 ∧ Below w.heap.size w w' ∧ ((Lib.parseIntB 64 b = .ok v ∧ ev = .nilIface) ∨ ((∃ N, ev = .iface 99 (.pointer (some ⟨N, 0, none⟩))) ∧ ((Lib.parseIntB 64 b = Lib.NumEnd.syntax ∧ v = 0) ∨ (Lib.parseIntB 64 b = .range ∧ v = Lib.intSat 64 b))))
theorem intSat_bd (b : List UInt8) : -9223372036854775808 ≤ Lib.intSat 64 b ∧ Lib.intSat 64 b ≤ 9223372036854775807 := by
  unfold Lib.intSat
  split <;> decide
theorem sParse_any (b : List UInt8) (w : World) (hs : b.length ≤ 20000) (hE : ErrVars w) : Calls Tryd.prog 33 #[.string ⟨b.toArray⟩, .int .i64 10, .int .i64 64] w (ParsePost b w) := by
  obtain ⟨⟨e1, h1, h2⟩, ⟨e2, h3, h4⟩⟩ := hE
  have hsz : (⟨b.toArray⟩ : ByteArray).size = b.length := by simp [ByteArray.size]
  rcases hp : Lib.parseIntB 64 b with v | _ | _
  ·
    have hb := Lib.parseIntB_bounds hp
    have e63 : ((2 ^ (64 - 1) : Nat) : Int) = 9223372036854775808 := by decide
    rw [e63] at hb
    have hb1 := hb.1
    have hb2 : v ≤ 9223372036854775807 := by have := hb.2; omega
    refine (Tryd.strconv_ParseInt_10_at64_ok ⟨b.toArray⟩ (by omega) v hp w).mono fun e w' h => ⟨v, .nilIface, h.1, hb1, hb2, ?_, .inl ⟨hp, rfl⟩⟩
    rcases h.2 with rfl | ⟨t, rfl⟩
    · exact Below.refl _ _
    · exact Lib.bytesWorld_below _ _ _
  ·
    refine (Tryd.strconv_ParseInt_10_at64_syntax ⟨b.toArray⟩ (by omega) hp e1 w h1 h2).mono fun e w' h => ?_
    obtain ⟨N, he, _, _, hb⟩ := h
    exact ⟨0, _, he, by omega, by omega, hb, .inr ⟨⟨N, rfl⟩, .inl ⟨hp, rfl⟩⟩⟩
  ·
    refine (Tryd.strconv_ParseInt_10_at64_range ⟨b.toArray⟩ (by omega) hp e2 w h3 h4).mono fun e w' h => ?_
    obtain ⟨N, he, _, _, hb⟩ := h
    exact ⟨_, _, he, (intSat_bd b).1, (intSat_bd b).2, hb, .inr ⟨⟨N, rfl⟩, .inr ⟨hp, rfl⟩⟩⟩
theorem hexRd_lt (c : List UInt8) : hexRd c < 18446744073709551616 := by
  unfold hexRd
  by_cases h : hexOk c = true
  · rw [if_pos h]
    unfold hexOk at h
    simp only [Bool.and_eq_true, decide_eq_true_eq, List.all_eq_true] at h
    exact hexAcc_bound 16 c h.1 h.2
  · rw [if_neg h]; decide
theorem hexRd_nat (c : List UInt8) : (UInt64.ofNat (hexRd c)).toNat = hexRd c := by
  have := hexRd_lt c
  simp
  omega
theorem stA_rd (a c : List UInt8) (v : Int) : stA (a, v, UInt64.ofNat (hexRd c)) = .agg #[.string ⟨a.toArray⟩, .int .i64 v, .float .f64 (hexRd c)] := by
  unfold stA fv sv
  rw [hexRd_nat]
def ReadPost (x : StampT) (ok : Bool) (w : World) (e : Ending) (w' : World) : Prop := e = .returned (.tuple #[stA x, .bool ok]) ∧ Below w.heap.size w w'
theorem box3_new (w : World) (a b c : Value) (t : TypeId) : Blk (w.alloc (.cells #[a, b, c] t)) w.heap.size t [a, b, c] := Blk.new w #[a, b, c] t
theorem readP_len {s : List UInt8} (h : (splitC 32 (trimN s)).length ≠ 3) : readP s = (([], 0, 0), false) := by
  unfold readP
  cases hq : splitC 32 (trimN s) with
  | nil => rfl
  | cons a q => cases q with
    | nil => rfl
    | cons b q => cases q with
      | nil => rfl
      | cons c q => cases q with
        | nil => rw [hq] at h; exact absurd rfl h
        | cons d q => rfl
theorem read_end {P : Ending → World → Prop} {w : World} {BR : Nat} {t : TypeId} {a b c : Value} {bb : Bool} {L : List Value} (hb : Blk w BR t [a, b, c]) (h2 : L[2]? = some (.pointer (some ⟨BR, 0, none⟩))) (h3 : L[3]? = some (.bool bb)) (hP : P (.returned (.tuple #[.agg #[a, b, c], .bool bb])) w) :
    bodyPost Tryd.prog Tryd.f15 P .ret ⟨L.toArray, []⟩ w := by
  have q1 := hb.cell (j := 0) rfl
  have q2 := hb.cell (j := 1) rfl
  have q3 := hb.cell (j := 2) rfl
  refine bodyPost_ret (v := .tuple #[.agg #[a, b, c], .bool bb]) ?_ rfl hP
  simp [results, Tryd.results15, go_sem, q1, q2, q3, h2, h3]
set_option maxRecDepth 100000 in
set_option maxHeartbeats 4000000 in
theorem lRead_any (s : List UInt8) (w : World) (hs : s.length ≤ 20000) (hE : LEnv w) :
    Calls Tryd.prog 15 #[.string ⟨s.toArray⟩] w (ReadPost (readP s).1 (readP s).2 w) := by
  have hB1 := below_new (Below.refl w.heap.size w) (.cells #[.string ⟨#[]⟩, .int .i64 0, .float .f64 0] 38)
  have RB0 := Lib.hid (box3_new w (.string ⟨#[]⟩) (.int .i64 0) (.float .f64 0) 38)
  have HE1 := Lib.hid (hE.below hB1)
  have HB1 := Lib.hid hB1
  have CT := Lib.hid (fun W => sTrim_any s W hs)
  have CS := Lib.hid (fun W (hW : LEnv W) => sSplit_any (trimN s) W (Nat.le_trans (trimN_len s) hs) hW.m)
  have HLN := Lib.hid (@readP_len s)
  have HRP : Hid (readP s = readP s) := Lib.hid rfl
  have hpl : ∀ p ∈ splitC 32 (trimN s), p.length ≤ 20000 := fun p hp => Nat.le_trans (splitC_le 32 (trimN s) p hp) (Nat.le_trans (trimN_len s) hs)
  have HPL := Lib.hid hpl
  have HSS := Lib.hid hs
  clear hE hB1 hs hpl
  generalize hsb : (⟨s.toArray⟩ : ByteArray) = sb at *
  have HSB := Lib.hid hsb
  clear hsb
  go_enter Tryd.func15, Tryd.ntmps15
  go_upto_region 1 with fail
  generalize w.alloc (.cells #[.string ⟨#[]⟩, .int .i64 0, .float .f64 0] 38) = w1 at *
  obtain ⟨BR, hBR⟩ : ∃ BR, BR = w.heap.size := ⟨_, rfl⟩
  have HBR := Lib.hid hBR
  rw [← hBR] at RB0 ⊢
  clear hBR
  have CS1 := Lib.hid (CS.out w1 HE1.out)
  generalize (⟨(trimN s).toArray⟩ : ByteArray) = tb at *
  have e1 := CT.out w1
  have HEE := Lib.hid e1
  clear e1
  go_wp2_with fail
  refine HEE.out.mono ?_
  rintro e w' ⟨rfl, rfl⟩
  go_wp2_with fail
  refine CS1.out.mono ?_
  rintro e w2 ⟨rfl, hw2⟩
  have HW2 := Lib.hid hw2
  have hb12 : Below w1.heap.size w1 w2 := by rw [hw2]; exact below_new (Below.refl _ _) _
  have HB12 := Lib.hid hb12
  have RB2 := Lib.hid (RB0.out.below hb12 RB0.out.lt)
  clear hw2 hb12
  by_cases h3 : (splitC 32 (trimN s)).length = 3
  · obtain ⟨a, b, c, hq⟩ : ∃ a b c, splitC 32 (trimN s) = [a, b, c] := by
      match splitC 32 (trimN s), h3 with
      | [a, b, c], _ => exact ⟨a, b, c, rfl⟩
    have HQ := Lib.hid hq
    have hwe : w2 = w1.alloc (.cells #[sv a, sv b, sv c] 9) := by rw [HW2.out, hq]; rfl
    have PB := Lib.hid (show Blk w2 w1.heap.size 9 [sv a, sv b, sv c] by rw [hwe]; exact box3_new w1 (sv a) (sv b) (sv c) _)
    have HE2 := Lib.hid (HE1.out.below HB12.out)
    have hla := HPL.out a (by rw [hq]; simp)
    have hlb := HPL.out b (by rw [hq]; simp)
    have hlc := HPL.out c (by rw [hq]; simp)
    have CP := Lib.hid (fun W (hW : LEnv W) => sParse_any b W hlb hW.e)
    have CR := Lib.hid (fun W (hW : LEnv W) => sRead_any c W (by omega) hW.e hW.t.t)
    have HLA := Lib.hid hla
    rw [h3]
    generalize w1.heap.size = BP at PB ⊢
    clear hwe hq h3 hla hlb hlc
    unfold ParsePost at CP
    unfold sv at PB
    generalize hba : (⟨a.toArray⟩ : ByteArray) = ba at *
    have HBA := Lib.hid hba
    clear hba
    generalize (⟨b.toArray⟩ : ByteArray) = bb at *
    generalize (⟨c.toArray⟩ : ByteArray) = bc at *
    have p1 := PB.out.cell (j := 0) rfl
    have p2 := PB.out.cell (j := 1) rfl
    have p3 := PB.out.cell (j := 2) rfl
    go_wp2_with fail
    refine (CP.out _ HE2.out).mono ?_
    rintro e w3 ⟨v, ev, rfl, hv0, hv1, hb3, hcase⟩
    have HC3 := Lib.hid hcase
    have HB3 := Lib.hid hb3
    have HB13 := Lib.hid (below_then HB12.out hb3)
    have PB3 := Lib.hid (PB.out.below hb3 PB.out.lt)
    have HE3 := Lib.hid (HE2.out.below hb3)
    have RB3 := Lib.hid (RB2.out.below hb3 RB2.out.lt)
    clear p1 p2 p3 hcase hb3
    have p1 := PB3.out.cell (j := 0) rfl
    have p2 := PB3.out.cell (j := 1) rfl
    have p3 := PB3.out.cell (j := 2) rfl
    go_wp2_with fail
    refine (CR.out _ HE3.out).mono ?_
    rintro e w4 ⟨rfl, hb4⟩
    have HB14 := Lib.hid (below_then HB13.out hb4)
    have PB4 := Lib.hid (PB3.out.below hb4 PB3.out.lt)
    have HE4 := Lib.hid (HE3.out.below hb4)
    have RB4 := Lib.hid (RB3.out.below hb4 RB3.out.lt)
    clear p1 p2 p3 hb4
    have p1 := PB4.out.cell (j := 0) rfl
    have p2 := PB4.out.cell (j := 1) rfl
    have p3 := PB4.out.cell (j := 2) rfl
    go_upto_region 7 with fail
    have hBW := below_new (Below.refl w4.heap.size w4) (.cells #[.string ba, .int .i64 v, .float .f64 (hexRd c)] 38)
    have XB := Lib.hid (box3_new w4 (.string ba) (.int .i64 v) (.float .f64 (hexRd c)) 38)
    have HB15 := Lib.hid (below_then HB14.out hBW)
    have RB5 := Lib.hid (RB4.out.below hBW RB4.out.lt)
    have HE5 := Lib.hid (HE4.out.below hBW)
    have hlt := RB4.out.lt
    obtain ⟨BX, hBX⟩ : ∃ BX, BX = w4.heap.size := ⟨_, rfl⟩
    rw [← hBX] at XB ⊢
    have hne : BX ≠ BR := by omega
    clear hBW hBX hlt p1 p2 p3
    generalize w4.alloc (.cells #[.string ba, .int .i64 v, .float .f64 (hexRd c)] 38) = w5 at *
    have HWW := Lib.hid (below_then HB1.out HB15.out)
    have HLE : Hid (w.heap.size ≤ BR) := Lib.hid (by rw [HBR.out]; exact Nat.le_refl _)
    have x1 := XB.out.cell (j := 0) rfl
    have x2 := XB.out.cell (j := 1) rfl
    have x3 := XB.out.cell (j := 2) rfl
    rcases HC3.out with ⟨hpa, hev⟩ | ⟨⟨N, hev⟩, hpa⟩
    · by_cases hok : hexOk c = true
      · have hre : readE c = 0 := by unfold readE; rw [if_pos hok]
        have HRD : Hid (readP s = ((a, v, UInt64.ofNat (hexRd c)), decide (stampT (a, v, UInt64.ofNat (hexRd c)) = s))) := Lib.hid (by
          unfold readP
          rw [HQ.out]
          simp only
          rw [hpa]
          simp only
          rw [hok, Bool.true_and])
        have CX := Lib.hid (fun W (hW : LEnv W) => lText_any (a, v, UInt64.ofNat (hexRd c)) W hv0 hv1 (Nat.le_trans HLA.out (by omega)) hW.t)
        rw [stA_rd, HBA.out] at CX
        unfold TextPost at CX
        have HEQ := Lib.hid (eq_sv (stampT (a, v, UInt64.ofNat (hexRd c))) s)
        rw [HSB.out] at HEQ
        generalize stampT (a, v, UInt64.ofNat (hexRd c)) = TX at *
        generalize (⟨TX.toArray⟩ : ByteArray) = tx at *
        generalize decide (TX = s) = tt at *
        rw [hre, hev]
        clear hpa hev hok hre
        have rf := RB5.out.free
        have r1 := RB5.out.cell (j := 0) rfl
        have r2 := RB5.out.cell (j := 1) rfl
        have r3 := RB5.out.cell (j := 2) rfl
        have HSL := Lib.hid (fun W (hW : Below w5.heap.size w5 W) => (⟨cell_up x1 hW, cell_up x2 hW, cell_up x3 hW⟩ : W.cell? ⟨BX, 0, none⟩ = some (.string ba) ∧ W.cell? ⟨BX, 1, none⟩ = some (.int .i64 v) ∧ W.cell? ⟨BX, 2, none⟩ = some (.float .f64 (hexRd c))))
        have HFX := Lib.hid (fun W (hW : Below w5.heap.size w5 W) u1 u2 u3 => blk_far (j := 2) (blk_far (j := 1) (blk_far (j := 0) (XB.out.below hW XB.out.lt) hne u1) hne u2) hne u3)
        have HSX := Lib.hid (fun W (h : Blk W BX 38 [.string ba, .int .i64 v, .float .f64 (hexRd c)]) => (⟨h.cell (j := 0) rfl, h.cell (j := 1) rfl, h.cell (j := 2) rfl⟩ : W.cell? ⟨BX, 0, none⟩ = some (.string ba) ∧ W.cell? ⟨BX, 1, none⟩ = some (.int .i64 v) ∧ W.cell? ⟨BX, 2, none⟩ = some (.float .f64 (hexRd c))))
        have HRF := Lib.hid (fun W (hW : Below w5.heap.size w5 W) => RB5.out.below hW RB5.out.lt)
        clear hne
        have bd : Below w5.heap.size w5 w5.drew := Below.drew (Below.refl _ _)
        go_region_held3 (fun W => W.cell? ⟨BX, 0, none⟩ = some (.string ba) ∧ W.cell? ⟨BX, 1, none⟩ = some (.int .i64 v) ∧ W.cell? ⟨BX, 2, none⟩ = some (.float .f64 (hexRd c)))
          ((first | exact HSL.out _ (by first | assumption | exact Below.drew (by assumption)) | exact HSX.out _ (HFX.out _ (by first | assumption | exact Below.drew (by assumption)) _ _ _)))
          ((first
            | (go_at_call 12; (with_reducible refine (CX.out _ (HE5.out.below (by first | assumption | exact Below.drew (by assumption)))).mono ?_); rintro e u1 ⟨rfl, g1⟩; have f1 := below_then (by first | assumption | exact Below.drew (by assumption)) g1; have rf1 := (HRF.out _ f1).free; have r11 := (HRF.out _ f1).cell (j := 0) rfl; have r12 := (HRF.out _ f1).cell (j := 1) rfl; have r13 := (HRF.out _ f1).cell (j := 2) rfl)))
        all_goals
          go_wp2_with fail
          refine read_end (blk_put3 (HRF.out _ f1) (.string ba) (.int .i64 v) (.float .f64 (hexRd c))) rfl rfl ?_
          rw [HRD.out]
          exact ⟨by rw [stA_rd, HBA.out, HEQ.out], below_put3 (below_then HWW.out f1) HLE.out _ _ _⟩
      · have hok' : hexOk c = false := by simpa using hok
        have hre : readE c = 3 := by unfold readE; rw [hok']; rfl
        have HRD : Hid (readP s = ((a, v, UInt64.ofNat (hexRd c)), false)) := Lib.hid (by
          unfold readP
          rw [HQ.out]
          simp only
          rw [hpa]
          simp only
          rw [hok']
          rfl)
        rw [hre, hev]
        clear hpa hev hok hok' hre
        have rf := RB5.out.free
        have r1 := RB5.out.cell (j := 0) rfl
        have r2 := RB5.out.cell (j := 1) rfl
        have r3 := RB5.out.cell (j := 2) rfl
        clear hne
        go_region
        go_wp2_with fail
        refine read_end (Blk.drw (blk_put3 RB5.out (.string ba) (.int .i64 v) (.float .f64 (hexRd c)))) rfl rfl ?_
        rw [HRD.out]
        exact ⟨by rw [stA_rd, HBA.out], Below.drew (below_put3 HWW.out HLE.out _ _ _)⟩
    · have HRD : Hid (readP s = ((a, v, UInt64.ofNat (hexRd c)), false)) := Lib.hid (by
        unfold readP
        rw [HQ.out]
        simp only
        rcases hpa with ⟨hpa, hv⟩ | ⟨hpa, hv⟩
        · rw [hpa, hv]
        · rw [hpa, hv])
      rw [hev]
      clear hpa hev
      generalize readE c = RE at *
      have rf := RB5.out.free
      have r1 := RB5.out.cell (j := 0) rfl
      have r2 := RB5.out.cell (j := 1) rfl
      have r3 := RB5.out.cell (j := 2) rfl
      clear hne
      go_region
      go_wp2_with fail
      refine read_end (Blk.drw (blk_put3 RB5.out (.string ba) (.int .i64 v) (.float .f64 (hexRd c)))) rfl rfl ?_
      rw [HRD.out]
      exact ⟨by rw [stA_rd, HBA.out], Below.drew (below_put3 HWW.out HLE.out _ _ _)⟩
  · have HRZ := Lib.hid (HLN.out h3)
    have h3d : (((splitC 32 (trimN s)).length : Nat) : Int) ≠ 3 := by omega
    have HL3 := Lib.hid h3d
    generalize (splitC 32 (trimN s)).length = L at *
    have d3 : ((L : Int) == 3) = false := by simpa using HL3.out
    have d4 : ((L : Int) != 3) = true := by simpa using HL3.out
    have rf := RB2.out.free
    have r1 := RB2.out.cell (j := 0) rfl
    have r2 := RB2.out.cell (j := 1) rfl
    have r3 := RB2.out.cell (j := 2) rfl
    clear h3 h3d
    go_wp2_with fail
    refine read_end (blk_put3 RB2.out (.string ⟨#[]⟩) (.int .i64 0) (.float .f64 0)) rfl rfl ?_
    rw [HRZ.out]
    exact ⟨rfl, below_put3 (below_then HB1.out HB12.out) (by rw [HBR.out]; exact Nat.le_refl _) _ _ _⟩
end Go.Proofs.YtcjhkfhogcdobaaDoor
/- Reading the log line by line, in plain Lean: what has come, what comes next. No program in sight. -/
namespace Go.Proofs.YtcjhkfhogcdobaaDoor

theorem linesL_le : ∀ (s : List UInt8) (l : List UInt8), l ∈ linesL s → l.length ≤ s.length
  | [], l, h => by simp [linesL] at h
  | x :: r, l, h => by
    rw [linesL_cons] at h
    by_cases hx : x = 10
    · rw [if_pos hx, List.mem_cons] at h
      rcases h with rfl | h
      · simp
      · have := linesL_le r l h; simp; omega
    · rw [if_neg hx] at h
      cases hq : linesL r with
      | nil => rw [hq] at h; simp at h; simp [h]
      | cons y q =>
        rw [hq] at h
        simp only [List.mem_cons] at h
        rcases h with rfl | h
        · have := linesL_le r y (by rw [hq]; simp); simp; omega
        · have := linesL_le r l (by rw [hq]; simp [h]); simp; omega
theorem readP_name (l : List UInt8) : (readP l).1.1.length ≤ l.length := by
  have h1 := trimN_len l
  unfold readP
  cases hq : splitC 32 (trimN l) with
  | nil => simp
  | cons a q => cases q with
    | nil => simp
    | cons b q => cases q with
      | nil => simp
      | cons c q => cases q with
        | cons d q => simp
        | nil =>
          have h2 := splitC_le 32 (trimN l) a (by rw [hq]; simp)
          simp only
          cases Lib.parseIntB 64 b <;> (simp only; omega)
/-- The last two. -/
def lastTwo (O : List StampT) (x : StampT) : List StampT := (O ++ [x]).drop (O.length - 1)
theorem lastTwo_eq (O : List StampT) (x : StampT) : lastTwo O x = match O.getLast? with
    | none => [x]
    | some p => [p, x] := by
  unfold lastTwo
  cases hq : O.getLast? with
  | none =>
    rw [List.getLast?_eq_none_iff] at hq
    subst hq
    rfl
  | some p =>
    have hne : O ≠ [] := by intro e; rw [e] at hq; cases hq
    obtain ⟨M, rfl⟩ : ∃ M, O = M ++ [p] := by
      refine ⟨O.dropLast, ?_⟩
      have := List.dropLast_concat_getLast hne
      rw [List.getLast?_eq_some_getLast hne] at hq
      rw [← Option.some.inj hq]
      exact this.symm
    rw [List.append_assoc, List.length_append, List.length_singleton, Nat.add_sub_cancel, List.drop_left]
    rfl
/-- What has been read: these stamps, all right, out of these lines. -/
structure RunIs (ls : List (List UInt8)) (O : List StampT) : Prop where
  len : O.length = ls.length
  max : O.length ≤ 200
  good : ∀ x ∈ O, stOne x = 0
  run : ∀ rest, runLines 0 [] (ls ++ rest) = runLines ls.length O rest
theorem runIs_nil : RunIs [] [] := ⟨rfl, by simp, by simp, fun _ => rfl⟩
theorem stErr_two {O : List StampT} {x : StampT} (hg : ∀ y ∈ O, stOne y = 0) : stErr (lastTwo O x) = if stOne x = 0 then (if (O.getLast?.all fun p => leAt p x) = true then 0 else 3) else stOne x := by
  rw [lastTwo_eq]
  cases hq : O.getLast? with
  | none =>
    simp only [Option.all_none]
    unfold stErr
    simp only [stFirst, risesB, List.length_singleton]
    by_cases h : stOne x = 0 <;> simp [h]
  | some p =>
    have hp : stOne p = 0 := hg p (List.mem_of_getLast? hq)
    simp only [Option.all_some]
    unfold stErr
    by_cases h : stOne x = 0 <;> by_cases h2 : leAt p x = true <;> simp [stFirst, risesB, stepB, h, hp, h2]
section
variable {ls : List (List UInt8)} {O : List StampT} {l : List UInt8}
theorem run_large (h : RunIs ls O) (hl : 200 < O.length + 1) (rest : List (List UInt8)) : runLines 0 [] (ls ++ l :: rest) = ([], O.length + 1, 2) := by
  rw [h.run, runLines, ← h.len, if_pos hl]
theorem run_bad (h : RunIs ls O) (hl : ¬ 200 < O.length + 1) (hb : ¬ ((readP l).2 = true ∧ stErr (lastTwo O (readP l).1) = 0)) (rest : List (List UInt8)) : runLines 0 [] (ls ++ l :: rest) = ([], O.length + 1, 3) := by
  rw [h.run, runLines, ← h.len, if_neg hl]
  rw [stErr_two h.good] at hb
  unfold accP
  by_cases h1 : (readP l).2 = true ∧ stOne (readP l).1 = 0
  · rw [if_pos h1]
    simp only
    rw [if_neg]
    intro h2
    exact hb ⟨h1.1, by rw [if_pos h1.2, if_pos h2]⟩
  · rw [if_neg h1]
theorem run_next (h : RunIs ls O) (hl : ¬ 200 < O.length + 1) (hb : (readP l).2 = true ∧ stErr (lastTwo O (readP l).1) = 0) : RunIs (ls ++ [l]) (O ++ [(readP l).1]) := by
  have h2 := hb.2
  rw [stErr_two h.good] at h2
  have h1 : stOne (readP l).1 = 0 := by
    by_cases e : stOne (readP l).1 = 0
    · exact e
    · rw [if_neg e] at h2; exact absurd h2 e
  rw [if_pos h1] at h2
  have h3 : (O.getLast?.all fun p => leAt p (readP l).1) = true := by
    by_cases e : (O.getLast?.all fun p => leAt p (readP l).1) = true
    · exact e
    · rw [if_neg e] at h2; cases h2
  refine ⟨by simp [h.len], by simp; omega, fun x hx => ?_, fun rest => ?_⟩
  · rw [List.mem_append, List.mem_singleton] at hx
    rcases hx with hx | rfl
    · exact h.good x hx
    · exact h1
  · rw [List.append_assoc, List.singleton_append, h.run, runLines, if_neg (by rw [← h.len]; exact hl)]
    have ha : accP l = some (readP l).1 := by unfold accP; rw [if_pos ⟨hb.1, h1⟩]
    rw [ha]
    simp only
    rw [if_pos h3, List.length_append, List.length_singleton]
end
end Go.Proofs.YtcjhkfhogcdobaaDoor
