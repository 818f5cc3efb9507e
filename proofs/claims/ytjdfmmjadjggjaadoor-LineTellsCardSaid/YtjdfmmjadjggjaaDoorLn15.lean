/- Contract: line.Print. -/
import Derived.Test.YtjdfmmjadjggjaaDoorLn14
import Derived.Test.YtjdfmmjadjggjaaDoorLnBld
import Derived.Deep.RegionWith
import Derived.Deep.RegionHeld3
namespace Go.Proofs.YtjdfmmjadjggjaaDoor
open Go.RowKit

abbrev IsBld (B : Nat) (O : List UInt8) (w : World) : Prop := Lib.IsBuilder 49 5 B B (Lib.byteCells O) w
theorem bld_belowL {B : Nat} {O : List UInt8} {w w' : World} (h : IsBld B O w) (hb : Below w.heap.size w w') : IsBld B O w' := by
  have key : ∀ q, Lib.BuilderAt 49 5 B B q (Lib.byteCells O) w → Lib.BuilderAt 49 5 B B q (Lib.byteCells O) w' := fun q hq => by
    have hlt := hq.lt
    obtain ⟨hB, v, hv, hown, hne⟩ := hq
    exact ⟨hB, v, (hb.block B hlt).trans hv, own_belowL hown hb, hne⟩
  exact h.imp (key _) (key _)
theorem ok_below {e : TypeId} {b : Option Nat} {w w' : World} (hb : Below w.heap.size w w') : Lib.OthersKept e b w w' := fun k _ hk _ _ => by
  rw [hb.block k (lt_of_blockG hk)]
  exact hk
theorem bldLt {B : Nat} {O : List UInt8} {w : World} (h : IsBld B O w) : B < w.heap.size := h.elim (fun h => h.lt) (fun h => h.lt)
theorem repeat_nl (c : Nat) : Lib.repeatL [10] c = List.replicate c 10 := by
  induction c with
  | zero => rfl
  | succ c ih => rw [Lib.repeatL, ih, List.replicate_succ]; rfl
theorem catP {O R S : List UInt8} {bR bS : ByteArray} (hR : (⟨R.toArray⟩ : ByteArray) = bR) (hS : (⟨S.toArray⟩ : ByteArray) = bS) : Lib.byteCells O ++ Lib.strCells (bR ++ bS ++ ⟨#[10]⟩) = Lib.byteCells (O ++ (R ++ S ++ [10])) := by
  subst hR hS
  have e : (⟨R.toArray⟩ : ByteArray) ++ ⟨S.toArray⟩ ++ ⟨#[10]⟩ = ⟨(R ++ S ++ [10]).toArray⟩ := by
    have e0 : (⟨#[10]⟩ : ByteArray) = ⟨[(10 : UInt8)].toArray⟩ := rfl
    rw [e0, ByteArray.mk_append_mk, ByteArray.mk_append_mk]
  rw [e]
  show Lib.byteCells O ++ Lib.byteCells _ = _
  unfold Lib.byteCells
  simp only [List.map_append, List.append_assoc]
theorem below_mk {B : Nat} {a w : World} (h : Below B a w) (n : Nat) : Below B a (w.drewN n) := below_drewN h n
theorem okcL {B : Nat} {w w' : World} (h : Lib.OthersKept 5 (some B) w w') {b : Nat} {vs : List Value} (hb : Blk w b 34 vs) (hne : b ≠ B) : Blk w' b 34 vs :=
  h b _ hb (fun e => hne (by injection e)) (fun c fz e => absurd (by injection e) (show (34 : TypeId) ≠ 5 by decide))
set_option maxRecDepth 100000 in
set_option maxHeartbeats 4000000 in
theorem lnPrint_any (L : List (Int × List UInt8)) (A : Option Addr) (c : Nat) (m : Int) (w : World) (hA : Rd w A (lnZ L)) (hL : L.length ≤ 9223372036854775807) (hT : ∀ x ∈ L, x.2.length ≤ 1048576) (hK : ∀ x ∈ L, x.1 ≤ 9223372036854775807) (hm : w.cell? ⟨0, 0, none⟩ = some (.int .i64 m)) :
    Calls Tryd.prog 12 #[.slice A L.length c] w (LtPost L w) := by
  have HA := Lib.hid hA
  have HTX := Lib.hid hT
  have HKX := Lib.hid hK
  have HM := Lib.hid hm
  clear hA hT hK hm
  generalize hn : L.length = n at *
  have HN := Lib.hid hn
  clear hn
  go_enter Tryd.func12, Tryd.ntmps12
  go_wp2_with fail
  go_loopw [4, 13] (fun x y wr => ∃ (i : Nat) (la : Int), x = .int .i64 la ∧ y = .int .i64 (i : Int) ∧ i ≤ n ∧ Hid (okZ 0 (L.take i) = true ∧ lastZ 0 (L.take i) = la) ∧ Hid (Below w.heap.size w wr)) (fun _ y _ => n - (intOf y).toNat)
  case atStart => exact ⟨0, 0, rfl, rfl, by omega, Lib.hid ⟨rfl, rfl⟩, Lib.hid (Below.refl _ _)⟩
  case round =>
    obtain ⟨i, la, rfl, rfl, hi, HK, HB⟩ := hrel
    by_cases hlt : i < n
    · obtain ⟨x, hx⟩ : ∃ x, L[i]? = some x := ⟨_, List.getElem?_eq_getElem (by rw [HN.out]; exact hlt)⟩
      obtain ⟨b1, o1, rfl, a1, a2⟩ := (HA.out.below HB.out).two hx
      have hltI : (i : Int) < (n : Int) := by omega
      have hcap : 2 * i = i * 2 := by omega
      rw [hcap] at a1 a2
      clear hcap
      obtain ⟨k, tx⟩ := x
      have HX := Lib.hid hx
      have HTL := Lib.hid (HTX.out _ (List.mem_of_getElem? hx))
      simp only [] at a1 a2
      clear hx
      have HBK0 := Lib.hid (show Blk (wr.alloc (.cells #[.int .i64 k, .string ⟨tx.toArray⟩] 34)) wr.heap.size 34 [.int .i64 k, .string ⟨tx.toArray⟩] from Blk.new wr _ _)
      have HB0 := Lib.hid (below_newL (Below.refl wr.heap.size wr) (Below.alloc (Below.refl _ _) (Nat.le_refl _) (.cells #[.int .i64 k, .string ⟨tx.toArray⟩] 34)))
      have HPC := Lib.hid (fun W (hW : Below wr.heap.size wr W) => lnPlain_any tx m W HTL.out (pc_keepL (pc_keepL HM.out HB.out) hW))
      generalize (⟨tx.toArray⟩ : ByteArray) = bs at *
      go_upto_region 5 with fail
      generalize wr.alloc (.cells #[.int .i64 k, .string bs] 34) = w1 at *
      have hc0 := HBK0.out.cell (j := 0) rfl
      have hc1 := HBK0.out.cell (j := 1) rfl
      by_cases hk : k ≤ la
      · have HF : Hid (ltE L = 3) := Lib.hid (by
          refine okZ_fail HX.out ?_
          have h1 : ¬ la < k := by omega
          rw [HK.out.2]
          simp [h1])
        have hkd : decide (k ≤ la) = true := by simp [hk]
        go_wp2_with fail
        go_ret2
        exact ⟨below_newL HB.out HB0.out, by rw [HF.out]; rfl⟩
      · have hk2 : la < k := by omega
        have hkd : decide (k ≤ la) = false := by simp [hk]
        go_wp2_with fail
        refine (HPC.out _ HB0.out).mono ?_
        rintro e w3 ⟨rfl, hb3⟩
        have HB3 := Lib.hid (below_newL HB0.out hb3)
        have HBK3 := Lib.hid (HBK0.out.below hb3 HBK0.out.lt)
        clear hb3 hc0 hc1
        have hc0 := HBK3.out.cell (j := 0) rfl
        have hc1 := HBK3.out.cell (j := 1) rfl
        cases hp : plainL tx with
        | false =>
          have HF : Hid (ltE L = 3) := Lib.hid (by
            refine okZ_fail HX.out ?_
            simp [hp])
          clear hp
          go_wp2_with fail
          go_ret2
          exact ⟨below_newL HB.out HB3.out, by rw [HF.out]; rfl⟩
        | true =>
          have HK2 : Hid (okZ 0 (L.take (i + 1)) = true ∧ lastZ 0 (L.take (i + 1)) = k) := Lib.hid (by
            obtain ⟨h1, h2⟩ := okZ_snoc HX.out
            refine ⟨?_, h2⟩
            rw [h1, HK.out.1, HK.out.2, hp]
            simp [hk2])
          clear hp
          go_wp2_with fail
          exact ⟨⟨i + 1, k, rfl, rfl, by omega, HK2, Lib.hid (below_newL HB.out HB3.out)⟩, measL hlt⟩
    · have hie : i = n := by omega
      subst hie
      have HKE : Hid (okZ 0 L = true) := Lib.hid (by
        have h := HK.out.1
        rw [List.take_of_length_le (by rw [HN.out]; exact Nat.le_refl _)] at h
        exact h)
      clear HK
      have HBI : Hid (IsBld wr.heap.size [] (wr.alloc (.cells #[.pointer none, .slice none 0 0] 49))) := Lib.hid (Lib.fresh_isBuilder _ _ _)
      have HBB : Hid (Below wr.heap.size wr (wr.alloc (.cells #[.pointer none, .slice none 0 0] 49))) := Lib.hid (below_new (Below.refl _ _) _)
      go_wp2_with fail
      obtain ⟨wz, hwz⟩ : ∃ wz : World, wz = wr := ⟨_, rfl⟩
      subst hwz
      go_loopw [8, 32] (fun x y wr => ∃ (j a : Nat) (O : List UInt8), x = .int .i64 (a : Int) ∧ y = .int .i64 (j : Int) ∧ j ≤ i ∧ a ≤ O.length ∧ O.length ≤ 40000 ∧ Hid (okZ a (L.drop j) = true ∧ printF 0 L = O ++ printF a (L.drop j)) ∧ Hid (IsBld wz.heap.size O wr) ∧ Hid (Below wz.heap.size wz wr)) (fun _ y _ => i - (intOf y).toNat)
      case atStart => exact ⟨0, 0, [], rfl, rfl, by omega, by simp, by simp, Lib.hid ⟨HKE.out, rfl⟩, HBI, HBB⟩
      case round =>
        clear HBI HBB
        obtain ⟨j, a, O, rfl, rfl, hj, haO, hO, HQ, HBI, HBW⟩ := hrel
        by_cases hlt : j < i
        · obtain ⟨x, hx⟩ : ∃ x, L[j]? = some x := ⟨_, List.getElem?_eq_getElem (by rw [HN.out]; exact hlt)⟩
          obtain ⟨b1, o1, rfl, a1, a2⟩ := ((HA.out.below HB.out).below HBW.out).two hx
          have hltI : (j : Int) < (i : Int) := by omega
          have hcap : 2 * j = j * 2 := by omega
          rw [hcap] at a1 a2
          clear hcap
          have HDZ := Lib.hid (dropZ hx)
          obtain ⟨k, tx⟩ := x
          have HX := Lib.hid hx
          have HTL := Lib.hid (HTX.out _ (List.mem_of_getElem? hx))
          have hk63 : k ≤ 9223372036854775807 := HKX.out _ (List.mem_of_getElem? hx)
          simp only [] at a1 a2
          clear hx
          obtain ⟨hx1, hx2, hx3⟩ := okZ_cons (by rw [← HDZ.out]; exact HQ.out.1)
          simp only [] at hx1
          have HPL : Hid ((shownL tx).length ≤ 20000) := Lib.hid (plain_len hx2)
          have HOK := Lib.hid hx3
          clear hx2 hx3
          obtain ⟨c, hkc⟩ : ∃ c : Nat, k = (a : Int) + 1 + (c : Int) := ⟨(k - a - 1).toNat, by omega⟩
          have HKC := Lib.hid hkc
          have HPF : Hid (printF 0 L = (O ++ (List.replicate c 10 ++ shownL tx ++ [10])) ++ printF k (L.drop (j + 1))) := Lib.hid (by
            rw [HQ.out.2, HDZ.out, printF, show ((k, tx) : Int × List UInt8).1 - (a : Int) - 1 = (c : Int) by show k - (a : Int) - 1 = c; omega]
            simp)
          have HBK0 := Lib.hid (show Blk (wr.alloc (.cells #[.int .i64 k, .string ⟨tx.toArray⟩] 34)) wr.heap.size 34 [.int .i64 k, .string ⟨tx.toArray⟩] from Blk.new wr _ _)
          have hal := Below.alloc (Below.refl wr.heap.size wr) (Nat.le_refl _) (.cells #[.int .i64 k, .string ⟨tx.toArray⟩] 34)
          have HBI0 := Lib.hid (bld_belowL HBI.out hal)
          have HB0 := Lib.hid (HBW.out.trans (hal.mono HBW.out.size))
          have HVB : Hid (wr.heap.size ≠ wz.heap.size) := Lib.hid (by have := bldLt HBI.out; omega)
          have HSH := Lib.hid (fun W (hW : Below wz.heap.size wz W) => lnShown_any tx m W HTL.out (pc_keepL (pc_keepL HM.out HB.out) hW))
          clear hal hkc
          generalize (⟨tx.toArray⟩ : ByteArray) = bs at *
          go_upto_region 14 with fail
          generalize wr.alloc (.cells #[.int .i64 k, .string bs] 34) = w1 at *
          generalize wr.heap.size = BV at *
          have hc0 := HBK0.out.cell (j := 0) rfl
          have hc1 := HBK0.out.cell (j := 1) rfl
          have HLEN := Lib.hid (fun n => Tryd.Builder_Len wz.heap.size wz.heap.size (Lib.byteCells O) (w1.drewN n) (bld_belowL HBI0.out (below_of_drewN _ n)))
          rw [Lib.byteCells_length] at HLEN
          have hw1 : IntKind.i64.wrap (k - (a : Int)) = k - (a : Int) := by rw [IntKind.wrap_i64]; omega
          have hw3 : IntKind.i64.wrap (20000 - (O.length : Int)) = 20000 - (O.length : Int) := by rw [IntKind.wrap_i64]; omega
          by_cases hbig : 20000 - (O.length : Int) < k - (a : Int)
          · have HF : Hid (ltE L = 2) := Lib.hid (by
              unfold ltE
              rw [HKE.out, if_neg (by decide), HPF.out, if_pos (by have := HKC.out; simp only [List.length_append, List.length_replicate, List.length_singleton]; omega)])
            have hbd : decide (20000 - (O.length : Int) < k - (a : Int)) = true := by simp [hbig]
            go_quiet ((go_at_call 24; exact Calls.quiet_of_same (HLEN.out _)))
            go_wp2_with fail
            go_ret2
            exact ⟨below_newL HB.out (below_mk HB0.out nq), by rw [HF.out]; rfl⟩
          · have hbd : decide (20000 - (O.length : Int) < k - (a : Int)) = false := by simp [hbig]
            go_quiet ((go_at_call 24; exact Calls.quiet_of_same (HLEN.out _)))
            have hcI : k - (a : Int) - 1 = (c : Int) := by have := HKC.out; omega
            have hsz1 : c + 1 + O.length ≤ 20000 := by have := HKC.out; omega
            have HRP := Lib.hid (fun W => Tryd.strings_Repeat ⟨#[10]⟩ c W (by omega) (show 1 * c ≤ _ by omega))
            rw [show (⟨#[10]⟩ : ByteArray).data.toList = [10] from rfl, repeat_nl, ← hcI] at HRP
            clear hcI
            have hw2 : IntKind.i64.wrap (k - (a : Int) - 1) = k - (a : Int) - 1 := by rw [IntKind.wrap_i64]; omega
            go_wp2_with fail
            have HB2 := Lib.hid (below_drewN HB0.out nq)
            have HI2 := Lib.hid (bld_belowL HBI0.out (below_of_drewN _ nq))
            have HK2 := Lib.hid (HBK0.out.below (below_of_drewN _ nq) HBK0.out.lt)
            clear hc0 hc1 HLEN
            generalize w1.drewN nq = w2 at *
            have hsz2 := HB2.out.size
            have hR0 : (⟨(List.replicate c (10 : UInt8)).toArray⟩ : ByteArray).size ≤ 20000 := by show (List.replicate c (10 : UInt8)).length ≤ 20000; simp; omega
            have hS0 : (⟨(shownL tx).toArray⟩ : ByteArray).size ≤ 20000 := HPL.out
            generalize hbR : (⟨(List.replicate c (10 : UInt8)).toArray⟩ : ByteArray) = bR at *
            generalize hbS : (⟨(shownL tx).toArray⟩ : ByteArray) = bS at *
            have HBR := Lib.hid hbR
            have HBS := Lib.hid hbS
            clear hbR hbS
            have HBL : Hid ((Lib.byteCells O).length + (bR ++ bS ++ ⟨#[10]⟩).size ≤ 140737488355328) := Lib.hid (by
              rw [Lib.byteCells_length, ByteArray.size_append, ByteArray.size_append]
              show _ + (bR.size + bS.size + 1) ≤ _
              omega)
            have HWS := Lib.hid (fun W (hW : Below w2.heap.size w2 W) => bld_str wz.heap.size wz.heap.size (Lib.byteCells O) (bR ++ bS ++ ⟨#[10]⟩) W (bld_belowL HI2.out hW) HBL.out (Nat.le_trans hsz2 hW.size))
            have e1 : ¬ (9223372036854775807 < bR.size + bS.size) := by omega
            have e2 : ¬ (9223372036854775807 < bR.size + bS.size + 1) := by omega
            have hd0 := HK2.out.cell (j := 0) rfl
            have hd1 := HK2.out.cell (j := 1) rfl
            have HSL := Lib.hid (fun W (hW : Below wz.heap.size w2 W) (hO : Lib.OthersKept 5 (some wz.heap.size) w2 W) => (⟨(okcL hO HK2.out HVB.out).cell (j := 0) rfl, (okcL hO HK2.out HVB.out).cell (j := 1) rfl, hW, hO⟩ :
              W.cell? ⟨BV, 0, none⟩ = some (.int .i64 k) ∧ W.cell? ⟨BV, 1, none⟩ = some (.string bs) ∧ Below wz.heap.size w2 W ∧ Lib.OthersKept 5 (some wz.heap.size) w2 W))
            have HKC2 := HKC
            have b0 := Below.refl wz.heap.size w2
            have k0 := Lib.OthersKept.refl 5 (some wz.heap.size) w2
            go_region_held3 (fun W => W.cell? ⟨BV, 0, none⟩ = some (.int .i64 k) ∧ W.cell? ⟨BV, 1, none⟩ = some (.string bs) ∧ Below wz.heap.size w2 W ∧ Lib.OthersKept 5 (some wz.heap.size) w2 W)
              ((refine HSL.out _ ?_ ?_ <;> first | assumption | exact Below.drew (by assumption) | exact Lib.OthersKept.drew (by assumption)))
              ((first
                | (go_at_call 26; (refine (HRP.out _).mono ?_); rintro e w5 ⟨rfl, hb5⟩; have B5 := below_newL (Below.drew (Below.refl w2.heap.size w2)) hb5; have b5 := B5.mono hsz2; have k5 := ok_below (e := 5) (b := some wz.heap.size) B5)
                | (go_at_call 27; (refine (HSH.out _ (HB2.out.trans b5)).mono ?_); rintro e w6 ⟨rfl, hb6⟩; have B6 := below_newL B5 hb6; have b6 := B6.mono hsz2; have k6 := ok_below (e := 5) (b := some wz.heap.size) B6)
                | (go_at_call 25; (refine (HWS.out _ B6).mono ?_); rintro e w7 ⟨rfl, h7, hb7, hk7⟩; have b7 := b6.trans hb7; have k7 := k6.trans hk7)))
            have HI7 : Hid (IsBld wz.heap.size (O ++ (List.replicate c 10 ++ shownL tx ++ [10])) w7) := Lib.hid (by
              have h := h7
              rw [catP HBR.out HBS.out] at h
              exact .inr h)
            have HB7 := Lib.hid (HB2.out.trans b7)
            rename_i hHeld
            obtain ⟨q0, q1, _, _⟩ := hHeld
            have hkn : k = ((a + 1 + c : Nat) : Int) := by have := HKC.out; omega
            have HKN := Lib.hid hkn
            have HLN : Hid (a + 1 + c ≤ (O ++ (List.replicate c 10 ++ shownL tx ++ [10])).length ∧ (O ++ (List.replicate c 10 ++ shownL tx ++ [10])).length ≤ 40000) := Lib.hid (by
              have := HPL.out
              simp only [List.length_append, List.length_replicate, List.length_singleton]
              omega)
            have HQ2 : Hid (okZ ((a + 1 + c : Nat) : Int) (L.drop (j + 1)) = true ∧ printF 0 L = (O ++ (List.replicate c 10 ++ shownL tx ++ [10])) ++ printF ((a + 1 + c : Nat) : Int) (L.drop (j + 1))) := Lib.hid (by
              rw [← hkn]
              exact ⟨HOK.out, HPF.out⟩)
            clear hkn h7 hb7 hk7 b7 k7 b6 k6 b5 k5 hb5 hb6 B5 B6 HSL HWS HRP HSH hd0 hd1 b0 k0
            go_wp2_with fail
            exact ⟨⟨j + 1, a + 1 + c, _, congrArg (Value.int .i64) HKN.out, rfl, hlt, HLN.out.1, HLN.out.2, HQ2, HI7, HB7⟩, measL hlt⟩
        · have hje : j = i := by omega
          subst hje
          have HFE : Hid (printF 0 L = O) := Lib.hid (by
            rw [HQ.out.2, List.drop_eq_nil_of_le (by rw [HN.out]; exact Nat.le_refl _), printF, List.append_nil])
          have HLEN := Lib.hid (Tryd.Builder_Len wz.heap.size wz.heap.size (Lib.byteCells O) wr HBI.out)
          rw [Lib.byteCells_length] at HLEN
          have HST := Lib.hid (Tryd.Builder_String_any wz.heap.size wz.heap.size O wr HBI.out HBW.out.size)
          by_cases hbig : 20000 < O.length
          · have HF : Hid (ltE L = 2) := Lib.hid (by unfold ltE; rw [HKE.out, if_neg (by decide), HFE.out, if_pos hbig])
            have hbI : 20000 < (O.length : Int) := by omega
            go_wp2_with fail
            refine HLEN.out.mono ?_
            rintro e w7 ⟨rfl, rfl⟩
            go_wp2_with fail
            go_ret2
            exact ⟨below_newL HB.out (HBW.out), by rw [HF.out]; rfl⟩
          · have HF : Hid (ltE L = 0) := Lib.hid (by unfold ltE; rw [HKE.out, if_neg (by decide), HFE.out, if_neg hbig])
            have HV : Hid (Value.string ⟨(if ltE L = 0 then printF 0 L else []).toArray⟩ = .string ⟨O.toArray⟩) := Lib.hid (by rw [HF.out, if_pos rfl, HFE.out])
            have hbI : (O.length : Int) ≤ 20000 := by omega
            go_wp2_with fail
            refine HLEN.out.mono ?_
            rintro e w7 ⟨rfl, rfl⟩
            go_wp2_with fail
            refine HST.out.mono ?_
            rintro e w8 ⟨rfl, hb8⟩
            have HB8 := Lib.hid (HBW.out.trans hb8)
            clear hb8
            go_wp2_with fail
            go_ret2
            exact ⟨below_newL HB.out HB8.out, by rw [HV.out, HF.out]; rfl⟩
end Go.Proofs.YtjdfmmjadjggjaaDoor
