/- Contracts: the reference's Pieces. -/
import Derived.Test.YtcodncddaemhlaaDoorGlobT1
namespace Go.Proofs.YtcodncddaemhlaaDoor
open Go.RowKit

theorem eqK {c n : UInt8} (h : c ≠ n) : (((c.toNat : Nat) : Int) == ((n.toNat : Nat) : Int)) = false := by
  have : c.toNat ≠ n.toNat := fun e => h (UInt8.toNat_inj.1 e)
  simp
  omega
theorem one_put (d : UInt8) (c : Nat) : putS noS d.toNat true c = oneS d c := by
  unfold putS oneS addS noS
  by_cases h : c = d.toNat
  · subst h; simp
  · rw [if_neg h]
    have : (decide (d.toNat ≤ c) && decide (c ≤ d.toNat)) = false := by
      rw [Bool.and_eq_false_iff, decide_eq_false_iff_not, decide_eq_false_iff_not]
      omega
    rw [this]; rfl
/-- The first j bytes taken in. -/
def frsS (j : Nat) : Nat → Bool := fun d => decide (d < j)
theorem frsS_zero : frsS 0 = noS := by funext d; simp [frsS, noS]
theorem frsS_put (j d : Nat) : putS (frsS j) j true d = frsS (j + 1) d := by
  unfold putS frsS
  by_cases hd : d = j
  · subst hd; simp
  · rw [if_neg hd]
    apply decide_eq_decide.2
    omega
theorem frsS_end {c : Nat} (h : c < 256) : frsS 256 c = turnS noS c := by simp [frsS, turnS, noS, h]
theorem ext_seg {b : ByteArray} {s : List UInt8} (h : StrIs b s) (i j : Nat) : b.extract i j = ⟨((s.drop i).take (j - i)).toArray⟩ := by
  have h1 := Lib.extract_data b i j
  rw [h.data] at h1
  calc b.extract i j = ⟨(b.extract i j).data.toList.toArray⟩ := rfl
    _ = _ := by rw [h1]
theorem seg_split {s : List UInt8} {i j : Nat} {c : UInt8} (hij : i ≤ j) (h : s[j]? = some c) : s.drop i = (s.drop i).take (j - i) ++ c :: s.drop (j + 1) := by
  have h2 : (s.drop i).drop (j - i) = c :: s.drop (j + 1) := by
    rw [List.drop_drop, show i + (j - i) = j by omega]
    exact drop_consT h
  rw [← h2, List.take_append_drop]
theorem seg_no {s : List UInt8} {i j : Nat} (h : ∀ (k : Nat) (c : UInt8), i ≤ k → k < j → s[k]? = some c → c ≠ 93) : ∀ x ∈ (s.drop i).take (j - i), x ≠ 93 := by
  intro x hx
  obtain ⟨k, hk⟩ := List.mem_iff_getElem?.1 hx
  rw [List.getElem?_take] at hk
  split at hk
  · rw [List.getElem?_drop] at hk
    exact h (i + k) x (by omega) (by omega) hk
  · cases hk
theorem drop_no {s : List UInt8} {i : Nat} (h : ∀ (k : Nat) (c : UInt8), i ≤ k → k < s.length → s[k]? = some c → c ≠ 93) : ∀ x ∈ s.drop i, x ≠ 93 := by
  intro x hx
  obtain ⟨k, hk⟩ := List.mem_iff_getElem?.1 hx
  rw [List.getElem?_drop] at hk
  exact h (i + k) x (by omega) (List.getElem?_eq_some_iff.1 hk).1 hk
theorem step_itm {seg r : List UInt8} (h : ∀ x ∈ seg, x ≠ 93) : stepG 91 (seg ++ 93 :: r) = (itmG seg).map fun S => (⟨⟨false, S⟩, -1⟩, r) := by
  rw [stepG_set h]
  unfold itmG
  by_cases hb : behB seg = []
  · rw [if_pos hb, if_pos hb]; rfl
  · rw [if_neg hb, if_neg hb, Option.map_map]; rfl
def RpcPost (s : List UInt8) (w : World) (e : Ending) (w' : World) : Prop :=
  Below w.heap.size w w' ∧ ((parseG s = none ∧ e = .returned (.tuple #[.slice none 0 0, .bool false])) ∨
    ∃ M A n c, parseG s = some M ∧ M.length = n ∧ n ≤ 60 ∧ w'.ownsRow w.heap.size 110 258 (.slice A n c) n (rps M) ∧ e = .returned (.tuple #[.slice A n c, .bool true]))
set_option maxRecDepth 100000 in
set_option maxHeartbeats 4000000 in
theorem rPieces_any (s : List UInt8) (hs : s.length ≤ 60) (w : World) : Calls Tryd.prog 53 #[.string ⟨s.toArray⟩] w (RpcPost s w) := by
  have HS := Lib.hid (strIs s)
  generalize (⟨s.toArray⟩ : ByteArray) = b at *
  have HSZ := Lib.hid HS.out.size
  have hbs : b.size ≤ 60 := by rw [HSZ.out]; exact hs
  clear hs
  go_enter Tryd.func53, Tryd.ntmps53
  go_wp2_with fail
  go_loopw [4, 5] (fun x y wr => ∃ (M : List GQ) (A : Option Addr) (n cp i : Nat), x = .slice A n cp ∧ y = .int .i64 (i : Int) ∧ i ≤ b.size ∧ n ≤ i ∧ Hid (M.length = n) ∧ Hid (parseG s = (parseG (s.drop i)).map (M ++ ·)) ∧ Hid (wr.ownsRow w.heap.size 110 258 (.slice A n cp) n (rps M)) ∧ Hid (Below w.heap.size w wr)) (fun _ y _ => b.size - (intOf y).toNat)
  case atStart => exact ⟨[], none, 0, 0, 0, rfl, rfl, by omega, by omega, Lib.hid rfl, Lib.hid (by simp), Lib.hid (World.ownsRow_nil _ _ _ _), Lib.hid (Below.refl _ _)⟩
  case round =>
    obtain ⟨M, A, n, cp, i, rfl, rfl, hi, hni, HN, HPE, HO, HBW⟩ := hrel
    by_cases hlt : i < b.size
    · have HDC := Lib.hid (drop_consT (HS.out.at_ hlt))
      have HPE2 : Hid (parseG s = (parseG (b[i] :: s.drop (i + 1))).map (M ++ ·)) := Lib.hid (by rw [← HDC.out]; exact HPE.out)
      clear HPE
      have i0 : (i : Int) < (b.size : Int) := by omega
      go_upto_region 4 with fail
      go_upto_region 5 with (first | (refine wpList_buildR _ rfl rfl ?_) | (refine wpList_allocR _ rfl rfl ?_) | (refine wpList_storeR _ rfl _ _ rfl wr.heap.size false false noS noS 0 (-1) rfl rfl (Blk.new _ _ _) ?_; intro w1 hk1 hb1))
      have HK1 := Lib.hid hk1
      have HB1 := Lib.hid ((below_new (Below.refl wr.heap.size wr) _).trans (hb1 wr.heap.size (Nat.le_refl _)))
      clear hk1 hb1
      have c0 := HK1.out.cell (rpL_any false noS (-1))
      have c257 := HK1.out.cell (rpL_self false noS (-1))
      have f0 := HK1.out.free 0
      have f257 := HK1.out.free 257
      go_upto_region 7 with fail
      generalize hbc : b[i] = c at *
      have hbc2 : ∀ h, b[i]'h = c := fun _ => hbc
      clear hbc
      by_cases h42 : c = 42
      · subst h42
        have HKZ := Lib.hid (HK1.out.same 0 (.bool true))
        have HBZ := Lib.hid (HB1.out.setCell (p := ⟨wr.heap.size, 0, none⟩) (Nat.le_refl _) (.bool true))
        rw [rpL_setAny] at HKZ
        go_upto_region 29 with fail
        generalize w1.setCell ⟨wr.heap.size, 0, none⟩ (.bool true) = wz at *
        clear c0 c257 f0 f257 HK1 HB1
        have HOZ := Lib.hid (own_belowG HO.out HBZ.out)
        have HSZW : w.heap.size ≤ wz.heap.size := Nat.le_trans HBW.out.size HBZ.out.size
        have HBZW := Lib.hid (below_then HBW.out HBZ.out)
        have HRG := Lib.hid (blk_range HKZ.out)
        have cs := HKZ.out.cell (rpL_self true noS (-1))
        have HN2 : Hid ((M ++ [(⟨⟨true, noS⟩, (-1)⟩ : GQ)]).length = n + 1) := Lib.hid (by simp [HN.out])
        have HPE3 : Hid (parseG s = (parseG (s.drop (i + 1))).map ((M ++ [(⟨⟨true, noS⟩, (-1)⟩ : GQ)]) ++ ·)) := Lib.hid (parse_step HPE2.out rfl)
        have hn60 : (n + 1) * 272 ≤ 140737488355328 := by omega
        clear HO HBW HPE2
        go_wp2_with (first | (refine wpList_loadR _ rfl _ rfl wr.heap.size 0 true noS (-1) rfl HRG.out ?_) | (refine wpList_sliceR _ rfl _ rfl true noS (-1) rfl ?_) | (at_builtin; refine wpList_pushR wz _ _ w.heap.size A n cp M ⟨⟨true, noS⟩, (-1)⟩ HOZ.out HSZW hn60 rfl rfl rfl rfl ?_; intro g5 c5 w5 hown5 hb5))
        exact ⟨⟨M ++ [⟨⟨true, noS⟩, (-1)⟩], some ⟨g5, 0, none⟩, n + 1, c5, i + 1, rfl, rfl, by omega, by omega, HN2, HPE3, Lib.hid hown5, Lib.hid (HBZW.out.trans hb5)⟩, by simp only [intOf]; omega⟩
      · have n42 : ((c.toNat : Int) == 42) = false := eqK h42
        have e42 := Lib.hid h42
        clear h42
        by_cases h63 : c = 63
        · subst h63
          clear n42
          go_upto_region 10 with fail
          have HKF : Hid (Blk w1 wr.heap.size 110 (rpL false (frsS 0) (-1))) := Lib.hid (by rw [frsS_zero]; exact HK1.out)
          clear c0 c257 f0 f257 HK1
          have HBW1 := Lib.hid HB1.out
          clear HB1
          have HBX : ∃ x, x = wr.heap.size := ⟨_, rfl⟩
          obtain ⟨bx, hbx⟩ := HBX
          have HWO : ∃ wo : World, wo = wr := ⟨_, rfl⟩
          obtain ⟨wo, hwo⟩ := HWO
          rw [← hbx] at HKF HBW1 ⊢
          rw [← hwo] at HBW1 HO HBW hbx
          have HBX := Lib.hid hbx
          clear hbx hwo
          rw [show UInt8.toNat 63 = 63 from rfl]
          go_wp2_with fail
          go_loopw [27] (fun x wq => ∃ j : Nat, x = .int .i64 (j : Int) ∧ j ≤ 256 ∧ Hid (Blk wq bx 110 (rpL false (frsS j) (-1))) ∧ Hid (Below bx wo wq)) (fun x _ => 256 - (intOf x).toNat)
          case atStart => exact ⟨0, rfl, by omega, HKF, HBW1⟩
          case round =>
            clear HKF HBW1
            obtain ⟨j, rfl, hj, HKF, HBF⟩ := hrel
            by_cases hjl : j < 256
            · have c0 := HKF.out.cell (rpL_at false (frsS j) (-1) hjl)
              have f0 := HKF.out.free (1 + j)
              have j0 : (j : Int) < 256 := by omega
              have HKF2 := Lib.hid (HKF.out.same (1 + j) (.bool true))
              have HBF2 := Lib.hid (HBF.out.setCell (p := ⟨bx, 1 + j, none⟩) (Nat.le_refl _) (.bool true))
              rw [rpL_set _ _ _ hjl, rpL_ext false (-1) (fun d _ => frsS_put j d)] at HKF2
              go_wp2_with fail
              exact ⟨⟨j + 1, rfl, by omega, HKF2, HBF2⟩, by simp only [intOf]; omega⟩
            · obtain rfl : j = 256 := by omega
              have HKZ : Hid (Blk wr bx 110 (rpL false (turnS noS) (-1))) := Lib.hid (by rw [← rpL_ext false (-1) (fun c hc => frsS_end hc)]; exact HKF.out)
              have HBZ : Hid (Below wo.heap.size wo wr) := Lib.hid (by rw [← HBX.out]; exact HBF.out)
              clear HKF HBF
              have HOZ := Lib.hid (own_belowG HO.out HBZ.out)
              have HSZW : w.heap.size ≤ wr.heap.size := Nat.le_trans HBW.out.size HBZ.out.size
              have HBZW := Lib.hid (below_then HBW.out HBZ.out)
              have HRG := Lib.hid (blk_range HKZ.out)
              have cs := HKZ.out.cell (rpL_self false (turnS noS) (-1))
              have HN2 : Hid ((M ++ [(⟨⟨false, (turnS noS)⟩, (-1)⟩ : GQ)]).length = n + 1) := Lib.hid (by simp [HN.out])
              have HPE3 : Hid (parseG s = (parseG (s.drop (i + 1))).map ((M ++ [(⟨⟨false, (turnS noS)⟩, (-1)⟩ : GQ)]) ++ ·)) := Lib.hid (parse_step HPE2.out rfl)
              have hn60 : (n + 1) * 272 ≤ 140737488355328 := by omega
              clear HO HBW HPE2
              go_wp2_with (first | (refine wpList_loadR _ rfl _ rfl bx 0 false (turnS noS) (-1) rfl HRG.out ?_) | (refine wpList_sliceR _ rfl _ rfl false (turnS noS) (-1) rfl ?_) | (at_builtin; refine wpList_pushR wr _ _ w.heap.size A n cp M ⟨⟨false, (turnS noS)⟩, (-1)⟩ HOZ.out HSZW hn60 rfl rfl rfl rfl ?_; intro g5 c5 w5 hown5 hb5))
              exact ⟨⟨M ++ [⟨⟨false, (turnS noS)⟩, (-1)⟩], some ⟨g5, 0, none⟩, n + 1, c5, i + 1, rfl, rfl, by omega, by omega, HN2, HPE3, Lib.hid hown5, Lib.hid (HBZW.out.trans hb5)⟩, by simp only [intOf]; omega⟩
        · have n63 : ((c.toNat : Int) == 63) = false := eqK h63
          have e63 := Lib.hid h63
          clear h63
          by_cases h93 : c = 93
          · subst h93
            have HNO : Hid (parseG s = none) := Lib.hid (parse_no HPE2.out rfl)
            have HBR := Lib.hid (below_then HBW.out HB1.out)
            clear n42 n63 c0 c257 f0 f257 HK1 HB1 HO HBW
            go_wp2_with fail
            go_ret2
            exact ⟨HBR.out, .inl ⟨HNO.out, rfl⟩⟩
          · have n93 : ((c.toNat : Int) == 93) = false := eqK h93
            have e93 := Lib.hid h93
            clear h93
            by_cases h91 : c = 91
            · subst h91
              clear hbc2
              rw [show UInt8.toNat 91 = 91 from rfl]
              have i2 : 0 ≤ (i : Int) + 1 := by omega
              go_wp2_with fail
              go_loop [8] (fun x => ∃ j : Nat, x = .int .i64 (j : Int) ∧ i + 1 ≤ j ∧ j ≤ b.size ∧ Hid (∀ (k : Nat) (c : UInt8), i + 1 ≤ k → k < j → s[k]? = some c → c ≠ 93)) (fun x => b.size - (intOf x).toNat)
              case atStart => exact ⟨i + 1, rfl, Nat.le_refl _, by omega, Lib.hid (fun k c h1 h2 => by omega)⟩
              case round =>
                obtain ⟨j, rfl, hj1, hj2, HNB⟩ := hrel
                by_cases hj : j < b.size
                · have j0 : (j : Int) < (b.size : Int) := by omega
                  have HSJ := Lib.hid (HS.out.at_ hj)
                  by_cases h93j : b[j] = 93
                  · have k93 : ((b[j].toNat : Int) != 93) = false := by rw [h93j]; rfl
                    have jne : ((j : Int) == (b.size : Int)) = false := by simp; omega
                    have HSD : Hid (s[j]? = some 93) := Lib.hid (by rw [HSJ.out, h93j])
                    have hij : (i : Int) + 1 ≤ (j : Int) := by omega
                    have hsg := ext_seg HS.out (i + 1) j
                    have HST : Hid (stepG 91 (s.drop (i + 1)) = (itmG ((s.drop (i + 1)).take (j - (i + 1)))).map fun S => (⟨⟨false, S⟩, -1⟩, s.drop (j + 1))) := Lib.hid (by
                      rw [seg_split (by omega : i + 1 ≤ j) HSD.out, step_itm (seg_no HNB.out)]
                      rw [← seg_split (by omega : i + 1 ≤ j) HSD.out])
                    have HSL : Hid (((s.drop (i + 1)).take (j - (i + 1))).length ≤ 100) := Lib.hid (by have := HSZ.out; rw [List.length_take, List.length_drop]; omega)
                    clear h93j
                    generalize (s.drop (i + 1)).take (j - (i + 1)) = seg at *
                    clear c0 c257 f0 f257
                    go_wp2_with fail
                    refine (rItems_any wr.heap.size wr.heap.size (Nat.le_refl _) seg HSL.out w1 HK1.out).mono ?_
                    rintro e w2 ⟨hb2, hcase⟩
                    have HB2 := Lib.hid (HB1.out.trans hb2)
                    clear hb2 HB1 HK1
                    rcases hcase with ⟨hno, rfl⟩ | ⟨S, hyes, rfl, hkz⟩
                    · have HNO : Hid (parseG s = none) := Lib.hid (parse_no HPE2.out (by rw [HST.out, hno]; rfl))
                      have HBR := Lib.hid (below_then HBW.out HB2.out)
                      clear hno HO HBW
                      go_wp2_with fail
                      go_ret2
                      exact ⟨HBR.out, .inl ⟨HNO.out, rfl⟩⟩
                    · have HSTS : Hid (stepG 91 (s.drop (i + 1)) = some (⟨⟨false, S⟩, -1⟩, s.drop (j + 1))) := Lib.hid (by rw [HST.out, hyes]; rfl)
                      have HKZ := Lib.hid hkz
                      have HBZ := Lib.hid HB2.out
                      clear hyes hkz HB2
                      have HOZ := Lib.hid (own_belowG HO.out HBZ.out)
                      have HSZW : w.heap.size ≤ w2.heap.size := Nat.le_trans HBW.out.size HBZ.out.size
                      have HBZW := Lib.hid (below_then HBW.out HBZ.out)
                      have HRG := Lib.hid (blk_range HKZ.out)
                      have cs := HKZ.out.cell (rpL_self false S (-1))
                      have HN2 : Hid ((M ++ [(⟨⟨false, S⟩, (-1)⟩ : GQ)]).length = n + 1) := Lib.hid (by simp [HN.out])
                      have HPE3 : Hid (parseG s = (parseG (s.drop (j + 1))).map ((M ++ [(⟨⟨false, S⟩, (-1)⟩ : GQ)]) ++ ·)) := Lib.hid (parse_step HPE2.out HSTS.out)
                      have hn60 : (n + 1) * 272 ≤ 140737488355328 := by omega
                      clear HO HBW HPE2
                      go_wp2_with (first | (refine wpList_loadR _ rfl _ rfl wr.heap.size 0 false S (-1) rfl HRG.out ?_) | (refine wpList_sliceR _ rfl _ rfl false S (-1) rfl ?_) | (at_builtin; refine wpList_pushR w2 _ _ w.heap.size A n cp M ⟨⟨false, S⟩, (-1)⟩ HOZ.out HSZW hn60 rfl rfl rfl rfl ?_; intro g5 c5 w5 hown5 hb5))
                      exact ⟨⟨M ++ [⟨⟨false, S⟩, (-1)⟩], some ⟨g5, 0, none⟩, n + 1, c5, j + 1, rfl, rfl, by omega, by omega, HN2, HPE3, Lib.hid hown5, Lib.hid (HBZW.out.trans hb5)⟩, by simp only [intOf]; omega⟩
                  · have k93 : ((b[j].toNat : Int) != 93) = true := neK h93j
                    have HNB2 : Hid (∀ (k : Nat) (c : UInt8), i + 1 ≤ k → k < j + 1 → s[k]? = some c → c ≠ 93) := Lib.hid (fun k c h1 h2 h3 => by
                      by_cases hkj : k = j
                      · subst hkj
                        rw [HSJ.out] at h3
                        injection h3 with h3
                        subst h3
                        exact h93j
                      · exact HNB.out k c h1 (by omega) h3)
                    clear h93j c0 c257 f0 f257
                    go_wp2_with fail
                    exact ⟨⟨j + 1, rfl, by omega, by omega, HNB2⟩, by simp only [intOf]; omega⟩
                · have hje : j = b.size := by omega
                  subst hje
                  have HNO : Hid (parseG s = none) := Lib.hid (parse_no HPE2.out (stepG_open (drop_no (by rw [← HSZ.out]; exact HNB.out))))
                  have HBR := Lib.hid (below_then HBW.out HB1.out)
                  clear c0 c257 f0 f257 HK1 HB1 HO HBW
                  go_wp2_with fail
                  go_ret2
                  exact ⟨HBR.out, .inl ⟨HNO.out, rfl⟩⟩
            · have n91 : ((c.toNat : Int) == 91) = false := eqK h91
              have e91 := Lib.hid h91
              clear h91
              by_cases h92 : c = 92
              · subst h92
                clear hbc2
                by_cases hi2 : i + 1 < b.size
                · have HDC2 := Lib.hid (drop_consT (HS.out.at_ hi2))
                  have i1 : (i : Int) + 1 < (b.size : Int) := by omega
                  have i2 : 0 ≤ (i : Int) + 1 := by omega
                  have i3 : (((i : Int) + 1) == (b.size : Int)) = false := by simp; omega
                  go_upto_region 28 with fail
                  generalize hbd : b[i + 1] = d at *
                  have hbd2 : ∀ h, b[i + 1]'h = d := fun _ => hbd
                  clear hbd n42 n63 n93 n91 i3
                  have hwa : wrap64 ((d.toNat : Nat) : Int) = ((d.toNat : Nat) : Int) := wrap_byte d
                  have HKS := Lib.hid (HK1.out.same 257 (.int .i64 (d.toNat : Int)))
                  have HBS := Lib.hid (HB1.out.setCell (p := ⟨wr.heap.size, 257, none⟩) (Nat.le_refl _) (.int .i64 (d.toNat : Int)))
                  rw [rpL_setSelf] at HKS
                  go_upto_region 29 with fail
                  generalize w1.setCell ⟨wr.heap.size, 257, none⟩ (.int .i64 (d.toNat : Int)) = w2 at *
                  clear c0 c257 f0 f257 HK1 HB1 hwa
                  have c257 := HKS.out.cell (rpL_self false noS (d.toNat : Int))
                  have hb6 := d.toNat_lt
                  have cbb := HKS.out.cell (rpL_at false noS (d.toNat : Int) hb6)
                  have fbb := HKS.out.free (1 + d.toNat)
                  have HKZ := Lib.hid (HKS.out.same (1 + d.toNat) (.bool true))
                  have HBZ := Lib.hid (HBS.out.setCell (p := ⟨wr.heap.size, 1 + d.toNat, none⟩) (Nat.le_refl _) (.bool true))
                  rw [rpL_set _ _ _ hb6, rpL_ext false _ (fun e _ => one_put d e)] at HKZ
                  have hge : 0 ≤ ((d.toNat : Nat) : Int) := by omega
                  have hb7 : ((d.toNat : Nat) : Int) < 256 := by omega
                  have HSTS : Hid (stepG 92 (s.drop (i + 1)) = some (⟨⟨false, oneS d⟩, (d.toNat : Int)⟩, s.drop (i + 1 + 1))) := Lib.hid (by rw [HDC2.out]; rfl)
                  generalize d.toNat = nb at *
                  go_upto_region 31 with fail
                  generalize w2.setCell ⟨wr.heap.size, 1 + nb, none⟩ (.bool true) = wz at *
                  clear c257 hb6 cbb fbb HKS HBS hge hb7
                  have HOZ := Lib.hid (own_belowG HO.out HBZ.out)
                  have HSZW : w.heap.size ≤ wz.heap.size := Nat.le_trans HBW.out.size HBZ.out.size
                  have HBZW := Lib.hid (below_then HBW.out HBZ.out)
                  have HRG := Lib.hid (blk_range HKZ.out)
                  have cs := HKZ.out.cell (rpL_self false (oneS d) (nb : Int))
                  have HN2 : Hid ((M ++ [(⟨⟨false, (oneS d)⟩, (nb : Int)⟩ : GQ)]).length = n + 1) := Lib.hid (by simp [HN.out])
                  have HPE3 : Hid (parseG s = (parseG (s.drop (i + 1 + 1))).map ((M ++ [(⟨⟨false, (oneS d)⟩, (nb : Int)⟩ : GQ)]) ++ ·)) := Lib.hid (parse_step HPE2.out HSTS.out)
                  have hn60 : (n + 1) * 272 ≤ 140737488355328 := by omega
                  clear HO HBW HPE2
                  go_wp2_with (first | (refine wpList_loadR _ rfl _ rfl wr.heap.size 0 false (oneS d) (nb : Int) rfl HRG.out ?_) | (refine wpList_sliceR _ rfl _ rfl false (oneS d) (nb : Int) rfl ?_) | (at_builtin; refine wpList_pushR wz _ _ w.heap.size A n cp M ⟨⟨false, (oneS d)⟩, (nb : Int)⟩ HOZ.out HSZW hn60 rfl rfl rfl rfl ?_; intro g5 c5 w5 hown5 hb5))
                  exact ⟨⟨M ++ [⟨⟨false, (oneS d)⟩, (nb : Int)⟩], some ⟨g5, 0, none⟩, n + 1, c5, i + 1 + 1, rfl, rfl, by omega, by omega, HN2, HPE3, Lib.hid hown5, Lib.hid (HBZW.out.trans hb5)⟩, by simp only [intOf]; omega⟩
                · have HNO : Hid (parseG s = none) := Lib.hid (parse_no HPE2.out (by rw [List.drop_of_length_le (by rw [← HSZ.out]; omega)]; rfl))
                  have hie : (i : Int) + 1 = (b.size : Int) := by omega
                  have i3 : (((i : Int) + 1) == (b.size : Int)) = true := by simp; omega
                  have HBR := Lib.hid (below_then HBW.out HB1.out)
                  clear c0 c257 f0 f257 HK1 HB1 HO HBW hie
                  go_wp2_with fail
                  go_ret2
                  exact ⟨HBR.out, .inl ⟨HNO.out, rfl⟩⟩
              · have n92 : ((c.toNat : Int) == 92) = false := eqK h92
                have e92 := Lib.hid h92
                clear h92
                go_upto_region 6 with fail
                clear n42 n63 n93 n91 n92
                have hwa : wrap64 ((c.toNat : Nat) : Int) = ((c.toNat : Nat) : Int) := wrap_byte c
                have HKS := Lib.hid (HK1.out.same 257 (.int .i64 (c.toNat : Int)))
                have HBS := Lib.hid (HB1.out.setCell (p := ⟨wr.heap.size, 257, none⟩) (Nat.le_refl _) (.int .i64 (c.toNat : Int)))
                rw [rpL_setSelf] at HKS
                go_upto_region 29 with fail
                generalize w1.setCell ⟨wr.heap.size, 257, none⟩ (.int .i64 (c.toNat : Int)) = w2 at *
                clear c0 c257 f0 f257 HK1 HB1 hwa
                have c257 := HKS.out.cell (rpL_self false noS (c.toNat : Int))
                have hb6 := c.toNat_lt
                have cbb := HKS.out.cell (rpL_at false noS (c.toNat : Int) hb6)
                have fbb := HKS.out.free (1 + c.toNat)
                have HKZ := Lib.hid (HKS.out.same (1 + c.toNat) (.bool true))
                have HBZ := Lib.hid (HBS.out.setCell (p := ⟨wr.heap.size, 1 + c.toNat, none⟩) (Nat.le_refl _) (.bool true))
                rw [rpL_set _ _ _ hb6, rpL_ext false _ (fun e _ => one_put c e)] at HKZ
                have hge : 0 ≤ ((c.toNat : Nat) : Int) := by omega
                have hb7 : ((c.toNat : Nat) : Int) < 256 := by omega
                have HSTS : Hid (stepG c (s.drop (i + 1)) = some (⟨⟨false, oneS c⟩, (c.toNat : Int)⟩, s.drop (i + 1))) := Lib.hid (by unfold stepG; rw [if_neg e42.out, if_neg e63.out, if_neg e91.out, if_neg e93.out, if_neg e92.out])
                generalize c.toNat = nb at *
                go_upto_region 31 with fail
                generalize w2.setCell ⟨wr.heap.size, 1 + nb, none⟩ (.bool true) = wz at *
                clear c257 hb6 cbb fbb HKS HBS hge hb7
                have HOZ := Lib.hid (own_belowG HO.out HBZ.out)
                have HSZW : w.heap.size ≤ wz.heap.size := Nat.le_trans HBW.out.size HBZ.out.size
                have HBZW := Lib.hid (below_then HBW.out HBZ.out)
                have HRG := Lib.hid (blk_range HKZ.out)
                have cs := HKZ.out.cell (rpL_self false (oneS c) (nb : Int))
                have HN2 : Hid ((M ++ [(⟨⟨false, (oneS c)⟩, (nb : Int)⟩ : GQ)]).length = n + 1) := Lib.hid (by simp [HN.out])
                have HPE3 : Hid (parseG s = (parseG (s.drop (i + 1))).map ((M ++ [(⟨⟨false, (oneS c)⟩, (nb : Int)⟩ : GQ)]) ++ ·)) := Lib.hid (parse_step HPE2.out HSTS.out)
                have hn60 : (n + 1) * 272 ≤ 140737488355328 := by omega
                clear HO HBW HPE2
                go_wp2_with (first | (refine wpList_loadR _ rfl _ rfl wr.heap.size 0 false (oneS c) (nb : Int) rfl HRG.out ?_) | (refine wpList_sliceR _ rfl _ rfl false (oneS c) (nb : Int) rfl ?_) | (at_builtin; refine wpList_pushR wz _ _ w.heap.size A n cp M ⟨⟨false, (oneS c)⟩, (nb : Int)⟩ HOZ.out HSZW hn60 rfl rfl rfl rfl ?_; intro g5 c5 w5 hown5 hb5))
                exact ⟨⟨M ++ [⟨⟨false, (oneS c)⟩, (nb : Int)⟩], some ⟨g5, 0, none⟩, n + 1, c5, i + 1, rfl, rfl, by omega, by omega, HN2, HPE3, Lib.hid hown5, Lib.hid (HBZW.out.trans hb5)⟩, by simp only [intOf]; omega⟩
    · obtain rfl : i = b.size := by omega
      have HQ : Hid (parseG s = some M) := Lib.hid (by rw [HPE.out, List.drop_of_length_le (by rw [HSZ.out]; exact Nat.le_refl _), parseG_nil]; simp)
      go_wp2_with fail
      go_ret2
      exact ⟨HBW.out, .inr ⟨M, A, n, cp, HQ.out, HN.out, by omega, HO.out, rfl⟩⟩
end Go.Proofs.YtcodncddaemhlaaDoor
/- Contract: the reference's PatternFault. -/
namespace Go.Proofs.YtcodncddaemhlaaDoor
open Go.RowKit

set_option maxRecDepth 100000 in
set_option maxHeartbeats 1000000 in
theorem rFault_any (t : List UInt8) (ht : t.length ≤ 9223372036854775807) (w : World) : Calls Tryd.prog 41 #[.string ⟨t.toArray⟩] w fun e w' => e = .returned (.int .i64 (errG t : Int)) ∧ Below w.heap.size w w' := by
  have hsz : (⟨t.toArray⟩ : ByteArray).size = t.length := rfl
  by_cases hl : 60 < t.length
  · have HE : Hid (errG t = 2) := Lib.hid (by unfold errG; rw [if_pos hl])
    generalize (⟨t.toArray⟩ : ByteArray) = b at *
    have h2 : 60 < b.size := by omega
    clear hsz hl ht
    go_enter Tryd.func41, Tryd.ntmps41
    go_wp2_with fail
    go_ret
    exact ⟨ret_int (by rw [HE.out]; rfl), Below.refl _ _⟩
  · have HP := Lib.hid (rPieces_any t (by omega) w)
    have HL := Lib.hid hl
    generalize (⟨t.toArray⟩ : ByteArray) = b at *
    have h2 : b.size ≤ 60 := by omega
    clear hsz hl ht
    go_enter Tryd.func41, Tryd.ntmps41
    go_wp2_with fail
    refine HP.out.mono ?_
    rintro e w' ⟨hb, hc⟩
    have HB := Lib.hid hb
    clear hb
    rcases hc with ⟨hno, rfl⟩ | ⟨M, A, n, c, h1, h3, h4, h5, rfl⟩
    · have HE : Hid (errG t = 3) := Lib.hid (by unfold errG; rw [if_neg HL.out, hno]; rfl)
      clear hno
      go_wp2_with fail
      go_ret
      exact ⟨ret_int (by rw [HE.out]; rfl), HB.out⟩
    · have HE : Hid (errG t = 0) := Lib.hid (by unfold errG; rw [if_neg HL.out, h1]; rfl)
      clear h1 h3 h4 h5
      go_wp2_with fail
      go_ret
      exact ⟨ret_int (by rw [HE.out]; rfl), HB.out⟩
def longG (s : List UInt8) : Bool := decide (100 < s.length) && decide (s.length ≤ 2000)
end Go.Proofs.YtcodncddaemhlaaDoor
