/- Contract of the reference: DoneTimes. The rows have an order, the times are right. -/
import Derived.Test.YtonmkmghpiagjaaDoorCost3
namespace Go.Proofs.YtonmkmghpiagjaaDoor
open Go.RowKit

theorem own_some {w : World} {B e n c : Nat} {A : Option Addr} {xs : List Value} (h : w.ownsRow B e 1 (.slice A n c) n xs) (hn : 0 < n) : ∃ g, A = some ⟨g, 0, none⟩ ∧ B ≤ g ∧ g < w.heap.size := by
  rcases h.2 with ⟨_, h0⟩ | ⟨g, cap, cur, hv, hB, hg, _⟩
  · omega
  · injection hv with hA _ _
    exact ⟨g, hA, hB, (Array.getElem?_eq_some_iff.1 hg).1⟩
theorem gt_pick (b v : UInt64) : bigT b v = if gtT v b then v else b := rfl
set_option maxHeartbeats 2000000 in
theorem rDoneTimes_any {A A2 : Option Addr} {n c c2 : Nat} (l : List Nat) (d : List UInt64) (w : World) (h1 : Rd w A (l.map uv)) (hl : l.length = n) (hg : Good l) (h2 : Rd w A2 (d.map fv)) (hm : d.length = n) (hr : ordR l = 0) (hd : ∀ i, RT (tAt d i)) :
    Calls Tryd.prog 38 #[.slice A n c, .slice A2 n c2] w (OwnPost 56 n (ffv (tmT l (tAt d)) n) w) := by
  have hn : n ≤ 64 := by have := hg.1; omega
  have H1 := Lib.hid h1
  have H2 := Lib.hid h2
  have HL := Lib.hid hl
  have HM := Lib.hid hm
  have HG := Lib.hid hg
  have HR := Lib.hid hr
  have HD := Lib.hid hd
  have HFD := Lib.hid (ffv_of d hm)
  clear h1 h2 hl hm hg hr hd
  go_enter Tryd.func38, Tryd.ntmps38
  go_wp2_with (at_builtin; refine wpList_cat elF64 w _ _ w.heap.size none 0 0 [] A2 n c2 (d.map fv) (World.ownsRow_nil _ _ _ _) H2.out (by rw [List.length_map]; exact HM.out) (fv_one d) (Nat.le_refl _) (by omega) (by omega) rfl rfl rfl rfl ?_; intro A5 c5 w5 hown5 hb5)
  rw [Nat.zero_add, List.nil_append, HFD.out] at hown5
  rcases Nat.eq_zero_or_pos n with h0 | h0
  · subst h0
    have HO5 := Lib.hid hown5
    have HB5 := Lib.hid hb5
    clear hown5 hb5
    go_wp2_with fail
    go_loop [6, 7, 9, 14, 18, 27] (fun _ _ _ x _ _ => x = .int .i64 0) (fun _ _ _ _ _ _ => 0)
    case atStart => exact rfl
    case round =>
      subst hrel
      go_wp2_with fail
      go_ret
      exact ⟨A5, c5, by simp, by have := HO5.out; simpa [ffv] using this, HB5.out⟩
  · obtain ⟨g, rfl, hg1, hg2⟩ := own_some hown5 (by omega)
    have HO5 := Lib.hid hown5
    have HB5 := Lib.hid hb5
    have HS0 := Lib.hid (dtIn_start (l := l) HD.out)
    have hn0 : IntKind.i64.wrap (0 + (n : Int)) = (n : Int) := by rw [IntKind.wrap_i64]; omega
    clear hown5 hb5
    go_wp2_with fail
    go_loopw [6, 7, 9, 14, 18, 27] (fun _ _ _ x _ _ wr => ∃ (q : Nat) (f : Nat → UInt64), q ≤ n ∧ x = .int .i64 (q : Int) ∧ Hid (DtIn l (tAt d) q 0 f) ∧ Hid (g < wr.heap.size) ∧ Hid (wr.ownsRow w.heap.size 56 1 (.slice (some ⟨g, 0, none⟩) n c5) n (ffv f n)) ∧ Hid (Below w.heap.size w wr)) (fun _ _ _ x _ _ _ => n - (intOf x).toNat)
    case atStart => exact ⟨0, tAt d, by omega, rfl, HS0, Lib.hid hg2, HO5, HB5⟩
    case round =>
      clear HS0 HO5 HB5 hg2
      obtain ⟨q, f, hq, rfl, hdt, hlt, hown, hbw⟩ := hrel
      by_cases hqn : q < n
      · go_wp2_with fail
        go_loopw [6, 7, 9, 18, 27] (fun _ _ _ x _ wr => ∃ (i : Nat) (f : Nat → UInt64), i ≤ n ∧ x = .int .i64 (i : Int) ∧ Hid (DtIn l (tAt d) q i f) ∧ Hid (g < wr.heap.size) ∧ Hid (wr.ownsRow w.heap.size 56 1 (.slice (some ⟨g, 0, none⟩) n c5) n (ffv f n)) ∧ Hid (Below w.heap.size w wr)) (fun _ _ _ x _ _ => n - (intOf x).toNat)
        case atStart => exact ⟨0, f, by omega, rfl, hdt, hlt, hown, hbw⟩
        case round =>
          clear hdt hlt hown hbw
          clear f
          obtain ⟨i, f, hi, rfl, hdt, hlt, hown, hbw⟩ := hrel
          by_cases hin : i < n
          · have hil : i < l.length := by rw [HL.out]; exact hin
            have HXB := Lib.hid (HG.out.b64 i)
            obtain ⟨b1, o1, rfl, x1⟩ := (H1.out.below hbw.out).set hil
            have hsz := hbw.out.size
            have HOW := hown
            have HLT := hlt
            have HBW := hbw
            clear hil hown hlt hbw
            go_wp2_with fail
            refine (rNumbers_any _ HXB.out _).mono ?_
            rintro e w2 ⟨A4, c4, rfl, hown3, hb3⟩
            have hlen := nums_len (rowAt l i)
            have HR3 := Lib.hid (Rd.of_own hown3)
            have HO2 := Lib.hid (own_below HOW.out hb3)
            have HBE := Lib.hid (HBW.out.trans (hb3.mono hsz))
            have HSZ : Hid (g < w2.heap.size) := Lib.hid (Nat.lt_of_lt_of_le HLT.out hb3.size)
            clear hown3 hb3 HOW x1 HLT HBW
            go_wp2_with fail
            go_loop [7, 9, 27] (fun b _ x => ∃ k : Nat, k ≤ (nums (rowAt l i)).length ∧ x = .int .i64 (k : Int) ∧ b = .float .f64 (beginT f ((nums (rowAt l i)).take k)).toNat) (fun _ _ x => (nums (rowAt l i)).length - (intOf x).toNat)
            case atStart => exact ⟨0, by omega, rfl, rfl⟩
            case round =>
              obtain ⟨k, hk, rfl, rfl⟩ := hrel
              by_cases hkl : k < (nums (rowAt l i)).length
              · obtain ⟨b2, o2, rfl, hc⟩ := HR3.out.at_ (k := k) (by simpa using hkl)
                have hc' : w2.cell? ⟨b2, o2 + k, none⟩ = some (.int .i64 ((nums (rowAt l i))[k]?.getD 0 : Nat)) := by rw [hc]; simp [nv, hkl]
                have hqm : (nums (rowAt l i))[k]?.getD 0 ∈ nums (rowAt l i) := by simp [hkl]
                have HTK := Lib.hid (take_snoc (nums (rowAt l i)) 0 k hkl)
                clear hc
                generalize (nums (rowAt l i))[k]?.getD 0 = z at *
                have hzn : z < n := by rw [← HL.out]; exact HG.out.2 i z ((mem_nums HXB.out).1 hqm)
                have hcq := ffv_cell HO2.out hzn
                have HSN := Lib.hid (beginT_snoc f ((nums (rowAt l i)).take k) z)
                rw [gt_pick] at HSN
                clear hqm
                cases hgt : gtT (f z) (beginT f ((nums (rowAt l i)).take k)) with
                | true =>
                  have hg' : (FloatKind.f64.format.order (f z).toNat (beginT f ((nums (rowAt l i)).take k)).toNat == some .gt) = true := hgt
                  rw [hgt] at HSN
                  clear hgt
                  go_wp2_with fail
                  go_round
                  case rel => exact ⟨k + 1, by omega, by go_num, by rw [HTK.out, HSN.out]; rfl⟩
                  case measure => simp [intOf]; omega
                | false =>
                  have hg' : (FloatKind.f64.format.order (f z).toNat (beginT f ((nums (rowAt l i)).take k)).toNat == some .gt) = false := hgt
                  rw [hgt] at HSN
                  clear hgt
                  go_wp2_with fail
                  go_round
                  case rel => exact ⟨k + 1, by omega, by go_num, by rw [HTK.out, HSN.out]; rfl⟩
                  case measure => simp [intOf]; omega
              · obtain rfl : k = (nums (rowAt l i)).length := by omega
                rw [List.take_of_length_le (Nat.le_refl _)]
                obtain ⟨bD, oD, rfl, xD⟩ := (tAt_cell (H2.out.below HBE.out) (k := i) (by rw [HM.out]; exact hin))
                have hB := beginT_rt (f := f) (L := nums (rowAt l i)) fun j _ => hdt.out.1 j
                have hadd := run_fadd_some (P := Tryd.prog) 56 (addT_is hB (HD.out i)).1
                have HSTEP := Lib.hid (dtIn_step HG.out HR.out HD.out hdt.out)
                have hcq := ffv_cell HO2.out hin
                have hfq := HO2.out.frozenAt i
                have HV := Lib.hid (ffv_set (q := i) (v := addT (beginT f (nums (rowAt l i))) (tAt d i)) HO2.out)
                have HBS := Lib.hid (HBE.out.setCell (p := ⟨g, i, none⟩) hg1 (.float .f64 (addT (beginT f (nums (rowAt l i))) (tAt d i)).toNat))
                generalize f i = u0 at hcq
                clear hB hdt
                go_wp2_with fail
                go_roundw
                case rel => exact ⟨i + 1, _, by omega, by go_num, HSTEP, Lib.hid (by simpa [World.setCell] using HSZ.out), Lib.hid HV.out.1, HBS⟩
                case measure => simp [intOf]; omega
          · obtain rfl : i = n := by omega
            have HNX : Hid (DtIn l (tAt d) (q + 1) 0 f) := Lib.hid (dtIn_round HG.out HR.out (by rw [HL.out]; exact hdt.out))
            clear hdt
            go_wp2_with fail
            go_roundw
            case rel => exact ⟨q + 1, f, by omega, by go_num, HNX, hlt, hown, hbw⟩
            case measure => simp [intOf]; omega
      · obtain rfl : q = n := by omega
        have hst := hown.out
        rw [ffv_congr (g := tmT l (tAt d)) (fun x hx => dtIn_end HG.out HR.out (by rw [HL.out]; exact hdt.out) (by rw [HL.out]; exact hx))] at hst
        have HST := Lib.hid hst
        clear hst hown hdt
        go_wp2_with fail
        go_ret
        exact ⟨_, c5, ret_slice (by omega), HST.out, hbw.out⟩
end Go.Proofs.YtonmkmghpiagjaaDoor
