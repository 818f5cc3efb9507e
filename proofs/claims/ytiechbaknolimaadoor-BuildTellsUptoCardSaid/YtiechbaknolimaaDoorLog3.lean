/- Contract: the reference's BuildLog; SameStamps. Lists of at most 2^20 elements. -/
import Derived.Test.YtiechbaknolimaaDoorLog2
import Derived.Test.YtiechbaknolimaaDoorGr4
import Derived.Test.YtiechbaknolimaaDoorQuiet
namespace Go.Proofs.YtiechbaknolimaaDoor
open Go.RowKit

section
variable {A1 A2 AR AT AF : Option Addr} {n k nr nt nf c1 c2 cr ct cf : Nat} {N : List (List UInt8)} {E : List EdgeT} {p m : Nat} {R T : List Int} {F : List UInt64} (w : World) (hG : GrIn A1 n A2 k N E p m w) (hM : MdIn AR nr AT nt R T w) (hK : TkIn AF nf F w)
include hG hM hK
set_option maxRecDepth 100000 in
set_option maxHeartbeats 4000000 in
theorem rLog_any : Calls Tryd.prog 29 #[gv A1 n c1 A2 k c2 p m, mv AR nr cr AT nt ct, .slice AF nf cf] w (LogPost N T F R (grErr N E p m) w) := by
  have C1 := Lib.hid (fun W (hW : Below w.heap.size w W) => rGraphFault_any (c1 := c1) (c2 := c2) W (hG.below hW))
  have HNL := Lib.hid hG.nlen
  have HG := Lib.hid hG
  have HM := Lib.hid hM
  have HK := Lib.hid hK
  have hnb := hG.nb
  have hrb := hM.rb
  unfold gv mv at *
  obtain ⟨x0, y0, z0⟩ := box_mix w (.slice A1 n c1) (.slice A2 k c2) (.int .u64 (p : Int)) (.int .u64 (m : Int)) (.slice AR nr cr) (.slice AT nt ct) 26 58
  have X2 := Lib.hid x0
  have Y2 := Lib.hid y0
  have B2 := Lib.hid z0
  clear hG hM hK x0 y0 z0
  go_enter Tryd.func29, Tryd.ntmps29
  go_upto_region 1 with fail
  generalize (w.alloc (.cells #[.slice A1 n c1, .slice A2 k c2, .int .u64 (p : Int), .int .u64 (m : Int)] 26)).alloc (.cells #[.slice AR nr cr, .slice AT nt ct] 58) = w2 at *
  generalize w.heap.size + 1 = BS at *
  obtain ⟨x1, x2, x3, x4⟩ := X2.out
  obtain ⟨y1, y2⟩ := Y2.out
  go_wp2_with fail
  refine (C1.out _ B2.out).mono ?_
  rintro e w3 ⟨rfl, hb3⟩
  have B3 := Lib.hid (below_then B2.out hb3)
  have X3 := Lib.hid (X2.out.below hb3)
  have Y3 := Lib.hid (Y2.out.below hb3)
  clear hb3 x1 x2 x3 x4 y1 y2 X2 Y2 C1
  obtain ⟨x1, x2, x3, x4⟩ := X3.out
  obtain ⟨y1, y2⟩ := Y3.out
  generalize hge : grErr N E p m = e0 at *
  by_cases h0 : e0 = 0
  case neg =>
    have HE := Lib.hid (logErr_e0 (N := N) (A := T) (F := F) (R := R) h0)
    have HN0 := Lib.hid h0
    clear hge
    go_wp2_with fail
    go_ret2
    exact logPost_no HE.out HN0.out rfl B3.out
  subst h0
  have HGE := Lib.hid hge
  clear hge
  by_cases h1 : nf = n
  case neg =>
    have HE := Lib.hid (logErr_1 (N := N) (A := T) (F := F) (R := R) (.inl (by rw [HK.out.flen, HNL.out]; exact h1)))
    have d1 : ((nf : Int) != (n : Int)) = true := by simp; omega
    go_wp2_with fail
    go_ret2
    exact logPost_no HE.out (by decide) rfl B3.out
  by_cases h2 : nt = n
  case neg =>
    have HE := Lib.hid (logErr_1 (N := N) (A := T) (F := F) (R := R) (.inr (by rw [HM.out.tlen, HNL.out]; exact h2)))
    have d1 : ((nf : Int) != (n : Int)) = false := by simp; omega
    have d2 : ((nt : Int) != (n : Int)) = true := by simp; omega
    go_wp2_with fail
    go_ret2
    exact logPost_no HE.out (by decide) rfl B3.out
  subst h1
  subst h2
  go_wp2_with fail
  go_loopw [9, 11, 36] (fun v _ i wr => ∃ q : Nat, q ≤ nr ∧ i = .int .i64 (q : Int) ∧ ∃ A' c', v = .slice A' q c' ∧ Hid (wr.ownsRow w3.heap.size 100 3 (.slice A' q c') q (stV (logL N T F (R.take q)))) ∧ Hid (∀ (j : Nat) (i : Int), j < q → R[j]? = some i → inR nt i = true) ∧ Hid (Below w3.heap.size w3 wr)) (fun _ _ i _ => nr - (intOf i).toNat)
  case atStart => exact ⟨0, by omega, rfl, none, 0, rfl, Lib.hid (World.ownsRow_nil _ _ _ _), Lib.hid (fun j e hj => absurd hj (by omega)), Lib.hid (Below.refl _ _)⟩
  case round =>
    clear x1 x2 x3 x4 y1 y2
    obtain ⟨q, hq, rfl, A', c', rfl, hown, hall, hbw⟩ := hrel
    have B4 := Lib.hid (below_then B3.out hbw.out)
    have X4 := Lib.hid (X3.out.below hbw.out)
    have Y4 := Lib.hid (Y3.out.below hbw.out)
    obtain ⟨x1, x2, x3, x4⟩ := X4.out
    obtain ⟨y1, y2⟩ := Y4.out
    by_cases hlt : q < nr
    · obtain ⟨i, hi⟩ : ∃ i, R[q]? = some i := ⟨_, List.getElem?_eq_getElem (by rw [HM.out.rlen]; exact hlt)⟩
      obtain ⟨bR, oR, rfl, u0⟩ := (HM.out.row.below B4.out).int (k := q) (by rw [HM.out.rlen]; exact hlt)
      rw [hi] at u0
      simp only [Option.getD_some] at u0
      have HI := Lib.hid hi
      have hq2 : (q : Int) < (nr : Int) := by omega
      clear hi
      by_cases hin : inR nt i = true
      · have hin0 : 0 ≤ i ∧ i < (nt : Int) := by unfold inR at hin; simpa using hin
        obtain ⟨z, rfl⟩ : ∃ z : Nat, i = (z : Int) := ⟨i.toNat, by omega⟩
        obtain ⟨f1, f2⟩ := hin0
        have hzn : z < nt := by omega
        obtain ⟨s, hs⟩ : ∃ s, N[z]? = some s := ⟨_, List.getElem?_eq_getElem (by rw [HNL.out]; exact hzn)⟩
        obtain ⟨t, ht⟩ : ∃ t, T[z]? = some t := ⟨_, List.getElem?_eq_getElem (by rw [HM.out.tlen]; exact hzn)⟩
        obtain ⟨f, hf⟩ : ∃ f, F[z]? = some f := ⟨_, List.getElem?_eq_getElem (by rw [HK.out.flen]; exact hzn)⟩
        obtain ⟨bN, oN, rfl, v3⟩ := (HG.out.names.below B3.out).scell hs
        obtain ⟨bT, oT, rfl, v4⟩ := (HM.out.at_.below B3.out).int (k := z) (by rw [HM.out.tlen]; exact hzn)
        obtain ⟨bF, oF, rfl, v5⟩ := (HK.out.tk.below B3.out).fval hf
        rw [ht] at v4
        simp only [Option.getD_some] at v4
        unfold fv at v5
        obtain ⟨v1, _, _, _⟩ := X3.out
        obtain ⟨_, v2⟩ := Y3.out
        have u1 := cell_keep v3 hbw.out
        have u2 := cell_keep v4 hbw.out
        have u3 := cell_keep v5 hbw.out
        have HST : Hid (stampAt N T F (z : Int) = (s, t, f)) := Lib.hid (by unfold stampAt; simp [List.getD_eq_getElem?_getD, hs, ht, hf])
        clear hs ht hf hin
        have hcs : stV (logL N T F (R.take (q + 1))) = stV (logL N T F (R.take q)) ++ [sv s, .int .i64 t, fv f] := by rw [logL_snoc HI.out, HST.out, stV_snoc]
        have HCS := Lib.hid hcs
        clear hcs
        obtain ⟨ht, i0, hi, hz, hs1, hby, hzs⟩ := elStamp
        go_wp2_with fail
        have hb0 : Below wr.heap.size wr (wr.drew.alloc (.cells #[.string ⟨s.toArray⟩, .int .i64 t, .float .f64 f.toNat] 100)) := drew_alloc_below wr _
        have H1 : Hid ((wr.drew.alloc (.cells #[.string ⟨s.toArray⟩, .int .i64 t, .float .f64 f.toNat] 100)).ownsRow w3.heap.size 100 3 (.slice A' q c') q (stV (logL N T F (R.take q)))) := Lib.hid (own_belowK hown.out hb0)
        have H2 := Lib.hid (lit_three (w := wr) (v1 := .string ⟨s.toArray⟩) (v2 := .int .i64 t) (v3 := .float .f64 f.toNat) (e := 100))
        have H3 : Hid (∀ u ∈ ([.string ⟨s.toArray⟩, .int .i64 t, .float .f64 f.toNat] : List Value), u.oneCell' = true) := Lib.hid (by intro u hu; simp at hu; rcases hu with rfl | rfl | rfl <;> rfl)
        have H4 : Hid (w3.heap.size ≤ (wr.drew.alloc (.cells #[.string ⟨s.toArray⟩, .int .i64 t, .float .f64 f.toNat] 100)).heap.size) := Lib.hid (Nat.le_trans hbw.out.size hb0.size)
        have HB0 := Lib.hid hb0
        clear hb0
        go_region_held3 (fun w' => w'.cell? ⟨w.heap.size, 0, none⟩ = some (.slice (some ⟨bN, oN, none⟩) nt c1) ∧ w'.cell? ⟨BS, 1, none⟩ = some (.slice (some ⟨bT, oT, none⟩) nt ct) ∧ w'.cell? ⟨bN, oN + z, none⟩ = some (.string ⟨s.toArray⟩) ∧ w'.cell? ⟨bT, oT + z, none⟩ = some (.int .i64 t) ∧ w'.cell? ⟨bF, oF + z, none⟩ = some (.float .f64 f.toNat))
          ((refine ⟨?_, ?_, ?_, ?_, ?_⟩ <;> first | assumption | exact cell_alloc (by assumption) _))
          ((refine step_append_lies _ rfl (.tmp 49) (.tmp 65) 62 rfl w3.heap.size 100 i0 _ 3 32 ht hi hz hs1 hby hzs (by decide) (.slice A' q c') q (stV (logL N T F (R.take q))) (by simp [Act.eval]) H1.out ⟨wr.heap.size, 0, none⟩ 1 1 [.string ⟨s.toArray⟩, .int .i64 t, .float .f64 f.toNat] (by simp [Act.eval]) rfl H2.out H3.out (by decide) (by unfold maxLen; omega) (by omega) H4.out _ rfl ?_; intro g7 c7 w7 hown7 hg7 _ _; have HB7 : Below w3.heap.size w3 w7 := (hbw.out.trans (HB0.out.mono hbw.out.size)).grown hg7 H4.out (fun k hk => (H1.out.lt k hk).1); have z1 := cell_keep v1 HB7; have z2 := cell_keep v2 HB7; have z3 := cell_keep v3 HB7; have z4 := cell_keep v4 HB7; have z5 := cell_keep v5 HB7))
        have HB7 := Lib.hid HB7
        clear z1 z2 z3 z4 z5
        have HO7 : Hid (w7.ownsRow w3.heap.size 100 3 (.slice (some ⟨g7, 0, none⟩) (q + 1) c7) (q + 1) (stV (logL N T F (R.take (q + 1))))) := Lib.hid (by rw [HCS.out]; exact hown7)
        have HA : Hid (∀ (j : Nat) (i : Int), j < q + 1 → R[j]? = some i → inR nt i = true) := Lib.hid (fun j i hj hi => by
          rcases Nat.lt_or_ge j q with h | h
          · exact hall.out j i h hi
          · obtain rfl : j = q := by omega
            rw [HI.out] at hi
            injection hi with hi
            rw [← hi]; unfold inR; simp; omega)
        clear hown7 hg7 hown hall
        go_simp
        go_wp2_with fail
        go_roundw
        case rel => exact ⟨q + 1, by omega, by go_num, some ⟨g7, 0, none⟩, c7, rfl, HO7, HA, HB7⟩
        case measure => simp [intOf]; omega
      · have HE : Hid (logErr N T F R 0 = 4) := Lib.hid (logErr_4 (by rw [HK.out.flen, HNL.out]) (by rw [HM.out.tlen, HNL.out]) HI.out (by rw [HNL.out]; simpa using hin))
        have hout : i < 0 ∨ (0 ≤ i ∧ (nt : Int) ≤ i) := by unfold inR at hin; simp at hin; omega
        clear hin hown hall
        rcases hout with hout | ⟨hout1, hout2⟩
        · go_wp2_with fail
          go_ret2
          exact logPost_no HE.out (by decide) rfl B4.out
        · go_wp2_with fail
          go_ret2
          exact logPost_no HE.out (by decide) rfl B4.out
    · obtain rfl : q = nr := by omega
      have hqn : ¬ (q : Int) < (q : Int) := by omega
      have HE : Hid (logErr N T F R 0 = stErr (logL N T F R)) := Lib.hid (logErr_end (by rw [HK.out.flen, HNL.out]) (by rw [HM.out.tlen, HNL.out]) (fun j i hi => by rw [HNL.out]; exact hall.out j i (by have := (List.getElem?_eq_some_iff.1 hi).1; have := HM.out.rlen; omega) hi))
      have HRD : Hid (Rd wr A' (stV (logL N T F R))) := Lib.hid (by
        have := rd_of_ownK hown.out
        rwa [List.take_of_length_le (by rw [HM.out.rlen]; exact Nat.le_refl _)] at this)
      have HLL : Hid ((logL N T F R).length = q) := Lib.hid (by unfold logL; rw [List.length_map]; exact HM.out.rlen)
      have HC := Lib.hid (rStamps_any (c := c') (logL N T F R) wr HRD.out HLL.out (by omega) (logL_names HG.out.strs))
      clear hown hall
      go_wp2_with fail
      refine HC.out.mono ?_
      rintro e w5 ⟨rfl, hb5⟩
      have B5 := Lib.hid (below_then B4.out hb5)
      have HR5 := Lib.hid (HRD.out.below hb5)
      clear hb5 x1 x2 x3 x4 y1 y2
      by_cases he : stErr (logL N T F R) = 0
      · have HV : Hid (logV N T F R 0 = logL N T F R) := Lib.hid (by unfold logV; rw [HE.out, if_pos he])
        rw [he] at HE ⊢
        clear he
        go_wp2_with fail
        go_ret2
        refine ⟨A', c', ?_, ?_, B5.out⟩
        · rw [HV.out, HLL.out, HE.out] <;> rfl
        · rw [HV.out]; exact HR5.out
      · have HEN := Lib.hid he
        generalize stErr (logL N T F R) = x at *
        go_wp2_with fail
        go_ret2
        exact logPost_no HE.out HEN.out rfl B5.out
end
end Go.Proofs.YtiechbaknolimaaDoor
/- Contract: the reference's SameStamps, at two lists that are the same. -/
namespace Go.Proofs.YtiechbaknolimaaDoor
open Go.RowKit

set_option maxHeartbeats 2000000 in
theorem sameStamps_any {A B : Option Addr} {n c d : Nat} (L : List StampT) (w : World) (hr : Rd w A (stV L)) (hr2 : Rd w B (stV L)) (hn : L.length = n) (hb : n ≤ 9223372036854775807) :
    Calls Tryd.prog 31 #[.slice A n c, .slice B n d] w fun e w' => e = .returned (.bool true) ∧ Below w.heap.size w w' := by
  have HR := Lib.hid hr
  have HR2 := Lib.hid hr2
  have HN := Lib.hid hn
  clear hr hr2 hn
  go_enter Tryd.func31, Tryd.ntmps31
  go_wp2_with fail
  go_loopw [5, 13] (fun _ i wr => ∃ q : Nat, q ≤ n ∧ i = .int .i64 (q : Int) ∧ Hid (Below w.heap.size w wr)) (fun _ i _ => n - (intOf i).toNat)
  case atStart => exact ⟨0, by omega, rfl, Lib.hid (Below.refl _ _)⟩
  case round =>
    obtain ⟨q, hq, rfl, hbw⟩ := hrel
    by_cases hlt : q < n
    · obtain ⟨⟨s, t, f⟩, he⟩ : ∃ x, L[q]? = some x := ⟨_, List.getElem?_eq_getElem (by rw [HN.out]; exact hlt)⟩
      obtain ⟨b, off, rfl, y1, y2, y3⟩ := (HR.out.below hbw.out).stamp he
      obtain ⟨b2, off2, rfl, z1, z2, z3⟩ := (HR2.out.below hbw.out).stamp he
      simp only at y1 y2 y3 z1 z2 z3
      have HC := Lib.hid (sameBits_any f f)
      rw [decide_eq_true rfl] at HC
      have HB := Lib.hid (fun q => below_drewN hbw.out q)
      have f1 : (0 : Int) ≤ (q : Int) := by omega
      have f2 : (q : Int) < (n : Int) := by omega
      clear he hbw
      unfold sv fv at *
      generalize (⟨s.toArray⟩ : ByteArray) = bs at *
      have hbb : (bs.toList == bs.toList) = true := by simp
      have htt : (t != t) = false := by simp
      go_wp2_with fail
      go_quiet ((go_at_call 61; exact quiet_left (HC.out _)))
      go_wp2_with fail
      go_roundw
      case rel => exact ⟨q + 1, by omega, by go_num, Lib.hid (HB.out _)⟩
      case measure => simp [intOf]; omega
    · have hqn : ¬ (q : Int) < (n : Int) := by omega
      go_wp2_with fail
      go_ret
      exact ⟨rfl, hbw.out⟩
end Go.Proofs.YtiechbaknolimaaDoor
