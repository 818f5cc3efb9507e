/- Contracts: the reference's RuleText at any rule, FileText. -/
import Derived.Test.YtoandhhkmkgmaaaGreatDoorMg31
namespace Go.Proofs.YtoandhhkmkgmaaaGreatDoor
open Go.RowKit

theorem flat_take_le {α : Type} (l : List α) (f : α → List UInt8) (k : Nat) : ((l.take k).flatMap f).length ≤ (l.flatMap f).length := by
 conv => rhs; rw [← List.take_append_drop k l]
 rw [List.flatMap_append, List.length_append]
 omega
set_option maxRecDepth 100000 in
set_option maxHeartbeats 4000000 in
theorem rTextG_any {A1 A2 : Option Addr} {n1 n2 c1 c2 : Nat} (r : RuleT) (w : World) (h1 : Rd w A1 (r.1.map sv)) (h2 : Rd w A2 (r.2.map sv)) (l1 : r.1.length = n1) (l2 : r.2.length = n2) (b1 : n1 ≤ 9223372036854775807) (b2 : n2 ≤ 9223372036854775807) (hz : (rlText r).length ≤ 1048640) :
 Calls Tryz.prog 49 #[.agg #[.slice A1 n1 c1, .slice A2 n2 c2]] w fun e w' => e = .returned (.string ⟨(rlText r).toArray⟩) ∧ Below w.heap.size w w' := by
 obtain ⟨x, y⟩ := rbox_two w (.slice A1 n1 c1) (.slice A2 n2 c2) 78
 have R1 := Lib.hid (h1.below y)
 have R2 := Lib.hid (h2.below y)
 have X := Lib.hid x
 have Y := Lib.hid y
 have L1 := Lib.hid l1
 have L2 := Lib.hid l2
 have HZ : Hid ((r.1.flatMap fun t => t ++ [32]).length + 1 + (r.2.flatMap fun n => 32 :: n).length ≤ 1048640) := Lib.hid (by unfold rlText at hz; simp only [List.length_append, List.length_singleton] at hz; exact hz)
 have HF1 := Lib.hid (fun k => Nat.le_trans (flat_take_le r.1 (fun t => t ++ [32]) k) (show _ ≤ 1048640 by have := HZ.out; omega))
 have HF2 := Lib.hid (fun k => Nat.le_trans (flat_take_le r.2 (fun n => 32 :: n) k) (show _ ≤ 1048640 by have := HZ.out; omega))
 clear h1 h2 y l1 l2 hz
 go_enter Tryz.func49, Tryz.ntmps49
 go_upto_region 1 with fail
 generalize w.alloc (.cells #[.slice A1 n1 c1, .slice A2 n2 c2] 78) = wb at *
 obtain ⟨x1, x2⟩ := x
 go_wp2_with fail
 go_loop [3, 5, 11] (fun x _ i => ∃ (k : Nat) (O : List UInt8), k ≤ n1 ∧ i = .int .i64 (k : Int) ∧ x = .string ⟨O.toArray⟩ ∧ O.length ≤ 1048640 ∧ Hid (O = (r.1.take k).flatMap fun t => t ++ [32])) (fun _ _ i => n1 - (intOf i).toNat)
 case atStart => exact ⟨0, [], by omega, rfl, rfl, by simp, Lib.hid rfl⟩
 case round =>
  obtain ⟨k, O, hk, rfl, rfl, hO, HO⟩ := hrel
  by_cases hlt : k < n1
  ·obtain ⟨t, ht⟩ : ∃ t, r.1[k]? = some t := ⟨_, List.getElem?_eq_getElem (by rw [L1.out]; exact hlt)⟩
   obtain ⟨b, off, rfl, hc⟩ := R1.out.scell ht
   have HC1 := Lib.hid (cat_bytesL t [32])
   have HC2 := Lib.hid (cat_bytesL O (t ++ [32]))
   have HSN := Lib.hid (flat_snoc ht (fun t => t ++ [32]))
   have hk1 : (k : Int) < (n1 : Int) := by omega
   have HLN : Hid ((O ++ (t ++ [32])).length ≤ 1048640) := Lib.hid (by
    have h := HF1.out (k + 1)
    rw [HSN.out, ← HO.out] at h
    exact h)
   have hs0 := HLN.out
   simp only [List.length_append, List.length_singleton] at hs0
   have hs1 : ¬ 9223372036854775807 < t.length + 1 := by omega
   have hs2 : ¬ 9223372036854775807 < O.length + (t.length + 1) := by omega
   clear ht hs0
   go_wp2_with fail
   go_round
   case rel => exact ⟨k + 1, O ++ (t ++ [32]), by omega, by go_num, congrArg Value.string ((congrArg (⟨O.toArray⟩ ++ ·) HC1.out).trans HC2.out), HLN.out, Lib.hid (by rw [HSN.out, ← HO.out])⟩
   case measure => simp [intOf]; omega
  ·obtain rfl : k = n1 := by omega
   have HT : Hid (O = r.1.flatMap fun t => t ++ [32]) := Lib.hid (by rw [HO.out, List.take_of_length_le (by rw [L1.out]; exact Nat.le_refl _)])
   have HC1 := Lib.hid (cat_bytesL O [58])
   have hs2 : ¬ 9223372036854775807 < O.length + 1 := by omega
   have HOB : Hid (O.length ≤ 1048640) := Lib.hid (by omega)
   clear hO
   go_wp2_with fail
   go_loop [3, 7, 25] (fun x _ i => ∃ (q : Nat) (T : List UInt8), q ≤ n2 ∧ i = .int .i64 (q : Int) ∧ x = .string ⟨(O ++ [58] ++ T).toArray⟩ ∧ T.length ≤ 1048640 ∧ Hid (T = (r.2.take q).flatMap fun n => 32 :: n)) (fun _ _ i => n2 - (intOf i).toNat)
   case atStart => exact ⟨0, [], by omega, rfl, congrArg Value.string (by rw [List.append_nil]; exact HC1.out), by simp, Lib.hid rfl⟩
   case round =>
    obtain ⟨q, T, hq, rfl, rfl, hT, HTT⟩ := hrel
    by_cases hlt2 : q < n2
    ·obtain ⟨t, ht⟩ : ∃ t, r.2[q]? = some t := ⟨_, List.getElem?_eq_getElem (by rw [L2.out]; exact hlt2)⟩
     obtain ⟨b, off, rfl, hc⟩ := R2.out.scell ht
     have HC3 := Lib.hid (cat_bytesL [32] t)
     have HC4 := Lib.hid (cat_bytesL (O ++ [58] ++ T) (32 :: t))
     have HSN := Lib.hid (flat_snoc ht (fun n => 32 :: n))
     have hk1 : (q : Int) < (n2 : Int) := by omega
     have HLN : Hid ((T ++ (32 :: t)).length ≤ 1048640) := Lib.hid (by
      have h := HF2.out (q + 1)
      rw [HSN.out, ← HTT.out] at h
      exact h)
     have HLT : Hid (t.length ≤ 1048640) := Lib.hid (by
      have h := HLN.out
      simp only [List.length_append, List.length_cons] at h
      omega)
     have HLU : Hid ((O ++ [58] ++ T).length ≤ 3145730) := Lib.hid (by
      have h := HOB.out
      simp only [List.length_append, List.length_singleton]
      omega)
     generalize hU : O ++ [58] ++ T = U at *
     have HU := Lib.hid hU
     have hs0 := HLT.out
     have hs9 := HLU.out
     have hs1 : ¬ 9223372036854775807 < 1 + t.length := by omega
     have hs3 : ¬ 9223372036854775807 < U.length + (1 + t.length) := by omega
     clear ht hs0 hs9 hU hT hs2
     go_wp2_with fail
     go_round
     case rel => exact ⟨q + 1, T ++ (32 :: t), by omega, by go_num, congrArg Value.string (((congrArg (⟨U.toArray⟩ ++ ·) HC3.out).trans HC4.out).trans (by rw [← HU.out]; simp)), HLN.out, Lib.hid (by rw [HSN.out, ← HTT.out])⟩
     case measure => simp [intOf]; omega
    ·obtain rfl : q = n2 := by omega
     have HE : Hid (O ++ [58] ++ T = rlText r) := Lib.hid (by
      unfold rlText
      rw [HT.out, HTT.out, List.take_of_length_le (by rw [L2.out]; exact Nat.le_refl _)])
     generalize hU : O ++ [58] ++ T = U at *
     clear hT hs2 hU
     go_wp2_with fail
     go_ret
     exact ⟨by rw [← HE.out]; rfl, Y.out⟩
set_option maxRecDepth 100000 in
set_option maxHeartbeats 8000000 in
theorem rFileText_any {A0 A1 A2 A3 : Option Addr} {n0 n1 n2 n3 c0 c1 c2 c3 : Nat} (f : FileT) (L : List RSlot) (w : World) (h : FileRd A0 A1 A2 A3 f L w) (hz : SzF f) (e0 : f.mac.length = n0) (e1 : f.pho.length = n1) (e2 : f.inf.length = n2) (e3 : L.length = n3) :
 Calls Tryz.prog 16 #[.agg #[.slice A0 n0 c0, .slice A1 n1 c1, .slice A2 n2 c2, .slice A3 n3 c3]] w fun e w' => ∃ A n c, e = .returned (.slice A n c) ∧ OutS w (linesP f) A n c w' := by
 have HF := Lib.hid h
 have HZ := Lib.hid hz
 have E0 := Lib.hid e0
 have E1 := Lib.hid e1
 have E2 := Lib.hid e2
 have E3 := Lib.hid e3
 have HB0 := Lib.hid (below_new (Below.refl w.heap.size w) (.cells #[.slice A0 n0 c0, .slice A1 n1 c1, .slice A2 n2 c2, .slice A3 n3 c3] 27))
 have HK0 := Lib.hid (Blk.new w #[.slice A0 n0 c0, .slice A1 n1 c1, .slice A2 n2 c2, .slice A3 n3 c3] 27)
 have z0 := hz.mac
 have z2 := hz.inf
 have z3 := hz.rul
 have z1 := hz.phos.1
 rw [h.len] at z3
 rw [e0] at z0
 rw [e1] at z1
 rw [e2] at z2
 rw [e3] at z3
 have HPL := Lib.hid (fun k => Nat.le_trans (flat_take_le f.pho (fun s => 32 :: s) k) (show _ ≤ 4194304 by
  by_cases h0 : f.pho.length = 0
  ·rw [List.length_eq_zero_iff.1 h0]; simp
  ·have h1 := joinSp_lens f.pho h0
   have h2 := hz.phos
   have h3 := congrArg List.length (joinSp_flat h0)
   rw [List.length_append, List.length_singleton] at h3
   omega))
 have HRP : Hid (Rd w A1 (f.pho.map sv)) := Lib.hid h.pho
 have HPS : Hid (1 ≤ n1 → phoLines f.pho = [phonyW ++ [32, 58, 32] ++ joinSp f.pho]) := Lib.hid (fun h1 => by unfold phoLines; rw [if_neg (by omega)])
 have HPN : Hid (n1 = 0 → phoLines f.pho = []) := Lib.hid (fun h1 => by unfold phoLines; rw [if_pos (by omega)])
 clear h hz e0 e1 e2 e3
 go_enter Tryz.func16, Tryz.ntmps16
 go_upto_region 1 with fail
 generalize w.alloc (.cells #[.slice A0 n0 c0, .slice A1 n1 c1, .slice A2 n2 c2, .slice A3 n3 c3] 27) = w0 at *
 generalize hb : w.heap.size = b at *
 have HBB := Lib.hid hb
 clear hb
 have HW0 : Hid (Below w.heap.size w w0) := Lib.hid (by rw [HBB.out]; exact HB0.out)
 have d0 := HK0.out.cell (j := 0) rfl
 go_wp2_with fail
 go_loopw [3, 16] (fun v i wr => ∃ (k : Nat) (A : Option Addr) (c : Nat), k ≤ n0 ∧ i = .int .i64 (k : Int) ∧ v = .slice A k c ∧ Hid (OutS w0 ([] ++ (f.mac.take k).map macLine) A k c wr)) (fun _ i _ => n0 - (intOf i).toNat)
 case atStart => exact ⟨0, none, 0, by omega, rfl, rfl, Lib.hid (OutS.start w0)⟩
 case round =>
  obtain ⟨k, A, c, hk, rfl, rfl, HO⟩ := hrel
  by_cases hlt : k < n0
  ·obtain ⟨m, hx⟩ : ∃ m, f.mac[k]? = some m := ⟨_, List.getElem?_eq_getElem (by rw [E0.out]; exact hlt)⟩
   obtain ⟨bA, off, rfl, m0, m1⟩ := (HF.out.mac.below (below_then HW0.out HO.out.bel)).macs hx
   have HSN := Lib.hid (lines_snoc (f := macLine) (X := []) hx)
   have hms := HZ.out.macs m (List.mem_of_getElem? hx)
   have HLN := Lib.hid (mac_sv m)
   have hl1 : (⟨m.1.toArray⟩ : ByteArray).size = m.1.length := rfl
   have hl2 : (⟨m.2.toArray⟩ : ByteArray).size = m.2.length := rfl
   unfold sv at m0 m1
   generalize (⟨m.1.toArray⟩ : ByteArray) = bn at *
   generalize (⟨m.2.toArray⟩ : ByteArray) = bv at *
   obtain ⟨bl, hbl⟩ : ∃ bl, bn ++ ⟨#[32, 61, 32]⟩ ++ bv = bl := ⟨_, rfl⟩
   rw [hbl] at HLN
   have hs1 : ¬ 9223372036854775807 < bn.size + 3 := by omega
   have hs2 : ¬ 9223372036854775807 < bn.size + 3 + bv.size := by omega
   have hk1 : (k : Int) < (n0 : Int) := by omega
   have hb3 := below_new (Below.refl wr.heap.size wr) (.cells #[.string bn, .string bv] 71)
   have HO3 := Lib.hid (HO.out.below hb3)
   have HK8 := Lib.hid (Blk.new wr #[.string bn, .string bv] 71)
   clear hx hms hl1 hl2 hb3
   go_upto_region 5 with fail
   generalize wr.alloc (.cells #[.string bn, .string bv] 71) = w3 at *
   generalize wr.heap.size = k8 at *
   have y0 := HK8.out.cell (j := 0) rfl
   have y1 := HK8.out.cell (j := 1) rfl
   go_wp2_with (at_builtin; refine wpList_push elStr w3 _ _ w0.heap.size A k c (([] ++ (f.mac.take k).map macLine).map sv) (.string bl) HO3.out.own rfl HO3.out.bel.size (by omega) (by omega) rfl rfl rfl rfl ?_; intro A' c' w4 hown4 hb4)
   have HO4 := Lib.hid (HO3.out.push HLN.out hown4 hb4)
   clear hown4 hb4
   go_roundw
   case rel => exact ⟨k + 1, A', c', by omega, by go_num, rfl, by rw [HSN.out]; exact HO4⟩
   case measure => simp [intOf]; omega
  ·obtain rfl : k = n0 := by omega
   have HT0 : Hid ([] ++ (f.mac.take k).map macLine = f.mac.map macLine) := Lib.hid (by rw [List.take_of_length_le (by rw [E0.out]; exact Nat.le_refl _)]; rfl)
   rw [HT0.out] at HO
   clear d0
   have HK1 := Lib.hid (HK0.out.below HO.out.bel HK0.out.lt)
   have d1 := HK1.out.cell (j := 1) rfl
   have HWR : Hid (Below b w wr) := Lib.hid (by have h := below_then HW0.out HO.out.bel; rw [HBB.out] at h; exact h)
   by_cases h1 : 1 ≤ n1
   case neg =>
    obtain rfl : n1 = 0 := by omega
    have HPN1 := Lib.hid (HPN.out (by omega))
    have HOq : Hid (OutS w0 (f.mac.map macLine ++ phoLines f.pho) A k c wr) := Lib.hid (by rw [HPN1.out, List.append_nil]; exact HO.out)
    go_upto_region 15 with fail
    clear HWR d1 HK1 HO h1
    have hkq : k ≤ 1048641 := by omega
    generalize wr = w4 at *
    generalize A = A' at *
    generalize c = c' at *
    obtain ⟨kq, rfl⟩ : ∃ kq, kq = k := ⟨_, rfl⟩
    have HK1 := Lib.hid (HK0.out.below HOq.out.bel HK0.out.lt)
    have d2 := HK1.out.cell (j := 2) rfl
    go_wp2_with fail
    generalize hX1 : f.mac.map macLine ++ phoLines f.pho = X1 at *
    have HX1 := Lib.hid hX1
    clear hX1
    go_loopw [3, 53] (fun v i wr => ∃ (q : Nat) (A : Option Addr) (c : Nat), q ≤ n2 ∧ i = .int .i64 (q : Int) ∧ v = .slice A (kq + q) c ∧ Hid (OutS w0 (X1 ++ (f.inf.take q).map infLine) A (kq + q) c wr)) (fun _ i _ => n2 - (intOf i).toNat)
    case atStart => exact ⟨0, A', c', by omega, rfl, rfl, Lib.hid (by rw [List.take_zero, List.map_nil, List.append_nil]; exact HOq.out)⟩
    case round =>
     obtain ⟨q, A, c, hq, rfl, rfl, HO⟩ := hrel
     by_cases hlt : q < n2
     ·obtain ⟨m, hx⟩ : ∃ m, f.inf[q]? = some m := ⟨_, List.getElem?_eq_getElem (by rw [E2.out]; exact hlt)⟩
      obtain ⟨bA, off, rfl, m0, m1⟩ := (HF.out.inf.below (below_then HW0.out HO.out.bel)).macs hx
      have HSN := Lib.hid (lines_snoc (f := infLine) (X := X1) hx)
      have hms := HZ.out.infs m (List.mem_of_getElem? hx)
      have HLN := Lib.hid (inf_sv m)
      have hl1 : (⟨m.1.toArray⟩ : ByteArray).size = m.1.length := rfl
      have hl2 : (⟨m.2.toArray⟩ : ByteArray).size = m.2.length := rfl
      unfold sv at m0 m1
      generalize (⟨m.1.toArray⟩ : ByteArray) = bn at *
      generalize (⟨m.2.toArray⟩ : ByteArray) = bv at *
      obtain ⟨bl, hbl⟩ : ∃ bl, bn ++ bv ++ ⟨#[32, 58]⟩ = bl := ⟨_, rfl⟩
      rw [hbl] at HLN
      have hs1 : ¬ 9223372036854775807 < bn.size + bv.size := by omega
      have hs2 : ¬ 9223372036854775807 < bn.size + bv.size + 2 := by omega
      have hk1 : (q : Int) < (n2 : Int) := by omega
      have hb3 := below_new (Below.refl wr.heap.size wr) (.cells #[.string bn, .string bv] 85)
      have HO3 := Lib.hid (HO.out.below hb3)
      have HK8 := Lib.hid (Blk.new wr #[.string bn, .string bv] 85)
      clear hx hms hl1 hl2 hb3
      go_upto_region 18 with fail
      generalize wr.alloc (.cells #[.string bn, .string bv] 85) = w3 at *
      generalize wr.heap.size = k8 at *
      have y0 := HK8.out.cell (j := 0) rfl
      have y1 := HK8.out.cell (j := 1) rfl
      go_wp2_with (at_builtin; refine wpList_push elStr w3 _ _ w0.heap.size A (kq + q) c ((X1 ++ (f.inf.take q).map infLine).map sv) (.string bl) HO3.out.own rfl HO3.out.bel.size (by omega) (by omega) rfl rfl rfl rfl ?_; intro A' c' w5 hown4 hb4)
      have HO4 := Lib.hid (HO3.out.push HLN.out hown4 hb4)
      clear hown4 hb4
      go_roundw
      case rel => exact ⟨q + 1, A', c', by omega, by go_num, rfl, by rw [HSN.out]; exact HO4⟩
      case measure => simp [intOf]; omega
     ·obtain rfl : q = n2 := by omega
      have HT0 : Hid (X1 ++ (f.inf.take q).map infLine = X1 ++ f.inf.map infLine) := Lib.hid (by rw [List.take_of_length_le (by rw [E2.out]; exact Nat.le_refl _)])
      rw [HT0.out] at HO
      clear d2 HK1
      have HK1 := Lib.hid (HK0.out.below HO.out.bel HK0.out.lt)
      have d3 := HK1.out.cell (j := 3) rfl
      obtain ⟨m2, hm2⟩ : ∃ m2, kq + q = m2 := ⟨_, rfl⟩
      have hmq : m2 ≤ 2097409 := by omega
      rw [hm2] at HO ⊢
      clear hm2 HOq hlt
      go_wp2_with fail
      generalize hX2 : X1 ++ f.inf.map infLine = X2 at *
      have HX2 := Lib.hid hX2
      clear hX2
      go_loopw [3, 70] (fun v i wr => ∃ (p : Nat) (A : Option Addr) (c : Nat), p ≤ n3 ∧ i = .int .i64 (p : Int) ∧ v = .slice A (m2 + p) c ∧ Hid (OutS w0 (X2 ++ (rulesOf (L.take p)).map rlText) A (m2 + p) c wr)) (fun _ i _ => n3 - (intOf i).toNat)
      case atStart => exact ⟨0, A, c, by omega, rfl, rfl, Lib.hid (by rw [List.take_zero]; unfold rulesOf; rw [List.map_nil, List.map_nil, List.append_nil]; exact HO.out)⟩
      case round =>
       obtain ⟨p, A, c, hpn, rfl, rfl, HOp⟩ := hrel
       by_cases hlt : p < n3
       ·obtain ⟨x, hx⟩ : ∃ x, L[p]? = some x := ⟨_, List.getElem?_eq_getElem (by rw [E3.out]; exact hlt)⟩
        have HSN := Lib.hid (rlines_snoc (X := X2) hx)
        have hln := HZ.out.lin (rlText x.2.2) (by unfold linesP; simp only [List.mem_append, List.mem_map]; exact .inr ⟨x.2.2, by rw [← HF.out.eq]; exact List.mem_of_getElem? (rulesOf_atL hx), rfl⟩)
        have HXR := Lib.hid ((HF.out.rul.each x (List.mem_of_getElem? hx)).below (below_then HW0.out HOp.out.bel))
        obtain ⟨bA, off, rfl, a0, a1⟩ := (HF.out.rul.rd.below (below_then HW0.out HOp.out.bel)).two hx
        have hcap : 2 * p = p * 2 := by omega
        rw [hcap] at a0 a1
        obtain ⟨⟨X, xc⟩, ⟨Y, yc⟩, r⟩ := x
        simp only [rsT, rsN] at a0 a1 HXR HSN hln
        have HR1 := Lib.hid HXR.out.t
        have HR2 := Lib.hid HXR.out.n
        have HRB1 := Lib.hid HXR.out.tb
        have HRB2 := Lib.hid HXR.out.nb
        simp only [] at HR1 HR2 HRB1 HRB2
        have HLNN := Lib.hid hln
        generalize hr1 : r.1.length = u1 at *
        generalize hr2 : r.2.length = u2 at *
        have HU1 := Lib.hid hr1
        have HU2 := Lib.hid hr2
        have hk1 : (p : Int) < (n3 : Int) := by omega
        have hb3 := below_new (Below.refl wr.heap.size wr) (.cells #[.slice X u1 xc, .slice Y u2 yc] 78)
        have HO3 := Lib.hid (HOp.out.below hb3)
        have HR3 := Lib.hid (HR1.out.below hb3)
        have HR4 := Lib.hid (HR2.out.below hb3)
        have HK8 := Lib.hid (Blk.new wr #[.slice X u1 xc, .slice Y u2 yc] 78)
        clear hx hcap hb3 hr1 hr2 HXR HR1 HR2 hln
        go_upto_region 23 with fail
        generalize wr.alloc (.cells #[.slice X u1 xc, .slice Y u2 yc] 78) = w3 at *
        generalize wr.heap.size = k8 at *
        have HJ5 := Lib.hid (rTextG_any (c1 := xc) (c2 := yc) r w3 HR3.out HR4.out HU1.out HU2.out HRB1.out HRB2.out (by have := HLNN.out; omega))
        have y0 := HK8.out.cell (j := 0) rfl
        have y1 := HK8.out.cell (j := 1) rfl
        obtain ⟨bt, hbt⟩ : ∃ bt, (⟨(rlText r).toArray⟩ : ByteArray) = bt := ⟨_, rfl⟩
        have HLN : Hid (sv (rlText r) = .string bt) := Lib.hid (by rw [← hbt]; rfl)
        rw [hbt] at HJ5
        clear hbt
        go_wp2_with fail
        refine HJ5.out.mono ?_
        rintro e w6 ⟨rfl, hb6⟩
        have HO6 := Lib.hid (HO3.out.below hb6)
        clear hb6
        go_wp2_with (at_builtin; refine wpList_push elStr w6 _ _ w0.heap.size A (m2 + p) c ((X2 ++ (rulesOf (L.take p)).map rlText).map sv) (.string bt) HO6.out.own rfl HO6.out.bel.size (by omega) (by omega) rfl rfl rfl rfl ?_; intro A' c' w7 hown4 hb4)
        have HO7 := Lib.hid (HO6.out.push HLN.out hown4 hb4)
        clear hown4 hb4
        go_roundw
        case rel => exact ⟨p + 1, A', c', by omega, by go_num, rfl, by rw [HSN.out]; exact HO7⟩
        case measure => simp [intOf]; omega
       ·obtain rfl : p = n3 := by omega
        have HT3 : Hid (X2 ++ (rulesOf (L.take p)).map rlText = linesP f) := Lib.hid (by
         rw [List.take_of_length_le (by rw [E3.out]; exact Nat.le_refl _), HF.out.eq, ← HX2.out, ← HX1.out]
         rfl)
        rw [HT3.out] at HOp
        go_wp2_with fail
        go_ret
        exact ⟨A, _, c, rfl, HOp.out.base HW0.out⟩
   case pos =>
    have q1 : decide ((n1 : Int) > 0) = true := by simp; omega
    have q2 : (0 : Int) < (n1 : Int) := by omega
    have HPS1 : Hid (phoLines f.pho = [phonyW ++ [32, 58] ++ f.pho.flatMap fun s => 32 :: s]) := Lib.hid (by
     rw [HPS.out h1, ← joinSp_flat (by rw [E1.out]; omega)]
     simp)
    clear h1
    go_wp2_with fail
    go_loopw [6, 8, 37] (fun x _ i w' => ∃ (q : Nat) (T : List UInt8), q ≤ n1 ∧ i = .int .i64 (q : Int) ∧ x = .string ⟨(phonyW ++ [32, 58] ++ T).toArray⟩ ∧ T.length ≤ 4194304 ∧ Hid (T = (f.pho.take q).flatMap fun s => 32 :: s) ∧ w' = wr) (fun _ _ i _ => n1 - (intOf i).toNat)
    case atStart => exact ⟨0, [], by omega, rfl, rfl, by simp, Lib.hid rfl, rfl⟩
    case round =>
     obtain ⟨q, T, hq, rfl, rfl, hT, HTT, rfl⟩ := hrel
     by_cases hlt2 : q < n1
     ·obtain ⟨t, ht⟩ : ∃ t, f.pho[q]? = some t := ⟨_, List.getElem?_eq_getElem (by rw [E1.out]; exact hlt2)⟩
      obtain ⟨bA, off, rfl, hc⟩ := (HRP.out.below (below_then HW0.out HO.out.bel)).scell ht
      have HC3 := Lib.hid (cat_bytesL [32] t)
      have HC4 := Lib.hid (cat_bytesL (phonyW ++ [32, 58] ++ T) (32 :: t))
      have HSN := Lib.hid (flat_snoc ht (fun n => 32 :: n))
      have hk1 : (q : Int) < (n1 : Int) := by omega
      have HLN : Hid ((T ++ (32 :: t)).length ≤ 4194304) := Lib.hid (by
       have h := HPL.out (q + 1)
       rw [HSN.out, ← HTT.out] at h
       exact h)
      have HLT : Hid (t.length ≤ 4194304) := Lib.hid (by
       have h := HLN.out
       simp only [List.length_append, List.length_cons] at h
       omega)
      have HLU : Hid ((phonyW ++ [32, 58] ++ T).length ≤ 4194400) := Lib.hid (by
       have : phonyW.length = 6 := rfl
       simp only [List.length_append, List.length_cons, List.length_nil]
       omega)
      generalize hU : phonyW ++ [32, 58] ++ T = U at *
      have HU := Lib.hid hU
      have hs0 := HLT.out
      have hs9 := HLU.out
      have hs1 : ¬ 9223372036854775807 < 1 + t.length := by omega
      have hs3 : ¬ 9223372036854775807 < U.length + (1 + t.length) := by omega
      clear ht hs0 hs9 hU hT
      go_wp2_with fail
      go_roundw
      case rel => exact ⟨q + 1, T ++ (32 :: t), by omega, by go_num, congrArg Value.string (((congrArg (⟨U.toArray⟩ ++ ·) HC3.out).trans HC4.out).trans (by rw [← HU.out]; simp)), HLN.out, Lib.hid (by rw [HSN.out, ← HTT.out]), trivial⟩
      case measure => simp [intOf]; omega
     ·obtain rfl : q = n1 := by omega
      have HPX : Hid (phonyW ++ [32, 58] ++ T = phonyW ++ [32, 58] ++ f.pho.flatMap fun s => 32 :: s) := Lib.hid (by rw [HTT.out, List.take_of_length_le (by rw [E1.out]; exact Nat.le_refl _)])
      rw [HPX.out]
      have HLN := Lib.hid (show sv (phonyW ++ [32, 58] ++ f.pho.flatMap fun s => 32 :: s) = .string ⟨(phonyW ++ [32, 58] ++ f.pho.flatMap fun s => 32 :: s).toArray⟩ from rfl)
      generalize (⟨(phonyW ++ [32, 58] ++ f.pho.flatMap fun s => 32 :: s).toArray⟩ : ByteArray) = bl at *
      clear hT
      go_upto_region 15 with (at_builtin; refine wpList_push elStr wr _ _ w0.heap.size A k c ((f.mac.map macLine).map sv) (.string bl) HO.out.own rfl HO.out.bel.size (by omega) (by omega) rfl rfl rfl rfl ?_; intro A' c' w4 hown4 hb4; have HOq : Hid (OutS w0 (f.mac.map macLine ++ phoLines f.pho) A' (k + 1) c' w4) := Lib.hid (by rw [HPS1.out]; exact HO.out.push HLN.out hown4 hb4))
      clear hown4 hb4 q1 q2 d1 HO HK1 HWR HLN
      have hkq : k + 1 ≤ 1048641 := by omega
      obtain ⟨kq, hkk⟩ : ∃ kq, k + 1 = kq := ⟨_, rfl⟩
      rw [hkk] at HOq hkq ⊢
      have HKK := Lib.hid hkk
      clear hkk
      have HK1 := Lib.hid (HK0.out.below HOq.out.bel HK0.out.lt)
      have d2 := HK1.out.cell (j := 2) rfl
      go_wp2_with fail
      generalize hX1 : f.mac.map macLine ++ phoLines f.pho = X1 at *
      have HX1 := Lib.hid hX1
      clear hX1
      go_loopw [3, 53] (fun v i wr => ∃ (q : Nat) (A : Option Addr) (c : Nat), q ≤ n2 ∧ i = .int .i64 (q : Int) ∧ v = .slice A (kq + q) c ∧ Hid (OutS w0 (X1 ++ (f.inf.take q).map infLine) A (kq + q) c wr)) (fun _ i _ => n2 - (intOf i).toNat)
      case atStart => exact ⟨0, A', c', by omega, rfl, rfl, Lib.hid (by rw [List.take_zero, List.map_nil, List.append_nil]; exact HOq.out)⟩
      case round =>
       obtain ⟨q, A, c, hq, rfl, rfl, HO⟩ := hrel
       by_cases hlt : q < n2
       ·obtain ⟨m, hx⟩ : ∃ m, f.inf[q]? = some m := ⟨_, List.getElem?_eq_getElem (by rw [E2.out]; exact hlt)⟩
        obtain ⟨bA, off, rfl, m0, m1⟩ := (HF.out.inf.below (below_then HW0.out HO.out.bel)).macs hx
        have HSN := Lib.hid (lines_snoc (f := infLine) (X := X1) hx)
        have hms := HZ.out.infs m (List.mem_of_getElem? hx)
        have HLN := Lib.hid (inf_sv m)
        have hl1 : (⟨m.1.toArray⟩ : ByteArray).size = m.1.length := rfl
        have hl2 : (⟨m.2.toArray⟩ : ByteArray).size = m.2.length := rfl
        unfold sv at m0 m1
        generalize (⟨m.1.toArray⟩ : ByteArray) = bn at *
        generalize (⟨m.2.toArray⟩ : ByteArray) = bv at *
        obtain ⟨bl, hbl⟩ : ∃ bl, bn ++ bv ++ ⟨#[32, 58]⟩ = bl := ⟨_, rfl⟩
        rw [hbl] at HLN
        have hs1 : ¬ 9223372036854775807 < bn.size + bv.size := by omega
        have hs2 : ¬ 9223372036854775807 < bn.size + bv.size + 2 := by omega
        have hk1 : (q : Int) < (n2 : Int) := by omega
        have hb3 := below_new (Below.refl wr.heap.size wr) (.cells #[.string bn, .string bv] 85)
        have HO3 := Lib.hid (HO.out.below hb3)
        have HK8 := Lib.hid (Blk.new wr #[.string bn, .string bv] 85)
        clear hx hms hl1 hl2 hb3
        go_upto_region 18 with fail
        generalize wr.alloc (.cells #[.string bn, .string bv] 85) = w3 at *
        generalize wr.heap.size = k8 at *
        have y0 := HK8.out.cell (j := 0) rfl
        have y1 := HK8.out.cell (j := 1) rfl
        go_wp2_with (at_builtin; refine wpList_push elStr w3 _ _ w0.heap.size A (kq + q) c ((X1 ++ (f.inf.take q).map infLine).map sv) (.string bl) HO3.out.own rfl HO3.out.bel.size (by omega) (by omega) rfl rfl rfl rfl ?_; intro A' c' w5 hown4 hb4)
        have HO4 := Lib.hid (HO3.out.push HLN.out hown4 hb4)
        clear hown4 hb4
        go_roundw
        case rel => exact ⟨q + 1, A', c', by omega, by go_num, rfl, by rw [HSN.out]; exact HO4⟩
        case measure => simp [intOf]; omega
       ·obtain rfl : q = n2 := by omega
        have HT0 : Hid (X1 ++ (f.inf.take q).map infLine = X1 ++ f.inf.map infLine) := Lib.hid (by rw [List.take_of_length_le (by rw [E2.out]; exact Nat.le_refl _)])
        rw [HT0.out] at HO
        clear d2 HK1
        have HK1 := Lib.hid (HK0.out.below HO.out.bel HK0.out.lt)
        have d3 := HK1.out.cell (j := 3) rfl
        obtain ⟨m2, hm2⟩ : ∃ m2, kq + q = m2 := ⟨_, rfl⟩
        have hmq : m2 ≤ 2097409 := by omega
        rw [hm2] at HO ⊢
        clear hm2 HOq hlt
        go_wp2_with fail
        generalize hX2 : X1 ++ f.inf.map infLine = X2 at *
        have HX2 := Lib.hid hX2
        clear hX2
        go_loopw [3, 70] (fun v i wr => ∃ (p : Nat) (A : Option Addr) (c : Nat), p ≤ n3 ∧ i = .int .i64 (p : Int) ∧ v = .slice A (m2 + p) c ∧ Hid (OutS w0 (X2 ++ (rulesOf (L.take p)).map rlText) A (m2 + p) c wr)) (fun _ i _ => n3 - (intOf i).toNat)
        case atStart => exact ⟨0, A, c, by omega, rfl, rfl, Lib.hid (by rw [List.take_zero]; unfold rulesOf; rw [List.map_nil, List.map_nil, List.append_nil]; exact HO.out)⟩
        case round =>
         obtain ⟨p, A, c, hpn, rfl, rfl, HOp⟩ := hrel
         by_cases hlt : p < n3
         ·obtain ⟨x, hx⟩ : ∃ x, L[p]? = some x := ⟨_, List.getElem?_eq_getElem (by rw [E3.out]; exact hlt)⟩
          have HSN := Lib.hid (rlines_snoc (X := X2) hx)
          have hln := HZ.out.lin (rlText x.2.2) (by unfold linesP; simp only [List.mem_append, List.mem_map]; exact .inr ⟨x.2.2, by rw [← HF.out.eq]; exact List.mem_of_getElem? (rulesOf_atL hx), rfl⟩)
          have HXR := Lib.hid ((HF.out.rul.each x (List.mem_of_getElem? hx)).below (below_then HW0.out HOp.out.bel))
          obtain ⟨bA, off, rfl, a0, a1⟩ := (HF.out.rul.rd.below (below_then HW0.out HOp.out.bel)).two hx
          have hcap : 2 * p = p * 2 := by omega
          rw [hcap] at a0 a1
          obtain ⟨⟨X, xc⟩, ⟨Y, yc⟩, r⟩ := x
          simp only [rsT, rsN] at a0 a1 HXR HSN hln
          have HR1 := Lib.hid HXR.out.t
          have HR2 := Lib.hid HXR.out.n
          have HRB1 := Lib.hid HXR.out.tb
          have HRB2 := Lib.hid HXR.out.nb
          simp only [] at HR1 HR2 HRB1 HRB2
          have HLNN := Lib.hid hln
          generalize hr1 : r.1.length = u1 at *
          generalize hr2 : r.2.length = u2 at *
          have HU1 := Lib.hid hr1
          have HU2 := Lib.hid hr2
          have hk1 : (p : Int) < (n3 : Int) := by omega
          have hb3 := below_new (Below.refl wr.heap.size wr) (.cells #[.slice X u1 xc, .slice Y u2 yc] 78)
          have HO3 := Lib.hid (HOp.out.below hb3)
          have HR3 := Lib.hid (HR1.out.below hb3)
          have HR4 := Lib.hid (HR2.out.below hb3)
          have HK8 := Lib.hid (Blk.new wr #[.slice X u1 xc, .slice Y u2 yc] 78)
          clear hx hcap hb3 hr1 hr2 HXR HR1 HR2 hln
          go_upto_region 23 with fail
          generalize wr.alloc (.cells #[.slice X u1 xc, .slice Y u2 yc] 78) = w3 at *
          generalize wr.heap.size = k8 at *
          have HJ5 := Lib.hid (rTextG_any (c1 := xc) (c2 := yc) r w3 HR3.out HR4.out HU1.out HU2.out HRB1.out HRB2.out (by have := HLNN.out; omega))
          have y0 := HK8.out.cell (j := 0) rfl
          have y1 := HK8.out.cell (j := 1) rfl
          obtain ⟨bt, hbt⟩ : ∃ bt, (⟨(rlText r).toArray⟩ : ByteArray) = bt := ⟨_, rfl⟩
          have HLN : Hid (sv (rlText r) = .string bt) := Lib.hid (by rw [← hbt]; rfl)
          rw [hbt] at HJ5
          clear hbt
          go_wp2_with fail
          refine HJ5.out.mono ?_
          rintro e w6 ⟨rfl, hb6⟩
          have HO6 := Lib.hid (HO3.out.below hb6)
          clear hb6
          go_wp2_with (at_builtin; refine wpList_push elStr w6 _ _ w0.heap.size A (m2 + p) c ((X2 ++ (rulesOf (L.take p)).map rlText).map sv) (.string bt) HO6.out.own rfl HO6.out.bel.size (by omega) (by omega) rfl rfl rfl rfl ?_; intro A' c' w7 hown4 hb4)
          have HO7 := Lib.hid (HO6.out.push HLN.out hown4 hb4)
          clear hown4 hb4
          go_roundw
          case rel => exact ⟨p + 1, A', c', by omega, by go_num, rfl, by rw [HSN.out]; exact HO7⟩
          case measure => simp [intOf]; omega
         ·obtain rfl : p = n3 := by omega
          have HT3 : Hid (X2 ++ (rulesOf (L.take p)).map rlText = linesP f) := Lib.hid (by
           rw [List.take_of_length_le (by rw [E3.out]; exact Nat.le_refl _), HF.out.eq, ← HX2.out, ← HX1.out]
           rfl)
          rw [HT3.out] at HOp
          go_wp2_with fail
          go_ret
          exact ⟨A, _, c, rfl, HOp.out.base HW0.out⟩
end Go.Proofs.YtoandhhkmkgmaaaGreatDoor
