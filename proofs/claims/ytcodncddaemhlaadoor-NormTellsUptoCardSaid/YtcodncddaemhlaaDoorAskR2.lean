/- Contract: the reference's askFault. Names of at most 2^20 bytes. -/
import Derived.Test.YtcodncddaemhlaaDoorAsk2
import Derived.Test.YtcodncddaemhlaaDoorAskR1
import Derived.Deep.DeepCutAuto
namespace Go.Proofs.YtcodncddaemhlaaDoor
open Go.RowKit

def badF (k : Int) (s : List UInt8) (n : Int) (m : Nat) : Bool := decide (m ≠ manyK k ∨ (namedK k = false ∧ s ≠ []) ∨ (numK k = false ∧ n ≠ 0))
def badN (k : Int) (s : List UInt8) : Bool := decide ((k = 14 ∧ patB s = false) ∨ (namedK k = true ∧ k ≠ 14 ∧ goodName s = false) ∨ (k = 1 ∧ s = letS))
def badR (k : Int) (n : Int) : Bool := decide ((k = 15 ∧ (n < 1 ∨ 3 < n)) ∨ (numK k = true ∧ (n < 0 ∨ 100 < n)))
theorem node_three {k : Int} {s : List UInt8} {n : Int} {m : Nat} (h : ¬ (k < 1 ∨ 15 < k)) : nodeE k s n m = if badF k s n m = true then 1 else if badN k s = true then 3 else if badR k n = true then 4 else 0 := by
  by_cases hf : m ≠ manyK k ∨ (namedK k = false ∧ s ≠ []) ∨ (numK k = false ∧ n ≠ 0)
  · rw [node_form h hf, if_pos (by unfold badF; exact decide_eq_true hf)]
  · have hb : badF k s n m = false := by unfold badF; exact decide_eq_false hf
    rw [node_in h hf, hb]
    simp only [Bool.false_eq_true, if_false]
    clear hb
    have hn : numK k = false → n = 0 := fun h1 => Decidable.byContradiction fun h2 => hf (.inr (.inr ⟨h1, h2⟩))
    clear hf
    rcases (by omega : k = 1 ∨ k = 2 ∨ k = 3 ∨ k = 4 ∨ k = 5 ∨ k = 6 ∨ k = 7 ∨ k = 8 ∨ k = 9 ∨ k = 10 ∨ k = 11 ∨ k = 12 ∨ k = 13 ∨ k = 14 ∨ k = 15) with rfl | rfl | rfl | rfl | rfl | rfl | rfl | rfl | rfl | rfl | rfl | rfl | rfl | rfl | rfl
    all_goals (simp [numK] at hn)
    all_goals (simp [badN, badR, namedK, numK])
    all_goals (first | done | (subst hn; simp) | (split <;> first | rfl | omega | (split <;> first | rfl | omega)))
def manyL : List Value := [0, 0, 0, 0, 2, 2, 2, 2, 1, 1, 1, 1, 2, 2, 1, 1].map fun z : Int => Value.int .i64 z
theorem many_at (q : Nat) (h : q ≤ 15) : manyL[q]? = some (.int .i64 (manyK (q : Int) : Nat)) := by
  rcases (by omega : q = 0 ∨ q = 1 ∨ q = 2 ∨ q = 3 ∨ q = 4 ∨ q = 5 ∨ q = 6 ∨ q = 7 ∨ q = 8 ∨ q = 9 ∨ q = 10 ∨ q = 11 ∨ q = 12 ∨ q = 13 ∨ q = 14 ∨ q = 15) with rfl | rfl | rfl | rfl | rfl | rfl | rfl | rfl | rfl | rfl | rfl | rfl | rfl | rfl | rfl | rfl <;> rfl
theorem many_cell (w : World) (t : TypeId) (q : Nat) (h : q ≤ 15) : (w.alloc (.cells manyL.toArray t)).cell? ⟨w.heap.size, q, none⟩ = some (.int .i64 (manyK (q : Int) : Nat)) := by
  rw [World.cell?_alloc_at _ _ _ _ rfl]
  simpa using many_at q h
theorem named_kinds {k : Int} (h : namedK k = true) : k = 1 ∨ k = 3 ∨ k = 4 ∨ k = 14 := of_decide_eq_true h
theorem named_num {k : Int} (h : namedK k = true) : numK k = false := by
  rcases named_kinds h with rfl | rfl | rfl | rfl <;> rfl
def SmB (w0 : World) (b : Bool) (v : Value) (wx : World) : Prop := v = .bool b ∧ Below w0.heap.size w0 wx
def FaultHyp (X : List AskT) : Prop := ∀ y ∈ X, ∀ (A : Option Addr) (c : Nat) (w : World), AskAt w y A c → AskOk y → sizeA y ≤ 1152921504606846976 → Calls Tryd.prog 17 #[askV y A c] w (CntPost (faultA y) w)
set_option maxRecDepth 100000 in
set_option maxHeartbeats 4000000 in
theorem rFault_form (k : Int) (s : List UInt8) (n : Int) (X : List AskT) (ih : FaultHyp X) (A : Option Addr) (c : Nat) (w : World) (hA : AskAt w (.mk k s n X) A c) (hok : AskOk (.mk k s n X)) (hs : sizeA (.mk k s n X) ≤ 1152921504606846976) (hin : ¬ (k < 1 ∨ 15 < k)) (hbad : badF k s n X.length = true) : Calls Tryd.prog 17 #[askV (.mk k s n X) A c] w (CntPost (faultA (.mk k s n X)) w) := by
  have HIH := Lib.hid ih
  have HA := Lib.hid hA
  have HOK := Lib.hid hok
  have HSZ := Lib.hid (sizeA_mk k s n X)
  have HS : Hid ((X.map sizeA).sum ≤ 1152921504606846976) := Lib.hid (by rw [HSZ.out] at hs; omega)
  have hm' : X.length ≤ 9223372036854775807 := by have := kids_le X; have := HS.out; omega
  have HFA := Lib.hid (faultA_mk k s n X)
  have CNM := Lib.hid (fun W => goodName_any s W (by have := hok.name; show s.length ≤ _; have h : s.length ≤ 1048576 := this; omega))
  have CPA := Lib.hid (fun W => rGood_any s hok.name W)
  unfold sv at CNM
  have HEMP := Lib.hid (emp_sv s)
  have HLET := Lib.hid (eq_sv s letS)
  obtain ⟨y, hy⟩ := boxA_new w (.int .i64 k) (.string ⟨s.toArray⟩) (.int .i64 n) (.slice A X.length c) 24
  have Y := Lib.hid y
  have HY := Lib.hid hy
  clear ih hA hs y hy hok
  unfold askV
  simp only [AskT.kind, AskT.name, AskT.n, AskT.X]
  rw [HFA.out]
  generalize hE : nodeE k s n X.length = E at *
  have HNE := Lib.hid (hE.symm.trans (node_three (k := k) (s := s) (n := n) (m := X.length) hin))
  clear hE
  generalize hR : (if E ≠ 0 then E else firstNZ (X.map faultA)) = R at *
  have HR1 : Hid (E ≠ 0 → R = E) := Lib.hid (fun h => by rw [← hR, if_pos h])
  have HR0 : Hid (E = 0 → R = firstNZ (X.map faultA)) := Lib.hid (fun h => by rw [← hR, if_neg (fun e => e h)])
  clear hR
  generalize hbs : (⟨s.toArray⟩ : ByteArray) = bs at *
  clear hbs
  have hk1 : ¬ k < 1 := fun h => hin (.inl h)
  have hk2 : ¬ 15 < k := fun h => hin (.inr h)
  clear hin
  go_enter Tryd.func17, Tryd.ntmps17
  go_upto_region 1 with fail
  generalize w.alloc (.cells #[.int .i64 k, .string bs, .int .i64 n, .slice A X.length c] 24) = w0 at *
  obtain ⟨y1, y2, y3, y4⟩ := Y.out
  obtain ⟨q, hq⟩ : ∃ q : Nat, k = (q : Int) := ⟨k.toNat, by omega⟩
  have HKQ := Lib.hid hq
  have hq4 : (0 : Int) ≤ k := by omega
  have hq3 : k < 16 := by omega
  clear hq
  generalize hnb : namedK k = nb at *
  generalize hub : numK k = ub at *
  have HNB := Lib.hid hnb
  have HUB := Lib.hid hub
  clear hnb hub
  have HBF : Hid (X.length ≠ manyK k ∨ (nb = false ∧ s ≠ []) ∨ (ub = false ∧ n ≠ 0)) := Lib.hid (by have h := of_decide_eq_true hbad; rw [HNB.out, HUB.out] at h; exact h)
  clear hbad
  go_upto_region 3 with fail
  go_cut [3] (fun s3 wx => s3 = .bool nb ∧ wx = w0)
  case first =>
    by_cases h1 : k = 1
    · have e1 : (k == 1) = true := by simp [h1]
      have HV : Hid (true = nb) := Lib.hid (by rw [← HNB.out, h1]; decide)
      clear h1 
      go_wp2_with fail
      go_meet
      exact ⟨congrArg Value.bool HV.out, rfl⟩
    have e1 : (k == 1) = false := by simp [h1]
    by_cases h3 : k = 3
    · have e3 : (k == 3) = true := by simp [h3]
      have HV : Hid (true = nb) := Lib.hid (by rw [← HNB.out, h3]; decide)
      clear h3 h1
      go_wp2_with fail
      go_meet
      exact ⟨congrArg Value.bool HV.out, rfl⟩
    have e3 : (k == 3) = false := by simp [h3]
    by_cases h4 : k = 4
    · have e4 : (k == 4) = true := by simp [h4]
      have HV : Hid (true = nb) := Lib.hid (by rw [← HNB.out, h4]; decide)
      clear h4 h1 h3
      go_wp2_with fail
      go_meet
      exact ⟨congrArg Value.bool HV.out, rfl⟩
    have e4 : (k == 4) = false := by simp [h4]
    by_cases h14 : k = 14
    · have e14 : (k == 14) = true := by simp [h14]
      have HV : Hid (true = nb) := Lib.hid (by rw [← HNB.out, h14]; decide)
      clear h14 h1 h3 h4
      go_wp2_with fail
      go_meet
      exact ⟨congrArg Value.bool HV.out, rfl⟩
    have e14 : (k == 14) = false := by simp [h14]
    have HV : Hid (false = nb) := Lib.hid (by rw [← HNB.out]; unfold namedK; simp [h1, h3, h4, h14])
    clear h1 h3 h4 h14
    go_wp2_with fail
    go_meet
    exact ⟨congrArg Value.bool HV.out, rfl⟩
  case rest =>
  obtain ⟨rfl, hwc⟩ := hcut
  replace hwc := hwc.symm
  subst hwc
  go_upto_region 4 with fail
  go_cut [4] (fun s4 wx => s4 = .bool ub ∧ wx = w0)
  case first =>
    by_cases h10 : k = 10
    · have e10 : (k == 10) = true := by simp [h10]
      have HV : Hid (true = ub) := Lib.hid (by rw [← HUB.out, h10]; decide)
      clear h10 
      go_wp2_with fail
      go_meet
      exact ⟨congrArg Value.bool HV.out, rfl⟩
    have e10 : (k == 10) = false := by simp [h10]
    by_cases h11 : k = 11
    · have e11 : (k == 11) = true := by simp [h11]
      have HV : Hid (true = ub) := Lib.hid (by rw [← HUB.out, h11]; decide)
      clear h11 h10
      go_wp2_with fail
      go_meet
      exact ⟨congrArg Value.bool HV.out, rfl⟩
    have e11 : (k == 11) = false := by simp [h11]
    by_cases h15 : k = 15
    · have e15 : (k == 15) = true := by simp [h15]
      have HV : Hid (true = ub) := Lib.hid (by rw [← HUB.out, h15]; decide)
      clear h15 h10 h11
      go_wp2_with fail
      go_meet
      exact ⟨congrArg Value.bool HV.out, rfl⟩
    have e15 : (k == 15) = false := by simp [h15]
    have HV : Hid (false = ub) := Lib.hid (by rw [← HUB.out]; unfold numK; simp [h10, h11, h15])
    clear h10 h11 h15
    go_wp2_with fail
    go_meet
    exact ⟨congrArg Value.bool HV.out, rfl⟩
  case rest =>
  obtain ⟨rfl, hwc⟩ := hcut
  replace hwc := hwc.symm
  subst hwc
  go_upto_region 5 with fail
  generalize hmk : manyK k = mk at *
  have HMK := Lib.hid hmk
  clear hmk
  go_cut [5] (fun s5 wx => s5 = .int .i64 (mk : Int) ∧ Below w0.heap.size w0 wx)
  case first =>
    have hc : (w0.alloc (.cells #[.int .i64 0, .int .i64 0, .int .i64 0, .int .i64 0, .int .i64 2, .int .i64 2, .int .i64 2, .int .i64 2, .int .i64 1, .int .i64 1, .int .i64 1, .int .i64 1, .int .i64 2, .int .i64 2, .int .i64 1, .int .i64 1] 3)).cell? ⟨w0.heap.size, q, none⟩ = some (.int .i64 (mk : Int)) := by
      have h := many_cell w0 3 q (by have := HKQ.out; omega)
      rw [← HKQ.out, HMK.out] at h
      exact h
    have hb := below_new (Below.refl w0.heap.size w0) (.cells #[.int .i64 0, .int .i64 0, .int .i64 0, .int .i64 0, .int .i64 2, .int .i64 2, .int .i64 2, .int .i64 2, .int .i64 1, .int .i64 1, .int .i64 1, .int .i64 1, .int .i64 2, .int .i64 2, .int .i64 1, .int .i64 1] 3)
    have ya := (Y.out.below hb).c1
    obtain rfl := HKQ.out
    have HB := Lib.hid hb
    have q15 : q < 16 := by omega
    clear hb
    go_wp2_with fail
    go_meet
    exact ⟨rfl, HB.out⟩
  case rest =>
  obtain ⟨rfl, hb1⟩ := hcut
  have HB1 := Lib.hid hb1
  have Y1 := Lib.hid (Y.out.below hb1)
  have HZ := Lib.hid (below_newA HY.out hb1)
  clear hb1 y1 y2 y3 y4
  generalize hw1 : wc = w1 at *
  clear hw1
  generalize w0.heap.size = BF at *
  obtain ⟨y1, y2, y3, y4⟩ := Y1.out
  go_upto_region 6 with fail
  have m2 := HEMP.out
  have HVV : Hid (E ≠ 0 ∧ E = 1) := Lib.hid (by
    have h := HNE.out
    rw [if_pos (by unfold badF; rw [HNB.out, HUB.out, HMK.out]; exact decide_eq_true HBF.out)] at h
    rw [h]
    exact ⟨by decide, rfl⟩)
  have HV : Hid ((1 : Int) = (R : Int)) := Lib.hid (by rw [HR1.out HVV.out.1, HVV.out.2]; rfl)
  have HBG : Hid (X.length ≠ mk ∨ (nb = false ∧ s ≠ []) ∨ (ub = false ∧ n ≠ 0)) := HBF
  by_cases h1 : X.length = mk
  · have m1 : ((X.length : Int) != (mk : Int)) = false := by simp [h1]
    have HL := Lib.hid h1
    clear h1
    by_cases h2 : nb = false ∧ s ≠ []
    · have m2' : bs.toList.isEmpty = false := by rw [m2]; simp [h2.2]
      obtain ⟨rfl, h2⟩ := h2
      clear h2 m2
      go_wp2_with fail
      go_ret
      exact ⟨ret_int HV.out, HZ.out⟩
    · have h3 : ub = false ∧ n ≠ 0 := by
        rcases HBG.out with h | h | h
        · exact absurd HL.out h
        · exact absurd h h2
        · exact h
      have m3 : (n == 0) = false := by simp [h3.2]
      have m3' : (n != 0) = true := by simp [h3.2]
      obtain ⟨rfl, h3⟩ := h3
      clear h3
      have hor : nb = true ∨ (nb = false ∧ bs.toList.isEmpty = true) := by
        rw [m2]
        cases nb <;> simp at h2 ⊢
        exact h2
      clear h2 m2
      rcases hor with rfl | ⟨rfl, m2'⟩
      all_goals
        go_wp2_with fail
        go_ret
        exact ⟨ret_int HV.out, HZ.out⟩
  · have m1 : ((X.length : Int) != (mk : Int)) = true := by simp; omega
    clear h1 m2
    go_wp2_with fail
    go_ret
    exact ⟨ret_int HV.out, HZ.out⟩
set_option maxRecDepth 100000 in
set_option maxHeartbeats 4000000 in
theorem rFault_named (k : Int) (s : List UInt8) (n : Int) (X : List AskT) (ih : FaultHyp X) (A : Option Addr) (c : Nat) (w : World) (hA : AskAt w (.mk k s n X) A c) (hok : AskOk (.mk k s n X)) (hs : sizeA (.mk k s n X) ≤ 1152921504606846976) (hin : ¬ (k < 1 ∨ 15 < k)) (hgood : badF k s n X.length = false) (hnamed : namedK k = true) : Calls Tryd.prog 17 #[askV (.mk k s n X) A c] w (CntPost (faultA (.mk k s n X)) w) := by
  have HIH := Lib.hid ih
  have HA := Lib.hid hA
  have HOK := Lib.hid hok
  have HSZ := Lib.hid (sizeA_mk k s n X)
  have HS : Hid ((X.map sizeA).sum ≤ 1152921504606846976) := Lib.hid (by rw [HSZ.out] at hs; omega)
  have hm' : X.length ≤ 9223372036854775807 := by have := kids_le X; have := HS.out; omega
  have HFA := Lib.hid (faultA_mk k s n X)
  have CNM := Lib.hid (fun W => goodName_any s W (by have := hok.name; show s.length ≤ _; have h : s.length ≤ 1048576 := this; omega))
  have CPA := Lib.hid (fun W => rGood_any s hok.name W)
  unfold sv at CNM
  have HEMP := Lib.hid (emp_sv s)
  have HLET := Lib.hid (eq_sv s letS)
  obtain ⟨y, hy⟩ := boxA_new w (.int .i64 k) (.string ⟨s.toArray⟩) (.int .i64 n) (.slice A X.length c) 24
  have Y := Lib.hid y
  have HY := Lib.hid hy
  clear ih hA hs y hy hok
  unfold askV
  simp only [AskT.kind, AskT.name, AskT.n, AskT.X]
  rw [HFA.out]
  generalize hE : nodeE k s n X.length = E at *
  have HNE := Lib.hid (hE.symm.trans (node_three (k := k) (s := s) (n := n) (m := X.length) hin))
  clear hE
  generalize hR : (if E ≠ 0 then E else firstNZ (X.map faultA)) = R at *
  have HR1 : Hid (E ≠ 0 → R = E) := Lib.hid (fun h => by rw [← hR, if_pos h])
  have HR0 : Hid (E = 0 → R = firstNZ (X.map faultA)) := Lib.hid (fun h => by rw [← hR, if_neg (fun e => e h)])
  clear hR
  generalize hbs : (⟨s.toArray⟩ : ByteArray) = bs at *
  clear hbs
  have hk1 : ¬ k < 1 := fun h => hin (.inl h)
  have hk2 : ¬ 15 < k := fun h => hin (.inr h)
  clear hin
  go_enter Tryd.func17, Tryd.ntmps17
  go_upto_region 1 with fail
  generalize w.alloc (.cells #[.int .i64 k, .string bs, .int .i64 n, .slice A X.length c] 24) = w0 at *
  obtain ⟨y1, y2, y3, y4⟩ := Y.out
  obtain ⟨q, hq⟩ : ∃ q : Nat, k = (q : Int) := ⟨k.toNat, by omega⟩
  have HKQ := Lib.hid hq
  have hq4 : (0 : Int) ≤ k := by omega
  have hq3 : k < 16 := by omega
  clear hq
  have HGD := Lib.hid hgood
  have HNM := Lib.hid hnamed
  have HNU := Lib.hid (named_num hnamed)
  clear hgood hnamed
  go_upto_region 3 with fail
  go_cut [3] (fun s3 wx => s3 = .bool true ∧ wx = w0)
  case first =>
    by_cases h1 : k = 1
    · have e1 : (k == 1) = true := by simp [h1]
      skip
      clear h1 
      go_wp2_with fail
      go_meet
      exact ⟨rfl, rfl⟩
    have e1 : (k == 1) = false := by simp [h1]
    by_cases h3 : k = 3
    · have e3 : (k == 3) = true := by simp [h3]
      skip
      clear h3 h1
      go_wp2_with fail
      go_meet
      exact ⟨rfl, rfl⟩
    have e3 : (k == 3) = false := by simp [h3]
    by_cases h4 : k = 4
    · have e4 : (k == 4) = true := by simp [h4]
      skip
      clear h4 h1 h3
      go_wp2_with fail
      go_meet
      exact ⟨rfl, rfl⟩
    have e4 : (k == 4) = false := by simp [h4]
    by_cases h14 : k = 14
    · have e14 : (k == 14) = true := by simp [h14]
      skip
      clear h14 h1 h3 h4
      go_wp2_with fail
      go_meet
      exact ⟨rfl, rfl⟩
    have e14 : (k == 14) = false := by simp [h14]
    exact absurd (named_kinds HNM.out) (by simp [h1, h3, h4, h14])
  case rest =>
  obtain ⟨rfl, hwc⟩ := hcut
  replace hwc := hwc.symm
  subst hwc
  go_upto_region 4 with fail
  go_cut [4] (fun s4 wx => s4 = .bool false ∧ wx = w0)
  case first =>
    have hk := HNU.out
    have e10 : (k == 10) = false := by rw [beq_eq_false_iff_ne]; intro h; rw [h] at hk; revert hk; decide
    have e11 : (k == 11) = false := by rw [beq_eq_false_iff_ne]; intro h; rw [h] at hk; revert hk; decide
    have e15 : (k == 15) = false := by rw [beq_eq_false_iff_ne]; intro h; rw [h] at hk; revert hk; decide
    clear hk
    go_wp2_with fail
    go_meet
    exact ⟨rfl, rfl⟩
  case rest =>
  obtain ⟨rfl, hwc⟩ := hcut
  replace hwc := hwc.symm
  subst hwc
  go_upto_region 5 with fail
  generalize hmk : manyK k = mk at *
  have HMK := Lib.hid hmk
  clear hmk
  go_cut [5] (fun s5 wx => s5 = .int .i64 (mk : Int) ∧ Below w0.heap.size w0 wx)
  case first =>
    have hc : (w0.alloc (.cells #[.int .i64 0, .int .i64 0, .int .i64 0, .int .i64 0, .int .i64 2, .int .i64 2, .int .i64 2, .int .i64 2, .int .i64 1, .int .i64 1, .int .i64 1, .int .i64 1, .int .i64 2, .int .i64 2, .int .i64 1, .int .i64 1] 3)).cell? ⟨w0.heap.size, q, none⟩ = some (.int .i64 (mk : Int)) := by
      have h := many_cell w0 3 q (by have := HKQ.out; omega)
      rw [← HKQ.out, HMK.out] at h
      exact h
    have hb := below_new (Below.refl w0.heap.size w0) (.cells #[.int .i64 0, .int .i64 0, .int .i64 0, .int .i64 0, .int .i64 2, .int .i64 2, .int .i64 2, .int .i64 2, .int .i64 1, .int .i64 1, .int .i64 1, .int .i64 1, .int .i64 2, .int .i64 2, .int .i64 1, .int .i64 1] 3)
    have ya := (Y.out.below hb).c1
    obtain rfl := HKQ.out
    have HB := Lib.hid hb
    have q15 : q < 16 := by omega
    clear hb
    go_wp2_with fail
    go_meet
    exact ⟨rfl, HB.out⟩
  case rest =>
  obtain ⟨rfl, hb1⟩ := hcut
  have HB1 := Lib.hid hb1
  have Y1 := Lib.hid (Y.out.below hb1)
  have HZ := Lib.hid (below_newA HY.out hb1)
  clear hb1 y1 y2 y3 y4
  generalize hw1 : wc = w1 at *
  clear hw1
  generalize w0.heap.size = BF at *
  obtain ⟨y1, y2, y3, y4⟩ := Y1.out
  go_upto_region 6 with fail
  have HNI : Hid (X.length = mk ∧ n = 0) := Lib.hid (by
    have h := of_decide_eq_false HGD.out
    rw [HNM.out, HNU.out, HMK.out] at h
    exact ⟨Decidable.byContradiction fun e => h (.inl e), Decidable.byContradiction fun e => h (.inr (.inr ⟨rfl, e⟩))⟩)
  go_cut [75] (fun s75 wx => s75 = .bool false ∧ wx = w1)
  case first =>
    have m1 : ((X.length : Int) != (mk : Int)) = false := by simp [HNI.out.1]
    have m3 : (n == 0) = true := by simp [HNI.out.2]
    have m3' : (n != 0) = false := by simp [HNI.out.2]
    go_wp2_with fail
    go_meet
    exact ⟨rfl, rfl⟩
  case rest =>
  obtain ⟨rfl, hwc⟩ := hcut
  replace hwc := hwc.symm
  subst hwc
  generalize hbn : badN k s = bn at *
  have HBN : Hid (decide ((k = 14 ∧ patB s = false) ∨ (k ≠ 14 ∧ goodName s = false) ∨ (k = 1 ∧ s = letS)) = bn) := Lib.hid (by rw [← hbn]; unfold badN; rw [HNM.out]; simp)
  clear hbn
  have HBR : Hid (badR k n = false) := Lib.hid (by
    unfold badR
    rw [HNU.out]
    have h15 : ¬ k = 15 := by have hk := HNU.out; intro h; rw [h] at hk; revert hk; decide
    simp [h15])
  go_upto_region 8 with fail
  go_cut [108] (fun s108 wx => SmB w1 bn s108 wx)
  case first =>
    have hle0 := HLET.out
    by_cases h14 : k = 14
    · have k14 : (k == 14) = true := by simp [h14]
      have k14' : (k != 14) = false := by simp [h14]
      have k1 : (k == 1) = false := by simp [h14]
      have HV : Hid ((!patB s) = bn) := Lib.hid (by rw [← HBN.out]; cases patB s <;> simp [h14])
      clear h14 hle0
      generalize patB s = pp at *
      cases pp
      all_goals
        go_wp2_with fail
        refine (CPA.out w1).mono ?_
        rintro e w2 ⟨rfl, hb2⟩
        have HB2 := Lib.hid hb2
        clear hb2 y1 y2 y3 y4
        obtain ⟨y1, y2, y3, y4⟩ := (Y1.out.below HB2.out)
        go_wp2_with fail
        go_meet
        exact ⟨congrArg Value.bool HV.out, HB2.out⟩
    · have k14 : (k == 14) = false := by simp [h14]
      have k14' : (k != 14) = true := by simp [h14]
      cases hp : goodName s with
      | false =>
        have HV : Hid (true = bn) := Lib.hid (by rw [← HBN.out]; simp [h14, hp])
        rw [hp] at CNM
        clear h14 hle0 hp
        go_wp2_with fail
        refine (CNM.out w1).mono ?_
        rintro e w2 ⟨rfl, rfl⟩
        go_wp2_with fail
        go_meet
        exact ⟨congrArg Value.bool HV.out, Below.refl _ _⟩
      | true =>
        by_cases h1 : k = 1
        · have k1 : (k == 1) = true := by simp [h1]
          have HV : Hid (decide (s = letS) = bn) := Lib.hid (by rw [← HBN.out]; simp [hp, h1])
          generalize hlb : decide (s = letS) = lb at *
          have hle2 : (bs.toList == [108, 101, 116]) = lb := by rw [← hle0, show (⟨letS.toArray⟩ : ByteArray).toList = [108, 101, 116] from Lib.toList_data _]
          have hle3 : (bs.toList == (⟨#[108, 101, 116]⟩ : ByteArray).toList) = lb := hle0
          rw [hp] at CNM
          clear h14 h1 hle0 hp hlb
          cases lb
          all_goals
            go_wp2_with fail
            refine (CNM.out w1).mono ?_
            rintro e w2 ⟨rfl, rfl⟩
            go_wp2_with fail
            go_meet
            exact ⟨congrArg Value.bool HV.out, Below.refl _ _⟩
        · have k1 : (k == 1) = false := by simp [h1]
          have HV : Hid (false = bn) := Lib.hid (by rw [← HBN.out]; simp [hp, h1, h14])
          rw [hp] at CNM
          clear h14 h1 hle0 hp
          go_wp2_with fail
          refine (CNM.out w1).mono ?_
          rintro e w2 ⟨rfl, rfl⟩
          go_wp2_with fail
          go_meet
          exact ⟨congrArg Value.bool HV.out, Below.refl _ _⟩
  case rest =>
  obtain ⟨rfl, hb2⟩ := hcut
  have HB2 := Lib.hid hb2
  have Y2 := Lib.hid (Y1.out.below hb2)
  have HZ2 := Lib.hid (below_newA HZ.out hb2)
  clear hb2 y1 y2 y3 y4
  generalize hw2 : wc = w2 at *
  clear hw2
  obtain ⟨y1, y2, y3, y4⟩ := Y2.out
  cases bn with
  | true =>
    have HV : Hid ((3 : Int) = (R : Int)) := Lib.hid (by
      have h := HNE.out
      rw [HGD.out, if_neg (by decide), if_pos rfl] at h
      rw [HR1.out (by rw [h]; decide), h]; rfl)
    go_wp2_with fail
    go_ret
    exact ⟨ret_int HV.out, HZ2.out⟩
  | false =>
    have k15 : (k == 15) = false := by
      rw [beq_eq_false_iff_ne]
      have hk := HNU.out
      intro h; rw [h] at hk; revert hk; decide
    have HE0 : Hid (E = 0) := Lib.hid (by
      have h := HNE.out
      rw [HGD.out, HBR.out, if_neg (by decide), if_neg (by decide), if_neg (by decide)] at h
      exact h)
    have HRT := Lib.hid (HR0.out HE0.out)
    go_wp2_with fail
    go_loopw [7, 8, 138] (fun _ _ i wr => ∃ (j : Nat), i = .int .i64 (j : Int) ∧ j ≤ X.length ∧ Hid (∀ v ∈ (X.map faultA).take j, v = 0) ∧ Hid (Below w.heap.size w wr)) (fun _ _ i _ => X.length - (intOf i).toNat)
    case atStart => exact ⟨0, rfl, by omega, Lib.hid (by simp), Lib.hid (HZ2.out)⟩
    case round =>
      obtain ⟨j, rfl, hj, HP, HB⟩ := hrel
      by_cases hlt : j < X.length
      · obtain ⟨x, hx⟩ : ∃ x, X[j]? = some x := ⟨_, List.getElem?_eq_getElem hlt⟩
        obtain ⟨b, off, A', c', rfl, e1, e2, e3, e4, hch⟩ := AskAt.child (AskAt.keep HB.out _ _ _ HA.out) hx
        have hms : (X.map faultA)[j]? = some (faultA x) := by rw [List.getElem?_map, hx]; rfl
        have HMS := Lib.hid hms
        have HXS : Hid (sizeA x ≤ 1152921504606846976) := Lib.hid (by
          have h1 : (X.map sizeA)[j]? = some (sizeA x) := by rw [List.getElem?_map, hx]; rfl
          have h2 := sum_take_succ h1
          have h3 := sum_take_le (X.map sizeA) (j + 1)
          have := HS.out
          omega)
        have HP2 : Hid (faultA x = 0 → ∀ v ∈ (X.map faultA).take (j + 1), v = 0) := Lib.hid (fun h0 v hv => by
          rw [List.take_add_one, HMS.out] at hv
          rcases List.mem_append.1 hv with hv | hv
          · exact HP.out v hv
          · rw [List.mem_singleton.1 hv]; exact h0)
        obtain ⟨u, hu⟩ := boxA_new wr (.int .i64 x.kind) (.string ⟨x.name.toArray⟩) (.int .i64 x.n) (.slice A' x.X.length c') 24
        have U := Lib.hid u
        have HU := Lib.hid (below_newA HB.out hu)
        have HC := Lib.hid (HIH.out x (List.mem_of_getElem? hx) A' c' _ (AskAt.keep hu _ _ _ hch) (HOK.out.kid x (List.mem_of_getElem? hx)) HXS.out)
        unfold askV CntPost at HC
        have hj1 : (j : Int) < (X.length : Int) := by omega
        clear hx hch hms u hu
        generalize hbx : (⟨x.name.toArray⟩ : ByteArray) = bx at *
        clear hbx
        generalize x.kind = xk at *
        generalize x.n = xn at *
        generalize x.X.length = xm at *
        generalize faultA x = xf at *
        go_upto_region 15 with fail
        generalize wr.alloc (.cells #[.int .i64 xk, .string bx, .int .i64 xn, .slice A' xm c'] 24) = w5 at *
        obtain ⟨u1, u2, u3, u4⟩ := U.out
        go_wp2_with fail
        refine HC.out.mono ?_
        rintro e w6 ⟨rfl, hb6⟩
        have HB6 := Lib.hid (below_newA HU.out hb6)
        clear hb6 u1 u2 u3 u4
        by_cases hx0 : xf = 0
        · subst hx0
          have HP3 := Lib.hid (HP2.out rfl)
          go_wp2_with fail
          exact ⟨⟨j + 1, rfl, by omega, HP3, HB6⟩, measA hlt⟩
        · have HV : Hid ((xf : Int) = (R : Int)) := Lib.hid (by rw [HRT.out, firstNZ_at HMS.out HP.out hx0])
          have hn0 : ((xf : Int) != 0) = true := by simp; omega
          clear hx0
          go_wp2_with fail
          go_ret
          exact ⟨ret_int HV.out, HB6.out⟩
      · obtain rfl : j = X.length := by omega
        have HV : Hid ((0 : Int) = (R : Int)) := Lib.hid (by rw [HRT.out, firstNZ_zero (fun v hv => HP.out v (by rw [List.take_of_length_le (by simp)]; exact hv))]; rfl)
        go_wp2_with fail
        go_ret
        exact ⟨ret_int HV.out, HB.out⟩
set_option maxRecDepth 100000 in
set_option maxHeartbeats 4000000 in
theorem rFault_plain (k : Int) (s : List UInt8) (n : Int) (X : List AskT) (ih : FaultHyp X) (A : Option Addr) (c : Nat) (w : World) (hA : AskAt w (.mk k s n X) A c) (hok : AskOk (.mk k s n X)) (hs : sizeA (.mk k s n X) ≤ 1152921504606846976) (hin : ¬ (k < 1 ∨ 15 < k)) (hgood : badF k s n X.length = false) (hnamed : namedK k = false) : Calls Tryd.prog 17 #[askV (.mk k s n X) A c] w (CntPost (faultA (.mk k s n X)) w) := by
  have HIH := Lib.hid ih
  have HA := Lib.hid hA
  have HOK := Lib.hid hok
  have HSZ := Lib.hid (sizeA_mk k s n X)
  have HS : Hid ((X.map sizeA).sum ≤ 1152921504606846976) := Lib.hid (by rw [HSZ.out] at hs; omega)
  have hm' : X.length ≤ 9223372036854775807 := by have := kids_le X; have := HS.out; omega
  have HFA := Lib.hid (faultA_mk k s n X)
  have CNM := Lib.hid (fun W => goodName_any s W (by have := hok.name; show s.length ≤ _; have h : s.length ≤ 1048576 := this; omega))
  have CPA := Lib.hid (fun W => rGood_any s hok.name W)
  unfold sv at CNM
  have HEMP := Lib.hid (emp_sv s)
  have HLET := Lib.hid (eq_sv s letS)
  obtain ⟨y, hy⟩ := boxA_new w (.int .i64 k) (.string ⟨s.toArray⟩) (.int .i64 n) (.slice A X.length c) 24
  have Y := Lib.hid y
  have HY := Lib.hid hy
  clear ih hA hs y hy hok
  unfold askV
  simp only [AskT.kind, AskT.name, AskT.n, AskT.X]
  rw [HFA.out]
  generalize hE : nodeE k s n X.length = E at *
  have HNE := Lib.hid (hE.symm.trans (node_three (k := k) (s := s) (n := n) (m := X.length) hin))
  clear hE
  generalize hR : (if E ≠ 0 then E else firstNZ (X.map faultA)) = R at *
  have HR1 : Hid (E ≠ 0 → R = E) := Lib.hid (fun h => by rw [← hR, if_pos h])
  have HR0 : Hid (E = 0 → R = firstNZ (X.map faultA)) := Lib.hid (fun h => by rw [← hR, if_neg (fun e => e h)])
  clear hR
  generalize hbs : (⟨s.toArray⟩ : ByteArray) = bs at *
  clear hbs
  have hk1 : ¬ k < 1 := fun h => hin (.inl h)
  have hk2 : ¬ 15 < k := fun h => hin (.inr h)
  clear hin
  go_enter Tryd.func17, Tryd.ntmps17
  go_upto_region 1 with fail
  generalize w.alloc (.cells #[.int .i64 k, .string bs, .int .i64 n, .slice A X.length c] 24) = w0 at *
  obtain ⟨y1, y2, y3, y4⟩ := Y.out
  obtain ⟨q, hq⟩ : ∃ q : Nat, k = (q : Int) := ⟨k.toNat, by omega⟩
  have HKQ := Lib.hid hq
  have hq4 : (0 : Int) ≤ k := by omega
  have hq3 : k < 16 := by omega
  clear hq
  have HGD := Lib.hid hgood
  have HNM := Lib.hid hnamed
  generalize hub : numK k = ub at *
  have HUB := Lib.hid hub
  clear hgood hnamed hub
  have nk : ¬ k = 1 ∧ ¬ k = 3 ∧ ¬ k = 4 ∧ ¬ k = 14 := by
    have hk := HNM.out
    refine ⟨fun h => ?_, fun h => ?_, fun h => ?_, fun h => ?_⟩ <;> (rw [h] at hk; revert hk; decide)
  have e1 : (k == 1) = false := by simp [nk]
  have e3 : (k == 3) = false := by simp [nk]
  have e4 : (k == 4) = false := by simp [nk]
  have e14 : (k == 14) = false := by simp [nk]
  have NK := Lib.hid nk
  clear nk
  go_upto_region 4 with fail
  go_cut [4] (fun s4 wx => s4 = .bool ub ∧ wx = w0)
  case first =>
    by_cases h10 : k = 10
    · have e10 : (k == 10) = true := by simp [h10]
      have HV : Hid (true = ub) := Lib.hid (by rw [← HUB.out, h10]; decide)
      clear h10 
      go_wp2_with fail
      go_meet
      exact ⟨congrArg Value.bool HV.out, rfl⟩
    have e10 : (k == 10) = false := by simp [h10]
    by_cases h11 : k = 11
    · have e11 : (k == 11) = true := by simp [h11]
      have HV : Hid (true = ub) := Lib.hid (by rw [← HUB.out, h11]; decide)
      clear h11 h10
      go_wp2_with fail
      go_meet
      exact ⟨congrArg Value.bool HV.out, rfl⟩
    have e11 : (k == 11) = false := by simp [h11]
    by_cases h15 : k = 15
    · have e15 : (k == 15) = true := by simp [h15]
      have HV : Hid (true = ub) := Lib.hid (by rw [← HUB.out, h15]; decide)
      clear h15 h10 h11
      go_wp2_with fail
      go_meet
      exact ⟨congrArg Value.bool HV.out, rfl⟩
    have e15 : (k == 15) = false := by simp [h15]
    have HV : Hid (false = ub) := Lib.hid (by rw [← HUB.out]; unfold numK; simp [h10, h11, h15])
    clear h10 h11 h15
    go_wp2_with fail
    go_meet
    exact ⟨congrArg Value.bool HV.out, rfl⟩
  case rest =>
  obtain ⟨rfl, hwc⟩ := hcut
  replace hwc := hwc.symm
  subst hwc
  go_upto_region 5 with fail
  generalize hmk : manyK k = mk at *
  have HMK := Lib.hid hmk
  clear hmk
  go_cut [5] (fun s5 wx => s5 = .int .i64 (mk : Int) ∧ Below w0.heap.size w0 wx)
  case first =>
    have hc : (w0.alloc (.cells #[.int .i64 0, .int .i64 0, .int .i64 0, .int .i64 0, .int .i64 2, .int .i64 2, .int .i64 2, .int .i64 2, .int .i64 1, .int .i64 1, .int .i64 1, .int .i64 1, .int .i64 2, .int .i64 2, .int .i64 1, .int .i64 1] 3)).cell? ⟨w0.heap.size, q, none⟩ = some (.int .i64 (mk : Int)) := by
      have h := many_cell w0 3 q (by have := HKQ.out; omega)
      rw [← HKQ.out, HMK.out] at h
      exact h
    have hb := below_new (Below.refl w0.heap.size w0) (.cells #[.int .i64 0, .int .i64 0, .int .i64 0, .int .i64 0, .int .i64 2, .int .i64 2, .int .i64 2, .int .i64 2, .int .i64 1, .int .i64 1, .int .i64 1, .int .i64 1, .int .i64 2, .int .i64 2, .int .i64 1, .int .i64 1] 3)
    have ya := (Y.out.below hb).c1
    obtain rfl := HKQ.out
    have HB := Lib.hid hb
    have q15 : q < 16 := by omega
    clear hb
    go_wp2_with fail
    go_meet
    exact ⟨rfl, HB.out⟩
  case rest =>
  obtain ⟨rfl, hb1⟩ := hcut
  have HB1 := Lib.hid hb1
  have Y1 := Lib.hid (Y.out.below hb1)
  have HZ := Lib.hid (below_newA HY.out hb1)
  clear hb1 y1 y2 y3 y4
  generalize hw1 : wc = w1 at *
  clear hw1
  generalize w0.heap.size = BF at *
  obtain ⟨y1, y2, y3, y4⟩ := Y1.out
  go_upto_region 6 with fail
  have HNI : Hid (X.length = mk ∧ s = [] ∧ (ub = false → n = 0)) := Lib.hid (by
    have h := of_decide_eq_false HGD.out
    rw [HNM.out, HUB.out, HMK.out] at h
    exact ⟨Decidable.byContradiction fun e => h (.inl e), Decidable.byContradiction fun e => h (.inr (.inl ⟨rfl, e⟩)), fun e1 => Decidable.byContradiction fun e => h (.inr (.inr ⟨e1, e⟩))⟩)
  go_cut [75] (fun s75 wx => s75 = .bool false ∧ wx = w1)
  case first =>
    have m1 : ((X.length : Int) != (mk : Int)) = false := by simp [HNI.out.1]
    have m2 : bs.toList.isEmpty = true := by rw [HEMP.out, HNI.out.2.1]; rfl
    have hor2 : ub = true ∨ (ub = false ∧ (n == 0) = true ∧ (n != 0) = false) := by
      have h := HNI.out.2.2
      cases ub
      · right; simp [h rfl]
      · left; rfl
    rcases hor2 with rfl | ⟨rfl, m3, m3'⟩
    all_goals
      go_wp2_with fail
      go_meet
      exact ⟨rfl, rfl⟩
  case rest =>
  obtain ⟨rfl, hwc⟩ := hcut
  replace hwc := hwc.symm
  subst hwc
  have HBN : Hid (badN k s = false) := Lib.hid (by
    unfold badN
    have h := NK.out
    rw [HNM.out]
    simp [h])
  generalize hbr : badR k n = br at *
  have HBR : Hid (decide ((k = 15 ∧ (n < 1 ∨ 3 < n)) ∨ (ub = true ∧ (n < 0 ∨ 100 < n))) = br) := Lib.hid (by rw [← hbr]; unfold badR; rw [HUB.out])
  clear hbr
  have HZ2 := HZ
  go_upto_region 10 with fail
  go_cut [134] (fun s134 wx => s134 = .bool br ∧ wx = w1)
  case first =>
    by_cases h15 : k = 15
    · have k15 : (k == 15) = true := by simp [h15]
      have hut : ub = true := by rw [← HUB.out, h15]; decide
      by_cases hn1 : n < 1
      · have HV : Hid (true = br) := Lib.hid (by rw [← HBR.out]; simp [h15, hn1])
        subst hut
        clear h15
        go_wp2_with fail
        go_meet
        exact ⟨congrArg Value.bool HV.out, rfl⟩
      by_cases hn3 : 3 < n
      · have HV : Hid (true = br) := Lib.hid (by rw [← HBR.out]; simp [h15, hn3])
        subst hut
        clear h15
        go_wp2_with fail
        go_meet
        exact ⟨congrArg Value.bool HV.out, rfl⟩
      have hn0 : ¬ n < 0 := by omega
      have hn4 : ¬ 100 < n := by omega
      have HV : Hid (false = br) := Lib.hid (by rw [← HBR.out]; simp [hn1, hn3, hn0, hn4])
      subst hut
      clear h15
      go_wp2_with fail
      go_meet
      exact ⟨congrArg Value.bool HV.out, rfl⟩
    · have k15 : (k == 15) = false := by simp [h15]
      cases ub with
      | false =>
        have HV : Hid (false = br) := Lib.hid (by rw [← HBR.out]; simp [h15])
        clear h15
        go_wp2_with fail
        go_meet
        exact ⟨congrArg Value.bool HV.out, rfl⟩
      | true =>
        by_cases hn0 : n < 0
        · have HV : Hid (true = br) := Lib.hid (by rw [← HBR.out]; simp [hn0])
          clear h15
          go_wp2_with fail
          go_meet
          exact ⟨congrArg Value.bool HV.out, rfl⟩
        by_cases hn4 : 100 < n
        · have HV : Hid (true = br) := Lib.hid (by rw [← HBR.out]; simp [hn4])
          clear h15
          go_wp2_with fail
          go_meet
          exact ⟨congrArg Value.bool HV.out, rfl⟩
        have HV : Hid (false = br) := Lib.hid (by rw [← HBR.out]; simp [h15, hn0, hn4])
        clear h15
        go_wp2_with fail
        go_meet
        exact ⟨congrArg Value.bool HV.out, rfl⟩
  case rest =>
  obtain ⟨rfl, hwc⟩ := hcut
  replace hwc := hwc.symm
  subst hwc
  cases br with
  | true =>
    have HV : Hid ((4 : Int) = (R : Int)) := Lib.hid (by
      have h := HNE.out
      rw [HGD.out, HBN.out, if_neg (by decide), if_neg (by decide), if_pos rfl] at h
      rw [HR1.out (by rw [h]; decide), h]; rfl)
    go_wp2_with fail
    go_ret
    exact ⟨ret_int HV.out, HZ2.out⟩
  | false =>
    have HE0 : Hid (E = 0) := Lib.hid (by
      have h := HNE.out
      rw [HGD.out, HBN.out, if_neg (by decide), if_neg (by decide), if_neg (by decide)] at h
      exact h)
    have HRT := Lib.hid (HR0.out HE0.out)
    go_wp2_with fail
    go_loopw [7, 8, 138] (fun _ _ i wr => ∃ (j : Nat), i = .int .i64 (j : Int) ∧ j ≤ X.length ∧ Hid (∀ v ∈ (X.map faultA).take j, v = 0) ∧ Hid (Below w.heap.size w wr)) (fun _ _ i _ => X.length - (intOf i).toNat)
    case atStart => exact ⟨0, rfl, by omega, Lib.hid (by simp), Lib.hid (HZ2.out)⟩
    case round =>
      obtain ⟨j, rfl, hj, HP, HB⟩ := hrel
      by_cases hlt : j < X.length
      · obtain ⟨x, hx⟩ : ∃ x, X[j]? = some x := ⟨_, List.getElem?_eq_getElem hlt⟩
        obtain ⟨b, off, A', c', rfl, e1, e2, e3, e4, hch⟩ := AskAt.child (AskAt.keep HB.out _ _ _ HA.out) hx
        have hms : (X.map faultA)[j]? = some (faultA x) := by rw [List.getElem?_map, hx]; rfl
        have HMS := Lib.hid hms
        have HXS : Hid (sizeA x ≤ 1152921504606846976) := Lib.hid (by
          have h1 : (X.map sizeA)[j]? = some (sizeA x) := by rw [List.getElem?_map, hx]; rfl
          have h2 := sum_take_succ h1
          have h3 := sum_take_le (X.map sizeA) (j + 1)
          have := HS.out
          omega)
        have HP2 : Hid (faultA x = 0 → ∀ v ∈ (X.map faultA).take (j + 1), v = 0) := Lib.hid (fun h0 v hv => by
          rw [List.take_add_one, HMS.out] at hv
          rcases List.mem_append.1 hv with hv | hv
          · exact HP.out v hv
          · rw [List.mem_singleton.1 hv]; exact h0)
        obtain ⟨u, hu⟩ := boxA_new wr (.int .i64 x.kind) (.string ⟨x.name.toArray⟩) (.int .i64 x.n) (.slice A' x.X.length c') 24
        have U := Lib.hid u
        have HU := Lib.hid (below_newA HB.out hu)
        have HC := Lib.hid (HIH.out x (List.mem_of_getElem? hx) A' c' _ (AskAt.keep hu _ _ _ hch) (HOK.out.kid x (List.mem_of_getElem? hx)) HXS.out)
        unfold askV CntPost at HC
        have hj1 : (j : Int) < (X.length : Int) := by omega
        clear hx hch hms u hu
        generalize hbx : (⟨x.name.toArray⟩ : ByteArray) = bx at *
        clear hbx
        generalize x.kind = xk at *
        generalize x.n = xn at *
        generalize x.X.length = xm at *
        generalize faultA x = xf at *
        go_upto_region 15 with fail
        generalize wr.alloc (.cells #[.int .i64 xk, .string bx, .int .i64 xn, .slice A' xm c'] 24) = w5 at *
        obtain ⟨u1, u2, u3, u4⟩ := U.out
        go_wp2_with fail
        refine HC.out.mono ?_
        rintro e w6 ⟨rfl, hb6⟩
        have HB6 := Lib.hid (below_newA HU.out hb6)
        clear hb6 u1 u2 u3 u4
        by_cases hx0 : xf = 0
        · subst hx0
          have HP3 := Lib.hid (HP2.out rfl)
          go_wp2_with fail
          exact ⟨⟨j + 1, rfl, by omega, HP3, HB6⟩, measA hlt⟩
        · have HV : Hid ((xf : Int) = (R : Int)) := Lib.hid (by rw [HRT.out, firstNZ_at HMS.out HP.out hx0])
          have hn0 : ((xf : Int) != 0) = true := by simp; omega
          clear hx0
          go_wp2_with fail
          go_ret
          exact ⟨ret_int HV.out, HB6.out⟩
      · obtain rfl : j = X.length := by omega
        have HV : Hid ((0 : Int) = (R : Int)) := Lib.hid (by rw [HRT.out, firstNZ_zero (fun v hv => HP.out v (by rw [List.take_of_length_le (by simp)]; exact hv))]; rfl)
        go_wp2_with fail
        go_ret
        exact ⟨ret_int HV.out, HB.out⟩
set_option maxRecDepth 100000 in
set_option maxHeartbeats 1000000 in
theorem rFault_out (k : Int) (s : List UInt8) (n : Int) (X : List AskT) (A : Option Addr) (c : Nat) (w : World) (hin : k < 1 ∨ 15 < k) : Calls Tryd.prog 17 #[askV (.mk k s n X) A c] w (CntPost (faultA (.mk k s n X)) w) := by
  have HV : Hid ((1 : Int) = ((faultA (.mk k s n X) : Nat) : Int)) := Lib.hid (by rw [faultA_mk, node_out hin]; rfl)
  obtain ⟨y, hy⟩ := boxA_new w (.int .i64 k) (.string ⟨s.toArray⟩) (.int .i64 n) (.slice A X.length c) 24
  have Y := Lib.hid y
  have HY := Lib.hid hy
  clear y hy
  unfold askV
  simp only [AskT.kind, AskT.name, AskT.n, AskT.X]
  generalize faultA (.mk k s n X) = R at *
  generalize hbs : (⟨s.toArray⟩ : ByteArray) = bs at *
  clear hbs
  go_enter Tryd.func17, Tryd.ntmps17
  go_upto_region 1 with fail
  generalize w.alloc (.cells #[.int .i64 k, .string bs, .int .i64 n, .slice A X.length c] 24) = w0 at *
  obtain ⟨y1, y2, y3, y4⟩ := Y.out
  by_cases hk1 : k < 1
  · clear hin
    go_wp2_with fail
    go_ret
    exact ⟨ret_int HV.out, HY.out⟩
  · have hk2 : 15 < k := hin.elim (fun h => absurd h hk1) id
    clear hin
    go_wp2_with fail
    go_ret
    exact ⟨ret_int HV.out, HY.out⟩
theorem rFaultA_any : ∀ (x : AskT) (A : Option Addr) (c : Nat) (w : World), AskAt w x A c → AskOk x → sizeA x ≤ 1152921504606846976 → Calls Tryd.prog 17 #[askV x A c] w (CntPost (faultA x) w) := by
  refine askT_ind fun k s n X ih A c w hA hok hs => ?_
  by_cases hin : k < 1 ∨ 15 < k
  · exact rFault_out k s n X A c w hin
  · cases hb : badF k s n X.length with
    | true => exact rFault_form k s n X ih A c w hA hok hs hin hb
    | false =>
      cases hn : namedK k with
      | true => exact rFault_named k s n X ih A c w hA hok hs hin hb hn
      | false => exact rFault_plain k s n X ih A c w hA hok hs hin hb hn
end Go.Proofs.YtcodncddaemhlaaDoor
/- Contract: the reference's AskFault. -/
namespace Go.Proofs.YtcodncddaemhlaaDoor
open Go.RowKit

set_option maxRecDepth 100000 in
set_option maxHeartbeats 2000000 in
theorem rAskFault_any (x : AskT) (A : Option Addr) (c : Nat) (w : World) (hA : AskAt w x A c) (hok : AskOk x) (hs : sizeA x ≤ 1152921504606846976) : Calls Tryd.prog 7 #[askV x A c] w (CntPost (askE x) w) := by
  have hm' : x.X.length ≤ 9223372036854775807 := by have := kids_size x; omega
  obtain ⟨y, hy⟩ := boxA_new w (.int .i64 x.kind) (.string ⟨x.name.toArray⟩) (.int .i64 x.n) (.slice A x.X.length c) 24
  have Y := Lib.hid y
  have HY := Lib.hid hy
  have HE := Lib.hid (show askE x = if 60 < sizeA x then 2 else faultA x from rfl)
  have CC := Lib.hid (rSize_any x A c _ (AskAt.keep hy _ _ _ hA) hm' hs)
  have CK := Lib.hid (fun W (hb : Below (w.alloc (.cells #[.int .i64 x.kind, .string ⟨x.name.toArray⟩, .int .i64 x.n, .slice A x.X.length c] 24)).heap.size (w.alloc (.cells #[.int .i64 x.kind, .string ⟨x.name.toArray⟩, .int .i64 x.n, .slice A x.X.length c] 24)) W) => rFaultA_any x A c W (AskAt.keep hb _ _ _ (AskAt.keep hy _ _ _ hA)) hok hs)
  have HS := Lib.hid hs
  clear hA hok hs y hy
  unfold askV at *
  unfold CntPost at *
  generalize hbs : (⟨x.name.toArray⟩ : ByteArray) = bs at *
  clear hbs
  generalize askE x = E at *
  generalize x.kind = xk at *
  generalize x.n = xn at *
  generalize x.X.length = xm at *
  generalize sizeA x = xs at *
  generalize faultA x = F at *
  go_enter Tryd.func7, Tryd.ntmps7
  go_upto_region 1 with fail
  generalize w.alloc (.cells #[.int .i64 xk, .string bs, .int .i64 xn, .slice A xm c] 24) = w0 at *
  obtain ⟨y1, y2, y3, y4⟩ := Y.out
  go_wp2_with fail
  refine CC.out.mono ?_
  rintro e w2 ⟨rfl, hb2⟩
  have HB2 := Lib.hid (below_newA HY.out hb2)
  have Y2 := Lib.hid (Y.out.below hb2)
  have CK2 := Lib.hid (CK.out w2 hb2)
  clear hb2 y1 y2 y3 y4
  by_cases h60 : 60 < xs
  · have h1 : (60 : Int) < (xs : Int) := by omega
    have HV : Hid ((2 : Int) = (E : Int)) := Lib.hid (by rw [HE.out, if_pos h60]; rfl)
    clear h60
    go_wp2_with fail
    go_ret
    exact ⟨ret_int HV.out, HB2.out⟩
  · have h1 : ¬ (60 : Int) < (xs : Int) := by omega
    have HV : Hid ((F : Int) = (E : Int)) := Lib.hid (by rw [HE.out, if_neg h60])
    clear h60
    obtain ⟨y1, y2, y3, y4⟩ := Y2.out
    go_wp2_with fail
    refine CK2.out.mono ?_
    rintro e w3 ⟨rfl, hb3⟩
    have HB3 := Lib.hid (below_newA HB2.out hb3)
    clear hb3 y1 y2 y3 y4
    go_wp2_with fail
    go_ret
    exact ⟨ret_int HV.out, HB3.out⟩
end Go.Proofs.YtcodncddaemhlaaDoor
