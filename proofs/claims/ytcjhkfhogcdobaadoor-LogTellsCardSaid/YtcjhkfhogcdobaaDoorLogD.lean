/- Contract: the reference's DecimalRead with at most 15 digits. -/
import Derived.Test.YtcjhkfhogcdobaaDoorLogPlain
import Derived.Test.YtcjhkfhogcdobaaDoorDecimal
import Derived.Test.YtcjhkfhogcdobaaDoorHex4
import Derived.BigQuiet
import Derived.Deep.QuietTactic
import Derived.Test.YtcjhkfhogcdobaaDoorOwn
import Derived.Laws.OwnMore
import Derived.Outline
import Derived.WalkKit
import Derived.Deep.RegionWith
import Derived.Test.YtcjhkfhogcdobaaDoorLogRd
import Derived.Test.YtcjhkfhogcdobaaDoorLogPr
import Derived.Test.YtcjhkfhogcdobaaDoorLinesIt
namespace Go.Proofs.YtcjhkfhogcdobaaDoor
open Go.RowKit

theorem decDigits_itoa (u : Nat) : Lib.itoa (u : Int) = Lib.decDigits u := by
  unfold Lib.itoa
  rw [if_neg (by omega)]
  rfl
theorem valD_snoc (s : List UInt8) (c : UInt8) : valD 0 (s ++ [c]) = valD 0 s * 10 + (c.toNat - 48) := by rw [valD_app]; rfl
set_option maxHeartbeats 2000000 in
theorem rDecimalRead_any (s : List UInt8) (w : World) (hl : s.length ≤ 9223372036854775807) :
    Calls Tryd.prog 17 #[.string ⟨s.toArray⟩, .int .i64 15] w fun e w' => (∃ v : Int, e = .returned (.tuple #[.int .i64 v, .bool (okD s)]) ∧ (okD s = true → v = (valD 0 s : Int)) ∧ 0 ≤ v ∧ v < 1000000000000000) ∧ Below w.heap.size w w' := by
  obtain ⟨b, hb⟩ : ∃ b : ByteArray, b = ⟨s.toArray⟩ := ⟨_, rfl⟩
  rw [← hb]
  have hsz : b.size = s.length := by rw [hb]; simp [ByteArray.size]
  have HB := Lib.hid hb
  have HSZ := Lib.hid hsz
  have hbs : b.size ≤ 9223372036854775807 := by omega
  clear hb hsz hl
  go_enter Tryd.func17, Tryd.ntmps17
  go_wp2_with fail
  go_loopw [6, 7, 10] (fun u _ i wr => ∃ k : Nat, k ≤ b.size ∧ k ≤ 15 ∧ i = .int .i64 (k : Int) ∧ u = .int .i64 (valD 0 (s.take k) : Nat) ∧ Hid (∀ c ∈ s.take k, digB c = true) ∧ Hid (Below w.heap.size w wr)) (fun _ _ i _ => b.size - (intOf i).toNat)
  case atStart => exact ⟨0, by omega, by omega, rfl, rfl, Lib.hid (by simp), Lib.hid (Below.refl _ _)⟩
  case round =>
    obtain ⟨k, hk, hk15, rfl, rfl, HALL, HBW⟩ := hrel
    by_cases hlt : k < b.size
    · have HX := Lib.hid (bytes_at s HB.out hlt)
      have HTK : Hid (s.take (k + 1) = s.take k ++ [b[k]]) := Lib.hid (by rw [List.take_add_one, HX.out]; rfl)
      have hV := valD_bound (s.take k) 0 HALL.out
      have hki : (k : Int) < (b.size : Int) := by omega
      have hlen : (s.take k).length = k := by rw [List.length_take]; have := HSZ.out; omega
      rw [hlen] at hV
      have hp : (0 + 1) * 10 ^ k ≤ 1000000000000000 := by
        have := Nat.pow_le_pow_right (show 0 < 10 by decide) hk15
        omega
      have hVb : valD 0 (s.take k) < 1000000000000000 := Nat.lt_of_lt_of_le hV hp
      have hcb : (b[k].toNat : Int) < 256 := by have := b[k].toNat_lt; omega
      have HVS : Hid (valD 0 (s.take (k + 1)) = valD 0 (s.take k) * 10 + (b[k].toNat - 48)) := Lib.hid (by rw [HTK.out, valD_snoc])
      clear hV hp hlen
      by_cases hd : digB b[k] = true
      · have HD := Lib.hid hd
        unfold digB at hd
        simp only [decide_eq_true_eq] at hd
        obtain ⟨d1, d2⟩ := hd
        by_cases hk2 : k < 15
        · have hk3 : (k : Int) < 15 := by omega
          have e1 : decide (((b[k].toNat : Nat) : Int) < 48) = false := by simp; omega
          have e2 : decide ((57 : Int) < ((b[k].toNat : Nat) : Int)) = false := by simp; omega
          have e3 : decide ((15 : Int) ≤ (k : Int)) = false := by simp; omega
          have HU : Hid (∀ c ∈ s.take (k + 1), digB c = true) := Lib.hid (by
            rw [HTK.out]
            intro c hc
            rw [List.mem_append, List.mem_singleton] at hc
            rcases hc with hc | rfl
            · exact HALL.out c hc
            · exact HD.out)
          generalize valD 0 (s.take k) = V at *
          go_wp2_with fail
          exact ⟨⟨k + 1, by omega, by omega, rfl, by rw [HVS.out]; congr 1; omega, HU, HBW⟩, by simp [intOf]; omega⟩
        · have HF : Hid (okD s = false) := Lib.hid (by
            unfold okD
            have : ¬ s.length ≤ 15 := by have := HSZ.out; omega
            simp [this])
          have hk3 : (15 : Int) ≤ (k : Int) := by omega
          have e1 : decide (((b[k].toNat : Nat) : Int) < 48) = false := by simp; omega
          have e2 : decide ((57 : Int) < ((b[k].toNat : Nat) : Int)) = false := by simp; omega
          have e3 : decide ((15 : Int) ≤ (k : Int)) = true := by simp; omega
          go_wp2_with fail
          go_ret2
          exact ⟨⟨0, by rw [HF.out]; rfl, (by rw [HF.out]; intro h; cases h), by decide, by decide⟩, HBW.out⟩
      · have HF : Hid (okD s = false) := Lib.hid (by
          have : s.all digB = false := by
            rw [Bool.eq_false_iff]
            intro ha
            exact hd (List.all_eq_true.1 ha _ (List.mem_of_getElem? HX.out))
          unfold okD
          rw [this]
          rfl)
        have hd2 : b[k].toNat < 48 ∨ 57 < b[k].toNat := by
          unfold digB at hd
          simp only [decide_eq_true_eq] at hd
          omega
        clear hd
        rcases hd2 with d1 | d1
        · have e1 : decide (((b[k].toNat : Nat) : Int) < 48) = true := by simp; omega
          go_wp2_with fail
          go_ret2
          exact ⟨⟨0, by rw [HF.out]; rfl, (by rw [HF.out]; intro h; cases h), by decide, by decide⟩, HBW.out⟩
        · have e1 : decide (((b[k].toNat : Nat) : Int) < 48) = false := by simp; omega
          have e2 : decide ((57 : Int) < ((b[k].toNat : Nat) : Int)) = true := by simp; omega
          go_wp2_with fail
          go_ret2
          exact ⟨⟨0, by rw [HF.out]; rfl, (by rw [HF.out]; intro h; cases h), by decide, by decide⟩, HBW.out⟩
    · have hke : k = b.size := by omega
      have HTA : Hid (s.take k = s) := Lib.hid (List.take_of_length_le (by have := HSZ.out; omega))
      have hV := valD_bound (s.take k) 0 HALL.out
      have hlen : (s.take k).length = k := by rw [List.length_take]; have := HSZ.out; omega
      rw [hlen] at hV
      have hp : (0 + 1) * 10 ^ k ≤ 1000000000000000 := by
        have := Nat.pow_le_pow_right (show 0 < 10 by decide) hk15
        omega
      have hVb : valD 0 (s.take k) < 1000000000000000 := Nat.lt_of_lt_of_le hV hp
      have hqn : ¬ (k : Int) < (b.size : Int) := by omega
      rw [HTA.out] at hVb HALL ⊢
      clear hV hp hlen
      have HLE : Hid (s.length ≤ 15) := Lib.hid (by have := HSZ.out; omega)
      have HKE := Lib.hid hke
      clear hke
      have CD := Lib.hid (fun W => rDecimal_any (valD 0 s) (by omega) W)
      generalize hv : valD 0 s = V at *
      have HVE := Lib.hid hv
      clear hv
      have hbl : b.toList = s := by rw [HB.out, Lib.toList_data]
      by_cases hs : s = []
      · have HF : Hid (okD s = false) := Lib.hid (by rw [hs]; rfl)
        have hE : b.toList.isEmpty = true := by rw [hbl, hs]; rfl
        have hE2 : (b.toList == []) = true := by rw [hbl, hs]; rfl
        have hE3 : (b.toList != []) = false := by rw [hbl, hs]; rfl
        clear hbl hs
        go_wp2_with fail
        go_ret2
        exact ⟨⟨V, by rw [HF.out]; rfl, (by rw [HF.out]; intro h; cases h), by omega, by omega⟩, HBW.out⟩
      · have hE : b.toList.isEmpty = false := by rw [hbl]; cases s with | nil => exact absurd rfl hs | cons _ _ => rfl
        have hE2 : (b.toList == []) = false := by rw [hbl]; cases s with | nil => exact absurd rfl hs | cons _ _ => rfl
        have hE3 : (b.toList != []) = true := by rw [hbl]; cases s with | nil => exact absurd rfl hs | cons _ _ => rfl
        have HBL := Lib.hid hbl
        have HS := Lib.hid hs
        clear hbl hs
        go_wp2_with fail
        refine (CD.out _).mono ?_
        rintro e w' ⟨rfl, rfl⟩
        have HOK : Hid (((⟨(Lib.itoa (V : Int)).toArray⟩ : ByteArray).toList == b.toList) = okD s) := Lib.hid (by
          rw [Lib.toList_data, HBL.out]
          have h1 : s.all digB = true := List.all_eq_true.2 HALL.out
          unfold okD
          rw [h1, HVE.out]
          have := HLE.out
          have h2 := HS.out
          rw [show (⟨(Lib.itoa (V : Int)).toArray⟩ : ByteArray).data.toList = Lib.itoa (V : Int) from rfl, decDigits_itoa]
          by_cases hq : Lib.decDigits V = s <;> simp [this, h2, hq])
        generalize (⟨(Lib.itoa (V : Int)).toArray⟩ : ByteArray) = bi at *
        go_wp2_with fail
        go_ret2
        exact ⟨⟨V, by rw [← HOK.out]; rfl, fun _ => by rw [HVE.out], by omega, by omega⟩, HBW.out⟩
end Go.Proofs.YtcjhkfhogcdobaaDoor
/- Contract: the reference's Split. -/
namespace Go.Proofs.YtcjhkfhogcdobaaDoor
open Go.RowKit

theorem splitC_snoc (c : UInt8) : ∀ (s : List UInt8) (x : UInt8), ∃ M p, splitC c s = M ++ [p] ∧ splitC c (s ++ [x]) = if x = c then M ++ [p, []] else M ++ [p ++ [x]]
  | [], x => by
    refine ⟨[], [], rfl, ?_⟩
    rw [List.nil_append, splitC_cons]
    rfl
  | y :: s, x => by
    obtain ⟨M, p, h1, h2⟩ := splitC_snoc c s x
    rw [List.cons_append, splitC_cons c y s, splitC_cons c y (s ++ [x])]
    by_cases hy : y = c
    · rw [if_pos hy, if_pos hy, h1, h2]
      refine ⟨[] :: M, p, rfl, ?_⟩
      by_cases hx : x = c <;> simp [hx]
    · rw [if_neg hy, if_neg hy, h1, h2]
      cases M with
      | nil =>
        refine ⟨[], y :: p, rfl, ?_⟩
        by_cases hx : x = c <;> simp [hx]
      | cons m M =>
        refine ⟨(y :: m) :: M, p, rfl, ?_⟩
        by_cases hx : x = c <;> simp [hx]
theorem splitC_last (c : UInt8) (s : List UInt8) : ∃ M p, splitC c s = M ++ [p] := ⟨(splitC c s).dropLast, (splitC c s).getLast (splitC_ne c s), (List.dropLast_concat_getLast _).symm⟩
theorem splitC_short (c : UInt8) : ∀ (s : List UInt8), (splitC c s).length ≤ s.length + 1
  | [] => by simp [splitC]
  | y :: s => by
    have ih := splitC_short c s
    rw [splitC_cons]
    by_cases hy : y = c
    · rw [if_pos hy]; simp; omega
    · rw [if_neg hy]
      cases hq : splitC c s with
      | nil => simp
      | cons p q => rw [hq] at ih; simp at ih ⊢; omega
theorem cat_one {b : ByteArray} (p : List UInt8) {k : Nat} (hk : k < b.size) : Value.string (⟨p.toArray⟩ ++ b.extract k (k + 1)) = sv (p ++ [b[k]]) := by
  unfold sv
  congr 1
  have e : b.extract k (k + 1) = ⟨[b[k]].toArray⟩ := by
    apply ByteArray.ext
    rw [ByteArray.data_extract]
    have hk2 : k < b.data.size := hk
    apply Array.ext
    · simp; omega
    · intro i h1 h2
      simp at h2
      subst h2
      simp
      rfl
  rw [e, ByteArray.mk_append_mk]
theorem elStrS : ElT Tryd.prog 50 9 (.string ⟨#[]⟩) 16 := ElT.mk' Tryd.underlying50 (by kernel_rfl) rfl
/-- The slice that Split hands back: its own, the parts as texts. -/
def SplitPost (c : UInt8) (s : List UInt8) (w : World) (e : Ending) (w' : World) : Prop := ∃ g cap, e = .returned (.slice (some ⟨g, 0, none⟩) (splitC c s).length cap) ∧ w'.ownsRow w.heap.size 9 1 (.slice (some ⟨g, 0, none⟩) (splitC c s).length cap) (splitC c s).length ((splitC c s).map sv) ∧ Below w.heap.size w w'
set_option maxRecDepth 100000 in
set_option maxHeartbeats 2000000 in
theorem rSplit_any (c : UInt8) (s : List UInt8) (w : World) (hl : s.length ≤ 1048576) :
    Calls Tryd.prog 16 #[.string ⟨s.toArray⟩, .int .u8 (c.toNat : Int)] w (SplitPost c s w) := by
  obtain ⟨b, hb⟩ : ∃ b : ByteArray, b = ⟨s.toArray⟩ := ⟨_, rfl⟩
  rw [← hb]
  have hsz : b.size = s.length := by rw [hb]; simp [ByteArray.size]
  have HB := Lib.hid hb
  have HSZ := Lib.hid hsz
  have hbs : b.size ≤ 1048576 := by omega
  clear hb hsz hl
  have HO0 : Hid ((w.alloc (.cells #[.string ⟨#[]⟩] 9)).ownsRow w.heap.size 9 1 (.slice (some ⟨w.heap.size, 0, none⟩) 1 1) 1 ((([] : List (List UInt8)) ++ [[]]).map sv)) := Lib.hid (World.ownsRow_lit w _ 1 (Nat.le_refl _) (by unfold maxLen; omega) rfl)
  have HB0 : Hid (Below w.heap.size w (w.alloc (.cells #[.string ⟨#[]⟩] 9))) := Lib.hid (below_new (Below.refl _ _) _)
  generalize hci : (c.toNat : Int) = ci at *
  have HCI := Lib.hid hci
  clear hci
  go_enter Tryd.func16, Tryd.ntmps16
  go_wp2_with fail
  go_loopw [5, 6, 10] (fun v _ i wr => ∃ (k : Nat) (M : List (List UInt8)) (p : List UInt8) (g cap : Nat), k ≤ b.size ∧ i = .int .i64 (k : Int) ∧ v = .slice (some ⟨g, 0, none⟩) (M.length + 1) cap ∧ M.length ≤ k ∧ p.length ≤ k ∧ Hid (splitC c (s.take k) = M ++ [p]) ∧ Hid (wr.ownsRow w.heap.size 9 1 (.slice (some ⟨g, 0, none⟩) (M.length + 1) cap) (M.length + 1) ((M ++ [p]).map sv)) ∧ Hid (Below w.heap.size w wr)) (fun _ _ i _ => b.size - (intOf i).toNat)
  case atStart => exact ⟨0, [], [], w.heap.size, 1, by omega, rfl, rfl, by simp, by simp, Lib.hid rfl, HO0, HB0⟩
  case round =>
    clear HO0 HB0
    obtain ⟨k, M, p, g, cap, hk, rfl, rfl, hM, hp, HSP, HO, HBW⟩ := hrel
    by_cases hlt : k < b.size
    · have HX := Lib.hid (bytes_at s HB.out hlt)
      have HTK : Hid (s.take (k + 1) = s.take k ++ [b[k]]) := Lib.hid (by rw [List.take_add_one, HX.out]; rfl)
      have hki : (k : Int) < (b.size : Int) := by omega
      have hbw := HBW.out.size
      obtain ⟨M', p', q1, q2⟩ := splitC_snoc c (s.take k) b[k]
      obtain ⟨rfl, rfl⟩ : M = M' ∧ p = p' := by
        rw [HSP.out] at q1
        have := List.append_inj' q1 rfl
        exact ⟨this.1, by simpa using this.2⟩
      by_cases hx : b[k] = c
      · have HNX : Hid (splitC c (s.take (k + 1)) = (M ++ [p]) ++ [[]]) := Lib.hid (by rw [HTK.out, q2, if_pos hx]; simp)
        have hce : ((b[k].toNat : Nat) : Int) = ci := by rw [hx, HCI.out]
        clear q1 q2 hx HSP
        go_wp2_with (at_builtin; refine wpList_push elStrS wr _ _ w.heap.size (some ⟨g, 0, none⟩) (M.length + 1) cap _ (.string ⟨#[]⟩) HO.out rfl hbw (by omega) (by omega) rfl rfl rfl rfl ?_; intro A' c' w1 hown1 hb1)
        obtain ⟨g', hg'⟩ : ∃ g', A' = some ⟨g', 0, none⟩ := by
          rcases hown1.2 with ⟨h', _⟩ | ⟨g', cap', cur, h', _⟩
          · simp at h'
          · simp only [Value.slice.injEq] at h'
            exact ⟨g', h'.1⟩
        subst hg'
        exact ⟨⟨k + 1, M ++ [p], [], g', c', by omega, rfl, by simp, by simp; omega, by simp, HNX, Lib.hid (by simpa [sv] using hown1), Lib.hid (HBW.out.trans hb1)⟩, by simp [intOf]; omega⟩
      · have HNX : Hid (splitC c (s.take (k + 1)) = M ++ [p ++ [b[k]]]) := Lib.hid (by rw [HTK.out, q2, if_neg hx])
        have hce : ¬ ((b[k].toNat : Nat) : Int) = ci := by
          rw [← HCI.out]
          intro e
          apply hx
          apply UInt8.toNat_inj.1
          omega
        have hcell := HO.out.cellAt M.length (by omega)
        have hfz := HO.out.frozenAt M.length
        rw [List.map_append, List.getElem?_append_right (by simp)] at hcell
        simp only [List.length_map, Nat.sub_self, List.map_cons, List.map_nil, List.getElem?_cons_zero] at hcell
        have HST := Lib.hid (fun u => HO.out.stored M.length u)
        have HGB : Hid (w.heap.size ≤ g) := Lib.hid (HO.out.lt g rfl).1
        have hps : (⟨p.toArray⟩ : ByteArray).size ≤ 1048576 := by simp [ByteArray.size]; omega
        clear q1 q2 hx HSP
        have HM := Lib.hid hM
        unfold sv at hcell
        generalize hbp : (⟨p.toArray⟩ : ByteArray) = bp at *
        have HBP := Lib.hid hbp
        clear hbp
        go_wp2_with fail
        have HCAT : Hid (Value.string (bp ++ b.extract k (k + 1)) = sv (p ++ [b[k]])) := Lib.hid (by rw [← HBP.out]; exact cat_one p hlt)
        go_region
        rw [HCAT.out]
        obtain ⟨st1, st2⟩ := HST.out (sv (p ++ [b[k]]))
        have HO7 : Hid (((wr.setCell ⟨g, M.length, none⟩ (sv (p ++ [b[k]]))).drew).ownsRow w.heap.size 9 1 (.slice (some ⟨g, 0, none⟩) (M.length + 1) cap) (M.length + 1) ((M ++ [p ++ [b[k]]]).map sv)) := Lib.hid (by
          have e : ((M ++ [p]).map sv).set M.length (sv (p ++ [b[k]])) = (M ++ [p ++ [b[k]]]).map sv := by
            rw [List.map_append, List.map_append, List.set_append_right _ _ (by simp)]
            simp
          rw [← e]
          exact st1.drew)
        have HB7 : Hid (Below w.heap.size w (wr.setCell ⟨g, M.length, none⟩ (sv (p ++ [b[k]]))).drew) := Lib.hid ((HBW.out.setCell (p := ⟨g, M.length, none⟩) HGB.out _).drew)
        clear st1 st2
        go_wp2_with fail
        exact ⟨⟨k + 1, M, p ++ [b[k]], g, cap, by omega, rfl, rfl, by omega, by simp; omega, HNX, HO7, HB7⟩, by simp [intOf]; omega⟩
    · have hqn : ¬ (k : Int) < (b.size : Int) := by omega
      have HE : Hid (splitC c s = M ++ [p]) := Lib.hid (by rw [← HSP.out, List.take_of_length_le (by have := HSZ.out; omega)])
      go_wp2_with fail
      go_ret
      refine ⟨g, cap, ?_, ?_, HBW.out⟩
      · rw [HE.out, List.length_append]
        rfl
      · rw [HE.out, List.length_append]
        exact HO.out
end Go.Proofs.YtcjhkfhogcdobaaDoor
/- A round of the reference's reading of the log, in plain Lean. No program in sight. -/
namespace Go.Proofs.YtcjhkfhogcdobaaDoor

theorem lines_at : ∀ (l : List UInt8) (e : Nat), (∀ j, j < e → l[j]? ≠ some 10) → l[e]? = some 10 → linesL l = (l.take e ++ [10]) :: linesL (l.drop (e + 1))
  | [], e, _, h => by simp at h
  | x :: r, 0, _, h => by
    simp at h
    rw [linesL_cons, if_pos h, h]
    rfl
  | x :: r, e + 1, h1, h => by
    have hx : x ≠ 10 := by
      have := h1 0 (by omega)
      simpa using this
    have ih := lines_at r e (fun j hj => by have := h1 (j + 1) (by omega); simpa using this) (by simpa using h)
    rw [linesL_cons, if_neg hx, ih]
    rfl
theorem lines_no : ∀ (l : List UInt8), (∀ j, j < l.length → l[j]? ≠ some 10) → l ≠ [] → linesL l = [l] ∧ l.getLast? ≠ some 10
  | [], _, h => absurd rfl h
  | [x], h1, _ => by
    have hx : x ≠ 10 := by have := h1 0 (by simp); simpa using this
    rw [linesL_cons, if_neg hx]
    exact ⟨rfl, by simpa using hx⟩
  | x :: y :: r, h1, _ => by
    have hx : x ≠ 10 := by have := h1 0 (by simp); simpa using this
    have ih := lines_no (y :: r) (fun j hj => by have := h1 (j + 1) (by simp at hj ⊢; omega); simpa using this) (by simp)
    rw [linesL_cons, if_neg hx, ih.1]
    exact ⟨rfl, by rw [List.getLast?_cons_cons]; exact ih.2⟩
/-- What the reference looks at in a line that ends. -/
def readT (a b c : List UInt8) : StampT := (a, (valD 0 b : Int), UInt64.ofNat (hexRd c))
theorem accR_end (l : List UInt8) : accR (l ++ [10]) = match splitC 32 l with
    | [a, b, c] => if okD b = true ∧ hexOk c = true ∧ stOne (readT a b c) = 0 then some (readT a b c) else none
    | _ => none := by
  unfold accR readT
  rw [List.getLast?_append, List.dropLast_concat, if_pos (show [(10 : UInt8)].getLast?.or l.getLast? = some 10 from rfl)]
  generalize splitC 32 l = L
  match L with
  | [] => rfl
  | [_] => rfl
  | [_, _] => rfl
  | [_, _, _] => rfl
  | _ :: _ :: _ :: _ :: _ => rfl
theorem accR_bare {l : List UInt8} (h : l.getLast? ≠ some 10) : accR l = none := by unfold accR; rw [if_neg h]
theorem accR_three {l : List UInt8} (h : (splitC 32 l).length ≠ 3) : accR (l ++ [10]) = none := by
  rw [accR_end]
  match splitC 32 l, h with
  | [], _ => rfl
  | [_], _ => rfl
  | [_, _], _ => rfl
  | [_, _, _], h => exact absurd rfl h
  | _ :: _ :: _ :: _ :: _, _ => rfl
section
variable {q : Nat} {O : List StampT} {l : List UInt8} {ls : List (List UInt8)}
theorem runR_large (h : 200 < q + 1) : runLines q O (l :: ls) = ([], q + 1, 2) := by rw [runLines, if_pos h]
theorem runR_none (h : ¬ 200 < q + 1) (ha : accR l = none) : runLines q O (l :: ls) = ([], q + 1, 3) := by rw [runLines, if_neg h, acc_eq, ha]
theorem runR_low {x : StampT} (h : ¬ 200 < q + 1) (ha : accR l = some x) (hl : (O.getLast?.all fun p => leAt p x) = false) : runLines q O (l :: ls) = ([], q + 1, 3) := by
  rw [runLines, if_neg h, acc_eq, ha]
  simp only
  rw [if_neg (by rw [hl]; decide)]
theorem runR_next {x : StampT} (h : ¬ 200 < q + 1) (ha : accR l = some x) (hl : (O.getLast?.all fun p => leAt p x) = true) : runLines q O (l :: ls) = runLines (q + 1) (O ++ [x]) ls := by
  rw [runLines, if_neg h, acc_eq, ha]
  simp only
  rw [if_pos hl]
end
theorem stErr_one (x : StampT) : stErr [x] = stOne x := by
  unfold stErr
  by_cases h : stOne x = 0
  · simp [stFirst, h, risesB]
  · simp [stFirst, h]
end Go.Proofs.YtcjhkfhogcdobaaDoor
