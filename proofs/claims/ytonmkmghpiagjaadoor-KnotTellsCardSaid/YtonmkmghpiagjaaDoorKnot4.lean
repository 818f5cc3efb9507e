/- Contracts: Parts, Fold and Ring of package knot. The table of math/bits lies. -/
import Derived.Test.YtonmkmghpiagjaaDoorKnot3
import Derived.Test.YtonmkmghpiagjaaDoorKnotPlain3
import Derived.Test.YtonmkmghpiagjaaDoorKnotIx
import Derived.Test.YtonmkmghpiagjaaDoorReach5
namespace Go.Proofs.YtonmkmghpiagjaaDoor
open Go.RowKit

theorem tp_len {l : List Nat} (hg : Good l) : (tiedParts l).length ≤ 64 := by
  have h : (tiedParts l).length = (endO l).length := ((List.perm_ext_iff_of_nodup (endO_nodup hg) ((tpI_inv hg l.length (Nat.le_refl _)).inc.imp fun {a b} h e => by rw [e] at h; omega)).2 fun s => by rw [parts_mem hg]; exact (tp_mem hg s).symm).length_eq.symm
  have := endO_len hg
  have := hg.1
  omega
theorem tp_b64 {l : List Nat} (hg : Good l) : ∀ s ∈ tiedParts l, B64 s := fun s hs => by
  obtain ⟨x, _, rfl⟩ := (tp_mem hg s).1 hs
  exact tieS_b64 l x hg.1
theorem tp_in {l : List Nat} (hg : Good l) {s j : Nat} (hs : s ∈ tiedParts l) (hj : s.testBit j = true) : j < l.length := by
  obtain ⟨x, hx, rfl⟩ := (tp_mem hg s).1 hs
  exact ((tieS_bit l x _ j).1 hj).1
theorem kParts_bad {A : Option Addr} {n c : Nat} (l : List Nat) (w : World) (h1 : Rd w A (l.map uv)) (hl : l.length = n) (hnb : n ≤ 9223372036854775807) (hb : Rows64 l) (hf : faultOf l [] ≠ 0) :
    Calls Tryd.prog 55 #[.slice A n c] w fun e w' => e = .returned (.tuple #[.slice none 0 0, .int .i64 (faultOf l [])]) ∧ w = w' := by
  have hz := fault_ne hf
  have H1 := Lib.hid h1
  have HL := Lib.hid hl
  have HB := Lib.hid hb
  clear h1 hl hb hf
  go_enter Tryd.func55, Tryd.ntmps55
  go_wp2_with fail
  refine (pCheck_any l _ H1.out HL.out hnb HB.out).mono ?_
  rintro e w' ⟨rfl, rfl⟩
  go_wp2_with fail
  go_ret2
  exact ⟨rfl, rfl⟩
theorem kParts_good {A : Option Addr} {n c : Nat} (l : List Nat) (w : World) (h1 : Rd w A (l.map uv)) (hl : l.length = n) (hnb : n ≤ 9223372036854775807) (hb : Rows64 l) (hf : faultOf l [] = 0) (hT : Tab w) :
    Calls Tryd.prog 55 #[.slice A n c] w (SlErrPost 23 (tiedParts l).length ((tiedParts l).map uv) 0 w) := by
  have HF := Lib.hid hf
  have HG := Lib.hid (faultOf_ok hb (by simp) hf).1
  have H1 := Lib.hid h1
  have HL := Lib.hid hl
  have HB := Lib.hid hb
  have HT := Lib.hid hT
  clear h1 hl hb hf hT
  go_enter Tryd.func55, Tryd.ntmps55
  go_wp2_with fail
  refine (pCheck_any l _ H1.out HL.out hnb HB.out).mono ?_
  rintro e w' ⟨rfl, rfl⟩
  rw [HF.out]
  go_wp2_with fail
  refine (parts_any l _ H1.out HL.out HG.out HT.out).mono ?_
  rintro e w' ⟨A1, c1, rfl, hown, hb1⟩
  have HB1 := Lib.hid hb1
  have HO := Lib.hid hown
  clear hown hb1
  go_wp2_with fail
  go_ret2
  exact ⟨A1, c1, rfl, HO.out, HB1.out⟩
theorem kFold_bad {A : Option Addr} {n c : Nat} (l : List Nat) (w : World) (h1 : Rd w A (l.map uv)) (hl : l.length = n) (hnb : n ≤ 9223372036854775807) (hb : Rows64 l) (hf : faultOf l [] ≠ 0) :
    Calls Tryd.prog 56 #[.slice A n c] w fun e w' => e = .returned (.tuple #[.slice none 0 0, .int .i64 (faultOf l [])]) ∧ w = w' := by
  have hz := fault_ne hf
  have H1 := Lib.hid h1
  have HL := Lib.hid hl
  have HB := Lib.hid hb
  clear h1 hl hb hf
  go_enter Tryd.func56, Tryd.ntmps56
  go_wp2_with fail
  refine (pCheck_any l _ H1.out HL.out hnb HB.out).mono ?_
  rintro e w' ⟨rfl, rfl⟩
  go_wp2_with fail
  go_ret2
  exact ⟨rfl, rfl⟩
theorem kRing_bad {A : Option Addr} {n c : Nat} (l : List Nat) (w : World) (h1 : Rd w A (l.map uv)) (hl : l.length = n) (hnb : n ≤ 9223372036854775807) (hb : Rows64 l) (hf : faultOf l [] ≠ 0) :
    Calls Tryd.prog 58 #[.slice A n c] w fun e w' => e = .returned (.tuple #[.slice none 0 0, .int .i64 (faultOf l [])]) ∧ w = w' := by
  have hz := fault_ne hf
  have H1 := Lib.hid h1
  have HL := Lib.hid hl
  have HB := Lib.hid hb
  clear h1 hl hb hf
  go_enter Tryd.func58, Tryd.ntmps58
  go_wp2_with fail
  refine (pCheck_any l _ H1.out HL.out hnb HB.out).mono ?_
  rintro e w' ⟨rfl, rfl⟩
  go_wp2_with fail
  go_ret2
  exact ⟨rfl, rfl⟩
theorem kRing_none {A : Option Addr} {n c : Nat} (l : List Nat) (w : World) (h1 : Rd w A (l.map uv)) (hl : l.length = n) (hnb : n ≤ 9223372036854775807) (hb : Rows64 l) (hf : faultOf l [] = 0) (hT : Tab w) (hr : ordR l = 0) :
    Calls Tryd.prog 58 #[.slice A n c] w fun e w' => e = .returned (.tuple #[.slice none 0 0, .int .i64 5]) ∧ Below w.heap.size w w' := by
  have HF := Lib.hid hf
  have HG := Lib.hid (faultOf_ok hb (by simp) hf).1
  have H1 := Lib.hid h1
  have HL := Lib.hid hl
  have HB := Lib.hid hb
  have HT := Lib.hid hT
  have HN : Hid (nextB (ordR l) 0 = false) := Lib.hid (by rw [hr]; unfold nextB; rw [fromS_zero B64.zero]; rfl)
  have HLB := Lib.hid (left_b64 HG.out)
  clear h1 hl hb hf hT hr
  go_enter Tryd.func58, Tryd.ntmps58
  go_wp2_with fail
  refine (pCheck_any l _ H1.out HL.out hnb HB.out).mono ?_
  rintro e w' ⟨rfl, rfl⟩
  rw [HF.out]
  go_wp2_with fail
  refine (order_any l _ H1.out HL.out HG.out HT.out).mono ?_
  rintro e w' ⟨A1, c1, rfl, hown, hb1⟩
  have HB1 := Lib.hid hb1
  clear hown hb1
  go_wp2_with fail
  refine (next_any (ordR l) 0 HLB.out _ (HT.out.below HB1.out)).mono ?_
  rintro e w' ⟨rfl, rfl⟩
  rw [HN.out]
  go_wp2_with fail
  go_ret2
  exact ⟨rfl, HB1.out⟩
def RingPost (l : List Nat) (w : World) (e : Ending) (w' : World) : Prop :=
  ∃ A c d, e = .returned (.tuple #[.slice A d.length c, .int .i64 0]) ∧ IsRg l d ∧ d.length ≤ c ∧ Rd w' A (d.map nv) ∧ Below w.heap.size w w'
set_option maxHeartbeats 1000000 in
theorem kRing_good {A : Option Addr} {n c : Nat} (l : List Nat) (w : World) (h1 : Rd w A (l.map uv)) (hl : l.length = n) (hnb : n ≤ 9223372036854775807) (hb : Rows64 l) (hf : faultOf l [] = 0) (hT : Tab w) (hr : ordR l ≠ 0) :
    Calls Tryd.prog 58 #[.slice A n c] w (RingPost l w) := by
  have HF := Lib.hid hf
  have HG := Lib.hid (faultOf_ok hb (by simp) hf).1
  have H1 := Lib.hid h1
  have HL := Lib.hid hl
  have HB := Lib.hid hb
  have HT := Lib.hid hT
  have HLB := Lib.hid (left_b64 HG.out)
  have HN : Hid (nextB (ordR l) 0 = true) := Lib.hid (by unfold nextB; rw [fromS_zero HLB.out]; exact decide_eq_true hr)
  have HNN : Hid (nextN (ordR l) 0 = low (ordR l)) := Lib.hid (nextN_low HLB.out hr)
  have HST := Lib.hid (rg_start (low_bit HLB.out hr))
  clear h1 hl hb hf hT hr
  go_enter Tryd.func58, Tryd.ntmps58
  go_wp2_with fail
  refine (pCheck_any l _ H1.out HL.out hnb HB.out).mono ?_
  rintro e w' ⟨rfl, rfl⟩
  rw [HF.out]
  go_wp2_with fail
  refine (order_any l _ H1.out HL.out HG.out HT.out).mono ?_
  rintro e w1 ⟨A1, c1, rfl, hown, hb1⟩
  have HB1 := Lib.hid hb1
  clear hown hb1
  go_wp2_with fail
  refine (next_any (ordR l) 0 HLB.out _ (HT.out.below HB1.out)).mono ?_
  rintro e w' ⟨rfl, rfl⟩
  rw [HN.out, HNN.out]
  go_wp2_with fail
  go_loopw [7, 9] (fun x row wr => ∃ (i : Nat) (rw_ : List Nat) (A' : Option Addr) (c' : Nat), x = .int .i64 (i : Int) ∧ row = .slice A' rw_.length c' ∧ Hid (RgInv l rw_ i) ∧ Hid (wr.ownsRow w.heap.size 3 1 (.slice A' rw_.length c') rw_.length (rw_.map nv)) ∧ Hid (Below w.heap.size w wr)) (fun _ row _ => 65 - sliceLen row)
  case atStart => exact ⟨_, [], none, 0, rfl, rfl, HST, Lib.hid (World.ownsRow_nil _ _ _ _), HB1⟩
  case round =>
    obtain ⟨i, rw_, A', c', rfl, rfl, hri, hown, hbw⟩ := hrel
    have hlen := rg_len HG.out hri.out
    have hin : i < n := by rw [← HL.out]; exact (ordL_inv HG.out).sub i hri.out.me
    go_wp2_with fail
    refine (contains_any rw_ i _ (Rd.of_own hown.out) rfl (by omega)).mono ?_
    rintro e w' ⟨rfl, rfl⟩
    cases hc : rw_.contains i with
    | true =>
      have HI : Hid (i ∈ rw_) := Lib.hid (List.contains_iff_mem.1 hc)
      clear hc
      go_wp2_with fail
      refine (index_any rw_ i _ (Rd.of_own hown.out) rfl (by omega) HI.out).mono ?_
      rintro e w' ⟨rfl, rfl⟩
      have hat : rw_.idxOf i < rw_.length := List.idxOf_lt_length_iff.2 HI.out
      obtain ⟨g, rfl, hcap⟩ := some_slice hown.out (by omega)
      have HRG : Hid (IsRg l (rw_.drop (rw_.idxOf i))) := Lib.hid (rg_end HG.out hri.out (by rw [List.getElem?_eq_getElem hat, List.getElem_idxOf hat]))
      have HRD := Lib.hid (rd_drop (Rd.of_own hown.out) (rw_.idxOf i))
      rw [Nat.zero_add] at HRD
      have HDL : Hid (rw_.length - rw_.idxOf i = (rw_.drop (rw_.idxOf i)).length) := Lib.hid (by rw [List.length_drop])
      generalize rw_.idxOf i = p at *
      go_wp2_with fail
      go_ret2
      refine ⟨some ⟨g, p, none⟩, c' - p, rw_.drop p, ?_, HRG.out, (by rw [List.length_drop]; omega), HRD.out, hbw.out⟩
      rw [← HDL.out]
      rfl
    | false =>
      have HI : Hid (i ∉ rw_) := Lib.hid (fun h => by rw [List.contains_iff_mem.2 h] at hc; cases hc)
      have HNX := Lib.hid (nxt_ok HG.out hri.out.me)
      have HRI := Lib.hid (rg_step HG.out hri.out HI.out)
      have HRB : Hid (B64 (rowAt l i &&& ordR l)) := Lib.hid (B64.and' HLB.out)
      have HNW : Hid (nextN (rowAt l i &&& ordR l) 0 = nxt l i) := Lib.hid (nextN_low HRB.out HNX.out.1)
      have e1 := u64_and_nat (rowAt l i) (ordR l) (HG.out.b64 i) HLB.out
      have hsz := hbw.out.size
      clear hc
      go_wp2_with (at_builtin; refine wpList_push elInt wr _ _ w.heap.size A' rw_.length c' _ (nv i) hown.out rfl hsz (by omega) (by omega) rfl rfl rfl rfl ?_; intro A5 c5 w5 hown5 hb5; have HO5 := Lib.hid hown5; have HB5 := Lib.hid (hbw.out.trans hb5); obtain ⟨b', o', rfl, xr⟩ := (H1.out.below HB5.out).set (k := i) (by rw [HL.out]; exact hin); clear hown5 hb5)
      refine (next_any _ 0 HRB.out _ (HT.out.below HB5.out)).mono ?_
      rintro e w' ⟨rfl, rfl⟩
      rw [HNW.out]
      go_wp2_with fail
      refine ⟨⟨nxt l i, rw_ ++ [i], A5, c5, rfl, by rw [List.length_append]; rfl, HRI, Lib.hid (by have h := HO5.out; rw [List.length_append, List.map_append]; exact h), HB5⟩, ?_⟩
      simp only [sliceLen]
      omega
set_option maxHeartbeats 1000000 in
theorem kFold_good {A : Option Addr} {n c : Nat} (l : List Nat) (w : World) (h1 : Rd w A (l.map uv)) (hl : l.length = n) (hnb : n ≤ 9223372036854775807) (hb : Rows64 l) (hf : faultOf l [] = 0) (hT : Tab w) :
    Calls Tryd.prog 56 #[.slice A n c] w (SlErrPost 23 (tiedParts l).length ((foldedL l (tiedParts l)).map uv) 0 w) := by
  have HF := Lib.hid hf
  have HG := Lib.hid (faultOf_ok hb (by simp) hf).1
  have H1 := Lib.hid h1
  have HL := Lib.hid hl
  have HB := Lib.hid hb
  have HT := Lib.hid hT
  have HPB := Lib.hid (rowAt_all (tp_b64 HG.out))
  have HPI : Hid (∀ s ∈ tiedParts l, ∀ j, s.testBit j = true → j < n) := Lib.hid (fun s hs j hj => by rw [← HL.out]; exact tp_in HG.out hs hj)
  have hp64 := tp_len HG.out
  clear h1 hl hb hf hT
  go_enter Tryd.func56, Tryd.ntmps56
  go_wp2_with fail
  refine (pCheck_any l _ H1.out HL.out hnb HB.out).mono ?_
  rintro e w' ⟨rfl, rfl⟩
  rw [HF.out]
  go_wp2_with fail
  refine (parts_any l _ H1.out HL.out HG.out HT.out).mono ?_
  rintro e w1 ⟨A1, c1, rfl, hown, hb1⟩
  have HB1 := Lib.hid hb1
  have HP := Lib.hid (Rd.of_own hown)
  have H1' := Lib.hid (H1.out.below hb1)
  have HT' := Lib.hid (HT.out.below hb1)
  clear hown hb1
  generalize hpp : tiedParts l = p at *
  clear hpp
  go_wp2_with fail
  go_loopw [6, 24] (fun o x wr => ∃ (k : Nat) (A' : Option Addr) (c' : Nat), x = .int .i64 (k : Int) ∧ o = .slice A' k c' ∧ k ≤ p.length ∧ Hid (wr.ownsRow w1.heap.size 23 1 (.slice A' k c') k (((foldedL l p).take k).map uv)) ∧ Hid (Below w1.heap.size w1 wr)) (fun _ x _ => p.length - (intOf x).toNat)
  case atStart => exact ⟨0, none, 0, rfl, rfl, Nat.zero_le _, Lib.hid (World.ownsRow_nil _ _ _ _), Lib.hid (Below.refl _ _)⟩
  case round =>
    obtain ⟨k, A', c', rfl, rfl, hk, hown, hbw⟩ := hrel
    by_cases hlt : k < p.length
    · have HKS : Hid (rowAt p k ∈ p) := Lib.hid (rowAt_mem hlt)
      obtain ⟨bP, oP, rfl, xp⟩ := (HP.out.below hbw.out).set (k := k) hlt
      have HTR := Lib.hid (foldedL_take l p hlt)
      go_wp2_with fail
      refine (list_any (rowAt p k) (HPB.out k) _ (HT'.out.below hbw.out)).mono ?_
      rintro e w2 ⟨A2, c2, rfl, hown2, hb2⟩
      have HO2 := Lib.hid (Rd.of_own hown2)
      have HB2 := Lib.hid (hbw.out.trans (hb2.mono hbw.out.size))
      have HOW2 := Lib.hid (own_below hown.out hb2)
      have HIN2 : Hid (∀ q ∈ nums (rowAt p k), q < n) := Lib.hid (fun q hq => HPI.out _ HKS.out q ((mem_nums (HPB.out k)).1 hq))
      have hklen := nums_len (rowAt p k)
      clear hown2 hb2 hown hbw xp
      generalize hks : nums (rowAt p k) = ks at HO2 HIN2 hklen ⊢
      have HKQ := Lib.hid hks
      clear hks
      go_wp2_with fail
      go_loop [9, 32] (fun nd x => ∃ j : Nat, x = .int .i64 (j : Int) ∧ j ≤ ks.length ∧ nd = .int .u64 (needS l (ks.take j) : Nat)) (fun _ x => ks.length - (intOf x).toNat)
      case atStart => exact ⟨0, rfl, Nat.zero_le _, rfl⟩
      case round =>
        obtain ⟨j, rfl, hj, rfl⟩ := hrel
        have HNB : Hid (B64 (needS l (ks.take j))) := Lib.hid (needS_b64 HG.out.b64 _)
        by_cases hjl : j < ks.length
        · obtain ⟨q, hkq⟩ : ∃ q, ks[j]? = some q := ⟨ks[j], List.getElem?_eq_getElem hjl⟩
          have hqn : q < n := HIN2.out q (List.mem_of_getElem? hkq)
          obtain ⟨bK, oK, rfl, xk⟩ := HO2.out.at_ (k := j) (by simpa using hjl)
          have xk' : w2.cell? ⟨bK, oK + j, none⟩ = some (.int .i64 (q : Nat)) := by
            rw [xk, List.getElem_map]
            rw [List.getElem?_eq_getElem hjl] at hkq
            injection hkq with hkq
            rw [hkq]
            rfl
          obtain ⟨b', o', rfl, xr⟩ := (H1'.out.below HB2.out).set (k := q) (by rw [HL.out]; exact hqn)
          have e1 := u64_or_nat (needS l (ks.take j)) (rowAt l q) HNB.out (HG.out.b64 q)
          have HNS : Hid (needS l (ks.take j) ||| rowAt l q = needS l (ks.take (j + 1))) := Lib.hid (by rw [take_kid hkq, needS_snoc])
          clear hkq xk
          go_wp2
          rw [HNS.out]
          exact ⟨⟨j + 1, val_succ j, hjl, rfl⟩, meas_lt hjl⟩
        · obtain rfl : j = ks.length := by omega
          rw [List.take_length] at HNB ⊢
          go_wp2_with fail
          go_loop [10, 45] (fun row x => ∃ j : Nat, x = .int .i64 (j : Int) ∧ j ≤ p.length ∧ row = .int .u64 (rowF l p k j : Nat)) (fun _ x => p.length - (intOf x).toNat)
          case atStart => exact ⟨0, rfl, Nat.zero_le _, rfl⟩
          case round =>
            obtain ⟨j, rfl, hj, rfl⟩ := hrel
            have HFB : Hid (B64 (rowF l p k j)) := Lib.hid (rowF_b64 l p k (by omega))
            by_cases hjl : j < p.length
            · obtain ⟨_, _, he, xj⟩ := (HP.out.below HB2.out).set (k := j) hjl
              cases he
              have e4 := u64_and_nat (needS l ks) (rowAt p j) HNB.out (HPB.out j)
              have HYES : Hid (rowB l p k j → rowF l p k (j + 1) = addN (rowF l p k j) j) := Lib.hid (fun h => by show (if _ then _ else _) = _; rw [if_pos h])
              have HNO : Hid (¬ rowB l p k j → rowF l p k (j + 1) = rowF l p k j) := Lib.hid (fun h => by show (if _ then _ else _) = _; rw [if_neg h])
              by_cases hjk : j = k
              · have hg : (((j : Nat) : Int) != ((k : Nat) : Int)) = false := by rw [hjk]; simp
                have HR := Lib.hid (HNO.out (fun h => h.1 hjk))
                clear hjk
                go_wp2
                exact ⟨⟨j + 1, val_succ j, hjl, by rw [HR.out]⟩, meas_lt hjl⟩
              · have hg : (((j : Nat) : Int) != ((k : Nat) : Int)) = true := by simp only [bne_iff_ne, ne_eq]; omega
                by_cases hz : needS l ks &&& rowAt p j = 0
                · have hz' : (((needS l ks &&& rowAt p j : Nat) : Int) != 0) = false := by rw [hz]; rfl
                  have HR := Lib.hid (HNO.out (fun h => (meets_need l _ _).2 h.2 (by rw [HKQ.out]; exact hz)))
                  clear hjk hz
                  go_wp2
                  exact ⟨⟨j + 1, val_succ j, hjl, by rw [HR.out]⟩, meas_lt hjl⟩
                · have hz' : (((needS l ks &&& rowAt p j : Nat) : Int) != 0) = true := by simp only [bne_iff_ne, ne_eq]; omega
                  have HR := Lib.hid (HYES.out ⟨hjk, by rw [HKQ.out]; exact (meets_need l _ _).1 hz⟩)
                  have e2 := or_raw (rowF l p k j) j HFB.out (by omega)
                  clear hjk hz
                  go_wp2
                  exact ⟨⟨j + 1, val_succ j, hjl, by rw [HR.out]⟩, meas_lt hjl⟩
            · obtain rfl : j = p.length := by omega
              have hsz2 := HB2.out.size
              go_wp2_with (at_builtin; refine wpList_push elU64 w2 _ _ w1.heap.size A' k c' _ (uv (rowF l p k p.length)) HOW2.out rfl hsz2 (by omega) (by omega) rfl rfl rfl rfl ?_; intro A5 c5 w5 hown5 hb5; have HO5 := Lib.hid hown5; have HB5 := Lib.hid (HB2.out.trans hb5); clear hown5 hb5)
              exact ⟨⟨k + 1, A5, c5, val_succ k, rfl, hlt, Lib.hid (by rw [HTR.out, List.map_append]; exact HO5.out), HB5⟩, meas_lt hlt⟩
    · obtain rfl : k = p.length := by omega
      go_wp2_with fail
      go_ret2
      refine ⟨A', c', rfl, ?_, HB1.out.trans (hbw.out.mono HB1.out.size)⟩
      have h := hown.out
      rw [List.take_of_length_le (by rw [foldedL_len]; exact Nat.le_refl _)] at h
      exact own_base h HB1.out.size
end Go.Proofs.YtonmkmghpiagjaaDoor
