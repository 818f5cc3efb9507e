/- Contracts of package way: rings, Far, Some, at good rows and at faults. Sets are below 2^64; the table of math/bits lies. -/
import Derived.Test.YtonmkmghpiagjaaDoorWayPlain2
import Derived.Test.YtonmkmghpiagjaaDoorReach6
namespace Go.Proofs.YtonmkmghpiagjaaDoor
open Go.RowKit

theorem faultOf_good {l sets : List Nat} (hg : Good l) (hs : ∀ s ∈ sets, InRows l s) : faultOf l sets = 0 := by
  unfold faultOf
  rw [if_neg (by have := hg.1; omega), if_pos]
  rw [List.all_eq_true]
  intro x hx
  have hx' : ∀ j, x.testBit j = true → j < l.length := by
    rcases List.mem_append.1 hx with h | h
    · obtain ⟨i, hi, rfl⟩ := List.mem_iff_getElem.1 h
      intro j hj
      refine hg.2 i j ?_
      unfold rowAt
      simpa [hi] using hj
    · exact hs x h
  exact (inU_iff hg.1 (B64.of_bits fun j hj => Nat.lt_of_lt_of_le (hx' j hj) hg.1)).2 hx'
theorem rings_bad {A : Option Addr} {n c : Nat} (l : List Nat) (a b : Nat) (w : World) (h1 : Rd w A (l.map uv)) (hl : l.length = n) (hnb : n ≤ 9223372036854775807) (hb : Rows64 l) (ha : B64 a) (hbb : B64 b) (hT : Tab w) (hf : faultOf l [a, b] ≠ 0) :
    Calls Tryd.prog 63 #[.slice A n c, .int .u64 a, .int .u64 b] w fun e w' => e = .returned (.tuple #[.slice none 0 0, .int .i64 (faultOf l [a, b])]) ∧ Below w.heap.size w w' := by
  have H1 := Lib.hid h1
  have HL := Lib.hid hl
  have HB := Lib.hid hb
  have HT := Lib.hid hT
  by_cases h0 : faultOf l [] = 0
  · have hfo := (fault_or hb ha hbb h0).1
    have hz : minus (a ||| b) (upTo n) ≠ 0 := fun h => hf (hfo.1 (by rw [hl]; exact h))
    have HF : Hid (faultOf l [a, b] = 4) := Lib.hid ((fault_or hb ha hbb h0).2.1 (by rw [hl]; exact hz))
    have hn : n ≤ 64 := by have := (faultOf_zero (sets := []) h0).2; omega
    have e1 := u64_or_nat a b ha hbb
    have e2 := minus_raw (a ||| b) (upTo n) (ha.or hbb) (upTo_b64 hn)
    have hz' : (((minus (a ||| b) (upTo n) : Nat) : Int) != 0) = true := by simp; omega
    have H0 := Lib.hid h0
    clear h1 hl hb hT hf h0 ha hbb hfo hz
    go_enter Tryd.func63, Tryd.ntmps63
    go_wp2_with fail
    refine (pBack_good l _ H1.out HL.out hnb HB.out H0.out HT.out).mono ?_
    rintro e w1 ⟨A1, c1, rfl, hown, hb1⟩
    go_wp2_with fail
    refine (pBelow_yes _ (by omega) (by omega) _).mono ?_
    rintro e w' ⟨rfl, rfl⟩
    rw [Int.toNat_natCast]
    go_wp2_with fail
    go_ret2
    exact ⟨by rw [HF.out]; rfl, hb1⟩
  · have E2 := Lib.hid (fault_more h0 [a, b])
    have H0 := Lib.hid h0
    have hz := fault_ne h0
    clear h1 hl hb hT hf h0 ha hbb
    go_enter Tryd.func63, Tryd.ntmps63
    go_wp2_with fail
    refine (pBack_bad l _ H1.out HL.out hnb HB.out H0.out).mono ?_
    rintro e w' ⟨rfl, rfl⟩
    go_wp2_with fail
    go_ret2
    exact ⟨by rw [E2.out]; rfl, Below.refl _ _⟩

/-- What rings answers: the rings up to the first that meets a, or that there is none. -/
def RingsPost (l : List Nat) (a b : Nat) (w : World) (e : Ending) (w' : World) : Prop :=
  (∃ m, Meet l a b m ∧ SlErrPost 23 (m + 1) ((rings l b m).map uv) 0 w e w') ∨ (NoMeet l a b ∧ e = .returned (.tuple #[.slice none 0 0, .int .i64 5]) ∧ Below w.heap.size w w')
set_option maxHeartbeats 1000000 in
theorem rings_good {A : Option Addr} {n c : Nat} (l : List Nat) (a b : Nat) (w : World) (h1 : Rd w A (l.map uv)) (hl : l.length = n) (hnb : n ≤ 9223372036854775807) (hb : Rows64 l) (ha : B64 a) (hbb : B64 b) (hT : Tab w) (hf : faultOf l [a, b] = 0) :
    Calls Tryd.prog 63 #[.slice A n c, .int .u64 a, .int .u64 b] w (RingsPost l a b w) := by
  have H1 := Lib.hid h1
  have HL := Lib.hid hl
  have HB := Lib.hid hb
  have HT := Lib.hid hT
  have hok := faultOf_ok hb (by
    intro x hx
    rcases List.mem_cons.1 hx with h | h
    · rw [h]; exact ha
    · rw [List.mem_singleton] at h; rw [h]; exact hbb) hf
  have HG := Lib.hid hok.1
  have HIA := Lib.hid (hok.2 a (by simp))
  have HIB := Lib.hid (hok.2 b (by simp))
  have HBA := Lib.hid ha
  have HBB := Lib.hid hbb
  have h0 : faultOf l [] = 0 := by
    apply Classical.byContradiction
    intro h
    have := fault_more h [a, b]
    rw [hf] at this
    exact h this.symm
  have hz := (fault_or hb ha hbb h0).1.2 hf
  rw [hl] at hz
  have hn : n ≤ 64 := by have := hok.1.1; omega
  have e1 := u64_or_nat a b ha hbb
  have e2 := minus_raw (a ||| b) (upTo n) (ha.or hbb) (upTo_b64 hn)
  rw [hz] at e2
  have e2' : bits .andNot .u64 ((a ||| b : Nat) : Int) ((upTo n : Nat) : Int) = 0 := e2
  have H0 := Lib.hid h0
  have HTL : Hid ((turned l).length = n) := Lib.hid (by rw [turned_len, hl])
  have HTG := Lib.hid (turned_good hok.1)
  have HTF : Hid (faultOf (turned l) [b] = 0) := Lib.hid (faultOf_good (turned_good hok.1) (by
    intro s hs
    rw [List.mem_singleton] at hs
    rw [hs]
    exact turned_in (hok.2 b (by simp))))
  have HRB := Lib.hid (fun k => ((ring_in hok.1 (hok.2 b (by simp)) k).b64 hok.1))
  have HRL := Lib.hid (fun k => nums_len (ring l b k))
  have HGR := Lib.hid (fun k h => ring_grows hok.1 (hok.2 b (by simp)) k h)
  clear h1 hl hb hT hf hok ha hbb h0 hz e2
  go_enter Tryd.func63, Tryd.ntmps63
  go_wp2_with fail
  refine (pBack_good l _ H1.out HL.out hnb HB.out H0.out HT.out).mono ?_
  rintro e w1 ⟨A1, c1, rfl, hown, hb1⟩
  have HR1 := Lib.hid (Rd.of_own hown)
  have HB1 := Lib.hid hb1
  clear hown hb1
  go_wp2_with fail
  refine (pBelow_yes _ (by omega) (by omega) _).mono ?_
  rintro e w' ⟨rfl, rfl⟩
  rw [Int.toNat_natCast]
  go_wp2_with fail
  go_loopw [12, 13, 14, 15] (fun v d _ _ wr => ∃ k A2 c2, k ≤ 64 ∧ v = .slice A2 (k + 1) c2 ∧ d = .int .i64 ((k : Int) + 1) ∧ Hid (wr.ownsRow w1.heap.size 23 1 (.slice A2 (k + 1) c2) (k + 1) ((rings l b k).map uv)) ∧ Hid (∀ j, j < k → a &&& ring l b j = 0) ∧ Hid (k ≤ (nums (ring l b k)).length) ∧ Hid (Below w1.heap.size w1 wr)) (fun _ d _ _ _ => 66 - (intOf d).toNat)
  case atStart =>
    have hlit := World.ownsRow_lit (base := w1.heap.size) (e := 23) (size := 1) w1 #[.int .u64 b] 1 (Nat.le_refl _) (by unfold maxLen; decide) rfl
    exact ⟨0, _, _, by omega, rfl, rfl, Lib.hid hlit, Lib.hid (fun j hj => absurd hj (by omega)), Lib.hid (by omega), Lib.hid (below_new (Below.refl _ _) _)⟩
  case round =>
    obtain ⟨k, A2, c2, hk, rfl, rfl, hown, hzz, hgr, hbw⟩ := hrel
    obtain ⟨b2, o2, rfl, x1⟩ := (Rd.of_own hown.out).set (k := k) (by rw [rings_len]; omega)
    rw [rings_at l b k k (Nat.le_refl _)] at x1
    have e3 := u64_and_nat (ring l b k) a (HRB.out k) HBA.out
    have hcomm : ring l b k &&& a = a &&& ring l b k := Nat.and_comm _ _
    rw [hcomm] at e3
    clear hcomm
    by_cases hm : a &&& ring l b k = 0
    · rw [hm] at e3
      have e3' : bits .and .u64 ((ring l b k : Nat) : Int) (a : Int) = 0 := e3
      have HM := Lib.hid hm
      have HTW := Lib.hid ((HT.out.below HB1.out).below hbw.out)
      have HRW := Lib.hid (HR1.out.below hbw.out)
      have HRD : Hid (reachD (turned l) b ((k : Int) + 1) = ring l b (k + 1)) := Lib.hid (reachD_all (l := turned l) (s := b) (k := k + 1) (by omega))
      clear hm e3
      go_wp2_with fail
      refine (pWithin_good (turned l) b _ _ HRW.out HTL.out hnb HTG.out.b64 HBB.out HTF.out (by omega) (by omega) HTW.out).mono ?_
      rintro e w2 ⟨rfl, hb2⟩
      rw [HRD.out]
      have HO2 := Lib.hid (own_below hown.out hb2)
      have x2 := (hb2.cell (p := ⟨b2, o2 + k, none⟩) (lt_of_cell' x1)).trans x1
      have HB2 := Lib.hid (below_then hbw.out hb2)
      have hsz : w1.heap.size ≤ w2.heap.size := HB2.out.size
      clear hb2 x1 hown
      by_cases hq : ring l b (k + 1) = ring l b k
      · have HN : Hid (NoMeet l a b) := Lib.hid (ring_stable hq (fun j hj => by
          rcases Nat.lt_or_ge j k with h | h
          · exact hzz.out j h
          · obtain rfl : j = k := by omega
            exact HM.out))
        have hq' : (((ring l b (k + 1) : Nat) : Int) == ((ring l b k : Nat) : Int)) = true := by simp [hq]
        clear hq
        go_wp2_with fail
        go_ret2
        exact .inr ⟨HN.out, rfl, below_then HB1.out HB2.out⟩
      · have hq' : (((ring l b (k + 1) : Nat) : Int) == ((ring l b k : Nat) : Int)) = false := by simp; omega
        have HZ2 : Hid (∀ j, j < k + 1 → a &&& ring l b j = 0) := Lib.hid (fun j hj => by
          rcases Nat.lt_or_ge j k with h | h
          · exact hzz.out j h
          · obtain rfl : j = k := by omega
            exact HM.out)
        have HG2 : Hid (k + 1 ≤ (nums (ring l b (k + 1))).length) := Lib.hid (by
          have h3 := HGR.out k hq
          have h4 := hgr.out
          omega)
        have hk2 : k + 1 ≤ 64 := Nat.le_trans HG2.out (HRL.out (k + 1))
        have HSN := Lib.hid (rings_snoc l b k)
        clear hq
        go_wp2_with (at_builtin; refine wpList_push elU64 w2 _ _ w1.heap.size _ (k + 1) c2 _ (uv (ring l b (k + 1))) HO2.out rfl hsz (by omega) (by omega) rfl rfl rfl rfl ?_; intro A' c' w3 hown3 hb3)
        go_roundw
        case rel => exact ⟨k + 1, A', c', by omega, rfl, by go_num, Lib.hid (by rw [HSN.out, List.map_append]; exact hown3), HZ2, HG2, Lib.hid (HB2.out.trans hb3)⟩
        case measure => simp [intOf]; omega
    · have hm' : (((a &&& ring l b k : Nat) : Int) == 0) = false := by simp; omega
      have HM : Hid (Meet l a b k) := Lib.hid ⟨hm, hzz.out⟩
      clear hm
      go_wp2_with fail
      go_ret2
      exact .inl ⟨k, HM.out, _, _, rfl, own_base hown.out HB1.out.size, below_then HB1.out hbw.out⟩
end Go.Proofs.YtonmkmghpiagjaaDoor
