/- The law WayTells: its walk: for every list of rows and two sets it returns true and leaves what was there. Conditions: sets below 2^64, a length below 2^63; the table of math/bits lies. -/
import Derived.Test.YtonmkmghpiagjaaDoorWay4
import Derived.Test.YtonmkmghpiagjaaDoorEqNv
namespace Go.Proofs.YtonmkmghpiagjaaDoor
open Go.RowKit

theorem meet_unique {l : List Nat} {a b m k : Nat} (h1 : Meet l a b m) (h2 : Meet l a b k) : m = k := by
  rcases Nat.lt_trichotomy m k with h | h | h
  · exact absurd (h2.2 m h) h1.1
  · exact h
  · exact absurd (h1.2 k h) h2.1
theorem meet_not {l : List Nat} {a b m : Nat} (h1 : Meet l a b m) (h2 : NoMeet l a b) : False := h1.1 (h2 m)
section
variable {A : Option Addr} {n c : Nat} (l : List Nat) (a b : Nat) (w : World) (h1 : Rd w A (l.map uv)) (hl : l.length = n) (hnb : n ≤ 9223372036854775807) (hb : Rows64 l) (ha : B64 a) (hbb : B64 b) (hT : Tab w) (hf : faultOf l [a, b] = 0)
include h1 hl hnb hb ha hbb hT hf
theorem some_meet {m : Nat} (hm : Meet l a b m) : Calls Tryd.prog 10 #[.slice A n c, .int .u64 a, .int .u64 b] w (SlErrPost 3 (m + 1) ((wayL l b m a).map nv) 0 w) :=
  (some_good l a b w h1 hl hnb hb ha hbb hT hf).mono fun e w' h => by
    rcases h with ⟨k, hk, hp⟩ | ⟨hno, _⟩
    · obtain rfl := meet_unique hm hk
      exact hp
    · exact (meet_not hm hno).elim
theorem some_none (hno : NoMeet l a b) : Calls Tryd.prog 10 #[.slice A n c, .int .u64 a, .int .u64 b] w fun e w' => e = .returned (.tuple #[.slice none 0 0, .int .i64 5]) ∧ Below w.heap.size w w' :=
  (some_good l a b w h1 hl hnb hb ha hbb hT hf).mono fun e w' h => by
    rcases h with ⟨k, hk, _⟩ | ⟨_, hp⟩
    · exact (meet_not hk hno).elim
    · exact hp
theorem far_meet {m : Nat} (hm : Meet l a b m) : Calls Tryd.prog 11 #[.slice A n c, .int .u64 a, .int .u64 b] w fun e w' => e = .returned (.tuple #[.int .i64 (m : Int), .int .i64 0]) ∧ Below w.heap.size w w' :=
  (far_good l a b w h1 hl hnb hb ha hbb hT hf).mono fun e w' h => by
    obtain ⟨h | h, hb⟩ := h
    · obtain ⟨k, hk, he⟩ := h
      obtain rfl := meet_unique hm hk
      exact ⟨he, hb⟩
    · exact (meet_not hm h.1).elim
theorem far_none (hno : NoMeet l a b) : Calls Tryd.prog 11 #[.slice A n c, .int .u64 a, .int .u64 b] w fun e w' => e = .returned (.tuple #[.int .i64 0, .int .i64 5]) ∧ Below w.heap.size w w' :=
  (far_good l a b w h1 hl hnb hb ha hbb hT hf).mono fun e w' h => by
    obtain ⟨h | h, hb⟩ := h
    · obtain ⟨k, hk, he⟩ := h
      exact (meet_not hk hno).elim
    · exact ⟨h.2, hb⟩
end
section
variable {A : Option Addr} {n c : Nat} (l : List Nat) (a b : Nat) (w : World) (h1 : Rd w A (l.map uv)) (hl : l.length = n) (hg : Good l) (ha : InRows l a) (hb : InRows l b)
include h1 hl hg ha hb
def FirstMeet (l : List Nat) (a b m : Nat) (w : World) (e : Ending) (w' : World) : Prop :=
  ∃ A c, e = .returned (.tuple #[.slice A (m + 1) c, .bool true]) ∧ w'.ownsRow w.heap.size 3 1 (.slice A (m + 1) c) (m + 1) ((wayL l b m a).map nv) ∧ Below w.heap.size w w'
theorem first_meet {m : Nat} (hm : Meet l a b m) : Calls Tryd.prog 13 #[.slice A n c, .int .u64 a, .int .u64 b] w (FirstMeet l a b m w) :=
  (rFirstWay_any l a b w h1 hl hg ha hb).mono fun e w' h => by
    rcases h with ⟨k, hk, ⟨A, c, he, hown⟩, hbw⟩ | ⟨hno, _⟩
    · obtain rfl := meet_unique hm hk
      exact ⟨A, c, he, hown, hbw⟩
    · exact (meet_not hm hno).elim
theorem first_none (hno : NoMeet l a b) : Calls Tryd.prog 13 #[.slice A n c, .int .u64 a, .int .u64 b] w fun e w' => e = .returned (.tuple #[.slice none 0 0, .bool false]) ∧ Below w.heap.size w w' :=
  (rFirstWay_any l a b w h1 hl hg ha hb).mono fun e w' h => by
    rcases h with ⟨k, hk, _⟩ | ⟨_, hp⟩
    · exact (meet_not hk hno).elim
    · exact hp
end

set_option maxRecDepth 100000 in
set_option maxHeartbeats 2000000 in
theorem wayTells_walk (A : Option Addr) (c : Nat) (l : List Nat) (a b : Nat) (w : World) (h1 : Rd w A (l.map uv)) (hnb : l.length ≤ 9223372036854775807) (hb0 : ∀ x ∈ l, B64 x) (ha : B64 a) (hbb : B64 b) (hT : Tab w) :
    Calls Tryd.prog 3 #[.slice A l.length c, .int .u64 a, .int .u64 b] w fun e w' => e = .returned (.bool true) ∧ Below w.heap.size w w' := by
  have hb := rowAt_all hb0
  have R2 := Lib.hid (rows2 ha hbb)
  have H1 := Lib.hid h1
  have HB := Lib.hid hb
  have HA := Lib.hid ha
  have HBB := Lib.hid hbb
  have HT := Lib.hid hT
  generalize hl : l.length = n at *
  have HL := Lib.hid hl
  by_cases hf : faultOf l [a, b] = 0
  · have hok := faultOf_ok hb (by
      intro x hx
      rcases List.mem_cons.1 hx with h | h
      · rw [h]; exact ha
      · rw [List.mem_singleton] at h; rw [h]; exact hbb) hf
    have HG := Lib.hid hok.1
    have HIA := Lib.hid (hok.2 a (by simp))
    have HIB := Lib.hid (hok.2 b (by simp))
    have HF := Lib.hid hf
    rcases meet_or l a b with ⟨m, hm⟩ | hno
    · have hmb : m ≤ 64 := Nat.le_trans (meet_le hok.1 (hok.2 b (by simp)) hm) hok.1.1
      have HM := Lib.hid hm
      have HWL : Hid ((wayL l b m a).length = m + 1) := Lib.hid (wayL_len l b m a)
      clear h1 hb hb0 ha hbb hT hl hf hok hm
      go_enter Tryd.func3, Tryd.ntmps3
      go_wp2_with fail
      refine (some_meet l a b _ H1.out HL.out hnb HB.out HA.out HBB.out HT.out HF.out HM.out).mono ?_
      rintro e w1 ⟨A1, c1, rfl, hown1, hb1⟩
      have HW := Lib.hid (Rd.of_own hown1)
      have B1 := Lib.hid hb1
      clear hown1 hb1
      go_wp2_with fail
      refine (far_meet l a b _ (H1.out.below B1.out) HL.out hnb HB.out HA.out HBB.out (HT.out.below B1.out) HF.out HM.out).mono ?_
      rintro e w2 ⟨rfl, hb2⟩
      have HW2 := Lib.hid (HW.out.below hb2)
      have B2 := Lib.hid (below_then B1.out hb2)
      clear hb2
      go_wp2_with fail
      refine (rRowsFault_any l [a, b] _ ((H1.out.below B2.out).alloc _) HL.out hnb HB.out (rd_lit _ _ _ _ _ rfl rfl) rfl (by simp) R2.out).mono ?_
      rintro e w3 ⟨rfl, hb3⟩
      have HW3 := Lib.hid ((HW2.out.alloc _).below hb3)
      have B3 := Lib.hid (below_then (below_new B2.out _) hb3)
      clear hb3
      rw [HF.out]
      go_wp2_with fail
      refine (first_meet l a b _ (H1.out.below B3.out) HL.out HG.out HIA.out HIB.out HM.out).mono ?_
      rintro e w4 ⟨A4, c4, rfl, hown4, hb4⟩
      have HW4 := Lib.hid (HW3.out.below hb4)
      have HV4 := Lib.hid (Rd.of_own hown4)
      have B4 := Lib.hid (below_then B3.out hb4)
      clear hown4 hb4
      go_wp2_with fail
      refine (slEq_nv (wayL l b m a) (wayL l b m a) HW4.out HV4.out HWL.out HWL.out (by omega) (by omega)).mono ?_
      rintro e w5 ⟨rfl, hb5⟩
      rw [decide_eq_true (rfl : wayL l b m a = wayL l b m a)]
      have B5 := Lib.hid (below_then B4.out hb5)
      clear hb5
      go_wp2_with fail
      go_ret
      exact ⟨rfl, B5.out⟩
    · have HN := Lib.hid hno
      clear h1 hb hb0 ha hbb hT hl hf hok hno
      go_enter Tryd.func3, Tryd.ntmps3
      go_wp2_with fail
      refine (some_none l a b _ H1.out HL.out hnb HB.out HA.out HBB.out HT.out HF.out HN.out).mono ?_
      rintro e w1 ⟨rfl, hb1⟩
      have B1 := Lib.hid hb1
      clear hb1
      go_wp2_with fail
      refine (far_none l a b _ (H1.out.below B1.out) HL.out hnb HB.out HA.out HBB.out (HT.out.below B1.out) HF.out HN.out).mono ?_
      rintro e w2 ⟨rfl, hb2⟩
      have B2 := Lib.hid (below_then B1.out hb2)
      clear hb2
      go_wp2_with fail
      refine (rRowsFault_any l [a, b] _ ((H1.out.below B2.out).alloc _) HL.out hnb HB.out (rd_lit _ _ _ _ _ rfl rfl) rfl (by simp) R2.out).mono ?_
      rintro e w3 ⟨rfl, hb3⟩
      have B3 := Lib.hid (below_then (below_new B2.out _) hb3)
      clear hb3
      rw [HF.out]
      go_wp2_with fail
      refine (first_none l a b _ (H1.out.below B3.out) HL.out HG.out HIA.out HIB.out HN.out).mono ?_
      rintro e w4 ⟨rfl, hb4⟩
      have B4 := Lib.hid (below_then B3.out hb4)
      clear hb4
      go_wp2_with fail
      go_ret
      exact ⟨rfl, B4.out⟩
  · have HF := Lib.hid hf
    have hz := fault_ne hf
    clear h1 hb hb0 ha hbb hT hl hf
    go_enter Tryd.func3, Tryd.ntmps3
    go_wp2_with fail
    refine (some_bad l a b _ H1.out HL.out hnb HB.out HA.out HBB.out HT.out HF.out).mono ?_
    rintro e w1 ⟨rfl, hb1⟩
    have B1 := Lib.hid hb1
    clear hb1
    go_wp2_with fail
    refine (far_bad l a b _ (H1.out.below B1.out) HL.out hnb HB.out HA.out HBB.out (HT.out.below B1.out) HF.out).mono ?_
    rintro e w2 ⟨rfl, hb2⟩
    have B2 := Lib.hid (below_then B1.out hb2)
    clear hb2
    go_wp2_with fail
    refine (rRowsFault_any l [a, b] _ ((H1.out.below B2.out).alloc _) HL.out hnb HB.out (rd_lit _ _ _ _ _ rfl rfl) rfl (by simp) R2.out).mono ?_
    rintro e w3 ⟨rfl, hb3⟩
    have B3 := Lib.hid (below_then (below_new B2.out _) hb3)
    clear hb3
    go_wp2_with fail
    go_ret
    exact ⟨rfl, B3.out⟩
end Go.Proofs.YtonmkmghpiagjaaDoor
