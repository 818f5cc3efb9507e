/- Contract: cost.check. The table of math/bits lies. -/
import Derived.Test.YtonmkmghpiagjaaDoorCost1
namespace Go.Proofs.YtonmkmghpiagjaaDoor
open Go.RowKit

section
variable {A A2 : Option Addr} {n c m c2 : Nat} (l : List Nat) (d : List UInt64) (w : World) (h1 : Rd w A (l.map uv)) (hl : l.length = n) (hnb : n ≤ 9223372036854775807) (hb : Rows64 l) (h2 : Rd w A2 (d.map fv)) (hm : d.length = m) (hmb : m ≤ 9223372036854775807) (hT : Tab w)
include h1 hl hnb hb h2 hm hmb hT
set_option maxHeartbeats 1000000 in
theorem cCheck_bad (he : costErr l d ≠ 0) :
    Calls Tryd.prog 75 #[.slice A n c, .slice A2 m c2] w fun e w' => e = .returned (.tuple #[.slice none 0 0, .int .i64 (costErr l d)]) ∧ Below w.heap.size w w' := by
  have HC := Lib.hid (pCheck_any (c := c) l w h1 hl hnb hb)
  have HF := Lib.hid (containsFunc_any (c := c2) d w h2 hm hmb)
  have HO := Lib.hid (fun hf hr => pOrder_cyc (c := c) l w h1 hl hnb hb hf hT hr)
  have HL := Lib.hid hl
  have HM := Lib.hid hm
  clear h1 hl hb h2 hm hT
  by_cases hf : faultOf l [] = 0
  · by_cases hlen : m = n
    · cases hq : d.any wrongT with
      | true =>
        have HE : Hid (costErr l d = 1) := Lib.hid (by unfold costErr; rw [if_neg (by simp [hf]), if_pos (.inr hq)])
        have HF0 := Lib.hid hf
        have HQ := Lib.hid hq
        clear hf hq he
        subst hlen
        go_enter Tryd.func75, Tryd.ntmps75
        go_wp2_with fail
        refine HC.out.mono ?_
        rintro e w' ⟨rfl, rfl⟩
        rw [HF0.out]
        go_wp2_with fail
        refine HF.out.mono ?_
        rintro e w' ⟨rfl, rfl⟩
        rw [HQ.out]
        go_wp2_with fail
        go_ret2
        exact ⟨by rw [HE.out]; rfl, Below.refl _ _⟩
      | false =>
        have hr : ordR l ≠ 0 := fun hr => he (by unfold costErr; rw [if_neg (by simp [hf]), if_neg (by rw [HL.out, HM.out, hq]; simp [hlen]), if_neg (by simp [hr])])
        have HE : Hid (costErr l d = 8) := Lib.hid (by unfold costErr; rw [if_neg (by simp [hf]), if_neg (by rw [HL.out, HM.out, hq]; simp [hlen]), if_pos hr])
        have HOC := Lib.hid (HO.out hf hr)
        have HF0 := Lib.hid hf
        have HQ := Lib.hid hq
        clear hf hq he hr HO
        subst hlen
        go_enter Tryd.func75, Tryd.ntmps75
        go_wp2_with fail
        refine HC.out.mono ?_
        rintro e w' ⟨rfl, rfl⟩
        rw [HF0.out]
        go_wp2_with fail
        refine HF.out.mono ?_
        rintro e w' ⟨rfl, rfl⟩
        rw [HQ.out]
        go_wp2_with fail
        refine HOC.out.mono ?_
        rintro e w1 ⟨rfl, hb1⟩
        go_wp2_with fail
        go_ret2
        exact ⟨by rw [HE.out]; rfl, hb1⟩
    · have HE : Hid (costErr l d = 1) := Lib.hid (by unfold costErr; rw [if_neg (by simp [hf]), if_pos (.inl (by rw [HL.out, HM.out]; exact hlen))])
      have hmn : ((m : Int) != (n : Int)) = true := by simp; omega
      have HF0 := Lib.hid hf
      clear hf he hlen
      go_enter Tryd.func75, Tryd.ntmps75
      go_wp2_with fail
      refine HC.out.mono ?_
      rintro e w' ⟨rfl, rfl⟩
      rw [HF0.out]
      go_wp2_with fail
      go_ret2
      exact ⟨by rw [HE.out]; rfl, Below.refl _ _⟩
  · have HE : Hid (costErr l d = faultOf l []) := Lib.hid (by unfold costErr; rw [if_pos hf])
    have hz := fault_ne hf
    clear hf he
    go_enter Tryd.func75, Tryd.ntmps75
    go_wp2_with fail
    refine HC.out.mono ?_
    rintro e w' ⟨rfl, rfl⟩
    go_wp2_with fail
    go_ret2
    exact ⟨by rw [HE.out]; rfl, Below.refl _ _⟩
theorem cCheck_good (he : costErr l d = 0) :
    Calls Tryd.prog 75 #[.slice A n c, .slice A2 m c2] w (SlErrPost 3 n ((ordL l).map nv) 0 w) := by
  obtain ⟨hg, hdl, _, hr, hf⟩ := cost_ok hb he
  have hlen : m = n := by omega
  have hq : d.any wrongT = false := by
    unfold costErr at he
    rw [if_neg (by simp [hf])] at he
    by_cases h : d.length ≠ l.length ∨ d.any wrongT = true
    · rw [if_pos h] at he; cases he
    · cases hq : d.any wrongT with
      | false => rfl
      | true => exact absurd (.inr hq) h
  have HC := Lib.hid (pCheck_any (c := c) l w h1 hl hnb hb)
  have HF := Lib.hid (containsFunc_any (c := c2) d w h2 hm hmb)
  have HO := Lib.hid (pOrder_good (c := c) l w h1 hl hnb hb hf hT hr)
  have HF0 := Lib.hid hf
  have HQ := Lib.hid hq
  clear h1 hl hb h2 hm hT hf hq he hg hdl hr
  subst hlen
  go_enter Tryd.func75, Tryd.ntmps75
  go_wp2_with fail
  refine HC.out.mono ?_
  rintro e w' ⟨rfl, rfl⟩
  rw [HF0.out]
  go_wp2_with fail
  refine HF.out.mono ?_
  rintro e w' ⟨rfl, rfl⟩
  rw [HQ.out]
  go_wp2_with fail
  refine HO.out.mono ?_
  rintro e w1 ⟨A1, c1, rfl, hown, hb1⟩
  have HOW := Lib.hid hown
  clear hown
  go_wp2_with fail
  go_ret2
  exact ⟨_, _, rfl, HOW.out, hb1⟩
end
end Go.Proofs.YtonmkmghpiagjaaDoor
