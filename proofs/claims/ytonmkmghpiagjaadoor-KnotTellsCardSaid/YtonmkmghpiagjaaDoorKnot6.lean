/- Contracts of the reference: IsWalk and IsRing at a ring. Rows are good. -/
import Derived.Test.YtonmkmghpiagjaaDoorKnotPlain3
import Derived.Test.YtonmkmghpiagjaaDoorKnotIx
import Derived.Test.YtonmkmghpiagjaaDoorReach5
import Derived.Test.YtonmkmghpiagjaaDoorQuiet
import Derived.BigQuiet
import Derived.Deep.QuietTactic
namespace Go.Proofs.YtonmkmghpiagjaaDoor
open Go.RowKit

theorem rd_nat {w : World} {A : Option Addr} {L : List Nat} {j x : Nat} (h : Rd w A (L.map nv)) (hj : L[j]? = some x) : ∃ b o, A = some ⟨b, o, none⟩ ∧ w.cell? ⟨b, o + j, none⟩ = some (.int .i64 (x : Int)) := by
  have hlt : j < L.length := by
    rcases Nat.lt_or_ge j L.length with h1 | h1
    · exact h1
    · rw [List.getElem?_eq_none h1] at hj; cases hj
  obtain ⟨b, o, hA, hc⟩ := h.at_ (k := j) (by simpa using hlt)
  refine ⟨b, o, hA, ?_⟩
  rw [hc, List.getElem_map]
  rw [List.getElem?_eq_getElem hlt] at hj
  injection hj with hj
  rw [hj]
  rfl
theorem rIsWalk_any {A D : Option Addr} {n c m cd : Nat} (l d : List Nat) (w : World) (h1 : Rd w A (l.map uv)) (hd : Rd w D (d.map nv)) (hl : l.length = n) (hm : d.length = m) (hmb : m ≤ 9223372036854775807) (hg : Good l) (hr : IsRg l d) :
    Calls Tryd.prog 20 #[.slice A n c, .slice D m cd] w fun e w' => e = .returned (.bool true) ∧ w = w' := by
  have hn : n ≤ 64 := by have := hg.1; omega
  have H1 := Lib.hid h1
  have HD := Lib.hid hd
  have HL := Lib.hid hl
  have HM := Lib.hid hm
  have HG := Lib.hid hg
  have HR := Lib.hid hr
  have hpos : 0 < m := by have := hr.pos; omega
  clear h1 hd hl hm hg hr
  go_enter Tryd.func20, Tryd.ntmps20
  go_wp2_with fail
  go_loop [9] (fun i => ∃ j : Nat, i = .int .i64 (j : Int) ∧ j ≤ m) (fun i => m - (intOf i).toNat)
  case atStart => exact ⟨0, rfl, Nat.zero_le _⟩
  case round =>
    obtain ⟨j, rfl, hj⟩ := hrel
    by_cases hlt : j < m
    · obtain ⟨x, hx⟩ : ∃ x, d[j]? = some x := ⟨d[j]'(by rw [HM.out]; exact hlt), List.getElem?_eq_getElem (by rw [HM.out]; exact hlt)⟩
      obtain ⟨bD, oD, rfl, xc⟩ := rd_nat HD.out hx
      have hxn : x < n := by rw [← HL.out]; exact HR.out.lt x (List.mem_of_getElem? hx)
      have hx0 : ¬ ((x : Int) < 0) := by omega
      have hx1 : ¬ ((n : Int) ≤ (x : Int)) := by omega
      have HX := Lib.hid hx
      clear hx
      cases j with
      | zero =>
        rw [Nat.add_zero] at xc
        go_wp2_with fail
        exact ⟨⟨1, rfl, hlt⟩, meas_lt hlt⟩
      | succ q =>
        obtain ⟨y, hy⟩ : ∃ y, d[q]? = some y := ⟨d[q]'(by rw [HM.out]; omega), List.getElem?_eq_getElem (by rw [HM.out]; omega)⟩
        obtain ⟨_, _, he, yc⟩ := rd_nat HD.out hy
        cases he
        have hyn : y < n := by rw [← HL.out]; exact HR.out.lt y (List.mem_of_getElem? hy)
        have HE : Hid ((rowAt l y).testBit x = true) := Lib.hid (HR.out.ed q y x hy HX.out)
        obtain ⟨bR, oR, rfl, rc⟩ := H1.out.set (k := y) (by rw [HL.out]; exact hyn)
        clear hy
        go_wp2_with fail
        refine (in_nat (rowAt l y) (HG.out.b64 y) x w).mono ?_
        rintro e w' ⟨rfl, rfl⟩
        rw [HE.out]
        go_wp2_with fail
        exact ⟨⟨q + 1 + 1, val_succ (q + 1), hlt⟩, meas_lt hlt⟩
    · obtain rfl : j = m := by omega
      have hp : (0 : Int) < (j : Int) := by omega
      go_wp2_with fail
      go_ret
      exact ⟨rfl, rfl⟩
theorem rIsRing_any {A D : Option Addr} {n c m cd : Nat} (l d : List Nat) (w : World) (h1 : Rd w A (l.map uv)) (hd : Rd w D (d.map nv)) (hl : l.length = n) (hm : d.length = m) (hmb : m ≤ 9223372036854775807) (hg : Good l) (hr : IsRg l d) (hcd : m ≤ cd) :
    Calls Tryd.prog 62 #[.slice A n c, .slice D m cd] w fun e w' => e = .returned (.bool true) ∧ ∃ q, w' = w.drewN q := by
  have hn : n ≤ 64 := by have := hg.1; omega
  have H1 := Lib.hid h1
  have HD := Lib.hid hd
  have HL := Lib.hid hl
  have HM := Lib.hid hm
  have HG := Lib.hid hg
  have HR := Lib.hid hr
  have hpos : 0 < m := by have := hr.pos; omega
  obtain ⟨y, hy⟩ : ∃ y, d[d.length - 1]? = some y := ⟨d[d.length - 1]'(by omega), List.getElem?_eq_getElem (by omega)⟩
  obtain ⟨x, hx⟩ : ∃ x, d[0]? = some x := ⟨d[0]'(by omega), List.getElem?_eq_getElem (by omega)⟩
  obtain ⟨bD, oD, rfl, xc⟩ := rd_nat hd hx
  obtain ⟨_, _, he, yc⟩ := rd_nat hd hy
  cases he
  rw [hm] at yc
  have hyn : y < n := by rw [← hl]; exact hr.lt y (List.mem_of_getElem? hy)
  have HE : Hid ((rowAt l y).testBit x = true) := Lib.hid (hr.cl y x hy hx)
  obtain ⟨bR, oR, rfl, rc⟩ := h1.set (k := y) (by rw [hl]; exact hyn)
  rw [Nat.add_zero] at xc
  clear h1 hd hl hm hg hr hy hx
  go_enter Tryd.func62, Tryd.ntmps62
  go_wp2_with fail
  go_quiet ((first
    | (go_at_call 20; exact quiet_left (rIsWalk_any l d _ (H1.out.drewN _) (HD.out.drewN _) HL.out HM.out hmb HG.out HR.out))
    | (go_at_call 17; exact quiet_left ((in_nat (rowAt l y) (HG.out.b64 y) x _).mono (fun _ _ hh => ⟨by rw [hh.1, HE.out], hh.2⟩)))))
  have HDq := Lib.hid (HD.out.drewN nq)
  have HQ : Hid (∃ q, w.drewN nq = w.drewN q) := Lib.hid ⟨nq, rfl⟩
  clear xc yc rc
  generalize w.drewN nq = wq at HDq HQ ⊢
  go_wp2_with fail
  go_loop [31] (fun i => ∃ j : Nat, i = .int .i64 (j : Int) ∧ j ≤ m) (fun i => m - (intOf i).toNat)
  case atStart => exact ⟨0, rfl, Nat.zero_le _⟩
  case round =>
    obtain ⟨j, rfl, hj⟩ := hrel
    by_cases hlt : j < m
    · obtain ⟨x, hx⟩ : ∃ x, d[j]? = some x := ⟨d[j]'(by rw [HM.out]; exact hlt), List.getElem?_eq_getElem (by rw [HM.out]; exact hlt)⟩
      obtain ⟨_, _, he, xc⟩ := rd_nat HDq.out hx
      cases he
      have HX := Lib.hid hx
      clear hx
      go_wp2_with fail
      go_loop [40] (fun i => ∃ q : Nat, i = .int .i64 (q : Int) ∧ q ≤ j) (fun i => j - (intOf i).toNat)
      case atStart => exact ⟨0, rfl, Nat.zero_le _⟩
      case round =>
        obtain ⟨q, rfl, hq⟩ := hrel
        by_cases hql : q < j
        · obtain ⟨z, hz⟩ : ∃ z, d[q]? = some z := ⟨d[q]'(by rw [HM.out]; omega), List.getElem?_eq_getElem (by rw [HM.out]; omega)⟩
          obtain ⟨_, _, he, zc⟩ := rd_nat HDq.out hz
          cases he
          have hne : (((z : Nat) : Int) == ((x : Nat) : Int)) = false := by
            simp only [beq_eq_false_iff_ne, ne_eq]
            intro e
            have e' : z = x := by omega
            subst e'
            have h1 := HX.out
            rw [List.getElem?_eq_getElem (by rw [HM.out]; exact hlt)] at h1
            rw [List.getElem?_eq_getElem (by rw [HM.out]; omega)] at hz
            injection h1 with h1
            injection hz with hz
            exact (List.pairwise_iff_getElem.1 HR.out.nd) q j (by rw [HM.out]; omega) (by rw [HM.out]; exact hlt) hql (by rw [h1, hz])
          clear hz
          go_wp2_with fail
          exact ⟨⟨q + 1, val_succ q, hql⟩, meas_lt hql⟩
        · obtain rfl : q = j := by omega
          go_wp2_with fail
          exact ⟨⟨q + 1, val_succ q, hlt⟩, meas_lt hlt⟩
    · obtain rfl : j = m := by omega
      go_wp2_with fail
      go_ret
      exact ⟨rfl, HQ.out⟩
end Go.Proofs.YtonmkmghpiagjaaDoor
