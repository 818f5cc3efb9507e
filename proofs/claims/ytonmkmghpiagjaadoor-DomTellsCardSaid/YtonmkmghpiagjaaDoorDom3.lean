/- Contract: dom.check. Lengths below 2^63. -/
import Derived.Test.YtonmkmghpiagjaaDoorDomPlain
import Derived.Test.YtonmkmghpiagjaaDoorReach1
namespace Go.Proofs.YtonmkmghpiagjaaDoor
open Go.RowKit

/-- A number that has a row. -/
def inRg (n : Nat) (z : Int) : Bool := decide (0 ≤ z) && decide (z < n)
/-- What dom.check says. -/
def domErr (l : List Nat) (zs : List Int) : Int := if faultOf l [] = 0 then (if zs.all (inRg l.length) then 0 else 4) else faultOf l []
theorem rg_yes {n : Nat} {zs : List Int} (h : ∀ j, j < zs.length → inRg n (zs[j]?.getD 0) = true) : zs.all (inRg n) = true := List.all_eq_true.2 fun z hz => by
  obtain ⟨j, hj⟩ := List.mem_iff_getElem?.1 hz
  have := h j (List.getElem?_eq_some_iff.1 hj).1
  rw [hj] at this
  exact this
theorem rg_no {n j : Nat} {zs : List Int} (hj : j < zs.length) (h : inRg n (zs[j]?.getD 0) = false) : zs.all (inRg n) = false := by
  rw [Bool.eq_false_iff]
  intro ha
  have := List.all_eq_true.1 ha _ (List.getElem_mem hj)
  rw [List.getElem?_eq_getElem hj] at h
  simp only [Option.getD_some] at h
  rw [h] at this
  cases this

set_option maxHeartbeats 1000000 in
theorem dCheck_any {A A2 : Option Addr} {n c m c2 : Nat} (l : List Nat) (zs : List Int) (w : World) (h1 : Rd w A (l.map uv)) (hl : l.length = n) (hnb : n ≤ 9223372036854775807) (hb : Rows64 l)
    (h2 : Rd w A2 (zs.map (.int .i64))) (hm : zs.length = m) (hmb : m ≤ 9223372036854775807) :
    Calls Tryd.prog 86 #[.slice A n c, .slice A2 m c2] w fun e w' => e = .returned (.int .i64 (domErr l zs)) ∧ w = w' := by
  have HC := Lib.hid (pCheck_any (c := c) l w h1 hl hnb hb)
  have HL := Lib.hid hl
  have HM := Lib.hid hm
  have H2 := Lib.hid h2
  clear h1 hl hb h2 hm
  by_cases hf : faultOf l [] = 0
  · have HD : Hid (domErr l zs = if zs.all (inRg n) then 0 else 4) := Lib.hid (by unfold domErr; rw [if_pos hf, HL.out])
    have HF := Lib.hid hf
    clear hf
    go_enter Tryd.func86, Tryd.ntmps86
    go_wp2_with fail
    refine HC.out.mono ?_
    rintro e w' ⟨rfl, rfl⟩
    rw [HF.out]
    go_wp2_with fail
    go_loop [7, 15] (fun _ i => ∃ k : Nat, k ≤ m ∧ i = .int .i64 (k : Int) ∧ Hid (∀ j, j < k → inRg n (zs[j]?.getD 0) = true)) (fun _ i => m - (intOf i).toNat)
    case atStart => exact ⟨0, by omega, rfl, Lib.hid (fun _ hj => absurd hj (Nat.not_lt_zero _))⟩
    case round =>
      obtain ⟨k, hk, rfl, hall⟩ := hrel
      by_cases hlt : k < m
      · obtain ⟨b, o, rfl, e1⟩ := H2.out.int (k := k) (by rw [HM.out]; exact hlt)
        have HNO := Lib.hid (fun h => rg_no (n := n) (zs := zs) (j := k) (by rw [HM.out]; exact hlt) h)
        have HYES : Hid (inRg n (zs[k]?.getD 0) = true → ∀ j, j < k + 1 → inRg n (zs[j]?.getD 0) = true) := Lib.hid (fun h j hj => by
          rcases Nat.lt_or_ge j k with h' | h'
          · exact hall.out j h'
          · obtain rfl : j = k := by omega
            exact h)
        clear hall
        generalize zs[k]?.getD 0 = z at *
        by_cases h0 : z < 0
        · have HE : Hid (4 = domErr l zs) := Lib.hid (by rw [HD.out, HNO.out (by unfold inRg; simp; omega)]; rfl)
          go_wp2_with fail
          go_ret
          exact ⟨ret_int HE.out, rfl⟩
        · by_cases h3 : (n : Int) ≤ z
          · have HE : Hid (4 = domErr l zs) := Lib.hid (by rw [HD.out, HNO.out (by unfold inRg; simp; omega)]; rfl)
            go_wp2_with fail
            go_ret
            exact ⟨ret_int HE.out, rfl⟩
          · have HY := Lib.hid (HYES.out (by unfold inRg; simp; omega))
            go_wp2_with fail
            go_round
            case rel => exact ⟨k + 1, by omega, by go_num, HY⟩
            case measure => simp [intOf]; omega
      · have HE : Hid (0 = domErr l zs) := Lib.hid (by rw [HD.out, rg_yes (fun j hj => hall.out j (by have := HM.out; omega))]; rfl)
        go_wp2_with fail
        go_ret
        exact ⟨ret_int HE.out, rfl⟩
  · have HD : Hid (faultOf l [] = domErr l zs) := Lib.hid (by unfold domErr; rw [if_neg hf])
    have hz : (faultOf l [] != 0) = true := by simp [hf]
    clear hf
    go_enter Tryd.func86, Tryd.ntmps86
    go_wp2_with fail
    refine HC.out.mono ?_
    rintro e w' ⟨rfl, rfl⟩
    go_wp2_with fail
    go_ret
    exact ⟨ret_int HD.out, rfl⟩
end Go.Proofs.YtonmkmghpiagjaaDoor
