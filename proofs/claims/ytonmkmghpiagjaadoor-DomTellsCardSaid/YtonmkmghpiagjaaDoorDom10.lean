/- Contract: the closure of the law DomTells that tells a fault. Lengths below 2^63. -/
import Derived.Test.YtonmkmghpiagjaaDoorDom3
import Derived.Test.YtonmkmghpiagjaaDoorQuiet
namespace Go.Proofs.YtonmkmghpiagjaaDoor
open Go.RowKit

set_option maxHeartbeats 1000000 in
theorem ranged_any {A A2 : Option Addr} {E F n c m c2 : Nat} (l : List Nat) (zs : List Int) (w : World) (hE : w.cell? ⟨E, 0, none⟩ = some (.int .i64 (faultOf l []))) (hF : w.cell? ⟨F, 0, none⟩ = some (.slice A n c)) (hl : l.length = n)
    (h2 : Rd w A2 (zs.map (.int .i64))) (hm : zs.length = m) (hmb : m ≤ 9223372036854775807) :
    Calls Tryd.prog 45 #[.slice A2 m c2, .pointer (some ⟨E, 0, none⟩), .pointer (some ⟨F, 0, none⟩)] w fun e w' => e = .returned (.int .i64 (domErr l zs)) ∧ w = w' := by
  have HL := Lib.hid hl
  have HM := Lib.hid hm
  have H2 := Lib.hid h2
  clear hl h2 hm
  by_cases hf : faultOf l [] = 0
  · have HD : Hid (domErr l zs = if zs.all (inRg n) then 0 else 4) := Lib.hid (by unfold domErr; rw [if_pos hf, HL.out])
    rw [hf] at hE
    clear hf
    go_enter Tryd.func45, Tryd.ntmps45
    go_wp2_with fail
    go_loop [6, 9] (fun _ i => ∃ k : Nat, k ≤ m ∧ i = .int .i64 (k : Int) ∧ Hid (∀ j, j < k → inRg n (zs[j]?.getD 0) = true)) (fun _ i => m - (intOf i).toNat)
    case atStart => exact ⟨0, by omega, rfl, Lib.hid (fun _ hj => absurd hj (Nat.not_lt_zero _))⟩
    case round =>
      obtain ⟨k, hk, rfl, hall⟩ := hrel
      by_cases hlt : k < m
      · obtain ⟨b, o, rfl, e1⟩ := H2.out.int (k := k) (by rw [HM.out]; exact hlt)
        have HNO := Lib.hid (fun h => rg_no (n := n) (zs := zs) (j := k) (by rw [HM.out]; exact hlt) h)
        have HYES : Hid (inRg n (zs[k]?.getD 0) = true → ∀ j, j < k + 1 → inRg n (zs[j]?.getD 0) = true) := Lib.hid (fun h j hj => by
          rcases Nat.lt_or_ge j k with h' | h'
          · exact hall.out j h'
          · obtain rfl : j = k := by omega
            exact h)
        clear hall
        generalize zs[k]?.getD 0 = z at *
        by_cases h0 : z < 0
        · have HE : Hid (4 = domErr l zs) := Lib.hid (by rw [HD.out, HNO.out (by unfold inRg; simp; omega)]; rfl)
          go_wp2_with fail
          go_ret
          exact ⟨ret_int HE.out, rfl⟩
        · by_cases h3 : (n : Int) ≤ z
          · have HE : Hid (4 = domErr l zs) := Lib.hid (by rw [HD.out, HNO.out (by unfold inRg; simp; omega)]; rfl)
            go_wp2_with fail
            go_ret
            exact ⟨ret_int HE.out, rfl⟩
          · have HY := Lib.hid (HYES.out (by unfold inRg; simp; omega))
            go_wp2_with fail
            go_round
            case rel => exact ⟨k + 1, by omega, by go_num, HY⟩
            case measure => simp [intOf]; omega
      · have HE : Hid (0 = domErr l zs) := Lib.hid (by rw [HD.out, rg_yes (fun j hj => hall.out j (by have := HM.out; omega))]; rfl)
        go_wp2_with fail
        go_ret
        exact ⟨ret_int HE.out, rfl⟩
  · have HD : Hid (faultOf l [] = domErr l zs) := Lib.hid (by unfold domErr; rw [if_neg hf])
    have hz : (faultOf l [] == 0) = false := by simp [hf]
    clear hf
    generalize faultOf l [] = F0 at *
    go_enter Tryd.func45, Tryd.ntmps45
    go_wp2_with fail
    go_loop [6, 9] (fun _ i => ∃ k : Nat, k ≤ m ∧ i = .int .i64 (k : Int)) (fun _ i => m - (intOf i).toNat)
    case atStart => exact ⟨0, by omega, rfl⟩
    case round =>
      obtain ⟨k, hk, rfl⟩ := hrel
      by_cases hlt : k < m
      · obtain ⟨b, o, rfl, e1⟩ := H2.out.int (k := k) (by rw [HM.out]; exact hlt)
        go_wp2_with fail
        go_round
        case rel => exact ⟨k + 1, by omega, by go_num⟩
        case measure => simp [intOf]; omega
      · go_wp2_with fail
        go_ret
        exact ⟨ret_int HD.out, rfl⟩
end Go.Proofs.YtonmkmghpiagjaaDoor
