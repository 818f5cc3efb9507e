/- Contracts: cost.Way and its closure. The rows have an order, the times are right; the table of math/bits lies. -/
import Derived.Test.YtonmkmghpiagjaaDoorCost2
import Derived.Test.YtonmkmghpiagjaaDoorCost3
import Derived.Test.YtonmkmghpiagjaaDoorSortOwn
import Derived.Test.YtonmkmghpiagjaaDoorShelf2
namespace Go.Proofs.YtonmkmghpiagjaaDoor
open Go.RowKit

set_option maxHeartbeats 1000000 in
theorem cLast_any {A AT : Option Addr} {B n m c cT : Nat} (t : Nat → UInt64) (L : List Nat) (w : World) (h1 : Rd w A (L.map nv)) (hc : w.cell? ⟨B, 0, none⟩ = some (.slice AT n cT)) (hB : B < w.heap.size) (hT : Rd w AT (ffv t n)) (hm : L.length = m) (hmb : m ≤ 64) (h0 : 0 < m) (hL : ∀ x ∈ L, x < n) :
    Calls Tryd.prog 78 #[.slice A m c, .pointer (some ⟨B, 0, none⟩)] w fun e w' => e = .returned (.int .i64 (bestT t L : Nat)) ∧ Below w.heap.size w w' := by
  have HM := Lib.hid hm
  have HBE : Hid (bestT t L = bestF t (L[0]?.getD 0) L) := Lib.hid rfl
  obtain ⟨b, o, rfl, x0⟩ := h1.at_ (k := 0) (by rw [List.length_map]; omega)
  have hL0 : 0 < L.length := by omega
  have x0' : w.cell? ⟨b, o, none⟩ = some (.int .i64 (L[0]?.getD 0 : Nat)) := by
    rw [Nat.add_zero] at x0
    rw [x0]; simp [nv, hL0]
  have HM0 : Hid (L[0]?.getD 0 ∈ L) := Lib.hid (by simp [hL0])
  have H1 := Lib.hid h1
  have HC := Lib.hid hc
  have HT := Lib.hid hT
  have HLL := Lib.hid hL
  clear h1 hc hT hm hL x0
  generalize L[0]?.getD 0 = h at *
  go_enter Tryd.func78, Tryd.ntmps78
  go_wp2_with fail
  go_loopw [4, 6, 12] (fun v _ i wr => ∃ k : Nat, k ≤ m ∧ i = .int .i64 (k : Int) ∧ v = .int .i64 (bestF t h (L.take k) : Nat) ∧ Hid (Below w.heap.size w wr)) (fun _ _ i _ => m - (intOf i).toNat)
  case atStart => exact ⟨0, by omega, rfl, rfl, Lib.hid (Below.refl _ _)⟩
  case round =>
    obtain ⟨k, hk, rfl, rfl, hbw⟩ := hrel
    by_cases hlt : k < m
    · have hkl : k < L.length := by rw [HM.out]; exact hlt
      obtain ⟨b2, o2, hA2, hcc⟩ := (H1.out.below hbw.out).at_ (k := k) (by simpa using hkl)
      injection hA2 with hA2
      injection hA2 with hA21 hA22 _
      subst hA21 hA22
      have hc' : wr.cell? ⟨b, o + k, none⟩ = some (.int .i64 (L[k]?.getD 0 : Nat)) := by rw [hcc]; simp [nv, hkl]
      have hqm : L[k]?.getD 0 ∈ L := by simp [hkl]
      have HTK := Lib.hid (take_snoc L 0 k hkl)
      clear hcc hkl
      generalize L[k]?.getD 0 = q at *
      have hqn : q < n := HLL.out q hqm
      have HSN := Lib.hid (bestF_snoc t h (L.take k) q)
      have hpn : bestF t h (L.take k) < n := by
        rcases bestF_mem t (L.take k) h with e | e
        · rw [e]; exact HLL.out h HM0.out
        · exact HLL.out _ (List.mem_of_mem_take e)
      have hcB : wr.cell? ⟨B, 0, none⟩ = some (.slice AT n cT) := by rw [hbw.out.cell (p := ⟨B, 0, none⟩) hB]; exact HC.out
      have hfl : ∀ z, z < n → z < (ffv t n).length := fun z hz => by simpa [ffv] using hz
      obtain ⟨b3, o3, rfl, y1⟩ := (HT.out.below hbw.out).at_ (hfl q hqn)
      obtain ⟨b4, o4, hA4, y2⟩ := (HT.out.below hbw.out).at_ (hfl _ hpn)
      injection hA4 with hA4
      injection hA4 with hA41 hA42 _
      subst hA41 hA42
      have y1' : wr.cell? ⟨b3, o3 + q, none⟩ = some (.float .f64 (t q).toNat) := by rw [y1]; simp [ffv, fv]
      have y2' : wr.cell? ⟨b3, o3 + bestF t h (L.take k), none⟩ = some (.float .f64 (t (bestF t h (L.take k))).toNat) := by rw [y2]; simp [ffv, fv]
      have HBD := Lib.hid hbw.out.drew
      clear y1 y2 hfl hqm hbw
      generalize bestF t h (L.take k) = p at *
      cases hgt : gtT (t q) (t p) with
      | true =>
        have hg' : (FloatKind.f64.format.order (t q).toNat (t p).toNat == some .gt) = true := hgt
        rw [hgt, if_pos rfl] at HSN
        clear hgt
        go_wp2_with fail
        go_region
        go_wp2_with fail
        go_roundw
        case rel => exact ⟨k + 1, by omega, by go_num, by rw [HTK.out, HSN.out], HBD⟩
        case measure => simp [intOf]; omega
      | false =>
        have hg' : (FloatKind.f64.format.order (t q).toNat (t p).toNat == some .gt) = false := hgt
        rw [hgt, if_neg (by simp)] at HSN
        clear hgt
        go_wp2_with fail
        go_region
        go_wp2_with fail
        go_roundw
        case rel => exact ⟨k + 1, by omega, by go_num, by rw [HTK.out, HSN.out], HBD⟩
        case measure => simp [intOf]; omega
    · obtain rfl : k = m := by omega
      rw [List.take_of_length_le (by rw [HM.out]; exact Nat.le_refl _)]
      go_wp2_with fail
      go_ret
      exact ⟨ret_int (by rw [HBE.out]), hbw.out⟩
end Go.Proofs.YtonmkmghpiagjaaDoor
