/- Contract: slices.Reverse at spots. Lengths at most 256. -/
import Derived.Test.YtonmkmghpiagjaaDoorCut1
import Derived.Test.YtonmkmghpiagjaaDoorKnotIx
import Derived.BigRegion
namespace Go.Proofs.YtonmkmghpiagjaaDoor
open Go.RowKit

theorem spv_set {L : List Spt} {i : Nat} (x : Spt) (hi : i < L.length) : ((spv L).set (i * 2) (.int .i64 (x.1 : Int))).set (i * 2 + 1) (.bool x.2) = spv (L.set i x) := by
  induction L generalizing i with
  | nil => simp at hi
  | cons t L ih =>
    have e3 : ∀ (t : Spt) (L : List Spt), spv (t :: L) = .int .i64 (t.1 : Int) :: .bool t.2 :: spv L := fun _ _ => rfl
    cases i with
    | zero => rfl
    | succ i =>
      have h := ih (i := i) (by simpa using hi)
      have e1 : (i + 1) * 2 = i * 2 + 1 + 1 := by omega
      have e2 : (i + 1) * 2 + 1 = i * 2 + 1 + 1 + 1 := by omega
      rw [e3, List.set_cons_succ, e3, ← h, e2, e1]
      rfl
def revS (L : List Spt) : Nat → List Spt
  | 0 => L
  | k + 1 => ((revS L k).set k ((revS L k).getD (L.length - 1 - k) (0, false))).set (L.length - 1 - k) ((revS L k).getD k (0, false))
theorem revS_len (L : List Spt) (k : Nat) : (revS L k).length = L.length := by
  induction k with
  | zero => rfl
  | succ k ih => unfold revS; rw [List.length_set, List.length_set, ih]
theorem revS_at (L : List Spt) : ∀ k, 2 * k ≤ L.length → ∀ i, i < L.length → (revS L k)[i]? = if i < k ∨ L.length - k ≤ i then L[L.length - 1 - i]? else L[i]?
  | 0, _, i, hi => by
    have h1 : ¬ (i < 0 ∨ L.length - 0 ≤ i) := by omega
    rw [if_neg h1]
    rfl
  | k + 1, hk, i, hi => by
    have ih := revS_at L k (by omega)
    have hl := revS_len L k
    have h1 := ih k (by omega)
    have h2 := ih (L.length - 1 - k) (by omega)
    rw [if_neg (by omega)] at h1
    rw [if_neg (by omega)] at h2
    unfold revS
    rw [List.getElem?_set, List.getElem?_set, List.length_set, hl]
    by_cases e1 : L.length - 1 - k = i
    · subst e1
      rw [if_pos rfl, if_pos (by omega), if_pos (by omega), List.getD_eq_getElem?_getD, h1, show L.length - 1 - (L.length - 1 - k) = k by omega, List.getElem?_eq_getElem (by omega)]
      rfl
    · rw [if_neg e1]
      by_cases e2 : k = i
      · subst e2
        rw [if_pos rfl, if_pos (by omega), if_pos (by omega), List.getD_eq_getElem?_getD, h2, List.getElem?_eq_getElem (by omega)]
        rfl
      · rw [if_neg e2, ih i hi]
        by_cases e3 : i < k ∨ L.length - k ≤ i
        · rw [if_pos e3, if_pos (by omega)]
        · rw [if_neg e3, if_neg (by omega)]
theorem revS_end (L : List Spt) {k : Nat} (h1 : 2 * k ≤ L.length) (h2 : L.length ≤ 2 * k + 1) : revS L k = L.reverse := by
  apply List.ext_getElem?
  intro i
  rcases Nat.lt_or_ge i L.length with hi | hi
  · rw [revS_at L k h1 i hi, List.getElem?_reverse hi]
    by_cases h : i < k ∨ L.length - k ≤ i
    · rw [if_pos h]
    · rw [if_neg h]
      congr 1
      omega
  · rw [List.getElem?_eq_none (by rw [revS_len]; exact hi), List.getElem?_eq_none (by rw [List.length_reverse]; exact hi)]
theorem off_ne {g o o' : Nat} (h : o ≠ o') : (⟨g, o, none⟩ : Addr) ≠ ⟨g, o', none⟩ := fun e => h (by injection e)
theorem cell_off {w : World} {g o o' : Nat} {u v : Value} (h : w.cell? ⟨g, o', none⟩ = some u) (hne : o ≠ o') : (w.setCell ⟨g, o, none⟩ v).cell? ⟨g, o', none⟩ = some u := by
  rw [World.cell?_setCell_other _ _ _ _ (off_ne hne)]
  exact h
theorem own_spot {w : World} {B g m c i : Nat} {L : List Spt} {x : Spt} (h : w.ownsRow B 104 2 (.slice (some ⟨g, 0, none⟩) m c) m (spv L)) (hm : L.length = m) (hi : L[i]? = some x) :
    w.cell? ⟨g, i * 2, none⟩ = some (.int .i64 (x.1 : Int)) ∧ w.cell? ⟨g, i * 2 + 1, none⟩ = some (.bool x.2) := by
  obtain ⟨h1, h2⟩ := spv_at hi
  have hlt := getElem?_lt hi
  rw [h.cellAt (i * 2) (by omega), h.cellAt (i * 2 + 1) (by omega), Nat.mul_comm i 2]
  exact ⟨h1, h2⟩
set_option maxHeartbeats 1000000 in
theorem reverse_any {B g m c : Nat} (L : List Spt) (w : World) (h : w.ownsRow B 104 2 (.slice (some ⟨g, 0, none⟩) m c) m (spv L)) (hm : L.length = m) (hb : m ≤ 256) :
    Calls Tryd.prog 136 #[.slice (some ⟨g, 0, none⟩) m c] w fun e w' => e = .returned (.tuple #[]) ∧ w'.ownsRow B 104 2 (.slice (some ⟨g, 0, none⟩) m c) m (spv L.reverse) ∧ w.grownBy w' (some g) := by
  have H := Lib.hid h
  have HM := Lib.hid hm
  clear h hm
  go_enter Tryd.func136, Tryd.ntmps136
  go_wp2_with fail
  go_loopw [2, 3] (fun i j wr => ∃ k : Nat, i = .int .i64 (k : Int) ∧ j = .int .i64 ((m : Int) - 1 - (k : Int)) ∧ 2 * k ≤ m ∧ Hid (wr.ownsRow B 104 2 (.slice (some ⟨g, 0, none⟩) m c) m (spv (revS L k))) ∧ Hid (w.grownBy wr (some g))) (fun i _ _ => m - (intOf i).toNat)
  case atStart => exact ⟨0, rfl, (by simp), by omega, H, Lib.hid ⟨rfl, rfl, rfl, Nat.le_refl _, fun _ _ _ => rfl⟩⟩
  case round =>
    clear H
    obtain ⟨k, rfl, rfl, hk, hown, hgr⟩ := hrel
    by_cases hlt : 2 * k + 1 < m
    · have hc : (k : Int) < (m : Int) - 1 - (k : Int) := by omega
      obtain ⟨j, hj⟩ : ∃ j : Nat, (m : Int) - 1 - (k : Int) = (j : Int) := ⟨m - 1 - k, by omega⟩
      have hjm : j = m - 1 - k := by omega
      rw [hj] at hc ⊢
      have hkj : k < j := by omega
      have hj64 : j < m := by omega
      have hrl : (revS L k).length = m := by rw [revS_len]; exact HM.out
      obtain ⟨x, hx⟩ : ∃ x, (revS L k)[k]? = some x := ⟨(revS L k)[k]'(by omega), List.getElem?_eq_getElem _⟩
      obtain ⟨y, hy⟩ : ∃ y, (revS L k)[j]? = some y := ⟨(revS L k)[j]'(by omega), List.getElem?_eq_getElem _⟩
      have HRV : Hid (revS L (k + 1) = ((revS L k).set k y).set j x) := Lib.hid (by
        show ((revS L k).set k ((revS L k).getD (L.length - 1 - k) (0, false))).set (L.length - 1 - k) ((revS L k).getD k (0, false)) = _
        rw [HM.out, ← hjm, List.getD_eq_getElem?_getD, List.getD_eq_getElem?_getD, hx, hy]
        rfl)
      obtain ⟨c1, c2⟩ := own_spot hown.out hrl hx
      obtain ⟨c3, c4⟩ := own_spot hown.out hrl hy
      have HO1 := Lib.hid (hown.out.stored (k * 2) (.int .i64 (y.1 : Int))).1
      have HO2 := Lib.hid (HO1.out.stored (k * 2 + 1) (.bool y.2)).1
      have HO3 := Lib.hid (HO2.out.stored (j * 2) (.int .i64 (x.1 : Int))).1
      have HO4 := Lib.hid (HO3.out.stored (j * 2 + 1) (.bool x.2)).1
      have HG1 : Hid (w.grownBy (wr.setCell ⟨g, k * 2, none⟩ (.int .i64 (y.1 : Int))) (some g)) := Lib.hid (by
        have h1 := hgr.out
        refine ⟨h1.os, h1.tape, h1.output, by simpa using h1.size, fun b hb hne => ?_⟩
        rw [Below.heap_setCell _ _ _ _ (fun e => hne (by rw [e]))]
        exact h1.block b hb hne)
      have d2 := cell_off (v := .int .i64 (y.1 : Int)) c2 (show k * 2 ≠ k * 2 + 1 by omega)
      have d3 := cell_off (v := .int .i64 (y.1 : Int)) c3 (show k * 2 ≠ j * 2 by omega)
      have d4 := cell_off (v := .int .i64 (y.1 : Int)) c4 (show k * 2 ≠ j * 2 + 1 by omega)
      have e3 := cell_off (v := .bool y.2) d3 (show k * 2 + 1 ≠ j * 2 by omega)
      have e4 := cell_off (v := .bool y.2) d4 (show k * 2 + 1 ≠ j * 2 + 1 by omega)
      have u4 := cell_off (v := .int .i64 (x.1 : Int)) e4 (show j * 2 ≠ j * 2 + 1 by omega)
      have f1 := hown.out.frozenAt (k * 2)
      have f2 := HO1.out.frozenAt (k * 2 + 1)
      have f3 := HO2.out.frozenAt (j * 2)
      have f4 := HO3.out.frozenAt (j * 2 + 1)
      have HJM := Lib.hid hjm
      have HJ := Lib.hid hj
      clear hx hy hjm hj
      go_wp2_with fail
      go_region
      go_wp2_with fail
      refine ⟨⟨k + 1, rfl, ?_, by omega, ?_, ?_⟩, ?_⟩
      · have := HJ.out
        congr 1
        omega
      · have h := HO4.out
        rw [spv_set y (by omega)] at h
        rw [spv_set x (by rw [List.length_set]; omega), ← HRV.out] at h
        exact Lib.hid (h.kept (w' := World.drew _) (row := none) ⟨rfl, rfl, rfl, Nat.le_refl _, fun _ _ _ => rfl⟩ (by simp [Value.ownBlock]))
      · exact Lib.hid (by
          have h1 := HG1.out
          have h2 := h1.size
          refine ⟨h1.os, h1.tape, h1.output, by simpa using h2, fun b hb hne => ?_⟩
          have hbg : b ≠ g := fun e => hne (by rw [e])
          show ((((wr.setCell _ _).setCell _ _).setCell _ _).setCell _ _).heap[b]? = _
          rw [Below.heap_setCell _ _ _ _ hbg, Below.heap_setCell _ _ _ _ hbg, Below.heap_setCell _ _ _ _ hbg]
          exact h1.block b hb hne)
      · simp [intOf]
        omega
    · have hc : ¬ (k : Int) < (m : Int) - 1 - (k : Int) := by omega
      have HE : Hid (revS L k = L.reverse) := Lib.hid (revS_end L (by have := HM.out; omega) (by have := HM.out; omega))
      go_wp2_with fail
      first | go_end0 | refine bodyPost_ret (results_none rfl _ _ _) rfl ?_
      have h := hown.out
      rw [HE.out] at h
      exact ⟨rfl, h, hgr.out⟩
end Go.Proofs.YtonmkmghpiagjaaDoor
