/- Contract: pair of package chain. Rows are good; the table of math/bits lies. -/
import Derived.Test.YtonmkmghpiagjaaDoorPair
namespace Go.Proofs.YtonmkmghpiagjaaDoor
open Go.RowKit

/-- make([]int, n), as a block. -/
theorem make_ints (n : Nat) (hn : n ≤ 64) (w : World) :
    (Instr.makeSlice 24 (.int .i64 (n : Int)) (.int .i64 (n : Int))).run Tryd.prog w = .ok (.slice (some ⟨w.heap.size, 0, none⟩) n n) (w.alloc (.cells (Array.replicate n (.int .i64 0)) 3)) := by
  obtain ⟨ht, i, hi, hz, hs1, hb, _⟩ := elInt
  have hr := run_make (P := Tryd.prog) w _ _ i _ ht hi hz .i64 .i64 n n (by omega) (by omega) (by rw [hb]; omega) (by omega)
  simp only [Int.toNat_natCast] at hr
  rw [hr]
  have e : madeCells (Value.int .i64 0).cells (n * i.size) = Array.replicate n (.int .i64 0) := by
    apply Array.ext'
    rw [hs1, Nat.mul_one, show (Value.int .i64 0).cells = #[Value.int .i64 0] from rfl, toList_madeCells_one, Array.toList_replicate]
  rw [e]
theorem pmem_start (w : World) (A : Option Addr) (n c : Nat) (t u v : TypeId) :
    PMem (((w.alloc (.cells (Array.replicate n (.int .i64 0)) t)).alloc (.cells (Array.replicate n (.int .i64 0)) u)).alloc
      (.cells #[.slice A n c, .slice (some ⟨w.heap.size + 1, 0, none⟩) n n, .slice (some ⟨w.heap.size, 0, none⟩) n n, .int .u64 0] v)) (w.heap.size + 1 + 1) (w.heap.size + 1) w.heap.size A n c ⟨fun _ => 0, fun _ => 0, 0⟩ := by
  have h2 : ((w.alloc (.cells (Array.replicate n (.int .i64 0)) t)).alloc (.cells (Array.replicate n (.int .i64 0)) u)).heap.size = w.heap.size + 1 + 1 := by simp
  have h1 : (w.alloc (.cells (Array.replicate n (.int .i64 0)) t)).heap.size = w.heap.size + 1 := by simp
  refine ⟨?_, ?_, ?_, ?_, fun j hj => ?_, fun j hj => ?_, fun o => ?_, fun o => ?_, fun o => ?_, by omega, by omega, by omega⟩
  · rw [World.cell?_alloc_at _ _ _ _ h2.symm]; rfl
  · rw [World.cell?_alloc_at _ _ _ _ h2.symm]; rfl
  · rw [World.cell?_alloc_at _ _ _ _ h2.symm]; rfl
  · rw [World.cell?_alloc_at _ _ _ _ h2.symm]; rfl
  · rw [World.cell?_alloc_past _ _ _ (by omega), World.cell?_alloc_at _ _ _ _ h1.symm]
    simp [hj]
  · rw [World.cell?_alloc_past _ _ _ (by omega), World.cell?_alloc_past _ _ _ (by omega), World.cell?_alloc_at _ _ _ _ rfl]
    simp [hj]
  · rw [World.frozen?_alloc_at _ _ _ _ h2.symm]
  · rw [World.frozen?_alloc_past _ _ _ (by omega), World.frozen?_alloc_at _ _ _ _ h1.symm]
  · rw [World.frozen?_alloc_past _ _ _ (by omega), World.frozen?_alloc_past _ _ _ (by omega), World.frozen?_alloc_at _ _ _ _ rfl]
theorem pmem_start2 (w : World) (A : Option Addr) (n c : Nat) (t u v : TypeId) :
    PMem (((w.alloc (.cells (Array.replicate n (.int .i64 0)) t)).alloc (.cells (Array.replicate n (.int .i64 0)) u)).alloc
      (.cells #[.slice A n c, .slice (some ⟨w.heap.size, 0, none⟩) n n, .slice (some ⟨w.heap.size + 1, 0, none⟩) n n, .int .u64 0] v)) (w.heap.size + 1 + 1) w.heap.size (w.heap.size + 1) A n c ⟨fun _ => 0, fun _ => 0, 0⟩ := by
  have h2 : ((w.alloc (.cells (Array.replicate n (.int .i64 0)) t)).alloc (.cells (Array.replicate n (.int .i64 0)) u)).heap.size = w.heap.size + 1 + 1 := by simp
  have h1 : (w.alloc (.cells (Array.replicate n (.int .i64 0)) t)).heap.size = w.heap.size + 1 := by simp
  refine ⟨?_, ?_, ?_, ?_, fun j hj => ?_, fun j hj => ?_, fun o => ?_, fun o => ?_, fun o => ?_, by omega, by omega, by omega⟩
  · rw [World.cell?_alloc_at _ _ _ _ h2.symm]; rfl
  · rw [World.cell?_alloc_at _ _ _ _ h2.symm]; rfl
  · rw [World.cell?_alloc_at _ _ _ _ h2.symm]; rfl
  · rw [World.cell?_alloc_at _ _ _ _ h2.symm]; rfl
  · rw [World.cell?_alloc_past _ _ _ (by omega), World.cell?_alloc_past _ _ _ (by omega), World.cell?_alloc_at _ _ _ _ rfl]
    simp [hj]
  · rw [World.cell?_alloc_past _ _ _ (by omega), World.cell?_alloc_at _ _ _ _ h1.symm]
    simp [hj]
  · rw [World.frozen?_alloc_at _ _ _ _ h2.symm]
  · rw [World.frozen?_alloc_past _ _ _ (by omega), World.frozen?_alloc_past _ _ _ (by omega), World.frozen?_alloc_at _ _ _ _ rfl]
  · rw [World.frozen?_alloc_past _ _ _ (by omega), World.frozen?_alloc_at _ _ _ _ h1.symm]
theorem PMem.congr {w : World} {P G1 G2 : Nat} {A : Option Addr} {n c : Nat} {st st' : PSt} (h : PMem w P G1 G2 A n c st) (h1 : ∀ j, j < n → st.nx j = st'.nx j) (h2 : ∀ j, j < n → st.ah j = st'.ah j) (h3 : st.seen = st'.seen) : PMem w P G1 G2 A n c st' :=
  ⟨h.rows, h.next, h.ahead, by rw [← h3]; exact h.seen, fun j hj => by rw [← h1 j hj]; exact h.nx j hj, fun j hj => by rw [← h2 j hj]; exact h.ah j hj, h.fP, h.f1, h.f2, h.n1, h.n2, h.n3⟩
/-- The lists, when the first k have been set. -/
def minusTo (k : Nat) : Nat → Int := fun j => if j < k then -1 else 0
theorem minusTo_set (k j : Nat) : setF (minusTo k) k (-1) j = minusTo (k + 1) j := by
  unfold setF minusTo
  by_cases h : j = k
  · subst h; simp
  · by_cases h2 : j < k
    · have : j < k + 1 := by omega
      simp [h, h2, this]
    · have : ¬ j < k + 1 := by omega
      simp [h, h2, this]
def startSt (k : Nat) : PSt := ⟨minusTo k, minusTo k, 0⟩
def PairEnd (w : World) (R : List Nat) (A : Option Addr) (n c : Nat) (e : Ending) (w' : World) : Prop :=
  ∃ P G1 G2 st, e = .returned (.pointer (some ⟨P, 0, none⟩)) ∧ PairRun R n st ∧ PMem w' P G1 G2 A n c st ∧ Below w.heap.size w w'
set_option maxHeartbeats 1000000 in
theorem pair_any {A : Option Addr} {n c : Nat} (R : List Nat) (w : World) (hR : Rd w A (R.map uv)) (hl : R.length = n) (hg : Good R) (hT : Tab w) :
    Calls Tryd.prog 73 #[.slice A n c] w (PairEnd w R A n c) := by
  have hn : n ≤ 64 := by have := hg.1; omega
  have H1 := Lib.hid hR
  have HL := Lib.hid hl
  have HG := Lib.hid hg
  have HT := Lib.hid hT
  have hmk := make_ints n hn
  clear hR hl hg hT
  have HST := Lib.hid (pmem_start w A n c 3 3 114)
  have HST2 := Lib.hid (pmem_start2 w A n c 3 3 114)
  have HBA : Hid (∀ o1 o2 o3, Below w.heap.size w (((w.alloc o1).alloc o2).alloc o3)) := Lib.hid (fun o1 o2 o3 => below_new (below_new (below_new (Below.refl _ _) o1) o2) o3)
  go_enter Tryd.func73, Tryd.ntmps73
  go_wp2
  go_region
  go_wp2
  · go_loopw [4, 17] (fun _ x wr => ∃ k : Nat, k ≤ n ∧ x = .int .i64 (k : Int) ∧ Hid (PMem wr (w.heap.size + 1 + 1) w.heap.size (w.heap.size + 1) A n c (startSt k)) ∧ Hid (Below w.heap.size w wr)) (fun _ x _ => n - (intOf x).toNat)
    case atStart => exact ⟨0, by omega, rfl, Lib.hid (HST2.out.drew.congr (fun j _ => by simp [startSt, minusTo]) (fun j _ => by simp [startSt, minusTo]) rfl), Lib.hid (below_drew (HBA.out _ _ _))⟩
    case round =>
      obtain ⟨k, hk, rfl, hm, hbw⟩ := hrel
      by_cases hlt : k < n
      · have y1 := hm.out.next
        have y2 := hm.out.ahead
        have HM2 := Lib.hid (hm.out.setNx hlt (-1))
        have HM3 := Lib.hid (HM2.out.setAh hlt (-1))
        have z1 := hm.out.nx k hlt
        have z2 := HM2.out.ah k hlt
        have z3 := hm.out.f1 k
        have z4 := HM2.out.f2 k
        have HBS := Lib.hid ((hbw.out.setCell (p := ⟨w.heap.size, k, none⟩) (Nat.le_refl _) (.int .i64 (-1))).setCell (p := ⟨w.heap.size + 1, k, none⟩) (Nat.le_succ _) (.int .i64 (-1)))
        go_wp2
        go_region
        go_wp2
        go_roundw
        case rel => exact ⟨k + 1, by omega, by go_num, Lib.hid (HM3.out.drew.congr (fun j _ => minusTo_set k j) (fun j _ => minusTo_set k j) rfl), Lib.hid (below_drew HBS.out)⟩
        case measure => simp [intOf]; omega
      · obtain rfl : k = n := by omega
        have HS := Lib.hid (hm.out.congr (st' := ⟨fun _ => -1, fun _ => -1, 0⟩) (fun j hj => by simp [startSt, minusTo, hj]) (fun j hj => by simp [startSt, minusTo, hj]) rfl)
        clear hm
        go_wp2
        go_loopw [5, 35] (fun _ x wr => ∃ (q : Nat) (st : PSt), q ≤ k ∧ x = .int .i64 (q : Int) ∧ Hid (PairRun R q st) ∧ Hid (PMem wr (w.heap.size + 1 + 1) w.heap.size (w.heap.size + 1) A k c st) ∧ Hid (Below w.heap.size w wr)) (fun _ x _ => k - (intOf x).toNat)
        case atStart => exact ⟨0, _, by omega, rfl, Lib.hid PairRun.zero, HS, hbw⟩
        case round =>
          clear HS hbw hk hlt
          obtain ⟨q, st, hq, rfl, hr, hm, hbw⟩ := hrel
          by_cases hlt : q < k
          · have HI := Lib.hid (pairRun_inv HG.out hr.out (by rw [HL.out]; exact hq))
            have y1 := hm.out.seen
            have HM2 := Lib.hid (hm.out.setSeen 0)
            have z3 := hm.out.fP 3
            have HBS := Lib.hid (hbw.out.setCell (p := ⟨w.heap.size + 1 + 1, 3, none⟩) (Nat.le_trans (Nat.le_succ _) (Nat.le_succ _)) (.int .u64 ((0 : Nat) : Int)))
            have HPI : Hid (PInv R k st.nx st.ah (-1)) := Lib.hid (by rw [← HL.out]; exact HI.out.inv)
            have HCALM : Hid (Calm st.nx 0 q) := Lib.hid (fun x hx => by
              have := HI.out.later q (by rw [HL.out]; exact hlt) (Nat.le_refl _)
              omega)
            go_wp2_with (go_at_call 108; refine (find_any R w _ _ _ H1.out HL.out HG.out HT.out (by omega) (by omega) (by omega) _ q ⟨st.nx, st.ah, 0⟩ _ (Nat.le_refl _) hlt (fun x hx => by simp at hx) HPI.out HCALM.out HM2.out HBS.out).mono ?_; rintro e w2 ⟨b, st2, rfl, hf2, hm2, hb2⟩)
            go_roundw
            case rel => exact ⟨q + 1, st2, by omega, by go_num, Lib.hid (PairRun.succ hr.out hf2), Lib.hid hm2, Lib.hid hb2⟩
            case measure => simp [intOf]; omega
          · obtain rfl : q = k := by omega
            go_wp2
            go_ret
            exact ⟨_, _, _, st, rfl, hr.out, hm.out, hbw.out⟩
  · go_loopw [4, 17] (fun _ x wr => ∃ k : Nat, k ≤ n ∧ x = .int .i64 (k : Int) ∧ Hid (PMem wr (w.heap.size + 1 + 1) (w.heap.size + 1) w.heap.size A n c (startSt k)) ∧ Hid (Below w.heap.size w wr)) (fun _ x _ => n - (intOf x).toNat)
    case atStart => exact ⟨0, by omega, rfl, Lib.hid (HST.out.drew.congr (fun j _ => by simp [startSt, minusTo]) (fun j _ => by simp [startSt, minusTo]) rfl), Lib.hid (below_drew (HBA.out _ _ _))⟩
    case round =>
      obtain ⟨k, hk, rfl, hm, hbw⟩ := hrel
      by_cases hlt : k < n
      · have y1 := hm.out.next
        have y2 := hm.out.ahead
        have HM2 := Lib.hid (hm.out.setNx hlt (-1))
        have HM3 := Lib.hid (HM2.out.setAh hlt (-1))
        have z1 := hm.out.nx k hlt
        have z2 := HM2.out.ah k hlt
        have z3 := hm.out.f1 k
        have z4 := HM2.out.f2 k
        have HBS := Lib.hid ((hbw.out.setCell (p := ⟨w.heap.size + 1, k, none⟩) (Nat.le_succ _) (.int .i64 (-1))).setCell (p := ⟨w.heap.size, k, none⟩) (Nat.le_refl _) (.int .i64 (-1)))
        go_wp2
        go_region
        go_wp2
        go_roundw
        case rel => exact ⟨k + 1, by omega, by go_num, Lib.hid (HM3.out.drew.congr (fun j _ => minusTo_set k j) (fun j _ => minusTo_set k j) rfl), Lib.hid (below_drew HBS.out)⟩
        case measure => simp [intOf]; omega
      · obtain rfl : k = n := by omega
        have HS := Lib.hid (hm.out.congr (st' := ⟨fun _ => -1, fun _ => -1, 0⟩) (fun j hj => by simp [startSt, minusTo, hj]) (fun j hj => by simp [startSt, minusTo, hj]) rfl)
        clear hm
        go_wp2
        go_loopw [5, 35] (fun _ x wr => ∃ (q : Nat) (st : PSt), q ≤ k ∧ x = .int .i64 (q : Int) ∧ Hid (PairRun R q st) ∧ Hid (PMem wr (w.heap.size + 1 + 1) (w.heap.size + 1) w.heap.size A k c st) ∧ Hid (Below w.heap.size w wr)) (fun _ x _ => k - (intOf x).toNat)
        case atStart => exact ⟨0, _, by omega, rfl, Lib.hid PairRun.zero, HS, hbw⟩
        case round =>
          clear HS hbw hk hlt
          obtain ⟨q, st, hq, rfl, hr, hm, hbw⟩ := hrel
          by_cases hlt : q < k
          · have HI := Lib.hid (pairRun_inv HG.out hr.out (by rw [HL.out]; exact hq))
            have y1 := hm.out.seen
            have HM2 := Lib.hid (hm.out.setSeen 0)
            have z3 := hm.out.fP 3
            have HBS := Lib.hid (hbw.out.setCell (p := ⟨w.heap.size + 1 + 1, 3, none⟩) (Nat.le_trans (Nat.le_succ _) (Nat.le_succ _)) (.int .u64 ((0 : Nat) : Int)))
            have HPI : Hid (PInv R k st.nx st.ah (-1)) := Lib.hid (by rw [← HL.out]; exact HI.out.inv)
            have HCALM : Hid (Calm st.nx 0 q) := Lib.hid (fun x hx => by
              have := HI.out.later q (by rw [HL.out]; exact hlt) (Nat.le_refl _)
              omega)
            go_wp2_with (go_at_call 108; refine (find_any R w _ _ _ H1.out HL.out HG.out HT.out (by omega) (by omega) (by omega) _ q ⟨st.nx, st.ah, 0⟩ _ (Nat.le_refl _) hlt (fun x hx => by simp at hx) HPI.out HCALM.out HM2.out HBS.out).mono ?_; rintro e w2 ⟨b, st2, rfl, hf2, hm2, hb2⟩)
            go_roundw
            case rel => exact ⟨q + 1, st2, by omega, by go_num, Lib.hid (PairRun.succ hr.out hf2), Lib.hid hm2, Lib.hid hb2⟩
            case measure => simp [intOf]; omega
          · obtain rfl : q = k := by omega
            go_wp2
            go_ret
            exact ⟨_, _, _, st, rfl, hr.out, hm.out, hbw.out⟩
end Go.Proofs.YtonmkmghpiagjaaDoor
