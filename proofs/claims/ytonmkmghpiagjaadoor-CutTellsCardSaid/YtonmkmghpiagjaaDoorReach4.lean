/- Contracts: back of package reach, Turned of the reference: rows turned, in new memory. Rows are good; the table of math/bits lies. -/
import Derived.Test.YtonmkmghpiagjaaDoorReach1
import Derived.Test.YtonmkmghpiagjaaDoorBits4
import Derived.RegionTactic
import Derived.ChangeAlike
namespace Go.Proofs.YtonmkmghpiagjaaDoor
open Go.RowKit

theorem map_range_set {α : Type} (n q : Nat) (f : Nat → α) (v : α) : ((List.range n).map f).set q v = (List.range n).map (fun c => if c = q then v else f c) := by
  apply List.ext_getElem?
  intro i
  rw [List.getElem?_set, List.getElem?_map, List.getElem?_map]
  by_cases hi : i < n
  · have h1 : (List.range n)[i]? = some i := by simp [hi]
    rw [h1]
    by_cases hq : q = i
    · subst hq; simp [hi]
    · have : ¬ i = q := fun e => hq e.symm
      simp [hq, this]
  · have h1 : (List.range n)[i]? = none := by simp; omega
    rw [h1]
    by_cases hq : q = i
    · subst hq; simp; omega
    · simp [hq]
/-- Row i half done: which columns have it already. -/
def colMid (l : List Nat) (i : Nat) (done : List Nat) (c : Nat) : Nat := if c ∈ done then addN (colUp l c i) i else colUp l c i
theorem colMid_end {l : List Nat} (hl : Rows64 l) (i c : Nat) : colMid l i (nums (rowAt l i)) c = colUp l c (i + 1) := by
  unfold colMid
  by_cases h : c ∈ nums (rowAt l i)
  · have := (mem_nums (hl i)).1 h
    rw [if_pos h, colUp, if_pos this]
  · have := fun e => h ((mem_nums (hl i)).2 e)
    rw [if_neg h, colUp, if_neg this]
theorem colMid_step {l : List Nat} {i q : Nat} {done : List Nat} (hq : q ∉ done) (c : Nat) : (if c = q then addN (colUp l q i) i else colMid l i done c) = colMid l i (done ++ [q]) c := by
  unfold colMid
  by_cases h : c = q
  · subst h; simp
  · simp [h]
theorem nums_take_not {s j : Nat} (hj : j < (nums s).length) : (nums s)[j]?.getD 0 ∉ (nums s).take j := by
  have hnd := nums_nodup s
  have hs := take_snoc (nums s) 0 j hj
  have h2 : ((nums s).take (j + 1)).Nodup := hnd.sublist (List.take_sublist _ _)
  rw [hs, List.nodup_append] at h2
  intro hm
  exact h2.2.2 _ hm _ (by simp) rfl
theorem zero_rows (n : Nat) (l : List Nat) : List.replicate n (Value.int .u64 0) = ((List.range n).map fun c => colUp l c 0).map uv := by
  apply List.ext_getElem?
  intro i
  rw [List.getElem?_map, List.getElem?_map, List.getElem?_replicate]
  by_cases hi : i < n
  · simp [hi, colUp, uv]
  · simp [hi]

set_option maxHeartbeats 400000 in
theorem back_any {A : Option Addr} {n c : Nat} (l : List Nat) (w : World) (h1 : Rd w A (l.map uv)) (hl : l.length = n) (hg : Good l) (ht : Tab w) :
    Calls Tryd.prog 132 #[.slice A n c] w (OwnPost 23 n ((turned l).map uv) w) := by
  have hn : n ≤ 64 := by have := hg.1; omega
  have HL := Lib.hid hl
  have HG := Lib.hid hg
  have HT := Lib.hid ht
  have H1 := Lib.hid h1
  clear hl hg ht h1
  go_enter Tryd.func132, Tryd.ntmps132
  go_wp2_with (at_make; refine wpList_new elU64 rfl w _ w.heap.size n .i64 (by omega) (by omega) (Nat.le_refl _) rfl rfl rfl ?_)
  intro w0 hown0 hb0 hlt0
  rw [zero_rows n l] at hown0
  have HO0 := Lib.hid hown0
  have HB0 := Lib.hid hb0
  clear hown0 hb0
  go_wp2
  go_loopw [4, 5, 7, 13, 19, 20, 21] (fun _ _ _ i _ _ _ wr => ∃ k : Nat, k ≤ n ∧ i = .int .i64 k ∧ Hid (w.heap.size < wr.heap.size) ∧ Hid (wr.ownsRow w.heap.size 23 1 (.slice (some ⟨w.heap.size, 0, none⟩) n n) n (((List.range n).map fun c => colUp l c k).map uv)) ∧ Hid (Below w.heap.size w wr)) (fun _ _ _ i _ _ _ _ => n - (intOf i).toNat)
  case atStart => exact ⟨0, by omega, rfl, Lib.hid hlt0, HO0, HB0⟩
  case round =>
    obtain ⟨i, hi, rfl, hlt1, hown, hb⟩ := hrel
    by_cases hlt : i < n
    · have HTW := Lib.hid (HT.out.below hb.out)
      have HIB := Lib.hid (HG.out.b64 i)
      obtain ⟨b, o, rfl, e1⟩ := (H1.out.below hb.out).set (k := i) (by rw [HL.out]; exact hlt)
      go_wp2_with fail
      refine (list_any _ HIB.out _ HTW.out).mono ?_
      rintro e w2 ⟨A2, c2, rfl, hown2, hb2⟩
      have HR2 := Lib.hid hown2
      have hwr : w.heap.size < wr.heap.size := hlt1.out
      have hlen2 := nums_len (rowAt l i)
      have HO2 := Lib.hid (own_below hown.out hb2)
      have HBE := Lib.hid (hb.out.trans (hb2.mono hb.out.size))
      clear hown2 hb2 hown hb
      go_wp2_with fail
      go_loopw [7, 21] (fun _ j wq => ∃ k : Nat, k ≤ (nums (rowAt l i)).length ∧ j = .int .i64 k ∧ Hid (wq.ownsRow w.heap.size 23 1 (.slice (some ⟨w.heap.size, 0, none⟩) n n) n (((List.range n).map (colMid l i ((nums (rowAt l i)).take k))).map uv)) ∧ Hid (Below w.heap.size w wq) ∧ Hid (wq.ownsRow wr.heap.size 3 1 (.slice A2 (nums (rowAt l i)).length c2) (nums (rowAt l i)).length ((nums (rowAt l i)).map nv))) (fun _ j _ => (nums (rowAt l i)).length - (intOf j).toNat)
      case atStart => exact ⟨0, by omega, rfl, HO2, HBE, HR2⟩
      case round =>
        obtain ⟨k, hk, rfl, hown, hb, hr⟩ := hrel
        by_cases hkl : k < (nums (rowAt l i)).length
        · obtain ⟨b2, o2, rfl, hc⟩ := (Rd.of_own hr.out).at_ (k := k) (by simpa using hkl)
          have hc' : wr.cell? ⟨b2, o2 + k, none⟩ = some (.int .i64 ((nums (rowAt l i))[k]?.getD 0 : Nat)) := by rw [hc]; simp [nv, hkl]
          have hqm : (nums (rowAt l i))[k]?.getD 0 ∈ nums (rowAt l i) := by simp [hkl]
          have hqn : (nums (rowAt l i))[k]?.getD 0 < n := by
            have := HG.out.2 i _ ((mem_nums HIB.out).1 hqm)
            rw [HL.out] at this; exact this
          have HNT := Lib.hid (nums_take_not hkl)
          have HTK := Lib.hid (take_snoc (nums (rowAt l i)) 0 k hkl)
          clear hc hqm
          generalize (nums (rowAt l i))[k]?.getD 0 = q at *
          have hcq : wr.cell? ⟨w.heap.size, q, none⟩ = some (.int .u64 (colUp l q i : Nat)) := by
            rw [hown.out.cellAt q (by omega)]
            simp [hqn, uv, colMid, HNT.out]
          have hfq := hown.out.frozenAt q
          have her := or_raw (colUp l q i) i (colUp_b64 l q i (by omega)) (by omega)
          have HROW := Lib.hid (hown.out.stored q (.int .u64 ((addN (colUp l q i) i : Nat) : Int))).1
          have HBS := Lib.hid (hb.out.setCell (p := ⟨w.heap.size, q, none⟩) (Nat.le_refl _) (.int .u64 ((addN (colUp l q i) i : Nat) : Int)))
          have HRS := Lib.hid (own_far hr.out (hown.out.stored q (.int .u64 ((addN (colUp l q i) i : Nat) : Int))).2 hwr)
          clear hown hb hr
          go_wp2
          go_region
          go_wp2
          go_roundw
          case rel =>
            refine ⟨k + 1, by omega, by go_num, Lib.hid ?_, Lib.hid HBS.out.drew, ?_⟩
            · have := HROW.out
              rw [show (Value.int .u64 ((addN (colUp l q i) i : Nat) : Int)) = uv (addN (colUp l q i) i) from rfl, ← List.map_set, map_range_set] at this
              rw [HTK.out]
              have he : ((List.range n).map fun c => if c = q then addN (colUp l q i) i else colMid l i ((nums (rowAt l i)).take k) c) = (List.range n).map (colMid l i ((nums (rowAt l i)).take k ++ [q])) :=
                List.map_congr_left fun c _ => colMid_step HNT.out c
              rw [he] at this
              exact this
            · exact Lib.hid HRS.out.drew
          case measure => simp [intOf]; omega
        · obtain rfl : k = (nums (rowAt l i)).length := by omega
          have hown' := hown.out
          rw [List.take_of_length_le (Nat.le_refl _), List.map_congr_left (fun c _ => colMid_end HG.out.b64 i c)] at hown'
          have HOE := Lib.hid hown'
          have HSZ : Hid (w.heap.size < wr.heap.size) := Lib.hid (by
            rcases hown'.2 with ⟨h, _⟩ | ⟨g, _, _, h, _, hg, _⟩
            · cases h
            · injection h with h _ _
              injection h with h
              injection h with h _ _
              subst h
              rcases Nat.lt_or_ge w.heap.size wr.heap.size with h2 | h2
              · exact h2
              · rw [Array.getElem?_eq_none h2] at hg; cases hg)
          clear hown' hown hr
          go_wp2
          go_roundw
          case rel => exact ⟨i + 1, by omega, by go_num, HSZ, HOE, hb⟩
          case measure => simp [intOf]; omega
    · obtain rfl : i = n := by omega
      have HE : Hid (((List.range i).map fun c => colUp l c i) = turned l) := Lib.hid (by unfold turned; rw [HL.out])
      go_wp2
      go_ret
      exact ⟨_, _, rfl, by rw [← HE.out]; exact hown.out, hb.out⟩
end Go.Proofs.YtonmkmghpiagjaaDoor
