/- Contracts of the reference: Without, RuledBy. The rows are good. -/
import Derived.Test.YtonmkmghpiagjaaDoorDomPlain
import Derived.Test.YtonmkmghpiagjaaDoorOrd
import Derived.Test.YtonmkmghpiagjaaDoorReach5
namespace Go.Proofs.YtonmkmghpiagjaaDoor
open Go.RowKit

/-- While Without goes: the rows below k stand. -/
def woMid (l : List Nat) (a k i : Nat) : Nat := if i < k then woRow l a i else 0
theorem woMid_start (n : Nat) (l : List Nat) (a : Nat) : List.replicate n (Value.int .u64 0) = ((List.range n).map (woMid l a 0)).map uv := by
  have := zero_rows n l
  rw [this]
  congr 1
theorem woMid_set (l : List Nat) (a k i : Nat) (hk : k ≠ a) : (if i = k then drop (rowAt l k) a else woMid l a k i) = woMid l a (k + 1) i := by
  unfold woMid woRow
  by_cases h : i = k
  · subst h
    simp [hk]
  · have e : (i < k + 1) ↔ (i < k) := by omega
    simp [h, e]
theorem woMid_skip (l : List Nat) (a i : Nat) : woMid l a a i = woMid l a (a + 1) i := by
  unfold woMid woRow
  by_cases h : i = a
  · subst h
    simp
  · have e : (i < a + 1) ↔ (i < a) := by omega
    simp [h, e]
theorem woMid_all (l : List Nat) (a n : Nat) (hn : l.length = n) : (List.range n).map (woMid l a n) = withoutL l a := by
  unfold withoutL
  rw [hn]
  apply List.map_congr_left
  intro c hc
  have := List.mem_range.1 hc
  unfold woMid
  rw [if_pos this]

set_option maxHeartbeats 1000000 in
theorem rWithout_any {A : Option Addr} {n c : Nat} (l : List Nat) (a : Nat) (w : World) (h1 : Rd w A (l.map uv)) (hl : l.length = n) (hg : Good l) (ha : a < n) :
    Calls Tryd.prog 21 #[.slice A n c, .int .i64 (a : Int)] w (OwnPost 23 n ((withoutL l a).map uv) w) := by
  have hn : n ≤ 64 := by have := hg.1; omega
  have HL := Lib.hid hl
  have HG := Lib.hid hg
  have H1 := Lib.hid h1
  clear hl hg h1
  go_enter Tryd.func21, Tryd.ntmps21
  go_wp2_with (at_make; refine wpList_new elU64 rfl w _ w.heap.size n .i64 (by omega) (by omega) (Nat.le_refl _) rfl rfl rfl ?_)
  intro w0 hown0 hb0 hlt0
  rw [woMid_start n l a] at hown0
  have HO0 := Lib.hid hown0
  have HB0 := Lib.hid hb0
  clear hown0 hb0 hlt0
  go_wp2
  go_loopw [6, 12] (fun _ i wr => ∃ k : Nat, k ≤ n ∧ i = .int .i64 k ∧ Hid (wr.ownsRow w.heap.size 23 1 (.slice (some ⟨w.heap.size, 0, none⟩) n n) n (((List.range n).map (woMid l a k)).map uv)) ∧ Hid (Below w.heap.size w wr)) (fun _ i _ => n - (intOf i).toNat)
  case atStart => exact ⟨0, by omega, rfl, HO0, HB0⟩
  case round =>
    obtain ⟨k, hk, rfl, hown, hb⟩ := hrel
    by_cases hkl : k < n
    · by_cases hka : k = a
      · subst hka
        have hz : (((k : Int)) != (k : Int)) = false := by simp
        have HSK := Lib.hid (List.map_congr_left (l := List.range n) (fun c _ => woMid_skip l k c))
        go_wp2
        go_roundw
        case rel => exact ⟨k + 1, by omega, by go_num, Lib.hid (by rw [← HSK.out]; exact hown.out), hb⟩
        case measure => simp [intOf]; omega
      · have hz : (((k : Int)) != (a : Int)) = true := by simp; omega
        obtain ⟨b, o, rfl, e1⟩ := (H1.out.below hb.out).set (k := k) (by rw [HL.out]; exact hkl)
        have her := drop_raw (rowAt l k) a (HG.out.b64 k) (by omega)
        have hfq := hown.out.frozenAt k
        have hcq : wr.cell? ⟨w.heap.size, k, none⟩ = some (uv (woMid l a k k)) := by
          rw [hown.out.cellAt k (by omega)]
          simp [hkl]
        generalize uv (woMid l a k k) = u0 at hcq
        have HROW := Lib.hid (hown.out.stored k (.int .u64 ((drop (rowAt l k) a : Nat) : Int))).1
        have HBS := Lib.hid (hb.out.setCell (p := ⟨w.heap.size, k, none⟩) (Nat.le_refl _) (.int .u64 ((drop (rowAt l k) a : Nat) : Int)))
        have HSET := Lib.hid (fun c => woMid_set l a k c hka)
        clear hown hb hka
        go_wp2
        go_region
        go_wp2
        go_roundw
        case rel =>
          refine ⟨k + 1, by omega, by go_num, Lib.hid ?_, Lib.hid HBS.out.drew⟩
          have := HROW.out
          rw [show (Value.int .u64 ((drop (rowAt l k) a : Nat) : Int)) = uv (drop (rowAt l k) a) from rfl, ← List.map_set, map_range_set, List.map_congr_left (fun c _ => HSET.out c)] at this
          exact this
        case measure => simp [intOf]; omega
    · obtain rfl : k = n := by omega
      have HE := Lib.hid (woMid_all l a k HL.out)
      go_wp2
      go_ret
      exact ⟨_, _, rfl, by rw [← HE.out]; exact hown.out, hb.out⟩
end Go.Proofs.YtonmkmghpiagjaaDoor
