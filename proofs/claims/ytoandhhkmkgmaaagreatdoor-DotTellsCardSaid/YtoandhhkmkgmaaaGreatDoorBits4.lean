/- Contracts: Numbers and List: the numbers of a set, rising, in new memory. Sets are below 2^64; the table of math/bits lies. -/
import Derived.Test.YtoandhhkmkgmaaaGreatDoorBits1
import Derived.Test.YtoandhhkmkgmaaaGreatDoorOwn
namespace Go.Proofs.YtoandhhkmkgmaaaGreatDoor
open Go.RowKit

theorem elInt : ElT Tryz.prog 104 3 (.int .i64 0) 8 := ElT.mk' Tryz.underlying104 (by kernel_rfl) rfl
/-- Numbers as values. -/
def nv (k : Nat) : Value := .int .i64 (k : Int)
/-- A slice in new memory, that reads as xs. -/
def OwnPost (E : TypeId) (n : Nat) (xs : List Value) (w : World) (e : Ending) (w' : World) : Prop :=
  ∃ A c, e = .returned (.slice A n c) ∧ w'.ownsRow w.heap.size E 1 (.slice A n c) n xs ∧ Below w.heap.size w w'

theorem numbers_snoc (s k : Nat) : (List.range (k + 1)).filter (fun i => s.testBit i) = (List.range k).filter (fun i => s.testBit i) ++ if s.testBit k then [k] else [] := by
  rw [List.range_succ, List.filter_append]
  cases h : s.testBit k <;> simp [h]
theorem len_range (s k : Nat) : ((List.range k).filter fun i => s.testBit i).length ≤ k := Nat.le_trans (List.length_filter_le _ _) (by simp)

theorem rNumbers_any (s : Nat) (hs : B64 s) (w : World) :
    Calls Tryz.prog 59 #[.int .u64 s] w (OwnPost 3 (nums s).length ((nums s).map nv) w) := by
  have HS := Lib.hid hs
  clear hs
  go_enter Tryz.func59, Tryz.ntmps59
  go_wp2
  go_loopw [3, 4, 5] (fun v _ i wr => ∃ k : Nat, k ≤ 64 ∧ i = .int .i64 k ∧ ∃ A c n, v = .slice A n c ∧ wr.ownsRow w.heap.size 3 1 (.slice A n c) n (((List.range k).filter fun i => s.testBit i).map nv) ∧ Below w.heap.size w wr) (fun _ _ i _ => 64 - (intOf i).toNat)
  case atStart => exact ⟨0, by omega, rfl, none, 0, 0, rfl, World.ownsRow_nil _ _ _ _, Below.refl _ _⟩
  case round =>
    obtain ⟨k, hk, rfl, A, c, n, rfl, hown, hb⟩ := hrel
    have hn : n ≤ 64 := by
      have h1 := own_len hown
      have h2 := len_range s k
      simp at h1
      omega
    by_cases hlt : k < 64
    · have HT := Lib.hid (numbers_snoc s k)
      cases hbit : s.testBit k with
      | false =>
        rw [hbit] at HT
        go_wp2_with (go_at_call 58; refine (in_nat _ HS.out _ _).mono ?_; rintro e w' ⟨rfl, rfl⟩)
        go_roundw
        case rel => exact ⟨k + 1, by omega, by go_num, A, c, n, rfl, by rw [HT.out]; simpa using hown, hb⟩
        case measure => simp [intOf]; omega
      | true =>
        rw [hbit] at HT
        have hbs := hb.size
        go_wp2_with (first | (go_at_call 58; refine (in_nat _ HS.out _ _).mono ?_; rintro e w' ⟨rfl, rfl⟩) | (at_builtin; refine wpList_push elInt wr _ _ w.heap.size A n c _ _ hown rfl hbs (by omega) (by omega) rfl rfl rfl rfl ?_; intro A' c' w1 hown1 hb1))
        go_roundw
        case rel => exact ⟨k + 1, by omega, by go_num, A', c', n + 1, by go_num, by rw [HT.out]; simpa [nv] using hown1, hb.trans hb1⟩
        case measure => simp [intOf]; omega
    · obtain rfl : k = 64 := by omega
      have hl := own_len hown
      simp at hl
      have HL := Lib.hid hl
      clear hl
      go_wp2
      go_ret
      refine ⟨A, c, ret_slice (show n = (nums s).length from HL.out.symm), ?_, hb⟩
      rw [show (nums s).length = n from HL.out]
      exact hown

theorem list_any (s : Nat) (hs : B64 s) (w : World) (ht : Tab w) :
    Calls Tryz.prog 73 #[.int .u64 s] w (OwnPost 3 (nums s).length ((nums s).map nv) w) := by
  have HS := Lib.hid hs
  have HT := Lib.hid ht
  have hl := nums_len s
  have HD := Lib.hid (fun (j : Nat) (hj : j < (nums s).length) => dropS_ne hs hj)
  have HB := Lib.hid (fun (j : Nat) => dropS_b64 hs j)
  have HW := Lib.hid (fun (j : Nat) (hj : j < (nums s).length) => dropS_low hs hj)
  have HZ : Hid (dropS s (nums s).length = 0) := Lib.hid (by
    have := dropS_nums hs (nums s).length (Nat.le_refl _)
    simp at this
    exact Classical.byContradiction fun h => nums_ne (dropS_b64 hs _) h this)
  have HK := Lib.hid (fun (j : Nat) (hj : j < (nums s).length) => take_snoc (nums s) 0 j hj)
  clear hs ht
  obtain ⟨i0, hi, hz0, hz1, hz2⟩ := info_parts (show (Tryz.prog.info? 3).map (fun i => (i.zero, i.size, i.bytes)) = some (some (.int .i64 0), 1, 8) by kernel_rfl)
  go_enter Tryz.func73, Tryz.ntmps73
  go_wp2_with (first | (go_at_call 130; refine (count_any _ HS.out _).mono ?_; rintro e w' ⟨rfl, rfl⟩) | (at_make; refine wpList_make_own _ rfl _ _ 104 rfl w.heap.size 3 i0 (.int .i64 0) 1 Tryz.underlying104 hi hz0 hz1 _ _ _ (nums s).length rfl rfl (by omega) ?b2 ?b3 (Nat.le_refl _) ?_))
  case b2 => rw [hz2]; omega
  case b3 => unfold maxLen; omega
  intro w0 hown0 hg0
  go_wp2
  generalize hL : (nums s).length = L at *
  go_loopw [0, 3] (fun t v wr => ∃ j A c, j ≤ L ∧ t = .int .u64 (dropS s j : Nat) ∧ v = .slice A j c ∧ wr.ownsRow w.heap.size 3 1 (.slice A j c) j (((nums s).take j).map nv) ∧ Below w.heap.size w wr)
    (fun _ v _ => match v with | .slice _ j _ => L - j | _ => 0)
  case atStart => exact ⟨0, _, _, by omega, rfl, rfl, by simpa using hown0, (Below.refl _ _).grown hg0 (Nat.le_refl _) (fun k h => by cases h)⟩
  case round =>
    obtain ⟨j, A, c, hj, rfl, rfl, hown, hb⟩ := hrel
    have hbs := hb.size
    have hTab := HT.out.below hb
    have HTW := Lib.hid hTab
    clear hTab
    by_cases hlt : j < L
    · have hz : (((dropS s j : Nat) : Int) != 0) = true := by have := HD.out j (by omega); simp; omega
      have hr := drop1_raw (dropS s j) (HB.out j) (HD.out j hlt)
      go_wp2_with (first | (go_at_call 131; refine (least_any _ (HB.out _) (HD.out _ hlt) _ HTW.out).mono ?_; rintro e w' ⟨rfl, rfl⟩) | (at_builtin; refine wpList_push elInt wr _ _ w.heap.size A j c _ _ hown rfl hbs (by omega) (by omega) rfl rfl rfl rfl ?_; intro A' c' w1 hown1 hb1))
      go_roundw
      case rel => exact ⟨j + 1, A', c', by omega, rfl, rfl, by rw [HK.out j hlt]; simpa [nv, HW.out j hlt] using hown1, hb.trans hb1⟩
      case measure => simp; omega
    · obtain rfl : j = L := by omega
      have hz : (((dropS s j : Nat) : Int) != 0) = false := by rw [HZ.out]; rfl
      have ht : (nums s).take j = nums s := List.take_of_length_le (by omega)
      rw [ht] at hown
      clear ht
      go_wp2
      go_ret
      exact ⟨A, c, rfl, hown, hb⟩
end Go.Proofs.YtoandhhkmkgmaaaGreatDoor
