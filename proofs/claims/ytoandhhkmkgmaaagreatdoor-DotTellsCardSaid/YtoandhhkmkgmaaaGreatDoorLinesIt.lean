/- Contracts: strings.Lines, and what the iterator that it gives does. -/
import Derived.Test.YtoandhhkmkgmaaaGreatDoorLines
import Derived.Test.YtoandhhkmkgmaaaGreatDoorShelf
import Derived.Shelf.Abstract
import Derived.Lib.Hide
import Derived.IntWalk
import Derived.RegionIn
import Derived.Shelf.RegionOpen
namespace Go.Proofs.YtoandhhkmkgmaaaGreatDoor
open Go.RowKit Go.Shelf
attribute [local go_sem] Oper.semAt_some

theorem linesL_cons (x : UInt8) (r : List UInt8) : linesL (x :: r) = if x = 10 then [10] :: linesL r else match linesL r with
    | [] => [[x]]
    | p :: q => (x :: p) :: q := by
  rw [linesL]
  rfl
theorem lines_hit : ∀ {l : List UInt8} {i : Nat}, Lib.indexByte l 10 = (i : Int) → i < l.length ∧ linesL l = l.take (i + 1) :: linesL (l.drop (i + 1))
  | [], i, h => by simp [Lib.indexByte] at h
  | x :: r, i, h => by
    unfold Lib.indexByte at h
    by_cases hx : x = 10
    · rw [if_pos (by simp [hx])] at h
      obtain rfl : i = 0 := by omega
      refine ⟨by simp, ?_⟩
      rw [linesL_cons, if_pos hx, hx]
      rfl
    · rw [if_neg (by simp [hx])] at h
      by_cases hm : Lib.indexByte r 10 = -1
      · rw [if_pos (by simp [hm])] at h; omega
      · rw [if_neg (by simp [hm])] at h
        have hge := Lib.indexByte_ge r 10
        obtain ⟨j, hj⟩ : ∃ j : Nat, Lib.indexByte r 10 = (j : Int) := ⟨(Lib.indexByte r 10).toNat, by omega⟩
        obtain rfl : i = j + 1 := by omega
        obtain ⟨h1, h2⟩ := lines_hit hj
        refine ⟨by simp; omega, ?_⟩
        rw [linesL_cons, if_neg hx, h2]
        rfl
theorem lines_miss : ∀ {l : List UInt8}, Lib.indexByte l 10 = -1 → l ≠ [] → linesL l = [l]
  | [], _, h => absurd rfl h
  | x :: r, h, _ => by
    unfold Lib.indexByte at h
    by_cases hx : x = 10
    · rw [if_pos (by simp [hx])] at h; cases h
    · rw [if_neg (by simp [hx])] at h
      by_cases hm : Lib.indexByte r 10 = -1
      · rw [linesL_cons, if_neg hx]
        cases r with
        | nil => rfl
        | cons y t => rw [lines_miss hm (by simp)]
      · rw [if_neg (by simp [hm])] at h
        have hge := Lib.indexByte_ge r 10
        omega
theorem linE (l : List UInt8) (a b : Nat) : (⟨l.toArray⟩ : ByteArray).extract a b = ⟨((l.drop a).take (b - a)).toArray⟩ := by
  have e : ((⟨l.toArray⟩ : ByteArray).extract a b).data = (⟨((l.drop a).take (b - a)).toArray⟩ : ByteArray).data := by simp [List.extract_eq_take_drop]
  exact congrArg ByteArray.mk e
theorem linT (l : List UInt8) (k : Nat) : (⟨l.toArray⟩ : ByteArray).extract 0 k = ⟨(l.take k).toArray⟩ := by rw [linE]; simp
theorem linD (l : List UInt8) (k : Nat) : (⟨l.toArray⟩ : ByteArray).extract k l.length = ⟨(l.drop k).toArray⟩ := by
  rw [linE, List.take_of_length_le (by simp)]
/-- What is left in the iterator's variable. -/
def leftIn (B : Nat) (w : World) : Nat := match w.cell? ⟨B, 0, none⟩ with
  | some (.string b) => b.size
  | _ => 0
theorem leftIn_eq {B : Nat} {w : World} {T : TypeId} {s : List UInt8} (h : w.heap[B]? = some (.cells #[strV s] T (0, 0))) : leftIn B w = s.length := by
  unfold leftIn World.cell?
  simp [h, strV, ByteArray.size]
theorem box_cell {B : Nat} {w : World} {T : TypeId} {v : Value} (h : w.heap[B]? = some (.cells #[v] T (0, 0))) : w.cell? ⟨B, 0, none⟩ = some v ∧ w.frozen? ⟨B, 0, none⟩ = false := by
  constructor
  · unfold World.cell?; simp [h]
  · simp [World.frozen?, h]
theorem box_set {B : Nat} {w : World} {T : TypeId} {v : Value} (h : w.heap[B]? = some (.cells #[v] T (0, 0))) (u : Value) : (w.setCell ⟨B, 0, none⟩ u).heap[B]? = some (.cells #[u] T (0, 0)) := by
  have := heap_setCell_same w B 0 #[v] T u h
  rw [this]
  rfl
theorem but3_set {B : Nat} (w : World) (u : Value) : But3 B B B w (w.setCell ⟨B, 0, none⟩ u) := ⟨rfl, rfl, rfl, by simp, fun k _ h1 _ _ => Below.heap_setCell _ _ _ _ h1⟩
set_option maxHeartbeats 2000000 in
theorem lines_con (B : Nat) (n : Nat) (s : List UInt8) (hs : s.length ≤ 9223372036854775806) (hn : 1 ≤ n) : LinesCon Tryz.prog 109 B 9 n s := by
  intro l J Jx W hB hJ hY h0
  have HJ := Lib.hid hJ
  have HY := Lib.hid hY
  clear hJ hY
  refine callsIn_of_wp Tryz.func109 rfl trivial ?_ rfl
  simp only [Tryz.ntmps109, List.size_toArray, List.length_cons, List.length_nil, Nat.reduceAdd, Nat.reduceSub, Array.replicate_succ, Array.replicate_zero, List.push_toArray, List.append_toArray, List.nil_append, List.cons_append]
  gi_wp2
  gi_loopw [3] (fun _ wr => ∃ (ls : List (List UInt8)) (rest : List UInt8), Hid (linesL s = ls ++ linesL rest) ∧ Hid (wr.heap[B]? = some (.cells #[strV rest] 9 (0, 0))) ∧ rest.length ≤ 9223372036854775806 ∧ Hid (J ls wr))
    (fun _ wr => leftIn B wr)
  case atStart => exact ⟨[], s, Lib.hid rfl, Lib.hid hB, hs, Lib.hid h0⟩
  case round =>
    obtain ⟨ls, rest, HL, HB, hr, HI⟩ := hrel
    obtain ⟨c1, f1⟩ := box_cell HB.out
    by_cases he : rest = []
    · subst he
      unfold strV at c1
      gi_wp2
      go_end0
      exact ⟨⟨_, rfl⟩, .inl (by have := HL.out; rw [show linesL [] = [] from rfl, List.append_nil] at this; rw [this]; exact HI.out)⟩
    · have hpos : 0 < rest.length := List.length_pos_iff.2 he
      have hge := Lib.indexByte_ge rest 10
      by_cases hm : Lib.indexByte rest 10 = -1
      · have HLM := Lib.hid (lines_miss hm he)
        have hY1 := HY.out ls rest (wr.setCell ⟨B, 0, none⟩ (strV [])) (HJ.out _ _ _ HI.out (but3_set _ _) ⟨_, box_set HB.out _⟩) ⟨_, box_set HB.out _⟩ (by rw [HL.out, HLM.out]; exact List.prefix_append_right_inj _ |>.2 ⟨[], by simp⟩)
        obtain ⟨fn, tmps, assign, body, hy, hR⟩ := hY1
        have HI10 : Hid (Lib.indexByte rest 10 = -1) := Lib.hid hm
        clear hm hge
        unfold strV at c1 hy
        have hbs : (⟨rest.toArray⟩ : ByteArray).size = rest.length := by simp [ByteArray.size]
        have HBS := Lib.hid hbs
        have hIx : Calls Tryz.prog 110 #[.string ⟨rest.toArray⟩, .int .u8 10] wr fun e w' => e = .returned (.int .i64 (-1)) ∧ wr = w' := (Tryz.strings_IndexByte ⟨rest.toArray⟩ 10 wr).mono fun e w' h => ⟨by rw [h.1]; exact congrArg (fun z => Ending.returned (.int .i64 z)) HI10.out, h.2.symm⟩
        have hz : 0 < (⟨rest.toArray⟩ : ByteArray).size := by rw [hbs]; exact hpos
        clear hbs he
        generalize (⟨rest.toArray⟩ : ByteArray) = bs at *
        gi_wp2_with (refine ⟨trivial, ?_⟩; gi_at_call 110; refine (callsIn_wide.2 hIx).mono ?_; rintro e w' ⟨rfl, rfl⟩)
        have HS := Lib.hid (box_set HB.out (strV []))
        clear hy
        refine hR.mono ?_
        rintro e W3 (⟨rfl, hJ3, hB3⟩ | ⟨rfl, hJx3⟩)
        · have HJ3 := Lib.hid hJ3
          have HB3 := Lib.hid (hB3.trans HS.out)
          clear hJ3 hB3 hR
          gi_wp2
          go_roundw
          case rel => exact ⟨ls ++ [rest], [], Lib.hid (by rw [HL.out, HLM.out, show linesL [] = [] from rfl, List.append_nil]), HB3, by simp, HJ3⟩
          case measure => rw [leftIn_eq HB3.out, leftIn_eq HB.out]; exact hpos
        · clear hR
          gi_wp2
          refine bodyPost_ret (results_none rfl _ _ _) rfl ?_
          exact ⟨⟨_, rfl⟩, .inr hJx3⟩
      · obtain ⟨i, hi⟩ : ∃ i : Nat, Lib.indexByte rest 10 = (i : Int) := ⟨(Lib.indexByte rest 10).toNat, by omega⟩
        obtain ⟨hil, hlh⟩ := lines_hit hi
        have HLH := Lib.hid hlh
        have hY1 := HY.out ls (rest.take (i + 1)) ((wr.setCell ⟨B, 0, none⟩ (strV (rest.drop (i + 1)))).drew) (HJ.out _ _ _ HI.out ((but3_set _ _).trans ⟨rfl, rfl, rfl, Nat.le_refl _, fun _ _ _ _ _ => rfl⟩) ⟨_, box_set HB.out _⟩) ⟨_, box_set HB.out _⟩ (by rw [HL.out, HLH.out]; exact List.prefix_append_right_inj _ |>.2 ⟨_, rfl⟩)
        obtain ⟨fn, tmps, assign, body, hy, hR⟩ := hY1
        have HI10 : Hid (Lib.indexByte rest 10 = (i : Int)) := Lib.hid hi
        clear hm hge hi hlh
        unfold strV at c1 hy
        have hbs : (⟨rest.toArray⟩ : ByteArray).size = rest.length := by simp [ByteArray.size]
        have HBS := Lib.hid hbs
        have hIx : Calls Tryz.prog 110 #[.string ⟨rest.toArray⟩, .int .u8 10] wr fun e w' => e = .returned (.int .i64 (i : Int)) ∧ wr = w' := (Tryz.strings_IndexByte ⟨rest.toArray⟩ 10 wr).mono fun e w' h => ⟨by rw [h.1]; exact congrArg (fun z => Ending.returned (.int .i64 z)) HI10.out, h.2.symm⟩
        have hz : 0 < (⟨rest.toArray⟩ : ByteArray).size := by rw [hbs]; exact hpos
        have he1 : (⟨rest.toArray⟩ : ByteArray).extract 0 (i + 1) = ⟨(rest.take (i + 1)).toArray⟩ := linT rest (i + 1)
        have he2 : (⟨rest.toArray⟩ : ByteArray).extract (i + 1) (⟨rest.toArray⟩ : ByteArray).size = ⟨(rest.drop (i + 1)).toArray⟩ := by rw [hbs]; exact linD rest (i + 1)
        have hil2 : i + 1 ≤ (⟨rest.toArray⟩ : ByteArray).size := by rw [hbs]; omega
        have hil3 : ((i : Int) + 1) ≤ ((⟨rest.toArray⟩ : ByteArray).size : Int) := by rw [hbs]; omega
        have hi0 : (0 : Int) ≤ (i : Int) := by omega
        have hib : (i : Int) + 1 ≤ 9223372036854775807 := by omega
        have hi1 : (0 : Int) ≤ (i : Int) + 1 := by omega
        have hi2 : ((i : Int) + 1).toNat = i + 1 := by omega
        have hi3 : IntKind.i64.wrap ((i : Int) + 1) = (i : Int) + 1 := IntWalk.i64_in _ (by omega)
        clear hbs he
        generalize (⟨rest.toArray⟩ : ByteArray) = bs at *
        generalize hta : (⟨(rest.take (i + 1)).toArray⟩ : ByteArray) = ta at *
        generalize htd : (⟨(rest.drop (i + 1)).toArray⟩ : ByteArray) = td at *
        have HTD := Lib.hid htd
        clear hta htd
        gi_wp2_with (refine ⟨trivial, ?_⟩; gi_at_call 110; refine (callsIn_wide.2 hIx).mono ?_; rintro e w' ⟨rfl, rfl⟩)
        gi_region
        have HS := Lib.hid (box_set HB.out (strV (rest.drop (i + 1))))
        have HDL : Hid ((rest.drop (i + 1)).length < rest.length) := Lib.hid (by rw [List.length_drop]; omega)
        gi_wp2
        clear hy
        have htd2 := HTD.out
        subst htd2
        refine hR.mono ?_
        rintro e W3 (⟨rfl, hJ3, hB3⟩ | ⟨rfl, hJx3⟩)
        · have HJ3 := Lib.hid hJ3
          have HB3 := Lib.hid (hB3.trans HS.out)
          clear hJ3 hB3 hR
          gi_wp2
          go_roundw
          case rel => exact ⟨ls ++ [rest.take (i + 1)], rest.drop (i + 1), Lib.hid (by rw [HL.out, HLH.out]; simp), HB3, by have := HDL.out; omega, HJ3⟩
          case measure => rw [leftIn_eq HB3.out, leftIn_eq HB.out]; exact HDL.out
        · clear hR
          gi_wp2
          refine bodyPost_ret (results_none rfl _ _ _) rfl ?_
          exact ⟨⟨_, rfl⟩, .inr hJx3⟩
set_option maxHeartbeats 1000000 in
/-- strings.Lines: the iterator, its text in a box of its own. -/
theorem sLines_any (s : ByteArray) (w : World) : Calls Tryz.prog 54 #[.string s] w fun e w' => e = .returned (.func (.func 109) #[] #[.pointer (some ⟨w.heap.size, 0, none⟩)]) ∧ w' = w.alloc (.cells #[.string s] 9) := by
  go_enter Tryz.func54, Tryz.ntmps54
  go_wp2
  go_ret
  exact ⟨rfl, rfl⟩
end Go.Proofs.YtoandhhkmkgmaaaGreatDoor
