/- Contracts that the law's proof leans on, and plain lemmas to them, merged. No condition beyond each contract's own hypotheses. -/
import Derived.Lib.ItoaNum
import Derived.Lib.ParseIntB
import Derived.Test.YtoandhhkmkgmaaaGreatDoorMg2
import Derived.Lib.Split
import Derived.Test.YtoandhhkmkgmaaaGreatDoorMg13
namespace Go.Proofs.YtoandhhkmkgmaaaGreatDoor

def splitC (c : UInt8) : List UInt8 → List (List UInt8)
 | [] => [[]]
 | x :: r => if x = c then [] :: splitC c r else match splitC c r with
   | [] => [[x]]
   | p :: q => (x :: p) :: q
theorem splitC_cons (c x : UInt8) (r : List UInt8) : splitC c (x :: r) = if x = c then [] :: splitC c r else match splitC c r with
 | [] => [[x]]
 | p :: q => (x :: p) :: q := by rw [splitC]
theorem splitC_ne (c : UInt8) : ∀ s, splitC c s ≠ []
 | [] => by simp [splitC]
 | x :: r => by
   unfold splitC
   split
   ·simp
   ·split <;> simp
theorem splitC_free {c : UInt8} : ∀ {s : List UInt8}, c ∉ s → splitC c s = [s]
 | [], _ => rfl
 | x :: r, h => by
   rw [List.mem_cons, not_or] at h
   rw [splitC_cons, if_neg (fun e => h.1 e.symm), splitC_free h.2]
theorem splitC_app {c : UInt8} : ∀ {s : List UInt8} (t : List UInt8), c ∉ s → splitC c (s ++ c :: t) = s :: splitC c t
 | [], t, _ => by rw [List.nil_append, splitC_cons, if_pos rfl]
 | x :: r, t, h => by
   rw [List.mem_cons, not_or] at h
   rw [List.cons_append, splitC_cons, if_neg (fun e => h.1 e.symm), splitC_app t h.2]
def joinC (c : UInt8) : List (List UInt8) → List UInt8
 | [] => []
 | [p] => p
 | p :: q :: r => p ++ c :: joinC c (q :: r)
theorem joinC_splitC (c : UInt8) : ∀ s, joinC c (splitC c s) = s
 | [] => rfl
 | x :: r => by
   have ih := joinC_splitC c r
   unfold splitC
   split
   ·rename_i h
    subst h
    cases hq : splitC x r with
    | nil => exact absurd hq (splitC_ne x r)
    | cons p q => rw [hq] at ih; show [] ++ x :: joinC x (p :: q) = _; rw [ih]; rfl
   ·cases hq : splitC c r with
    | nil => exact absurd hq (splitC_ne c r)
    | cons p q =>
      rw [hq] at ih
      show joinC c ((x :: p) :: q) = x :: r
      cases q with
      | nil => show x :: p = x :: r; rw [← ih]; rfl
      | cons q0 q1 => show (x :: p) ++ c :: joinC c (q0 :: q1) = x :: r; rw [← ih]; rfl
end Go.Proofs.YtoandhhkmkgmaaaGreatDoor
namespace Go.Proofs.YtoandhhkmkgmaaaGreatDoor

theorem index_byte (c : UInt8) : ∀ s : List UInt8, Lib.index s [c] = Lib.indexByte s c
 | [] => rfl
 | b :: l => by
   unfold Lib.index Lib.indexByte
   rw [index_byte c l]
   have e : ([c].isPrefixOf (b :: l)) = (b == c) := by
    simp only [List.isPrefixOf, Bool.and_true]
    exact Bool.beq_comm
   rw [e]
theorem byte_miss {c : UInt8} : ∀ {s : List UInt8}, Lib.indexByte s c = -1 → c ∉ s
 | [], _ => by simp
 | b :: l, h => by
   unfold Lib.indexByte at h
   by_cases hb : b = c
   ·rw [if_pos (by simp [hb])] at h; cases h
   ·rw [if_neg (by simp [hb])] at h
    by_cases hm : Lib.indexByte l c = -1
    ·have := byte_miss hm
     simp only [List.mem_cons, not_or]
     exact ⟨fun e => hb e.symm, this⟩
    ·rw [if_neg (by simp [hm])] at h
     have := Lib.indexByte_ge l c
     omega
theorem byte_hit {c : UInt8} : ∀ {s : List UInt8} {i : Nat}, Lib.indexByte s c = (i : Int) → i < s.length ∧ c ∉ s.take i ∧ s = s.take i ++ c :: s.drop (i + 1)
 | [], i, h => by simp [Lib.indexByte] at h
 | b :: l, i, h => by
   unfold Lib.indexByte at h
   by_cases hb : b = c
   ·rw [if_pos (by simp [hb])] at h
    obtain rfl : i = 0 := by omega
    exact ⟨by simp, by simp, by simp [hb]⟩
   ·rw [if_neg (by simp [hb])] at h
    by_cases hm : Lib.indexByte l c = -1
    ·rw [if_pos (by simp [hm])] at h; omega
    ·rw [if_neg (by simp [hm])] at h
     have hge := Lib.indexByte_ge l c
     obtain ⟨j, hj⟩ : ∃ j : Nat, Lib.indexByte l c = (j : Int) := ⟨(Lib.indexByte l c).toNat, by omega⟩
     obtain rfl : i = j + 1 := by omega
     obtain ⟨h1, h2, h3⟩ := byte_hit hj
     refine ⟨by simp; omega, ?_, ?_⟩
     ·rw [List.take_succ_cons, List.mem_cons, not_or]
      exact ⟨fun e => hb e.symm, h2⟩
     ·rw [List.take_succ_cons, List.drop_succ_cons, List.cons_append, ← h3]
theorem countFrom_any {c : UInt8} : ∀ (f : Nat) (s : List UInt8), s.length < f → Lib.countFrom [c] f s = s.count c
 | 0, s, h => by omega
 | f + 1, s, h => by
   unfold Lib.countFrom
   rw [index_byte]
   by_cases hm : Lib.indexByte s c = -1
   ·rw [if_pos (by simp [hm]), List.count_eq_zero.2 (byte_miss hm)]
   ·have hge := Lib.indexByte_ge s c
    obtain ⟨i, hi⟩ : ∃ i : Nat, Lib.indexByte s c = (i : Int) := ⟨(Lib.indexByte s c).toNat, by omega⟩
    obtain ⟨h1, h2, h3⟩ := byte_hit hi
    rw [if_neg (by simp [hm]), hi]
    have e : ((i : Int).toNat + [c].length) = i + 1 := by simp
    rw [e, countFrom_any f _ (by rw [List.length_drop]; omega)]
    conv => rhs; rw [h3]
    rw [List.count_append, List.count_eq_zero.2 h2, List.count_cons]
    simp
    omega
theorem split_byte (c : UInt8) : ∀ (k : Nat) (s : List UInt8), s.count c = k → Lib.splitK [c] 0 k s = splitC c s
 | 0, s, h => by
   rw [splitC_free (List.count_eq_zero.1 h)]
   rfl
 | k + 1, s, h => by
   have hm : Lib.indexByte s c ≠ -1 := fun e => by rw [List.count_eq_zero.2 (byte_miss e)] at h; cases h
   have hge := Lib.indexByte_ge s c
   obtain ⟨i, hi⟩ : ∃ i : Nat, Lib.indexByte s c = (i : Int) := ⟨(Lib.indexByte s c).toNat, by omega⟩
   obtain ⟨h1, h2, h3⟩ := byte_hit hi
   unfold Lib.splitK
   rw [index_byte, if_neg (by simp [hm]), hi]
   have e : ((i : Int).toNat + [c].length) = i + 1 := by simp
   have e2 : ((i : Int).toNat + 0) = i := by simp
   have hk : (s.drop (i + 1)).count c = k := by
    rw [h3, List.count_append, List.count_eq_zero.2 h2, List.count_cons] at h
    simp at h
    omega
   rw [e, e2, split_byte c k _ hk]
   conv => rhs; rw [h3]
   rw [splitC_app _ h2]
theorem splitC_len (c : UInt8) : ∀ s : List UInt8, (splitC c s).length = s.count c + 1
 | [] => rfl
 | x :: r => by
   have ih := splitC_len c r
   rw [splitC_cons, List.count_cons]
   by_cases h : x = c
   ·rw [if_pos h, List.length_cons, ih]; simp [h]
   ·rw [if_neg h]
    cases hq : splitC c r with
    | nil => exact absurd hq (splitC_ne c r)
    | cons p q => rw [hq] at ih; simp [h] at ih ⊢; omega
theorem splitC_le (c : UInt8) : ∀ (s : List UInt8) (p : List UInt8), p ∈ splitC c s → p.length ≤ s.length
 | [], p, h => by simp [splitC] at h; simp [h]
 | x :: r, p, h => by
   rw [splitC_cons] at h
   by_cases hx : x = c
   ·rw [if_pos hx, List.mem_cons] at h
    rcases h with rfl | h
    ·simp
    ·have := splitC_le c r p h; simp; omega
   ·rw [if_neg hx] at h
    cases hq : splitC c r with
    | nil => exact absurd hq (splitC_ne c r)
    | cons y q =>
      rw [hq] at h
      simp only [List.mem_cons] at h
      rcases h with rfl | h
      ·have := splitC_le c r y (by rw [hq]; simp); simp; omega
      ·have := splitC_le c r p (by rw [hq]; simp [h]); simp; omega
theorem split_is (c : UInt8) (s : List UInt8) : (Lib.splitB ⟨#[c]⟩ 0 (Lib.countB ⟨s.toArray⟩ ⟨#[c]⟩) ⟨s.toArray⟩).map (·.data.toList) = splitC c s ∧ Lib.countB ⟨s.toArray⟩ ⟨#[c]⟩ + 1 = (splitC c s).length := by
 have hc : Lib.countB ⟨s.toArray⟩ ⟨#[c]⟩ = s.count c := by
  show Lib.count s [c] = _
  exact countFrom_any _ s (by omega)
 constructor
 ·rw [Lib.splitB_data, hc]
  exact split_byte c _ s rfl
 ·rw [hc, splitC_len]
open Go.RowKit
theorem splitC_cells (c : UInt8) (s : List UInt8) : (Lib.splitB ⟨#[c]⟩ 0 (Lib.countB ⟨s.toArray⟩ ⟨#[c]⟩) ⟨s.toArray⟩).map Value.string = (splitC c s).map sv := by
 rw [← (split_is c s).1, List.map_map]
 rfl
theorem split_any (c : UInt8) (s : List UInt8) (mx : Int) (W : World) (hs : s.length < 4294967281) (hm : W.cell? ⟨1, 0, none⟩ = some (.int .i64 mx)) :
 Calls Tryz.prog 111 #[.string ⟨s.toArray⟩, .string ⟨#[c]⟩] W fun e W' => e = .returned (.slice (some ⟨W.heap.size, 0, none⟩) (splitC c s).length (splitC c s).length) ∧ W' = W.alloc (.cells ((splitC c s).map sv).toArray 9) := by
 refine (Tryz.strings_Split ⟨s.toArray⟩ ⟨#[c]⟩ mx W (by simp only [ByteArray.size, List.size_toArray]; omega) hm (by show 1 ≤ 1; omega)).mono ?_
 rintro e w' ⟨rfl, rfl⟩
 rw [splitC_cells, (split_is c s).2]
 exact ⟨rfl, rfl⟩
theorem contains_byte (c : UInt8) (s : List UInt8) : Lib.contains s [c] = decide (c ∈ s) := by
 unfold Lib.contains
 rw [index_byte]
 by_cases h : Lib.indexByte s c = -1
 ·rw [h]
  have := byte_miss h
  simp [this]
 ·obtain ⟨i, hi⟩ : ∃ i : Nat, Lib.indexByte s c = (i : Int) := by
   have h2 := Lib.indexByte_ge s c
   exact ⟨(Lib.indexByte s c).toNat, by omega⟩
  have h2 := (byte_hit hi).2.2
  have h3 : c ∈ s := by rw [h2]; simp
  rw [hi]
  simp [h3]
theorem contains_any (c : UInt8) (s : List UInt8) (mx : Int) (W : World) (hs : s.length < 4294967281) (hm : W.cell? ⟨1, 0, none⟩ = some (.int .i64 mx)) :
 Calls Tryz.prog 112 #[.string ⟨s.toArray⟩, .string ⟨#[c]⟩] W fun e W' => e = .returned (.bool (decide (c ∈ s))) ∧ W' = W := by
 have h := Tryz.strings_Contains ⟨s.toArray⟩ ⟨#[c]⟩ mx W (by simp only [ByteArray.size, List.size_toArray]; omega) hm
 rw [show (⟨s.toArray⟩ : ByteArray).data.toList = s from rfl, show (⟨#[c]⟩ : ByteArray).data.toList = [c] from rfl, contains_byte] at h
 exact h
end Go.Proofs.YtoandhhkmkgmaaaGreatDoor
