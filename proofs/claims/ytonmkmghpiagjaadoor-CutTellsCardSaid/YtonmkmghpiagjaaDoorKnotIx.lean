/- Contracts: slices.Index, slices.Contains and bits.Of at lists of numbers. Lengths below 2^63. -/
import Derived.Test.YtonmkmghpiagjaaDoorKnotPlain2
import Derived.Test.YtonmkmghpiagjaaDoorOrd
import Derived.Test.YtonmkmghpiagjaaDoorShelf2
namespace Go.Proofs.YtonmkmghpiagjaaDoor
open Go.RowKit

theorem meas_lt {q m : Nat} (h : q < m) : m - (intOf (.int .i64 ((q : Int) + 1))).toNat < m - (intOf (.int .i64 (q : Int))).toNat := by
  simp [intOf]
  omega
theorem val_succ (q : Nat) : Value.int .i64 ((q : Int) + 1) = Value.int .i64 ((q + 1 : Nat) : Int) := by rfl
theorem nat_get {L : List Nat} {i : Nat} (h : i < L.length) : (L.map nv)[i]? = some (nv (L.getD i 0)) := by
  rw [List.getElem?_map, List.getElem?_eq_getElem h, List.getD_eq_getElem?_getD, List.getElem?_eq_getElem h]
  rfl
theorem idxFrom_nat (i : Nat) : ∀ (L : List Nat) (s : Nat), i ∈ L → Lib.idxFrom (L.map fun n : Nat => (n : Int)) (i : Int) s = ((s + L.idxOf i : Nat) : Int)
  | [], _, h => by cases h
  | a :: L, s, h => by
    show (if (a : Int) = (i : Int) then ((s : Nat) : Int) else Lib.idxFrom (L.map fun n : Nat => (n : Int)) (i : Int) (s + 1)) = _
    rw [List.idxOf_cons]
    by_cases e : a = i
    · subst e; simp
    · rw [if_neg (by omega), idxFrom_nat i L (s + 1) ((List.mem_cons.1 h).resolve_left (fun h => e h.symm)), show (a == i) = false from by simp [e]]
      simp
      omega
theorem getD_nat (L : List Nat) {j : Nat} (hj : j < L.length) : (L.map nv)[j]? = some (.int .i64 ((L.map fun n : Nat => (n : Int)).getD j 0)) := by
  rw [nat_get hj, List.getD_eq_getElem?_getD, List.getD_eq_getElem?_getD, List.getElem?_map, List.getElem?_eq_getElem hj]
  rfl
theorem index_any {A : Option Addr} {k c : Nat} (L : List Nat) (i : Nat) (w : World) (hs : Rd w A (L.map nv)) (hl : L.length = k) (hk : k ≤ 9223372036854775807) (hi : i ∈ L) :
    Calls Tryd.prog 97 #[.slice A k c, .int .i64 (i : Nat)] w fun e w' => e = .returned (.int .i64 (L.idxOf i : Nat)) ∧ w = w' := by
  have hpos := List.length_pos_of_mem hi
  obtain ⟨b, off, rfl, _, hc⟩ := hs (by simpa using hpos)
  refine (Tryd.slices_Index_int b off k c (L.map fun n : Nat => (n : Int)) (i : Int) w (by rw [List.length_map, hl]; exact Nat.le_refl _) hk (fun j hj => hc j _ (getD_nat L (by rw [List.length_map] at hj; exact hj)))).mono ?_
  rintro e w' ⟨he, hw⟩
  refine ⟨?_, hw.symm⟩
  rw [he, List.take_of_length_le (by rw [List.length_map, hl]; exact Nat.le_refl _)]
  show Ending.returned (.int .i64 (Lib.idxFrom _ _ 0)) = _
  rw [idxFrom_nat i L 0 hi, Nat.zero_add]
theorem contains_any {A : Option Addr} {k c : Nat} (L : List Nat) (i : Nat) (w : World) (hs : Rd w A (L.map nv)) (hl : L.length = k) (hk : k ≤ 9223372036854775807) :
    Calls Tryd.prog 96 #[.slice A k c, .int .i64 (i : Nat)] w fun e w' => e = .returned (.bool (L.contains i)) ∧ w = w' := by
  rcases Nat.eq_zero_or_pos L.length with h0 | hpos
  · have hL : L = [] := List.eq_nil_of_length_eq_zero h0
    subst hL
    have hk0 : k = 0 := hl.symm
    subst hk0
    refine (Tryd.slices_Contains_int_empty A c (i : Int) w).mono ?_
    rintro e w' ⟨he, hw⟩
    exact ⟨he, hw.symm⟩
  · obtain ⟨b, off, rfl, _, hc⟩ := hs (by simpa using hpos)
    refine (Tryd.slices_Contains_int b off k c (L.map fun n : Nat => (n : Int)) (i : Int) w (by rw [List.length_map, hl]; exact Nat.le_refl _) hk (fun j hj => hc j _ (getD_nat L (by rw [List.length_map] at hj; exact hj)))).mono ?_
    rintro e w' ⟨he, hw⟩
    refine ⟨?_, hw.symm⟩
    rw [he, List.take_of_length_le (by rw [List.length_map, hl]; exact Nat.le_refl _)]
    refine ret_bool ?_
    rw [Bool.eq_iff_iff, List.contains_iff_mem, List.contains_iff_mem, List.mem_map]
    constructor
    · rintro ⟨a, ha, hai⟩
      have : a = i := by omega
      rw [← this]; exact ha
    · exact fun h => ⟨i, h, rfl⟩
theorem ofL_any {A : Option Addr} {k c : Nat} (L : List Nat) (w : World) (hs : Rd w A (L.map nv)) (hl : L.length = k) (hk : k ≤ 9223372036854775807) (h64 : ∀ x ∈ L, x < 64) :
    Calls Tryd.prog 159 #[.slice A k c] w fun e w' => e = .returned (.tuple #[.int .u64 (setL L : Nat), .int .i64 0]) ∧ w = w' := by
  refine (of_any (c := c) (L.map fun n : Nat => (n : Int)) w (by rw [List.map_map]; exact hs) (by rw [List.length_map]; exact hl) hk).mono ?_
  rintro e w' ⟨he, hw⟩
  refine ⟨?_, hw⟩
  have h1 : okNums (L.map fun n : Nat => (n : Int)) = true := by
    unfold okNums
    rw [List.all_eq_true]
    intro x hx
    obtain ⟨a, ha, rfl⟩ := List.mem_map.1 hx
    exact okNum_yes (Int.natCast_nonneg a) (by have := h64 a ha; omega)
  have h2 : setOf (L.map fun n : Nat => (n : Int)) = setL L := by
    unfold setOf setL
    rw [List.foldl_map]
    rfl
  rw [he, if_pos h1, h2]
theorem rd_drop {w : World} {g o : Nat} {L : List Nat} (h : Rd w (some ⟨g, o, none⟩) (L.map nv)) (p : Nat) : Rd w (some ⟨g, o + p, none⟩) ((L.drop p).map nv) := by
  intro hn
  have hl : p < L.length := by
    rw [List.length_map, List.length_drop] at hn
    omega
  obtain ⟨b, off, he, hlt, hc⟩ := h (by rw [List.length_map]; omega)
  cases he
  refine ⟨g, o + p, rfl, hlt, fun j u hu => ?_⟩
  rw [Nat.add_assoc]
  refine hc (p + j) u ?_
  rw [List.getElem?_map, List.getElem?_drop] at hu
  rw [List.getElem?_map]
  exact hu
end Go.Proofs.YtonmkmghpiagjaaDoor
