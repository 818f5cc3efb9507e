/- Times, plain: their order; sums; sorted lists; the greatest. -/
import Derived.Sort.LotA
import Derived.Shelf.SlSortCmp.Insertion
import Derived.Laws.FloatArith
namespace Go.Proofs.YtcjhkfhogcdobaaDoor
open Go.Sort

/-- A time, by its bits, as a value. -/
def fv (x : UInt64) : Value := .float .f64 x.toNat
/-- The number by which times are in order. -/
def keyN (x : UInt64) : Nat := if x.toNat < 9223372036854775808 then x.toNat + 9223372036854775808 else 18446744073709551615 - x.toNat
theorem u64_lt (x : UInt64) : x.toNat < 18446744073709551616 := x.toNat_lt
theorem keyN_lt (x : UInt64) : keyN x < 18446744073709551616 := by
  have := u64_lt x
  unfold keyN; split <;> omega
theorem keyN_inj {x y : UInt64} (h : keyN x = keyN y) : x = y := by
  have h1 := u64_lt x
  have h2 := u64_lt y
  apply UInt64.toNat.inj
  unfold keyN at h
  split at h <;> split at h <;> omega
def cfT (x y : UInt64) : Int := if keyN x < keyN y then -1 else if keyN y < keyN x then 1 else 0
theorem ltOf_cfT (x y : UInt64) : ltOf cfT x y = decide (keyN x < keyN y) := by
  unfold ltOf cfT
  by_cases h1 : keyN x < keyN y
  · simp [h1]
  · by_cases h2 : keyN y < keyN x <;> simp [h1, h2]
theorem swoT : SWO (ltOf cfT) where
  irrefl x := by rw [ltOf_cfT]; simp
  trans x y z h1 h2 := by rw [ltOf_cfT] at *; simp at *; omega
  ntrans x y z h1 h2 := by rw [ltOf_cfT] at *; simp at *; omega
theorem totT (x y : UInt64) (h1 : ltOf cfT x y = false) (h2 : ltOf cfT y x = false) : x = y := by
  rw [ltOf_cfT] at h1 h2
  simp at h1 h2
  exact keyN_inj (by omega)
/-- Sorted. -/
def tsort (l : List UInt64) : List UInt64 := l.mergeSort fun x y => !(ltOf cfT) y x
theorem tsort_perm (l : List UInt64) : (tsort l).Perm l := List.mergeSort_perm _ _
theorem tsort_len (l : List UInt64) : (tsort l).length = l.length := (tsort_perm l).length_eq
def Asc (l : List UInt64) : Prop := l.Pairwise fun a b => keyN a ≤ keyN b
theorem tsort_asc (l : List UInt64) : Asc (tsort l) := by
  have := List.pairwise_mergeSort (le := fun x y : UInt64 => !(ltOf cfT) y x) (fun a b c h1 h2 => by
    simp only [ltOf_cfT, Bool.not_eq_true', decide_eq_false_iff_not] at *; omega) (fun a b => by
    simp only [ltOf_cfT, Bool.or_eq_true, Bool.not_eq_true', decide_eq_false_iff_not]; omega) l
  exact this.imp fun {a b} h => by simp only [ltOf_cfT, Bool.not_eq_true', decide_eq_false_iff_not] at h; omega
theorem asc_unique {a b : List UInt64} (ha : Asc a) (hb : Asc b) (hp : a.Perm b) : a = b :=
  List.Perm.eq_of_pairwise (fun x y _ _ h1 h2 => keyN_inj (by omega)) ha hb hp

/-! ### One by one the least -/
structure Sel (l out left : List UInt64) : Prop where
  perm : (out ++ left).Perm l
  asc : Asc out
  low : ∀ a ∈ out, ∀ b ∈ left, keyN a ≤ keyN b
theorem sel_start (l : List UInt64) : Sel l [] l := ⟨List.Perm.refl _, List.Pairwise.nil, fun a h => by cases h⟩
theorem sel_step {l out left : List UInt64} {k : Nat} {x : UInt64} (h : Sel l out left) (hk : left[k]? = some x) (hm : ∀ y ∈ left, keyN x ≤ keyN y) : Sel l (out ++ [x]) (left.take k ++ left.drop (k + 1)) := by
  obtain ⟨hlt, hx⟩ := List.getElem?_eq_some_iff.1 hk
  have e : left = left.take k ++ x :: left.drop (k + 1) := by
    rw [← hx, ← List.drop_eq_getElem_cons hlt, List.take_append_drop]
  have hsub : ∀ y ∈ left.take k ++ left.drop (k + 1), y ∈ left := fun y hy => by
    rcases List.mem_append.1 hy with h | h
    · exact List.mem_of_mem_take h
    · exact List.mem_of_mem_drop h
  refine ⟨?_, ?_, ?_⟩
  · refine List.Perm.trans ?_ h.perm
    rw [List.append_assoc]
    refine List.Perm.append_left out ?_
    conv => rhs; rw [e]
    show (x :: (left.take k ++ left.drop (k + 1))).Perm _
    exact List.perm_middle.symm
  · unfold Asc
    rw [List.pairwise_append]
    refine ⟨h.asc, List.pairwise_singleton _ _, fun a ha b hb => ?_⟩
    rw [List.mem_singleton] at hb
    subst hb
    exact h.low a ha b (List.mem_of_getElem? hk)
  · intro a ha b hb
    rcases List.mem_append.1 ha with ha | ha
    · exact h.low a ha b (hsub b hb)
    · rw [List.mem_singleton] at ha
      subst ha
      exact hm b (hsub b hb)
theorem sel_end {l out : List UInt64} (h : Sel l out []) : out = tsort l :=
  asc_unique h.asc (tsort_asc l) ((by simpa using h.perm : out.Perm l).trans (tsort_perm l).symm)
/-- The first of the least, while one looks. -/
def LeastAt (left : List UInt64) (i k : Nat) (x : UInt64) : Prop := left[k]? = some x ∧ ∀ j y, j < i → left[j]? = some y → keyN x ≤ keyN y
/-! ### The greatest -/
def Great (l : List UInt64) (i : Nat) (m : UInt64) : Prop := m ∈ l ∧ ∀ j y, j < i → l[j]? = some y → keyN y ≤ keyN m
theorem great_last {l : List UInt64} {m : UInt64} (h : Great l l.length m) : (tsort l).getLast? = some m := by
  have hm : m ∈ tsort l := (tsort_perm l).mem_iff.2 h.1
  cases hl : (tsort l).getLast? with
  | none => rw [List.getLast?_eq_none_iff] at hl; rw [hl] at hm; cases hm
  | some x =>
    have hx : x ∈ tsort l := List.mem_of_getLast? hl
    have h1 : keyN x ≤ keyN m := by
      obtain ⟨j, hj⟩ := List.mem_iff_getElem?.1 ((tsort_perm l).mem_iff.1 hx)
      exact h.2 j x (List.getElem?_eq_some_iff.1 hj).1 hj
    have h2 : keyN m ≤ keyN x := by
      obtain ⟨ys, e⟩ := List.getLast?_eq_some_iff.1 hl
      have ha := tsort_asc l
      unfold Asc at ha
      rw [e, List.pairwise_append] at ha
      rw [e] at hm
      rcases List.mem_append.1 hm with hm | hm
      · exact ha.2.2 m hm x (by simp)
      · rw [List.mem_singleton] at hm; rw [hm]; exact Nat.le_refl _
    rw [keyN_inj (Nat.le_antisymm h1 h2)]
/-- The greatest: 0 where there is none. -/
def mostT (l : List UInt64) : UInt64 := (tsort l).getLast?.getD 0

/-! ### Sums -/
def isN (b : Nat) : Bool := FloatKind.f64.format.order b b != some .eq
def fadd (a b : Nat) : Option Nat := FloatKind.f64.format.add a b
def fsum (l : List UInt64) : Option Nat := l.foldl (fun o x => o.bind fun a => fadd a x.toNat) (some 0)
theorem fsum_snoc (l : List UInt64) (x : UInt64) : fsum (l ++ [x]) = (fsum l).bind fun a => fadd a x.toNat := by unfold fsum; rw [List.foldl_append]; rfl
/-- What the sum so far is. -/
def SumIs (l : List UInt64) (s : Nat) : Prop := s < 18446744073709551616 ∧ match fsum l with
  | some v => s = v
  | none => isN s = true
def canonN : Nat := 9221120237041090561
/-- The sum that is told. -/
def sumT (l : List UInt64) : Nat := match fsum l with
  | some v => if isN v then canonN else v
  | none => canonN
theorem sumIs_start : SumIs [] 0 := ⟨by omega, rfl⟩
theorem sum_yes {l : List UInt64} {s : Nat} (h : SumIs l s) (hn : isN s = true) : sumT l = canonN := by
  unfold SumIs at h
  unfold sumT
  cases hf : fsum l with
  | none => rfl
  | some v => rw [hf] at h; dsimp only at h ⊢; rw [← h.2, if_pos hn]
theorem sum_no {l : List UInt64} {s : Nat} (h : SumIs l s) (hn : isN s = false) : sumT l = s := by
  unfold SumIs at h
  unfold sumT
  cases hf : fsum l with
  | none => rw [hf] at h; dsimp only at h; rw [h.2] at hn; cases hn
  | some v => rw [hf] at h; dsimp only at h ⊢; rw [← h.2, hn]; rfl
/-- The bits of some NaN. -/
def nanOf (t : Nat) : Nat := (t % 2) * 2 ^ 63 + 0x7ff0000000000000 + 1 + (t / 2) % (2 ^ 52 - 1)
theorem nanOf_lt (t : Nat) : nanOf t < 18446744073709551616 := by
  unfold nanOf
  have h1 : t % 2 < 2 := Nat.mod_lt _ (by omega)
  have h2 : (t / 2) % (2 ^ 52 - 1) < 2 ^ 52 - 1 := Nat.mod_lt _ (by decide)
  omega
theorem read_nan {b : Nat} (h1 : 9218868437227405312 < b % 9223372036854775808) : ∃ s f, FloatKind.f64.format.read b = .nan s f := by
  have e1 : FloatKind.f64.format.signWeight = 9223372036854775808 := rfl
  have e2 : FloatKind.f64.format.binade = 4503599627370496 := rfl
  have e3 : FloatKind.f64.format.infRung = 9218868437227405312 := rfl
  unfold Ieee.Format.read
  rw [e1, e2, e3]
  dsimp only
  rw [if_neg (by omega), if_neg (by omega), if_neg (by omega)]
  exact ⟨_, _, rfl⟩
theorem isN_read {b : Nat} {s : Bool} {f : Nat} (h : FloatKind.f64.format.read b = .nan s f) : isN b = true := by
  unfold isN Ieee.Format.order
  rw [h]; rfl
theorem nanOf_nan (t : Nat) : isN (nanOf t) = true := by
  have h2 : (t / 2) % (2 ^ 52 - 1) < 2 ^ 52 - 1 := Nat.mod_lt _ (by decide)
  have h3 : nanOf t % 9223372036854775808 = 0x7ff0000000000000 + 1 + (t / 2) % (2 ^ 52 - 1) := by
    unfold nanOf
    generalize (t / 2) % (2 ^ 52 - 1) = q at *
    omega
  obtain ⟨s, f, h⟩ := read_nan (b := nanOf t) (by rw [h3]; omega)
  exact isN_read h
theorem isN_add {a b : Nat} (h : isN a = true) : fadd a b = none := by
  unfold isN Ieee.Format.order at h
  unfold fadd Ieee.Format.add
  cases hr : FloatKind.f64.format.read a with
  | nan s f => simp [Ieee.Datum.sum]
  | infinity s => rw [hr] at h; cases s <;> simp [Ieee.Datum.order, compare, compareOfLessAndEq] at h
  | number s m i =>
    rw [hr] at h
    simp [Ieee.Datum.order, compare, compareOfLessAndEq] at h
theorem sumIs_add {l : List UInt64} {s : Nat} {x : UInt64} (h : SumIs l s) {r : Nat} (ha : fadd s x.toNat = some r) : SumIs (l ++ [x]) r := by
  refine ⟨FloatKind.f64.format.add_lt ha, ?_⟩
  rw [fsum_snoc]
  have h2 := h.2
  cases hf : fsum l with
  | none =>
    rw [hf] at h2
    dsimp only at h2
    rw [isN_add h2] at ha
    cases ha
  | some v =>
    rw [hf] at h2
    dsimp only at h2
    subst h2
    rw [Option.bind_some, ha]
theorem sumIs_nan {l : List UInt64} {s : Nat} {x : UInt64} (h : SumIs l s) (ha : fadd s x.toNat = none) (t : Nat) : SumIs (l ++ [x]) (nanOf t) := by
  refine ⟨nanOf_lt t, ?_⟩
  rw [fsum_snoc]
  have h2 := h.2
  cases hf : fsum l with
  | none => exact nanOf_nan t
  | some v =>
    rw [hf] at h2
    dsimp only at h2
    subst h2
    rw [Option.bind_some, ha]
    exact nanOf_nan t
/-! ### Right ones -/
def rightT (x : UInt64) : Bool := decide (x.toNat ≤ 9218868437227405312)
def geZ (x : Nat) : Bool := FloatKind.f64.format.order x 0 == some .gt || FloatKind.f64.format.order x 0 == some .eq
theorem right_iff (x : UInt64) : (geZ x.toNat && !decide (9223372036854775808 ≤ x.toNat)) = rightT x := by
  have hx := u64_lt x
  unfold rightT
  generalize x.toNat = b at *
  by_cases hs : 9223372036854775808 ≤ b
  · have h1 : decide (b ≤ 9218868437227405312) = false := by simp; omega
    rw [h1]; simp [hs]
  · have hmod : b % 9223372036854775808 = b := Nat.mod_eq_of_lt (by omega)
    have hdiv : b / 9223372036854775808 = 0 := Nat.div_eq_of_lt (by omega)
    have e1 : FloatKind.f64.format.signWeight = 9223372036854775808 := rfl
    have e2 : FloatKind.f64.format.binade = 4503599627370496 := rfl
    have e3 : FloatKind.f64.format.infRung = 9218868437227405312 := rfl
    have r0 : FloatKind.f64.format.read 0 = .number false 0 FloatKind.f64.format.leastPlace := rfl
    have hns : (!decide (9223372036854775808 ≤ b)) = true := by simp; omega
    rw [hns, Bool.and_true]
    unfold geZ Ieee.Format.order
    rw [r0]
    unfold Ieee.Format.read
    rw [e1, e2, e3]
    dsimp only
    rw [hmod, hdiv]
    generalize FloatKind.f64.format.leastPlace = p
    by_cases h1 : b < 4503599627370496
    · rw [if_pos h1]
      have : decide (b ≤ 9218868437227405312) = true := by simp; omega
      rw [this]
      unfold Ieee.Datum.order Ieee.signed
      dsimp only
      rcases Nat.eq_zero_or_pos b with h0 | h0
      · subst h0; simp [compare, compareOfLessAndEq]
      · have : ¬ ((b : Int) < 0) := by omega
        simp [compare, compareOfLessAndEq, this]
        omega
    · rw [if_neg h1]
      by_cases h2 : b < 9218868437227405312
      · rw [if_pos h2]
        have : decide (b ≤ 9218868437227405312) = true := by simp; omega
        rw [this]
        unfold Ieee.Datum.order Ieee.signed
        dsimp only
        generalize hm : (4503599627370496 + b % 4503599627370496) <<< _ = m
        have hm0 : 0 < m := by rw [← hm, Nat.shiftLeft_eq]; exact Nat.mul_pos (by omega) (Nat.two_pow_pos _)
        have hz : (0 : Nat) <<< (p - min (p + ((b / 4503599627370496 - 1 : Nat) : Int)) p).toNat = 0 := by simp
        rw [hz]
        have h3 : ¬ ((m : Int) < 0) := by omega
        simp [compare, compareOfLessAndEq, h3]
        omega
      · rw [if_neg h2]
        by_cases h5 : b = 9218868437227405312
        · rw [if_pos h5]
          subst h5
          rfl
        · rw [if_neg h5]
          have : decide (b ≤ 9218868437227405312) = false := by simp; omega
          rw [this]
          rfl
end Go.Proofs.YtcjhkfhogcdobaaDoor
