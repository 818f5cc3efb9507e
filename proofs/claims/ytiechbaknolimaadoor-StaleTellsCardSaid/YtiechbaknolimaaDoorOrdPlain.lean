/- Order of rows, plain: one by one the least number of what is left whose row meets what is left nowhere. -/
import Derived.Test.YtiechbaknolimaaDoorGraph
namespace Go.Proofs.YtiechbaknolimaaDoor

/-- The least number of s whose row meets s nowhere. -/
def pickO (l : List Nat) (s : Nat) : Option Nat := (nums s).find? fun i => decide (rowAt l i &&& s = 0)
theorem pickO_some {l : List Nat} {s i : Nat} (h : pickO l s = some i) (hs : B64 s) : s.testBit i = true ∧ rowAt l i &&& s = 0 := by
  have h1 := List.find?_some h
  have h2 := List.mem_of_find?_eq_some h
  exact ⟨(mem_nums hs).1 h2, of_decide_eq_true h1⟩
theorem pickO_none {l : List Nat} {s : Nat} (hs : B64 s) : pickO l s = none ↔ ∀ j, s.testBit j = true → rowAt l j &&& s ≠ 0 := by
  unfold pickO
  rw [List.find?_eq_none]
  constructor
  · intro h j hj h0
    exact h j ((mem_nums hs).2 hj) (decide_eq_true h0)
  · intro h j hj h0
    exact h j ((mem_nums hs).1 hj) (of_decide_eq_true h0)
theorem find_first {p : Nat → Bool} : ∀ {L : List Nat}, L.Pairwise (· < ·) → ∀ {i : Nat}, i ∈ L → p i = true → (∀ j ∈ L, j < i → p j = false) → L.find? p = some i
  | [], _, _, hm, _, _ => by cases hm
  | x :: L, hp, i, hm, hpi, hlt => by
    rw [List.pairwise_cons] at hp
    rw [List.find?_cons]
    rcases List.mem_cons.1 hm with rfl | hm'
    · rw [hpi]
    · have := hlt x (by simp) (hp.1 i hm')
      rw [this]
      exact find_first hp.2 hm' hpi (fun j hj hji => hlt j (by simp [hj]) hji)
theorem pickO_first {l : List Nat} {s i : Nat} (hs : B64 s) (hi : s.testBit i = true) (h0 : rowAt l i &&& s = 0) (hlt : ∀ j, j < i → s.testBit j = true → rowAt l j &&& s ≠ 0) : pickO l s = some i :=
  find_first (nums_sorted s) ((mem_nums hs).2 hi) (decide_eq_true h0) (fun j hj hji => decide_eq_false (hlt j hji ((mem_nums hs).1 hj)))

/-- A set without a number. -/
def drop (s i : Nat) : Nat := minus s (2 ^ i)
theorem drop_bit {s i : Nat} (hs : B64 s) (hi : i < 64) (j : Nat) : (drop s i).testBit j = (s.testBit j && decide (j ≠ i)) := by
  unfold drop
  rw [minus_bit hs (B64.two hi), Nat.testBit_two_pow]
  by_cases h : i = j
  · subst h; simp
  · have h' : j ≠ i := fun e => h e.symm
    simp [h, h']
theorem drop_b64 {s i : Nat} (hs : B64 s) : B64 (drop s i) := minus_b64 hs
theorem drop_len {s i : Nat} (hs : B64 s) (hi : s.testBit i = true) : (nums s).length = (nums (drop s i)).length + 1 := by
  unfold nums
  exact count_one (i := i) hi (by rw [drop_bit hs (hs.bit hi)]; simp) (fun j hj => by rw [drop_bit hs (hs.bit hi)]; simp [hj]) (List.range 64) (List.mem_range.2 (hs.bit hi)) List.nodup_range

/-- One number more, if there is one. -/
def ordStep (l : List Nat) (st : List Nat × Nat) : List Nat × Nat := match pickO l st.2 with
  | none => st
  | some i => (st.1 ++ [i], drop st.2 i)
def ordI (l : List Nat) : Nat → List Nat × Nat
  | 0 => ([], upTo l.length)
  | k + 1 => ordStep l (ordI l k)
theorem ordStep_some {l : List Nat} {st : List Nat × Nat} {i : Nat} (h : pickO l st.2 = some i) : ordStep l st = (st.1 ++ [i], drop st.2 i) := by unfold ordStep; rw [h]
theorem ordStep_none {l : List Nat} {st : List Nat × Nat} (h : pickO l st.2 = none) : ordStep l st = st := by unfold ordStep; rw [h]

theorem nums_upTo {n : Nat} (h : n ≤ 64) : nums (upTo n) = List.range n := by
  unfold nums
  have e : (64 : Nat) = n + (64 - n) := by omega
  rw [e, List.range_add, List.filter_append, List.filter_eq_self.2, List.filter_eq_nil_iff.2, List.append_nil]
  · intro a ha
    obtain ⟨x, _, rfl⟩ := List.mem_map.1 ha
    simp [upTo_bit]
  · intro a ha
    simpa [upTo_bit] using ha
/-- What holds of each state. -/
structure OrdInv (l : List Nat) (st : List Nat × Nat) : Prop where
  sub : ∀ j, st.2.testBit j = true → j < l.length
  mem : ∀ j, j ∈ st.1 ↔ j < l.length ∧ st.2.testBit j = false
  nodup : st.1.Nodup
  len : st.1.length + (nums st.2).length = l.length
  /-- the row of each one that is done lies in those that were done ahead of it -/
  before : ∀ p i, st.1[p]? = some i → ∀ j, (rowAt l i).testBit j = true → j ∈ st.1.take p
theorem ordInv_zero {l : List Nat} (hn : l.length ≤ 64) : OrdInv l ([], upTo l.length) := by
  refine ⟨fun j hj => by simpa [upTo_bit] using hj, fun j => by simp [upTo_bit], by simp, ?_, fun p i h => by simp at h⟩
  show 0 + (nums (upTo l.length)).length = _
  rw [Nat.zero_add, nums_upTo hn, List.length_range]
theorem OrdInv.b64 {l : List Nat} (hn : l.length ≤ 64) {st : List Nat × Nat} (h : OrdInv l st) : B64 st.2 := B64.of_bits fun j hj => Nat.lt_of_lt_of_le (h.sub j hj) hn
theorem ordInv_step {l : List Nat} (hg : Good l) {st : List Nat × Nat} (h : OrdInv l st) : OrdInv l (ordStep l st) := by
  have hb := h.b64 hg.1
  cases hp : pickO l st.2 with
  | none => rw [ordStep_none hp]; exact h
  | some i =>
    rw [ordStep_some hp]
    obtain ⟨h1, h2⟩ := pickO_some hp hb
    have hi := hb.bit h1
    refine ⟨fun j hj => ?_, fun j => ?_, ?_, ?_, fun p x hx j hj => ?_⟩
    · rw [drop_bit hb hi] at hj
      exact h.sub j (by simp at hj; exact hj.1)
    · show j ∈ st.1 ++ [i] ↔ j < l.length ∧ (drop st.2 i).testBit j = false
      rw [List.mem_append, List.mem_singleton, h.mem j, drop_bit hb hi]
      by_cases hji : j = i
      · subst hji
        simp [h.sub j h1]
      · simp [hji]
    · show (st.1 ++ [i]).Nodup
      rw [List.nodup_append]
      refine ⟨h.nodup, by simp, fun a ha b hb' => ?_⟩
      rw [List.mem_singleton] at hb'
      subst hb'
      intro e
      subst e
      have := ((h.mem a).1 ha).2
      rw [h1] at this
      cases this
    · show (st.1 ++ [i]).length + (nums (drop st.2 i)).length = _
      have := drop_len hb h1
      have := h.len
      simp
      omega
    · have hx' : (st.1 ++ [i])[p]? = some x := hx
      show j ∈ (st.1 ++ [i]).take p
      rcases Nat.lt_trichotomy p st.1.length with hlt | heq | hgt
      · rw [List.getElem?_append_left hlt] at hx'
        rw [List.take_append_of_le_length (by omega)]
        exact h.before p x hx' j hj
      · subst heq
        rw [List.getElem?_append_right (Nat.le_refl _)] at hx'
        simp at hx'
        subst hx'
        rw [List.take_append_of_le_length (Nat.le_refl _), List.take_length, h.mem j]
        refine ⟨hg.2 i j hj, ?_⟩
        cases hs : st.2.testBit j with
        | false => rfl
        | true =>
          have : (rowAt l i &&& st.2).testBit j = true := by rw [Nat.testBit_and, hj, hs]; rfl
          rw [h2] at this
          simp at this
      · rw [List.getElem?_append_right (by omega)] at hx'
        have : 1 ≤ p - st.1.length := by omega
        rw [List.getElem?_eq_none (by simpa using this)] at hx'
        cases hx'
theorem ordI_inv {l : List Nat} (hg : Good l) (k : Nat) : OrdInv l (ordI l k) := by
  induction k with
  | zero => exact ordInv_zero hg.1
  | succ k ih => exact ordInv_step hg ih
theorem ordI_stop {l : List Nat} {k : Nat} (h : pickO l (ordI l k).2 = none) (m : Nat) (hm : k ≤ m) : ordI l m = ordI l k := by
  induction m with
  | zero =>
    obtain rfl : k = 0 := by omega
    rfl
  | succ m ih =>
    by_cases hk : k = m + 1
    · rw [hk]
    · show ordStep l (ordI l m) = _
      rw [ih (by omega)]
      exact ordStep_none h
/-- After so many steps so many are done, or it has stopped. -/
theorem ordI_len {l : List Nat} (k : Nat) : (ordI l k).1.length = k ∨ pickO l (ordI l k).2 = none := by
  induction k with
  | zero => exact .inl rfl
  | succ k ih =>
    show (ordStep l (ordI l k)).1.length = k + 1 ∨ pickO l (ordStep l (ordI l k)).2 = none
    cases hp : pickO l (ordI l k).2 with
    | none => exact .inr (by rw [ordStep_none hp]; exact hp)
    | some i =>
      rcases ih with h | h
      · exact .inl (by rw [ordStep_some hp]; simp [h])
      · rw [hp] at h; cases h
/-- The order, and those that are left. -/
def ordL (l : List Nat) : List Nat := (ordI l l.length).1
def ordR (l : List Nat) : Nat := (ordI l l.length).2
theorem ordL_inv {l : List Nat} (hg : Good l) : OrdInv l (ordL l, ordR l) := ordI_inv hg l.length
theorem ord_end {l : List Nat} (hg : Good l) : pickO l (ordR l) = none := by
  rcases ordI_len (l := l) l.length with h | h
  · have hi := ordI_inv hg l.length
    have hz : (nums (ordI l l.length).2).length = 0 := by have := hi.len; omega
    have hz' : ordR l = 0 := by
      apply Classical.byContradiction
      intro h0
      exact nums_ne (hi.b64 hg.1) h0 (List.eq_nil_of_length_eq_zero hz)
    rw [hz']
    unfold pickO
    rw [nums_zero]
    rfl
  · exact h
theorem ord_stop {l : List Nat} {k : Nat} (h : pickO l (ordI l k).2 = none) (hk : k ≤ l.length) : (ordI l k).1 = ordL l ∧ (ordI l k).2 = ordR l := by
  unfold ordL ordR
  rw [ordI_stop h l.length hk]
  exact ⟨rfl, rfl⟩
theorem ord_full {l : List Nat} (hg : Good l) : (ordL l).length = l.length ↔ ordR l = 0 := by
  have hi := ordL_inv hg
  have hb := hi.b64 hg.1
  have hl : (ordL l).length + (nums (ordR l)).length = l.length := hi.len
  constructor
  · intro h
    apply Classical.byContradiction
    intro h0
    have h2 : (nums (ordR l)).length = 0 := by omega
    exact nums_ne hb h0 (List.eq_nil_of_length_eq_zero h2)
  · intro h
    rw [h, nums_zero] at hl
    simpa using hl
theorem ord_len {l : List Nat} (hg : Good l) : (ordL l).length ≤ l.length := by
  have hl : (ordL l).length + (nums (ordR l)).length = l.length := (ordL_inv hg).len
  omega
end Go.Proofs.YtiechbaknolimaaDoor
