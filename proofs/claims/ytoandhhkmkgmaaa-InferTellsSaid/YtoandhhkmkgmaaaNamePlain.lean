/- Names, plain: which are good; lists that rise, built one by one or by sorting. -/
import Derived.Lib.SlicesCompact
import Derived.Sort.Defs
import Derived.Sort.LotA
namespace Go.Proofs.Ytoandhhkmkgmaaa

/-- A byte that a name may have. -/
def sgn (c : UInt8) : Bool := (decide (97 ≤ c.toNat) && decide (c.toNat ≤ 122)) || (decide (65 ≤ c.toNat) && decide (c.toNat ≤ 90)) || (decide (48 ≤ c.toNat) && decide (c.toNat ≤ 57)) || decide (c.toNat = 95) || decide (c.toNat = 46) || decide (c.toNat = 47) || decide (c.toNat = 45) || decide (c.toNat = 43)
def goodName (s : List UInt8) : Bool := s.all sgn && (decide (0 < s.length) && decide (s.length ≤ 40))
def nameErr (s : List UInt8) : Int := if goodName s then 0 else 3
def namesErr (l : List (List UInt8)) : Int := if l.all goodName then 0 else 3

theorem slt_irrefl (a : List UInt8) : ¬ a < a := List.lt_irrefl a
theorem slt_trans {a b c : List UInt8} (h1 : a < b) (h2 : b < c) : a < c := List.lt_trans h1 h2
theorem slt_tri (a b : List UInt8) : a < b ∨ a = b ∨ b < a := by
  rcases Std.lt_trichotomy a b with h | h | h
  · exact .inl h
  · exact .inr (.inl h)
  · exact .inr (.inr h)
def Up (l : List (List UInt8)) : Prop := l.Pairwise (· < ·)
/-- Two lists that rise and have the same elements are one. -/
theorem up_unique : ∀ {a b : List (List UInt8)}, Up a → Up b → (∀ x, x ∈ a ↔ x ∈ b) → a = b
  | [], [], _, _, _ => rfl
  | [], y :: b, _, _, h => absurd ((h y).2 (by simp)) (by simp)
  | x :: a, [], _, _, h => absurd ((h x).1 (by simp)) (by simp)
  | x :: a, y :: b, ha, hb, h => by
    have ha' := List.pairwise_cons.1 ha
    have hb' := List.pairwise_cons.1 hb
    have hxy : x = y := by
      rcases slt_tri x y with h1 | h1 | h1
      · rcases List.mem_cons.1 ((h x).1 (by simp)) with h2 | h2
        · exact h2
        · exact absurd (slt_trans h1 (hb'.1 x h2)) (slt_irrefl x)
      · exact h1
      · rcases List.mem_cons.1 ((h y).2 (by simp)) with h2 | h2
        · exact h2.symm
        · exact absurd (slt_trans h1 (ha'.1 y h2)) (slt_irrefl y)
    subst hxy
    rw [up_unique ha'.2 hb'.2 (fun z => ?_)]
    constructor
    · intro hz
      rcases List.mem_cons.1 ((h z).1 (List.mem_cons_of_mem _ hz)) with e | e
      · subst e; exact absurd (ha'.1 z hz) (slt_irrefl z)
      · exact e
    · intro hz
      rcases List.mem_cons.1 ((h z).2 (List.mem_cons_of_mem _ hz)) with e | e
      · subst e; exact absurd (hb'.1 z hz) (slt_irrefl z)
      · exact e

/-! ### One put in -/
/-- How many at the head lie below s. -/
def lowS (out : List (List UInt8)) (s : List UInt8) : Nat := (out.takeWhile fun x => decide (x < s)).length
def putR (out : List (List UInt8)) (s : List UInt8) : List (List UInt8) := if s ∈ out then out else out.take (lowS out s) ++ s :: out.drop (lowS out s)
def rising (l : List (List UInt8)) : List (List UInt8) := l.foldl putR []
theorem rising_snoc (l : List (List UInt8)) (s : List UInt8) : rising (l ++ [s]) = putR (rising l) s := by unfold rising; rw [List.foldl_append]; rfl
theorem lowS_le (out : List (List UInt8)) (s : List UInt8) : lowS out s ≤ out.length := (List.takeWhile_sublist _).length_le
theorem lowS_take (out : List (List UInt8)) (s : List UInt8) : out.take (lowS out s) = out.takeWhile (fun x => decide (x < s)) ∧ out.drop (lowS out s) = out.dropWhile (fun x => decide (x < s)) := by
  unfold lowS
  have e : out.takeWhile (fun x => decide (x < s)) ++ out.dropWhile (fun x => decide (x < s)) = out := List.takeWhile_append_dropWhile
  generalize out.takeWhile (fun x => decide (x < s)) = a at *
  generalize out.dropWhile (fun x => decide (x < s)) = b at *
  subst e
  simp
theorem mem_putR {out : List (List UInt8)} {s x : List UInt8} : x ∈ putR out s ↔ x = s ∨ x ∈ out := by
  unfold putR
  split
  · rename_i h
    constructor
    · exact .inr
    · rintro (rfl | h')
      · exact h
      · exact h'
  · constructor
    · intro h
      rcases List.mem_append.1 h with h | h
      · exact .inr (List.mem_of_mem_take h)
      · rcases List.mem_cons.1 h with h | h
        · exact .inl h
        · exact .inr (List.mem_of_mem_drop h)
    · rintro (rfl | h)
      · simp
      · rw [← List.take_append_drop (lowS out s) out] at h
        rcases List.mem_append.1 h with h | h
        · exact List.mem_append_left _ h
        · exact List.mem_append_right _ (List.mem_cons_of_mem _ h)
theorem dropWhile_head {p : List UInt8 → Bool} : ∀ {l : List (List UInt8)} {x : List UInt8} {xs : List (List UInt8)}, l.dropWhile p = x :: xs → p x = false
  | [], _, _, h => by cases h
  | y :: l, x, xs, h => by
    rw [List.dropWhile_cons] at h
    split at h
    · exact dropWhile_head h
    · rename_i hp
      injection h with h1 _
      subst h1
      simpa using hp
theorem up_putR {out : List (List UInt8)} {s : List UInt8} (h : Up out) : Up (putR out s) := by
  unfold putR
  split
  · exact h
  · rename_i hs
    obtain ⟨e1, e2⟩ := lowS_take out s
    rw [e1, e2]
    have hout := h
    unfold Up at h
    rw [← List.takeWhile_append_dropWhile (p := fun x => decide (x < s)) (l := out), List.pairwise_append] at h
    have hlow : ∀ x ∈ out.takeWhile (fun x => decide (x < s)), x < s := fun x hx => by
      have := List.all_eq_true.1 (List.all_takeWhile (p := fun x => decide (x < s)) (l := out)) x hx
      simpa using this
    have hhigh : ∀ x ∈ out.dropWhile (fun x => decide (x < s)), s < x := by
      intro x hx
      cases hd : out.dropWhile (fun x => decide (x < s)) with
      | nil => rw [hd] at hx; cases hx
      | cons y ys =>
        have hy := dropWhile_head hd
        have hys : s < y := by
          rcases slt_tri y s with h1 | h1 | h1
          · simp [h1] at hy
          · subst h1
            exact absurd ((List.dropWhile_sublist (fun x => decide (x < y))).subset (by rw [hd]; simp)) hs
          · exact h1
        rw [hd] at hx h
        rcases List.mem_cons.1 hx with rfl | hx
        · exact hys
        · exact slt_trans hys ((List.pairwise_cons.1 h.2.1).1 x hx)
    unfold Up
    rw [List.pairwise_append]
    refine ⟨h.1, List.pairwise_cons.2 ⟨hhigh, h.2.1⟩, fun a ha b hb => ?_⟩
    rcases List.mem_cons.1 hb with rfl | hb
    · exact hlow a ha
    · exact h.2.2 a ha b hb
theorem rising_spec (l : List (List UInt8)) : Up (rising l) ∧ ∀ x, x ∈ rising l ↔ x ∈ l := by
  have key : ∀ (l out : List (List UInt8)), Up out → Up (l.foldl putR out) ∧ ∀ x, x ∈ l.foldl putR out ↔ x ∈ out ∨ x ∈ l := by
    intro l
    induction l with
    | nil => exact fun out h => ⟨h, fun x => by simp⟩
    | cons s l ih =>
      intro out h
      obtain ⟨h1, h2⟩ := ih (putR out s) (up_putR h)
      refine ⟨h1, fun x => ?_⟩
      rw [List.foldl_cons, h2, mem_putR, List.mem_cons]
      constructor
      · rintro ((h | h) | h)
        · exact .inr (.inl h)
        · exact .inl h
        · exact .inr (.inr h)
      · rintro (h | h | h)
        · exact .inl (.inr h)
        · exact .inl (.inl h)
        · exact .inr h
  have := key l [] List.Pairwise.nil
  exact ⟨this.1, fun _ => by rw [show rising l = l.foldl putR [] from rfl, this.2]; simp⟩
theorem rising_up (l : List (List UInt8)) : Up (rising l) := (rising_spec l).1
theorem mem_rising {l : List (List UInt8)} {x : List UInt8} : x ∈ rising l ↔ x ∈ l := (rising_spec l).2 x
theorem up_nodup {l : List (List UInt8)} (h : Up l) : l.Nodup := h.imp fun hab e => by subst e; exact slt_irrefl _ hab
theorem rising_of_up {l : List (List UInt8)} (h : Up l) : rising l = l := up_unique (rising_up l) h fun _ => mem_rising

/-! ### By sorting -/
theorem mergeSort_le (l : List (List UInt8)) : (l.mergeSort fun x y => decide (x ≤ y)).Pairwise (fun a b => ¬ b < a) := by
  have := List.pairwise_mergeSort (le := fun x y : List UInt8 => decide (x ≤ y)) (fun a b c h1 h2 => by
    simp only [decide_eq_true_eq] at h1 h2 ⊢
    exact List.le_trans h1 h2) (fun a b => by
    simp only [Bool.or_eq_true, decide_eq_true_eq]
    exact List.le_total a b) l
  refine this.imp fun {a b} h => ?_
  simp only [decide_eq_true_eq] at h
  exact List.not_lt.2 h
/-- What of a sorted list is kept by striking out repetitions. -/
theorem compact_up {zs : List (List UInt8)} (h : zs.Pairwise (fun a b => ¬ b < a)) : Up (Lib.compact zs) ∧ ∀ x, x ∈ Lib.compact zs ↔ x ∈ zs := by
  have hg : ∀ i, i < zs.length → zs.toArray[i]! = zs.getD i default := fun i hi => by simp [List.getD, hi]
  have hle : ∀ {i j : Nat}, i < j → j < zs.length → ¬ zs.getD j default < zs.getD i default := fun {i j} hij hj => by
    have := List.pairwise_iff_getElem.1 h i j (by omega) hj hij
    simpa [List.getD, show i < zs.length by omega, hj] using this
  have key : ∀ m, m ≤ zs.length → Up (Lib.compactUpTo zs.toArray m) ∧ (∀ x, x ∈ Lib.compactUpTo zs.toArray m ↔ ∃ j, j < m ∧ zs.getD j default = x) := by
    intro m
    induction m with
    | zero => exact fun _ => ⟨by simp [Lib.compactUpTo, Up], fun _ => by simp [Lib.compactUpTo]⟩
    | succ m ih =>
      intro hm
      obtain ⟨h1, h2⟩ := ih (by omega)
      rw [Lib.compactUpTo_succ]
      have hgm := hg m (by omega)
      by_cases hk : Lib.keeps zs.toArray m = true
      · rw [if_pos hk]
        constructor
        · unfold Up
          rw [List.pairwise_append]
          refine ⟨h1, List.pairwise_singleton _ _, fun a ha b hb => ?_⟩
          rw [List.mem_singleton] at hb
          subst hb
          obtain ⟨j, hj, rfl⟩ := (h2 a).1 ha
          rw [hgm]
          rcases slt_tri (zs.getD j default) (zs.getD m default) with hlt | heq | hgt
          · exact hlt
          · exfalso
            have hm1 : m ≠ 0 := by omega
            simp only [Lib.keeps, decide_eq_true_eq] at hk
            rcases hk with hk | hk
            · exact hm1 hk
            · rw [hgm, hg (m - 1) (by omega)] at hk
              rcases slt_tri (zs.getD (m - 1) default) (zs.getD m default) with k | k | k
              · have hjm : j ≠ m - 1 := fun e => by subst e; rw [heq] at k; exact slt_irrefl _ k
                rw [← heq] at k
                exact hle (show j < m - 1 by omega) (by omega) k
              · exact hk k.symm
              · exact hle (show m - 1 < m by omega) (by omega) k
          · exact absurd hgt (hle hj (by omega))
        · intro x
          rw [List.mem_append, h2, List.mem_singleton, hgm]
          constructor
          · rintro (⟨j, hj, rfl⟩ | rfl)
            · exact ⟨j, by omega, rfl⟩
            · exact ⟨m, by omega, rfl⟩
          · rintro ⟨j, hj, rfl⟩
            by_cases hjm : j = m
            · subst hjm; exact .inr rfl
            · exact .inl ⟨j, by omega, rfl⟩
      · rw [if_neg hk, List.append_nil]
        refine ⟨h1, fun x => ?_⟩
        rw [h2]
        constructor
        · rintro ⟨j, hj, rfl⟩
          exact ⟨j, by omega, rfl⟩
        · rintro ⟨j, hj, rfl⟩
          by_cases hjm : j = m
          · subst hjm
            simp only [Lib.keeps, decide_eq_true_eq, not_or, Decidable.not_not] at hk
            exact ⟨j - 1, by omega, by rw [hgm, hg (j - 1) (by omega)] at hk; exact hk.2.symm⟩
          · exact ⟨j, by omega, rfl⟩
  have := key zs.length (Nat.le_refl _)
  refine ⟨this.1, fun x => ?_⟩
  rw [show Lib.compact zs = Lib.compactUpTo zs.toArray zs.length from rfl, this.2, List.mem_iff_getElem?]
  constructor
  · rintro ⟨j, hj, rfl⟩
    exact ⟨j, by simp [List.getD, hj]⟩
  · rintro ⟨j, hj⟩
    have := (List.getElem?_eq_some_iff.1 hj).1
    exact ⟨j, this, by simp [List.getD, hj]⟩
/-- Sorted, and repetitions struck out: as put in one by one. -/
theorem compact_sorted (l : List (List UInt8)) : Lib.compact (l.mergeSort fun x y => decide (x ≤ y)) = rising l := by
  obtain ⟨h1, h2⟩ := compact_up (mergeSort_le l)
  refine up_unique h1 (rising_up l) fun x => ?_
  rw [h2, mem_rising]
  exact List.mem_mergeSort
/-- Where a text stands in a list: -1, if it does not. -/
def placeOf (l : List (List UInt8)) (s : List UInt8) : Int := if s ∈ l then (l.idxOf s : Nat) else -1
end Go.Proofs.Ytoandhhkmkgmaaa
