/- Lines, in plain Lean: signs that are none, blanks, what is said aside, what is shown. No program in sight. -/
import Derived.Test.YtoandhhkmkgmaaaBase
import Derived.Lib.Replace
import Derived.Lib.SlTrimSet
namespace Go.Proofs.Ytoandhhkmkgmaaa

def blankB (c : UInt8) : Bool := c == 32 || c == 9
def badB (c : UInt8) : Bool := decide (126 < c) || (decide (c < 32) && c != 9 && c != 10)
def shownL (s : List UInt8) : List UInt8 := s.flatMap fun c => if c = 35 then [92, 35] else [c]
def unescL : List UInt8 → List UInt8
  | [] => []
  | 92 :: 35 :: t => 35 :: unescL t
  | c :: t => c :: unescL t
def trimLL (s : List UInt8) : List UInt8 := s.dropWhile blankB
def trimRL (s : List UInt8) : List UInt8 := (s.reverse.dropWhile blankB).reverse
def trimBL (s : List UInt8) : List UInt8 := trimRL (trimLL s)
theorem blanks_eq (c : UInt8) : ([32, 9] : List UInt8).contains c = blankB c := by
  rw [Bool.eq_iff_iff]
  simp [blankB]
theorem trimLeft_eq (s : List UInt8) : Lib.trimLeftS s [32, 9] = trimLL s := by
  unfold Lib.trimLeftS trimLL
  congr 1
  funext c
  exact blanks_eq c
theorem trimRight_eq (s : List UInt8) : Lib.trimRightS s [32, 9] = trimRL s := by
  unfold Lib.trimRightS trimRL
  congr 3
  funext c
  exact blanks_eq c
/-! ### Replaced -/
theorem rk_skip {old new : List UInt8} (f : Nat) {c : UInt8} {t : List UInt8} (h : old.isPrefixOf (c :: t) = false) : Lib.replaceK old new (f + 1) (c :: t) = c :: Lib.replaceK old new (f + 1) t := by
  have hi : Lib.index (c :: t) old = if Lib.index t old == -1 then -1 else Lib.index t old + 1 := by rw [Lib.index, h]; rfl
  rw [Lib.replaceK, Lib.replaceK, hi]
  have hge := Lib.index_ge t old
  by_cases hn : Lib.index t old = -1
  · rw [hn]; rfl
  · have h1 : (Lib.index t old == -1) = false := by simp [hn]
    have h2 : (Lib.index t old + 1 == -1) = false := by simp; omega
    rw [h1]
    simp only [Bool.false_eq_true, if_false]
    rw [h2]
    simp only [Bool.false_eq_true, if_false]
    have e : (Lib.index t old + 1).toNat = (Lib.index t old).toNat + 1 := by omega
    rw [e, List.take_succ_cons, show (Lib.index t old).toNat + 1 + old.length = ((Lib.index t old).toNat + old.length) + 1 by omega, List.drop_succ_cons]
    rfl
theorem rk_hit {old new : List UInt8} (f : Nat) {c : UInt8} {t : List UInt8} (h : old.isPrefixOf (c :: t) = true) : Lib.replaceK old new (f + 1) (c :: t) = new ++ Lib.replaceK old new f ((c :: t).drop old.length) := by
  have hi : Lib.index (c :: t) old = 0 := by rw [Lib.index, h]; rfl
  rw [Lib.replaceK, hi]
  simp
theorem rk_nil {old new : List UInt8} (f : Nat) (h : old ≠ []) : Lib.replaceK old new f [] = [] := by
  cases f with
  | zero => rfl
  | succ f =>
    have hi : Lib.index [] old = -1 := by
      rw [Lib.index]
      cases old with
      | nil => exact absurd rfl h
      | cons a l => rfl
    rw [Lib.replaceK, hi]
    rfl
theorem rk_count (old new : List UInt8) : ∀ (f : Nat) (s : List UInt8), Lib.replaceK old new (Lib.countFrom old f s) s = Lib.replaceK old new f s
  | 0, _ => rfl
  | f + 1, s => by
    rw [Lib.countFrom]
    by_cases h : (Lib.index s old == -1) = true
    · rw [if_pos h, Lib.replaceK, Lib.replaceK, if_pos h]
    · rw [if_neg h, Nat.add_comm 1, Lib.replaceK, Lib.replaceK, if_neg h, if_neg h, rk_count old new f]
theorem replaceAll_eq {s old new : List UInt8} (h : old ≠ new) : Lib.replaceAll s old new = Lib.replaceK old new (s.length + 1) s := by
  have hb : (old == new) = false := beq_eq_false_iff_ne.2 h
  unfold Lib.replaceAll Lib.replace
  rw [hb]
  simp only [Bool.false_eq_true, if_false]
  have e : Lib.replaceNum s old (-1) = Lib.countFrom old (s.length + 1) s := by unfold Lib.replaceNum Lib.count; rw [if_pos (.inl (by decide))]
  rw [e, rk_count]
theorem rk_shown : ∀ (s : List UInt8) (f : Nat), s.length < f → Lib.replaceK [35] [92, 35] f s = shownL s
  | [], f, _ => rk_nil f (by simp)
  | c :: t, 0, h => by omega
  | c :: t, f + 1, h => by
    simp only [List.length_cons] at h
    by_cases hc : c = 35
    · subst hc
      rw [rk_hit f (by simp [List.isPrefixOf]), show ([35] : List UInt8).length = 1 from rfl, List.drop_succ_cons, List.drop_zero, rk_shown t f (by omega)]
      simp [shownL]
    · have hp : ([35] : List UInt8).isPrefixOf (c :: t) = false := by
        have : ((35 : UInt8) == c) = false := beq_eq_false_iff_ne.2 (fun e => hc e.symm)
        simp [List.isPrefixOf, this]
      rw [rk_skip f hp, rk_shown t (f + 1) (by omega)]
      simp [shownL, hc]
theorem unescL_hit (t : List UInt8) : unescL (92 :: 35 :: t) = 35 :: unescL t := by rw [unescL]
theorem unescL_skip {c : UInt8} {t : List UInt8} (h : ¬ (c = 92 ∧ t.head? = some 35)) : unescL (c :: t) = c :: unescL t := by
  rw [unescL]
  intro t' h1 h2
  exact h ⟨h1, by rw [h2]; rfl⟩
theorem rk_unesc : ∀ (n : Nat) (s : List UInt8) (f : Nat), s.length ≤ n → s.length < f → Lib.replaceK [92, 35] [35] f s = unescL s := by
  intro n
  induction n with
  | zero =>
    intro s f hn hf
    obtain rfl : s = [] := List.length_eq_zero_iff.1 (by omega)
    rw [rk_nil f (by simp), unescL]
  | succ n ih =>
    intro s f hn hf
    cases s with
    | nil => rw [rk_nil f (by simp), unescL]
    | cons c t =>
      cases f with
      | zero => simp at hf
      | succ f =>
        simp only [List.length_cons] at hn hf
        by_cases h : c = 92 ∧ t.head? = some 35
        · obtain ⟨rfl, ht⟩ := h
          cases t with
          | nil => cases ht
          | cons d t' =>
            simp at ht
            subst ht
            rw [rk_hit f (by simp [List.isPrefixOf]), show ([92, 35] : List UInt8).length = 2 from rfl]
            simp only [List.drop_succ_cons, List.drop_zero, List.length_cons] at hn hf ⊢
            rw [ih t' f (by omega) (by omega), unescL_hit]
            rfl
        · have hp : ([92, 35] : List UInt8).isPrefixOf (c :: t) = false := by
            rw [Bool.eq_false_iff]
            intro hp
            cases t with
            | nil => simp [List.isPrefixOf] at hp
            | cons d t' =>
              simp [List.isPrefixOf] at hp
              exact h ⟨hp.1.symm, by rw [← hp.2]; rfl⟩
          rw [rk_skip f hp, ih t (f + 1) (by omega) (by omega), unescL_skip h]
theorem replace_shown (s : List UInt8) : Lib.replaceAll s [35] [92, 35] = shownL s := by
  rw [replaceAll_eq (by simp), rk_shown _ _ (Nat.lt_succ_self _)]
theorem replace_unesc (s : List UInt8) : Lib.replaceAll s [92, 35] [35] = unescL s := by
  rw [replaceAll_eq (by simp), rk_unesc _ _ _ (Nat.le_refl _) (Nat.lt_succ_self _)]
theorem shownL_snoc (s : List UInt8) (c : UInt8) : shownL (s ++ [c]) = shownL s ++ (if c = 35 then [92, 35] else [c]) := by unfold shownL; rw [List.flatMap_append]; simp
theorem shownL_len (s : List UInt8) : (shownL s).length ≤ 2 * s.length := by
  induction s with
  | nil => exact Nat.le_refl _
  | cons c t ih =>
    have e : shownL (c :: t) = (if c = 35 then [92, 35] else [c]) ++ shownL t := rfl
    have l : (if c = 35 then [92, 35] else [c] : List UInt8).length ≤ 2 := by split <;> simp
    rw [e, List.length_append, List.length_cons]
    omega
/-! ### Said aside -/
/-- One stops here: the sign behind no backslash. -/
def stopA (s : List UInt8) (i : Nat) : Bool := (s[i]? == some 35) && (i == 0 || s[i - 1]? != some 92)
def takeA (p : Option UInt8) : List UInt8 → List UInt8
  | [] => []
  | c :: t => if c = 35 ∧ p ≠ some 92 then [] else c :: takeA (some c) t
theorem takeA_eq : ∀ (s : List UInt8) (p : Option UInt8) (i : Nat), i ≤ s.length → (∀ j, j < i → ¬ (s[j]? = some 35 ∧ (if j = 0 then p else s[j - 1]?) ≠ some 92)) → (i = s.length ∨ (s[i]? = some 35 ∧ (if i = 0 then p else s[i - 1]?) ≠ some 92)) → takeA p s = s.take i
  | [], p, i, _, _, _ => by rw [takeA]; simp
  | c :: t, p, i, hi, h1, h2 => by
    rw [takeA]
    cases i with
    | zero =>
      rcases h2 with h2 | h2
      · simp at h2
      · rw [if_pos]
        · rfl
        · simpa using h2
    | succ i =>
      have h0 := h1 0 (by omega)
      rw [if_neg (by simpa using h0), List.take_succ_cons]
      congr 1
      refine takeA_eq t (some c) i (by simp at hi; omega) (fun j hj hh => ?_) ?_
      · refine h1 (j + 1) (by omega) ?_
        rw [if_neg (by omega)]
        refine ⟨by simpa using hh.1, ?_⟩
        cases j with
        | zero => simpa using hh.2
        | succ j => simpa using hh.2
      · rcases h2 with h2 | h2
        · left; simp at h2; omega
        · right
          rw [if_neg (by omega)] at h2
          refine ⟨by simpa using h2.1, ?_⟩
          cases i with
          | zero => simpa using h2.2
          | succ i => simpa using h2.2
/-- What is left of a line. -/
def asideL (s : List UInt8) : List UInt8 := trimRL (unescL (takeA none s))
theorem unescL_app : ∀ (n : Nat) (u v : List UInt8), u.length ≤ n → ¬ (u.getLast? = some 92 ∧ v.head? = some 35) → unescL (u ++ v) = unescL u ++ unescL v := by
  intro n
  induction n with
  | zero =>
    intro u v hn _
    obtain rfl : u = [] := List.length_eq_zero_iff.1 (by omega)
    rfl
  | succ n ih =>
    intro u v hn h
    cases u with
    | nil => rfl
    | cons c t =>
      simp only [List.length_cons] at hn
      by_cases hc : c = 92 ∧ t.head? = some 35
      · obtain ⟨rfl, ht⟩ := hc
        cases t with
        | nil => cases ht
        | cons d t' =>
          simp at ht
          subst ht
          rw [List.cons_append, List.cons_append, unescL_hit, unescL_hit, List.cons_append]
          congr 1
          refine ih t' v (by simp at hn; omega) (fun hh => ?_)
          cases t' with
          | nil => simp at hh
          | cons x y => exact h ⟨by simpa using hh.1, hh.2⟩
      · have hc2 : ¬ (c = 92 ∧ (t ++ v).head? = some 35) := by
          intro hh
          cases t with
          | nil => exact h ⟨by simp [hh.1], by simpa using hh.2⟩
          | cons d t' => exact hc ⟨hh.1, by simpa using hh.2⟩
        rw [List.cons_append, unescL_skip hc2, unescL_skip hc, List.cons_append]
        congr 1
        refine ih t v (by omega) (fun hh => ?_)
        cases t with
        | nil => simp at hh
        | cons x y => exact h ⟨by simpa using hh.1, hh.2⟩
/-- One more sign. -/
theorem unescL_snoc (u : List UInt8) (c : UInt8) : unescL (u ++ [c]) = if c = 35 ∧ u.getLast? = some 92 then (unescL u).dropLast ++ [35] else unescL u ++ [c] := by
  have one : ∀ c : UInt8, unescL [c] = [c] := fun c => by rw [unescL_skip (by simp)]; rw [unescL]
  by_cases h : c = 35 ∧ u.getLast? = some 92
  · obtain ⟨rfl, hu⟩ := h
    obtain ⟨v, rfl⟩ : ∃ v, u = v ++ [92] := by
      have hne : u ≠ [] := fun e => by rw [e] at hu; cases hu
      refine ⟨u.dropLast, ?_⟩
      have := List.dropLast_concat_getLast hne
      rw [List.getLast?_eq_some_getLast hne] at hu
      injection hu with hu
      rw [hu] at this
      exact this.symm
    rw [if_pos ⟨rfl, hu⟩]
    rw [List.append_assoc, unescL_app _ v _ (Nat.le_refl _) (by simp), unescL_app _ v [92] (Nat.le_refl _) (by simp), one]
    have : unescL ([92] ++ [35]) = [35] := by show unescL [92, 35] = _; rw [unescL_hit, unescL]
    rw [this]
    simp
  · rw [if_neg h, unescL_app _ u [c] (Nat.le_refl _) (fun hh => h ⟨by simpa using hh.2, hh.1⟩), one]
end Go.Proofs.Ytoandhhkmkgmaaa
