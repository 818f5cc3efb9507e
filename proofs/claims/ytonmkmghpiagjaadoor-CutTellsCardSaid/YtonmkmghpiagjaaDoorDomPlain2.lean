/- Plain law of package dom: who rules a number is a greatest fixpoint. No condition. -/
import Derived.Test.YtonmkmghpiagjaaDoorDomPlain
import Derived.Test.YtonmkmghpiagjaaDoorChainPlain
namespace Go.Proofs.YtonmkmghpiagjaaDoor

/-- b is reached from root, by numbers other than a. -/
inductive Rch (l : List Nat) (root : Nat) (p : Nat → Prop) : Nat → Prop
  | start : p root → Rch l root p root
  | step {i j : Nat} : Rch l root p i → (rowAt l i).testBit j = true → p j → Rch l root p j
theorem iter_rch {l : List Nat} {root : Nat} {k b : Nat} (h : (iterR l (2 ^ root) k).testBit b = true) : Rch l root (fun _ => True) b := by
  induction k generalizing b with
  | zero =>
    have h' : (2 ^ root).testBit b = true := h
    rw [Nat.testBit_two_pow] at h'
    have : root = b := of_decide_eq_true h'
    subst this
    exact .start trivial
  | succ k ih =>
    have h' : (stepR l (iterR l (2 ^ root) k)).testBit b = true := h
    rcases (stepR_bit l _ b).1 h' with h1 | ⟨i, _, h1, h2⟩
    · exact ih h1
    · exact .step (ih h1) h2 trivial
theorem rch_iter {l : List Nat} {root b : Nat} (hg : Good l) (hr : root < l.length) (h : Rch l root (fun _ => True) b) : (reachD l (2 ^ root) (-1)).testBit b = true := by
  have hin : InRows l (2 ^ root) := fun j hj => by
    rw [Nat.testBit_two_pow] at hj
    have : root = j := of_decide_eq_true hj
    omega
  show (iterR l (2 ^ root) 65).testBit b = true
  induction h with
  | start _ =>
    have h0 : ∀ k, (iterR l (2 ^ root) k).testBit root = true := fun k => by
      induction k with
      | zero => show (2 ^ root).testBit root = true; rw [Nat.testBit_two_pow]; simp
      | succ k ih => exact iterR_sub l _ k root ih
    exact h0 65
  | step _ h2 _ ih =>
    rename_i i j _ _
    have hst := iter_fix hg hin
    rw [← hst]
    exact (stepR_bit l _ _).2 (.inr ⟨i, iterR_in hg hin 65 i ih, ih, h2⟩)
theorem domR_iff {l : List Nat} {root b : Nat} (hg : Good l) (hr : root < l.length) : domR l root b = true ↔ Rch l root (fun _ => True) b :=
  ⟨fun h => iter_rch (k := 65) h, fun h => rch_iter hg hr h⟩
theorem rch_lt {l : List Nat} {root b : Nat} {p : Nat → Prop} (hg : Good l) (hr : root < l.length) (h : Rch l root p b) : b < l.length := by
  cases h with
  | start _ => exact hr
  | step _ h2 _ => exact hg.2 _ _ h2
/-- Without a: what is reached by other numbers than a. -/
theorem rch_without {l : List Nat} {root a b : Nat} (hg : Good l) (ha : a < l.length) (hne : a ≠ root) : Rch (withoutL l a) root (fun _ => True) b ↔ Rch l root (fun v => v ≠ a) b := by
  constructor
  · intro h
    induction h with
    | start _ => exact .start (fun e => hne e.symm)
    | step _ h2 _ ih =>
      rename_i i j _ _
      have hi : i < l.length := by
        rcases Nat.lt_or_ge i l.length with h | h
        · exact h
        · rw [rowAt_ge (by rw [withoutL_len]; exact h)] at h2; simp at h2
      rw [rowAt_without hi] at h2
      unfold woRow at h2
      split at h2
      · simp at h2
      · rw [drop_bit (hg.b64 i) (by have := hg.1; omega)] at h2
        simp at h2
        exact .step ih h2.1 h2.2
  · intro h
    induction h with
    | start _ => exact .start trivial
    | step h1 h2 h3 ih =>
      rename_i i j
      have hi : i < l.length := by
        rcases Nat.lt_or_ge i l.length with h | h
        · exact h
        · rw [rowAt_ge h] at h2; simp at h2
      have hia : i ≠ a := by cases h1 <;> assumption
      refine .step ih ?_ trivial
      rw [rowAt_without hi]
      unfold woRow
      rw [if_neg hia, drop_bit (hg.b64 i) (by have := hg.1; omega)]
      simp [h2, h3]
/-- a rules b, b being reached: no walk from root to b goes round a. -/
theorem domA_iff {l : List Nat} {root b a : Nat} (hg : Good l) (hr : root < l.length) (ha : a < l.length) : domA l root b a = true ↔ a = root ∨ a = b ∨ ¬ Rch l root (fun v => v ≠ a) b := by
  unfold domA
  simp only [Bool.or_eq_true, decide_eq_true_eq, Bool.not_eq_true']
  by_cases h1 : a = root
  · simp [h1]
  · rw [← rch_without hg ha h1, ← domR_iff (withoutL_good hg ha) (by rw [withoutL_len]; exact hr)]
    simp [h1]
/-- What rules b rules each step to b, or is b. -/
theorem domA_step {l : List Nat} {root i b a : Nat} (hg : Good l) (hr : root < l.length) (ha : a < l.length) (hi : (rowAt l i).testBit b = true) (h : domA l root b a = true) : a = b ∨ domA l root i a = true := by
  rcases (domA_iff hg hr ha).1 h with h | h | h
  · exact .inr ((domA_iff hg hr ha).2 (.inl h))
  · exact .inl h
  · by_cases hab : a = b
    · exact .inl hab
    · refine .inr ((domA_iff hg hr ha).2 ?_)
      by_cases hai : a = i
      · exact .inr (.inl hai)
      · exact .inr (.inr fun hw => h (.step hw hi (fun e => hab e.symm)))
/-- A rule that is stable holds no more than those that rule. -/
theorem stable_sub {l : List Nat} {root : Nat} (hg : Good l) (hr : root < l.length) (rule : Nat → Nat) (h0 : ∀ a, (rule root).testBit a = true → a = root)
    (hs : ∀ i b a, Rch l root (fun _ => True) i → (rowAt l i).testBit b = true → b ≠ root → (rule b).testBit a = true → a = b ∨ (rule i).testBit a = true)
    {b a : Nat} (ha : a < l.length) (h : (rule b).testBit a = true) : domA l root b a = true := by
  refine (domA_iff hg hr ha).2 ?_
  by_cases h1 : a = root
  · exact .inl h1
  · by_cases h2 : a = b
    · exact .inr (.inl h2)
    · refine .inr (.inr fun hw => ?_)
      have key : ∀ v, Rch l root (fun v => v ≠ a) v → Rch l root (fun _ => True) v ∧ (rule v).testBit a = false := by
        intro v hv
        induction hv with
        | start _ =>
          refine ⟨.start trivial, ?_⟩
          cases hq : (rule root).testBit a with
          | false => rfl
          | true => exact absurd (h0 a hq) h1
        | step hv1 hv2 hv3 ih =>
          rename_i i j
          refine ⟨.step ih.1 hv2 trivial, ?_⟩
          cases hq : (rule j).testBit a with
          | false => rfl
          | true =>
            by_cases hj : j = root
            · subst hj; exact absurd (h0 a hq) h1
            · rcases hs i j a ih.1 hv2 hj hq with e | e
              · exact absurd e.symm hv3
              · rw [ih.2] at e; cases e
      rw [(key b hw).2] at h
      cases h
end Go.Proofs.YtonmkmghpiagjaaDoor
