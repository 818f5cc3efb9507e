/- Plain law of package dom: those that rule a number rule one another. No condition. -/
import Derived.Test.YtonmkmghpiagjaaDoorDomPlain2
namespace Go.Proofs.YtonmkmghpiagjaaDoor

theorem rch_root {l : List Nat} {root b : Nat} {p : Nat → Prop} (h : Rch l root p b) : p root := by
  induction h with
  | start h => exact h
  | step _ _ _ ih => exact ih
theorem rch_two {l : List Nat} {root a b v : Nat} (hab : a ≠ b) (ha : Rch l root (fun x => x ≠ b) a) (hb : Rch l root (fun x => x ≠ a) b) (h : Rch l root (fun _ => True) v) :
    Rch l root (fun x => x ≠ a) v ∨ Rch l root (fun x => x ≠ b) v := by
  induction h with
  | start _ =>
    by_cases h : root = a
    · exact .inr (.start (fun e => hab (h.symm.trans e)))
    · exact .inl (.start h)
  | step _ h2 _ ih =>
    rename_i i j _ _
    rcases ih with h1 | h1
    · by_cases hj : j = a
      · subst hj; exact .inr ha
      · exact .inl (.step h1 h2 hj)
    · by_cases hj : j = b
      · subst hj; exact .inl hb
      · exact .inr (.step h1 h2 hj)
/-- Of two that rule a number that is reached, one rules the other. -/
theorem dom_chain {l : List Nat} {root n a b : Nat} (hg : Good l) (hr : root < l.length) (ha : a < l.length) (hb : b < l.length) (hn : Rch l root (fun _ => True) n)
    (h1 : domA l root n a = true) (h2 : domA l root n b = true) : domA l root b a = true ∨ domA l root a b = true := by
  by_cases hab : a = b
  · exact .inl ((domA_iff hg hr ha).2 (.inr (.inl hab)))
  · rcases (domA_iff hg hr ha).1 h1 with e1 | e1 | e1
    · exact .inl ((domA_iff hg hr ha).2 (.inl e1))
    · subst e1; exact .inr h2
    · rcases (domA_iff hg hr hb).1 h2 with e2 | e2 | e2
      · exact .inr ((domA_iff hg hr hb).2 (.inl e2))
      · subst e2; exact .inl h1
      · by_cases g1 : Rch l root (fun x => x ≠ a) b
        · by_cases g2 : Rch l root (fun x => x ≠ b) a
          · rcases rch_two hab g2 g1 hn with h | h
            · exact absurd h e1
            · exact absurd h e2
          · exact .inr ((domA_iff hg hr hb).2 (.inr (.inr g2)))
        · exact .inl ((domA_iff hg hr ha).2 (.inr (.inr g1)))
/-- Ruling goes on: who rules what rules n rules n. -/
theorem dom_trans {l : List Nat} {root n a b : Nat} (hg : Good l) (hr : root < l.length) (ha : a < l.length) (hb : b < l.length) (h1 : domA l root b a = true) (h2 : domA l root n b = true) (hbr : b = root → a = root) : domA l root n a = true := by
  refine (domA_iff hg hr ha).2 ?_
  by_cases har : a = root
  · exact .inl har
  · by_cases han : a = n
    · exact .inr (.inl han)
    · refine .inr (.inr fun hw => ?_)
      have key : ∀ v, Rch l root (fun x => x ≠ a) v → Rch l root (fun x => x ≠ b) v ∨ Rch l root (fun x => x ≠ a) b := by
        intro v hv
        induction hv with
        | start _ =>
          by_cases h : root = b
          · exact absurd (hbr h.symm) har
          · exact .inl (.start h)
        | step hv1 hv2 hv3 ih =>
          rename_i i j
          rcases ih with h | h
          · by_cases hj : j = b
            · subst hj; exact .inr (.step hv1 hv2 hv3)
            · exact .inl (.step h hv2 hj)
          · exact .inr h
      rcases (domA_iff hg hr ha).1 h1 with e | e | e
      · exact har e
      · subst e
        rcases (domA_iff hg hr hb).1 h2 with e2 | e2 | e2
        · exact har e2
        · exact han e2
        · exact e2 hw
      · rcases key n hw with h | h
        · rcases (domA_iff hg hr hb).1 h2 with e2 | e2 | e2
          · exact har (hbr e2)
          · subst e2; exact e hw
          · exact e2 h
        · exact e h
theorem rch_mono {l : List Nat} {root v : Nat} {p q : Nat → Prop} (hpq : ∀ x, p x → q x) (h : Rch l root p v) : Rch l root q v := by
  induction h with
  | start h => exact .start (hpq _ h)
  | step _ h2 h3 ih => exact .step ih h2 (hpq _ h3)
theorem rch_last {l : List Nat} {root v : Nat} {p : Nat → Prop} (h : Rch l root p v) : p v := by cases h <;> assumption
/-- Two that rule each other are one. -/
theorem dom_anti {l : List Nat} {root a b : Nat} (hg : Good l) (hr : root < l.length) (ha : a < l.length) (hb : b < l.length) (hra : Rch l root (fun _ => True) a)
    (h1 : domA l root b a = true) (h2 : domA l root a b = true) : a = b := by
  apply Classical.byContradiction
  intro hab
  have key : ∀ v, Rch l root (fun _ => True) v → Rch l root (fun x => x ≠ a) b ∨ Rch l root (fun x => x ≠ b) a ∨ Rch l root (fun x => x ≠ a ∧ x ≠ b) v := by
    intro v hv
    induction hv with
    | start _ =>
      by_cases e1 : root = a
      · subst e1; exact .inr (.inl (.start hab))
      · by_cases e2 : root = b
        · subst e2; exact .inl (.start e1)
        · exact .inr (.inr (.start ⟨e1, e2⟩))
    | step _ hv2 _ ih =>
      rename_i i j _ _
      rcases ih with h | h | h
      · exact .inl h
      · exact .inr (.inl h)
      · by_cases e1 : j = a
        · subst e1; exact .inr (.inl (.step (rch_mono (fun _ hx => hx.2) h) hv2 hab))
        · by_cases e2 : j = b
          · subst e2; exact .inl (.step (rch_mono (fun _ hx => hx.1) h) hv2 e1)
          · exact .inr (.inr (.step h hv2 ⟨e1, e2⟩))
  have hA : ¬ Rch l root (fun x => x ≠ b) a ∨ b = root := by
    rcases (domA_iff hg hr hb).1 h2 with e | e | e
    · exact .inr e
    · exact absurd e.symm hab
    · exact .inl e
  have hB : ¬ Rch l root (fun x => x ≠ a) b ∨ a = root := by
    rcases (domA_iff hg hr ha).1 h1 with e | e | e
    · exact .inr e
    · exact absurd e hab
    · exact .inl e
  have c1 : Rch l root (fun x => x ≠ a) b → False := fun h => by
    rcases hB with e | e
    · exact e h
    · exact rch_root h e.symm
  have c2 : Rch l root (fun x => x ≠ b) a → False := fun h => by
    rcases hA with e | e
    · exact e h
    · exact rch_root h e.symm
  rcases key a hra with h | h | h
  · exact c1 h
  · exact c2 h
  · exact (rch_last h).1 rfl
theorem ruledBy_bit {l : List Nat} {root b j : Nat} (h : domR l root b = true) : (ruledBy l root b).testBit j = (decide (j < l.length) && domA l root b j) := by
  unfold ruledBy
  rw [if_pos h, domS_bit]
theorem dom_root {l : List Nat} {root a : Nat} (hg : Good l) (hr : root < l.length) (ha : a < l.length) (h : domA l root root a = true) : a = root := by
  rcases (domA_iff hg hr ha).1 h with e | e | e
  · exact e
  · exact e
  · apply Classical.byContradiction
    intro hne
    exact e (.start (fun e' => hne e'.symm))
/-- Fewer rule a ruler than rule what it rules. -/
theorem dom_count {l : List Nat} {root a b : Nat} (hg : Good l) (hr : root < l.length) (ha : a < l.length) (hb : b < l.length) (hra : domR l root a = true) (hrb : domR l root b = true)
    (h : domA l root b a = true) (hne : a ≠ b) : (nums (ruledBy l root a)).length + 1 ≤ (nums (ruledBy l root b)).length := by
  have hn := hg.1
  refine nums_more (i := b) (by omega) (fun j hj => ?_) ?_ ?_
  · rw [ruledBy_bit hra] at hj
    simp only [Bool.and_eq_true, decide_eq_true_eq] at hj
    rw [ruledBy_bit hrb]
    simp only [Bool.and_eq_true, decide_eq_true_eq]
    refine ⟨hj.1, dom_trans hg hr hj.1 ha hj.2 h (fun e => ?_)⟩
    subst e
    exact dom_root hg hr hj.1 hj.2
  · rw [ruledBy_bit hra]
    cases hq : domA l root a b with
    | false => simp
    | true => exact absurd (dom_anti hg hr ha hb ((domR_iff hg hr).1 hra) h hq) hne
  · rw [ruledBy_bit hrb]
    simp only [Bool.and_eq_true, decide_eq_true_eq]
    exact ⟨hb, (domA_iff hg hr hb).2 (.inr (.inl rfl))⟩
/-- What rules a number that is reached is reached. -/
theorem dom_reached {l : List Nat} {root a b : Nat} (hg : Good l) (hr : root < l.length) (ha : a < l.length) (hb : Rch l root (fun _ => True) b) (h : domA l root b a = true) : Rch l root (fun _ => True) a := by
  have key : ∀ v, Rch l root (fun _ => True) v → Rch l root (fun x => x ≠ a) v ∨ Rch l root (fun _ => True) a := by
    intro v hv
    induction hv with
    | start _ =>
      by_cases e : root = a
      · subst e; exact .inr (.start trivial)
      · exact .inl (.start e)
    | step hv1 hv2 _ ih =>
      rename_i i j _
      rcases ih with h1 | h1
      · by_cases e : j = a
        · subst e; exact .inr (.step hv1 hv2 trivial)
        · exact .inl (.step h1 hv2 e)
      · exact .inr h1
  rcases (domA_iff hg hr ha).1 h with e | e | e
  · subst e; exact .start trivial
  · subst e; exact hb
  · rcases key b hb with h1 | h1
    · exact absurd h1 e
    · exact h1
end Go.Proofs.YtonmkmghpiagjaaDoor
