/- Shortest walks between two sets, plain: rings around the second set, and the least walk. -/
import Derived.Test.YtonmkmghpiagjaaDoorBits1
namespace Go.Proofs.YtonmkmghpiagjaaDoor

/-- From which numbers b is come to in at most k steps. -/
def ring (l : List Nat) (b k : Nat) : Nat := iterR (turned l) b k
theorem turned_in {l : List Nat} {s : Nat} (h : InRows l s) : InRows (turned l) s := fun j hj => by rw [turned_len]; exact h j hj
theorem ring_zero (l : List Nat) (b : Nat) : ring l b 0 = b := rfl
theorem ring_in {l : List Nat} (hg : Good l) {b : Nat} (hb : InRows l b) (k : Nat) : InRows l (ring l b k) := fun j hj => by
  have := iterR_in (turned_good hg) (turned_in hb) k j hj
  rw [turned_len] at this
  exact this
theorem ring_sub (l : List Nat) (b k j : Nat) (h : (ring l b k).testBit j = true) : (ring l b (k + 1)).testBit j = true := iterR_sub _ _ _ _ h
theorem ring_le (l : List Nat) (b j : Nat) {k m : Nat} (hkm : k ≤ m) (h : (ring l b k).testBit j = true) : (ring l b m).testBit j = true := by
  induction m with
  | zero =>
    obtain rfl : k = 0 := by omega
    exact h
  | succ m ih =>
    by_cases hk : k = m + 1
    · subst hk; exact h
    · exact ring_sub l b m j (ih (by omega))
/-- One step towards b. -/
theorem ring_step {l : List Nat} (hg : Good l) {b : Nat} (hb : InRows l b) (k x : Nat) :
    (ring l b (k + 1)).testBit x = true ↔ (ring l b k).testBit x = true ∨ ∃ y, (rowAt l x).testBit y = true ∧ (ring l b k).testBit y = true := by
  unfold ring
  rw [iterR, stepR_bit, turned_len]
  constructor
  · rintro (h | ⟨i, hi, h1, h2⟩)
    · exact .inl h
    · rw [rowAt_turned l i hi, colUp_bit, Bool.and_eq_true] at h2
      exact .inr ⟨i, h2.2, h1⟩
  · rintro (h | ⟨y, h1, h2⟩)
    · exact .inl h
    · have hy := ring_in hg hb k y h2
      refine .inr ⟨y, hy, h2, ?_⟩
      rw [rowAt_turned l y hy, colUp_bit, h1]
      have : x < l.length := by
        rcases Nat.lt_or_ge x l.length with h | h
        · exact h
        · rw [rowAt_ge h] at h1; simp at h1
      simp [this]
/-- The level of x: in how many steps b is come to. -/
def AtLevel (l : List Nat) (b x d : Nat) : Prop := (ring l b d).testBit x = true ∧ ∀ k, k < d → (ring l b k).testBit x = false
theorem level_unique {l : List Nat} {b x d e : Nat} (h1 : AtLevel l b x d) (h2 : AtLevel l b x e) : d = e := by
  rcases Nat.lt_trichotomy d e with h | h | h
  · have := h2.2 d h; rw [h1.1] at this; cases this
  · exact h
  · have := h1.2 e h; rw [h2.1] at this; cases this
theorem level_of {l : List Nat} {b x k : Nat} (h : (ring l b k).testBit x = true) : ∃ d, d ≤ k ∧ AtLevel l b x d := by
  induction k with
  | zero => exact ⟨0, by omega, h, fun k hk => absurd hk (by omega)⟩
  | succ k ih =>
    cases h1 : (ring l b k).testBit x with
    | true =>
      obtain ⟨d, hd, h2⟩ := ih h1
      exact ⟨d, by omega, h2⟩
    | false =>
      refine ⟨k + 1, by omega, h, fun j hj => ?_⟩
      cases h2 : (ring l b j).testBit x with
      | false => rfl
      | true => rw [ring_le l b x (by omega : j ≤ k) h2] at h1; cases h1

/-- Levels as the reference finds them, round by round; -1: not yet. -/
def lev (l : List Nat) (b : Nat) : Nat → Nat → Int
  | 0, x => if b.testBit x then 0 else -1
  | d + 1, x => if lev l b d x < 0 ∧ (nums (rowAt l x)).any (fun k => decide (lev l b d k = (d : Int))) = true then (d : Int) + 1 else lev l b d x
theorem lev_ring {l : List Nat} (hg : Good l) {b : Nat} (hb : InRows l b) (d : Nat) : ∀ x,
    (∀ e : Nat, lev l b d x = (e : Int) ↔ e ≤ d ∧ AtLevel l b x e) ∧ (lev l b d x < 0 ↔ (ring l b d).testBit x = false) ∧ (lev l b d x < 0 → lev l b d x = -1) := by
  induction d with
  | zero =>
    intro x
    unfold lev
    rw [ring_zero]
    cases h : b.testBit x with
    | true =>
      refine ⟨fun e => ⟨fun he => ?_, fun he => ?_⟩, by simp, by simp⟩
      · simp at he
        obtain rfl : e = 0 := by omega
        exact ⟨by omega, h, fun k hk => absurd hk (by omega)⟩
      · simp; omega
    | false =>
      refine ⟨fun e => ⟨fun he => ?_, fun he => ?_⟩, by simp, by simp⟩
      · simp at he
      · obtain ⟨h1, h2, _⟩ := he
        obtain rfl : e = 0 := by omega
        rw [ring_zero, h] at h2
        cases h2
  | succ d ih =>
    intro x
    obtain ⟨a1, a2, a3⟩ := ih x
    have hany : (nums (rowAt l x)).any (fun k => decide (lev l b d k = (d : Int))) = true ↔ ∃ y, (rowAt l x).testBit y = true ∧ AtLevel l b y d := by
      rw [List.any_eq_true]
      constructor
      · rintro ⟨y, hy, h⟩
        exact ⟨y, (mem_nums (hg.b64 x)).1 hy, (((ih y).1 d).1 (of_decide_eq_true h)).2⟩
      · rintro ⟨y, hy, h⟩
        exact ⟨y, (mem_nums (hg.b64 x)).2 hy, decide_eq_true (((ih y).1 d).2 ⟨by omega, h⟩)⟩
    have key : lev l b d x < 0 → ((ring l b (d + 1)).testBit x = true ↔ ∃ y, (rowAt l x).testBit y = true ∧ AtLevel l b y d) := by
      intro hneg
      have hx := a2.1 hneg
      rw [ring_step hg hb]
      constructor
      · rintro (h | ⟨y, h1, h2⟩)
        · rw [hx] at h; cases h
        · refine ⟨y, h1, h2, fun k hk => ?_⟩
          cases hr : (ring l b k).testBit y with
          | false => rfl
          | true =>
            have : (ring l b (k + 1)).testBit x = true := (ring_step hg hb k x).2 (.inr ⟨y, h1, hr⟩)
            rw [ring_le l b x (by omega : k + 1 ≤ d) this] at hx
            cases hx
      · rintro ⟨y, h1, h2⟩
        exact .inr ⟨y, h1, h2.1⟩
    unfold lev
    by_cases hc : lev l b d x < 0 ∧ (nums (rowAt l x)).any (fun k => decide (lev l b d k = (d : Int))) = true
    · rw [if_pos hc]
      have hr : (ring l b (d + 1)).testBit x = true := (key hc.1).2 (hany.1 hc.2)
      have hlev : AtLevel l b x (d + 1) := by
        refine ⟨hr, fun k hk => ?_⟩
        cases h : (ring l b k).testBit x with
        | false => rfl
        | true =>
          have := ring_le l b x (by omega : k ≤ d) h
          rw [a2.1 hc.1] at this
          cases this
      refine ⟨fun e => ⟨fun he => ?_, fun he => ?_⟩, ⟨fun h => by omega, fun h => by rw [hr] at h; cases h⟩, fun h => by omega⟩
      · obtain rfl : e = d + 1 := by omega
        exact ⟨by omega, hlev⟩
      · have := level_unique he.2 hlev
        omega
    · rw [if_neg hc]
      refine ⟨fun e => ⟨fun he => ?_, fun he => ?_⟩, ⟨fun h => ?_, fun h => ?_⟩, a3⟩
      · obtain ⟨h1, h2⟩ := (a1 e).1 he
        exact ⟨by omega, h2⟩
      · by_cases hed : e = d + 1
        · subst hed
          have hneg : lev l b d x < 0 := a2.2 (he.2.2 d (by omega))
          have := (key hneg).1 he.2.1
          exact absurd ⟨hneg, hany.2 this⟩ hc
        · exact (a1 e).2 ⟨by omega, he.2⟩
      · cases hr : (ring l b (d + 1)).testBit x with
        | false => rfl
        | true => exact absurd ⟨h, hany.2 ((key h).1 hr)⟩ hc
      · apply a2.2
        cases hr : (ring l b d).testBit x with
        | false => rfl
        | true => rw [ring_sub l b d x hr] at h; cases h
end Go.Proofs.YtonmkmghpiagjaaDoor
