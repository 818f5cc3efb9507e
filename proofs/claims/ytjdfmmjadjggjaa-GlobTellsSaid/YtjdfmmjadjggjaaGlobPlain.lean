/- Patterns, in plain Lean: the set within brackets read in two ways; the texts that pieces stand for, by rows and by bits. No program in sight. -/
import Derived.Test.YtjdfmmjadjggjaaBase
namespace Go.Proofs.Ytjdfmmjadjggjaa

/-- A piece: for any bytes, or for one byte of a set. -/
structure GP where
  any : Bool
  set : Nat → Bool
def addS (S : Nat → Bool) (a b : UInt8) : Nat → Bool := fun c => S c || (decide (a.toNat ≤ c) && decide (c ≤ b.toNat))
def oddC (c : UInt8) : Bool := c == 91 || c == 93 || c == 92 || c == 45 || c == 33
/-- One item of a set: from, to, what stands behind it. -/
def itemG (a : UInt8) (t : List UInt8) : UInt8 × List UInt8 := match t with
  | 45 :: y :: r => (y, r)
  | _ => (a, t)
theorem itemG_len (a : UInt8) (t : List UInt8) : (itemG a t).2.length ≤ t.length := by
  unfold itemG
  split
  · simp; omega
  · exact Nat.le_refl _
/-- The set as the program reads it, to the bracket that ends it. -/
def clsP (many : Nat) (S : Nat → Bool) : List UInt8 → Option ((Nat → Bool) × List UInt8)
  | [] => none
  | a :: t => if a = 93 then (if many = 0 then none else some (S, t)) else if oddC a || oddC (itemG a t).1 || decide ((itemG a t).1 < a) then none else clsP (many + 1) (addS S a (itemG a t).1) (itemG a t).2
termination_by s => s.length
decreasing_by have := itemG_len a t; simp; omega
/-- The items as the reference reads them. -/
def itemsR (S : Nat → Bool) : List UInt8 → Option (Nat → Bool)
  | [] => some S
  | a :: t => if oddC a || oddC (itemG a t).1 || decide ((itemG a t).1 < a) then none else itemsR (addS S a (itemG a t).1) (itemG a t).2
termination_by s => s.length
decreasing_by have := itemG_len a t; simp; omega
theorem itemsR_dash (S : Nat → Bool) : itemsR S [45] = none := by
  rw [itemsR]
  simp [itemG, oddC]
theorem itemG_two (a y : UInt8) (r : List UInt8) : itemG a (45 :: y :: r) = (y, r) := rfl
theorem itemG_nil (a : UInt8) : itemG a [] = (a, []) := rfl
theorem itemG_one (a x : UInt8) : itemG a [x] = (a, [x]) := by
  unfold itemG
  split
  · rename_i h; injection h with _ h; cases h
  · rfl
theorem itemG_other (a x : UInt8) (t : List UInt8) (h : x ≠ 45) : itemG a (x :: t) = (a, x :: t) := by
  unfold itemG
  split
  · rename_i h'; injection h' with h' _; exact absurd h' h
  · rfl
/-- Where the bracket comes: the two readings are one. -/
theorem cls_items : ∀ (n : Nat) (seg r : List UInt8) (many : Nat) (S : Nat → Bool), seg.length ≤ n → (∀ x ∈ seg, x ≠ 93) → clsP many S (seg ++ 93 :: r) = if many = 0 ∧ seg = [] then none else (itemsR S seg).map fun S' => (S', r) := by
  intro n
  induction n with
  | zero =>
    intro seg r many S hn hs
    obtain rfl : seg = [] := List.length_eq_zero_iff.1 (by omega)
    rw [List.nil_append, clsP, if_pos rfl, itemsR]
    by_cases hm : many = 0 <;> simp [hm]
  | succ n ih =>
    intro seg r many S hn hs
    cases seg with
    | nil =>
      rw [List.nil_append, clsP, if_pos rfl, itemsR]
      by_cases hm : many = 0 <;> simp [hm]
    | cons a t =>
      have ha : a ≠ 93 := hs a (by simp)
      have hif : ¬ (many = 0 ∧ a :: t = []) := by simp
      rw [if_neg hif, List.cons_append, clsP, if_neg ha, itemsR]
      have same : ∀ (b : UInt8) (q : List UInt8), q.length ≤ n → (∀ x ∈ q, x ≠ 93) → (if oddC a || oddC b || decide (b < a) then none else clsP (many + 1) (addS S a b) (q ++ 93 :: r)) = (if oddC a || oddC b || decide (b < a) then none else itemsR (addS S a b) q).map fun S' => (S', r) := fun b q hq hq' => by
        split
        · rfl
        · rw [ih q r (many + 1) _ hq hq', if_neg (by omega)]
      match t, hs, hn with
      | [], hs, hn =>
        rw [List.nil_append, itemG_nil, itemG_other a 93 r (by decide)]
        exact same a [] (by simp) (by simp)
      | [x], hs, hn =>
        by_cases hx : x = 45
        · subst hx
          have h1 : itemG a ([45] ++ 93 :: r) = (93, r) := rfl
          have h2 : oddC 93 = true := rfl
          rw [h1, itemG_one, h2, itemsR_dash]
          simp
        · rw [List.singleton_append, itemG_other a x _ hx, itemG_one]
          exact same a [x] (by simp at hn ⊢; omega) (fun y hy => hs y (by simp at hy ⊢; exact .inr hy))
      | x :: y :: q, hs, hn =>
        by_cases hx : x = 45
        · subst hx
          have h1 : itemG a ((45 :: y :: q) ++ 93 :: r) = (y, q ++ 93 :: r) := rfl
          rw [h1, itemG_two]
          exact same y q (by simp at hn ⊢; omega) (fun z hz => hs z (by simp [hz]))
        · rw [List.cons_append, itemG_other a x _ hx, itemG_other a x _ hx]
          exact same a (x :: y :: q) (by simp at hn ⊢; omega) (fun z hz => hs z (by simp at hz ⊢; exact .inr hz))
/-- Where no bracket comes, the program's reading fails. -/
theorem cls_none : ∀ (n : Nat) (s : List UInt8) (many : Nat) (S : Nat → Bool), s.length ≤ n → (∀ x ∈ s, x ≠ 93) → clsP many S s = none := by
  intro n
  induction n with
  | zero =>
    intro s many S hn hs
    obtain rfl : s = [] := List.length_eq_zero_iff.1 (by omega)
    rw [clsP]
  | succ n ih =>
    intro s many S hn hs
    cases s with
    | nil => rw [clsP]
    | cons a t =>
      rw [clsP, if_neg (hs a (by simp))]
      split
      · rfl
      · have h1 := itemG_len a t
        have h2 : ∀ x ∈ (itemG a t).2, x ∈ t := by
          unfold itemG
          split
          · intro x hx; simp [hx]
          · intro x hx; exact hx
        exact ih _ _ _ (by simp at hn; omega) (fun x hx => hs x (by simp [h2 x hx]))

/-! ### What pieces stand for -/
def anyAt (l : List GP) (k : Nat) : Bool := match l[k]? with | some p => p.any | none => false
def setAt (l : List GP) (k : Nat) (c : Nat) : Bool := match l[k]? with | some p => p.set c | none => false
/-- The first k pieces stand for the first i bytes. -/
def rf (l : List GP) (s : List Nat) : Nat → Nat → Bool
  | 0, i => i == 0
  | k + 1, 0 => anyAt l k && rf l s k 0
  | k + 1, i + 1 => if anyAt l k then rf l s k (i + 1) || rf l s (k + 1) i else rf l s k i && setAt l k (s[i]?.getD 0)
/-- One may be at piece k behind i bytes. -/
def bf (l : List GP) (s : List Nat) (k i : Nat) : Bool := if anyAt l k then rf l s (k + 1) i else rf l s k i
/-- At which pieces one is, all that stand for no byte gone through. -/
def clB (l : List GP) (B : Nat → Bool) : Nat → Bool
  | 0 => B 0
  | k + 1 => B (k + 1) || (anyAt l k && clB l B k)
def nxB (l : List GP) (A : Nat → Bool) (c : Nat) : Nat → Bool
  | 0 => A 0 && anyAt l 0
  | k + 1 => (A (k + 1) && anyAt l (k + 1)) || (A k && !anyAt l k && setAt l k c)
theorem bf_zero (l : List GP) (s : List Nat) : ∀ k, clB l (fun k => k == 0) k = bf l s k 0 := by
  have key : ∀ k, clB l (fun k => k == 0) k = rf l s k 0 := fun k => by
    induction k with
    | zero => rw [clB, rf]
    | succ k ih => rw [clB, rf, ih]; rfl
  intro k
  rw [key]
  unfold bf
  split
  · rename_i h; rw [rf, h, Bool.true_and]
  · rfl
theorem bf_succ (l : List GP) (s : List Nat) (i : Nat) : ∀ k, clB l (nxB l (fun k => bf l s k i) (s[i]?.getD 0)) k = bf l s k (i + 1) := by
  intro k
  induction k with
  | zero =>
    rw [clB, nxB]
    unfold bf
    cases h : anyAt l 0 <;> simp [rf, h]
  | succ k ih =>
    rw [clB, nxB, ih]
    unfold bf
    cases h1 : anyAt l (k + 1) <;> cases h0 : anyAt l k <;> simp [rf, h0, h1]
    · exact Bool.or_comm _ _
    · exact Bool.or_comm _ _
theorem bf_end (l : List GP) (s : List Nat) (i : Nat) : bf l s l.length i = rf l s l.length i := by
  unfold bf anyAt
  rw [List.getElem?_eq_none (Nat.le_refl _)]
  rfl
end Go.Proofs.Ytjdfmmjadjggjaa
