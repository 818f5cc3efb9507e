/- Counting, plain: lists without repetition that are one another's image. -/
import Derived.Test.YtonmkmghpiagjaaDoorApartPlain
namespace Go.Proofs.YtonmkmghpiagjaaDoor

theorem len_le {β : Type} [DecidableEq β] {A : List Nat} {B : List β} (g : Nat → β) (hA : A.Nodup) (hg : ∀ x ∈ A, g x ∈ B) (hi : ∀ x ∈ A, ∀ y ∈ A, g x = g y → x = y) : A.length ≤ B.length := by
  induction A generalizing B with
  | nil => exact Nat.zero_le _
  | cons a A ih =>
    rw [List.nodup_cons] at hA
    have ha := hg a (by simp)
    have hle := ih (B := B.erase (g a)) hA.2 (fun x hx => by
      refine (List.mem_erase_of_ne ?_).2 (hg x (by simp [hx]))
      intro e
      have := hi x (by simp [hx]) a (by simp) e
      subst this
      exact hA.1 hx) (fun x hx y hy => hi x (by simp [hx]) y (by simp [hy]))
    rw [List.length_erase_of_mem ha] at hle
    have : 0 < B.length := List.length_pos_of_mem ha
    simp
    omega
theorem len_eq {A B : List Nat} (g f : Nat → Nat) (hA : A.Nodup) (hB : B.Nodup) (hg : ∀ x ∈ A, g x ∈ B ∧ f (g x) = x) (hf : ∀ y ∈ B, f y ∈ A ∧ g (f y) = y) : A.length = B.length :=
  Nat.le_antisymm
    (len_le g hA (fun x hx => (hg x hx).1) (fun x hx y hy e => by rw [← (hg x hx).2, ← (hg y hy).2, e]))
    (len_le f hB (fun x hx => (hf x hx).1) (fun x hx y hy e => by rw [← (hf x hx).2, ← (hf y hy).2, e]))
theorem len_split (p : Nat → Bool) : ∀ L : List Nat, (L.filter p).length + (L.filter fun x => !p x).length = L.length
  | [] => rfl
  | x :: L => by
    have := len_split p L
    rw [List.filter_cons, List.filter_cons]
    cases p x <;> simp <;> omega
end Go.Proofs.YtonmkmghpiagjaaDoor
