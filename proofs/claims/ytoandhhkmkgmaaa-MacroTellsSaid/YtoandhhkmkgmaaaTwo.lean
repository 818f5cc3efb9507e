/- Slices of pairs, read as lists of cells. No program in sight. -/
import Derived.Test.YtoandhhkmkgmaaaBase
import Derived.Test.YtoandhhkmkgmaaaBlk
namespace Go.Proofs.Ytoandhhkmkgmaaa
open Go.RowKit

theorem flat2_at {α : Type} (f g : α → Value) : ∀ (L : List α) (i : Nat) (x : α), L[i]? = some x → (L.flatMap fun x => [f x, g x])[2 * i]? = some (f x) ∧ (L.flatMap fun x => [f x, g x])[2 * i + 1]? = some (g x)
  | [], i, x, h => by cases h
  | a :: L, 0, x, h => by simp at h; subst h; exact ⟨rfl, rfl⟩
  | a :: L, i + 1, x, h => by
    have h' : L[i]? = some x := by simpa using h
    have ih := flat2_at f g L i x h'
    have e : (a :: L).flatMap (fun x => [f x, g x]) = f a :: g a :: (L.flatMap fun x => [f x, g x]) := rfl
    rw [e, show 2 * (i + 1) = 2 * i + 1 + 1 by omega]
    simpa using ih
theorem Rd.two {α : Type} {f g : α → Value} {w : World} {A : Option Addr} {L : List α} (h : Rd w A (L.flatMap fun x => [f x, g x])) {i : Nat} {x : α} (hi : L[i]? = some x) :
    ∃ b off, A = some ⟨b, off, none⟩ ∧ w.cell? ⟨b, off + 2 * i, none⟩ = some (f x) ∧ w.cell? ⟨b, off + 2 * i + 1, none⟩ = some (g x) := by
  obtain ⟨h1, h2⟩ := flat2_at f g L i x hi
  obtain ⟨b, off, hA, _, hc⟩ := h (by have := (List.getElem?_eq_some_iff.1 h1).1; omega)
  exact ⟨b, off, hA, hc _ _ h1, hc _ _ h2⟩
theorem Rd.own2 {base : Nat} {w : World} {A : Option Addr} {e : TypeId} {sz n c : Nat} {xs : List Value} (h : w.ownsRow base e sz (.slice A n c) n xs) : Rd w A xs := by
  intro hn
  rcases h.2 with ⟨hv, h0⟩ | ⟨g, cap, cur, hv, _, hh, _, _, _, ht⟩
  · have := h.1; subst h0; omega
  · injection hv with hA _ _
    subst hA
    refine ⟨g, 0, rfl, lt_of_blockG hh, fun j u hu => ?_⟩
    rw [← ht, List.getElem?_take] at hu
    split at hu
    · simp [World.cell?, hh]
      simpa using hu
    · cases hu
end Go.Proofs.Ytoandhhkmkgmaaa
