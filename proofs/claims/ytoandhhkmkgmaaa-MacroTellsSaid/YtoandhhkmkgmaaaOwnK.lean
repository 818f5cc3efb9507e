/- A slice of the call's own, read as a list of cells. No program in sight. -/
import Derived.Test.YtoandhhkmkgmaaaBase
import Derived.Test.YtoandhhkmkgmaaaBlk
namespace Go.Proofs.Ytoandhhkmkgmaaa
open Go.RowKit

theorem rd_of_ownK {w : World} {B : Nat} {e : TypeId} {size : Nat} {A : Option Addr} {n c : Nat} {xs : List Value} (h : w.ownsRow B e size (.slice A n c) n xs) : Rd w A xs := by
  intro hpos
  rcases h.2 with ⟨_, h0⟩ | ⟨g, cap, cur, hv, _⟩
  · have := h.1
    rw [h0, Nat.zero_mul] at this
    omega
  · injection hv with hA _ _
    subst hA
    have hc := h.cells (g := g) rfl
    have hat : ∀ (j : Nat) (u : Value), xs[j]? = some u → w.cell? ⟨g, 0 + j, none⟩ = some u := fun j u hu => by
      have := hc j u hu
      unfold Addr.add at this
      by_cases hj : j = 0
      · subst hj; simpa using this
      · simpa [hj] using this
    refine ⟨g, 0, rfl, lt_of_cell' (hat 0 _ (List.getElem?_eq_getElem hpos)), hat⟩
end Go.Proofs.Ytoandhhkmkgmaaa
