/- A row of the call's own that the library has sorted. No condition. -/
import Derived.Test.YtoandhhkmkgmaaaOwn
import Derived.Shelf.SlSortCmp.Insertion
namespace Go.Proofs.Ytoandhhkmkgmaaa
open Go.RowKit Go.Sort Go.Lib

variable {α : Type} [Inhabited α]
/-- A row of the call's own, in the sort's words. -/
theorem own_holds {w : World} {B e n c : Nat} {A : Option Addr} {enc : α → Value} {xs : List α} (h : w.ownsRow B e 1 (.slice A n c) n (xs.map enc)) (hn : 0 < n) :
    ∃ g, A = some ⟨g, 0, none⟩ ∧ B ≤ g ∧ g < w.heap.size ∧ Holds enc w g 0 xs.toArray := by
  have hlen := own_len h
  rw [List.length_map] at hlen
  rcases h.2 with ⟨_, h0⟩ | ⟨g, cap, cur, hv, hB, hg, _, _, _, ht⟩
  · omega
  · injection hv with hA _ _
    refine ⟨g, hA, hB, (Array.getElem?_eq_some_iff.1 hg).1, fun j hj => ⟨?_, by simp [World.frozen?, hg]⟩⟩
    have hj' : j < xs.length := by simpa using hj
    subst hA
    have := h.cells (g := g) rfl j (enc xs[j]) (by simp [hj'])
    unfold Addr.add at this
    have hx : xs.toArray[j]! = xs[j] := by simp [hj']
    rw [hx, Nat.zero_add]
    by_cases h0 : j = 0
    · rw [if_pos h0] at this; subst h0; exact this
    · rw [if_neg h0, Nat.zero_add] at this; exact this
/-- Behind the sort. -/
theorem own_sorted {w : World} {B e g n c : Nat} {enc : α → Value} {xs ts : List α} (h : w.ownsRow B e 1 (.slice (some ⟨g, 0, none⟩) n c) n (xs.map enc)) (hl : ts.length = xs.length) (q : Nat) (os : Array Obj) :
    (sortWorld enc w g 0 q ts.toArray os).ownsRow B e 1 (.slice (some ⟨g, 0, none⟩) n c) n (ts.map enc) ∧ w.grownBy (sortWorld enc w g 0 q ts.toArray os) (some g) := by
  have hlen := own_len h
  rw [List.length_map] at hlen
  rcases h.2 with ⟨hv, _⟩ | ⟨g', cap, cur, hv, hB, hg, h1, h2, h3, _⟩
  · cases hv
  · injection hv with hA _ hc
    injection hA with hA
    injection hA with hA _ _
    subst hA hc
    have hlt : g < w.heap.size := (Array.getElem?_eq_some_iff.1 hg).1
    constructor
    · refine ⟨by rw [List.length_map]; omega, .inr ⟨g, c, putCells enc 0 ts.toArray cur, rfl, hB, ?_, h1, h2, by simp [putCells, h3], ?_⟩⟩
      · unfold sortWorld
        rw [heap_grow_old _ _ (by simpa using hlt)]
        simp [putRow, mapBlock, Sort.ahead, Array.getElem?_modify, hg, onCells]
      · apply List.ext_getElem?
        intro j
        by_cases hj : j < ts.length
        · rw [List.getElem?_take_of_lt (by omega), Array.getElem?_toList]
          simp [putCells, hj, show j < cur.size by omega]
        · rw [List.getElem?_take_eq_none (by omega), List.getElem?_eq_none (by rw [List.length_map]; omega)]
    · refine ⟨rfl, rfl, rfl, by simp [sortWorld], fun k hk hne => ?_⟩
      unfold sortWorld
      rw [heap_grow_old _ _ (by simpa using hk)]
      have : g ≠ k := fun e => hne (by rw [e])
      simp [putRow, mapBlock, Sort.ahead, Array.getElem?_modify, this]
theorem own_sorted_below {w : World} {B e g n c : Nat} {enc : α → Value} {xs ts : List α} (h : w.ownsRow B e 1 (.slice (some ⟨g, 0, none⟩) n c) n (xs.map enc)) (hl : ts.length = xs.length) (hB : B ≤ w.heap.size) (q : Nat) (os : Array Obj) :
    Below B w (sortWorld enc w g 0 q ts.toArray os) :=
  (Below.refl B w).grown (own_sorted h hl q os).2 hB (fun k hk => by injection hk with hk; subst hk; exact (h.lt g rfl).1)
end Go.Proofs.Ytoandhhkmkgmaaa
