/- Some of the proof's texts, merged; each one's own words stand ahead of it. -/
import Derived.Test.YtoandhhkmkgmaaaBase
import Derived.Lib.Hide
/- A block known whole. No program in sight. -/
namespace Go.Proofs.Ytoandhhkmkgmaaa
open Go.RowKit


theorem lt_of_blockG {w : World} {b : Nat} {o : Obj} (h : w.heap[b]? = some o) : b < w.heap.size := (Array.getElem?_eq_some_iff.1 h).1
/-- A block that is known whole, none of it frozen. -/
def Blk (w : World) (b : Nat) (t : TypeId) (vs : List Value) : Prop := w.heap[b]? = some (.cells vs.toArray t (0, 0))
section
variable {w w' : World} {b : Nat} {t : TypeId} {vs : List Value}
theorem Blk.cell (h : Blk w b t vs) {j : Nat} {v : Value} (hj : vs[j]? = some v) : w.cell? ⟨b, j, none⟩ = some v := by
  unfold Blk at h
  simp [World.cell?, h, hj]
theorem Blk.free (h : Blk w b t vs) (j : Nat) : w.frozen? ⟨b, j, none⟩ = false := by
  unfold Blk at h
  simp [World.frozen?, h]
theorem Blk.lt (h : Blk w b t vs) : b < w.heap.size := lt_of_blockG h
theorem Blk.same (h : Blk w b t vs) (j : Nat) (u : Value) : Blk (w.setCell ⟨b, j, none⟩ u) b t (vs.set j u) := by
  unfold Blk
  rw [heap_setCell_same w b j vs.toArray t u h]
  simp
theorem Blk.below {B : Nat} (h : Blk w b t vs) (hb : Below B w w') (hB : b < B) : Blk w' b t vs := by
  unfold Blk
  rw [hb.block b hB]
  exact h
theorem Blk.new (w : World) (cs : Array Value) (t : TypeId) : Blk (w.alloc (.cells cs t)) w.heap.size t cs.toList := by
  unfold Blk
  rw [heap_alloc_new, Array.toArray_toList]
end
theorem Blk.drw {w : World} {b : Nat} {t : TypeId} {vs : List Value} (h : Blk w b t vs) : Blk w.drew b t vs := h
theorem blk_put3 {w : World} {b : Nat} {t : TypeId} {x1 x2 x3 : Value} (h : Blk w b t [x1, x2, x3]) (v1 v2 v3 : Value) : Blk (((w.setCell ⟨b, 0, none⟩ v1).setCell ⟨b, 1, none⟩ v2).setCell ⟨b, 2, none⟩ v3) b t [v1, v2, v3] := ((h.same 0 v1).same 1 v2).same 2 v3
theorem below_put3 {B b : Nat} {w w' : World} (h : Below B w w') (hB : B ≤ b) (v1 v2 v3 : Value) : Below B w (((w'.setCell ⟨b, 0, none⟩ v1).setCell ⟨b, 1, none⟩ v2).setCell ⟨b, 2, none⟩ v3) :=
  ((h.setCell (p := ⟨b, 0, none⟩) hB v1).setCell (p := ⟨b, 1, none⟩) hB v2).setCell (p := ⟨b, 2, none⟩) hB v3
theorem blk_far {w : World} {b b' j : Nat} {t : TypeId} {vs : List Value} (h : Blk w b t vs) (hne : b ≠ b') (u : Value) : Blk (w.setCell ⟨b', j, none⟩ u) b t vs := by
  unfold Blk
  rw [Below.heap_setCell _ _ _ _ hne]
  exact h
theorem Blk.other {w : World} {b : Nat} {t : TypeId} {vs : List Value} (h : Blk w b t vs) {a : Addr} (hne : b ≠ a.block) (u : Value) : Blk (w.setCell a u) b t vs := by
  unfold Blk
  rw [Below.heap_setCell _ _ _ _ hne]
  exact h
theorem own_lt {w w' : World} {B base : Nat} {e : TypeId} {size : Nat} {v : Value} {n : Nat} {xs : List Value} (h : w.ownsRow base e size v n xs) (hb : Below B w w') (hlt : ∀ g, v.ownBlock = some g → g < B) : w'.ownsRow base e size v n xs := by
  refine ⟨h.1, ?_⟩
  rcases h.2 with h' | ⟨g, cap, cur, h1, h2, h3, h4⟩
  · exact .inl h'
  · subst h1
    exact .inr ⟨g, cap, cur, rfl, h2, by rw [hb.block g (hlt g rfl)]; exact h3, h4⟩
theorem own_belowK {w w' : World} {B : Nat} {e : TypeId} {size : Nat} {v : Value} {n : Nat} {xs : List Value} (h : w.ownsRow B e size v n xs) (hb : Below w.heap.size w w') : w'.ownsRow B e size v n xs :=
  h.kept (w' := w') (row := none) ⟨hb.os, hb.tape, hb.output, hb.size, fun k hk _ => hb.block k hk⟩ (by
    cases hv : v.ownBlock with
    | none => exact .inl rfl
    | some g => exact .inr (by simp))
end Go.Proofs.Ytoandhhkmkgmaaa
/- Slices of pairs, read as lists of cells. No program in sight. -/
namespace Go.Proofs.Ytoandhhkmkgmaaa
open Go.RowKit

theorem flat2_at {α : Type} (f g : α → Value) : ∀ (L : List α) (i : Nat) (x : α), L[i]? = some x → (L.flatMap fun x => [f x, g x])[2 * i]? = some (f x) ∧ (L.flatMap fun x => [f x, g x])[2 * i + 1]? = some (g x)
  | [], i, x, h => by cases h
  | a :: L, 0, x, h => by simp at h; subst h; exact ⟨rfl, rfl⟩
  | a :: L, i + 1, x, h => by
    have h' : L[i]? = some x := by simpa using h
    have ih := flat2_at f g L i x h'
    have e : (a :: L).flatMap (fun x => [f x, g x]) = f a :: g a :: (L.flatMap fun x => [f x, g x]) := rfl
    rw [e, show 2 * (i + 1) = 2 * i + 1 + 1 by omega]
    simpa using ih
theorem Rd.two {α : Type} {f g : α → Value} {w : World} {A : Option Addr} {L : List α} (h : Rd w A (L.flatMap fun x => [f x, g x])) {i : Nat} {x : α} (hi : L[i]? = some x) :
    ∃ b off, A = some ⟨b, off, none⟩ ∧ w.cell? ⟨b, off + 2 * i, none⟩ = some (f x) ∧ w.cell? ⟨b, off + 2 * i + 1, none⟩ = some (g x) := by
  obtain ⟨h1, h2⟩ := flat2_at f g L i x hi
  obtain ⟨b, off, hA, _, hc⟩ := h (by have := (List.getElem?_eq_some_iff.1 h1).1; omega)
  exact ⟨b, off, hA, hc _ _ h1, hc _ _ h2⟩
theorem Rd.own2 {base : Nat} {w : World} {A : Option Addr} {e : TypeId} {sz n c : Nat} {xs : List Value} (h : w.ownsRow base e sz (.slice A n c) n xs) : Rd w A xs := by
  intro hn
  rcases h.2 with ⟨hv, h0⟩ | ⟨g, cap, cur, hv, _, hh, _, _, _, ht⟩
  · have := h.1; subst h0; omega
  · injection hv with hA _ _
    subst hA
    refine ⟨g, 0, rfl, lt_of_blockG hh, fun j u hu => ?_⟩
    rw [← ht, List.getElem?_take] at hu
    split at hu
    · simp [World.cell?, hh]
      simpa using hu
    · cases hu
end Go.Proofs.Ytoandhhkmkgmaaa
/- A slice of the call's own, read as a list of cells. No program in sight. -/
namespace Go.Proofs.Ytoandhhkmkgmaaa
open Go.RowKit

theorem rd_of_ownK {w : World} {B : Nat} {e : TypeId} {size : Nat} {A : Option Addr} {n c : Nat} {xs : List Value} (h : w.ownsRow B e size (.slice A n c) n xs) : Rd w A xs := by
  intro hpos
  rcases h.2 with ⟨_, h0⟩ | ⟨g, cap, cur, hv, _⟩
  · have := h.1
    rw [h0, Nat.zero_mul] at this
    omega
  · injection hv with hA _ _
    subst hA
    have hc := h.cells (g := g) rfl
    have hat : ∀ (j : Nat) (u : Value), xs[j]? = some u → w.cell? ⟨g, 0 + j, none⟩ = some u := fun j u hu => by
      have := hc j u hu
      unfold Addr.add at this
      by_cases hj : j = 0
      · subst hj; simpa using this
      · simpa [hj] using this
    refine ⟨g, 0, rfl, lt_of_cell' (hat 0 _ (List.getElem?_eq_getElem hpos)), hat⟩
end Go.Proofs.Ytoandhhkmkgmaaa
