/- A block known whole. No program in sight. -/
import Derived.Test.YtoandhhkmkgmaaaBase
import Derived.Lib.Hide
namespace Go.Proofs.Ytoandhhkmkgmaaa
open Go.RowKit


theorem lt_of_blockG {w : World} {b : Nat} {o : Obj} (h : w.heap[b]? = some o) : b < w.heap.size := (Array.getElem?_eq_some_iff.1 h).1
/-- A block that is known whole, none of it frozen. -/
def Blk (w : World) (b : Nat) (t : TypeId) (vs : List Value) : Prop := w.heap[b]? = some (.cells vs.toArray t (0, 0))
section
variable {w w' : World} {b : Nat} {t : TypeId} {vs : List Value}
theorem Blk.cell (h : Blk w b t vs) {j : Nat} {v : Value} (hj : vs[j]? = some v) : w.cell? ⟨b, j, none⟩ = some v := by
  unfold Blk at h
  simp [World.cell?, h, hj]
theorem Blk.free (h : Blk w b t vs) (j : Nat) : w.frozen? ⟨b, j, none⟩ = false := by
  unfold Blk at h
  simp [World.frozen?, h]
theorem Blk.lt (h : Blk w b t vs) : b < w.heap.size := lt_of_blockG h
theorem Blk.same (h : Blk w b t vs) (j : Nat) (u : Value) : Blk (w.setCell ⟨b, j, none⟩ u) b t (vs.set j u) := by
  unfold Blk
  rw [heap_setCell_same w b j vs.toArray t u h]
  simp
theorem Blk.below {B : Nat} (h : Blk w b t vs) (hb : Below B w w') (hB : b < B) : Blk w' b t vs := by
  unfold Blk
  rw [hb.block b hB]
  exact h
theorem Blk.new (w : World) (cs : Array Value) (t : TypeId) : Blk (w.alloc (.cells cs t)) w.heap.size t cs.toList := by
  unfold Blk
  rw [heap_alloc_new, Array.toArray_toList]
end
theorem Blk.drw {w : World} {b : Nat} {t : TypeId} {vs : List Value} (h : Blk w b t vs) : Blk w.drew b t vs := h
theorem blk_put3 {w : World} {b : Nat} {t : TypeId} {x1 x2 x3 : Value} (h : Blk w b t [x1, x2, x3]) (v1 v2 v3 : Value) : Blk (((w.setCell ⟨b, 0, none⟩ v1).setCell ⟨b, 1, none⟩ v2).setCell ⟨b, 2, none⟩ v3) b t [v1, v2, v3] := ((h.same 0 v1).same 1 v2).same 2 v3
theorem below_put3 {B b : Nat} {w w' : World} (h : Below B w w') (hB : B ≤ b) (v1 v2 v3 : Value) : Below B w (((w'.setCell ⟨b, 0, none⟩ v1).setCell ⟨b, 1, none⟩ v2).setCell ⟨b, 2, none⟩ v3) :=
  ((h.setCell (p := ⟨b, 0, none⟩) hB v1).setCell (p := ⟨b, 1, none⟩) hB v2).setCell (p := ⟨b, 2, none⟩) hB v3
theorem blk_far {w : World} {b b' j : Nat} {t : TypeId} {vs : List Value} (h : Blk w b t vs) (hne : b ≠ b') (u : Value) : Blk (w.setCell ⟨b', j, none⟩ u) b t vs := by
  unfold Blk
  rw [Below.heap_setCell _ _ _ _ hne]
  exact h
theorem Blk.other {w : World} {b : Nat} {t : TypeId} {vs : List Value} (h : Blk w b t vs) {a : Addr} (hne : b ≠ a.block) (u : Value) : Blk (w.setCell a u) b t vs := by
  unfold Blk
  rw [Below.heap_setCell _ _ _ _ hne]
  exact h
theorem own_lt {w w' : World} {B base : Nat} {e : TypeId} {size : Nat} {v : Value} {n : Nat} {xs : List Value} (h : w.ownsRow base e size v n xs) (hb : Below B w w') (hlt : ∀ g, v.ownBlock = some g → g < B) : w'.ownsRow base e size v n xs := by
  refine ⟨h.1, ?_⟩
  rcases h.2 with h' | ⟨g, cap, cur, h1, h2, h3, h4⟩
  · exact .inl h'
  · subst h1
    exact .inr ⟨g, cap, cur, rfl, h2, by rw [hb.block g (hlt g rfl)]; exact h3, h4⟩
theorem own_belowK {w w' : World} {B : Nat} {e : TypeId} {size : Nat} {v : Value} {n : Nat} {xs : List Value} (h : w.ownsRow B e size v n xs) (hb : Below w.heap.size w w') : w'.ownsRow B e size v n xs :=
  h.kept (w' := w') (row := none) ⟨hb.os, hb.tape, hb.output, hb.size, fun k hk _ => hb.block k hk⟩ (by
    cases hv : v.ownBlock with
    | none => exact .inl rfl
    | some g => exact .inr (by simp))
end Go.Proofs.Ytoandhhkmkgmaaa
