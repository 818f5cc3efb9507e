/- Contract: line.join. -/
import Derived.Test.YtbgcbigplegpmaaDoorLn7
import Derived.Maps.AppendAt
import Derived.OneCell
namespace Go.Proofs.YtbgcbigplegpmaaDoor
open Go.RowKit

theorem lt_of_blockG {w : World} {b : Nat} {o : Obj} (h : w.heap[b]? = some o) : b < w.heap.size := (Array.getElem?_eq_some_iff.1 h).1
/-- A block that is known whole, none of it frozen. -/
def Blk (w : World) (b : Nat) (t : TypeId) (vs : List Value) : Prop := w.heap[b]? = some (.cells vs.toArray t (0, 0))
section
variable {w w' : World} {b : Nat} {t : TypeId} {vs : List Value}
theorem Blk.cell (h : Blk w b t vs) {j : Nat} {v : Value} (hj : vs[j]? = some v) : w.cell? ⟨b, j, none⟩ = some v := by
  unfold Blk at h
  simp [World.cell?, h, hj]
theorem Blk.free (h : Blk w b t vs) (j : Nat) : w.frozen? ⟨b, j, none⟩ = false := by
  unfold Blk at h
  simp [World.frozen?, h]
theorem Blk.lt (h : Blk w b t vs) : b < w.heap.size := lt_of_blockG h
theorem Blk.same (h : Blk w b t vs) (j : Nat) (u : Value) : Blk (w.setCell ⟨b, j, none⟩ u) b t (vs.set j u) := by
  unfold Blk
  rw [heap_setCell_same w b j vs.toArray t u h]
  simp
theorem Blk.below {B : Nat} (h : Blk w b t vs) (hb : Below B w w') (hB : b < B) : Blk w' b t vs := by
  unfold Blk
  rw [hb.block b hB]
  exact h
theorem Blk.new (w : World) (cs : Array Value) (t : TypeId) : Blk (w.alloc (.cells cs t)) w.heap.size t cs.toList := by
  unfold Blk
  rw [heap_alloc_new, Array.toArray_toList]
end
/-- Lines as they lie. -/
def lnV (L : List (Nat × List UInt8)) : List Value := L.flatMap fun x => [.int .i64 (x.1 : Int), .string ⟨x.2.toArray⟩]
theorem lnV_snoc (L : List (Nat × List UInt8)) (x : Nat × List UInt8) : lnV (L ++ [x]) = lnV L ++ [.int .i64 (x.1 : Int), .string ⟨x.2.toArray⟩] := by unfold lnV; rw [List.flatMap_append]; rfl
theorem own_belowL {w w' : World} {B : Nat} {e : TypeId} {sz : Nat} {v : Value} {n : Nat} {xs : List Value} (h : w.ownsRow B e sz v n xs) (hb : Below w.heap.size w w') : w'.ownsRow B e sz v n xs :=
  h.kept (w' := w') (row := none) ⟨hb.os, hb.tape, hb.output, hb.size, fun k hk _ => hb.block k hk⟩ (by
    cases hv : v.ownBlock with
    | none => exact .inl rfl
    | some g => exact .inr (by simp))
/-- What is read of the next line. -/
def oneL (T s : List UInt8) : List UInt8 := if T = [] then frontN s else trimLL (frontN s)
theorem endsB_app {T one : List UInt8} (hT : T = [] ∨ ∃ U, T = U ++ [32]) : endsB (T ++ one) = endsB one := by
  unfold endsB
  by_cases h : one = []
  · subst h
    rcases hT with rfl | ⟨U, rfl⟩
    · rfl
    · simp
  · obtain ⟨u, d, rfl⟩ := snoc_of h
    rw [← List.append_assoc]
    simp
theorem dropLast_app {T one : List UInt8} (h : endsB one = true) : (T ++ one).dropLast = T ++ one.dropLast := by
  have : one ≠ [] := fun e => by rw [e] at h; cases h
  exact List.dropLast_append_of_ne_nil this
theorem contL_end {t : List UInt8} {ls : List (List UInt8)} (h : endsB t = false) : contL t ls = (t, ls) := by
  cases ls with
  | nil => rw [contL, h]; rfl
  | cons n ls => rw [contL, h]; rfl
theorem suffix_B (s : List UInt8) : Lib.hasSuffix s [92] = endsB s ∧ Lib.trimSuffix s [92] = if endsB s then s.dropLast else s := by
  have h1 : Lib.hasSuffix s [92] = endsB s := by
    unfold Lib.hasSuffix endsB
    by_cases h : s = []
    · subst h; rfl
    · obtain ⟨u, d, rfl⟩ := snoc_of h
      rw [Bool.eq_iff_iff]
      simp [List.isSuffixOf_iff_suffix, List.suffix_iff_eq_drop]
      exact eq_comm
  refine ⟨h1, ?_⟩
  unfold Lib.trimSuffix
  rw [h1]
  cases h : endsB s with
  | true => rw [if_pos rfl, if_pos rfl, List.dropLast_eq_take]; rfl
  | false => rfl
end Go.Proofs.YtbgcbigplegpmaaDoor
