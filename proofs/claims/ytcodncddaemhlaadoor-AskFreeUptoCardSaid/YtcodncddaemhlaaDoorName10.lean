/- Contracts: slices.Grow of nil; slices.Concat of two. Lengths below 2^40. -/
import Derived.Test.YtcodncddaemhlaaDoorName5
import Derived.Lib.AppendZeros
namespace Go.Proofs.YtcodncddaemhlaaDoor
open Go.RowKit

theorem zeros_size (n : Nat) : (Builtin.zeroCells (Value.string ⟨#[]⟩).cells n).size = n := by
  show ((Array.range (n * 1)).map _).size = n
  simp
theorem grow_row {w : World} {n : Nat} (hn : n ≤ 1099511627776) :
    (w.drew.alloc (.cells (Builtin.zeroCells (Value.string ⟨#[]⟩).cells n ++ Builtin.zeroCells (Value.string ⟨#[]⟩).cells (grownCap w n 0 9 - n)) 9)).ownsRow w.heap.size 9 1 (.slice (some ⟨w.heap.size, 0, none⟩) 0 (grownCap w n 0 9)) 0 [] := by
  have h1 := grownCap_ge w n 0 9
  have h2 := grownCap_le_maxLen w n 0 9 (by unfold maxLen; omega)
  have h0 : ∀ o : Obj, (w.drew.alloc o).heap[w.heap.size]? = some o := fun o => by
    show (w.heap.push o)[w.heap.size]? = some o
    simp
  refine ⟨rfl, .inr ⟨w.heap.size, _, _, rfl, Nat.le_refl _, h0 _, by omega, h2, ?_, by simp⟩⟩
  rw [Array.size_append, zeros_size, zeros_size]
  omega

def CatRel (w : World) (n1 n2 : Nat) (l1 l2 : List (List UInt8)) (k : Nat) (v : Value) (wr : World) : Prop :=
  (k = 0 ∧ ∃ A c, v = .slice A 0 c ∧ wr.ownsRow w.heap.size 9 1 (.slice A 0 c) 0 [] ∧ Below w.heap.size w wr) ∨
  (k = 1 ∧ ∃ A c, v = .slice A n1 c ∧ wr.ownsRow w.heap.size 9 1 (.slice A n1 c) n1 (l1.map sv) ∧ Below w.heap.size w wr) ∨
  (k = 2 ∧ ∃ A c, v = .slice A (n1 + n2) c ∧ wr.ownsRow w.heap.size 9 1 (.slice A (n1 + n2) c) (n1 + n2) ((l1 ++ l2).map sv) ∧ Below w.heap.size w wr)
end Go.Proofs.YtcodncddaemhlaaDoor
