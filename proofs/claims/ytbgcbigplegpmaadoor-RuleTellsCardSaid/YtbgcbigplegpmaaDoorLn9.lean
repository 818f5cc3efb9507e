/- Contract: line.join. -/
import Derived.Test.YtbgcbigplegpmaaDoorLn8
namespace Go.Proofs.YtbgcbigplegpmaaDoor
open Go.RowKit

theorem trimLL_le (s : List UInt8) : (trimLL s).length ≤ s.length := by unfold trimLL; exact (List.dropWhile_sublist _).length_le
theorem front_back (s : List UInt8) : (frontN s).length + (backN s).length ≤ s.length := by
  rcases index_nl s with ⟨_, h2, h3⟩ | ⟨i, h1, h2, h3⟩
  · rw [h2, h3]; simp
  · rw [h2, h3, List.length_take, List.length_drop]; omega
theorem pc_keepL {w w' : World} {b o : Nat} {v : Value} (h : w.cell? ⟨b, o, none⟩ = some v) (hb : Below w.heap.size w w') : w'.cell? ⟨b, o, none⟩ = some v := (hb.cell (p := ⟨b, o, none⟩) (lt_of_cell' h)).trans h
end Go.Proofs.YtbgcbigplegpmaaDoor
