/- The walk of GraphMakes, as the card takes it. Condition: the reading's bulk, one more added, is at most 2^20. -/
import Derived.Test.YtoandhhkmkgmaaaGreatDoorMg32
import Derived.Test.YtoandhhkmkgmaaaGreatDoorMg51
namespace Go.Proofs.YtoandhhkmkgmaaaGreatDoor
open Go.RowKit Go.WideShapes Go.ChangeShapes Go.ChangeAt Go.Deep

theorem graphMakes_walk {A0 A1 A2 A3 : Option Addr} {n0 n1 n2 n3 c0 c1 c2 c3 : Nat} (f : FileT) (L : List RSlot) (A : Option Addr) (c : Nat) (l : List (List UInt8)) (mx : Int) (w : World)
 (h : FileIn A0 A1 A2 A3 n0 n1 n2 n3 c1 f L w ∧ RsAll A3 L w ∧ n2 ≤ c2) (hl : Rd w A (l.map sv)) (_hb : l.length * 16 ≤ 140737488351232) (hs : ∀ s ∈ l, StrOk s) (hm : w.cell? ⟨1, 0, none⟩ = some (.int .i64 mx)) (hu : l.length ≤ 1048576) (hT : Tab w) :
 Calls Tryz.prog 6 #[.agg #[.slice A0 n0 c0, .slice A1 n1 c1, .slice A2 n2 c2, .slice A3 n3 c3], .slice A l.length c] w fun e w' => e = .returned (.bool true) ∧ Below w.heap.size w w' :=
 graphMakes_any f L l w h.1 h.2.1 h.2.2 hl rfl (by omega) (fun s hs' => by have := hs s hs'; unfold StrOk maxLen at this; omega) mx hm (lt_of_cell' hm) hT
end Go.Proofs.YtoandhhkmkgmaaaGreatDoor
