/- The walk of InferTells, as the statement takes it. No condition beyond what the opening gives. -/
import Derived.Test.YtoandhhkmkgmaaaMg27
import Derived.Test.YtoandhhkmkgmaaaMg5
import Derived.Test.YtoandhhkmkgmaaaMg45
namespace Go.Proofs.Ytoandhhkmkgmaaa
open Go.RowKit Go.WideShapes Go.ChangeShapes Go.ChangeAt Go.Deep

theorem inferTells_walk (A0 : Option Addr) (c0 : Nat) (L0 : List RSlot) (A1 : Option Addr) (c1 : Nat) (L1 : List InfT) (A2 : Option Addr) (c2 : Nat) (l2 : List (List UInt8)) (s : List UInt8) (w : World)
    (hA : RsAll A0 L0 w) (hL : L0.length ≤ 9223372036854775807) (hR1 : Rd w A1 (macV L1)) (hb1 : L1.length ≤ 9223372036854775807) (hc1 : L1.length ≤ c1) (hs1 : ∀ y ∈ L1, y.1.length ≤ 9223372036854775807 ∧ y.2.length ≤ 9223372036854775807)
    (hR2 : Rd w A2 (l2.map sv)) (hb2 : l2.length * 16 ≤ 140737488351232) (hs2 : ∀ s ∈ l2, StrOk s) (hs : s.length ≤ 140737488351232) :
    Calls Try.prog 4 #[.slice A0 L0.length c0, .slice A1 L1.length c1, .slice A2 l2.length c2, sv s] w fun e w' => e = .returned (.bool true) ∧ Below w.heap.size w w' :=
  inferTells_any L0 L1 l2 s w hA rfl hL hR1 rfl hb1 hc1 hs1 hR2 rfl (by omega) (fun s hs' => by have := hs2 s hs'; unfold StrOk maxLen at this; omega) (by omega)
end Go.Proofs.Ytoandhhkmkgmaaa
