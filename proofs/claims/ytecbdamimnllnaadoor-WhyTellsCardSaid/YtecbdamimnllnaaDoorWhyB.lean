/- Contract: why.Text. The graph as for graph.Check; the row of reasons is finite; the causes' texts lie. -/
import Derived.Test.YtecbdamimnllnaaDoorWhy9
import Derived.Test.YtecbdamimnllnaaDoorBld
namespace Go.Proofs.YtecbdamimnllnaaDoor
open Go.RowKit

def causeB (c : Nat) : List UInt8 := if c = 1 then [103, 111, 110, 101] else if c = 2 then [112, 104, 111, 110, 121] else if c = 3 then [100, 105, 114, 116, 121] else if c = 4 then [110, 101, 119, 101, 114] else if c = 5 then [97, 110, 101, 119] else []
structure CTab (w : World) : Prop where
  lt : 0 < w.heap.size
  at_ : ∀ c : Nat, c < 6 → w.cell? ⟨0, c, none⟩ = some (.string ⟨(causeB c).toArray⟩)
theorem CTab.below {w w' : World} (h : CTab w) (hb : Below w.heap.size w w') : CTab w' := ⟨Nat.lt_of_lt_of_le h.lt hb.size, fun c hc => cell_keep (h.at_ c hc) hb⟩
def nmB (N : List (List UInt8)) (i : Int) : List UInt8 := N[i.toNat]?.getD []
def lineW (N : List (List UInt8)) (e : WV) : List UInt8 := (nmB N e.n ++ [32] ++ causeB e.c.toNat) ++ (if 3 ≤ e.c then [32] ++ nmB N e.k else []) ++ [10]
def textW (N : List (List UInt8)) (L : List WV) : List UInt8 := L.flatMap (lineW N)
theorem textW_snoc (N : List (List UInt8)) (L : List WV) (e : WV) : textW N (L ++ [e]) = textW N L ++ lineW N e := by unfold textW; rw [List.flatMap_append]; simp
def txErr (N : List (List UInt8)) (E : List EdgeT) (p m : Nat) (L : List WV) : Int := if 64 < L.length then 2 else if allOk L = false then 3 else if grErr N E p m ≠ 0 then grErr N E p m else if L.all (inW N.length) = false then 4 else 0
def txStr (N : List (List UInt8)) (E : List EdgeT) (p m : Nat) (L : List WV) : List UInt8 := if txErr N E p m L = 0 then textW N L else []
theorem nmB_len {N : List (List UInt8)} (h : N.all goodName = true) (i : Int) : (nmB N i).length ≤ 40 := by
  unfold nmB
  cases hi : N[i.toNat]? with
  | none => simp
  | some s =>
    have := List.all_eq_true.1 h s (List.mem_of_getElem? hi)
    unfold goodName at this
    simp at this ⊢
    omega
theorem causeB_len (c : Nat) : (causeB c).length ≤ 5 := by
  unfold causeB
  split
  · decide
  · split
    · decide
    · split
      · decide
      · split
        · decide
        · split <;> decide
theorem lineW_len {N : List (List UInt8)} (h : N.all goodName = true) (e : WV) : (lineW N e).length ≤ 100 := by
  have h1 := nmB_len h e.n
  have h2 := nmB_len h e.k
  have h3 := causeB_len e.c.toNat
  unfold lineW
  simp only [List.length_append, List.length_singleton]
  split
  · simp only [List.length_append, List.length_singleton]; omega
  · simp only [List.length_nil]; omega
theorem textW_len {N : List (List UInt8)} (h : N.all goodName = true) : ∀ L : List WV, (textW N L).length ≤ L.length * 100
  | [] => Nat.zero_le _
  | e :: L => by
    have h1 := lineW_len h e
    have h2 := textW_len h L
    have : textW N (e :: L) = lineW N e ++ textW N L := rfl
    rw [this, List.length_append, List.length_cons]
    omega
end Go.Proofs.YtecbdamimnllnaaDoor
