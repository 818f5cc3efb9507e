/- Appends to what came in, as steps of a region that draws its order; slices that read as a list, cut. No condition. -/
import Derived.Test.YtoandhhkmkgmaaaBase
import Derived.Deep.RegionLaw
import Derived.Deep.RegionLawGrows
import Derived.WalkKit
import Derived.IntWalk
namespace Go.Proofs.Ytoandhhkmkgmaaa
open Go.RowKit

theorem run_append_zero' {P : Program} (w : World) (t ty e : TypeId) (i : TypeInfo) (ht : P.underlying t = some (.slice e)) (hi : P.info? e = some i) (ad : Addr) (n c : Nat) (a2 : Option Addr) (c2 : Nat) (hc : n ≤ c) :
    (Builtin.append_ #[t, t] ty #[.slice (some ad) n c, .slice a2 0 c2]).run P w = .ok (.slice (some ad) n c) w := by
  cases a2 with
  | none => simp [Builtin.append_, run_underlying ht, sizeOf, typeInfo, hi, Builtin.lenOf, Builtin.firstCells, hc, storeCells]
  | some b => simp [Builtin.append_, run_underlying ht, sizeOf, typeInfo, hi, Builtin.lenOf, Builtin.firstCells, hc, storeCells, loadCells, loadCellsFrom]
theorem step_append_none {P : Program} {ops : Array Oper} {o : Oper} {a : Act} {w : World} {K : Act → World → Prop} {Q : Exit → Act → World → Prop} {E : Prop}
    (hg : o.guard = none) (s x : Operand) (t : TypeId) (hop : o.op = Op.call { callee := Callee.builtin Builtin.append, args := #[s, x], argTypes := #[t, t] })
    (e : TypeId) (i : TypeInfo) (h1 : P.underlying t = some (.slice e)) (h2 : P.info? e = some i) (ad : Addr) (n cap : Nat) (hs : a.eval s = .slice (some ad) n cap) (hc : n ≤ cap)
    (a2 : Option Addr) (c2 : Nat) (hx : a.eval x = .slice a2 0 c2) (hK : K (a.put o.dst (.slice (some ad) n cap)) w) :
    if Region.wanted o (yielded ops a.tmps) = true then Oper.wp P o a w K Q else E := by
  have hw : Region.wanted o (yielded ops a.tmps) = true := by simp [Region.wanted, hg]
  rw [if_pos hw]
  have hrun := run_append_zero' (P := P) w t o.type e i h1 h2 ad n cap a2 c2 hc
  unfold Oper.wp
  simp [execOp, hop, resolve, invoke, builtin, hs, hx, hrun, Result.andThen]
  exact hK
theorem addr_plus (b off i : Nat) : (⟨b, off, none⟩ : Addr).add i = ⟨b, off + i, none⟩ := by
  unfold Addr.add
  split
  · rename_i h; subst h; rfl
  · rfl
/-- The head of a slice that reads as a list. -/
theorem rd_head {α : Type} {f : α → Value} {w : World} {b off j : Nat} {l : List α} (h : Rd w (some ⟨b, off, none⟩) (l.map f)) :
    ∀ a : Addr, some (⟨b, off, none⟩ : Addr) = some a → ∀ i u, ((l.take j).map f)[i]? = some u → w.cell? (a.add i) = some u := by
  intro a ha i u hu
  injection ha with ha
  subst ha
  rw [addr_plus]
  have hi : ((l.map f))[i]? = some u := by
    rw [List.map_take, List.getElem?_take] at hu
    split at hu
    · exact hu
    · cases hu
  obtain ⟨b', off', hA, _, hc⟩ := h (by have := (List.getElem?_eq_some_iff.1 hi).1; omega)
  injection hA with hA
  injection hA with h1 h2 _
  subst h1 h2
  exact hc i u hi
/-- Its tail. -/
theorem rd_tail {α : Type} {f : α → Value} {w : World} {b off j : Nat} {l : List α} (h : Rd w (some ⟨b, off, none⟩) (l.map f)) :
    ∀ i u, ((l.drop j).map f)[i]? = some u → w.cell? ((⟨b, off + j, none⟩ : Addr).add i) = some u := by
  intro i u hu
  rw [addr_plus, Nat.add_assoc]
  have hi : ((l.map f))[j + i]? = some u := by
    rw [List.map_drop, List.getElem?_drop] at hu
    exact hu
  obtain ⟨b', off', hA, _, hc⟩ := h (by have := (List.getElem?_eq_some_iff.1 hi).1; omega)
  injection hA with hA
  injection hA with h1 h2 _
  subst h1 h2
  exact hc (j + i) u hi
end Go.Proofs.Ytoandhhkmkgmaaa
