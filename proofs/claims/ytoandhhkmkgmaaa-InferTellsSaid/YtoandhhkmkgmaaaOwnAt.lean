/- One element appended to a slice of the call's own, and where the new slice lies. Bounds as said. -/
import Derived.Test.YtoandhhkmkgmaaaOwn
import Derived.Maps.AppendAt
namespace Go.Proofs.Ytoandhhkmkgmaaa
open Go.RowKit

section
variable {P : Program} {ops : Array Oper} {rest : List Oper} {o : Oper} {a : Act} {Q : Exit → Act → World → Prop}
/-- 'out = append(out, u)', and where the new slice lies. -/
theorem wpList_pushAt {t e : TypeId} {z : Value} {bytes : Nat} (T : ElT P t e z bytes) (wr : World) (s x : Operand) (B : Nat) (A : Option Addr) (n c : Nat) (xs : List Value) (u : Value)
    (hown : wr.ownsRow B e 1 (.slice A n c) n xs) (hu : u.oneCell' = true) (hB : B ≤ wr.heap.size) (hn : (n + 1) * bytes ≤ 140737488355328) (hn' : n + 1 ≤ 140737488355328)
    (hgd : o.guard = none) (ho : o.op = .call { callee := .builtin .append, args := #[s, x], argTypes := #[t, t] })
    (hs : a.eval s = .slice A n c) (hx : a.eval x = .slice (some ⟨wr.heap.size, 0, none⟩) 1 1)
    (h : ∀ A' c' w', w'.ownsRow B e 1 (.slice A' (n + 1) c') (n + 1) (xs ++ [u]) → Below B wr w' → (wr.alloc (.cells #[u] e)).grownBy w' (Value.slice A n c).ownBlock →
      ((Value.slice A' (n + 1) c').ownBlock = (Value.slice A n c).ownBlock ∨ (Value.slice A' (n + 1) c').ownBlock = some (wr.heap.size + 1)) → wpList P ops Q rest (a.put o.dst (.slice A' (n + 1) c')) w') :
    wpList P ops Q (o :: rest) a (wr.alloc (.cells #[u] e)) := by
  obtain ⟨ht, i, hi, hz, h1, hb, hzs⟩ := T
  have hB' : B ≤ (wr.alloc (.cells #[u] e)).heap.size := by simp; omega
  refine wpList_append_own_at _ hgd s x t ho B e i z 1 bytes ht hi hz h1 hb hzs (by decide) _ n xs hs (hown.alloc _) ⟨wr.heap.size, 0, none⟩ 1 1 [u] hx rfl ?_ ?_ (by unfold maxLen; omega) hn hB' ?_
  · intro j y hj
    match j, hj with
    | 0, hj =>
      simp at hj
      subst hj
      unfold Addr.add
      rw [if_pos rfl, World.cell?_alloc_at _ _ _ _ rfl]
      rfl
  · intro y hy
    rw [List.mem_singleton] at hy
    subst hy
    exact hu
  · intro v' w' hown' hg _ hat
    obtain ⟨A', c', rfl⟩ := own_form hown'
    refine h A' c' w' hown' ?_ hg ?_
    · exact ((Below.refl B wr).alloc hB _).grown hg hB' (fun k hk => own_row hown k hk)
    · have e : (wr.alloc (.cells #[u] e)).heap.size = wr.heap.size + 1 := by simp
      rw [← e]
      exact hat
end
end Go.Proofs.Ytoandhhkmkgmaaa
