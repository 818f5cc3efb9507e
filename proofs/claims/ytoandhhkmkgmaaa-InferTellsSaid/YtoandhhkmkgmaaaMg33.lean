/- One element of two cells appended to a slice of the call's own. Bounds as said. -/
import Derived.Test.YtoandhhkmkgmaaaOwn
import Derived.Test.YtoandhhkmkgmaaaMg15
import Derived.Maps.AppendAt
import Derived.OneCell
namespace Go.Proofs.Ytoandhhkmkgmaaa
open Go.RowKit

/-- A type of elements of two cells. -/
structure El2 (P : Program) (t e : TypeId) (bytes : Nat) : Prop where
  under : P.underlying t = some (.slice e)
  info : ∃ i z, P.info? e = some i ∧ i.zero = some z ∧ i.size = 2 ∧ i.bytes = bytes ∧ z.cells.size = 2
theorem El2.mk' {P : Program} {t e : TypeId} {bytes : Nat} (ht : P.underlying t = some (.slice e)) {z : Value} (h : (P.info? e).map (fun i => (i.zero, i.size, i.bytes)) = some (some z, 2, bytes)) (hz : z.cells.size = 2) : El2 P t e bytes := by
  cases hi : P.info? e with
  | none => rw [hi] at h; cases h
  | some i =>
    rw [hi] at h
    simp only [Option.map_some, Option.some.injEq, Prod.mk.injEq] at h
    exact ⟨ht, i, z, hi, h.1, h.2.1, h.2.2, hz⟩
/-- 'out = append(out, x)', out the call's own, x of two cells. -/
theorem wpList_push2 {P : Program} {t e : TypeId} {bytes : Nat} (T : El2 P t e bytes) {ops : Array Oper} {rest : List Oper} {o : Oper} {a : Act} {Q : Exit → Act → World → Prop} (wr : World) (s x : Operand) (B : Nat) (A : Option Addr) (n c : Nat) (xs : List Value) (u v : Value)
    (hu : u.oneCell' = true) (hv : v.oneCell' = true) (hown : wr.ownsRow B e 2 (.slice A n c) n xs) (hB : B ≤ wr.heap.size) (hn : (n + 1) * bytes ≤ 140737488355328) (hn' : n + 1 ≤ 140737488355328)
    (hgd : o.guard = none) (ho : o.op = .call { callee := .builtin .append, args := #[s, x], argTypes := #[t, t] })
    (hs : a.eval s = .slice A n c) (hx : a.eval x = .slice (some ⟨wr.heap.size, 0, none⟩) 1 1)
    (h : ∀ g c' w', w'.ownsRow B e 2 (.slice (some ⟨g, 0, none⟩) (n + 1) c') (n + 1) (xs ++ [u, v]) → Below B wr w' → (wr.alloc (.cells #[u, v] e)).grownBy w' (Value.slice A n c).ownBlock → wpList P ops Q rest (a.put o.dst (.slice (some ⟨g, 0, none⟩) (n + 1) c')) w') :
    wpList P ops Q (o :: rest) a (wr.alloc (.cells #[u, v] e)) := by
  obtain ⟨ht, i, z, hi, hz, h1, hb, hzs⟩ := T
  have hB' : B ≤ (wr.alloc (.cells #[u, v] e)).heap.size := by simp; omega
  refine wpList_append_own_at _ hgd s x t ho B e i z 2 bytes ht hi hz h1 hb hzs (by decide) (.slice A n c) n xs hs (hown.alloc _) ⟨wr.heap.size, 0, none⟩ 1 1 [u, v] hx rfl ?_ (by intro y hy; simp at hy; rcases hy with rfl | rfl <;> assumption) (by unfold maxLen; omega) hn hB' ?_
  · intro j y hj
    rw [Addr.add_lit, World.cell?_alloc_at _ _ _ _ rfl, Nat.zero_add]
    simpa using hj
  · intro v' w' hown' hg hnil hor
    have hne : v' ≠ .slice none 0 0 := fun e => by have := (hnil.1 e).2; omega
    rcases hown'.2 with ⟨h', _⟩ | ⟨g, cap, cur, h', _⟩
    · exact absurd h' hne
    · subst h'
      exact h g cap w' hown' (((Below.refl B wr).alloc hB _).grown hg hB' (fun k hk => (hown.lt k hk).1)) hg
end Go.Proofs.Ytoandhhkmkgmaaa
