/- Slices that a call itself makes: a list appended; a full one made; one element stored. Bounds as said. -/
import Derived.Test.YtoandhhkmkgmaaaOwn
import Derived.Laws.AppendOwn
import Derived.Laws.AppendOwnNone
import Derived.Laws.OwnMore
namespace Go.Proofs.Ytoandhhkmkgmaaa
open Go.RowKit

theorem rd_none {w : World} {xs : List Value} (h : Rd w none xs) : xs = [] := by
  cases xs with
  | nil => rfl
  | cons x xs =>
    obtain ⟨b, off, hA, _⟩ := h (by simp)
    cases hA
section
variable {P : Program} {ops : Array Oper} {rest : List Oper} {o : Oper} {a : Act} {Q : Exit → Act → World → Prop}
theorem run_append_nothing (w : World) (base : Nat) (t ty e : TypeId) (i : TypeInfo) (ht : P.underlying t = some (.slice e)) (hi : P.info? e = some i)
    (v : Value) (n : Nat) (xs : List Value) (hown : w.ownsRow base e 1 v n xs) (c : Nat) : (Builtin.append_ #[t, t] ty #[v, .slice none 0 c]).run P w = .ok v w := by
  rcases hown.2 with ⟨rfl, rfl⟩ | ⟨g, cap, cur, rfl, _, _, hnc, _⟩
  · simp [Builtin.append_, run_underlying ht, sizeOf, typeInfo, hi, Builtin.lenOf, Builtin.firstCells]
  · simp [Builtin.append_, run_underlying ht, sizeOf, typeInfo, hi, Builtin.lenOf, Builtin.firstCells, hnc, storeCells]
/-- 'out = append(out, x...)', out the call's own, x a slice that reads as news. -/
theorem wpList_cat {t e : TypeId} {z : Value} {bytes : Nat} (T : ElT P t e z bytes) (wr : World) (s x : Operand) (B : Nat) (A : Option Addr) (n c : Nat) (xs : List Value)
    (A2 : Option Addr) (m c2 : Nat) (news : List Value)
    (hown : wr.ownsRow B e 1 (.slice A n c) n xs) (hr : Rd wr A2 news) (hm : news.length = m) (h1 : ∀ u ∈ news, u.oneCell' = true) (hB : B ≤ wr.heap.size) (hn : (n + m) * bytes ≤ 140737488355328) (hn' : n + m ≤ 140737488355328)
    (hgd : o.guard = none) (ho : o.op = .call { callee := .builtin .append, args := #[s, x], argTypes := #[t, t] })
    (hs : a.eval s = .slice A n c) (hx : a.eval x = .slice A2 m c2)
    (h : ∀ A' c' w', w'.ownsRow B e 1 (.slice A' (n + m) c') (n + m) (xs ++ news) → Below B wr w' → wpList P ops Q rest (a.put o.dst (.slice A' (n + m) c')) w') :
    wpList P ops Q (o :: rest) a wr := by
  obtain ⟨ht, i, hi, hz, hs1, hb, hzs⟩ := T
  cases A2 with
  | none =>
    have := rd_none hr
    subst this
    obtain rfl : m = 0 := by simpa using hm.symm
    refine wpList_plain hgd fun K hK => ?_
    have hrun := run_append_nothing (P := P) wr B t o.type e i ht hi _ n xs hown c2
    unfold Oper.wp
    simp [execOp, ho, resolve, invoke, builtin, hs, hx, hrun, Result.andThen]
    exact hK _ _ (h A c wr (by simpa using hown) (Below.refl _ _))
  | some ad =>
    refine wpList_append_own _ hgd s x t ho B e i z 1 bytes ht hi hz hs1 hb hzs (by decide) _ n xs hs hown ad m c2 news hx (by omega) ?_ h1 (by unfold maxLen; omega) hn hB ?_
    · intro j u hu
      have hl : 0 < news.length := by
        rcases Nat.lt_or_ge j news.length with h' | h'
        · omega
        · rw [List.getElem?_eq_none h'] at hu; cases hu
      obtain ⟨b, off, hA, _, hc⟩ := hr hl
      injection hA with hA
      subst hA
      have := hc j u hu
      unfold Addr.add
      by_cases hj : j = 0
      · subst hj; simpa using this
      · simpa [hj] using this
    · intro v' w' hown' hg _
      obtain ⟨A', c', rfl⟩ := own_form hown'
      exact h A' c' w' hown' ((Below.refl B wr).grown hg hB (fun k hk => own_row hown k hk))
/-- 'make([]T, n)'. -/
theorem wpList_new {t e : TypeId} {z : Value} {bytes : Nat} (T : ElT P t e z bytes) (hz1 : z.cells = #[z]) (wr : World) (l : Operand) (B n : Nat) (kl : IntKind)
    (hn : bytes * n ≤ 140737488355328) (hn' : n ≤ 140737488355328) (hB : B ≤ wr.heap.size)
    (hgd : o.guard = none) (ho : o.op = Op.makeSlice t l l) (hl : a.eval l = .int kl (n : Int))
    (h : ∀ w', w'.ownsRow B e 1 (.slice (some ⟨wr.heap.size, 0, none⟩) n n) n (List.replicate n z) → Below B wr w' → wr.heap.size < w'.heap.size → wpList P ops Q rest (a.put o.dst (.slice (some ⟨wr.heap.size, 0, none⟩) n n)) w') :
    wpList P ops Q (o :: rest) a wr := by
  obtain ⟨ht, i, hi, hz, hs1, hb, hzs⟩ := T
  refine wpList_make_full wr hgd l l t ho B e i z 1 ht hi hz hs1 kl kl n n n hl hl rfl rfl (by rw [hb]; omega) (by unfold maxLen; omega) hB ?_
  intro w' hown hg
  refine h w' ?_ ((Below.refl B wr).grown hg hB (fun k hk => by cases hk)) ?_
  · rw [hz1, Nat.mul_one, toList_madeCells_one] at hown
    exact hown
  · rcases hown.2 with ⟨h', _⟩ | ⟨g', cap', cur, h', _, hg', _⟩
    · cases h'
    · injection h' with h' _ _
      injection h' with h'
      injection h' with h' _ _
      subst h'
      rcases Nat.lt_or_ge wr.heap.size w'.heap.size with h2 | h2
      · exact h2
      · rw [Array.getElem?_eq_none h2] at hg'; cases hg'
end
end Go.Proofs.Ytoandhhkmkgmaaa
