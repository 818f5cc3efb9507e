/- 'append(out, x...)' as a step of a drawn region, out the call's own, x a list of texts that lies anywhere. No condition but the model's. -/
import Derived.Test.YtoandhhkmkgmaaaMg10
import Derived.Test.YtoandhhkmkgmaaaRegX
import Derived.Deep.AppendLies
namespace Go.Proofs.Ytoandhhkmkgmaaa
open Go.RowKit

theorem gb_self (w : World) (r : Option Nat) : w.grownBy w r := ⟨rfl, rfl, rfl, Nat.le_refl _, fun _ _ _ => rfl⟩
theorem below_gb2 {w w' : World} {B : Nat} {r : Option Nat} (hg : w.grownBy w' r) (hr : ∀ k, r = some k → B ≤ k) (hB : B ≤ w.heap.size) : Below B w w' :=
  ⟨hg.os, hg.tape, hg.output, hg.size, fun k hk => hg.block k (by omega) (fun e => by have := hr k e.symm; omega)⟩
section
variable {ops : Array Oper} {Q : Exit → Act → World → Prop}
set_option maxRecDepth 10000 in
theorem step_catN {o : Oper} {a : Act} {K : Act → World → Prop} {F : Prop} (wr : World) (s x : Operand) (B : Nat) (A : Option Addr) (n c : Nat) (xs : List Value) (A2 : Option Addr) (m c2 : Nat) (news : List Value)
    (hown : wr.ownsRow B 9 1 (.slice A n c) n xs) (hr : Rd wr A2 news) (hm : news.length = m) (h1 : ∀ u ∈ news, u.oneCell' = true) (hB : B ≤ wr.heap.size) (hn : (n + m) * 16 ≤ 150000000000000)
    (hgd : o.guard = none) (ho : o.op = .call { callee := .builtin .append, args := #[s, x], argTypes := #[32, 32] })
    (hs : a.eval s = .slice A n c) (hx : a.eval x = .slice A2 m c2)
    (h : ∀ A' c' w', w'.ownsRow B 9 1 (.slice A' (n + m) c') (n + m) (xs ++ news) → wr.grownBy w' (Value.slice A n c).ownBlock → K (a.put o.dst (.slice A' (n + m) c')) w') :
    if Region.wanted o (yielded ops a.tmps) = true then Oper.wp Try.prog o a wr K Q else F := by
  obtain ⟨ht, i, hi, hz, hsz, hb, hzs⟩ := elStr
  rcases Nat.eq_zero_or_pos m with hm0 | hm0
  · subst hm0
    obtain rfl : news = [] := List.length_eq_zero_iff.1 hm
    have hw : Region.wanted o (yielded ops a.tmps) = true := by simp [Region.wanted, hgd]
    rw [if_pos hw]
    have hrun : (Builtin.append_ #[32, 32] o.type #[.slice A n c, .slice A2 0 c2]).run Try.prog wr = .ok (.slice A n c) wr := by
      rcases hown.2 with ⟨hv, rfl⟩ | ⟨g, cap, cur, hv, _, _, hnc, _⟩
      · injection hv with h1 h2 h3
        subst h1 h3
        cases A2 with
        | none => simp [Builtin.append_, run_underlying ht, sizeOf, typeInfo, hi, Builtin.lenOf, Builtin.firstCells]
        | some b => simp [Builtin.append_, run_underlying ht, sizeOf, typeInfo, hi, Builtin.lenOf, Builtin.firstCells, loadCells, loadCellsFrom]
      · injection hv with h1 h2 h3
        subst h1 h3
        exact run_append_zero' wr 32 o.type 9 i ht hi _ n _ A2 c2 hnc
    unfold Oper.wp
    simp [execOp, ho, resolve, invoke, builtin, hs, hx, hrun, Result.andThen]
    exact h A c wr (by simpa using hown) (gb_self _ _)
  · obtain ⟨b, off, hA, _, hc⟩ := hr (by omega)
    subst hA
    refine step_own_wide (w := wr) elStr (by decide) (by decide) hgd s x ho B (.slice A n c) n xs hs hown ⟨b, off, none⟩ m c2 news hx hm (fun j u hu => by rw [addr_plus]; exact hc j u hu) h1 hn hB ?_
    intro v' w' hown' hg
    obtain ⟨A', c', rfl⟩ := own_form hown'
    exact h A' c' w' hown' hg
/-- The same in an order that is fixed, at least one text; which block is written. -/
theorem wpList_catG {rest : List Oper} {o : Oper} {a : Act} (wr : World) (s x : Operand) (B : Nat) (A : Option Addr) (n c : Nat) (xs : List Value) (A2 : Option Addr) (m c2 : Nat) (news : List Value)
    (hown : wr.ownsRow B 9 1 (.slice A n c) n xs) (hr : Rd wr A2 news) (hm : news.length = m) (hm0 : 0 < m) (h1 : ∀ u ∈ news, u.oneCell' = true) (hB : B ≤ wr.heap.size) (hn : (n + m) * 16 ≤ 150000000000000)
    (hgd : o.guard = none) (ho : o.op = .call { callee := .builtin .append, args := #[s, x], argTypes := #[32, 32] })
    (hs : a.eval s = .slice A n c) (hx : a.eval x = .slice A2 m c2)
    (h : ∀ A' c' w', w'.ownsRow B 9 1 (.slice A' (n + m) c') (n + m) (xs ++ news) → wr.grownBy w' (Value.slice A n c).ownBlock → wpList Try.prog ops Q rest (a.put o.dst (.slice A' (n + m) c')) w') :
    wpList Try.prog ops Q (o :: rest) a wr := by
  obtain ⟨ht, i, hi, hz, hsz, hb, hzs⟩ := elStr
  obtain ⟨b, off, hA, _, hc⟩ := hr (by omega)
  subst hA
  refine wpList_own_wide elStr (by decide) (by decide) _ hgd s x ho B (.slice A n c) n xs hs hown ⟨b, off, none⟩ m c2 news hx hm (fun j u hu => by rw [addr_plus]; exact hc j u hu) h1 hn hB ?_
  intro v' w' hown' hg _ _
  obtain ⟨A', c', rfl⟩ := own_form hown'
  exact h A' c' w' hown' hg
end
end Go.Proofs.Ytoandhhkmkgmaaa
