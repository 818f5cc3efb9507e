/- Slices of slices that a call itself makes: each row its own block. Bounds as said. -/
import Derived.Test.YtonmkmghpiagjaaDoorBits4
import Derived.Maps.AppendAt
namespace Go.Proofs.YtonmkmghpiagjaaDoor
open Go.RowKit

section
variable {P : Program} {ops : Array Oper} {rest : List Oper} {o : Oper} {a : Act} {Q : Exit → Act → World → Prop}
/-- 'out = append(out, u)', and where the new slice lies. -/
theorem wpList_push_at {t e : TypeId} {z : Value} {bytes : Nat} (T : ElT P t e z bytes) (wr : World) (s x : Operand) (B : Nat) (A : Option Addr) (n c : Nat) (xs : List Value) (u : Value)
    (hown : wr.ownsRow B e 1 (.slice A n c) n xs) (hu : u.oneCell' = true) (hB : B ≤ wr.heap.size) (hn : (n + 1) * bytes ≤ 140737488355328) (hn' : n + 1 ≤ 140737488355328)
    (hgd : o.guard = none) (ho : o.op = .call { callee := .builtin .append, args := #[s, x], argTypes := #[t, t] })
    (hs : a.eval s = .slice A n c) (hx : a.eval x = .slice (some ⟨wr.heap.size, 0, none⟩) 1 1)
    (h : ∀ A' c' w', w'.ownsRow B e 1 (.slice A' (n + 1) c') (n + 1) (xs ++ [u]) → Below B wr w' → (wr.alloc (.cells #[u] e)).grownBy w' (Value.slice A n c).ownBlock →
      ((Value.slice A' (n + 1) c').ownBlock = (Value.slice A n c).ownBlock ∨ (Value.slice A' (n + 1) c').ownBlock = some (wr.heap.size + 1)) → wpList P ops Q rest (a.put o.dst (.slice A' (n + 1) c')) w') :
    wpList P ops Q (o :: rest) a (wr.alloc (.cells #[u] e)) := by
  obtain ⟨ht, i, hi, hz, h1, hb, hzs⟩ := T
  have hB' : B ≤ (wr.alloc (.cells #[u] e)).heap.size := by simp; omega
  refine wpList_append_own_at _ hgd s x t ho B e i z 1 bytes ht hi hz h1 hb hzs (by decide) _ n xs hs (hown.alloc _) ⟨wr.heap.size, 0, none⟩ 1 1 [u] hx rfl ?_ ?_ (by unfold maxLen; omega) hn hB' ?_
  · intro j y hj
    match j, hj with
    | 0, hj =>
      simp at hj
      subst hj
      unfold Addr.add
      rw [if_pos rfl, World.cell?_alloc_at _ _ _ _ rfl]
      rfl
  · intro y hy
    rw [List.mem_singleton] at hy
    subst hy
    exact hu
  · intro v' w' hown' hg _ hat
    obtain ⟨A', c', rfl⟩ := own_form hown'
    refine h A' c' w' hown' ?_ hg ?_
    · exact ((Below.refl B wr).alloc hB _).grown hg hB' (fun k hk => own_row hown k hk)
    · have e : (wr.alloc (.cells #[u] e)).heap.size = wr.heap.size + 1 := by simp
      rw [← e]
      exact hat
end

/-- Rows of numbers, each in a block of its own, none in block ob. -/
def ChRows (E : TypeId) (w : World) (B : Nat) (ob : Option Nat) (vs : List Value) (cs : List (List Nat)) : Prop :=
  vs.length = cs.length ∧ ∀ (j : Nat) (ch : List Nat), cs[j]? = some ch → ∃ A c, vs[j]? = some (.slice A ch.length c) ∧ w.ownsRow B E 1 (.slice A ch.length c) ch.length (ch.map nv) ∧
    ((Value.slice A ch.length c).ownBlock = none ∨ (Value.slice A ch.length c).ownBlock ≠ ob)
theorem chRows_nil (E : TypeId) (w : World) (B : Nat) (ob : Option Nat) : ChRows E w B ob [] [] := ⟨rfl, fun j ch h => by simp at h⟩
theorem chRows_below {E : TypeId} {w w' : World} {B : Nat} {ob : Option Nat} {vs : List Value} {cs : List (List Nat)} (h : ChRows E w B ob vs cs) (hb : Below w.heap.size w w') : ChRows E w' B ob vs cs :=
  ⟨h.1, fun j ch hj => by
    obtain ⟨A, c, h1, h2, h3⟩ := h.2 j ch hj
    exact ⟨A, c, h1, own_below h2 hb, h3⟩⟩
theorem chRows_base {E : TypeId} {w : World} {B B' : Nat} {ob : Option Nat} {vs : List Value} {cs : List (List Nat)} (h : ChRows E w B ob vs cs) (hB : B' ≤ B) : ChRows E w B' ob vs cs :=
  ⟨h.1, fun j ch hj => by
    obtain ⟨A, c, h1, h2, h3⟩ := h.2 j ch hj
    exact ⟨A, c, h1, own_base h2 hB, h3⟩⟩
theorem chRows_snoc {E e : TypeId} {wr w' : World} {B : Nat} {ob ob' : Option Nat} {vs : List Value} {cs : List (List Nat)} {A : Option Addr} {c : Nat} {ch : List Nat} (u : Value) (h : ChRows E wr B ob vs cs)
    (hu : u = .slice A ch.length c) (hown : wr.ownsRow B E 1 (.slice A ch.length c) ch.length (ch.map nv)) (hne : (Value.slice A ch.length c).ownBlock = none ∨ (Value.slice A ch.length c).ownBlock ≠ ob)
    (hg : (wr.alloc (.cells #[u] e)).grownBy w' ob) (hat : ob' = ob ∨ ob' = some (wr.heap.size + 1)) : ChRows E w' B ob' (vs ++ [u]) (cs ++ [ch]) := by
  subst hu
  have key : ∀ {A1 : Option Addr} {c1 : Nat} {d : List Nat}, wr.ownsRow B E 1 (.slice A1 d.length c1) d.length (d.map nv) → ((Value.slice A1 d.length c1).ownBlock = none ∨ (Value.slice A1 d.length c1).ownBlock ≠ ob) →
      w'.ownsRow B E 1 (.slice A1 d.length c1) d.length (d.map nv) ∧ ((Value.slice A1 d.length c1).ownBlock = none ∨ (Value.slice A1 d.length c1).ownBlock ≠ ob') := fun h1 h2 => by
    refine ⟨(h1.alloc _).kept hg h2, ?_⟩
    rcases hat with rfl | rfl
    · exact h2
    · rcases h2 with h2 | _
      · exact .inl h2
      · refine .inr fun he => ?_
        have := (h1.lt _ he).2
        omega
  refine ⟨by simp [h.1], fun j d hj => ?_⟩
  rcases Nat.lt_or_ge j cs.length with hlt | hge
  · rw [List.getElem?_append_left hlt] at hj
    obtain ⟨A1, c1, h1, h2, h3⟩ := h.2 j d hj
    obtain ⟨k1, k2⟩ := key h2 h3
    exact ⟨A1, c1, by rw [List.getElem?_append_left (by rw [h.1]; exact hlt)]; exact h1, k1, k2⟩
  · rw [List.getElem?_append_right hge] at hj
    have hz : j - cs.length = 0 := by
      apply Classical.byContradiction
      intro hz
      rw [List.getElem?_eq_none (by simp; omega)] at hj
      cases hj
    rw [hz] at hj
    simp at hj
    subst hj
    obtain ⟨k1, k2⟩ := key hown hne
    exact ⟨A, c, by rw [List.getElem?_append_right (by rw [h.1]; exact hge), h.1, hz]; rfl, k1, k2⟩
end Go.Proofs.YtonmkmghpiagjaaDoor
