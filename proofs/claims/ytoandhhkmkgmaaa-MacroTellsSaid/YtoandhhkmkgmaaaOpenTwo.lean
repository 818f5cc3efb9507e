/- Slices of pairs that come in. No condition. -/
import Derived.Test.YtoandhhkmkgmaaaOpenStr
import Derived.Deep.SlicePairs
import Derived.Lib.SmallJoins
namespace Go.Proofs.Ytoandhhkmkgmaaa
open Go.RowKit Go.WideShapes Go.ChangeShapes Go.ChangeAt Go.Deep

theorem fam_listL {α : Type} {q : Nat → α → Prop} : ∀ (len : Nat), (∀ i, i < len → ∃ x, q i x) → ∃ l : List α, l.length = len ∧ ∀ i, i < len → ∃ x, l[i]? = some x ∧ q i x
  | 0, _ => ⟨[], rfl, fun i hi => absurd hi (Nat.not_lt_zero _)⟩
  | k + 1, h => by
    obtain ⟨l, hl1, hl2⟩ := fam_listL k (fun i hi => h i (by omega))
    obtain ⟨x, hx⟩ := h k (by omega)
    refine ⟨l ++ [x], by simp [hl1], fun i hi => ?_⟩
    rcases Nat.lt_or_ge i k with h1 | h1
    · obtain ⟨y, hy1, hy2⟩ := hl2 i h1
      exact ⟨y, by rw [List.getElem?_append_left (by omega)]; exact hy1, hy2⟩
    · obtain rfl : i = k := by omega
      exact ⟨x, by rw [List.getElem?_append_right (by omega), hl1]; simp, hx⟩
theorem rd_of_cellsL {W : World} {a : Addr} {len : Nat} {V : Nat → Value} {xs : List Value} (hl : xs.length = len) (hV : ∀ i, i < len → xs[i]? = some (V i)) (hc : ∀ i, i < len → W.cell? (a.add i) = some (V i)) : Rd W (some a) xs := by
  intro hpos
  obtain ⟨b, off, ext⟩ := a
  have h0 := hc 0 (by omega)
  have hext : ext = none := by simpa [Addr.add] using World.cell?_spot h0
  subst hext
  have hat : ∀ i, i < len → W.cell? ⟨b, off + i, none⟩ = some (V i) := fun i hi => by
    have := hc i hi
    unfold Addr.add at this
    by_cases hz : i = 0
    · subst hz; simpa using this
    · simpa [hz] using this
  refine ⟨b, off, rfl, lt_of_cell' (hat 0 (by omega)), fun j u hu => ?_⟩
  have hj : j < len := by rw [← hl]; exact (List.getElem?_eq_some_iff.1 hu).1
  rw [hV j hj] at hu
  injection hu with hu
  subst hu
  exact hat j hj
section
variable {H : Type} {enc : TypeId × Value → H} {P : Program} {W : World} {n : Nat} {t e : TypeId} {cs : List Value} {x : DataW H × List MemPlace}
theorem trod_numL {k : IntKind} {V : Value} {D : DataW H} {Pl : List MemPlace} (he : P.underlying e = some (.int k)) (h : DataW.trod enc P W 0 (fun _ => true) true n e [V] = some (D, Pl)) : ∃ z, V = .int k z ∧ (Lit.int k z).wf = true := by
  cases n with
  | zero => simp [DataW.trod] at h
  | succ n =>
    simp only [DataW.trod, he] at h
    cases V <;> simp at h
    rename_i k' z
    obtain ⟨⟨rfl, hw⟩, _⟩ := h
    exact ⟨z, rfl, hw⟩
theorem trod_strL {V : Value} {D : DataW H} {Pl : List MemPlace} (he : P.underlying e = some .string) (h : DataW.trod enc P W 0 (fun _ => true) true n e [V] = some (D, Pl)) : ∃ s : List UInt8, V = .string ⟨s.toArray⟩ ∧ s.length ≤ maxLen := by
  obtain ⟨b, hV, _, hb⟩ := DataW.trod_string he h
  injection hV with hV _
  subst hV
  exact ⟨b.data.toList, str_of' b, by rw [Array.length_toList]; exact hb⟩
end
end Go.Proofs.Ytoandhhkmkgmaaa
