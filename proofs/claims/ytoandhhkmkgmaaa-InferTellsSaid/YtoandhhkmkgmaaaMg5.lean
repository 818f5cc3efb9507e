/- Some of the proof's texts, merged; each one's own words stand ahead of it. -/
import Derived.Test.YtoandhhkmkgmaaaLaw
import Derived.Deep.Slices
import Derived.SizedLaws
import Derived.Laws.Cover2
import Derived.Test.YtoandhhkmkgmaaaMg4
import Derived.ChangeMaps5
/- Slices that come in, elements of one cell: each read as a list; how long they can be. No condition. -/
namespace Go.Proofs.Ytoandhhkmkgmaaa
open Go.RowKit Go.WideShapes Go.ChangeShapes Go.ChangeAt Go.Deep

/-- A slice of elements of one cell, each of which reads as some enc x with p x. -/
theorem open_list_rd {H : Type} {enc : TypeId × Value → H} {P : Program} {W : World} {base j : Nat} {t e : TypeId} {v : Value} {d : DataW H} {ps : List MemPlace} {α : Type} (en : α → Value) (p : α → Prop) (bytes : Nat)
    (ht : P.underlying t = some (.slice e)) (hc : P.cellsOf e = 1) (hb : P.bytesOf e = bytes)
    (hone : ∀ {n : Nat} {V : Value} {D : DataW H} {Pl : List MemPlace}, DataW.trod enc P W 0 (fun _ => true) true n e [V] = some (D, Pl) → ∃ x, V = en x ∧ p x)
    {ts : List TypeId} {ds : List (DataW H)} (hwt : (DataW.weightsEach P ts ds).all (· ≤ reachBytes) = true) (hts : ts[j]? = some t) (hds : ds[j]? = some d)
    (hok : Value.okWide P W .any base t v) (h : DataW.Trod enc P W 0 (fun _ => true) true t v d ps) :
    ∃ (A : Option Addr) (l : List α) (c : Nat), v = .slice A l.length c ∧ Rd W A (l.map en) ∧ l.length * bytes ≤ 140737488351232 ∧ l.length ≤ 9223372036854775807 ∧ ∀ x ∈ l, p x := by
  obtain ⟨a0, len, cap, rfl⟩ := okWide_slice ht hok
  obtain ⟨fuel, hf⟩ := h
  rcases open_slice1 ht hc hf with ⟨hcs, hx⟩ | ⟨a, len', cap', m, n, V, D, Pl, hcs, _, hl, hm, hmm, hx, hcell⟩
  · simp [Value.cells] at hcs
    obtain ⟨rfl, rfl, rfl⟩ := hcs
    exact ⟨none, [], 0, rfl, Rd.nil_ _ _, by simp, by simp, by simp⟩
  · simp [Value.cells] at hcs
    obtain ⟨rfl, rfl, rfl⟩ := hcs
    simp at hmm
    have hlm : len ≤ m := by omega
    have hx1 : d = .slice ((List.range len).map D) ((List.range (m - len)).map fun j => D (len + j)) := by
      have := congrArg Prod.fst hx; exact this
    have hsz := sized_slice hwt hts (by rw [hds, hx1]) ht
    simp only [List.length_map, List.length_range, hb] at hsz
    have hsz' : len * bytes ≤ 140737488351232 := Nat.le_trans (Nat.mul_le_mul_right _ (by omega)) hsz
    have hex : ∀ i, i < len → ∃ x, V i = en x ∧ p x := fun i hi => hone (hcell i (by omega)).2
    -- the elements
    have hlist : ∀ k, k ≤ len → ∃ l : List α, l.length = k ∧ ∀ i, i < k → ∃ x, l[i]? = some x ∧ V i = en x ∧ p x := by
      intro k
      induction k with
      | zero => exact fun _ => ⟨[], rfl, fun i hi => absurd hi (Nat.not_lt_zero _)⟩
      | succ k ih =>
        intro hk
        obtain ⟨l, hl1, hl2⟩ := ih (by omega)
        obtain ⟨x, hx1, hx2⟩ := hex k (by omega)
        refine ⟨l ++ [x], by simp [hl1], fun i hi => ?_⟩
        rcases Nat.lt_or_ge i k with h1 | h1
        · obtain ⟨y, hy1, hy2, hy3⟩ := hl2 i h1
          exact ⟨y, by rw [List.getElem?_append_left (by omega)]; exact hy1, hy2, hy3⟩
        · obtain rfl : i = k := by omega
          exact ⟨x, by rw [List.getElem?_append_right (by omega), hl1]; simp, hx1, hx2⟩
    obtain ⟨l, hl1, hl2⟩ := hlist len (Nat.le_refl _)
    unfold maxLen at hm
    refine ⟨some a, l, cap, by rw [hl1], ?_, by rw [hl1]; exact hsz', by rw [hl1]; omega, fun x hx => ?_⟩
    · intro hpos
      rw [List.length_map, hl1] at hpos
      obtain ⟨b, off, ext⟩ := a
      have h0 := (hcell 0 (by omega)).1
      have hext : ext = none := by simpa [Addr.add] using World.cell?_spot h0
      subst hext
      have hat : ∀ i, i < len → W.cell? ⟨b, off + i, none⟩ = some (V i) := fun i hi => by
        have := (hcell i (by omega)).1
        unfold Addr.add at this
        by_cases hz : i = 0
        · subst hz; simpa using this
        · simpa [hz] using this
      refine ⟨b, off, rfl, lt_of_cell (hat 0 hpos), fun i u hu => ?_⟩
      rw [List.getElem?_map] at hu
      cases hi : l[i]? with
      | none => rw [hi] at hu; cases hu
      | some x =>
        rw [hi] at hu
        have hil : i < len := by rw [← hl1]; exact (List.getElem?_eq_some_iff.1 hi).1
        obtain ⟨y, hy1, hy2, _⟩ := hl2 i hil
        rw [hi] at hy1
        injection hy1 with hy1
        subst hy1
        rw [hat i hil, hy2]
        simpa using hu
    · obtain ⟨i, hi⟩ := List.mem_iff_getElem?.1 hx
      obtain ⟨y, hy1, _, hy3⟩ := hl2 i (by rw [← hl1]; exact (List.getElem?_eq_some_iff.1 hi).1)
      rw [hi] at hy1
      injection hy1 with hy1
      subst hy1
      exact hy3
end Go.Proofs.Ytoandhhkmkgmaaa
/- Texts that come in: one, a slice of them; what the bulk of a reading says of a slice's length. No condition. -/
namespace Go.Proofs.Ytoandhhkmkgmaaa
open Go.RowKit Go.WideShapes Go.ChangeShapes Go.ChangeAt Go.Deep

def StrOk (s : List UInt8) : Prop := s.length ≤ maxLen
theorem sv_of (b : ByteArray) : Value.string b = sv b.data.toList := by
  unfold sv
  rw [Array.toArray_toList]
theorem str_size (b : ByteArray) : b.data.toList.length = b.size := by rw [Array.length_toList]; rfl
theorem open_str {H : Type} {enc : TypeId × Value → H} {P : Program} {W : World} {base j : Nat} {t : TypeId} {v : Value} {d : DataW H} {ps : List MemPlace}
    {ts : List TypeId} {ds : List (DataW H)} (hwt : (DataW.weightsEach P ts ds).all (· ≤ reachBytes) = true) (hts : ts[j]? = some t) (hds : ds[j]? = some d) (ht : P.underlying t = some .string)
    (hok : Value.okWide P W .any base t v) (h : DataW.Trod enc P W 0 (fun _ => true) true t v d ps) : ∃ s : List UInt8, v = sv s ∧ s.length ≤ 140737488351232 := by
  obtain ⟨b, rfl, hd, _, _⟩ := Go.ChangeMaps.open_string ht hok h
  have hsz := sized_string hwt hts (by rw [hds, hd])
  exact ⟨b.data.toList, sv_of b, hsz⟩
theorem trod_str {H : Type} {enc : TypeId × Value → H} {P : Program} {W : World} {base n : Nat} {sp : Nat → Bool} {hd : Bool} {e : TypeId} {V : Value} {D : DataW H} {Pl : List MemPlace} (he : P.underlying e = some .string)
    (h : DataW.trod enc P W base sp hd n e [V] = some (D, Pl)) : ∃ s : List UInt8, V = sv s ∧ StrOk s := by
  obtain ⟨b, hV, _, hb⟩ := DataW.trod_string he h
  injection hV with hV _
  subst hV
  exact ⟨b.data.toList, sv_of b, by unfold StrOk; rw [str_size]; exact hb⟩
theorem bulk_pos {H : Type} (d : DataW H) : 1 ≤ Rows.uptoBulk d := by
  cases d <;> first | (rename_i l; cases l <;> simp [Rows.uptoBulk]) | simp [Rows.uptoBulk]
theorem bulk_len {H : Type} : ∀ ds : List (DataW H), ds.length ≤ Rows.uptoBulkAll ds
  | [] => by simp [Rows.uptoBulkAll]
  | d :: r => by
    have h1 := bulk_pos d
    have h2 := bulk_len r
    simp only [Rows.uptoBulkAll, List.length_cons]
    omega
/-- A slice is no longer than its reading's bulk. -/
theorem len_bulk {H : Type} {enc : TypeId × Value → H} {P : Program} {W : World} {t e : TypeId} {A : Option Addr} {n c : Nat} {d : DataW H} {ps : List MemPlace}
    (ht : P.underlying t = some (.slice e)) (hc : P.cellsOf e = 1) (h : DataW.Trod enc P W 0 (fun _ => true) true t (.slice A n c) d ps) : n ≤ Rows.uptoBulk d := by
  obtain ⟨fuel, hf⟩ := h
  rcases open_slice1 ht hc hf with ⟨hcs, hx⟩ | ⟨a, len', cap', m, n', V, D, Pl, hcs, _, hl, hm, hmm, hx, hcell⟩
  · simp [Value.cells] at hcs
    omega
  · simp [Value.cells] at hcs
    obtain ⟨rfl, rfl, rfl⟩ := hcs
    have hx1 : d = .slice ((List.range n).map D) ((List.range (m - n)).map fun j => D (n + j)) := by
      have := congrArg Prod.fst hx; exact this
    subst hx1
    have := bulk_len ((List.range n).map D)
    simp only [Rows.uptoBulk]
    simp at this
    omega
end Go.Proofs.Ytoandhhkmkgmaaa
/- A text that comes in. No condition. -/
namespace Go.Proofs.Ytoandhhkmkgmaaa
open Go.RowKit Go.WideShapes Go.ChangeShapes Go.ChangeAt Go.Deep

theorem str_of' (b : ByteArray) : Value.string b = Value.string ⟨b.data.toList.toArray⟩ := by rw [Array.toArray_toList]
theorem open_str' {H : Type} {enc : TypeId × Value → H} {P : Program} {W : World} {base j : Nat} {t : TypeId} {v : Value} {d : DataW H} {ps : List MemPlace}
    {ts : List TypeId} {ds : List (DataW H)} (hwt : (DataW.weightsEach P ts ds).all (· ≤ reachBytes) = true) (hts : ts[j]? = some t) (hds : ds[j]? = some d) (ht : P.underlying t = some .string)
    (hok : Value.okWide P W .any base t v) (h : DataW.Trod enc P W 0 (fun _ => true) true t v d ps) : ∃ s : List UInt8, v = .string ⟨s.toArray⟩ ∧ s.length ≤ 140737488351232 := by
  obtain ⟨b, rfl, hd, _, _⟩ := Go.ChangeMaps.open_string ht hok h
  have hsz := sized_string hwt hts (by rw [hds, hd])
  exact ⟨b.data.toList, str_of' b, hsz⟩
end Go.Proofs.Ytoandhhkmkgmaaa
