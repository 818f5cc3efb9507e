/- Some of the proof's texts, merged; each one's own words stand ahead of it. -/
import Derived.Test.YtoandhhkmkgmaaaGreatDoorMg4
import Derived.Deep.SlicePairs
import Derived.Lib.SmallJoins
import Derived.Test.YtoandhhkmkgmaaaGreatDoorMg51
/- Slices of pairs that come in. No condition. -/
namespace Go.Proofs.YtoandhhkmkgmaaaGreatDoor
open Go.RowKit Go.WideShapes Go.ChangeShapes Go.ChangeAt Go.Deep

theorem fam_listL {α : Type} {q : Nat → α → Prop} : ∀ (len : Nat), (∀ i, i < len → ∃ x, q i x) → ∃ l : List α, l.length = len ∧ ∀ i, i < len → ∃ x, l[i]? = some x ∧ q i x
  | 0, _ => ⟨[], rfl, fun i hi => absurd hi (Nat.not_lt_zero _)⟩
  | k + 1, h => by
    obtain ⟨l, hl1, hl2⟩ := fam_listL k (fun i hi => h i (by omega))
    obtain ⟨x, hx⟩ := h k (by omega)
    refine ⟨l ++ [x], by simp [hl1], fun i hi => ?_⟩
    rcases Nat.lt_or_ge i k with h1 | h1
    · obtain ⟨y, hy1, hy2⟩ := hl2 i h1
      exact ⟨y, by rw [List.getElem?_append_left (by omega)]; exact hy1, hy2⟩
    · obtain rfl : i = k := by omega
      exact ⟨x, by rw [List.getElem?_append_right (by omega), hl1]; simp, hx⟩
theorem rd_of_cellsL {W : World} {a : Addr} {len : Nat} {V : Nat → Value} {xs : List Value} (hl : xs.length = len) (hV : ∀ i, i < len → xs[i]? = some (V i)) (hc : ∀ i, i < len → W.cell? (a.add i) = some (V i)) : Rd W (some a) xs := by
  intro hpos
  obtain ⟨b, off, ext⟩ := a
  have h0 := hc 0 (by omega)
  have hext : ext = none := by simpa [Addr.add] using World.cell?_spot h0
  subst hext
  have hat : ∀ i, i < len → W.cell? ⟨b, off + i, none⟩ = some (V i) := fun i hi => by
    have := hc i hi
    unfold Addr.add at this
    by_cases hz : i = 0
    · subst hz; simpa using this
    · simpa [hz] using this
  refine ⟨b, off, rfl, lt_of_cell' (hat 0 (by omega)), fun j u hu => ?_⟩
  have hj : j < len := by rw [← hl]; exact (List.getElem?_eq_some_iff.1 hu).1
  rw [hV j hj] at hu
  injection hu with hu
  subst hu
  exact hat j hj
section
variable {H : Type} {enc : TypeId × Value → H} {P : Program} {W : World} {n : Nat} {t e : TypeId} {cs : List Value} {x : DataW H × List MemPlace}
theorem trod_strL {V : Value} {D : DataW H} {Pl : List MemPlace} (he : P.underlying e = some .string) (h : DataW.trod enc P W 0 (fun _ => true) true n e [V] = some (D, Pl)) : ∃ s : List UInt8, V = .string ⟨s.toArray⟩ ∧ s.length ≤ maxLen := by
  obtain ⟨b, hV, _, hb⟩ := DataW.trod_string he h
  injection hV with hV _
  subst hV
  exact ⟨b.data.toList, str_of' b, by rw [Array.length_toList]; exact hb⟩
end
end Go.Proofs.YtoandhhkmkgmaaaGreatDoor
/- Texts that come in: a slice of names with texts. No condition. -/
namespace Go.Proofs.YtoandhhkmkgmaaaGreatDoor
open Go.RowKit Go.WideShapes Go.ChangeShapes Go.ChangeAt Go.Deep

theorem macV_lenT (L : List MacT) : (macV L).length = 2 * L.length := by
  induction L with
  | nil => rfl
  | cons x l ih => show (macV l).length + 1 + 1 = _; rw [ih, List.length_cons]; omega
theorem macV_atT {L : List MacT} {i : Nat} {x : MacT} (h : L[i]? = some x) : (macV L)[2 * i]? = some (sv x.1) ∧ (macV L)[2 * i + 1]? = some (sv x.2) := flat2_at _ _ L i x h
section
variable {H : Type} {enc : TypeId × Value → H} {P : Program} {W : World} {n : Nat} {t e : TypeId} {cs : List Value} {x : DataW H × List MemPlace}
/-- A slice of texts. -/
theorem trod_txts {f0 f1 : Field} (ht : P.underlying t = some (.slice e)) (he : P.underlying e = some (.struct #[f0, f1])) (ce : P.cellsOf e = 2) (o0 : f0.offset = 0) (o1 : f1.offset = 1)
    (c0 : P.cellsOf f0.type = 1) (c1 : P.cellsOf f1.type = 1) (t0 : P.underlying f0.type = some .string) (t1 : P.underlying f1.type = some .string)
    (h : DataW.trod enc P W 0 (fun _ => true) true n t cs = some x) :
    ∃ (A : Option Addr) (E : List MacT) (c : Nat), cs = [.slice A E.length c] ∧ Rd W A (macV E) ∧ E.length ≤ c ∧ c ≤ 9223372036854775807 ∧ ∀ e ∈ E, e.1.length ≤ maxLen ∧ e.2.length ≤ maxLen := by
  rcases open_slice_pairs ht he ce o0 o1 c0 c1 h with ⟨rfl, _⟩ | ⟨a, len, cap, m, n, V0, V1, D0, D1, P0, P1, rfl, _, hl, hm, hmm, _, hcell⟩
  · exact ⟨none, [], 0, rfl, Rd.nil_ _ _, by simp, by simp, by simp⟩
  · simp at hmm
    have hlm : len ≤ m := by omega
    obtain ⟨E, hl1, hl2⟩ := fam_listL (q := fun i (e : MacT) => (V0 i = .string ⟨e.1.toArray⟩ ∧ e.1.length ≤ maxLen) ∧ (V1 i = .string ⟨e.2.toArray⟩ ∧ e.2.length ≤ maxLen)) len (fun i hi => by
      obtain ⟨_, _, h3, h4⟩ := hcell i (by omega)
      obtain ⟨z0, hz0⟩ := trod_strL t0 h3
      obtain ⟨z1, hz1⟩ := trod_strL t1 h4
      exact ⟨(z0, z1), hz0, hz1⟩)
    unfold maxLen at hm
    refine ⟨some a, E, cap, by rw [hl1], rd_of_cellsL (len := 2 * len) (V := fun j => if j % 2 = 0 then V0 (j / 2) else V1 (j / 2)) (by rw [macV_lenT, hl1]) (fun j hj => ?_) (fun j hj => ?_), by omega, by omega, fun y hy => ?_⟩
    · obtain ⟨y, hy, ⟨hv0, _⟩, ⟨hv1, _⟩⟩ := hl2 (j / 2) (by omega)
      obtain ⟨h1, h2⟩ := macV_atT hy
      unfold sv at h1 h2
      split
      · rename_i h0
        rw [show j = 2 * (j / 2) by omega, h1, ← hv0]
        simp
      · rename_i h0
        rw [show j = 2 * (j / 2) + 1 by omega, h2, ← hv1]
        congr 2
        omega
    · obtain ⟨h1, h2, _, _⟩ := hcell (j / 2) (by omega)
      split
      · rename_i h0
        rw [← h1]
        congr 2
        omega
      · rename_i h0
        rw [← h2]
        congr 2
        omega
    · obtain ⟨i, hi⟩ := List.mem_iff_getElem?.1 hy
      obtain ⟨z, hz, h3, h4⟩ := hl2 i (by rw [← hl1]; exact (List.getElem?_eq_some_iff.1 hi).1)
      rw [hi] at hz
      injection hz with hz
      subst hz
      exact ⟨h3.2, h4.2⟩
end
theorem cellsTxtM : Tryz.prog.cellsOf 61 = 2 := by kernel_rfl
theorem cellsStT : Tryz.prog.cellsOf 9 = 1 := by kernel_rfl
set_option maxRecDepth 100000 in
theorem open_txts {H : Type} {enc : TypeId × Value → H} {W : World} {base : Nat} {v : Value} {d : DataW H} {ps : List MemPlace}
    (hok : Value.okWide Tryz.prog W .any base 58 v) (h : DataW.Trod enc Tryz.prog W 0 (fun _ => true) true 58 v d ps) :
    ∃ (A : Option Addr) (E : List MacT) (c : Nat), v = .slice A E.length c ∧ Rd W A (macV E) ∧ E.length ≤ c ∧ c ≤ 9223372036854775807 ∧ (∀ e ∈ E, e.1.length ≤ 9223372036854775807 ∧ e.2.length ≤ 9223372036854775807) := by
  obtain ⟨a0, len, cap, rfl⟩ := okWide_slice Tryz.underlying58 hok
  obtain ⟨fuel, hf⟩ := h
  obtain ⟨A, E, c, e1, h1, h2, h2', h3⟩ := trod_txts Tryz.underlying58 Tryz.underlying61 cellsTxtM rfl rfl cellsStT cellsStT Tryz.underlying9 Tryz.underlying9 hf
  simp [Value.cells] at e1
  obtain ⟨rfl, rfl, rfl⟩ := e1
  exact ⟨a0, E, cap, rfl, h1, h2, h2', fun e he => ⟨by have := (h3 e he).1; unfold maxLen at this; omega, by have := (h3 e he).2; unfold maxLen at this; omega⟩⟩
theorem fileLines_walk (s : List UInt8) (A : Option Addr) (E : List TxtT) (c : Nat) (m : Int) (w : World) (hs : s.length ≤ 9223372036854775807) (hr : Rd w A (macV E)) (hc : E.length ≤ c) (hcb : c ≤ 9223372036854775807) (ht : ∀ e ∈ E, e.1.length ≤ 9223372036854775807 ∧ e.2.length ≤ 9223372036854775807)
    (hm : w.cell? ⟨1, 0, none⟩ = some (.int .i64 m)) :
    Calls Tryz.prog 5 #[.string ⟨s.toArray⟩, .slice A E.length c] w fun e w' => e = .returned (.bool true) ∧ Below w.heap.size w w' := fileLines_any s E w hr rfl hc hcb hs ht m hm
end Go.Proofs.YtoandhhkmkgmaaaGreatDoor
