/- Structs that come in, opened: slices and numbers in fields; a graph. No condition. -/
import Derived.Test.YtoandhhkmkgmaaaGreatDoorOpen
import Derived.Test.YtoandhhkmkgmaaaGreatDoorGrPlain
import Derived.Deep.SlicePairs
import Derived.Lib.SmallJoins
import Derived.Test.YtoandhhkmkgmaaaGreatDoorGr5
namespace Go.Proofs.YtoandhhkmkgmaaaGreatDoor
open Go.RowKit Go.WideShapes Go.ChangeShapes Go.ChangeAt Go.Deep

section
variable {H : Type} {enc : TypeId × Value → H} {P : Program} {W : World} {n : Nat} {t e : TypeId} {cs : List Value} {x : DataW H × List MemPlace}
/-- A slice of elements of one cell, in a field. -/
theorem trod_list_rd {α : Type} (en : α → Value) (p : α → Prop) (ht : P.underlying t = some (.slice e)) (hc : P.cellsOf e = 1)
    (hone : ∀ {n : Nat} {V : Value} {D : DataW H} {Pl : List MemPlace}, DataW.trod enc P W 0 (fun _ => true) true n e [V] = some (D, Pl) → ∃ x, V = en x ∧ p x)
    (h : DataW.trod enc P W 0 (fun _ => true) true n t cs = some x) :
    ∃ (A : Option Addr) (l : List α) (c : Nat), cs = [.slice A l.length c] ∧ Rd W A (l.map en) ∧ l.length ≤ 9223372036854775807 ∧ ∀ x ∈ l, p x := by
  rcases open_slice1 ht hc h with ⟨rfl, _⟩ | ⟨a, len, cap, m, n, V, D, Pl, rfl, _, hl, hm, hmm, _, hcell⟩
  · exact ⟨none, [], 0, rfl, Rd.nil_ _ _, by simp, by simp⟩
  · simp at hmm
    have hlm : len ≤ m := by omega
    obtain ⟨l, hl1, hl2⟩ := fam_list (q := fun i x => V i = en x ∧ p x) len (fun i hi => hone (hcell i (by omega)).2)
    unfold maxLen at hm
    refine ⟨some a, l, cap, by rw [hl1], rd_of_cells (len := len) (V := V) (by rw [List.length_map, hl1]) (fun i hi => ?_) (fun i hi => (hcell i (by omega)).1), by omega, fun y hy => ?_⟩
    · obtain ⟨y, hy, hv, _⟩ := hl2 i hi
      rw [List.getElem?_map, hy, hv]
      rfl
    · obtain ⟨i, hi⟩ := List.mem_iff_getElem?.1 hy
      obtain ⟨z, hz, _, hp⟩ := hl2 i (by rw [← hl1]; exact (List.getElem?_eq_some_iff.1 hi).1)
      rw [hi] at hz
      injection hz with hz
      subst hz
      exact hp
theorem trod_num {k : IntKind} {V : Value} {D : DataW H} {Pl : List MemPlace} (he : P.underlying e = some (.int k)) (h : DataW.trod enc P W 0 (fun _ => true) true n e [V] = some (D, Pl)) : ∃ z, V = .int k z ∧ (Lit.int k z).wf = true := by
  cases n with
  | zero => simp [DataW.trod] at h
  | succ n =>
    simp only [DataW.trod, he] at h
    cases V <;> simp at h
    rename_i k' z
    obtain ⟨⟨rfl, hw⟩, _⟩ := h
    exact ⟨z, rfl, hw⟩
theorem trod_set {V : Value} {D : DataW H} {Pl : List MemPlace} (he : P.underlying e = some (.int .u64)) (h : DataW.trod enc P W 0 (fun _ => true) true n e [V] = some (D, Pl)) : ∃ s : Nat, V = .int .u64 s ∧ s < 18446744073709551616 := by
  obtain ⟨z, rfl, hw⟩ := trod_num he h
  obtain ⟨s, rfl, hs⟩ := nat_of_u64 hw
  exact ⟨s, rfl, hs⟩
/-- A slice of pairs of numbers, in a field. -/
theorem trod_pairs_rd {f0 f1 : Field} (ht : P.underlying t = some (.slice e)) (he : P.underlying e = some (.struct #[f0, f1])) (ce : P.cellsOf e = 2) (o0 : f0.offset = 0) (o1 : f1.offset = 1)
    (c0 : P.cellsOf f0.type = 1) (c1 : P.cellsOf f1.type = 1) (t0 : P.underlying f0.type = some (.int .i64)) (t1 : P.underlying f1.type = some (.int .i64))
    (h : DataW.trod enc P W 0 (fun _ => true) true n t cs = some x) :
    ∃ (A : Option Addr) (E : List (Int × Int)) (c : Nat), cs = [.slice A E.length c] ∧ Rd W A (eV E) ∧ E.length ≤ 9223372036854775807 ∧ ∀ e ∈ E, (Lit.int .i64 e.1).wf = true ∧ (Lit.int .i64 e.2).wf = true := by
  rcases open_slice_pairs ht he ce o0 o1 c0 c1 h with ⟨rfl, _⟩ | ⟨a, len, cap, m, n, V0, V1, D0, D1, P0, P1, rfl, _, hl, hm, hmm, _, hcell⟩
  · exact ⟨none, [], 0, rfl, Rd.nil_ _ _, by simp, by simp⟩
  · simp at hmm
    have hlm : len ≤ m := by omega
    obtain ⟨E, hl1, hl2⟩ := fam_list (q := fun i (e : Int × Int) => (V0 i = .int .i64 e.1 ∧ (Lit.int .i64 e.1).wf = true) ∧ (V1 i = .int .i64 e.2 ∧ (Lit.int .i64 e.2).wf = true)) len (fun i hi => by
      obtain ⟨_, _, h3, h4⟩ := hcell i (by omega)
      obtain ⟨z0, hz0⟩ := trod_num t0 h3
      obtain ⟨z1, hz1⟩ := trod_num t1 h4
      exact ⟨(z0, z1), hz0, hz1⟩)
    unfold maxLen at hm
    refine ⟨some a, E, cap, by rw [hl1], rd_of_cells (len := 2 * len) (V := fun j => if j % 2 = 0 then V0 (j / 2) else V1 (j / 2)) (by rw [eV_len, hl1]) (fun j hj => ?_) (fun j hj => ?_), by omega, fun y hy => ?_⟩
    · obtain ⟨y, hy, ⟨hv0, _⟩, ⟨hv1, _⟩⟩ := hl2 (j / 2) (by omega)
      obtain ⟨h1, h2⟩ := eV_at hy
      split
      · rename_i h0
        rw [show j = 2 * (j / 2) by omega, h1, ← hv0]
        simp
      · rename_i h0
        rw [show j = 2 * (j / 2) + 1 by omega, h2, ← hv1]
        congr 2
        omega
    · obtain ⟨h1, h2, _, _⟩ := hcell (j / 2) (by omega)
      split
      · rename_i h0
        rw [← h1]
        congr 2
        omega
      · rename_i h0
        rw [← h2]
        congr 2
        omega
    · obtain ⟨i, hi⟩ := List.mem_iff_getElem?.1 hy
      obtain ⟨z, hz, h3, h4⟩ := hl2 i (by rw [← hl1]; exact (List.getElem?_eq_some_iff.1 hi).1)
      rw [hi] at hz
      injection hz with hz
      subst hz
      exact ⟨h3.2, h4.2⟩
end
end Go.Proofs.YtoandhhkmkgmaaaGreatDoor
/- A graph that comes in, and what is seen of it: opened. No condition. -/
namespace Go.Proofs.YtoandhhkmkgmaaaGreatDoor
open Go.RowKit Go.WideShapes Go.ChangeShapes Go.ChangeAt Go.Deep

theorem cellsG : Tryz.prog.cellsOf 43 = 4 := by kernel_rfl
theorem cellsE : Tryz.prog.cellsOf 102 = 2 := by kernel_rfl
theorem cellsNs : Tryz.prog.cellsOf 22 = 1 := by kernel_rfl
theorem cellsEs : Tryz.prog.cellsOf 40 = 1 := by kernel_rfl
theorem cellsT : Tryz.prog.cellsOf 2 = 1 := by kernel_rfl
theorem cellsS : Tryz.prog.cellsOf 9 = 1 := by kernel_rfl
theorem cellsI : Tryz.prog.cellsOf 3 = 1 := by kernel_rfl
theorem cellsU : Tryz.prog.cellsOf 41 = 1 := by kernel_rfl
theorem arr4 {cs : Array Value} (h : cs.size = 4) : ∃ c0 c1 c2 c3, cs = #[c0, c1, c2, c3] := by
  obtain ⟨l⟩ := cs
  match l, h with
  | [c0, c1, c2, c3], _ => exact ⟨c0, c1, c2, c3, rfl⟩
theorem arr2 {cs : Array Value} (h : cs.size = 2) : ∃ c0 c1, cs = #[c0, c1] := by
  obtain ⟨l⟩ := cs
  match l, h with
  | [c0, c1], _ => exact ⟨c0, c1, rfl⟩
set_option maxRecDepth 100000 in
theorem open_graph {H : Type} {enc : TypeId × Value → H} {W : World} {base : Nat} {v : Value} {d : DataW H} {ps : List MemPlace}
    (hok : Value.okWide Tryz.prog W .any base 43 v) (h : DataW.Trod enc Tryz.prog W 0 (fun _ => true) true 43 v d ps) :
    ∃ (A1 : Option Addr) (N : List (List UInt8)) (c1 : Nat) (A2 : Option Addr) (E : List EdgeT) (c2 p m : Nat), v = gv A1 N.length c1 A2 E.length c2 p m ∧ GrIn A1 N.length A2 E.length N E p m W := by
  obtain ⟨cs, rfl, hsz⟩ := okWide_struct Tryz.underlying43 hok
  obtain ⟨fuel, hf⟩ := h
  rw [cellsG] at hsz
  obtain ⟨a0, a1, a2, a3, rfl⟩ := arr4 hsz
  obtain ⟨y0, y1, y2, y3, n, hx, hlen, h0, h1, h2, h3⟩ := Go.Joins.trod_struct4 Tryz.underlying43 hf
  have g0 : DataW.trod enc Tryz.prog W 0 (fun _ => true) true n 22 [a0] = some y0 := by simpa [cellsNs, Value.cells] using h0
  have g1 : DataW.trod enc Tryz.prog W 0 (fun _ => true) true n 40 [a1] = some y1 := by simpa [cellsEs, Value.cells] using h1
  have g2 : DataW.trod enc Tryz.prog W 0 (fun _ => true) true n 41 [a2] = some y2 := by simpa [cellsU, Value.cells] using h2
  have g3 : DataW.trod enc Tryz.prog W 0 (fun _ => true) true n 41 [a3] = some y3 := by simpa [cellsU, Value.cells] using h3
  obtain ⟨A1, N, c1, e1, hN, hNb, hNs⟩ := trod_list_rd sv StrOk Tryz.underlying22 cellsS (fun h => trod_str Tryz.underlying9 h) g0
  obtain ⟨A2, E, c2, e2, hE, hEb, _⟩ := trod_pairs_rd Tryz.underlying40 Tryz.underlying102 cellsE rfl rfl cellsI cellsI Tryz.underlying3 Tryz.underlying3 g1
  obtain ⟨p, rfl, hp⟩ := trod_set Tryz.underlying41 g2
  obtain ⟨m, rfl, hm⟩ := trod_set Tryz.underlying41 g3
  injection e1 with e1 _
  injection e2 with e2 _
  subst e1 e2
  exact ⟨A1, N, c1, A2, E, c2, p, m, rfl, hN, hE, rfl, rfl, hNb, hEb, fun s hs => by have := hNs s hs; unfold StrOk maxLen at this; omega, hp, hm⟩
end Go.Proofs.YtoandhhkmkgmaaaGreatDoor
