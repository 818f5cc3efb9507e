/- Pairs of suffixes that come in: a slice of pairs of texts, its room too. No condition. -/
import Derived.Test.YtoandhhkmkgmaaaMg20
import Derived.Test.YtoandhhkmkgmaaaMg26
namespace Go.Proofs.Ytoandhhkmkgmaaa
open Go.RowKit Go.WideShapes Go.ChangeShapes Go.ChangeAt Go.Deep

theorem macV_lenI (L : List InfT) : (macV L).length = 2 * L.length := by
  induction L with
  | nil => rfl
  | cons x l ih => show (macV l).length + 1 + 1 = _; rw [ih, List.length_cons]; omega
theorem macV_atI {L : List InfT} {i : Nat} {x : InfT} (h : L[i]? = some x) : (macV L)[2 * i]? = some (sv x.1) ∧ (macV L)[2 * i + 1]? = some (sv x.2) := flat2_at _ _ L i x h
section
variable {H : Type} {enc : TypeId × Value → H} {P : Program} {W : World} {n : Nat} {t e : TypeId} {cs : List Value} {x : DataW H × List MemPlace}
theorem trod_infs {f0 f1 : Field} (ht : P.underlying t = some (.slice e)) (he : P.underlying e = some (.struct #[f0, f1])) (ce : P.cellsOf e = 2) (o0 : f0.offset = 0) (o1 : f1.offset = 1)
    (c0 : P.cellsOf f0.type = 1) (c1 : P.cellsOf f1.type = 1) (t0 : P.underlying f0.type = some .string) (t1 : P.underlying f1.type = some .string)
    (h : DataW.trod enc P W 0 (fun _ => true) true n t cs = some x) :
    ∃ (A : Option Addr) (E : List InfT) (c : Nat), cs = [.slice A E.length c] ∧ Rd W A (macV E) ∧ E.length ≤ 9223372036854775807 ∧ E.length ≤ c ∧ ∀ y ∈ E, y.1.length ≤ 9223372036854775807 ∧ y.2.length ≤ 9223372036854775807 := by
  rcases open_slice_pairs ht he ce o0 o1 c0 c1 h with ⟨rfl, _⟩ | ⟨a, len, cap, m, n, V0, V1, D0, D1, P0, P1, rfl, _, hl, hm, hmm, _, hcell⟩
  · exact ⟨none, [], 0, rfl, Rd.nil_ _ _, by simp, by simp, by simp⟩
  · simp at hmm
    have hlm : len ≤ m := by omega
    obtain ⟨E, hl1, hl2⟩ := fam_listR (q := fun i (x : InfT) => (V0 i = sv x.1 ∧ x.1.length ≤ maxLen) ∧ (V1 i = sv x.2 ∧ x.2.length ≤ maxLen)) len (fun i hi => by
      obtain ⟨_, _, h3, h4⟩ := hcell i (by omega)
      obtain ⟨s1, e1, q1⟩ := trod_strR t0 h3
      obtain ⟨s2, e2, q2⟩ := trod_strR t1 h4
      exact ⟨(s1, s2), ⟨e1, q1⟩, e2, q2⟩)
    unfold maxLen at hm
    refine ⟨some a, E, cap, by rw [hl1], rd_of_cellsR (len := 2 * len) (V := fun j => if j % 2 = 0 then V0 (j / 2) else V1 (j / 2)) (by rw [macV_lenI, hl1]) (fun j hj => ?_) (fun j hj => ?_), by omega, by omega, fun y hy => ?_⟩
    · obtain ⟨y, hy, ⟨hv0, _⟩, hv1, _⟩ := hl2 (j / 2) (by omega)
      obtain ⟨h1, h2⟩ := macV_atI hy
      split
      · rename_i h0
        rw [show j = 2 * (j / 2) by omega, h1, ← hv0]
        simp
      · rename_i h0
        rw [show j = 2 * (j / 2) + 1 by omega, h2, ← hv1]
        congr 2
        omega
    · obtain ⟨h1, h2, _, _⟩ := hcell (j / 2) (by omega)
      split
      · rename_i h0
        rw [← h1]
        congr 2
        omega
      · rename_i h0
        rw [← h2]
        congr 2
        omega
    · obtain ⟨i, hi⟩ := List.mem_iff_getElem?.1 hy
      obtain ⟨z, hz, ⟨_, h3⟩, _, h4⟩ := hl2 i (by rw [← hl1]; exact (List.getElem?_eq_some_iff.1 hi).1)
      rw [hi] at hz
      injection hz with hz
      subst hz
      unfold maxLen at h3 h4
      omega
end
theorem cellsInfI : Try.prog.cellsOf 93 = 2 := by kernel_rfl
set_option maxRecDepth 100000 in
theorem open_infs {H : Type} {enc : TypeId × Value → H} {W : World} {base : Nat} {v : Value} {d : DataW H} {ps : List MemPlace}
    (hok : Value.okWide Try.prog W .any base 44 v) (h : DataW.Trod enc Try.prog W 0 (fun _ => true) true 44 v d ps) :
    ∃ (A : Option Addr) (E : List InfT) (c : Nat), v = .slice A E.length c ∧ Rd W A (macV E) ∧ E.length ≤ 9223372036854775807 ∧ E.length ≤ c ∧ ∀ y ∈ E, y.1.length ≤ 9223372036854775807 ∧ y.2.length ≤ 9223372036854775807 := by
  obtain ⟨a0, len, cap, rfl⟩ := okWide_slice Try.underlying44 hok
  obtain ⟨fuel, hf⟩ := h
  obtain ⟨A, E, c, e1, h1, h2, h3, h4⟩ := trod_infs Try.underlying44 Try.underlying93 cellsInfI rfl rfl cellsStR cellsStR Try.underlying9 Try.underlying9 hf
  simp [Value.cells] at e1
  obtain ⟨rfl, rfl, rfl⟩ := e1
  exact ⟨a0, E, cap, rfl, h1, h2, h3, h4⟩
end Go.Proofs.Ytoandhhkmkgmaaa
