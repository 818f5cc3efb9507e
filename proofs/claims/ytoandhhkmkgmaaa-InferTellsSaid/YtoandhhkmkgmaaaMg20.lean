/- Rules that come in: one, by value; a slice of them. No condition. -/
import Derived.Test.YtoandhhkmkgmaaaMg5
import Derived.Test.YtoandhhkmkgmaaaMg19
import Derived.Deep.SlicePairs
import Derived.Lib.SmallJoins
namespace Go.Proofs.Ytoandhhkmkgmaaa
open Go.RowKit Go.WideShapes Go.ChangeShapes Go.ChangeAt Go.Deep

theorem fam_listR {α : Type} {q : Nat → α → Prop} : ∀ (len : Nat), (∀ i, i < len → ∃ x, q i x) → ∃ l : List α, l.length = len ∧ ∀ i, i < len → ∃ x, l[i]? = some x ∧ q i x
  | 0, _ => ⟨[], rfl, fun i hi => absurd hi (Nat.not_lt_zero _)⟩
  | k + 1, h => by
    obtain ⟨l, hl1, hl2⟩ := fam_listR k (fun i hi => h i (by omega))
    obtain ⟨x, hx⟩ := h k (by omega)
    refine ⟨l ++ [x], by simp [hl1], fun i hi => ?_⟩
    rcases Nat.lt_or_ge i k with h1 | h1
    · obtain ⟨y, hy1, hy2⟩ := hl2 i h1
      exact ⟨y, by rw [List.getElem?_append_left (by omega)]; exact hy1, hy2⟩
    · obtain rfl : i = k := by omega
      exact ⟨x, by rw [List.getElem?_append_right (by omega), hl1]; simp, hx⟩
theorem rd_of_cellsR {W : World} {a : Addr} {len : Nat} {V : Nat → Value} {xs : List Value} (hl : xs.length = len) (hV : ∀ i, i < len → xs[i]? = some (V i)) (hc : ∀ i, i < len → W.cell? (a.add i) = some (V i)) : Rd W (some a) xs := by
  intro hpos
  obtain ⟨b, off, ext⟩ := a
  have h0 := hc 0 (by omega)
  have hext : ext = none := by simpa [Addr.add] using World.cell?_spot h0
  subst hext
  have hat : ∀ i, i < len → W.cell? ⟨b, off + i, none⟩ = some (V i) := fun i hi => by
    have := hc i hi
    unfold Addr.add at this
    by_cases hz : i = 0
    · subst hz; simpa using this
    · simpa [hz] using this
  refine ⟨b, off, rfl, lt_of_cell' (hat 0 (by omega)), fun j u hu => ?_⟩
  have hj : j < len := by rw [← hl]; exact (List.getElem?_eq_some_iff.1 hu).1
  rw [hV j hj] at hu
  injection hu with hu
  subst hu
  exact hat j hj
section
variable {H : Type} {enc : TypeId × Value → H} {P : Program} {W : World} {n : Nat} {t e : TypeId} {cs : List Value} {x : DataW H × List MemPlace}
theorem trod_strR {V : Value} {D : DataW H} {Pl : List MemPlace} (he : P.underlying e = some .string) (h : DataW.trod enc P W 0 (fun _ => true) true n e [V] = some (D, Pl)) : ∃ s : List UInt8, V = sv s ∧ s.length ≤ maxLen := by
  obtain ⟨b, hV, _, hb⟩ := DataW.trod_string he h
  injection hV with hV _
  subst hV
  exact ⟨b.data.toList, str_of' b, by rw [Array.length_toList]; exact hb⟩
/-- A slice of texts, in a field. -/
theorem trod_strsR (ht : P.underlying t = some (.slice e)) (he : P.underlying e = some .string) (hc : P.cellsOf e = 1) (h : DataW.trod enc P W 0 (fun _ => true) true n t cs = some x) :
    ∃ (A : Option Addr) (l : List (List UInt8)) (c : Nat), cs = [.slice A l.length c] ∧ Rd W A (l.map sv) ∧ l.length ≤ 9223372036854775807 ∧ l.length ≤ c ∧ StrsOk l := by
  rcases open_slice1 ht hc h with ⟨rfl, _⟩ | ⟨a, len, cap, m, n, V, D, Pl, rfl, _, hl, hm, hmm, _, hcell⟩
  · exact ⟨none, [], 0, rfl, Rd.nil_ _ _, by simp, by simp, fun s hs => by cases hs⟩
  · simp at hmm
    have hlm : len ≤ m := by omega
    obtain ⟨l, hl1, hl2⟩ := fam_listR (q := fun i (x : List UInt8) => V i = sv x ∧ x.length ≤ maxLen) len (fun i hi => trod_strR he (hcell i (by omega)).2)
    unfold maxLen at hm
    refine ⟨some a, l, cap, by rw [hl1], rd_of_cellsR (len := len) (V := V) (by rw [List.length_map, hl1]) (fun i hi => ?_) (fun i hi => (hcell i (by omega)).1), by omega, by omega, fun y hy => ?_⟩
    · obtain ⟨y, hy, hv, _⟩ := hl2 i hi
      rw [List.getElem?_map, hy, hv]
      rfl
    · obtain ⟨i, hi⟩ := List.mem_iff_getElem?.1 hy
      obtain ⟨z, hz, _, hp⟩ := hl2 i (by rw [← hl1]; exact (List.getElem?_eq_some_iff.1 hi).1)
      rw [hi] at hz
      injection hz with hz
      subst hz
      unfold maxLen at hp
      omega
theorem rsV_len (L : List RSlot) : (rsV L).length = 2 * L.length := by
  unfold rsV
  induction L with
  | nil => rfl
  | cons x l ih => rw [List.flatMap_cons, List.length_append, ih, List.length_cons]; simp; omega
theorem rsV_at {L : List RSlot} {i : Nat} {x : RSlot} (h : L[i]? = some x) : (rsV L)[2 * i]? = some (rsT x) ∧ (rsV L)[2 * i + 1]? = some (rsN x) := flat2_at rsT rsN L i x h
/-- A slice of rules. -/
theorem trod_rulesR {f0 f1 : Field} {te : TypeId} (ht : P.underlying t = some (.slice e)) (he : P.underlying e = some (.struct #[f0, f1])) (ce : P.cellsOf e = 2) (o0 : f0.offset = 0) (o1 : f1.offset = 1)
    (c0 : P.cellsOf f0.type = 1) (c1 : P.cellsOf f1.type = 1) (t0 : P.underlying f0.type = some (.slice te)) (t1 : P.underlying f1.type = some (.slice te)) (hs : P.underlying te = some .string) (hc : P.cellsOf te = 1)
    (h : DataW.trod enc P W 0 (fun _ => true) true n t cs = some x) :
    ∃ (A : Option Addr) (E : List RSlot) (c : Nat), cs = [.slice A E.length c] ∧ RsAll A E W ∧ E.length ≤ 9223372036854775807 := by
  rcases open_slice_pairs ht he ce o0 o1 c0 c1 h with ⟨rfl, _⟩ | ⟨a, len, cap, m, n, V0, V1, D0, D1, P0, P1, rfl, _, hl, hm, hmm, _, hcell⟩
  · exact ⟨none, [], 0, rfl, RsAll.nil _ _, by simp⟩
  · simp at hmm
    have hlm : len ≤ m := by omega
    obtain ⟨E, hl1, hl2⟩ := fam_listR (q := fun i (x : RSlot) => (V0 i = rsT x ∧ V1 i = rsN x) ∧ RsIn x W) len (fun i hi => by
      obtain ⟨_, _, h3, h4⟩ := hcell i (by omega)
      obtain ⟨A1, l1, k1, e1, r1, b1, q1, s1⟩ := trod_strsR t0 hs hc h3
      obtain ⟨A2, l2, k2, e2, r2, b2, q2, s2⟩ := trod_strsR t1 hs hc h4
      injection e1 with e1 _
      injection e2 with e2 _
      exact ⟨((A1, k1), (A2, k2), (l1, l2)), ⟨e1, e2⟩, ⟨r1, r2, rfl, rfl, b1, b2, q1, q2, s1, s2⟩⟩)
    unfold maxLen at hm
    refine ⟨some a, E, cap, by rw [hl1], ⟨rd_of_cellsR (len := 2 * len) (V := fun j => if j % 2 = 0 then V0 (j / 2) else V1 (j / 2)) (by rw [rsV_len, hl1]) (fun j hj => ?_) (fun j hj => ?_), fun y hy => ?_⟩, by omega⟩
    · obtain ⟨y, hy, ⟨hv0, hv1⟩, _⟩ := hl2 (j / 2) (by omega)
      obtain ⟨h1, h2⟩ := rsV_at hy
      split
      · rename_i h0
        rw [show j = 2 * (j / 2) by omega, h1, ← hv0]
        simp
      · rename_i h0
        rw [show j = 2 * (j / 2) + 1 by omega, h2, ← hv1]
        congr 2
        omega
    · obtain ⟨h1, h2, _, _⟩ := hcell (j / 2) (by omega)
      split
      · rename_i h0
        rw [← h1]
        congr 2
        omega
      · rename_i h0
        rw [← h2]
        congr 2
        omega
    · obtain ⟨i, hi⟩ := List.mem_iff_getElem?.1 hy
      obtain ⟨z, hz, _, h4⟩ := hl2 i (by rw [← hl1]; exact (List.getElem?_eq_some_iff.1 hi).1)
      rw [hi] at hz
      injection hz with hz
      subst hz
      exact h4
end
theorem cellsRl : Try.prog.cellsOf 82 = 2 := by kernel_rfl
theorem cellsStR : Try.prog.cellsOf 9 = 1 := by kernel_rfl
theorem cellsNsR : Try.prog.cellsOf 32 = 1 := by kernel_rfl
theorem arr2R {cs : Array Value} (h : cs.size = 2) : ∃ c0 c1, cs = #[c0, c1] := by
  obtain ⟨l⟩ := cs
  match l, h with
  | [c0, c1], _ => exact ⟨c0, c1, rfl⟩
set_option maxRecDepth 100000 in
theorem open_rule {H : Type} {enc : TypeId × Value → H} {W : World} {base : Nat} {v : Value} {d : DataW H} {ps : List MemPlace}
    (hok : Value.okWide Try.prog W .any base 82 v) (h : DataW.Trod enc Try.prog W 0 (fun _ => true) true 82 v d ps) :
    ∃ (A1 : Option Addr) (n1 c1 : Nat) (A2 : Option Addr) (n2 c2 : Nat) (r : RuleT), v = rlV A1 n1 c1 A2 n2 c2 ∧ RlIn A1 n1 c1 A2 n2 c2 r W := by
  obtain ⟨cs, rfl, hsz⟩ := okWide_struct Try.underlying82 hok
  obtain ⟨fuel, hf⟩ := h
  rw [cellsRl] at hsz
  obtain ⟨a0, a1, rfl⟩ := arr2R hsz
  obtain ⟨y0, y1, n, hx, hlen, h0, h1⟩ := trod_struct2 Try.underlying82 hf
  have g0 : DataW.trod enc Try.prog W 0 (fun _ => true) true n 32 [a0] = some y0 := by simpa [cellsNsR, Value.cells] using h0
  have g1 : DataW.trod enc Try.prog W 0 (fun _ => true) true n 32 [a1] = some y1 := by simpa [cellsNsR, Value.cells] using h1
  obtain ⟨A1, l1, k1, e1, r1, b1, q1, s1⟩ := trod_strsR Try.underlying32 Try.underlying9 cellsStR g0
  obtain ⟨A2, l2, k2, e2, r2, b2, q2, s2⟩ := trod_strsR Try.underlying32 Try.underlying9 cellsStR g1
  injection e1 with e1 _
  injection e2 with e2 _
  subst e1 e2
  exact ⟨A1, _, k1, A2, _, k2, (l1, l2), rfl, ⟨r1, r2, rfl, rfl, b1, b2, q1, q2, s1, s2⟩⟩
set_option maxRecDepth 100000 in
theorem open_rules {H : Type} {enc : TypeId × Value → H} {W : World} {base : Nat} {v : Value} {d : DataW H} {ps : List MemPlace}
    (hok : Value.okWide Try.prog W .any base 43 v) (h : DataW.Trod enc Try.prog W 0 (fun _ => true) true 43 v d ps) :
    ∃ (A : Option Addr) (E : List RSlot) (c : Nat), v = .slice A E.length c ∧ RsAll A E W ∧ E.length ≤ 9223372036854775807 := by
  obtain ⟨a0, len, cap, rfl⟩ := okWide_slice Try.underlying43 hok
  obtain ⟨fuel, hf⟩ := h
  obtain ⟨A, E, c, e1, h1, h2⟩ := trod_rulesR Try.underlying43 Try.underlying82 cellsRl rfl rfl cellsNsR cellsNsR Try.underlying32 Try.underlying32 Try.underlying9 cellsStR hf
  simp [Value.cells] at e1
  obtain ⟨rfl, rfl, rfl⟩ := e1
  exact ⟨a0, E, cap, rfl, h1, h2⟩
end Go.Proofs.Ytoandhhkmkgmaaa
