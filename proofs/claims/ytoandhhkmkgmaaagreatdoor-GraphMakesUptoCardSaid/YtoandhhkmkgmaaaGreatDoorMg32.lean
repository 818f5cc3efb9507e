/- Contracts that the law's proof leans on, and plain lemmas to them, merged. No condition beyond each contract's own hypotheses. -/
import Derived.Test.YtoandhhkmkgmaaaGreatDoorMg3
import Derived.Test.YtoandhhkmkgmaaaGreatDoorMg11
import Derived.Deep.SlicePairs
import Derived.Lib.SmallJoins
import Derived.Test.YtoandhhkmkgmaaaGreatDoorMg31
namespace Go.Proofs.YtoandhhkmkgmaaaGreatDoor
open Go.RowKit Go.WideShapes Go.ChangeShapes Go.ChangeAt Go.Deep

theorem fam_listR {α : Type} {q : Nat → α → Prop} : ∀ (len : Nat), (∀ i, i < len → ∃ x, q i x) → ∃ l : List α, l.length = len ∧ ∀ i, i < len → ∃ x, l[i]? = some x ∧ q i x
 | 0, _ => ⟨[], rfl, fun i hi => absurd hi (Nat.not_lt_zero _)⟩
 | k + 1, h => by
   obtain ⟨l, hl1, hl2⟩ := fam_listR k (fun i hi => h i (by omega))
   obtain ⟨x, hx⟩ := h k (by omega)
   refine ⟨l ++ [x], by simp [hl1], fun i hi => ?_⟩
   rcases Nat.lt_or_ge i k with h1 | h1
   ·obtain ⟨y, hy1, hy2⟩ := hl2 i h1
    exact ⟨y, by rw [List.getElem?_append_left (by omega)]; exact hy1, hy2⟩
   ·obtain rfl : i = k := by omega
    exact ⟨x, by rw [List.getElem?_append_right (by omega), hl1]; simp, hx⟩
theorem rd_of_cellsR {W : World} {a : Addr} {len : Nat} {V : Nat → Value} {xs : List Value} (hl : xs.length = len) (hV : ∀ i, i < len → xs[i]? = some (V i)) (hc : ∀ i, i < len → W.cell? (a.add i) = some (V i)) : Rd W (some a) xs := by
 intro hpos
 obtain ⟨b, off, ext⟩ := a
 have h0 := hc 0 (by omega)
 have hext : ext = none := by simpa [Addr.add] using World.cell?_spot h0
 subst hext
 have hat : ∀ i, i < len → W.cell? ⟨b, off + i, none⟩ = some (V i) := fun i hi => by
  have := hc i hi
  unfold Addr.add at this
  by_cases hz : i = 0
  ·subst hz; simpa using this
  ·simpa [hz] using this
 refine ⟨b, off, rfl, lt_of_cell' (hat 0 (by omega)), fun j u hu => ?_⟩
 have hj : j < len := by rw [← hl]; exact (List.getElem?_eq_some_iff.1 hu).1
 rw [hV j hj] at hu
 injection hu with hu
 subst hu
 exact hat j hj
section
variable {H : Type} {enc : TypeId × Value → H} {P : Program} {W : World} {n : Nat} {t e : TypeId} {cs : List Value} {x : DataW H × List MemPlace}
theorem rsV_len (L : List RSlot) : (rsV L).length = 2 * L.length := by
 unfold rsV
 induction L with
 | nil => rfl
 | cons x l ih => rw [List.flatMap_cons, List.length_append, ih, List.length_cons]; simp; omega
theorem rsV_at {L : List RSlot} {i : Nat} {x : RSlot} (h : L[i]? = some x) : (rsV L)[2 * i]? = some (rsT x) ∧ (rsV L)[2 * i + 1]? = some (rsN x) := flat2_at rsT rsN L i x h
end
theorem cellsRl : Tryz.prog.cellsOf 78 = 2 := by kernel_rfl
theorem cellsStR : Tryz.prog.cellsOf 9 = 1 := by kernel_rfl
theorem cellsNsR : Tryz.prog.cellsOf 22 = 1 := by kernel_rfl
end Go.Proofs.YtoandhhkmkgmaaaGreatDoor
namespace Go.Proofs.YtoandhhkmkgmaaaGreatDoor
open Go.RowKit Go.WideShapes Go.ChangeShapes Go.ChangeAt Go.Deep

section
variable {H : Type} {enc : TypeId × Value → H} {P : Program} {W : World} {n : Nat} {t e : TypeId} {cs : List Value} {x : DataW H × List MemPlace}
end
end Go.Proofs.YtoandhhkmkgmaaaGreatDoor
namespace Go.Proofs.YtoandhhkmkgmaaaGreatDoor
open Go.RowKit Go.WideShapes Go.ChangeShapes Go.ChangeAt Go.Deep

theorem bulkAll_app {H : Type} (a b : List (DataW H)) : Rows.uptoBulkAll (a ++ b) = Rows.uptoBulkAll a + Rows.uptoBulkAll b := by
 induction a with
 | nil => simp [Rows.uptoBulkAll]
 | cons x l ih => rw [List.cons_append, Rows.uptoBulkAll, Rows.uptoBulkAll, ih]; omega
theorem bulk_sum {H : Type} {α : Type} (g : α → Nat) (D : Nat → DataW H) : ∀ (len : Nat) (l : List α), l.length = len → (∀ i, i < len → ∃ x, l[i]? = some x ∧ g x ≤ Rows.uptoBulk (D i)) → (l.map g).sum ≤ Rows.uptoBulkAll ((List.range len).map D)
 | 0, l, hl, _ => by rw [List.length_eq_zero_iff.1 hl]; simp [Rows.uptoBulkAll]
 | k + 1, l, hl, h => by
   obtain ⟨x, hx, hg⟩ := h k (by omega)
   have hsp : l = l.take k ++ [x] := by
    conv => lhs; rw [← List.take_append_drop k l]
    rw [List.drop_eq_getElem_cons (by omega)]
    rw [List.getElem?_eq_getElem (by omega)] at hx
    injection hx with hx
    rw [hx, List.drop_of_length_le (by omega)]
   have ih := bulk_sum g D k (l.take k) (by rw [List.length_take]; omega) (fun i hi => by
    obtain ⟨y, hy, hgy⟩ := h i (by omega)
    exact ⟨y, by rw [List.getElem?_take, if_pos hi]; exact hy, hgy⟩)
   have hsum : (l.map g).sum = ((l.take k).map g).sum + g x := by
    conv => lhs; rw [hsp]
    rw [List.map_append, List.sum_append]
    simp
   rw [List.range_succ, List.map_append, bulkAll_app, hsum]
   simp only [List.map_cons, List.map_nil, Rows.uptoBulkAll]
   omega
theorem sum_mem {α : Type} (g : α → Nat) {l : List α} {x : α} (h : x ∈ l) : g x ≤ (l.map g).sum := by
 induction l with
 | nil => cases h
 | cons y l ih =>
   rw [List.map_cons, List.sum_cons]
   rcases List.mem_cons.1 h with rfl | h
   ·omega
   ·have := ih h; omega
theorem sum_len {α : Type} (g : α → Nat) (hg : ∀ x, 1 ≤ g x) (l : List α) : l.length ≤ (l.map g).sum := by
 induction l with
 | nil => simp
 | cons y l ih => rw [List.map_cons, List.sum_cons, List.length_cons]; have := hg y; omega
def bS (s : List UInt8) : Nat := s.length + 1
def bM (m : List UInt8 × List UInt8) : Nat := m.1.length + m.2.length + 3
def bR (r : RuleT) : Nat := (r.1.map bS).sum + (r.2.map bS).sum + 1
section
variable {H : Type} {enc : TypeId × Value → H} {P : Program} {W : World} {n : Nat} {t e : TypeId} {cs : List Value} {x : DataW H × List MemPlace}
theorem trod_strB {V : Value} {D : DataW H} {Pl : List MemPlace} (he : P.underlying e = some .string) (h : DataW.trod enc P W 0 (fun _ => true) true n e [V] = some (D, Pl)) : ∃ s : List UInt8, V = sv s ∧ s.length ≤ maxLen ∧ Rows.uptoBulk D = bS s := by
 obtain ⟨b, hV, hD, hb⟩ := DataW.trod_string he h
 injection hV with hV _
 injection hD with hD _
 subst hV hD
 exact ⟨b.data.toList, sv_of b, by rw [str_size]; exact hb, by simp only [Rows.uptoBulk]; rfl⟩
theorem trod_strsB (ht : P.underlying t = some (.slice e)) (he : P.underlying e = some .string) (hc : P.cellsOf e = 1) (h : DataW.trod enc P W 0 (fun _ => true) true n t cs = some x) :
 ∃ (A : Option Addr) (l : List (List UInt8)) (c : Nat), cs = [.slice A l.length c] ∧ Rd W A (l.map sv) ∧ l.length ≤ 9223372036854775807 ∧ l.length ≤ c ∧ StrsOk l ∧ (l.map bS).sum ≤ Rows.uptoBulk x.1 := by
 rcases open_slice1 ht hc h with ⟨rfl, _⟩ | ⟨a, len, cap, m, n, V, D, Pl, rfl, _, hl, hm, hmm, rfl, hcell⟩
 ·exact ⟨none, [], 0, rfl, Rd.nil_ _ _, by simp, by simp, (fun s hs => by cases hs), by simp⟩
 ·simp at hmm
  have hlm : len ≤ m := by omega
  obtain ⟨l, hl1, hl2⟩ := fam_listR (q := fun i (x : List UInt8) => (V i = sv x ∧ x.length ≤ maxLen) ∧ bS x ≤ Rows.uptoBulk (D i)) len (fun i hi => by
   obtain ⟨s, h1, h2, h3⟩ := trod_strB he (hcell i (by omega)).2
   exact ⟨s, ⟨h1, h2⟩, by rw [h3]; exact Nat.le_refl _⟩)
  unfold maxLen at hm
  refine ⟨some a, l, cap, by rw [hl1], rd_of_cellsR (len := len) (V := V) (by rw [List.length_map, hl1]) (fun i hi => ?_) (fun i hi => (hcell i (by omega)).1), by omega, by omega, (fun y hy => ?_), ?_⟩
  ·obtain ⟨y, hy, ⟨hv, _⟩, _⟩ := hl2 i hi
   rw [List.getElem?_map, hy, hv]
   rfl
  ·obtain ⟨i, hi⟩ := List.mem_iff_getElem?.1 hy
   obtain ⟨z, hz, ⟨_, hp⟩, _⟩ := hl2 i (by rw [← hl1]; exact (List.getElem?_eq_some_iff.1 hi).1)
   rw [hi] at hz
   injection hz with hz
   subst hz
   unfold maxLen at hp
   omega
  ·have := bulk_sum bS D len l hl1 (fun i hi => by obtain ⟨y, hy, _, hg⟩ := hl2 i hi; exact ⟨y, hy, hg⟩)
   simp only [Rows.uptoBulk]
   omega
theorem macV_lenF (L : List (List UInt8 × List UInt8)) : (macV L).length = 2 * L.length := by
 unfold macV
 induction L with
 | nil => rfl
 | cons x l ih => rw [List.flatMap_cons, List.length_append, ih, List.length_cons]; simp; omega
theorem trod_pairsB {f0 f1 : Field} (ht : P.underlying t = some (.slice e)) (he : P.underlying e = some (.struct #[f0, f1])) (ce : P.cellsOf e = 2) (o0 : f0.offset = 0) (o1 : f1.offset = 1)
 (c0 : P.cellsOf f0.type = 1) (c1 : P.cellsOf f1.type = 1) (t0 : P.underlying f0.type = some .string) (t1 : P.underlying f1.type = some .string)
 (h : DataW.trod enc P W 0 (fun _ => true) true n t cs = some x) :
 ∃ (A : Option Addr) (E : List (List UInt8 × List UInt8)) (c : Nat), cs = [.slice A E.length c] ∧ Rd W A (macV E) ∧ E.length ≤ c ∧ (E.map bM).sum ≤ Rows.uptoBulk x.1 := by
 rcases open_slice_pairs ht he ce o0 o1 c0 c1 h with ⟨rfl, _⟩ | ⟨a, len, cap, m, n, V0, V1, D0, D1, P0, P1, rfl, _, hl, hm, hmm, rfl, hcell⟩
 ·exact ⟨none, [], 0, rfl, Rd.nil_ _ _, by simp, by simp⟩
 ·simp at hmm
  have hlm : len ≤ m := by omega
  obtain ⟨E, hl1, hl2⟩ := fam_listR (q := fun i (x : List UInt8 × List UInt8) => (V0 i = sv x.1 ∧ V1 i = sv x.2) ∧ bM x ≤ Rows.uptoBulk (DataW.agg [D0 i, D1 i])) len (fun i hi => by
   obtain ⟨_, _, h3, h4⟩ := hcell i (by omega)
   obtain ⟨s1, e1, _, g1⟩ := trod_strB t0 h3
   obtain ⟨s2, e2, _, g2⟩ := trod_strB t1 h4
   exact ⟨(s1, s2), ⟨e1, e2⟩, by simp only [Rows.uptoBulk, Rows.uptoBulkAll, g1, g2, bS, bM]; omega⟩)
  refine ⟨some a, E, cap, by rw [hl1], rd_of_cellsR (len := 2 * len) (V := fun j => if j % 2 = 0 then V0 (j / 2) else V1 (j / 2)) (by rw [macV_lenF, hl1]) (fun j hj => ?_) (fun j hj => ?_), by omega, ?_⟩
  ·obtain ⟨y, hy, ⟨hv0, hv1⟩, _⟩ := hl2 (j / 2) (by omega)
   obtain ⟨h1, h2⟩ := flat2_at (fun x : List UInt8 × List UInt8 => sv x.1) (fun x => sv x.2) E (j / 2) y hy
   split
   ·rename_i h0
    unfold macV
    rw [show j = 2 * (j / 2) by omega, h1, ← hv0]
    simp
   ·rename_i h0
    unfold macV
    rw [show j = 2 * (j / 2) + 1 by omega, h2, ← hv1]
    congr 2
    omega
  ·obtain ⟨h1, h2, _, _⟩ := hcell (j / 2) (by omega)
   split
   ·rename_i h0
    rw [← h1]
    congr 2
    omega
   ·rename_i h0
    rw [← h2]
    congr 2
    omega
  ·have := bulk_sum bM (fun i => DataW.agg [D0 i, D1 i]) len E hl1 (fun i hi => by obtain ⟨y, hy, _, hg⟩ := hl2 i hi; exact ⟨y, hy, hg⟩)
   simp only [Rows.uptoBulk]
   omega
theorem trod_rulesB {f0 f1 : Field} {te : TypeId} (ht : P.underlying t = some (.slice e)) (he : P.underlying e = some (.struct #[f0, f1])) (ce : P.cellsOf e = 2) (o0 : f0.offset = 0) (o1 : f1.offset = 1)
 (c0 : P.cellsOf f0.type = 1) (c1 : P.cellsOf f1.type = 1) (t0 : P.underlying f0.type = some (.slice te)) (t1 : P.underlying f1.type = some (.slice te)) (hs : P.underlying te = some .string) (hc : P.cellsOf te = 1)
 (h : DataW.trod enc P W 0 (fun _ => true) true n t cs = some x) :
 ∃ (A : Option Addr) (E : List RSlot) (c : Nat), cs = [.slice A E.length c] ∧ RsAll A E W ∧ ((rulesOf E).map bR).sum ≤ Rows.uptoBulk x.1 := by
 rcases open_slice_pairs ht he ce o0 o1 c0 c1 h with ⟨rfl, _⟩ | ⟨a, len, cap, m, n, V0, V1, D0, D1, P0, P1, rfl, _, hl, hm, hmm, rfl, hcell⟩
 ·exact ⟨none, [], 0, rfl, RsAll.nil _ _, by simp [rulesOf]⟩
 ·simp at hmm
  have hlm : len ≤ m := by omega
  obtain ⟨E, hl1, hl2⟩ := fam_listR (q := fun i (x : RSlot) => ((V0 i = rsT x ∧ V1 i = rsN x) ∧ RsIn x W) ∧ bR x.2.2 ≤ Rows.uptoBulk (DataW.agg [D0 i, D1 i])) len (fun i hi => by
   obtain ⟨_, _, h3, h4⟩ := hcell i (by omega)
   obtain ⟨A1, l1, k1, e1, r1, b1, q1, s1, g1⟩ := trod_strsB t0 hs hc h3
   obtain ⟨A2, l2, k2, e2, r2, b2, q2, s2, g2⟩ := trod_strsB t1 hs hc h4
   injection e1 with e1 _
   injection e2 with e2 _
   exact ⟨((A1, k1), (A2, k2), (l1, l2)), ⟨⟨e1, e2⟩, ⟨r1, r2, rfl, rfl, b1, b2, q1, q2, s1, s2⟩⟩, by dsimp only at g1 g2; simp only [Rows.uptoBulk, Rows.uptoBulkAll, bR]; omega⟩)
  refine ⟨some a, E, cap, by rw [hl1], ⟨rd_of_cellsR (len := 2 * len) (V := fun j => if j % 2 = 0 then V0 (j / 2) else V1 (j / 2)) (by rw [rsV_len, hl1]) (fun j hj => ?_) (fun j hj => ?_), fun y hy => ?_⟩, ?_⟩
  ·obtain ⟨y, hy, ⟨⟨hv0, hv1⟩, _⟩, _⟩ := hl2 (j / 2) (by omega)
   obtain ⟨h1, h2⟩ := rsV_at hy
   split
   ·rename_i h0
    rw [show j = 2 * (j / 2) by omega, h1, ← hv0]
    simp
   ·rename_i h0
    rw [show j = 2 * (j / 2) + 1 by omega, h2, ← hv1]
    congr 2
    omega
  ·obtain ⟨h1, h2, _, _⟩ := hcell (j / 2) (by omega)
   split
   ·rename_i h0
    rw [← h1]
    congr 2
    omega
   ·rename_i h0
    rw [← h2]
    congr 2
    omega
  ·obtain ⟨i, hi⟩ := List.mem_iff_getElem?.1 hy
   obtain ⟨z, hz, ⟨_, h4⟩, _⟩ := hl2 i (by rw [← hl1]; exact (List.getElem?_eq_some_iff.1 hi).1)
   rw [hi] at hz
   injection hz with hz
   subst hz
   exact h4
  ·have := bulk_sum bR (fun i => DataW.agg [D0 i, D1 i]) len (rulesOf E) (by unfold rulesOf; simp [hl1]) (fun i hi => by obtain ⟨y, hy, _, hg⟩ := hl2 i hi; exact ⟨y.2.2, rulesOf_atL hy, hg⟩)
   simp only [Rows.uptoBulk]
   omega
end
theorem lens_bulk (l : List (List UInt8)) : lens l l.length + l.length = (l.map bS).sum := by
 unfold lens
 rw [List.take_length]
 induction l with
 | nil => rfl
 | cons x l ih => simp only [List.map_cons, List.sum_cons, List.length_cons, bS] at ih ⊢; omega
theorem rlText_len (r : RuleT) : (rlText r).length = bR r := by
 have h := joinSp_lens (r.1 ++ [58] :: r.2) (by simp)
 rw [lens_bulk, rl_text_join] at h
 unfold bR
 rw [List.map_append, List.sum_append, List.map_cons, List.sum_cons] at h
 have : bS [58] = 2 := rfl
 omega
theorem szF_of {f : FileT} (h : (f.mac.map bM).sum + (f.pho.map bS).sum + (f.inf.map bM).sum + (f.rul.map bR).sum ≤ 1048576) : SzF f := by
 refine ⟨fun s hs => ?_, ?_, ?_, ?_⟩
 ·unfold linesP at hs
  simp only [List.mem_append, List.mem_map] at hs
  rcases hs with ((⟨m, hm, rfl⟩ | hs) | ⟨m, hm, rfl⟩) | ⟨r, hr, rfl⟩
  ·have := sum_mem bM hm
   have e : bM m = m.1.length + m.2.length + 3 := rfl
   unfold macLine
   simp
   omega
  ·unfold phoLines at hs
   split at hs
   ·cases hs
   ·rename_i hne
    rw [List.mem_singleton.1 hs]
    have h1 := joinSp_lens f.pho hne
    rw [lens_bulk] at h1
    have : phonyW.length = 6 := rfl
    simp only [List.length_append, List.length_cons, List.length_nil]
    omega
  ·have := sum_mem bM hm
   have e : bM m = m.1.length + m.2.length + 3 := rfl
   unfold infLine
   simp
   omega
  ·have := sum_mem bR hr
   rw [rlText_len]
   omega
 ·have := sum_len bM (fun _ => by unfold bM; omega) f.mac; omega
 ·have := sum_len bM (fun _ => by unfold bM; omega) f.inf; omega
 ·have := sum_len bR (fun _ => by unfold bR; omega) f.rul; omega
theorem cellsF : Tryz.prog.cellsOf 27 = 4 := by kernel_rfl
theorem cellsMsF : Tryz.prog.cellsOf 23 = 1 := by kernel_rfl
theorem cellsIsF : Tryz.prog.cellsOf 24 = 1 := by kernel_rfl
theorem cellsRsF : Tryz.prog.cellsOf 25 = 1 := by kernel_rfl
theorem cellsMF : Tryz.prog.cellsOf 71 = 2 := by kernel_rfl
theorem cellsIF : Tryz.prog.cellsOf 85 = 2 := by kernel_rfl
theorem arr4F {cs : Array Value} (h : cs.size = 4) : ∃ c0 c1 c2 c3, cs = #[c0, c1, c2, c3] := by
 obtain ⟨l⟩ := cs
 match l, h with
 | [c0, c1, c2, c3], _ => exact ⟨c0, c1, c2, c3, rfl⟩
set_option maxRecDepth 100000 in
theorem open_fileM {H : Type} {enc : TypeId × Value → H} {W : World} {base : Nat} {v : Value} {d : DataW H} {ps : List MemPlace}
 (hok : Value.okWide Tryz.prog W .any base 27 v) (h : DataW.Trod enc Tryz.prog W 0 (fun _ => true) true 27 v d ps) :
 ∃ (A0 A1 A2 A3 : Option Addr) (n0 n1 n2 n3 c0 c1 c2 c3 : Nat) (f : FileT) (L : List RSlot), v = .agg #[.slice A0 n0 c0, .slice A1 n1 c1, .slice A2 n2 c2, .slice A3 n3 c3] ∧ (Rows.uptoBulk d ≤ 1048576 → FileIn A0 A1 A2 A3 n0 n1 n2 n3 c1 f L W ∧ RsAll A3 L W ∧ n2 ≤ c2) := by
 obtain ⟨cs, rfl, hsz⟩ := okWide_struct Tryz.underlying27 hok
 obtain ⟨fuel, hf⟩ := h
 rw [cellsF] at hsz
 obtain ⟨a0, a1, a2, a3, rfl⟩ := arr4F hsz
 obtain ⟨y0, y1, y2, y3, n, hx, hlen, h0, h1, h2, h3⟩ := Go.Joins.trod_struct4 Tryz.underlying27 hf
 have g0 : DataW.trod enc Tryz.prog W 0 (fun _ => true) true n 23 [a0] = some y0 := by simpa [cellsMsF, Value.cells] using h0
 have g1 : DataW.trod enc Tryz.prog W 0 (fun _ => true) true n 22 [a1] = some y1 := by simpa [cellsNsR, Value.cells] using h1
 have g2 : DataW.trod enc Tryz.prog W 0 (fun _ => true) true n 24 [a2] = some y2 := by simpa [cellsIsF, Value.cells] using h2
 have g3 : DataW.trod enc Tryz.prog W 0 (fun _ => true) true n 25 [a3] = some y3 := by simpa [cellsRsF, Value.cells] using h3
 obtain ⟨A0, M, c0, e0, r0, _, k0⟩ := trod_pairsB Tryz.underlying23 Tryz.underlying71 cellsMF rfl rfl cellsStR cellsStR Tryz.underlying9 Tryz.underlying9 g0
 obtain ⟨A1, N, c1, e1, r1, _, q1, _, k1⟩ := trod_strsB Tryz.underlying22 Tryz.underlying9 cellsStR g1
 obtain ⟨A2, I, c2, e2, r2, q2, k2⟩ := trod_pairsB Tryz.underlying24 Tryz.underlying85 cellsIF rfl rfl cellsStR cellsStR Tryz.underlying9 Tryz.underlying9 g2
 obtain ⟨A3, L, c3, e3, r3, k3⟩ := trod_rulesB Tryz.underlying25 Tryz.underlying78 cellsRl rfl rfl cellsNsR cellsNsR Tryz.underlying22 Tryz.underlying22 Tryz.underlying9 cellsStR g3
 injection e0 with e0 _
 injection e1 with e1 _
 injection e2 with e2 _
 injection e3 with e3 _
 subst e0 e1 e2 e3
 refine ⟨A0, A1, A2, A3, _, _, _, _, c0, c1, c2, c3, ⟨M, N, I, rulesOf L⟩, L, rfl, fun hb => ⟨⟨⟨r0, r1, r2, r3.two, rfl⟩, szF_of ?_, rfl, rfl, rfl, rfl, q1⟩, r3, q2⟩⟩
 injection hx with hx _
 rw [hx] at hb
 simp only [Rows.uptoBulk, Rows.uptoBulkAll] at hb
 show (M.map bM).sum + (N.map bS).sum + (I.map bM).sum + ((rulesOf L).map bR).sum ≤ 1048576
 omega
end Go.Proofs.YtoandhhkmkgmaaaGreatDoor
