/- Maps whose keys are texts, as lists in the order of laying: look-up, store, what the library's iterator of keys needs. Keys below 2^63 bytes. -/
import Derived.Test.YtoandhhkmkgmaaaBase
import Derived.Laws.IdiomMaps
import Derived.Laws.IdiomRangeMap
import Derived.StringKeys
import Derived.Maps.Keyed
import Derived.Maps.Own
import Derived.Sort.KeysCollected
namespace Go.Proofs.Ytoandhhkmkgmaaa
open Go.RowKit Go.ChangeMaps Go.WideMaps

abbrev SMapT := List (List UInt8 × Value)
def kvS (k : List UInt8) : Value := .string ⟨k.toArray⟩
theorem kvS_inj {a b : List UInt8} (h : kvS a = kvS b) : a = b := by
  unfold kvS at h
  injection h with h
  injection h with h
  simpa using congrArg Array.toList h
def keysS (M : SMapT) : List (List UInt8) := M.map (·.1)
theorem keysS_at {M : SMapT} {j : Nat} {s : List UInt8} {v : Value} (h : M[j]? = some (s, v)) : s ∈ keysS M := List.mem_map.2 ⟨(s, v), List.mem_of_getElem? h, rfl⟩
theorem keyS_at {M : SMapT} {s : List UInt8} (h : s ∈ keysS M) : ∃ (j : Nat) (v : Value), M[j]? = some (s, v) := by
  obtain ⟨⟨a, v⟩, h1, rfl⟩ := List.mem_map.1 h
  obtain ⟨j, hj⟩ := List.mem_iff_getElem?.1 h1
  exact ⟨j, v, hj⟩
def entS (M : SMapT) : Array MapEntry := (M.zipIdx.map fun e => (⟨kvS e.1.1, e.1.2, e.2⟩ : MapEntry)).toArray
theorem entS_len (M : SMapT) : (entS M).size = M.length := by simp [entS]
theorem entS_at {M : SMapT} {j : Nat} {e : MapEntry} (h : (entS M).toList[j]? = some e) : ∃ s v, M[j]? = some (s, v) ∧ e = ⟨kvS s, v, j⟩ := by
  unfold entS at h
  rw [List.getElem?_map, List.getElem?_zipIdx] at h
  simp only [Option.map_map, Option.map_eq_some_iff] at h
  obtain ⟨⟨s, t⟩, h1, h2⟩ := h
  refine ⟨s, t, h1, ?_⟩
  rw [← h2]
  simp
theorem entS_get {M : SMapT} {j : Nat} {s : List UInt8} {v : Value} (h : M[j]? = some (s, v)) : (entS M).toList[j]? = some ⟨kvS s, v, j⟩ := by
  unfold entS
  rw [List.getElem?_map, List.getElem?_zipIdx, h]
  simp
theorem entS_mem {M : SMapT} {e : MapEntry} (h : e ∈ (entS M).toList) : ∃ j s v, M[j]? = some (s, v) ∧ e = ⟨kvS s, v, j⟩ := by
  obtain ⟨j, hj⟩ := List.mem_iff_getElem?.1 h
  obtain ⟨s, t, h1, h2⟩ := entS_at hj
  exact ⟨j, s, t, h1, h2⟩
theorem entS_snoc (M : SMapT) (s : List UInt8) (v : Value) : entS (M ++ [(s, v)]) = (entS M).push ⟨kvS s, v, M.length⟩ := by
  apply Array.ext'
  unfold entS
  rw [List.zipIdx_append, List.map_append]
  simp
theorem entS_set {M : SMapT} {j : Nat} {s : List UInt8} {v0 : Value} (h : M[j]? = some (s, v0)) (v : Value) : entS (M.set j (s, v)) = (entS M).modify j (fun e' => { e' with key := kvS s, val := v }) := by
  apply Array.ext'
  rw [Array.toList_modify]
  apply List.ext_getElem?
  intro i
  rw [List.getElem?_modify]
  have hj := (List.getElem?_eq_some_iff.1 h).1
  by_cases hi : j = i
  · subst hi
    rw [entS_get (s := s) (v := v) (by rw [List.getElem?_set_self hj]), entS_get h]
    simp
  · by_cases hl : i < M.length
    · obtain ⟨⟨a, b⟩, hx⟩ : ∃ x, M[i]? = some x := ⟨_, List.getElem?_eq_getElem hl⟩
      rw [entS_get (s := a) (v := b) (by rw [List.getElem?_set_ne hi]; exact hx), entS_get hx]
      simp [hi]
    · rw [List.getElem?_eq_none (by rw [Array.length_toList, entS_len, List.length_set]; omega), List.getElem?_eq_none (by rw [Array.length_toList, entS_len]; omega)]
      simp
def MapS (w : World) (bm : Nat) (M : SMapT) : Prop := w.heap[bm]? = some (.map (entS M) M.length)
theorem MapS.same {w w' : World} {bm : Nat} {M : SMapT} (h : MapS w bm M) (hs : w'.heap[bm]? = w.heap[bm]?) : MapS w' bm M := by
  unfold MapS
  rw [hs]
  exact h
theorem MapS.lt {w : World} {bm : Nat} {M : SMapT} (h : MapS w bm M) : bm < w.heap.size := (Array.getElem?_eq_some_iff.1 h).1
theorem MapS.below {B : Nat} {w w' : World} {bm : Nat} {M : SMapT} (h : MapS w bm M) (hb : Below B w w') (hB : bm < B) : MapS w' bm M := h.same (hb.block bm hB)
def KeysOk (M : SMapT) : Prop := ∀ s ∈ keysS M, s.length ≤ maxLen
section
variable {P : Program} {t k e : TypeId} (hk : P.underlying k = some .string)
include hk
theorem kvS_key {s : List UInt8} (hs : s.length ≤ maxLen) : keyOf P k (kvS s) = some (.string s) := by
  have h := keyOf_string_mk hk (s := ⟨s.toArray⟩) hs
  simpa [kvS] using h
theorem mapS_find {w : World} {M : SMapT} (hM : KeysOk M) (s : List UInt8) (hs : s.length ≤ maxLen) :
    ((Instr.findKey k (kvS s) (entS M).toList).run P w = .ok none w ∧ s ∉ keysS M) ∨
    ∃ (j : Nat) (v : Value), (Instr.findKey k (kvS s) (entS M).toList).run P w = .ok (some (j, v)) w ∧ M[j]? = some (s, v) := by
  rcases (string_law hk).find w (kvS_key hk hs) (entS M).toList (fun x hx => by
    obtain ⟨j, s', t', h1, rfl⟩ := entS_mem hx
    exact ⟨_, kvS_key hk (hM s' (keysS_at h1))⟩) with ⟨h1, h2⟩ | ⟨j, x, h1, h2, h3⟩
  · refine .inl ⟨h1, fun hc => ?_⟩
    obtain ⟨i, v, hi⟩ := keyS_at hc
    exact h2 _ (List.mem_of_getElem? (entS_get hi)) rfl
  · obtain ⟨s', v', g1, rfl⟩ := entS_at h2
    have := kvS_inj h3
    subst this
    exact .inr ⟨j, v', h1, g1⟩
theorem run_lookS (ht : P.underlying t = some (.map k e)) {w : World} {z : Value} (hz : (zeroValue e).run P w = .ok z w) {bm : Nat} {M : SMapT} (hb : MapS w bm M) (hM : KeysOk M) (s : List UInt8) (hs : s.length ≤ maxLen) (c : Bool) :
    (s ∉ keysS M ∧ (Instr.lookup t (.map (some bm)) (kvS s) c).run P w = .ok (if c then .tuple #[z, .bool false] else z) w) ∨
    ∃ (j : Nat) (v : Value), M[j]? = some (s, v) ∧ (Instr.lookup t (.map (some bm)) (kvS s) c).run P w = .ok (if c then .tuple #[v, .bool true] else v) w := by
  have hl := kvS_key (P := P) hk hs
  rcases mapS_find (w := w) hk hM s hs with ⟨h1, h2⟩ | ⟨j, v, h1, h2⟩
  · refine .inl ⟨h2, ?_⟩
    simp [Instr.lookup, run_underlying ht, MapKept.run_getObj_map hb, (string_law hk).check w _ hl, h1, hz, Result.andThen]
  · refine .inr ⟨j, v, h2, ?_⟩
    simp [Instr.lookup, run_underlying ht, MapKept.run_getObj_map hb, (string_law hk).check w _ hl, h1, Result.andThen]
theorem run_newS (ht : P.underlying t = some (.map k e)) {w : World} {bm : Nat} {M : SMapT} (hb : MapS w bm M) (hM : KeysOk M) (s : List UInt8) (v : Value) (hs : s.length ≤ maxLen) (hn : s ∉ keysS M) :
    (Instr.mapUpdate t (.map (some bm)) (kvS s) v).run P w = .ok () (setBlock w bm (.map (entS (M ++ [(s, v)])) (M ++ [(s, v)]).length)) := by
  have hl := kvS_key (P := P) hk hs
  rcases mapS_find (w := w) hk hM s hs with ⟨h1, _⟩ | ⟨j, t', _, h2⟩
  · rw [entS_snoc]
    simp [Instr.mapUpdate, run_underlying ht, MapKept.run_getObj_map hb, (string_law hk).check w false hl, h1, MapKept.run_setObj_map _ hb, Result.andThen, setBlock]
  · exact absurd (keysS_at h2) hn
theorem run_oldS (ht : P.underlying t = some (.map k e)) {w : World} {bm : Nat} {M : SMapT} (hb : MapS w bm M) (hM : KeysOk M) (hd : (keysS M).Nodup) {j : Nat} {s : List UInt8} {v0 : Value} (hj : M[j]? = some (s, v0)) (v : Value) :
    (Instr.mapUpdate t (.map (some bm)) (kvS s) v).run P w = .ok () (setBlock w bm (.map (entS (M.set j (s, v))) (M.set j (s, v)).length)) := by
  have hs := hM s (keysS_at hj)
  have hl := kvS_key (P := P) hk hs
  rcases mapS_find (w := w) hk hM s hs with ⟨_, h2⟩ | ⟨i, t', h1, h2⟩
  · exact absurd (keysS_at hj) h2
  · have hij : i = j := by
      have e1 : (keysS M)[i]? = some s := by unfold keysS; rw [List.getElem?_map, h2]; rfl
      have e2 : (keysS M)[j]? = some s := by unfold keysS; rw [List.getElem?_map, hj]; rfl
      have l1 := (List.getElem?_eq_some_iff.1 e1).1
      exact (List.getElem?_inj l1 hd).1 (e1.trans e2.symm)
    subst hij
    have hes : (entS M)[i]? = some ⟨kvS s, t', i⟩ := by rw [← Array.getElem?_toList]; exact entS_get h2
    rw [entS_set h2, List.length_set]
    simp [Instr.mapUpdate, run_underlying ht, MapKept.run_getObj_map hb, (string_law hk).check w false hl, h1, hes, (string_law hk).stays w hl, MapKept.run_setObj_map _ hb, Result.andThen, setBlock]
end
theorem setB_same (w : World) (b : Nat) (o : Obj) (h : b < w.heap.size) : (setBlock w b o).heap[b]? = some o := by unfold setBlock; simp [h]
theorem setB_other (w : World) {b k : Nat} (o : Obj) (h : k ≠ b) : (setBlock w b o).heap[k]? = w.heap[k]? := by
  unfold setBlock
  have h' : ¬ b = k := fun e => h e.symm
  simp [h']
theorem setB_size (w : World) (b : Nat) (o : Obj) : (setBlock w b o).heap.size = w.heap.size := by unfold setBlock; simp
theorem mapS_put {w : World} {bm : Nat} {M : SMapT} (hb : MapS w bm M) (M' : SMapT) : MapS (setBlock w bm (.map (entS M') M'.length)) bm M' := setB_same w bm _ hb.lt
theorem below_setB {B : Nat} {w w' : World} (h : Below B w w') {r : Nat} (hr : B ≤ r) (o : Obj) : Below B w (setBlock w' r o) := by
  refine ⟨h.os, h.tape, h.output, by rw [setB_size]; exact h.size, fun k hk => ?_⟩
  rw [setB_other _ _ (by omega)]
  exact h.block k hk
/-! ### The library's iterator of keys: what it asks of a map -/
/-- Each element reads as nothing at all. -/
def noR (_ : Value) : Option (DataW Unit × List MemPlace) := some (.nil, [])
theorem entS_born (M : SMapT) : (entS M).toList.map (·.born) = List.range M.length := by
  apply List.ext_getElem?
  intro i
  rw [List.getElem?_map]
  by_cases h : i < M.length
  · obtain ⟨⟨a, b⟩, hx⟩ : ∃ x, M[i]? = some x := ⟨_, List.getElem?_eq_getElem h⟩
    rw [entS_get hx, List.getElem?_range h]
    rfl
  · rw [List.getElem?_eq_none (by rw [Array.length_toList, entS_len]; omega), List.getElem?_eq_none (by simp; omega)]
    rfl
theorem entS_keys (M : SMapT) : (entS M).toList.map (·.key) = (keysS M).map kvS := by
  apply List.ext_getElem?
  intro i
  unfold keysS
  rw [List.getElem?_map, List.getElem?_map, List.getElem?_map]
  by_cases h : i < M.length
  · obtain ⟨⟨a, b⟩, hx⟩ : ∃ x, M[i]? = some x := ⟨_, List.getElem?_eq_getElem h⟩
    rw [entS_get hx, hx]
    rfl
  · rw [List.getElem?_eq_none (by rw [Array.length_toList, entS_len]; omega), List.getElem?_eq_none (by omega)]
    rfl
open Go.WideElems Go.Maps Go.Sort Go.WideShapes Go.MapKept in
theorem mapS_owns {P : Program} {k : TypeId} (hk : P.underlying k = some .string) {w : World} {bm : Nat} {M : SMapT} (hb : MapS w bm M) (hM : KeysOk M) (hd : (keysS M).Nodup) (hl : M.length ≤ maxLen) :
    ∃ D : DataW Unit, w.ownsMap P k noR bm M.length D ∧ (strKeys D).Perm (keysS M) ∧ Maps.size D = M.length := by
  have hrd : ∀ x ∈ (entS M).toList, ∃ s, x.key = kvS s ∧ s ∈ keysS M ∧ rd P k noR x = some (.string s, .nil) := fun x hx => by
    obtain ⟨j, s, v, h1, rfl⟩ := entS_mem hx
    exact ⟨s, rfl, keysS_at h1, rd_mk (yv := (.nil, [])) (kvS_key hk (hM s (keysS_at h1))) rfl⟩
  refine ⟨.map (((entS M).toList.map (rg P k noR)).foldr DataW.insert []), ⟨entS M, M.length, hb, ⟨by rw [entS_len]; exact hl, ⟨fun x hx => ?_, ?_, ?_⟩, fun x hx => ?_⟩, by rw [entS_len]; exact Nat.le_refl _, rfl⟩, ?_, ?_⟩
  · obtain ⟨j, s, v, h1, rfl⟩ := entS_mem hx
    exact (List.getElem?_eq_some_iff.1 h1).1
  · rw [entS_born]; exact List.nodup_range
  · rw [entS_keys]
    exact List.Pairwise.map kvS (fun a b hab e => hab (kvS_inj e)) hd
  · obtain ⟨s, _, _, h⟩ := hrd x hx
    exact ⟨_, h⟩
  · show List.Perm (List.map (fun p : Lit × DataW Unit => strOf p.1) _) _
    refine ((sorted_perm _).map _).trans ?_
    rw [List.map_map]
    have e : (entS M).toList.map ((fun p : Lit × DataW Unit => strOf p.1) ∘ rg P k noR) = keysS M := by
      have e2 : (entS M).toList.map ((fun p : Lit × DataW Unit => strOf p.1) ∘ rg P k noR) = (entS M).toList.map (fun x => strOf (.string ((match x.key with | .string b => b.data.toList | _ => [])))) := by
        apply List.map_congr_left
        intro x hx
        obtain ⟨s, h1, _, h2⟩ := hrd x hx
        show strOf (rg P k noR x).1 = _
        rw [rg_of h2, h1]
        rfl
      rw [e2]
      have e3 : (entS M).toList.map (fun x => strOf (.string ((match x.key with | .string b => b.data.toList | _ => [])))) = ((entS M).toList.map (·.key)).map (fun v => match v with | .string b => b.data.toList | _ => []) := by rw [List.map_map]; rfl
      rw [e3, entS_keys, List.map_map]
      exact List.map_id _
    rw [e]
  · show List.length _ = _
    rw [(sorted_perm _).length_eq, List.length_map, Array.length_toList, entS_len]
end Go.Proofs.Ytoandhhkmkgmaaa
