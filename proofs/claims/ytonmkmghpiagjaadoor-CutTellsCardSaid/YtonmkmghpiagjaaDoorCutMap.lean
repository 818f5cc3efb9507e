/- The map of spots that a search makes: a look-up, a new key. Numbers below 64. -/
import Derived.Test.YtonmkmghpiagjaaDoorCutPlain3
import Derived.Test.YtonmkmghpiagjaaDoorOwn
import Derived.Laws.IdiomMaps
import Derived.Laws.IdiomRangeMap
import Derived.DeepKeys4
namespace Go.Proofs.YtonmkmghpiagjaaDoor
open Go.RowKit Go.ChangeMaps

def sv (s : Spt) : Value := .agg #[.int .i64 (s.1 : Int), .bool s.2]
theorem sv_inj {s t : Spt} (h : sv s = sv t) : s = t := by
  obtain ⟨a, b⟩ := s
  obtain ⟨c, d⟩ := t
  simp [sv] at h
  obtain ⟨h1, h2⟩ := h
  have h3 : a = c := by omega
  rw [h3, h2]
theorem spotLaw : WideMaps.KeyLaw Tryd.prog 104 := deep_law_laid (by kernel_rfl : laidOutB Tryd.prog = true) (m := 3) (by decide) (of_decide_eq_true (by kernel_rfl)) (by kernel_rfl) (by kernel_rfl)
theorem spotKeys : ∀ n : Fin 64, ∀ o : Bool, (keyOf Tryd.prog 104 (.agg #[.int .i64 (n.val : Int), .bool o])).isSome = true := by decide +kernel
theorem spotKey (s : Spt) (h : s.1 < 64) : ∃ l, keyOf Tryd.prog 104 (sv s) = some l := Option.isSome_iff_exists.1 (spotKeys ⟨s.1, h⟩ s.2)
def entM (M : List (Spt × Spt)) : Array MapEntry := (M.zipIdx.map fun e => (⟨sv e.1.1, sv e.1.2, e.2⟩ : MapEntry)).toArray
theorem entM_len (M : List (Spt × Spt)) : (entM M).size = M.length := by simp [entM]
theorem entM_at {M : List (Spt × Spt)} {j : Nat} {e : MapEntry} (h : (entM M).toList[j]? = some e) : ∃ s t, M[j]? = some (s, t) ∧ e = ⟨sv s, sv t, j⟩ := by
  unfold entM at h
  rw [List.getElem?_map, List.getElem?_zipIdx] at h
  simp only [Option.map_map, Option.map_eq_some_iff] at h
  obtain ⟨⟨s, t⟩, h1, h2⟩ := h
  refine ⟨s, t, h1, ?_⟩
  rw [← h2]
  simp
theorem entM_get {M : List (Spt × Spt)} {j : Nat} {s t : Spt} (h : M[j]? = some (s, t)) : (entM M).toList[j]? = some ⟨sv s, sv t, j⟩ := by
  unfold entM
  rw [List.getElem?_map, List.getElem?_zipIdx, h]
  simp
theorem entM_mem {M : List (Spt × Spt)} {e : MapEntry} (h : e ∈ (entM M).toList) : ∃ j s t, M[j]? = some (s, t) ∧ e = ⟨sv s, sv t, j⟩ := by
  obtain ⟨j, hj⟩ := List.mem_iff_getElem?.1 h
  obtain ⟨s, t, h1, h2⟩ := entM_at hj
  exact ⟨j, s, t, h1, h2⟩
theorem entM_snoc (M : List (Spt × Spt)) (s t : Spt) : entM (M ++ [(s, t)]) = (entM M).push ⟨sv s, sv t, M.length⟩ := by
  apply Array.ext'
  unfold entM
  rw [List.zipIdx_append, List.map_append]
  simp
def MapB (w : World) (bm : Nat) (M : List (Spt × Spt)) : Prop := w.heap[bm]? = some (.map (entM M) M.length)
theorem MapB.same {w w' : World} {bm : Nat} {M : List (Spt × Spt)} (h : MapB w bm M) (hs : w'.heap[bm]? = w.heap[bm]?) : MapB w' bm M := by
  unfold MapB
  rw [hs]
  exact h
theorem mapB_find {w : World} {M : List (Spt × Spt)} (hk : ∀ s ∈ keysM M, s.1 < 64) (s : Spt) (hs : s.1 < 64) :
    ((Instr.findKey 104 (sv s) (entM M).toList).run Tryd.prog w = .ok none w ∧ s ∉ keysM M) ∨
    ∃ (j : Nat) (t : Spt), (Instr.findKey 104 (sv s) (entM M).toList).run Tryd.prog w = .ok (some (j, sv t)) w ∧ M[j]? = some (s, t) := by
  obtain ⟨l, hl⟩ := spotKey s hs
  rcases spotLaw.find w hl (entM M).toList (fun e he => by
    obtain ⟨j, s', t', h1, rfl⟩ := entM_mem he
    exact spotKey s' (hk s' (keysM_at h1))) with ⟨h1, h2⟩ | ⟨j, e, h1, h2, h3⟩
  · refine .inl ⟨h1, fun hc => ?_⟩
    obtain ⟨i, t, hi⟩ := key_at hc
    exact h2 _ (List.mem_of_getElem? (entM_get hi)) rfl
  · obtain ⟨s', t', g1, rfl⟩ := entM_at h2
    have := sv_inj h3
    subst this
    exact .inr ⟨j, t', h1, g1⟩
theorem spotInfo : ∃ i, Tryd.prog.info? 104 = some i ∧ i.zero = some (.agg #[.int .i64 0, .bool false]) ∧ i.size = 2 ∧ i.bytes = 16 := by
  have h : (Tryd.prog.info? 104).map (fun i => (i.zero, i.size, i.bytes)) = some (some (.agg #[.int .i64 0, .bool false]), 2, 16) := by kernel_rfl
  cases hi : Tryd.prog.info? 104 with
  | none => rw [hi] at h; cases h
  | some i =>
    rw [hi] at h
    simp at h
    exact ⟨i, rfl, h⟩
theorem spotZero (w : World) : (zeroValue 104).run Tryd.prog w = .ok (sv (0, false)) w := by
  obtain ⟨i, hi, hz⟩ := spotInfo
  simp [zeroValue, typeInfo, hi, hz.1, sv]
theorem run_look {w : World} {bm : Nat} {M : List (Spt × Spt)} (hb : MapB w bm M) (hk : ∀ s ∈ keysM M, s.1 < 64) (s : Spt) (hs : s.1 < 64) (c : Bool) :
    (s ∉ keysM M ∧ (Instr.lookup 101 (.map (some bm)) (sv s) c).run Tryd.prog w = .ok (if c then .tuple #[sv (0, false), .bool false] else sv (0, false)) w) ∨
    ∃ (j : Nat) (t : Spt), M[j]? = some (s, t) ∧ (Instr.lookup 101 (.map (some bm)) (sv s) c).run Tryd.prog w = .ok (if c then .tuple #[sv t, .bool true] else sv t) w := by
  obtain ⟨l, hl⟩ := spotKey s hs
  have ht : Tryd.prog.underlying 101 = some (.map 104 104) := by kernel_rfl
  rcases mapB_find (w := w) hk s hs with ⟨h1, h2⟩ | ⟨j, t, h1, h2⟩
  · refine .inl ⟨h2, ?_⟩
    simp [Instr.lookup, run_underlying ht, MapKept.run_getObj_map hb, spotLaw.check w _ hl, h1, spotZero w, Result.andThen]
  · refine .inr ⟨j, t, h2, ?_⟩
    simp [Instr.lookup, run_underlying ht, MapKept.run_getObj_map hb, spotLaw.check w _ hl, h1, Result.andThen]
theorem run_new {w : World} {bm : Nat} {M : List (Spt × Spt)} (hb : MapB w bm M) (hk : ∀ s ∈ keysM M, s.1 < 64) (s t : Spt) (hs : s.1 < 64) (hn : s ∉ keysM M) :
    (Instr.mapUpdate 101 (.map (some bm)) (sv s) (sv t)).run Tryd.prog w = .ok () (setBlock w bm (.map (entM (M ++ [(s, t)])) (M ++ [(s, t)]).length)) := by
  obtain ⟨l, hl⟩ := spotKey s hs
  have ht : Tryd.prog.underlying 101 = some (.map 104 104) := by kernel_rfl
  rcases mapB_find (w := w) hk s hs with ⟨h1, _⟩ | ⟨j, t', _, h2⟩
  · rw [entM_snoc]
    simp [Instr.mapUpdate, run_underlying ht, MapKept.run_getObj_map hb, spotLaw.check w false hl, h1, MapKept.run_setObj_map _ hb, Result.andThen, setBlock]
  · exact absurd (keysM_at h2) hn
theorem setBlock_same (w : World) (b : Nat) (o : Obj) (h : b < w.heap.size) : (setBlock w b o).heap[b]? = some o := by
  unfold setBlock
  simp [h]
theorem setBlock_other (w : World) {b k : Nat} (o : Obj) (h : k ≠ b) : (setBlock w b o).heap[k]? = w.heap[k]? := by
  unfold setBlock
  have h' : ¬ b = k := fun e => h e.symm
  simp [h']
theorem setBlock_size (w : World) (b : Nat) (o : Obj) : (setBlock w b o).heap.size = w.heap.size := by
  unfold setBlock
  simp
theorem mapB_new {w : World} {bm : Nat} {M : List (Spt × Spt)} (hb : MapB w bm M) (M' : List (Spt × Spt)) : MapB (setBlock w bm (.map (entM M') M'.length)) bm M' :=
  setBlock_same w bm _ (Array.getElem?_eq_some_iff.1 hb).1
end Go.Proofs.YtonmkmghpiagjaaDoor
