/- Contract: rule.Join. A slice of rules as it lies; lists and texts below 2^63. -/
import Derived.Test.YtbgcbigplegpmaaDoorRl9
import Derived.Test.YtbgcbigplegpmaaDoorIter
namespace Go.Proofs.YtbgcbigplegpmaaDoor
open Go.RowKit

structure GAll (w : World) (bm : Nat) (M : GrpT) (ps : List (KeyT × List KeyT)) : Prop where
  inv : GInv w bm M
  says : GSays M ps
  k40 : ∀ t ∈ keysG M, t.length ≤ 40
theorem GAll.below {w w' : World} {bm : Nat} {M : GrpT} {ps : List (KeyT × List KeyT)} (h : GAll w bm M ps) (hb : Below w.heap.size w w') : GAll w' bm M ps := ⟨h.inv.below hb, h.says, h.k40⟩
theorem keysOk_of {M : GrpT} (h : ∀ t ∈ keysG M, t.length ≤ 40) : KeysOk (mapG M) := fun s hs => by
  rw [keysS_mapG] at hs
  have := h s hs
  unfold maxLen
  omega
theorem strsZero (w : World) : (zeroValue 22).run Tryd.prog w = .ok (.slice none 0 0) w := by
  have h : (Tryd.prog.info? 22).map (fun i => i.zero) = some (some (.slice none 0 0)) := by kernel_rfl
  cases hi : Tryd.prog.info? 22 with
  | none => rw [hi] at h; cases h
  | some i =>
    rw [hi] at h
    simp at h
    simp [zeroValue, typeInfo, hi, h]
theorem strKind : Tryd.prog.underlying 9 = some .string := by kernel_rfl
theorem mapKind : Tryd.prog.underlying 42 = some (.map 9 22) := by kernel_rfl
/-- What a look-up gives: nothing yet, or the slice that stands there. -/
theorem look_any {w : World} {bm : Nat} {M : GrpT} (hm : MapS w bm (mapG M)) (hk : ∀ t ∈ keysG M, t.length ≤ 40) (t : KeyT) (ht : t.length ≤ 40) :
    (t ∉ keysG M ∧ (Instr.lookup 42 (.map (some bm)) (.string ⟨t.toArray⟩) false).run Tryd.prog w = .ok (.slice none 0 0) w) ∨
    ∃ (j : Nat) (v : PartT), M[j]? = some (t, v) ∧ (Instr.lookup 42 (.map (some bm)) (.string ⟨t.toArray⟩) false).run Tryd.prog w = .ok (.slice v.1 v.2.2.length v.2.1) w := by
  rcases run_lookS strKind mapKind (strsZero w) hm (keysOk_of hk) t (by unfold maxLen; omega) false with ⟨h1, h2⟩ | ⟨j, v, h1, h2⟩
  · rw [keysS_mapG] at h1
    exact .inl ⟨h1, h2⟩
  · unfold mapG at h1
    rw [List.getElem?_map] at h1
    obtain ⟨x, hx, he⟩ := Option.map_eq_some_iff.1 h1
    injection he with h3 h4
    refine .inr ⟨j, x.2, by rw [hx, ← h3], ?_⟩
    rw [← h4] at h2
    exact h2
/-- What a store makes of the map. -/
theorem store_any {w : World} {bm : Nat} {M : GrpT} {ps : List (KeyT × List KeyT)} {t : KeyT} {v : PartT} {zs0 ns : List KeyT} (h : GHold w bm M t v) (hs : GSays M ps) (hk : ∀ t ∈ keysG M, t.length ≤ 40) (ht : t.length ≤ 40) (hv : v.2.2 = addAll zs0 ns)
    (hw : (t ∉ keysG M ∧ zs0 = []) ∨ ∃ (j : Nat) (v0 : PartT), M[j]? = some (t, v0) ∧ zs0 = v0.2.2) :
    ∃ o M', (Instr.mapUpdate 42 (.map (some bm)) (.string ⟨t.toArray⟩) (.slice v.1 v.2.2.length v.2.1)).run Tryd.prog w = .ok () (Go.ChangeMaps.setBlock w bm o) ∧ GAll (Go.ChangeMaps.setBlock w bm o) bm M' (ps ++ [(t, ns)]) ∧ M'.length ≤ M.length + 1 := by
  rcases hw with ⟨hno, rfl⟩ | ⟨j, v0, hj, rfl⟩
  · refine ⟨_, M ++ [(t, v)], ?_, ⟨h.putNew hno, hs.putNew hno hv, fun s hs' => ?_⟩, by simp⟩
    · have hr := run_newS strKind mapKind h.mp (keysOk_of hk) t (partV v) (by unfold maxLen; omega) (by rw [keysS_mapG]; exact hno)
      rw [show mapG M ++ [(t, partV v)] = mapG (M ++ [(t, v)]) by unfold mapG; simp] at hr
      exact hr
    · unfold keysG at hs'
      rw [List.map_append] at hs'
      rcases List.mem_append.1 hs' with hs' | hs'
      · exact hk s hs'
      · rw [List.mem_singleton.1 hs']; exact ht
  · refine ⟨_, M.set j (t, v), ?_, ⟨h.putOld hj, hs.putOld h.nd hj hv, fun s hs' => ?_⟩, by rw [List.length_set]; omega⟩
    · have hr := run_oldS strKind mapKind h.mp (keysOk_of hk) (by rw [keysS_mapG]; exact h.nd) (mapG_at hj) (partV v)
      rw [show (mapG M).set j (t, partV v) = mapG (M.set j (t, v)) by unfold mapG; rw [List.map_set]] at hr
      exact hr
    · obtain ⟨p, hp, e⟩ := ((hs.putOld h.nd hj hv).keys s).1 hs'
      rcases List.mem_append.1 hp with hp | hp
      · exact hk s ((hs.keys s).2 ⟨p, hp, e⟩)
      · rw [List.mem_singleton.1 hp] at e
        rw [← e]; exact ht
theorem own_ne_blk {w : World} {B CB : Nat} {v : PartT} {vs : List Value} (h : ownG w B v) (hb : Blk w CB 24 vs) : (partV v).ownBlock ≠ some CB := fun e => by
  unfold ownG at h
  rcases h.2 with ⟨hv, _⟩ | ⟨g, cap, cur, hv, _, hg, _⟩
  · rw [hv] at e; cases e
  · rw [hv] at e
    simp [Value.ownBlock] at e
    subst e
    unfold Blk at hb
    rw [hb] at hg
    injection hg with hg
    injection hg with _ hg _
    exact absurd hg (by decide)
theorem Blk.grown {w w' : World} {CB : Nat} {t : TypeId} {vs : List Value} {o : Obj} {row : Option Nat} (h : Blk w CB t vs) (hg : (w.alloc o).grownBy w' row) (hn : row ≠ some CB) : Blk w' CB t vs := by
  unfold Blk at *
  rw [hg.block CB (by have := lt_of_blockG h; simp; omega) (fun e => hn e.symm), Below.heap_alloc _ _ _ (lt_of_blockG h)]
  exact h
theorem Blk.setB {w : World} {CB bm : Nat} {t : TypeId} {vs : List Value} (h : Blk w CB t vs) (hn : CB ≠ bm) (o : Obj) : Blk (Go.ChangeMaps.setBlock w bm o) CB t vs := by
  unfold Blk at *
  rw [setB_other _ _ hn]
  exact h
theorem pairs_take {l : List RuleT} {i : Nat} {r : RuleT} (h : l[i]? = some r) : pairsR (l.take (i + 1)) = pairsR (l.take i) ++ r.1.map fun t => (t, r.2) := by
  unfold pairsR
  rw [take_snocS h, List.flatMap_append]
  simp
theorem needsP_len {ps : List (KeyT × List KeyT)} (h : ∀ p ∈ ps, p.2.length ≤ 20) (t : KeyT) : (needsP ps t).length ≤ 20 * ps.length := by
  unfold needsP
  have key : ∀ (ps : List (KeyT × List KeyT)) (o : List KeyT), (∀ p ∈ ps, p.2.length ≤ 20) → (ps.foldl (stepP t) o).length ≤ o.length + 20 * ps.length := by
    intro ps
    induction ps with
    | nil => intro o _; simp
    | cons p ps ih =>
      intro o hp
      rw [List.foldl_cons]
      have h1 := ih (stepP t o p) (fun q hq => hp q (List.mem_cons_of_mem _ hq))
      have h2 : (stepP t o p).length ≤ o.length + 20 := by
        unfold stepP
        split
        · have := addAll_len p.2 o; have := hp p (List.mem_cons_self ..); omega
        · omega
      rw [List.length_cons]
      omega
  have := key ps [] h
  simpa using this
theorem pairs_len {l : List RuleT} (h : ∀ r ∈ l, rlE r = 0) : ∀ i, (pairsR (l.take i)).length ≤ 20 * i
  | 0 => by simp [pairsR]
  | i + 1 => by
    have ih := pairs_len h i
    by_cases hi : i < l.length
    · have hr := (rlE_ok (h _ (List.getElem_mem hi))).1
      rw [pairs_take (List.getElem?_eq_getElem hi), List.length_append, List.length_map]
      omega
    · rw [List.take_of_length_le (by omega)] at ih ⊢
      omega
theorem pairs_each {l : List RuleT} (h : ∀ r ∈ l, rlE r = 0) : ∀ p ∈ pairsR l, p.2.length ≤ 20 := fun p hp => by
  unfold pairsR at hp
  obtain ⟨r, hr, hp⟩ := List.mem_flatMap.1 hp
  obtain ⟨t, _, rfl⟩ := List.mem_map.1 hp
  exact (rlE_ok (h r hr)).2.1
theorem map_new (w : World) : MapS (w.alloc (.map #[] 0)) w.heap.size (mapG []) := by
  unfold MapS
  rw [heap_alloc_new]
  rfl
end Go.Proofs.YtbgcbigplegpmaaDoor
