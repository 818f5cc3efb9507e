/- Rules joined, in plain Lean: needs of a target, one rule for each target; a map of slices of texts, each in a row of its own. No condition. -/
import Derived.Test.YtoandhhkmkgmaaaMg11
import Derived.Test.YtoandhhkmkgmaaaSMap
import Derived.Test.YtoandhhkmkgmaaaOwnAt
namespace Go.Proofs.Ytoandhhkmkgmaaa
open Go.RowKit

abbrev KeyT := List UInt8
def addU (o : List KeyT) (n : KeyT) : List KeyT := if n ∈ o then o else o ++ [n]
def addAll (o ns : List KeyT) : List KeyT := ns.foldl addU o
def stepP (t : KeyT) (o : List KeyT) (p : KeyT × List KeyT) : List KeyT := if p.1 = t then addAll o p.2 else o
def needsP (ps : List (KeyT × List KeyT)) (t : KeyT) : List KeyT := ps.foldl (stepP t) []
def needsR (l : List RuleT) (t : KeyT) : List KeyT := l.foldl (fun o r => if t ∈ r.1 then addAll o r.2 else o) []
def pairsR (l : List RuleT) : List (KeyT × List KeyT) := l.flatMap fun r => r.1.map fun t => (t, r.2)
theorem needsP_snoc (ps : List (KeyT × List KeyT)) (t : KeyT) (ns : List KeyT) (t' : KeyT) : needsP (ps ++ [(t, ns)]) t' = if t = t' then addAll (needsP ps t') ns else needsP ps t' := by
  unfold needsP
  rw [List.foldl_append]
  rfl
theorem needsP_none {ps : List (KeyT × List KeyT)} {t : KeyT} (h : ∀ p ∈ ps, p.1 ≠ t) : needsP ps t = [] := by
  unfold needsP
  have key : ∀ (ps : List (KeyT × List KeyT)) (o : List KeyT), (∀ p ∈ ps, p.1 ≠ t) → ps.foldl (stepP t) o = o := by
    intro ps
    induction ps with
    | nil => intro o _; rfl
    | cons p ps ih =>
      intro o h
      rw [List.foldl_cons, show stepP t o p = o by unfold stepP; rw [if_neg (h p (List.mem_cons_self ..))]]
      exact ih o (fun q hq => h q (List.mem_cons_of_mem _ hq))
  exact key ps [] h
theorem step_row (t : KeyT) (ns : List KeyT) : ∀ (ts : List KeyT) (o : List KeyT), ts.Nodup → (ts.map fun x => (x, ns)).foldl (stepP t) o = if t ∈ ts then addAll o ns else o
  | [], o, _ => by simp
  | x :: ts, o, h => by
    rw [List.map_cons, List.foldl_cons]
    obtain ⟨h1, h2⟩ := List.nodup_cons.1 h
    by_cases hx : x = t
    · subst hx
      rw [show stepP x o (x, ns) = addAll o ns by unfold stepP; rw [if_pos rfl], step_row x ns ts _ h2, if_neg h1, if_pos (List.mem_cons_self ..)]
    · rw [show stepP t o (x, ns) = o by unfold stepP; rw [if_neg hx], step_row t ns ts o h2]
      have : (t ∈ x :: ts) ↔ t ∈ ts := by rw [List.mem_cons]; exact ⟨fun e => e.resolve_left (fun e => hx e.symm), .inr⟩
      simp only [this]
theorem needs_eq {l : List RuleT} (h : ∀ r ∈ l, r.1.Nodup) (t : KeyT) : needsP (pairsR l) t = needsR l t := by
  have key : ∀ (l : List RuleT) (o : List KeyT), (∀ r ∈ l, r.1.Nodup) → (pairsR l).foldl (stepP t) o = l.foldl (fun o r => if t ∈ r.1 then addAll o r.2 else o) o := by
    intro l
    induction l with
    | nil => intro o _; rfl
    | cons r l ih =>
      intro o h
      show ((r.1.map fun x => (x, r.2)) ++ pairsR l).foldl (stepP t) o = _
      rw [List.foldl_append, step_row t r.2 r.1 o (h r (List.mem_cons_self ..)), ih _ (fun q hq => h q (List.mem_cons_of_mem _ hq)), List.foldl_cons]
  exact key l [] h
def firstE (l : List RuleT) : Nat := ((l.map rlE).find? (· != 0)).getD 0
theorem firstE_no {l : List RuleT} (h : ∀ r ∈ l, rlE r = 0) : firstE l = 0 := by
  unfold firstE
  rw [List.find?_eq_none.2]
  · rfl
  · intro x hx
    obtain ⟨r, hr, rfl⟩ := List.mem_map.1 hx
    simp [h r hr]
theorem firstE_at {l : List RuleT} {i : Nat} {r : RuleT} (hi : l[i]? = some r) (h : ∀ q ∈ l.take i, rlE q = 0) (he : rlE r ≠ 0) : firstE l = rlE r := by
  unfold firstE
  have hs : l = l.take i ++ r :: l.drop (i + 1) := by
    obtain ⟨hlt, hx⟩ := List.getElem?_eq_some_iff.1 hi
    rw [← hx, ← List.drop_eq_getElem_cons hlt, List.take_append_drop]
  rw [hs, List.map_append, List.find?_append, List.find?_eq_none.2 (by
    intro x hx
    obtain ⟨q, hq, rfl⟩ := List.mem_map.1 hx
    simp [h q hq])]
  simp [he]
def tgtsR (l : List RuleT) : List KeyT := rising (l.flatMap (·.1))
def wideB (l : List RuleT) : Bool := (tgtsR l).any fun t => decide (64 < (needsR l t).length)
def joinE (l : List RuleT) : Nat := if 100 < l.length then 2 else if firstE l ≠ 0 then firstE l else if 64 < (tgtsR l).length ∨ wideB l = true then 2 else 0
def joinR (l : List RuleT) : List RuleT := if joinE l = 0 then (tgtsR l).map fun t => ([t], needsR l t) else []
theorem joinE_big {l : List RuleT} (h : 100 < l.length) : joinE l = 2 := by unfold joinE; rw [if_pos h]
theorem joinE_bad {l : List RuleT} (h : ¬ 100 < l.length) (h2 : firstE l ≠ 0) : joinE l = firstE l := by unfold joinE; rw [if_neg h, if_pos h2]
theorem joinE_many {l : List RuleT} (h : ¬ 100 < l.length) (h2 : firstE l = 0) (h3 : 64 < (tgtsR l).length ∨ wideB l = true) : joinE l = 2 := by unfold joinE; rw [if_neg h, if_neg (fun e => e h2), if_pos h3]
theorem joinE_ok {l : List RuleT} (h : ¬ 100 < l.length) (h2 : firstE l = 0) (h3 : ¬ 64 < (tgtsR l).length) (h4 : wideB l = false) : joinE l = 0 := by
  unfold joinE; rw [if_neg h, if_neg (fun e => e h2), if_neg (fun e => e.elim h3 (fun e => by rw [h4] at e; cases e))]
theorem joinR_ok {l : List RuleT} (h : joinE l = 0) : joinR l = (tgtsR l).map fun t => ([t], needsR l t) := if_pos h
theorem joinR_no {l : List RuleT} (h : joinE l ≠ 0) : joinR l = [] := if_neg h
theorem wide_at {l : List RuleT} {j : Nat} {t : KeyT} (h : (tgtsR l)[j]? = some t) (h2 : 64 < (needsR l t).length) : wideB l = true := List.any_eq_true.2 ⟨t, List.mem_of_getElem? h, by simpa using h2⟩
theorem wide_no {l : List RuleT} (h : ∀ t ∈ tgtsR l, (needsR l t).length ≤ 64) : wideB l = false := by
  unfold wideB
  rw [List.any_eq_false]
  intro t ht
  have := h t ht
  simp; omega
/-- What a merge sort makes of texts that are all different. -/
theorem ms_up {l : List KeyT} (hn : l.Nodup) : Up (l.mergeSort fun x y => decide (x ≤ y)) := by
  have h1 := mergeSort_le l
  have h2 : (l.mergeSort fun x y => decide (x ≤ y)).Nodup := (List.mergeSort_perm l _).nodup_iff.2 hn
  have h3 := h1.and h2
  refine h3.imp (fun {a b} hab => ?_)
  · obtain ⟨ha, hb⟩ := hab
    rcases slt_tri a b with h | h | h
    · exact h
    · exact absurd h hb
    · exact absurd h ha
theorem sorted_keys {ks ss l : List KeyT} (hp : ss.Perm ks) (hn : ks.Nodup) (hm : ∀ t, t ∈ ks ↔ t ∈ l) : (ss.mergeSort fun x y => decide (x ≤ y)) = rising l :=
  up_unique (ms_up (hp.nodup_iff.2 hn)) (rising_up l) (fun x => by rw [mem_rising, (List.mergeSort_perm ss _).mem_iff, hp.mem_iff, hm])
theorem addU_each {P : KeyT → Prop} {o : List KeyT} {n : KeyT} (h : ∀ x ∈ o, P x) (hn : P n) : ∀ x ∈ addU o n, P x := by
  unfold addU
  split
  · exact h
  · intro x hx
    rcases List.mem_append.1 hx with hx | hx
    · exact h x hx
    · rw [List.mem_singleton.1 hx]; exact hn
theorem addAll_each {P : KeyT → Prop} : ∀ (ns o : List KeyT), (∀ x ∈ o, P x) → (∀ x ∈ ns, P x) → ∀ x ∈ addAll o ns, P x
  | [], _, h, _ => h
  | n :: ns, o, h, hn => addAll_each ns (addU o n) (addU_each h (hn n (List.mem_cons_self ..))) (fun x hx => hn x (List.mem_cons_of_mem _ hx))
theorem addAll_len : ∀ (ns o : List KeyT), (addAll o ns).length ≤ o.length + ns.length
  | [], _ => by simp [addAll]
  | n :: ns, o => by
    have h := addAll_len ns (addU o n)
    have h2 : (addU o n).length ≤ o.length + 1 := by unfold addU; split <;> simp
    show (addAll (addU o n) ns).length ≤ _
    rw [List.length_cons]
    omega
theorem addAll_snoc (o ns : List KeyT) (n : KeyT) : addAll o (ns ++ [n]) = addU (addAll o ns) n := by unfold addAll; rw [List.foldl_append]; rfl
/-! ### A map of slices of texts, each in a row of its own -/
abbrev GrpT := List (KeyT × PartT)
def mapG (M : GrpT) : SMapT := M.map fun x => (x.1, partV x.2)
def keysG (M : GrpT) : List KeyT := M.map (·.1)
theorem keysS_mapG (M : GrpT) : keysS (mapG M) = keysG M := by unfold keysS mapG keysG; rw [List.map_map]; rfl
theorem mapG_at {M : GrpT} {j : Nat} {x : KeyT × PartT} (h : M[j]? = some x) : (mapG M)[j]? = some (x.1, partV x.2) := by unfold mapG; rw [List.getElem?_map, h]; rfl
def ownG (w : World) (B : Nat) (x : PartT) : Prop := w.ownsRow B 9 1 (partV x) x.2.2.length (x.2.2.map sv)
def apartG (x y : PartT) : Prop := (partV x).ownBlock = none ∨ (partV x).ownBlock ≠ (partV y).ownBlock
/-- One key is worked at: its slice stands apart. -/
structure GHold (w : World) (bm : Nat) (M : GrpT) (t : KeyT) (v : PartT) : Prop where
  mp : MapS w bm (mapG M)
  nd : (keysG M).Nodup
  own : ∀ x ∈ M, x.1 ≠ t → ownG w (bm + 1) x.2
  ap : ∀ (i j : Nat) x y, M[i]? = some x → M[j]? = some y → i ≠ j → x.1 ≠ t → y.1 ≠ t → apartG x.2 y.2
  me : ownG w (bm + 1) v
  far : ∀ x ∈ M, x.1 ≠ t → apartG x.2 v
structure GInv (w : World) (bm : Nat) (M : GrpT) : Prop where
  mp : MapS w bm (mapG M)
  nd : (keysG M).Nodup
  own : ∀ x ∈ M, ownG w (bm + 1) x.2
  ap : ∀ (i j : Nat) x y, M[i]? = some x → M[j]? = some y → i ≠ j → apartG x.2 y.2
theorem ownG_below {w w' : World} {B : Nat} {x : PartT} (h : ownG w B x) (hb : Below w.heap.size w w') : ownG w' B x := own_below h hb
theorem GHold.below {w w' : World} {bm : Nat} {M : GrpT} {t : KeyT} {v : PartT} (h : GHold w bm M t v) (hb : Below w.heap.size w w') : GHold w' bm M t v :=
  ⟨h.mp.below hb h.mp.lt, h.nd, fun x hx hn => ownG_below (h.own x hx hn) hb, h.ap, ownG_below h.me hb, h.far⟩
theorem GInv.below {w w' : World} {bm : Nat} {M : GrpT} (h : GInv w bm M) (hb : Below w.heap.size w w') : GInv w' bm M :=
  ⟨h.mp.below hb h.mp.lt, h.nd, fun x hx => ownG_below (h.own x hx) hb, h.ap⟩
theorem key_once {M : GrpT} (hn : (keysG M).Nodup) {i j : Nat} {x y : KeyT × PartT} (hi : M[i]? = some x) (hj : M[j]? = some y) (he : x.1 = y.1) : i = j := by
  have e1 : (keysG M)[i]? = some x.1 := by unfold keysG; rw [List.getElem?_map, hi]; rfl
  have e2 : (keysG M)[j]? = some x.1 := by unfold keysG; rw [List.getElem?_map, hj, he]; rfl
  exact (List.getElem?_inj (List.getElem?_eq_some_iff.1 e1).1 hn).1 (e1.trans e2.symm)
/-- A key that is there is taken out to be worked at. -/
theorem GInv.take {w : World} {bm : Nat} {M : GrpT} (h : GInv w bm M) {j : Nat} {t : KeyT} {v : PartT} (hj : M[j]? = some (t, v)) : GHold w bm M t v :=
  ⟨h.mp, h.nd, fun x hx _ => h.own x hx, fun i k x y hi hk hne _ _ => h.ap i k x y hi hk hne, h.own _ (List.mem_of_getElem? hj), fun x hx hn => by
    obtain ⟨i, hi⟩ := List.mem_iff_getElem?.1 hx
    exact h.ap i j x (t, v) hi hj (fun e => by subst e; rw [hj] at hi; injection hi with hi; exact hn (by rw [← hi]))⟩
theorem GInv.fresh {w : World} {bm : Nat} {M : GrpT} (h : GInv w bm M) (t : KeyT) : GHold w bm M t (none, 0, []) :=
  ⟨h.mp, h.nd, fun x hx _ => h.own x hx, fun i k x y hi hk hne _ _ => h.ap i k x y hi hk hne, World.ownsRow_nil _ _ _ _, fun x hx _ => by
    unfold apartG
    cases hq : (partV x.2).ownBlock with
    | none => exact .inl rfl
    | some g => exact .inr (by simp [partV, Value.ownBlock])⟩
/-- One more element in the row that is worked at. -/
theorem GHold.push {wr w' : World} {bm : Nat} {M : GrpT} {t : KeyT} {A A' : Option Addr} {c c' : Nat} {zs : List KeyT} {u : KeyT} (h : GHold wr bm M t (A, c, zs)) {o : Obj}
    (hg : (wr.alloc o).grownBy w' (Value.slice A zs.length c).ownBlock) (hown : w'.ownsRow (bm + 1) 9 1 (.slice A' (zs.length + 1) c') (zs.length + 1) (zs.map sv ++ [sv u]))
    (hat : (Value.slice A' (zs.length + 1) c').ownBlock = (Value.slice A zs.length c).ownBlock ∨ (Value.slice A' (zs.length + 1) c').ownBlock = some (wr.heap.size + 1)) : GHold w' bm M t (A', c', zs ++ [u]) := by
  have hme : ∀ k, (Value.slice A zs.length c).ownBlock = some k → bm + 1 ≤ k := fun k hk => own_row h.me k hk
  refine ⟨?_, h.nd, fun x hx hn => ?_, h.ap, ?_, fun x hx hn => ?_⟩
  · refine h.mp.same ?_
    rw [hg.block bm (by have := h.mp.lt; simp; omega) (fun e => by have := hme bm e.symm; omega), Below.heap_alloc _ _ _ h.mp.lt]
  · exact ((h.own x hx hn).alloc _).kept hg (h.far x hx hn)
  · show w'.ownsRow (bm + 1) _ 1 (.slice A' (zs ++ [u]).length c') _ _
    rw [List.length_append, List.map_append]
    exact hown
  · have hf := h.far x hx hn
    unfold apartG at *
    rcases hf with hf | hf
    · exact .inl hf
    · cases hq : (partV x.2).ownBlock with
      | none => exact .inl rfl
      | some g =>
        right
        have e : (partV (A', c', zs ++ [u])).ownBlock = (Value.slice A' (zs.length + 1) c').ownBlock := by simp [partV]
        rw [e]
        rw [hq] at hf
        rcases hat with hat | hat
        · rw [hat]; exact hf
        · rw [hat]
          have := ((h.own x hx hn).lt g hq).2
          intro e2
          injection e2 with e2
          omega
theorem GHold.setB {w : World} {bm : Nat} {M : GrpT} {t : KeyT} {v : PartT} (h : GHold w bm M t v) (o : Obj) : (∀ x ∈ M, x.1 ≠ t → ownG (Go.ChangeMaps.setBlock w bm o) (bm + 1) x.2) ∧ ownG (Go.ChangeMaps.setBlock w bm o) (bm + 1) v := by
  have key : ∀ x : PartT, ownG w (bm + 1) x → ownG (Go.ChangeMaps.setBlock w bm o) (bm + 1) x := fun x hx => by
    unfold ownG at *
    exact hx.kept (row := some bm) ⟨rfl, rfl, rfl, by rw [setB_size]; exact Nat.le_refl _, fun k _ hne => setB_other _ _ (fun e => hne (by rw [e]))⟩ (by
      cases hq : (partV x).ownBlock with
      | none => exact .inl rfl
      | some g =>
        right
        have := (hx.lt g hq).1
        intro e
        injection e with e
        omega)
  exact ⟨fun x hx hn => key _ (h.own x hx hn), key _ h.me⟩
/-- The slice is put back: the key is new. -/
theorem GHold.putNew {w : World} {bm : Nat} {M : GrpT} {t : KeyT} {v : PartT} (h : GHold w bm M t v) (ht : t ∉ keysG M) : GInv (Go.ChangeMaps.setBlock w bm (.map (entS (mapG (M ++ [(t, v)]))) (mapG (M ++ [(t, v)])).length)) bm (M ++ [(t, v)]) := by
  obtain ⟨h1, h2⟩ := h.setB (.map (entS (mapG (M ++ [(t, v)]))) (mapG (M ++ [(t, v)])).length)
  have hne : ∀ x ∈ M, x.1 ≠ t := fun x hx e => ht (List.mem_map.2 ⟨x, hx, e⟩)
  refine ⟨mapS_put h.mp _, ?_, fun x hx => ?_, fun i j x y hi hj hij => ?_⟩
  · unfold keysG
    rw [List.map_append]
    exact nodup_snoc.2 ⟨h.nd, ht⟩
  · rcases List.mem_append.1 hx with hx | hx
    · exact h1 x hx (hne x hx)
    · rw [List.mem_singleton.1 hx]; exact h2
  · have key : ∀ {k : Nat} {z : KeyT × PartT}, (M ++ [(t, v)])[k]? = some z → M[k]? = some z ∨ (k = M.length ∧ z = (t, v)) := fun {k z} hk => by
      rcases Nat.lt_or_ge k M.length with hl | hl
      · left; rw [List.getElem?_append_left hl] at hk; exact hk
      · rw [List.getElem?_append_right hl] at hk
        have h0 := (List.getElem?_eq_some_iff.1 hk).1
        simp at h0
        have e : k - M.length = 0 := by omega
        rw [e] at hk
        injection hk with hk
        exact .inr ⟨by omega, hk.symm⟩
    rcases key hi with hi | ⟨rfl, rfl⟩ <;> rcases key hj with hj | ⟨rfl, rfl⟩
    · exact h.ap i j x y hi hj hij (hne _ (List.mem_of_getElem? hi)) (hne _ (List.mem_of_getElem? hj))
    · exact h.far x (List.mem_of_getElem? hi) (hne _ (List.mem_of_getElem? hi))
    · have hf := h.far y (List.mem_of_getElem? hj) (hne _ (List.mem_of_getElem? hj))
      unfold apartG at *
      rcases hf with hf | hf
      · cases hq : (partV v).ownBlock with
        | none => exact .inl rfl
        | some g => right; rw [hf]; simp
      · exact .inr (fun e => hf e.symm)
    · exact absurd rfl hij
/-- The slice is put back: the key was there. -/
theorem GHold.putOld {w : World} {bm : Nat} {M : GrpT} {t : KeyT} {v v0 : PartT} (h : GHold w bm M t v) {j : Nat} (hj : M[j]? = some (t, v0)) : GInv (Go.ChangeMaps.setBlock w bm (.map (entS (mapG (M.set j (t, v)))) (mapG (M.set j (t, v))).length)) bm (M.set j (t, v)) := by
  obtain ⟨h1, h2⟩ := h.setB (.map (entS (mapG (M.set j (t, v)))) (mapG (M.set j (t, v))).length)
  have hlt := (List.getElem?_eq_some_iff.1 hj).1
  have hkeys : keysG (M.set j (t, v)) = keysG M := by
    unfold keysG
    rw [List.map_set]
    apply List.ext_getElem?
    intro i
    by_cases hi : j = i
    · subst hi
      rw [List.getElem?_set_self (by rw [List.length_map]; exact hlt), List.getElem?_map, hj]
      rfl
    · rw [List.getElem?_set_ne hi]
  have hne : ∀ {i : Nat} {x : KeyT × PartT}, M[i]? = some x → i ≠ j → x.1 ≠ t := fun hi hij e => hij (key_once h.nd hi hj e)
  have key : ∀ {k : Nat} {z : KeyT × PartT}, (M.set j (t, v))[k]? = some z → (k ≠ j ∧ M[k]? = some z) ∨ (k = j ∧ z = (t, v)) := fun {k z} hk => by
    by_cases hkj : j = k
    · subst hkj
      rw [List.getElem?_set_self hlt] at hk
      injection hk with hk
      exact .inr ⟨rfl, hk.symm⟩
    · rw [List.getElem?_set_ne hkj] at hk
      exact .inl ⟨fun e => hkj e.symm, hk⟩
  refine ⟨mapS_put h.mp _, by rw [hkeys]; exact h.nd, fun x hx => ?_, fun i k x y hi hk hik => ?_⟩
  · obtain ⟨i, hi⟩ := List.mem_iff_getElem?.1 hx
    rcases key hi with ⟨hij, hi'⟩ | ⟨rfl, rfl⟩
    · exact h1 x (List.mem_of_getElem? hi') (hne hi' hij)
    · exact h2
  · rcases key hi with ⟨hij, hi'⟩ | ⟨e1, e2⟩ <;> rcases key hk with ⟨hkj, hk'⟩ | ⟨e3, e4⟩
    · exact h.ap i k x y hi' hk' hik (hne hi' hij) (hne hk' hkj)
    · rw [e4]; exact h.far x (List.mem_of_getElem? hi') (hne hi' hij)
    · rw [e2]
      have hf := h.far y (List.mem_of_getElem? hk') (hne hk' hkj)
      unfold apartG at *
      rcases hf with hf | hf
      · cases hq : (partV v).ownBlock with
        | none => exact .inl rfl
        | some g => right; rw [hf]; simp
      · exact .inr (fun e => hf e.symm)
    · exact absurd (e1.trans e3.symm) hik
/-- What the map says of the pairs that were put into it. -/
structure GSays (M : GrpT) (ps : List (KeyT × List KeyT)) : Prop where
  keys : ∀ t, t ∈ keysG M ↔ ∃ p ∈ ps, p.1 = t
  vals : ∀ x ∈ M, x.2.2.2 = needsP ps x.1
theorem GSays.nil : GSays [] [] := ⟨fun t => by simp [keysG], fun x hx => by cases hx⟩
theorem GSays.none_ {M : GrpT} {ps : List (KeyT × List KeyT)} (h : GSays M ps) {t : KeyT} (ht : t ∉ keysG M) : needsP ps t = [] := needsP_none (fun p hp e => ht ((h.keys t).2 ⟨p, hp, e⟩))
theorem GSays.putNew {M : GrpT} {ps : List (KeyT × List KeyT)} (h : GSays M ps) {t : KeyT} (ht : t ∉ keysG M) {ns : List KeyT} {v : PartT} (hv : v.2.2 = addAll [] ns) : GSays (M ++ [(t, v)]) (ps ++ [(t, ns)]) := by
  refine ⟨fun t' => ?_, fun x hx => ?_⟩
  · rw [show keysG (M ++ [(t, v)]) = keysG M ++ [t] by unfold keysG; simp, List.mem_append, h.keys t']
    constructor
    · rintro (⟨p, hp, e⟩ | hm)
      · exact ⟨p, List.mem_append_left _ hp, e⟩
      · exact ⟨(t, ns), List.mem_append_right _ (List.mem_singleton_self _), (List.mem_singleton.1 hm).symm⟩
    · rintro ⟨p, hp, e⟩
      rcases List.mem_append.1 hp with hp | hp
      · exact .inl ⟨p, hp, e⟩
      · right; rw [← e, List.mem_singleton.1 hp]; exact List.mem_singleton_self _
  · rw [needsP_snoc]
    rcases List.mem_append.1 hx with hx | hx
    · rw [if_neg (fun e => ht (by rw [e]; exact List.mem_map.2 ⟨x, hx, rfl⟩))]
      exact h.vals x hx
    · rw [List.mem_singleton.1 hx, if_pos rfl, h.none_ ht]
      exact hv
theorem GSays.putOld {M : GrpT} {ps : List (KeyT × List KeyT)} (h : GSays M ps) (hn : (keysG M).Nodup) {j : Nat} {t : KeyT} {v0 : PartT} (hj : M[j]? = some (t, v0)) {ns : List KeyT} {v : PartT} (hv : v.2.2 = addAll v0.2.2 ns) : GSays (M.set j (t, v)) (ps ++ [(t, ns)]) := by
  have hlt := (List.getElem?_eq_some_iff.1 hj).1
  have hkeys : keysG (M.set j (t, v)) = keysG M := by
    unfold keysG
    rw [List.map_set]
    apply List.ext_getElem?
    intro i
    by_cases hi : j = i
    · subst hi
      rw [List.getElem?_set_self (by rw [List.length_map]; exact hlt), List.getElem?_map, hj]
      rfl
    · rw [List.getElem?_set_ne hi]
  refine ⟨fun t' => ?_, fun x hx => ?_⟩
  · rw [hkeys, h.keys t']
    constructor
    · rintro ⟨p, hp, e⟩; exact ⟨p, List.mem_append_left _ hp, e⟩
    · rintro ⟨p, hp, e⟩
      rcases List.mem_append.1 hp with hp | hp
      · exact ⟨p, hp, e⟩
      · rw [List.mem_singleton.1 hp] at e
        exact (h.keys t').1 (by rw [← e]; exact List.mem_map.2 ⟨(t, v0), List.mem_of_getElem? hj, rfl⟩)
  · rw [needsP_snoc]
    obtain ⟨i, hi⟩ := List.mem_iff_getElem?.1 hx
    by_cases hij : j = i
    · subst hij
      rw [List.getElem?_set_self hlt] at hi
      injection hi with hi
      rw [← hi, if_pos rfl, ← h.vals _ (List.mem_of_getElem? hj)]
      exact hv
    · rw [List.getElem?_set_ne hij] at hi
      rw [if_neg (fun e => hij (key_once hn hj hi e))]
      exact h.vals x (List.mem_of_getElem? hi)
end Go.Proofs.Ytoandhhkmkgmaaa
