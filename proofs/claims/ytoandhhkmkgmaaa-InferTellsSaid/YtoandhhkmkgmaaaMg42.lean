/- Some of the proof's texts, merged; each one's own words stand ahead of it. -/
import Derived.Test.YtoandhhkmkgmaaaMg39
import Derived.Test.YtoandhhkmkgmaaaMg41
/- A map of lists of names that lie anywhere: look-up and store; what it says while rules are filled; contract: infer.asked. -/
namespace Go.Proofs.Ytoandhhkmkgmaaa
open Go.RowKit

structure RMap (w : World) (bm : Nat) (M : GrpT) : Prop where
  mp : MapS w bm (mapG M)
  nd : (keysG M).Nodup
  rd : ∀ x ∈ M, Rd w x.2.1 (x.2.2.2.map sv)
  far : ∀ x ∈ M, ∀ g off, x.2.1 = some ⟨g, off, none⟩ → 0 < x.2.2.2.length → g ≠ bm
  cap : ∀ x ∈ M, x.2.2.2.length ≤ x.2.2.1
  k40 : ∀ t ∈ keysG M, t.length ≤ 40
theorem RMap.below {w w' : World} {bm : Nat} {M : GrpT} (h : RMap w bm M) (hb : Below w.heap.size w w') : RMap w' bm M :=
  ⟨h.mp.below hb h.mp.lt, h.nd, fun x hx => (h.rd x hx).below hb, h.far, h.cap, h.k40⟩
theorem RMap.drewN {w : World} {bm : Nat} {M : GrpT} (h : RMap w bm M) (q : Nat) : RMap (w.drewN q) bm M := ⟨h.mp, h.nd, h.rd, h.far, h.cap, h.k40⟩
theorem rd_setB {w : World} {bm : Nat} {A : Option Addr} {l : List KeyT} {o : Obj} (h : Rd w A (l.map sv)) (hf : ∀ g off, A = some ⟨g, off, none⟩ → 0 < l.length → g ≠ bm) : Rd (Go.ChangeMaps.setBlock w bm o) A (l.map sv) := fun hp => by
  obtain ⟨g, off, hA, hlt, hc⟩ := h hp
  have hne := hf g off hA (by simpa using hp)
  refine ⟨g, off, hA, by rw [setB_size]; exact hlt, fun j u hu => ?_⟩
  rw [World.cell?_of_block (w := w) (setB_other _ _ hne)]
  exact hc j u hu
theorem RMap.new (w : World) : RMap (w.alloc (.map #[] 0)) w.heap.size [] :=
  ⟨map_new w, by simp [keysG], (fun x hx => by cases hx), (fun x hx => by cases hx), (fun x hx => by cases hx), (fun t ht => by simp [keysG] at ht)⟩
theorem keysG_set {M : GrpT} {j : Nat} {t : KeyT} {v v0 : PartT} (hj : M[j]? = some (t, v0)) : keysG (M.set j (t, v)) = keysG M := by
  have hlt := (List.getElem?_eq_some_iff.1 hj).1
  unfold keysG
  rw [List.map_set]
  apply List.ext_getElem?
  intro i
  by_cases hi : j = i
  · subst hi
    rw [List.getElem?_set_self (by rw [List.length_map]; exact hlt), List.getElem?_map, hj]
    rfl
  · rw [List.getElem?_set_ne hi]
theorem rput_any {w : World} {bm : Nat} {M : GrpT} (h : RMap w bm M) (t : KeyT) (v : PartT) (ht : t.length ≤ 40) (hr : Rd w v.1 (v.2.2.map sv)) (hf : ∀ g off, v.1 = some ⟨g, off, none⟩ → 0 < v.2.2.length → g ≠ bm) (hc : v.2.2.length ≤ v.2.1) :
    ∃ o M', (∀ q, (Instr.mapUpdate 80 (.map (some bm)) (.string ⟨t.toArray⟩) (.slice v.1 v.2.2.length v.2.1)).run Try.prog (w.drewN q) = .ok () (Go.ChangeMaps.setBlock (w.drewN q) bm o)) ∧
      (∀ q, RMap (Go.ChangeMaps.setBlock (w.drewN q) bm o) bm M') ∧ (∀ x ∈ M', x = (t, v) ∨ (x ∈ M ∧ x.1 ≠ t)) ∧ (∀ t', t' ∈ keysG M' ↔ t' ∈ keysG M ∨ t' = t) ∧ M'.length ≤ M.length + 1 := by
  by_cases hk : t ∈ keysG M
  · obtain ⟨⟨t', v0⟩, hx, he⟩ := List.mem_map.1 hk
    obtain ⟨j, hj⟩ := List.mem_iff_getElem?.1 hx
    simp only at he
    subst he
    have hlt := (List.getElem?_eq_some_iff.1 hj).1
    have hkeys := keysG_set (v := v) hj
    have hmem : ∀ x ∈ M.set j (t', v), x = (t', v) ∨ (x ∈ M ∧ x.1 ≠ t') := fun x hx => by
      obtain ⟨i, hi⟩ := List.mem_iff_getElem?.1 hx
      by_cases hij : j = i
      · subst hij
        rw [List.getElem?_set_self hlt] at hi
        injection hi with hi
        exact .inl hi.symm
      · rw [List.getElem?_set_ne hij] at hi
        exact .inr ⟨List.mem_of_getElem? hi, fun e => hij (key_once h.nd hj hi e.symm)⟩
    refine ⟨_, M.set j (t', v), fun q => ?_, fun q => ⟨mapS_put (h.drewN q).mp _, by rw [hkeys]; exact h.nd, fun x hx => ?_, fun x hx => ?_, fun x hx => ?_, by rw [hkeys]; exact h.k40⟩, hmem, fun u => ?_, by rw [List.length_set]; omega⟩
    · have hr := run_oldS strKind mapKind (h.drewN q).mp (keysOk_of h.k40) (by rw [keysS_mapG]; exact h.nd) (mapG_at hj) (partV v)
      rw [show (mapG M).set j (t', partV v) = mapG (M.set j (t', v)) by unfold mapG; rw [List.map_set]] at hr
      exact hr
    · rcases hmem x hx with rfl | ⟨hm, _⟩
      · exact rd_setB (hr.drewN q) hf
      · exact rd_setB ((h.rd x hm).drewN q) (h.far x hm)
    · rcases hmem x hx with rfl | ⟨hm, _⟩
      · exact hf
      · exact h.far x hm
    · rcases hmem x hx with rfl | ⟨hm, _⟩
      · exact hc
      · exact h.cap x hm
    · rw [hkeys]
      exact ⟨.inl, fun h => h.elim id (fun e => e ▸ hk)⟩
  · have hmem : ∀ x ∈ M ++ [(t, v)], x = (t, v) ∨ (x ∈ M ∧ x.1 ≠ t) := fun x hx => by
      rcases List.mem_append.1 hx with hx | hx
      · exact .inr ⟨hx, fun e => hk (List.mem_map.2 ⟨x, hx, e⟩)⟩
      · exact .inl (List.mem_singleton.1 hx)
    have hkeys : keysG (M ++ [(t, v)]) = keysG M ++ [t] := by unfold keysG; simp
    refine ⟨_, M ++ [(t, v)], fun q => ?_, fun q => ⟨mapS_put (h.drewN q).mp _, by rw [hkeys]; exact nodup_snoc.2 ⟨h.nd, hk⟩, fun x hx => ?_, fun x hx => ?_, fun x hx => ?_, fun s hs => ?_⟩, hmem, fun u => ?_, by simp⟩
    · have hr := run_newS strKind mapKind (h.drewN q).mp (keysOk_of h.k40) t (partV v) (by unfold maxLen; omega) (by rw [keysS_mapG]; exact hk)
      rw [show mapG M ++ [(t, partV v)] = mapG (M ++ [(t, v)]) by unfold mapG; simp] at hr
      exact hr
    · rcases hmem x hx with rfl | ⟨hm, _⟩
      · exact rd_setB (hr.drewN q) hf
      · exact rd_setB ((h.rd x hm).drewN q) (h.far x hm)
    · rcases hmem x hx with rfl | ⟨hm, _⟩
      · exact hf
      · exact h.far x hm
    · rcases hmem x hx with rfl | ⟨hm, _⟩
      · exact hc
      · exact h.cap x hm
    · rw [hkeys] at hs
      rcases List.mem_append.1 hs with hs | hs
      · exact h.k40 s hs
      · rw [List.mem_singleton.1 hs]; exact ht
    · rw [hkeys, List.mem_append, List.mem_singleton]
/-! ### What the map says while rules are filled -/
def headsP (all : List RuleT) : List KeyT := all.map fun r => r.1.headD []
structure FSays (l : List SufT) (all : List RuleT) (known done : List KeyT) (M : GrpT) : Prop where
  keys : ∀ t, t ∈ keysG M ↔ t ∈ headsP all ∨ (t ∈ done ∧ needsR all t = [] ∧ (ofP l known t).isSome = true)
  vals : ∀ x ∈ M, (x.1 ∈ done → x.2.2.2 = needF l all known x.1) ∧ (x.1 ∉ done → x.2.2.2 = needsR all x.1)
theorem needF_some {l : List SufT} {all : List RuleT} {known : List KeyT} {s f : KeyT} (h : needsR all s = []) (h2 : ofP l known s = some f) : needF l all known s = [f] := by unfold needF; rw [if_pos h, h2]; rfl
theorem needF_none {l : List SufT} {all : List RuleT} {known : List KeyT} {s : KeyT} (h : needsR all s = []) (h2 : ofP l known s = none) : needF l all known s = [] := by unfold needF; rw [if_pos h, h2]; rfl
theorem needF_more {l : List SufT} {all : List RuleT} {known : List KeyT} {s : KeyT} (h : needsR all s ≠ []) : needF l all known s = needsR all s := if_neg h
theorem needsR_off {all : List RuleT} (h : OneEach all) {s : KeyT} (hs : s ∉ headsP all) : needsR all s = [] := needsR_out fun r hr hm => by
  obtain ⟨t, ht⟩ := h.one r hr
  rw [ht, List.mem_singleton] at hm
  exact hs (List.mem_map.2 ⟨r, hr, by rw [ht, hm]; rfl⟩)
/-- The key's list is not empty: nothing turns. -/
theorem FSays.more {l : List SufT} {all : List RuleT} {known done : List KeyT} {M : GrpT} (h : FSays l all known done M) (hn : (keysG M).Nodup) {s : KeyT} {v : PartT} (hv : (s, v) ∈ M) (hne : v.2.2 ≠ []) : FSays l all known (done ++ [s]) M := by
  have hv2 := h.vals _ hv
  refine ⟨fun t => ?_, fun x hx => ?_⟩
  · rw [h.keys t]
    constructor
    · rintro (h1 | ⟨h1, h2⟩)
      · exact .inl h1
      · exact .inr ⟨List.mem_append_left _ h1, h2⟩
    · rintro (h1 | ⟨h1, h2, h3⟩)
      · exact .inl h1
      · rcases List.mem_append.1 h1 with h1 | h1
        · exact .inr ⟨h1, h2, h3⟩
        · rw [List.mem_singleton] at h1
          subst h1
          by_cases hd : t ∈ done
          · exact .inr ⟨hd, h2, h3⟩
          · have := hv2.2 hd
            simp only at this
            rw [h2] at this
            exact absurd this hne
  · have hx2 := h.vals x hx
    refine ⟨fun hd => ?_, fun hd => hx2.2 (fun h => hd (List.mem_append_left _ h))⟩
    by_cases hd2 : x.1 ∈ done
    · exact hx2.1 hd2
    · rcases List.mem_append.1 hd with hd | hd
      · exact absurd hd hd2
      · rw [List.mem_singleton] at hd
        have hxv : x = (s, v) := by
          obtain ⟨i, hi⟩ := List.mem_iff_getElem?.1 hx
          obtain ⟨j, hj⟩ := List.mem_iff_getElem?.1 hv
          have := key_once hn hi hj hd
          subst this
          rw [hi] at hj
          injection hj
        subst hxv
        have h1 := hx2.2 hd2
        rw [h1]
        simp only at h1 ⊢
        rw [h1] at hne
        exact (needF_more hne).symm
/-- Nothing is there yet, or an empty list, and nothing is inferred. -/
theorem FSays.stay {l : List SufT} {all : List RuleT} {known done : List KeyT} {M : GrpT} (h : FSays l all known done M) {s : KeyT} (hz : ∀ x ∈ M, x.1 = s → x.2.2.2 = []) (ho : ofP l known s = none) : FSays l all known (done ++ [s]) M := by
  refine ⟨fun t => ?_, fun x hx => ?_⟩
  · rw [h.keys t]
    constructor
    · rintro (h1 | ⟨h1, h2⟩)
      · exact .inl h1
      · exact .inr ⟨List.mem_append_left _ h1, h2⟩
    · rintro (h1 | ⟨h1, h2, h3⟩)
      · exact .inl h1
      · rcases List.mem_append.1 h1 with h1 | h1
        · exact .inr ⟨h1, h2, h3⟩
        · rw [List.mem_singleton] at h1
          subst h1
          rw [ho] at h3
          cases h3
  · have hx2 := h.vals x hx
    refine ⟨fun hd => ?_, fun hd => hx2.2 (fun h => hd (List.mem_append_left _ h))⟩
    by_cases hd2 : x.1 ∈ done
    · exact hx2.1 hd2
    · rcases List.mem_append.1 hd with hd | hd
      · exact absurd hd hd2
      · rw [List.mem_singleton] at hd
        have h0 := hz x hx hd
        have h1 := hx2.2 hd2
        rw [h0]
        rw [h0] at h1
        exact (needF_none h1.symm (by rw [hd]; exact ho)).symm
theorem FSays.empty {l : List SufT} {all : List RuleT} {known done : List KeyT} {M : GrpT} (hall : OneEach all) (h : FSays l all known done M) {s : KeyT} (hz : ∀ x ∈ M, x.1 = s → x.2.2.2 = []) : needsR all s = [] := by
  by_cases hs : s ∈ headsP all
  · obtain ⟨x, hx, he⟩ := List.mem_map.1 ((h.keys s).2 (.inl hs))
    have h0 := hz x hx he
    have hx2 := h.vals x hx
    rw [he] at hx2
    by_cases hd : s ∈ done
    · have h1 := hx2.1 hd
      rw [h0] at h1
      by_cases hq : needsR all s = []
      · exact hq
      · rw [needF_more hq] at h1; exact h1.symm
    · have h1 := hx2.2 hd
      rw [h0] at h1
      exact h1.symm
  · exact needsR_off hall hs
/-- Nothing is there yet, or an empty list, and a name is inferred. -/
theorem FSays.put {l : List SufT} {all : List RuleT} {known done : List KeyT} {M M' : GrpT} (hall : OneEach all) (h : FSays l all known done M) {s f : KeyT} {v : PartT} (hz : ∀ x ∈ M, x.1 = s → x.2.2.2 = []) (ho : ofP l known s = some f) (hv : v.2.2 = [f])
    (hm : ∀ x ∈ M', x = (s, v) ∨ (x ∈ M ∧ x.1 ≠ s)) (hk : ∀ t', t' ∈ keysG M' ↔ t' ∈ keysG M ∨ t' = s) : FSays l all known (done ++ [s]) M' := by
  have hne := h.empty hall hz
  refine ⟨fun t => ?_, fun x hx => ?_⟩
  · rw [hk, h.keys t]
    constructor
    · rintro ((h1 | ⟨h1, h2⟩) | rfl)
      · exact .inl h1
      · exact .inr ⟨List.mem_append_left _ h1, h2⟩
      · exact .inr ⟨List.mem_append_right _ (List.mem_singleton_self _), hne, by rw [ho]; rfl⟩
    · rintro (h1 | ⟨h1, h2, h3⟩)
      · exact .inl (.inl h1)
      · rcases List.mem_append.1 h1 with h1 | h1
        · exact .inl (.inr ⟨h1, h2, h3⟩)
        · exact .inr (List.mem_singleton.1 h1)
  · rcases hm x hx with rfl | ⟨hx', hxs⟩
    · exact ⟨fun _ => by rw [hv]; exact (needF_some hne ho).symm, fun hd => absurd (List.mem_append_right _ (List.mem_singleton_self _)) hd⟩
    · have hx2 := h.vals x hx'
      refine ⟨fun hd => ?_, fun hd => hx2.2 (fun h => hd (List.mem_append_left _ h))⟩
      rcases List.mem_append.1 hd with hd | hd
      · exact hx2.1 hd
      · exact absurd (List.mem_singleton.1 hd) hxs
theorem heads_asked {all : List RuleT} (h : OneEach all) {t : KeyT} (ht : t ∈ headsP all) : t ∈ askedP all := by
  obtain ⟨r, hr, he⟩ := List.mem_map.1 ht
  obtain ⟨u, hu⟩ := h.one r hr
  rw [hu] at he
  have he' : u = t := he
  subst he'
  exact List.mem_flatMap.2 ⟨r, hr, List.mem_append_left _ (by rw [hu]; exact List.mem_singleton_self _)⟩
/-- When all have been asked: the keys in order are those that the document names. -/
theorem FSays.keys_end {l : List SufT} {all : List RuleT} {known : List KeyT} {M : GrpT} (hall : OneEach all) (h : FSays l all known (askedP all) M) : ∀ t, t ∈ keysG M ↔ t ∈ (rising (askedP all)).filter (isF l all known) := fun t => by
  rw [List.mem_filter, mem_rising, h.keys t]
  unfold isF
  rw [Bool.or_eq_true, Bool.and_eq_true, decide_eq_true_iff, ← heads_mem]
  constructor
  · rintro (h1 | ⟨h1, h2, h3⟩)
    · exact ⟨heads_asked hall h1, .inl h1⟩
    · exact ⟨h1, .inr ⟨h2, h3⟩⟩
  · rintro ⟨h1, h2 | ⟨h2, h3⟩⟩
    · exact .inl h2
    · exact .inr ⟨h1, h2, h3⟩
theorem FSays.vals_end {l : List SufT} {all : List RuleT} {known : List KeyT} {M : GrpT} (hall : OneEach all) (h : FSays l all known (askedP all) M) : ∀ x ∈ M, x.2.2.2 = needF l all known x.1 := fun x hx => by
  refine (h.vals x hx).1 ?_
  have hk := (h.keys x.1).1 (List.mem_map.2 ⟨x, hx, rfl⟩)
  rcases hk with h1 | ⟨h1, _⟩
  · exact heads_asked hall h1
  · exact h1
theorem filter_up {l : List KeyT} (h : Up l) (p : KeyT → Bool) : Up (l.filter p) := h.sublist (List.filter_sublist)
theorem sorted_keysF {ks ss l : List KeyT} (hp : ss.Perm ks) (hn : ks.Nodup) (hu : Up l) (hm : ∀ t, t ∈ ks ↔ t ∈ l) : (ss.mergeSort fun x y => decide (x ≤ y)) = l :=
  up_unique (ms_up (hp.nodup_iff.2 hn)) hu (fun x => by rw [(List.mergeSort_perm ss _).mem_iff, hp.mem_iff, hm])
/-! ### infer.asked -/
theorem asked_take {l : List RuleT} {k : Nat} {r : RuleT} (h : l[k]? = some r) : askedP (l.take (k + 1)) = askedP (l.take k) ++ (r.1 ++ r.2) := by rw [take_snocS h, askedP_snoc]
theorem asked_len {l : List RuleT} (h : ∀ r ∈ l, r.1.length + r.2.length ≤ 65) : ∀ k, (askedP (l.take k)).length ≤ 65 * k
  | 0 => by simp [askedP]
  | k + 1 => by
    have ih := asked_len h k
    by_cases hk : k < l.length
    · have := h _ (List.getElem_mem hk)
      rw [asked_take (List.getElem?_eq_getElem hk), List.length_append, List.length_append]
      omega
    · rw [List.take_of_length_le (by omega)] at ih ⊢
      omega
def AskPost (l : List RuleT) (w : World) (e : Ending) (w' : World) : Prop :=
  ∃ A c, e = .returned (.slice A (askedP l).length c) ∧ Rd w' A ((askedP l).map sv) ∧ Below w.heap.size w w'
theorem cat3 (p1 p2 p3 : PartT) : catP [p1, p2, p3] = p1.2.2 ++ (p2.2.2 ++ p3.2.2) := by simp [catP]
set_option maxRecDepth 100000 in
/-- 'slices.Concat' of three lists, as it is called: the three lie in a new block. -/
theorem concat3_any {A1 A2 A3 : Option Addr} {n1 n2 n3 c1 c2 c3 : Nat} (l1 l2 l3 : List KeyT) (w : World) (h1 : Rd w A1 (l1.map sv)) (h2 : Rd w A2 (l2.map sv)) (h3 : Rd w A3 (l3.map sv)) (e1 : l1.length = n1) (e2 : l2.length = n2) (e3 : l3.length = n3) (hN : n1 + (n2 + n3) ≤ 8800000000000) :
    Calls Try.prog 43 #[.slice (some ⟨w.heap.size, 0, none⟩) 3 3] (w.alloc (.cells #[.slice A1 n1 c1, .slice A2 n2 c2, .slice A3 n3 c3] 32)) fun e w' =>
      ∃ A c, e = .returned (.slice A (n1 + (n2 + n3)) c) ∧ Rd w' A ((l1 ++ (l2 ++ l3)).map sv) ∧ Below w.heap.size w w' ∧ (∀ g off, A = some ⟨g, off, none⟩ → w.heap.size ≤ g) := by
  have hb := below_new (Below.refl w.heap.size w) (.cells #[.slice A1 n1 c1, .slice A2 n2 c2, .slice A3 n3 c3] 32)
  have hlen : (catP [(A1, c1, l1), (A2, c2, l2), (A3, c3, l3)]).length = n1 + (n2 + n3) := by rw [cat3, List.length_append, List.length_append, e1, e2, e3]
  refine (concatN_any (n := 3) (c := 3) (b := w.heap.size) [(A1, c1, l1), (A2, c2, l2), (A3, c3, l3)] _ (by simp) rfl (by decide) ?_ ?_ (by rw [hlen]; exact hN)).mono ?_
  · intro j x hx
    have hj := (List.getElem?_eq_some_iff.1 hx).1
    simp only [List.length_cons, List.length_nil] at hj
    rcases (by omega : j = 0 ∨ j = 1 ∨ j = 2) with rfl | rfl | rfl
    · injection hx with hx; subst hx
      rw [World.cell?_alloc_at _ _ _ _ rfl, partV, e1]; rfl
    · injection hx with hx; subst hx
      rw [World.cell?_alloc_at _ _ _ _ rfl, partV, e2]; rfl
    · injection hx with hx; subst hx
      rw [World.cell?_alloc_at _ _ _ _ rfl, partV, e3]; rfl
  · intro x hx
    rcases List.mem_cons.1 hx with rfl | hx
    · exact h1.below hb
    · rcases List.mem_cons.1 hx with rfl | hx
      · exact h2.below hb
      · rw [List.mem_singleton.1 hx]; exact h3.below hb
  · rintro e w' ⟨A, c, rfl, hown, hb2⟩
    rw [hlen] at hown ⊢
    rw [cat3] at hown
    exact ⟨A, c, rfl, Rd.of_own hown, below_then hb hb2, fun g off hA => by have := own_ge hown g off hA; simp at this; omega⟩
set_option maxRecDepth 100000 in
set_option maxHeartbeats 4000000 in
theorem asked_any {A : Option Addr} {n c : Nat} (L : List RSlot) (w : World) (hA : RsRd A L w) (hn : L.length = n) (hb : n ≤ 64) (h65 : ∀ r ∈ rulesOf L, r.1.length + r.2.length ≤ 65) :
    Calls Try.prog 45 #[.slice A n c] w (AskPost (rulesOf L) w) := by
  have HA := Lib.hid hA
  have HN := Lib.hid hn
  have HAL := Lib.hid (asked_len h65)
  have H65 := Lib.hid h65
  clear hA hn h65
  go_enter Try.func45, Try.ntmps45
  go_wp2_with fail
  go_loopw [3, 5, 8] (fun v _ i wr => ∃ (k : Nat) (A' : Option Addr) (c' m : Nat) (zs : List KeyT), i = .int .i64 (k : Int) ∧ k ≤ n ∧ v = .slice A' m c' ∧ m ≤ 65 * k ∧ Hid (zs.length = m) ∧ Hid (zs = askedP ((rulesOf L).take k)) ∧ Hid (Rd wr A' (zs.map sv)) ∧ Hid (Below w.heap.size w wr)) (fun _ _ i _ => n - (intOf i).toNat)
  case atStart => exact ⟨0, none, 0, 0, [], rfl, by omega, rfl, by omega, Lib.hid rfl, Lib.hid rfl, Lib.hid (Rd.nil_ _ _), Lib.hid (Below.refl _ _)⟩
  case round =>
    obtain ⟨k, A', c', m, zs, rfl, hk, rfl, hm, HM, HZ, HR, HB⟩ := hrel
    by_cases hlt : k < n
    · obtain ⟨x, hx⟩ : ∃ x, L[k]? = some x := ⟨_, List.getElem?_eq_getElem (by rw [HN.out]; exact hlt)⟩
      have HX := Lib.hid (HA.out.each x (List.mem_of_getElem? hx))
      have HRL := Lib.hid (rulesOf_at hx)
      have h65 := H65.out _ (List.mem_of_getElem? HRL.out)
      obtain ⟨b1, o1, rfl, a1, a2⟩ := (HA.out.rd.below HB.out).two hx
      obtain ⟨⟨X1, xc1⟩, ⟨X2, xc2⟩, r⟩ := x
      have hcap : 2 * k = k * 2 := by omega
      rw [hcap] at a1 a2
      simp only [rsT, rsN] at a1 a2 HRL h65
      have HK := Lib.hid (Blk.new wr #[.slice X1 r.1.length xc1, .slice X2 r.2.length xc2] 82)
      have HBN := Lib.hid (below_new (Below.refl wr.heap.size wr) (.cells #[.slice X1 r.1.length xc1, .slice X2 r.2.length xc2] 82))
      have HBW := Lib.hid (below_newL HB.out HBN.out)
      have HC := Lib.hid (concat3_any (c1 := c') (c2 := xc1) (c3 := xc2) zs r.1 r.2 (wr.alloc (.cells #[.slice X1 r.1.length xc1, .slice X2 r.2.length xc2] 82)) (HR.out.below HBN.out) (HX.out.t.below HBW.out) (HX.out.n.below HBW.out) HM.out rfl rfl (by omega))
      have HZ2 : Hid (zs ++ (r.1 ++ r.2) = askedP ((rulesOf L).take (k + 1))) := Lib.hid (by rw [asked_take HRL.out, HZ.out])
      have HM2 : Hid ((zs ++ (r.1 ++ r.2)).length = m + (r.1.length + r.2.length)) := Lib.hid (by rw [List.length_append, List.length_append, HM.out])
      have hk1 : (k : Int) < (n : Int) := by omega
      generalize r.1.length = n1 at *
      generalize r.2.length = n2 at *
      clear hx hcap HX
      go_upto_region 5 with fail
      generalize wr.alloc (.cells #[.slice X1 n1 xc1, .slice X2 n2 xc2] 82) = w1 at *
      generalize wr.heap.size = CB at *
      have d0 : w1.cell? ⟨CB, 0, none⟩ = some (.slice X1 n1 xc1) := HK.out.cell (j := 0) rfl
      have d1 : w1.cell? ⟨CB, 1, none⟩ = some (.slice X2 n2 xc2) := HK.out.cell (j := 1) rfl
      clear a1 a2
      go_wp2_with fail
      refine HC.out.mono ?_
      rintro e w2 ⟨A3, c3, rfl, hr3, hb3, _⟩
      have HR3 := Lib.hid hr3
      have HB3 := Lib.hid (below_newL HBW.out hb3)
      clear hr3 hb3 d0 d1
      obtain ⟨m2, hm2⟩ : ∃ m2, m2 = m + (n1 + n2) := ⟨_, rfl⟩
      rw [← hm2] at HM2 ⊢
      have hm3 : m2 ≤ 65 * (k + 1) := by omega
      clear hm2
      go_wp2_with fail
      exact ⟨⟨k + 1, A3, c3, m2, _, rfl, by omega, rfl, hm3, HM2, HZ2, HR3, HB3⟩, measL hlt⟩
    · obtain rfl : k = n := by omega
      have HE : Hid (zs = askedP (rulesOf L)) := Lib.hid (by rw [HZ.out, List.take_of_length_le (by unfold rulesOf; rw [List.length_map, HN.out]; exact Nat.le_refl _)])
      go_wp2_with fail
      go_ret
      exact ⟨A', c', by rw [← HE.out, HM.out]; rfl, by rw [← HE.out]; exact HR.out, HB.out⟩
end Go.Proofs.Ytoandhhkmkgmaaa
/- Contract: infer.Fill. At most 2^40 - 5000 names that are there. -/
namespace Go.Proofs.Ytoandhhkmkgmaaa
open Go.RowKit

theorem firstE_ok {l : List RuleT} (h : firstE l = 0) : ∀ r ∈ l, rlE r = 0 := fun r hr => by
  by_cases h0 : rlE r = 0
  · exact h0
  · unfold firstE at h
    cases hf : (l.map rlE).find? (· != 0) with
    | none =>
      rw [List.find?_eq_none] at hf
      have := hf (rlE r) (List.mem_map.2 ⟨r, hr, rfl⟩)
      simp [h0] at this
    | some v =>
      rw [hf] at h
      have := List.find?_some hf
      simp only [Option.getD_some] at h
      subst h
      cases this
structure JoinFacts (all : List RuleT) : Prop where
  len : all.length ≤ 64
  tgt : ∀ r ∈ all, r.1.length = 1
  many : ∀ r ∈ all, r.2.length ≤ 64
  good : ∀ r ∈ all, ∀ s ∈ r.1 ++ r.2, goodName s = true
  one : OneEach all
theorem joinR_facts {R : List RuleT} (h : joinE R = 0) : JoinFacts (joinR R) := by
  have h1 : ¬ 100 < R.length := fun e => by rw [joinE_big e] at h; cases h
  have h2 : firstE R = 0 := by
    by_cases h2 : firstE R = 0
    · exact h2
    · rw [joinE_bad h1 h2] at h; exact absurd h h2
  have h3 : ¬ (64 < (tgtsR R).length ∨ wideB R = true) := fun e => by rw [joinE_many h1 h2 e] at h; cases h
  rw [not_or] at h3
  have hok := firstE_ok h2
  have hw : ∀ t ∈ tgtsR R, (needsR R t).length ≤ 64 := fun t ht => by
    by_cases hq : 64 < (needsR R t).length
    · exact absurd (List.any_eq_true.2 ⟨t, ht, by simpa using hq⟩) h3.2
    · omega
  refine ⟨?_, ?_, ?_, ?_, joinR_one R⟩
  · rw [joinR_ok h, List.length_map]; omega
  · intro r hr
    rw [joinR_ok h] at hr
    obtain ⟨t, _, rfl⟩ := List.mem_map.1 hr
    rfl
  · intro r hr
    rw [joinR_ok h] at hr
    obtain ⟨t, ht, rfl⟩ := List.mem_map.1 hr
    exact hw t ht
  · intro r hr s hs
    rw [joinR_ok h] at hr
    obtain ⟨t, ht, rfl⟩ := List.mem_map.1 hr
    rcases List.mem_append.1 hs with hs | hs
    · rw [List.mem_singleton] at hs
      subst hs
      unfold tgtsR at ht
      rw [mem_rising] at ht
      obtain ⟨r, hr, htr⟩ := List.mem_flatMap.1 ht
      exact List.all_eq_true.1 (rlE_ok (hok r hr)).2.2.2.1 _ htr
    · exact needsR_each (P := fun s => goodName s = true) (fun r hr x hx => List.all_eq_true.1 (rlE_ok (hok r hr)).2.2.2.2.1 x hx) t s hs
theorem JoinFacts.sum {all : List RuleT} (h : JoinFacts all) : ∀ r ∈ all, r.1.length + r.2.length ≤ 65 := fun r hr => by
  have := h.tgt r hr
  have := h.many r hr
  omega
theorem JoinFacts.asked_good {all : List RuleT} (h : JoinFacts all) : ∀ s ∈ askedP all, goodName s = true := fun s hs => by
  obtain ⟨r, hr, hs⟩ := List.mem_flatMap.1 hs
  exact h.good r hr s hs
theorem JoinFacts.said_good {all : List RuleT} (h : JoinFacts all) {there : List KeyT} (ht : there.all goodName = true) : (there ++ askedP all).all goodName = true := List.all_eq_true.2 fun s hs => by
  rcases List.mem_append.1 hs with hs | hs
  · exact List.all_eq_true.1 ht s hs
  · exact h.asked_good s hs
theorem sortL_good {l : List KeyT} (h : l.all goodName = true) : sortL l = rising l := if_pos h
theorem heads_snoc (l : List RuleT) (r : RuleT) : headsP (l ++ [r]) = headsP l ++ [r.1.headD []] := by unfold headsP; simp
/-- The map while the rules are put into it. -/
structure HSays (all : List RuleT) (k : Nat) (M : GrpT) : Prop where
  keys : ∀ t, t ∈ keysG M ↔ t ∈ headsP (all.take k)
  vals : ∀ x ∈ M, x.2.2.2 = needsR all x.1
theorem HSays.start (all : List RuleT) : HSays all 0 [] := ⟨fun t => by simp [keysG, headsP], fun x hx => by cases hx⟩
theorem HSays.put {all : List RuleT} (hall : OneEach all) {k : Nat} {M M' : GrpT} (h : HSays all k M) {r : RuleT} (hr : all[k]? = some r) {t : KeyT} {v : PartT} (ht : r.1 = [t]) (hv : v.2.2 = r.2)
    (hm : ∀ x ∈ M', x = (t, v) ∨ (x ∈ M ∧ x.1 ≠ t)) (hk : ∀ t', t' ∈ keysG M' ↔ t' ∈ keysG M ∨ t' = t) : HSays all (k + 1) M' := by
  refine ⟨fun u => ?_, fun x hx => ?_⟩
  · rw [hk, h.keys u, take_snocS hr, heads_snoc, List.mem_append, List.mem_singleton, ht]
    rfl
  · rcases hm x hx with rfl | ⟨hx', _⟩
    · simp only
      rw [hv, needsR_in hall (List.mem_of_getElem? hr) ht]
    · exact h.vals x hx'
theorem HSays.over {l : List SufT} {all : List RuleT} {known : List KeyT} {M : GrpT} {k : Nat} (h : HSays all k M) (hk : all.length ≤ k) : FSays l all known [] M := by
  refine ⟨fun t => ?_, fun x hx => ⟨(fun hd => by cases hd), fun _ => h.vals x hx⟩⟩
  rw [h.keys t, List.take_of_length_le hk]
  simp
def FillPost (r : List RuleT) (l : List SufT) (there : List KeyT) (w : World) (e : Ending) (w' : World) : Prop :=
  ∃ A c L, e = .returned (.tuple #[.slice A L.length c, .int .i64 (fillE r l there : Nat)]) ∧ RsAll A L w' ∧ rulesOf L = fillR r l there ∧ Below w.heap.size w w'
theorem fillPost_no {r : List RuleT} {l : List SufT} {there : List KeyT} {w w' : World} {v : Int} (h : fillE r l there ≠ 0) (hv : v = (fillE r l there : Nat)) (hb : Below w.heap.size w w') : FillPost r l there w (.returned (.tuple #[.slice none 0 0, .int .i64 v])) w' :=
  ⟨none, 0, [], by rw [hv]; rfl, RsAll.nil _ _, by rw [fillR_no h]; rfl, hb⟩
theorem needF_good {l : List SufT} {all : List RuleT} {known : List KeyT} (hf : JoinFacts all) (hk : ∀ s ∈ known, goodName s = true) (t : KeyT) : ∀ s ∈ needF l all known t, goodName s = true := fun s hs => by
  unfold needF at hs
  split at hs
  · rw [Option.mem_toList] at hs
    exact hk s (ofP_mem hs)
  · exact needsR_each (P := fun s => goodName s = true) (fun r hr x hx => hf.good r hr x (List.mem_append_right _ hx)) t s hs
theorem needF_len {l : List SufT} {all : List RuleT} {known : List KeyT} (hf : JoinFacts all) (t : KeyT) : (needF l all known t).length ≤ 64 := by
  unfold needF
  split
  · cases ofP l known t <;> simp
  · by_cases hs : t ∈ headsP all
    · obtain ⟨r, hr, he⟩ := List.mem_map.1 hs
      obtain ⟨u, hu⟩ := hf.one.one r hr
      rw [hu] at he
      have he' : u = t := he
      subst he'
      rw [needsR_in hf.one hr hu]
      exact hf.many r hr
    · rw [needsR_off hf.one hs]; simp
theorem rd_one_at {w : World} {A : Option Addr} {t : KeyT} (h : Rd w A ([t].map sv)) : ∃ b off, A = some ⟨b, off, none⟩ ∧ w.cell? ⟨b, off, none⟩ = some (.string ⟨t.toArray⟩) := by
  obtain ⟨b, off, hA, _, hc⟩ := h (by simp)
  exact ⟨b, off, hA, hc 0 _ rfl⟩
theorem rd_lt {w : World} {A : Option Addr} {xs : List Value} (h : Rd w A xs) : ∀ g off, A = some ⟨g, off, none⟩ → 0 < xs.length → g < w.heap.size := fun g off hA hp => by
  obtain ⟨g', off', hA', hlt, _⟩ := h hp
  rw [hA] at hA'
  injection hA' with hA'
  injection hA' with hA' _ _
  omega
theorem drew_zero (W : World) : W.drewN 0 = W := rfl
theorem drew_one (W : World) : W.drewN 1 = W.drew := rfl
theorem below_gb {w w' : World} {bm : Nat} (h : w.grownBy w' (some bm)) (hb : bm ≤ w.heap.size) : Below bm w w' :=
  ⟨h.os, h.tape, h.output, h.size, fun k hk => h.block k (by omega) (fun e => by injection e with e; omega)⟩
theorem gb_below2 {w w1 w2 : World} {bm : Nat} (h : w.grownBy w1 (some bm)) (hb : Below w1.heap.size w1 w2) : w.grownBy w2 (some bm) :=
  ⟨hb.os.trans h.os, hb.tape.trans h.tape, hb.output.trans h.output, Nat.le_trans h.size hb.size, fun k hk hne => (hb.block k (Nat.lt_of_lt_of_le hk h.size)).trans (h.block k hk hne)⟩
theorem gb_setB {w w1 : World} {bm : Nat} (h : w.grownBy w1 (some bm)) (o : Obj) (q : Nat) : w.grownBy (Go.ChangeMaps.setBlock (w1.drewN q) bm o) (some bm) :=
  ⟨h.os, h.tape, h.output, by rw [setB_size]; exact h.size, fun k hk hne => (setB_other _ _ (fun e => hne (by rw [e]))).trans (h.block k hk hne)⟩
theorem gb_refl (w : World) (r : Option Nat) : w.grownBy w r := ⟨rfl, rfl, rfl, Nat.le_refl _, fun _ _ _ => rfl⟩
theorem rd_gb {w w' : World} {bm : Nat} {A : Option Addr} {l : List KeyT} (h : Rd w A (l.map sv)) (hg : w.grownBy w' (some bm)) (hf : ∀ g off, A = some ⟨g, off, none⟩ → 0 < l.length → g ≠ bm) : Rd w' A (l.map sv) := fun hp => by
  obtain ⟨g, off, hA, hlt, hc⟩ := h hp
  have hne := hf g off hA (by simpa using hp)
  refine ⟨g, off, hA, Nat.lt_of_lt_of_le hlt hg.size, fun j u hu => ?_⟩
  rw [World.cell?_of_block (w := w) (hg.block g hlt (fun e => hne (by injection e)))]
  exact hc j u hu
set_option maxRecDepth 100000 in
/-- What a look-up gives while rules are filled. -/
theorem flook_any {w : World} {bm : Nat} {M : GrpT} (h : RMap w bm M) (s : KeyT) (hs : s.length ≤ 40) :
    ∃ (AV : Option Addr) (nv cv : Nat), (Instr.lookup 80 (.map (some bm)) (.string ⟨s.toArray⟩) false).run Try.prog w = .ok (.slice AV nv cv) w ∧
      ((nv = 0 ∧ ∀ x ∈ M, x.1 = s → x.2.2.2 = []) ∨ (0 < nv ∧ ∃ v, (s, v) ∈ M ∧ v.2.2 ≠ [])) := by
  rcases look_any h.mp h.k40 s hs with ⟨h1, h2⟩ | ⟨j, v, h1, h2⟩
  · exact ⟨none, 0, 0, h2, .inl ⟨rfl, fun x hx e => absurd (List.mem_map.2 ⟨x, hx, e⟩) h1⟩⟩
  · refine ⟨v.1, v.2.2.length, v.2.1, h2, ?_⟩
    rcases Nat.eq_zero_or_pos v.2.2.length with h0 | h0
    · refine .inl ⟨h0, fun x hx e => ?_⟩
      obtain ⟨i, hi⟩ := List.mem_iff_getElem?.1 hx
      have := key_once h.nd hi h1 e
      subst this
      rw [hi] at h1
      injection h1 with h1
      subst h1
      exact List.eq_nil_of_length_eq_zero h0
    · exact .inr ⟨h0, v, List.mem_of_getElem? h1, fun e => by rw [e] at h0; simp at h0⟩
set_option maxRecDepth 100000 in
/-- A look-up of a key that is there. -/
theorem flook_in {w : World} {bm : Nat} {M : GrpT} (h : RMap w bm M) {t : KeyT} (ht : t ∈ keysG M) :
    ∃ v : PartT, (t, v) ∈ M ∧ ∀ W, MapS W bm (mapG M) → (Instr.lookup 80 (.map (some bm)) (.string ⟨t.toArray⟩) false).run Try.prog W = .ok (.slice v.1 v.2.2.length v.2.1) W := by
  have hs := h.k40 t ht
  rcases look_any h.mp h.k40 t hs with ⟨h1, _⟩ | ⟨j, v, h1, _⟩
  · exact absurd ht h1
  · refine ⟨v, List.mem_of_getElem? h1, fun W hW => ?_⟩
    rcases look_any hW h.k40 t hs with ⟨h3, _⟩ | ⟨i, v', h3, h4⟩
    · exact absurd ht h3
    · have := key_once h.nd h1 h3 rfl
      subst this
      rw [h1] at h3
      injection h3 with h3
      injection h3 with _ h3
      subst h3
      exact h4
theorem rd_off_map {w : World} {bm : Nat} {M : SMapT} {A : Option Addr} {xs : List Value} (hm : MapS w bm M) (h : Rd w A xs) : ∀ g off, A = some ⟨g, off, none⟩ → 0 < xs.length → g ≠ bm := fun g off hA hp e => by
  obtain ⟨g', off', hA', _, hc⟩ := h hp
  rw [hA] at hA'
  injection hA' with hA'
  injection hA' with h1 h2 _
  subst h1 h2
  obtain ⟨u, hu⟩ : ∃ u, xs[0]? = some u := ⟨_, List.getElem?_eq_getElem hp⟩
  have h0 := hc 0 u hu
  unfold MapS at hm
  rw [← e] at hm
  simp [World.cell?, hm] at h0
theorem gb_trans {w w1 w2 : World} {r : Option Nat} (h : w.grownBy w1 r) (k : w1.grownBy w2 r) : w.grownBy w2 r :=
  ⟨k.os.trans h.os, k.tape.trans h.tape, k.output.trans h.output, Nat.le_trans h.size k.size, fun b hb hne => (k.block b (Nat.lt_of_lt_of_le hb h.size) hne).trans (h.block b hb hne)⟩
end Go.Proofs.Ytoandhhkmkgmaaa
/- Contract: infer.Fill, its walk. At most 2^40 - 5000 names that are there. -/
namespace Go.Proofs.Ytoandhhkmkgmaaa
open Go.RowKit

set_option maxRecDepth 100000 in
set_option maxHeartbeats 8000000 in
theorem infFill_any {A B C : Option Addr} {n c m d k e : Nat} (L0 : List RSlot) (l : List SufT) (there : List KeyT) (w : World) (hA : RsAll A L0 w) (hn : L0.length = n) (hb : n ≤ 9223372036854775807)
    (hl : Rd w B (macV l)) (hm : l.length = m) (hmb : m ≤ 9223372036854775807) (hmc : m ≤ d) (hls : ∀ x ∈ l, x.1.length ≤ 9223372036854775807 ∧ x.2.length ≤ 9223372036854775807)
    (ht : Rd w C (there.map sv)) (hk : there.length = k) (hkb : k ≤ 8799999990000) (hts : StrsOk there) :
    Calls Try.prog 19 #[.slice A n c, .slice B m d, .slice C k e] w (FillPost (rulesOf L0) l there w) := by
  have HJ := Lib.hid (rlJoin_any (c := c) L0 w hA hn hb)
  have HCK := Lib.hid (fun W (hW : Below w.heap.size w W) => infCheck_any l W (hl.below hW) hm hmb hmc hls)
  have HNM := Lib.hid (fun W (hW : Below w.heap.size w W) => infNames_any (c := e) there W (ht.below hW) hk (by omega) hts)
  have HRL := Lib.hid hl
  have HML := Lib.hid hm
  have HMB := Lib.hid hmb
  have HT := Lib.hid ht
  have HK := Lib.hid hk
  have HTS := Lib.hid hts
  generalize rulesOf L0 = R0 at *
  clear hA hn hl hm hmb hmc hls ht hk hts
  go_enter Try.func19, Try.ntmps19
  go_wp2_with fail
  refine HJ.out.mono ?_
  rintro e w1 ⟨A1, c1, L, rfl, hrs, hrl, hb1⟩
  have HRS := Lib.hid hrs
  have HRR := Lib.hid hrl
  have HB1 := Lib.hid hb1
  clear hrs hrl hb1
  by_cases hj : joinE R0 = 0
  · have HJ0 := Lib.hid hj
    have HJF := Lib.hid (joinR_facts hj)
    rw [hj]
    clear hj
    go_wp2_with fail
    refine (HCK.out _ HB1.out).mono ?_
    rintro e w2 ⟨rfl, hb2⟩
    have HB2 := Lib.hid (below_newL HB1.out hb2)
    have HRS2 := Lib.hid (HRS.out.below hb2)
    clear hb2
    by_cases hi : infE l = 0
    · have HI0 := Lib.hid hi
      rw [hi]
      clear hi
      go_wp2_with fail
      refine (HNM.out _ HB2.out).mono ?_
      rintro e w3 ⟨rfl, hb3⟩
      have HB3 := Lib.hid (below_newL HB2.out hb3)
      have HRS3 := Lib.hid (HRS2.out.below hb3)
      clear hb3
      cases hg : there.all goodName with
      | false =>
        have HE := Lib.hid (fillE_name HJ0.out HI0.out hg)
        rw [show namesErr there = 3 by unfold namesErr; rw [hg]; rfl]
        clear hg
        go_wp2_with fail
        go_ret2
        exact fillPost_no (by rw [HE.out]; decide) (by rw [HE.out]; rfl) HB3.out
      | true =>
        have HG := Lib.hid hg
        rw [show namesErr there = 0 by unfold namesErr; rw [hg]; rfl]
        clear hg
        have HLN : Hid (L.length ≤ 64) := Lib.hid (by have h := HJF.out.len; rw [← HRR.out] at h; unfold rulesOf at h; rw [List.length_map] at h; exact h)
        obtain ⟨nl, hnl⟩ : ∃ nl, L.length = nl := ⟨_, rfl⟩
        have hnl64 : nl ≤ 64 := by rw [← hnl]; exact HLN.out
        have HNL := Lib.hid hnl
        rw [hnl]
        clear hnl
        have HWM : Hid (Below w3.heap.size w3 (w3.alloc (.map #[] 0))) := Lib.hid (below_new (Below.refl _ _) _)
        have HM0 := Lib.hid (RMap.new w3)
        have HRSB := Lib.hid (fun W (hW : Below w3.heap.size w3 W) => HRS3.out.below hW)
        have HBBW := Lib.hid (fun W (hW : Below w3.heap.size w3 W) => (HB3.out.trans (hW.mono HB3.out.size) : Below w.heap.size w W))
        have HRLT : Hid (∀ x ∈ L, (∀ g off, x.1.1 = some ⟨g, off, none⟩ → 0 < (x.2.2.1.map sv).length → g < w3.heap.size) ∧ (∀ g off, x.2.1.1 = some ⟨g, off, none⟩ → 0 < (x.2.2.2.map sv).length → g < w3.heap.size)) := Lib.hid (fun x hx => ⟨rd_lt (HRS3.out.each x hx).t, rd_lt (HRS3.out.each x hx).n⟩)
        have HCLT : Hid (∀ g off, C = some ⟨g, off, none⟩ → 0 < there.length → g < w3.heap.size) := Lib.hid (fun g off hC hp => by
          have := rd_lt HT.out g off hC (by simpa using hp)
          have := HB3.out.size
          omega)
        have hmm := @run_makeMap Try.prog
        go_upto_region 9 with fail
        clear hmm
        generalize w3.alloc (.map #[] 0) = wM at *
        generalize w3.heap.size = bm at *
        clear HB3 HB2 HB1 HRS HRS2 HRS3 HCK HNM HJ
        rw [← HRR.out] at HJF
        have HAL := Lib.hid (asked_len HJF.out.sum)
        have HBMM : Hid (bm < wM.heap.size) := Lib.hid HM0.out.mp.lt
        have HBB3 := Lib.hid (fun W (hG : wM.grownBy W (some bm)) => (HWM.out.trans (below_gb hG (Nat.le_of_lt HBMM.out)) : Below bm w3 W))
        go_wp2_with fail
        go_loopw [11, 13, 41] (fun v _ i wq => ∃ (q : Nat) (AZ : Option Addr) (cz mz : Nat) (zs : List KeyT) (M : GrpT), i = .int .i64 (q : Int) ∧ q ≤ nl ∧ v = .slice AZ mz cz ∧ mz ≤ k + 65 * q ∧ Hid (zs.length = mz) ∧ Hid (zs = there ++ askedP ((rulesOf L).take q)) ∧ Hid (Rd wq AZ (zs.map sv)) ∧ Hid (∀ g off, AZ = some ⟨g, off, none⟩ → 0 < zs.length → g ≠ bm) ∧ Hid (RMap wq bm M) ∧ Hid (HSays (rulesOf L) q M) ∧ Hid (M.length ≤ q) ∧ Hid (wM.grownBy wq (some bm))) (fun _ _ i _ => nl - (intOf i).toNat)
        case atStart => exact ⟨0, C, e, k, there, [], rfl, by omega, rfl, by omega, HK, Lib.hid (by simp [askedP]), Lib.hid (HT.out.below (HBBW.out _ HWM.out)), Lib.hid (fun g off hC hp => by have := HCLT.out g off hC hp; omega), HM0, Lib.hid (HSays.start _), Lib.hid (by simp), Lib.hid (gb_refl _ _)⟩
        case round =>
          obtain ⟨q, AZ, cz, mz, zs, M, rfl, hq, rfl, hmz, HZL, HZS, HRZ, HZF, HM, HS, HML2, HGB⟩ := hrel
          have HB3 := Lib.hid (HBB3.out _ HGB.out)
          have HBW := Lib.hid (HBBW.out _ HB3.out)
          have HRW := Lib.hid (HRSB.out _ HB3.out)
          by_cases hltq : q < nl
          · obtain ⟨x, hx⟩ : ∃ x, L[q]? = some x := ⟨_, List.getElem?_eq_getElem (by rw [HNL.out]; exact hltq)⟩
            have HXL := Lib.hid (HRLT.out x (List.mem_of_getElem? hx))
            have HR := Lib.hid (rulesOf_at hx)
            have HX := Lib.hid (HRW.out.each x (List.mem_of_getElem? hx))
            have HT1 := Lib.hid (HJF.out.tgt _ (List.mem_of_getElem? HR.out))
            have HT2 := Lib.hid (HJF.out.many _ (List.mem_of_getElem? HR.out))
            have HT3 := Lib.hid (HJF.out.good _ (List.mem_of_getElem? HR.out))
            obtain ⟨b1, o1, rfl, a1, a2⟩ := HRW.out.rd.two hx
            obtain ⟨⟨X1, xc1⟩, ⟨X2, xc2⟩, r⟩ := x
            unfold RsIn at HX
            simp only [rsT, rsN] at a1 a2 HX HR HXL HT1 HT2 HT3
            have hcap : 2 * q = q * 2 := by omega
            rw [hcap] at a1 a2
            obtain ⟨t, htt⟩ : ∃ t, r.1 = [t] := List.length_eq_one_iff.1 HT1.out
            have HTT := Lib.hid htt
            have hxt := HX.out.t
            rw [htt] at hxt
            obtain ⟨tb, tq, rfl, et⟩ := rd_one_at hxt
            have HL1 : Hid (r.1.length = 1) := HT1
            rw [HT1.out] at a1
            have HBN := Lib.hid (below_new (Below.refl wr.heap.size wr) (.cells #[.slice (some ⟨tb, tq, none⟩) 1 xc1, .slice X2 r.2.length xc2] 82))
            have HKX := Lib.hid (Blk.new wr #[.slice (some ⟨tb, tq, none⟩) 1 xc1, .slice X2 r.2.length xc2] 82)
            have HCN : Hid (wr.heap.size ≠ bm) := Lib.hid (by have := HM.out.mp.lt; omega)
            have HGN := Lib.hid (gb_below2 HGB.out HBN.out)
            have et2 := cell_kept et HBN.out
            obtain ⟨o, M', hst, hrm, hmem, hkeys, hlen⟩ := rput_any (HM.out.below HBN.out) t (X2, xc2, r.2) (good_len (HT3.out t (by rw [htt]; exact List.mem_append_left _ (List.mem_singleton_self _)))) (HX.out.n.below HBN.out) (fun g off hA hp => by have := HXL.out.2 g off hA (by simpa using hp); omega) HX.out.nc
            have hst1 := hst 1
            simp only [] at hst1
            have HRM := Lib.hid (hrm 1)
            have HS2 := Lib.hid (HS.out.put HJF.out.one HR.out htt rfl hmem hkeys)
            have HML3 : Hid (M'.length ≤ q + 1) := Lib.hid (by have := HML2.out; omega)
            have HKX2 := Lib.hid ((HKX.out.below (Below.drew (Below.refl _ _)) HKX.out.lt).setB HCN.out o)
            have HG2 := Lib.hid (gb_setB HGN.out o 1)
            have HZ6 : Hid (Rd (Go.ChangeMaps.setBlock ((wr.alloc (.cells #[.slice (some ⟨tb, tq, none⟩) 1 xc1, .slice X2 r.2.length xc2] 82)).drewN 1) bm o) AZ (zs.map sv)) := Lib.hid (rd_setB ((HRZ.out.below HBN.out).drewN 1) HZF.out)
            have HT6 : Hid (Rd (Go.ChangeMaps.setBlock ((wr.alloc (.cells #[.slice (some ⟨tb, tq, none⟩) 1 xc1, .slice X2 r.2.length xc2] 82)).drewN 1) bm o) (some ⟨tb, tq, none⟩) (r.1.map sv)) := Lib.hid (rd_setB ((HX.out.t.below HBN.out).drewN 1) (fun g off hA hp => by have := HXL.out.1 g off hA (by simpa using hp); omega))
            have HN6 : Hid (Rd (Go.ChangeMaps.setBlock ((wr.alloc (.cells #[.slice (some ⟨tb, tq, none⟩) 1 xc1, .slice X2 r.2.length xc2] 82)).drewN 1) bm o) X2 (r.2.map sv)) := Lib.hid (rd_setB ((HX.out.n.below HBN.out).drewN 1) (fun g off hA hp => by have := HXL.out.2 g off hA (by simpa using hp); omega))
            rw [drew_one] at hst1 HRM HG2 HZ6 HT6 HN6
            have hk1 : (q : Int) < (nl : Int) := by omega
            have HN2L : Hid (r.2.length = r.2.length) := Lib.hid rfl
            have hn2 : r.2.length ≤ 64 := HT2.out
            clear hx hcap HX hst hrm hmem hkeys hlen htt hxt HN2L
            generalize hn2e : r.2.length = n2 at *
            have HN2E := Lib.hid hn2e
            generalize hbt : (⟨t.toArray⟩ : ByteArray) = bt at *
            clear hn2e hbt et
            go_upto_region 13 with fail
            generalize wr.alloc (.cells #[.slice (some ⟨tb, tq, none⟩) 1 xc1, .slice X2 n2 xc2] 82) = w5 at *
            generalize wr.heap.size = CB at *
            have d0 : w5.cell? ⟨CB, 0, none⟩ = some (.slice (some ⟨tb, tq, none⟩) 1 xc1) := HKX.out.cell (j := 0) rfl
            have d1 : w5.cell? ⟨CB, 1, none⟩ = some (.slice X2 n2 xc2) := HKX.out.cell (j := 1) rfl
            clear a1 a2
            go_region
            generalize Go.ChangeMaps.setBlock w5.drew bm o = w6 at *
            have HKX2L := Lib.hid HKX2.out.lt
            have d2 : w6.cell? ⟨CB, 0, none⟩ = some (.slice (some ⟨tb, tq, none⟩) 1 xc1) := HKX2.out.cell (j := 0) rfl
            have d3 : w6.cell? ⟨CB, 1, none⟩ = some (.slice X2 n2 xc2) := HKX2.out.cell (j := 1) rfl
            have HC3 := Lib.hid (concat3_any (c1 := cz) (c2 := xc1) (c3 := xc2) zs r.1 r.2 w6 HZ6.out HT6.out HN6.out HZL.out HL1.out HN2E.out (by omega))
            have HZ2 : Hid (zs ++ (r.1 ++ r.2) = there ++ askedP ((rulesOf L).take (q + 1))) := Lib.hid (by rw [asked_take HR.out, HZS.out, List.append_assoc])
            have HM2 : Hid ((zs ++ (r.1 ++ r.2)).length = mz + (1 + n2)) := Lib.hid (by rw [List.length_append, List.length_append, HZL.out, HL1.out, HN2E.out])
            have HBM6 : Hid (bm < w6.heap.size) := Lib.hid HRM.out.mp.lt
            clear d0 d1 hst1 et2
            go_wp2_with fail
            refine HC3.out.mono ?_
            rintro e w7 ⟨A3, c3, rfl, hr3, hb3, hf3⟩
            have HR3 := Lib.hid hr3
            have HF3 : Hid (∀ g off, A3 = some ⟨g, off, none⟩ → 0 < (zs ++ (r.1 ++ r.2)).length → g ≠ bm) := Lib.hid (fun g off hA _ => by have := hf3 g off hA; have := HBM6.out; omega)
            have HRM7 := Lib.hid (HRM.out.below hb3)
            have HG7 := Lib.hid (gb_below2 HG2.out hb3)
            clear hr3 hb3 hf3 d2 d3
            obtain ⟨m2, hm2⟩ : ∃ m2, m2 = mz + (1 + n2) := ⟨_, rfl⟩
            rw [← hm2] at HM2 ⊢
            have hm3 : m2 ≤ k + 65 * (q + 1) := by omega
            clear hm2
            go_wp2_with fail
            exact ⟨⟨q + 1, A3, c3, m2, _, M', rfl, by omega, rfl, hm3, HM2, HZ2, HR3, HF3, HRM7, HS2, HML3, HG7⟩, measL hltq⟩
          · obtain rfl : q = nl := by omega
            have HTK : Hid ((rulesOf L).take q = rulesOf L) := Lib.hid (List.take_of_length_le (by unfold rulesOf; rw [List.length_map, HNL.out]; exact Nat.le_refl _))
            rw [HTK.out] at HZS
            have HZG : Hid (zs.all goodName = true) := Lib.hid (by rw [HZS.out]; exact HJF.out.said_good HG.out)
            have HSO := Lib.hid (nSort_any (c := cz) zs wr HRZ.out HZL.out (by omega) (fun s hs => by have := good_len (List.all_eq_true.1 HZG.out s hs); omega))
            have HKN : Hid (sortL zs = saidP (rulesOf L) there) := Lib.hid (by rw [sortL_good HZG.out, HZS.out]; rfl)
            have HFS := Lib.hid (HS.out.over (l := l) (known := saidP (rulesOf L) there) (by unfold rulesOf; rw [List.length_map, HNL.out]; exact Nat.le_refl _))
            have HKG : Hid (∀ s ∈ saidP (rulesOf L) there, goodName s = true) := Lib.hid (fun s hs => by
              rw [← HKN.out, sortL_good HZG.out, mem_rising] at hs
              exact List.all_eq_true.1 HZG.out s hs)
            unfold SortPost at HSO
            rw [HKN.out] at HSO
            clear HZF HZL HZS HRZ
            go_wp2_with fail
            refine HSO.out.mono ?_
            rintro e w4 ⟨AK, cK, rfl, hrK, hb4⟩
            have HRK := Lib.hid hrK
            have HM4 := Lib.hid (HM.out.below hb4)
            have HG4 := Lib.hid (gb_below2 HGB.out hb4)
            have HEW := Lib.hid (fun h => fillE_wide (r := R0) (l := l) (there := there) HJ0.out HI0.out HG.out h)
            have HEO := Lib.hid (fun h => fillE_ok (r := R0) (l := l) (there := there) HJ0.out HI0.out HG.out h)
            have HFO := Lib.hid (fun h => fillR_ok (r := R0) (l := l) (there := there) h)
            rw [← HRR.out] at HEW HEO HFO
            generalize saidP (rulesOf L) there = K at *
            clear hrK hb4 HM HGB
            by_cases h64 : 64 < K.length
            · have HE := Lib.hid (HEW.out h64)
              have h65 : (64 : Int) < (K.length : Int) := by omega
              clear h64
              go_wp2_with fail
              go_ret2
              exact fillPost_no (by rw [HE.out]; decide) (by rw [HE.out]; rfl) (HBBW.out _ (HBB3.out _ HG4.out))
            · have HE := Lib.hid (HEO.out h64)
              have h65 : ¬ (64 : Int) < (K.length : Int) := by omega
              have HK64 : Hid (K.length ≤ 64) := Lib.hid (by omega)
              have HRA := Lib.hid ((HRSB.out _ (HBB3.out _ HG4.out)).two)
              have HAS := Lib.hid (asked_any (c := c1) L w4 HRA.out HNL.out (by omega) HJF.out.sum)
              have HAL2 : Hid ((askedP (rulesOf L)).length ≤ 4160) := Lib.hid (by have h := HAL.out q; rw [HTK.out] at h; omega)
              clear h64
              generalize hkl : K.length = kl at *
              have HKL := Lib.hid hkl
              clear hkl
              go_wp2_with fail
              refine HAS.out.mono ?_
              rintro e w5 ⟨AA, cA, rfl, hrA, hb5⟩
              have HRAA := Lib.hid hrA
              have HM5 := Lib.hid (HM4.out.below hb5)
              have HG5 := Lib.hid (gb_below2 HG4.out hb5)
              have HRK5 := Lib.hid (HRK.out.below hb5)
              have HKF := Lib.hid (rd_off_map HM5.out.mp HRK5.out)
              have HAF := Lib.hid (rd_off_map HM5.out.mp HRAA.out)
              have HAGD : Hid (∀ s ∈ askedP (rulesOf L), goodName s = true) := Lib.hid HJF.out.asked_good
              have HKE := Lib.hid (fun (M : GrpT) (h : FSays l (rulesOf L) K (askedP (rulesOf L)) M) => h.keys_end HJF.out.one)
              have HVE := Lib.hid (fun (M : GrpT) (h : FSays l (rulesOf L) K (askedP (rulesOf L)) M) => h.vals_end HJF.out.one)
              have HLS := Lib.hid (fun x (hx : x ∈ l) => Nat.le_trans (sufB_len ((infE_ok HI0.out).2 x hx).1) (by decide : 10 ≤ 1099511627776))
              have HBM5 := Lib.hid HM5.out.mp.lt
              have hna := HAL2.out
              clear hrA hb5 HM4 HG4 HRK
              generalize hfp : fillP l (rulesOf L) K = FP at *
              have HFP : Hid (FP = ((rising (askedP (rulesOf L))).filter (isF l (rulesOf L) K)).map fun s => ([s], needF l (rulesOf L) K s)) := Lib.hid hfp.symm
              generalize has : askedP (rulesOf L) = AS at *
              have HASE := Lib.hid has
              generalize hna2 : AS.length = na at *
              have HNA := Lib.hid hna2
              clear hfp has hna2
              go_wp2_with fail
              go_loopw [15, 16, 17, 71] (fun _ _ _ i wq => ∃ (j : Nat) (M : GrpT), i = .int .i64 (j : Int) ∧ j ≤ na ∧ Hid (RMap wq bm M) ∧ Hid (FSays l (rulesOf L) K (AS.take j) M) ∧ Hid (M.length ≤ q + j) ∧ Hid (w5.grownBy wq (some bm))) (fun _ _ _ i _ => na - (intOf i).toNat)
              case atStart => exact ⟨0, M, rfl, by omega, HM5, HFS, HML2, Lib.hid (gb_refl _ _)⟩
              case round =>
                clear HM5 HFS HML2
                obtain ⟨j, M, rfl, hj, HM, HFS, HML2, HGB⟩ := hrel
                have HGW := Lib.hid (gb_trans HG5.out HGB.out)
                have HBW := Lib.hid (HBBW.out _ (HBB3.out _ HGW.out))
                by_cases hltj : j < na
                · obtain ⟨s, hs⟩ : ∃ s, AS[j]? = some s := ⟨_, List.getElem?_eq_getElem (by rw [HNA.out]; exact hltj)⟩
                  obtain ⟨b1, o1, rfl, ec⟩ := (rd_gb HRAA.out HGB.out (fun g off hA hp => HAF.out g off hA (by simpa using hp))).scell hs
                  have HSG := Lib.hid (HAGD.out s (List.mem_of_getElem? hs))
                  have HS40 := Lib.hid (good_len HSG.out)
                  have HTK2 : Hid (AS.take (j + 1) = AS.take j ++ [s]) := Lib.hid (take_snocS hs)
                  obtain ⟨AV, nv, cv, hlk, hcase⟩ := flook_any HM.out s HS40.out
                  have HCS := Lib.hid hcase
                  have HOF := Lib.hid (infOf_any (c := d) (d := cK) l K s wr (HRL.out.below HBW.out) HML.out HMB.out (rd_gb HRK5.out HGB.out (fun g off hA hp => HKF.out g off hA (by simpa using hp))) HKL.out (by omega) (by have := HS40.out; omega) HLS.out)
                  have hj1 : (j : Int) < (na : Int) := by omega
                  have HPUT := Lib.hid (fun (W : World) (hW : RMap W bm M) (v : PartT) h1 h2 h3 => rput_any hW s v HS40.out h1 h2 h3)
                  unfold sv at HOF
                  clear hs hcase
                  generalize (⟨s.toArray⟩ : ByteArray) = bs at *
                  by_cases hnv : 0 < nv
                  · have HFS2 : Hid (FSays l (rulesOf L) K (AS.take (j + 1)) M) := Lib.hid (by
                      rcases HCS.out with ⟨h0, _⟩ | ⟨_, v, hv, hne⟩
                      · omega
                      · rw [HTK2.out]; exact HFS.out.more HM.out.nd hv hne)
                    have hnv1 : (0 : Int) < (nv : Int) := by omega
                    clear hnv
                    go_wp2_with fail
                    exact ⟨⟨j + 1, M, rfl, by omega, HM, HFS2, Lib.hid (by have := HML2.out; omega), HGB⟩, measL hltj⟩
                  · have HZ : Hid (∀ x ∈ M, x.1 = s → x.2.2.2 = []) := Lib.hid (by
                      rcases HCS.out with ⟨_, h⟩ | ⟨h0, _⟩
                      · exact h
                      · omega)
                    obtain rfl : nv = 0 := by omega
                    clear hnv
                    cases ho : ofP l K s with
                    | none =>
                      have HFS2 : Hid (FSays l (rulesOf L) K (AS.take (j + 1)) M) := Lib.hid (by rw [HTK2.out]; exact HFS.out.stay HZ.out ho)
                      rw [ho] at HOF
                      clear ho
                      go_wp2_with fail
                      refine HOF.out.mono ?_
                      rintro e w6 ⟨rfl, hb6⟩
                      have HM6 := Lib.hid (HM.out.below hb6)
                      have HG6 := Lib.hid (gb_below2 HGB.out hb6)
                      clear hb6 hlk ec
                      go_wp2_with fail
                      exact ⟨⟨j + 1, M, rfl, by omega, HM6, HFS2, Lib.hid (by have := HML2.out; omega), HG6⟩, measL hltj⟩
                    | some f =>
                      have HOS := Lib.hid ho
                      have HF40 := Lib.hid (good_len (HKG.out f (ofP_mem ho)))
                      rw [ho] at HOF
                      unfold ofV at HOF
                      simp only [Option.getD_some, Option.isSome_some] at HOF
                      have HBF : Hid (sv f = .string ⟨f.toArray⟩) := Lib.hid rfl
                      generalize (⟨f.toArray⟩ : ByteArray) = bf at *
                      clear ho
                      go_wp2_with fail
                      refine HOF.out.mono ?_
                      rintro e w6 ⟨rfl, hb6⟩
                      have hbn := below_new (Below.refl w6.heap.size w6) (.cells #[.string bf] 9)
                      have hm7 := (HM.out.below hb6).below hbn
                      obtain ⟨o, M', hst, hrm, hmem, hkeys, hlen⟩ := HPUT.out _ hm7 (some ⟨w6.heap.size, 0, none⟩, 1, [f]) (rd_lit w6 _ #[.string bf] 9 _ rfl (by rw [← HBF.out]; rfl)) (fun g off hA _ => by
                        injection hA with hA; injection hA with hA _ _
                        have := (HM.out.below hb6).mp.lt
                        omega) (Nat.le_refl _)
                      have hst0 := hst 0
                      have HRM := Lib.hid (hrm 0)
                      have HG7 := Lib.hid (gb_setB (gb_below2 (gb_below2 HGB.out hb6) hbn) o 0)
                      rw [drew_zero] at hst0 HRM HG7
                      simp only [List.length_cons, List.length_nil] at hst0
                      have HFS2 : Hid (FSays l (rulesOf L) K (AS.take (j + 1)) M') := Lib.hid (by rw [HTK2.out]; exact HFS.out.put (by rw [HRR.out]; exact joinR_one R0) HZ.out HOS.out rfl hmem hkeys)
                      have HML3 : Hid (M'.length ≤ q + (j + 1)) := Lib.hid (by have := HML2.out; omega)
                      clear hb6 hlk ec hst hrm hmem hkeys hlen hbn hm7
                      go_wp2_with fail
                      generalize Go.ChangeMaps.setBlock (w6.alloc (.cells #[.string bf] 9)) bm o = w8 at *
                      exact ⟨⟨j + 1, M', rfl, by omega, HRM, HFS2, HML3, HG7⟩, measL hltj⟩
                · obtain rfl : j = na := by omega
                  have HTK3 : Hid (AS.take j = AS) := Lib.hid (List.take_of_length_le (by rw [HNA.out]; exact Nat.le_refl _))
                  rw [HTK3.out] at HFS
                  have HKE2 := Lib.hid (HKE.out M HFS.out)
                  have HVE2 := Lib.hid (HVE.out M HFS.out)
                  have HMM : Hid (M.length ≤ maxLen) := Lib.hid (by have := HML2.out; unfold maxLen; omega)
                  have HMS : Hid (M.length ≤ 5000) := Lib.hid (by have := HML2.out; omega)
                  obtain ⟨D, hown, hperm, hsize⟩ := mapS_owns strKind HM.out.mp (keysOk_of HM.out.k40) (by rw [keysS_mapG]; exact HM.out.nd) (by rw [show (mapG M).length = M.length by unfold mapG; simp]; exact HMM.out)
                  rw [keysS_mapG] at hperm
                  rw [show (mapG M).length = M.length by unfold mapG; simp] at hown hsize
                  have CK := Lib.hid ((callsIn_wide (n := 5)).1 (Try.maps_Keys_47 (some bm) wr))
                  have CS := Lib.hid ((callsIn_wide (n := 5)).1 (Try.slices_Sorted_keys_46_47 bm M.length D noR wr hown (by rw [hsize]; exact HMM.out) (by rw [hsize]; have := HMS.out; omega)))
                  have HPM := Lib.hid hperm
                  clear hown hperm hsize
                  go_wp2_with fail
                  refine CK.out.mono ?_
                  rintro e w6 ⟨rfl, rfl⟩
                  go_wp2_with fail
                  refine CS.out.mono ?_
                  rintro e w7 ⟨v, ss, rfl, hpm, hown7, _, hb7⟩
                  obtain ⟨AT, cT, rfl⟩ := own_form hown7
                  have HST : Hid (ss.mergeSort (fun x y => decide (x ≤ y)) = (rising AS).filter (isF l (rulesOf L) K)) := Lib.hid (sorted_keysF (hpm.trans HPM.out) HM.out.nd (filter_up (rising_up AS) _) HKE2.out)
                  have HSL : Hid (ss.length = ((rising AS).filter (isF l (rulesOf L) K)).length) := Lib.hid (by rw [← HST.out]; simp)
                  have HSK : Hid ((keysG M).length = ((rising AS).filter (isF l (rulesOf L) K)).length) := Lib.hid (by rw [← HSL.out]; exact (hpm.trans HPM.out).length_eq.symm)
                  have HTM : Hid (∀ t ∈ (rising AS).filter (isF l (rulesOf L) K), t ∈ keysG M) := Lib.hid (fun t ht => (HKE2.out t).2 ht)
                  rw [HST.out, HSL.out] at hown7
                  have hal := below_new (Below.refl wr.heap.size wr) (.cells #[.map (some bm)] 80)
                  have HM7 := Lib.hid ((HM.out.below hal).below hb7)
                  have HB7 := Lib.hid (below_newL (below_newL HBW.out hal) hb7)
                  have HRT : Hid (Rd w7 AT (((rising AS).filter (isF l (rulesOf L) K)).map sv)) := Lib.hid (Rd.of_own hown7)
                  have HTL : Hid (((rising AS).filter (isF l (rulesOf L) K)).length ≤ 5000) := Lib.hid (by
                    have h2 := HSK.out
                    have h3 := HMS.out
                    unfold keysG at h2
                    rw [List.length_map] at h2
                    omega)
                  rw [HSL.out]
                  generalize hTT : (rising AS).filter (isF l (rulesOf L) K) = TT at *
                  have HTT := Lib.hid hTT
                  clear hTT hown7 hb7 hal hpm CK CS
                  have htl := HTL.out
                  have HNFG := Lib.hid (fun t => needF_good (l := l) HJF.out HKG.out t)
                  have HNFL := Lib.hid (fun t => needF_len (l := l) (known := K) HJF.out t)
                  have HVE3 : Hid (∀ x ∈ M, x.2.2.2 = needF l (rulesOf L) K x.1) := HVE2
                  generalize hNF : needF l (rulesOf L) K = NF at *
                  clear hNF HVE HVE2 HKE HKE2 HFS
                  go_wp2_with fail
                  go_loopw [18, 20, 97] (fun v _ i wq => ∃ (z : Nat) (AO : Option Addr) (cO : Nat) (LO : List RSlot), i = .int .i64 (z : Int) ∧ z ≤ TT.length ∧ v = .slice AO z cO ∧ Hid (rulesOf LO = (TT.take z).map fun s => ([s], NF s)) ∧ Hid (OutInv wq w7.heap.size AO z cO LO) ∧ Hid (Below w7.heap.size w7 wq)) (fun _ _ i _ => TT.length - (intOf i).toNat)
                  case atStart => exact ⟨0, none, 0, [], rfl, by omega, rfl, Lib.hid rfl, Lib.hid (OutInv.start _ _), Lib.hid (Below.refl _ _)⟩
                  case round =>
                    clear HM HBW HGB
                    obtain ⟨z, AO, cO, LO, rfl, hz, rfl, HRO, HOI, HBZ⟩ := hrel
                    have HM := Lib.hid (HM7.out.below HBZ.out)
                    by_cases hlt : z < TT.length
                    · obtain ⟨t, htz⟩ : ∃ t, TT[z]? = some t := ⟨_, List.getElem?_eq_getElem hlt⟩
                      obtain ⟨b3, o3, rfl, ec⟩ := (HRT.out.below HBZ.out).scell htz
                      have HTZ := Lib.hid htz
                      have HT40 : Hid (t.length ≤ 40) := Lib.hid (HM.out.k40 t (HTM.out t (List.mem_of_getElem? htz)))
                      have HSV : Hid (sv t = .string ⟨t.toArray⟩) := Lib.hid rfl
                      have hba := below_new (Below.refl wr.heap.size wr) (.cells #[.string ⟨t.toArray⟩] 9)
                      have HM8 := Lib.hid (HM.out.below hba)
                      obtain ⟨⟨AN, cN, ns⟩, hvm, hlka⟩ := flook_in HM.out (HTM.out t (List.mem_of_getElem? htz))
                      have hlk := hlka wr HM.out.mp
                      have hlk2 := hlka _ HM8.out.mp
                      have hns := HVE3.out _ hvm
                      simp only [] at hns hlk hlk2
                      have hrn := HM7.out.rd _ hvm
                      have hcn := HM7.out.cap _ hvm
                      simp only [] at hrn hcn
                      rw [hns] at hlk hlk2 hrn hcn
                      have HRN := Lib.hid hrn
                      have HCN := Lib.hid hcn
                      have HNG := Lib.hid (HNFG.out t)
                      have HNL2 := Lib.hid (HNFL.out t)
                      have hj1 : (z : Int) < (TT.length : Int) := by omega
                      have HOI8 := Lib.hid (HOI.out.below hba)
                      have HB8 := Lib.hid (below_newL HBZ.out hba)
                      have HRN8 := Lib.hid ((HRN.out.below HBZ.out).below hba)
                      generalize hbt : (⟨t.toArray⟩ : ByteArray) = bt at *
                      have HBT := Lib.hid hbt
                      have HP : Hid (RsIn ((some ⟨wr.heap.size, 0, none⟩, 1), (AN, cN), ([t], NF t)) (wr.alloc (.cells #[.string bt] 9))) := Lib.hid (rsIn_one (rd_lit wr _ #[.string bt] 9 _ rfl (by rw [← HBT.out]; rfl)) HRN8.out HCN.out HT40.out (fun s hs => good_len (HNG.out s hs)) (by have := HNL2.out; omega))
                      have HFP2 : Hid (farS ((some ⟨wr.heap.size, 0, none⟩, 1), (AN, cN), ([t], NF t)) (Value.slice AO z cO).ownBlock) := Lib.hid (farS_new HOI.out (fun g off hA _ => by
                        injection hA with hA; injection hA with hA _ _
                        left
                        omega) (fun g off hA hp => by
                        right
                        exact rd_lt HRN.out g off hA hp))
                      have HRO2 : Hid (rulesOf (LO ++ [((some ⟨wr.heap.size, 0, none⟩, 1), (AN, cN), ([t], NF t))]) = (TT.take (z + 1)).map fun s => ([s], NF s)) := Lib.hid (by
                        rw [take_snocS HTZ.out, List.map_append, ← HRO.out]
                        unfold rulesOf
                        rw [List.map_append]
                        rfl)
                      have HV1 : Hid (Value.slice (some ⟨wr.heap.size, 0, none⟩) 1 1 = rsT ((some ⟨wr.heap.size, 0, none⟩, 1), (AN, cN), ([t], NF t))) := Lib.hid rfl
                      have HV2 : Hid (Value.slice AN (NF t).length cN = rsN ((some ⟨wr.heap.size, 0, none⟩, 1), (AN, cN), ([t], NF t))) := Lib.hid rfl
                      have HSZ2 := Lib.hid HB8.out.size
                      clear htz hbt hvm hlka hns hrn hcn hba HM HM8
                      generalize (NF t).length = nl2 at *
                      go_wp2_with (at_builtin; refine wpList_pushRl (wr.alloc (.cells #[.string bt] 9)) _ _ w7.heap.size AO z cO LO ((some ⟨wr.heap.size, 0, none⟩, 1), (AN, cN), ([t], NF t)) _ _ HV1.out HV2.out HOI8.out HSZ2.out (by omega) HP.out HFP2.out rfl rfl rfl (by simp [go_sem]) ?_; intro g9 c9 w9 hoi9 hb9)
                      exact ⟨⟨z + 1, _, c9, _, rfl, by omega, rfl, HRO2, Lib.hid hoi9, Lib.hid (HB8.out.trans hb9)⟩, measL hlt⟩
                    · obtain rfl : z = TT.length := by omega
                      have HRR2 : Hid (rulesOf LO = fillR R0 l there) := Lib.hid (by rw [HFO.out HE.out, HFP.out, HRO.out, List.take_length])
                      go_wp2_with fail
                      go_ret2
                      exact ⟨AO, cO, LO, by rw [HE.out, HOI.out.len]; rfl, HOI.out.all, HRR2.out, below_newL HB7.out HBZ.out⟩
    · have HE := Lib.hid (fillE_inf (there := there) HJ0.out hi)
      have HI0 := Lib.hid hi
      have hn0 : (((infE l : Nat) : Int) != 0) = true := by simp; omega
      have hn1 : (((infE l : Nat) : Int) == 0) = false := by simp; omega
      generalize hv : ((infE l : Nat) : Int) = V at *
      have HV := Lib.hid hv
      clear hi hv
      go_wp2_with fail
      go_ret2
      exact fillPost_no (by rw [HE.out]; exact HI0.out) (by rw [HE.out]; exact HV.out.symm) HB2.out
  · have HE := Lib.hid (fillE_join (l := l) (there := there) hj)
    have HJ0 := Lib.hid hj
    have hn0 : (((joinE R0 : Nat) : Int) != 0) = true := by simp; omega
    have hn1 : (((joinE R0 : Nat) : Int) == 0) = false := by simp; omega
    generalize hv : ((joinE R0 : Nat) : Int) = V at *
    have HV := Lib.hid hv
    clear hj hv
    go_wp2_with fail
    go_ret2
    exact fillPost_no (by rw [HE.out]; exact HJ0.out) (by rw [HE.out]; exact HV.out.symm) HB1.out
end Go.Proofs.Ytoandhhkmkgmaaa
