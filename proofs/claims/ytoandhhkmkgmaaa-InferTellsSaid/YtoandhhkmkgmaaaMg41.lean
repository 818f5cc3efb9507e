/- Some of the proof's texts, merged; each one's own words stand ahead of it. -/
import Derived.Test.YtoandhhkmkgmaaaMg19
import Derived.Test.YtoandhhkmkgmaaaIter
/- Contract: rule.Join. A slice of rules as it lies; lists and texts below 2^63. -/
namespace Go.Proofs.Ytoandhhkmkgmaaa
open Go.RowKit

structure GAll (w : World) (bm : Nat) (M : GrpT) (ps : List (KeyT × List KeyT)) : Prop where
  inv : GInv w bm M
  says : GSays M ps
  k40 : ∀ t ∈ keysG M, t.length ≤ 40
theorem GAll.below {w w' : World} {bm : Nat} {M : GrpT} {ps : List (KeyT × List KeyT)} (h : GAll w bm M ps) (hb : Below w.heap.size w w') : GAll w' bm M ps := ⟨h.inv.below hb, h.says, h.k40⟩
theorem keysOk_of {M : GrpT} (h : ∀ t ∈ keysG M, t.length ≤ 40) : KeysOk (mapG M) := fun s hs => by
  rw [keysS_mapG] at hs
  have := h s hs
  unfold maxLen
  omega
theorem strsZero (w : World) : (zeroValue 32).run Try.prog w = .ok (.slice none 0 0) w := by
  have h : (Try.prog.info? 32).map (fun i => i.zero) = some (some (.slice none 0 0)) := by kernel_rfl
  cases hi : Try.prog.info? 32 with
  | none => rw [hi] at h; cases h
  | some i =>
    rw [hi] at h
    simp at h
    simp [zeroValue, typeInfo, hi, h]
theorem strKind : Try.prog.underlying 9 = some .string := by kernel_rfl
theorem mapKind : Try.prog.underlying 80 = some (.map 9 32) := by kernel_rfl
/-- What a look-up gives: nothing yet, or the slice that stands there. -/
theorem look_any {w : World} {bm : Nat} {M : GrpT} (hm : MapS w bm (mapG M)) (hk : ∀ t ∈ keysG M, t.length ≤ 40) (t : KeyT) (ht : t.length ≤ 40) :
    (t ∉ keysG M ∧ (Instr.lookup 80 (.map (some bm)) (.string ⟨t.toArray⟩) false).run Try.prog w = .ok (.slice none 0 0) w) ∨
    ∃ (j : Nat) (v : PartT), M[j]? = some (t, v) ∧ (Instr.lookup 80 (.map (some bm)) (.string ⟨t.toArray⟩) false).run Try.prog w = .ok (.slice v.1 v.2.2.length v.2.1) w := by
  rcases run_lookS strKind mapKind (strsZero w) hm (keysOk_of hk) t (by unfold maxLen; omega) false with ⟨h1, h2⟩ | ⟨j, v, h1, h2⟩
  · rw [keysS_mapG] at h1
    exact .inl ⟨h1, h2⟩
  · unfold mapG at h1
    rw [List.getElem?_map] at h1
    obtain ⟨x, hx, he⟩ := Option.map_eq_some_iff.1 h1
    injection he with h3 h4
    refine .inr ⟨j, x.2, by rw [hx, ← h3], ?_⟩
    rw [← h4] at h2
    exact h2
/-- What a store makes of the map. -/
theorem store_any {w : World} {bm : Nat} {M : GrpT} {ps : List (KeyT × List KeyT)} {t : KeyT} {v : PartT} {zs0 ns : List KeyT} (h : GHold w bm M t v) (hs : GSays M ps) (hk : ∀ t ∈ keysG M, t.length ≤ 40) (ht : t.length ≤ 40) (hv : v.2.2 = addAll zs0 ns)
    (hw : (t ∉ keysG M ∧ zs0 = []) ∨ ∃ (j : Nat) (v0 : PartT), M[j]? = some (t, v0) ∧ zs0 = v0.2.2) :
    ∃ o M', (Instr.mapUpdate 80 (.map (some bm)) (.string ⟨t.toArray⟩) (.slice v.1 v.2.2.length v.2.1)).run Try.prog w = .ok () (Go.ChangeMaps.setBlock w bm o) ∧ GAll (Go.ChangeMaps.setBlock w bm o) bm M' (ps ++ [(t, ns)]) ∧ M'.length ≤ M.length + 1 := by
  rcases hw with ⟨hno, rfl⟩ | ⟨j, v0, hj, rfl⟩
  · refine ⟨_, M ++ [(t, v)], ?_, ⟨h.putNew hno, hs.putNew hno hv, fun s hs' => ?_⟩, by simp⟩
    · have hr := run_newS strKind mapKind h.mp (keysOk_of hk) t (partV v) (by unfold maxLen; omega) (by rw [keysS_mapG]; exact hno)
      rw [show mapG M ++ [(t, partV v)] = mapG (M ++ [(t, v)]) by unfold mapG; simp] at hr
      exact hr
    · unfold keysG at hs'
      rw [List.map_append] at hs'
      rcases List.mem_append.1 hs' with hs' | hs'
      · exact hk s hs'
      · rw [List.mem_singleton.1 hs']; exact ht
  · refine ⟨_, M.set j (t, v), ?_, ⟨h.putOld hj, hs.putOld h.nd hj hv, fun s hs' => ?_⟩, by rw [List.length_set]; omega⟩
    · have hr := run_oldS strKind mapKind h.mp (keysOk_of hk) (by rw [keysS_mapG]; exact h.nd) (mapG_at hj) (partV v)
      rw [show (mapG M).set j (t, partV v) = mapG (M.set j (t, v)) by unfold mapG; rw [List.map_set]] at hr
      exact hr
    · obtain ⟨p, hp, e⟩ := ((hs.putOld h.nd hj hv).keys s).1 hs'
      rcases List.mem_append.1 hp with hp | hp
      · exact hk s ((hs.keys s).2 ⟨p, hp, e⟩)
      · rw [List.mem_singleton.1 hp] at e
        rw [← e]; exact ht
theorem own_ne_blk {w : World} {B CB : Nat} {v : PartT} {vs : List Value} (h : ownG w B v) (hb : Blk w CB 82 vs) : (partV v).ownBlock ≠ some CB := fun e => by
  unfold ownG at h
  rcases h.2 with ⟨hv, _⟩ | ⟨g, cap, cur, hv, _, hg, _⟩
  · rw [hv] at e; cases e
  · rw [hv] at e
    simp [Value.ownBlock] at e
    subst e
    unfold Blk at hb
    rw [hb] at hg
    injection hg with hg
    injection hg with _ hg _
    exact absurd hg (by decide)
theorem Blk.grown {w w' : World} {CB : Nat} {t : TypeId} {vs : List Value} {o : Obj} {row : Option Nat} (h : Blk w CB t vs) (hg : (w.alloc o).grownBy w' row) (hn : row ≠ some CB) : Blk w' CB t vs := by
  unfold Blk at *
  rw [hg.block CB (by have := lt_of_blockG h; simp; omega) (fun e => hn e.symm), Below.heap_alloc _ _ _ (lt_of_blockG h)]
  exact h
theorem Blk.setB {w : World} {CB bm : Nat} {t : TypeId} {vs : List Value} (h : Blk w CB t vs) (hn : CB ≠ bm) (o : Obj) : Blk (Go.ChangeMaps.setBlock w bm o) CB t vs := by
  unfold Blk at *
  rw [setB_other _ _ hn]
  exact h
theorem pairs_take {l : List RuleT} {i : Nat} {r : RuleT} (h : l[i]? = some r) : pairsR (l.take (i + 1)) = pairsR (l.take i) ++ r.1.map fun t => (t, r.2) := by
  unfold pairsR
  rw [take_snocS h, List.flatMap_append]
  simp
theorem needsP_len {ps : List (KeyT × List KeyT)} (h : ∀ p ∈ ps, p.2.length ≤ 20) (t : KeyT) : (needsP ps t).length ≤ 20 * ps.length := by
  unfold needsP
  have key : ∀ (ps : List (KeyT × List KeyT)) (o : List KeyT), (∀ p ∈ ps, p.2.length ≤ 20) → (ps.foldl (stepP t) o).length ≤ o.length + 20 * ps.length := by
    intro ps
    induction ps with
    | nil => intro o _; simp
    | cons p ps ih =>
      intro o hp
      rw [List.foldl_cons]
      have h1 := ih (stepP t o p) (fun q hq => hp q (List.mem_cons_of_mem _ hq))
      have h2 : (stepP t o p).length ≤ o.length + 20 := by
        unfold stepP
        split
        · have := addAll_len p.2 o; have := hp p (List.mem_cons_self ..); omega
        · omega
      rw [List.length_cons]
      omega
  have := key ps [] h
  simpa using this
theorem pairs_len {l : List RuleT} (h : ∀ r ∈ l, rlE r = 0) : ∀ i, (pairsR (l.take i)).length ≤ 20 * i
  | 0 => by simp [pairsR]
  | i + 1 => by
    have ih := pairs_len h i
    by_cases hi : i < l.length
    · have hr := (rlE_ok (h _ (List.getElem_mem hi))).1
      rw [pairs_take (List.getElem?_eq_getElem hi), List.length_append, List.length_map]
      omega
    · rw [List.take_of_length_le (by omega)] at ih ⊢
      omega
theorem pairs_each {l : List RuleT} (h : ∀ r ∈ l, rlE r = 0) : ∀ p ∈ pairsR l, p.2.length ≤ 20 := fun p hp => by
  unfold pairsR at hp
  obtain ⟨r, hr, hp⟩ := List.mem_flatMap.1 hp
  obtain ⟨t, _, rfl⟩ := List.mem_map.1 hp
  exact (rlE_ok (h r hr)).2.1
theorem map_new (w : World) : MapS (w.alloc (.map #[] 0)) w.heap.size (mapG []) := by
  unfold MapS
  rw [heap_alloc_new]
  rfl
end Go.Proofs.Ytoandhhkmkgmaaa
/- Contract: rule.Join, its walk. -/
namespace Go.Proofs.Ytoandhhkmkgmaaa
open Go.RowKit

set_option maxRecDepth 100000 in
set_option maxHeartbeats 8000000 in
theorem rlJoin_any {A : Option Addr} {n c : Nat} (L : List RSlot) (w : World) (hA : RsAll A L w) (hn : L.length = n) (hb : n ≤ 9223372036854775807) :
    Calls Try.prog 42 #[.slice A n c] w (JPost (rulesOf L) w) := by
  have HA := Lib.hid hA
  have HN := Lib.hid hn
  have HRL : Hid ((rulesOf L).length = n) := Lib.hid (by unfold rulesOf; rw [List.length_map, hn])
  clear hA hn
  go_enter Try.func42, Try.ntmps42
  by_cases h100 : 100 < n
  · have HE : Hid (joinE (rulesOf L) = 2) := Lib.hid (joinE_big (by rw [HRL.out]; exact h100))
    have h1 : (100 : Int) < (n : Int) := by omega
    clear h100
    go_wp2_with fail
    go_ret2
    exact jPost_no (by rw [HE.out]; decide) (by rw [HE.out]; rfl) (Below.refl _ _)
  have h1 : ¬ (100 : Int) < (n : Int) := by omega
  have H100 : Hid (¬ 100 < (rulesOf L).length) := Lib.hid (by rw [HRL.out]; exact h100)
  go_wp2_with fail
  go_loopw [5, 6, 23] (fun _ _ i wr => ∃ (k : Nat), i = .int .i64 (k : Int) ∧ k ≤ n ∧ Hid (∀ q ∈ (rulesOf L).take k, rlE q = 0) ∧ Hid (Below w.heap.size w wr)) (fun _ _ i _ => n - (intOf i).toNat)
  case atStart => exact ⟨0, rfl, by omega, Lib.hid (by simp), Lib.hid (Below.refl _ _)⟩
  case round =>
    obtain ⟨k, rfl, hk, HOK, HB⟩ := hrel
    by_cases hlt : k < n
    · obtain ⟨x, hx⟩ : ∃ x, L[k]? = some x := ⟨_, List.getElem?_eq_getElem (by rw [HN.out]; exact hlt)⟩
      have HX := Lib.hid (HA.out.each x (List.mem_of_getElem? hx))
      have HR := Lib.hid (rulesOf_at hx)
      obtain ⟨b1, o1, rfl, a1, a2⟩ := (HA.out.rd.below HB.out).two hx
      obtain ⟨⟨X1, xc1⟩, ⟨X2, xc2⟩, r⟩ := x
      have hcap : 2 * k = k * 2 := by omega
      rw [hcap] at a1 a2
      unfold RsIn at HX
      simp only [rsT, rsN] at a1 a2 HX HR
      obtain ⟨y, hy⟩ := rbox_two wr (.slice X1 r.1.length xc1) (.slice X2 r.2.length xc2) 82
      have Y := Lib.hid y
      have HY := Lib.hid (below_newL HB.out hy)
      have hk1 : (k : Int) < (n : Int) := by omega
      clear hx hcap y hy
      have CF := Lib.hid (rlCheck_any (wr.alloc (.cells #[.slice X1 r.1.length xc1, .slice X2 r.2.length xc2] 82)) (HX.out.below HY.out))
      unfold rlV at CF
      go_upto_region 6 with fail
      generalize wr.alloc (.cells #[.slice X1 r.1.length xc1, .slice X2 r.2.length xc2] 82) = w1 at *
      obtain ⟨y1, y2⟩ := Y.out
      go_wp2_with fail
      refine CF.out.mono ?_
      rintro e w2 ⟨rfl, hb2⟩
      have HB2 := Lib.hid (below_newL HY.out hb2)
      clear hb2 y1 y2
      by_cases h0 : rlE r = 0
      · have HOK2 : Hid (∀ q ∈ (rulesOf L).take (k + 1), rlE q = 0) := Lib.hid (fun q hq => by
          rw [take_snocS HR.out] at hq
          rcases List.mem_append.1 hq with hq | hq
          · exact HOK.out q hq
          · rw [List.mem_singleton.1 hq]; exact h0)
        rw [h0]
        clear h0
        go_wp2_with fail
        exact ⟨⟨k + 1, rfl, by omega, HOK2, HB2⟩, measL hlt⟩
      · have HE1 := Lib.hid (firstE_at HR.out HOK.out h0)
        have HE : Hid (joinE (rulesOf L) = rlE r) := Lib.hid (by rw [joinE_bad H100.out (by rw [HE1.out]; exact h0), HE1.out])
        have HE0 := Lib.hid h0
        have hn0 : (((rlE r : Nat) : Int) != 0) = true := by simp; omega
        clear h0
        go_wp2_with fail
        go_ret2
        exact jPost_no (by rw [HE.out]; exact HE0.out) (by rw [HE.out]) HB2.out
    · obtain rfl : k = n := by omega
      have HT : Hid ((rulesOf L).take k = rulesOf L) := Lib.hid (List.take_of_length_le (by rw [HRL.out]; exact Nat.le_refl _))
      rw [HT.out] at HOK
      have HF0 := Lib.hid (firstE_no HOK.out)
      have HWM : Hid (Below wr.heap.size wr (wr.alloc (.map #[] 0))) := Lib.hid (below_new (Below.refl _ _) _)
      have HMP := Lib.hid (map_new wr)
      have HLTM : Hid (wr.heap.size < (wr.alloc (.map #[] 0)).heap.size) := Lib.hid (by simp)
      have hmm := @run_makeMap Try.prog
      clear h100
      go_upto_region 11 with fail
      clear hmm
      generalize wr.alloc (.map #[] 0) = wM at *
      have HBM : Hid (Below w.heap.size w wM) := Lib.hid (below_newL HB.out HWM.out)
      have HLE : Hid (w.heap.size ≤ wr.heap.size) := Lib.hid HB.out.size
      generalize wr.heap.size = bm at *
      clear HWM HB
      have HG0 : Hid (GAll wM bm [] []) := Lib.hid ⟨⟨HMP.out, by simp [keysG], (fun x hx => by cases hx), (fun i j x y hi => by simp at hi)⟩, GSays.nil, fun t ht => by simp [keysG] at ht⟩
      go_wp2_with fail
      go_loopw [9, 11, 12, 14, 36] (fun _ _ _ _ i wq => ∃ (q : Nat) (M : GrpT), i = .int .i64 (q : Int) ∧ q ≤ k ∧ Hid (M.length ≤ 20 * q) ∧ Hid (GAll wq bm M (pairsR ((rulesOf L).take q))) ∧ Hid (Below bm wM wq)) (fun _ _ _ _ i _ => k - (intOf i).toNat)
      case atStart => exact ⟨0, [], rfl, by omega, Lib.hid (by simp), HG0, Lib.hid (Below.refl _ _)⟩
      case round =>
        obtain ⟨q, M, rfl, hq, HML, HG, HBQ⟩ := hrel
        have HBW : Hid (Below w.heap.size w wr) := Lib.hid (HBM.out.trans (HBQ.out.mono HLE.out))
        by_cases hltq : q < k
        · obtain ⟨x, hx⟩ : ∃ x, L[q]? = some x := ⟨_, List.getElem?_eq_getElem (by rw [HN.out]; exact hltq)⟩
          have HX := Lib.hid (HA.out.each x (List.mem_of_getElem? hx))
          have HR := Lib.hid (rulesOf_at hx)
          obtain ⟨b1, o1, rfl, a1, a2⟩ := (HA.out.rd.below HBW.out).two hx
          obtain ⟨⟨X1, xc1⟩, ⟨X2, xc2⟩, r⟩ := x
          have hcap : 2 * q = q * 2 := by omega
          rw [hcap] at a1 a2
          unfold RsIn at HX
          simp only [rsT, rsN] at a1 a2 HX HR
          have HR0 := Lib.hid (HOK.out r (List.mem_of_getElem? HR.out))
          have HY := Lib.hid (below_new (Below.refl wr.heap.size wr) (.cells #[.slice X1 r.1.length xc1, .slice X2 r.2.length xc2] 82))
          have HBL := Lib.hid (show Blk (wr.alloc (.cells #[.slice X1 r.1.length xc1, .slice X2 r.2.length xc2] 82)) wr.heap.size 82 [.slice X1 r.1.length xc1, .slice X2 r.2.length xc2] from Blk.new wr _ _)
          have HNB : Hid (wr.heap.size ≠ bm) := Lib.hid (by have := HG.out.inv.mp.lt; omega)
          have hk1 : (q : Int) < (k : Int) := by omega
          have HG1 := Lib.hid (HG.out.below HY.out)
          have HB1 : Hid (Below bm wM (wr.alloc (.cells #[.slice X1 r.1.length xc1, .slice X2 r.2.length xc2] 82))) := Lib.hid (HBQ.out.trans (HY.out.mono (Nat.le_of_lt HG.out.inv.mp.lt)))
          clear hx hcap HY
          go_upto_region 14 with fail
          generalize wr.alloc (.cells #[.slice X1 r.1.length xc1, .slice X2 r.2.length xc2] 82) = w1 at *
          generalize wr.heap.size = CB at *
          have y1 := HBL.out.cell (j := 0) rfl
          have y2 := HBL.out.cell (j := 1) rfl
          go_wp2_with fail
          clear y1 y2
          go_loopw [11, 12, 14, 43] (fun _ _ _ i wz => ∃ (z : Nat) (M : GrpT), i = .int .i64 (z : Int) ∧ z ≤ r.1.length ∧ Hid (M.length ≤ 20 * q + z) ∧ Hid (GAll wz bm M (pairsR ((rulesOf L).take q) ++ (r.1.take z).map fun t => (t, r.2))) ∧ Hid (Blk wz CB 82 [.slice X1 r.1.length xc1, .slice X2 r.2.length xc2]) ∧ Hid (Below bm wM wz)) (fun _ _ _ i _ => r.1.length - (intOf i).toNat)
          case atStart => exact ⟨0, M, rfl, by omega, HML, Lib.hid (by rw [List.take_zero, List.map_nil, List.append_nil]; exact HG1.out), HBL, HB1⟩
          case round =>
            clear HG HG1 HML HBQ HB1 HBL HBW
            obtain ⟨z, M, rfl, hz, HML, HG, HBL, HBZ⟩ := hrel
            have HBW : Hid (Below w.heap.size w wr) := Lib.hid (HBM.out.trans (HBZ.out.mono HLE.out))
            by_cases hltz : z < r.1.length
            · obtain ⟨t, ht⟩ : ∃ t, r.1[z]? = some t := ⟨_, List.getElem?_eq_getElem hltz⟩
              obtain ⟨b2, o2, rfl, et⟩ := (HX.out.t.below HBW.out).scell ht
              have HT40 : Hid (t.length ≤ 40) := Lib.hid (good_len (List.all_eq_true.1 (rlE_ok HR0.out).2.2.2.1 t (List.mem_of_getElem? ht)))
              have HTK := Lib.hid (take_snocS ht)
              have HPL : Hid ((pairsR ((rulesOf L).take q) ++ (r.1.take z).map fun t => (t, r.2)).length ≤ 20 * q + 20) := Lib.hid (by
                have h1 := pairs_len HOK.out q
                have h2 := (rlE_ok HR0.out).1
                rw [List.length_append, List.length_map, List.length_take]
                omega)
              have HZL : Hid (∀ v ∈ M, v.2.2.2.length ≤ 50000) := Lib.hid (fun v hv => by
                rw [HG.out.says.vals v hv]
                have h1 := needsP_len (ps := pairsR ((rulesOf L).take q) ++ (r.1.take z).map fun t => (t, r.2)) (fun p hp => by
                  rcases List.mem_append.1 hp with hp | hp
                  · exact pairs_each (fun r hr => HOK.out r (List.mem_of_mem_take hr)) p hp
                  · obtain ⟨_, _, rfl⟩ := List.mem_map.1 hp
                    exact (rlE_ok HR0.out).2.1) v.1
                have := HPL.out
                omega)
              have hlook := look_any HG.out.inv.mp HG.out.k40 t HT40.out
              have y1 := HBL.out.cell (j := 0) rfl
              have y2 := HBL.out.cell (j := 1) rfl
              have hz1 : (z : Int) < (r.1.length : Int) := by omega
              obtain ⟨v, zs0, hlk, hsm, HGH, HWH⟩ : ∃ (v : PartT) (zs0 : List KeyT), (Instr.lookup 80 (.map (some bm)) (.string ⟨t.toArray⟩) false).run Try.prog wr = .ok (.slice v.1 zs0.length v.2.1) wr ∧ zs0.length ≤ 50000 ∧ GHold wr bm M t (v.1, v.2.1, zs0) ∧ ((t ∉ keysG M ∧ zs0 = []) ∨ ∃ (j : Nat) (v0 : PartT), M[j]? = some (t, v0) ∧ zs0 = v0.2.2) := by
                rcases hlook with ⟨h1, h2⟩ | ⟨j, v, h1, h2⟩
                · exact ⟨(none, 0, []), [], h2, by simp, HG.out.inv.fresh t, .inl ⟨h1, rfl⟩⟩
                · exact ⟨v, v.2.2, h2, HZL.out _ (List.mem_of_getElem? h1), HG.out.inv.take h1, .inr ⟨j, v, h1, rfl⟩⟩
              obtain ⟨VA, vc, _⟩ := v
              simp only [] at hlk HGH
              have HGH := Lib.hid HGH
              have HWH := Lib.hid HWH
              have HSM := Lib.hid hsm
              have hr20 := (rlE_ok HR0.out).2.1
              have hr1 := (rlE_ok HR0.out).1
              clear ht hlook
              generalize hbt : (⟨t.toArray⟩ : ByteArray) = bt at *
              have HBT := Lib.hid hbt
              clear hbt
              go_wp2_with fail
              clear hlk y1 y2
              go_loopw [12, 14, 53] (fun v _ i wp => ∃ (p : Nat) (A2 : Option Addr) (c2 : Nat) (ys : List KeyT), i = .int .i64 (p : Int) ∧ p ≤ r.2.length ∧ v = .slice A2 ys.length c2 ∧ ys.length ≤ 50000 + p ∧ Hid (ys = addAll zs0 (r.2.take p)) ∧ Hid (GHold wp bm M t (A2, c2, ys)) ∧ Hid (Blk wp CB 82 [.slice (some ⟨b2, o2, none⟩) r.1.length xc1, .slice X2 r.2.length xc2]) ∧ Hid (Below bm wM wp)) (fun _ _ i _ => r.2.length - (intOf i).toNat)
              case atStart => exact ⟨0, VA, vc, zs0, rfl, by omega, rfl, by omega, Lib.hid rfl, HGH, HBL, HBZ⟩
              case round =>
                clear HGH HBW
                have HGO := HG
                clear HG
                have HBLO := HBL
                clear HBL HBZ
                obtain ⟨p, A2, c2, ys, rfl, hp, rfl, hyl, HYS, HGH, HBL, HBP⟩ := hrel
                have HBW : Hid (Below w.heap.size w wr) := Lib.hid (HBM.out.trans (HBP.out.mono HLE.out))
                by_cases hltp : p < r.2.length
                · obtain ⟨u, hu⟩ : ∃ u, r.2[p]? = some u := ⟨_, List.getElem?_eq_getElem hltp⟩
                  obtain ⟨b3, o3, rfl, eu⟩ := (HX.out.n.below HBW.out).scell hu
                  have HU := Lib.hid (show addAll zs0 (r.2.take (p + 1)) = addU ys u by rw [take_snocS hu, addAll_snoc, HYS.out])
                  have HOW : Hid (wr.ownsRow (bm + 1) 9 1 (.slice A2 ys.length c2) ys.length (ys.map sv)) := Lib.hid HGH.out.me
                  have CC := Lib.hid (slContains_any (c := c2) ys u wr (Rd.of_own HOW.out) rfl (by omega))
                  have HSV : Hid (sv u = .string ⟨u.toArray⟩) := Lib.hid rfl
                  have HNE : Hid ((Value.slice A2 ys.length c2).ownBlock ≠ some CB) := Lib.hid (own_ne_blk HGH.out.me HBL.out)
                  generalize (⟨u.toArray⟩ : ByteArray) = bu at *
                  have hp1 : (p : Int) < (r.2.length : Int) := by omega
                  have hszq : bm + 1 ≤ wr.heap.size := HGH.out.mp.lt
                  have HLB : Hid (bm ≤ bm + 1) := Lib.hid (by omega)
                  clear hu
                  cases hin : inL ys u with
                  | true =>
                    have HU2 : Hid (ys = addAll zs0 (r.2.take (p + 1))) := Lib.hid (by rw [HU.out]; unfold addU; rw [if_pos (of_decide_eq_true hin)])
                    rw [hin] at CC
                    clear hin
                    go_wp2_with fail
                    refine CC.out.mono ?_
                    rintro e w3 ⟨rfl, rfl⟩
                    go_wp2_with fail
                    exact ⟨⟨p + 1, A2, c2, ys, rfl, by omega, rfl, by omega, HU2, HGH, HBL, HBP⟩, measL hltp⟩
                  | false =>
                    have HU2 : Hid (ys ++ [u] = addAll zs0 (r.2.take (p + 1))) := Lib.hid (by rw [HU.out]; unfold addU; rw [if_neg (of_decide_eq_false hin)])
                    rw [hin] at CC
                    clear hin
                    go_wp2_with (first | (go_at_call 33; refine CC.out.mono ?_; rintro e w3 ⟨rfl, rfl⟩) | (at_builtin; refine wpList_pushAt elStr wr _ _ (bm + 1) A2 ys.length c2 (ys.map sv) (.string bu) HOW.out rfl hszq (by omega) (by omega) rfl rfl rfl rfl ?_; intro A5 c5 w5 hown5 hb5 hg5 hat5))
                    rw [← HSV.out] at hown5 hg5
                    have HGH5 := Lib.hid (HGH.out.push hg5 hown5 hat5)
                    have HBL5 := Lib.hid (HBL.out.grown hg5 HNE.out)
                    have HBP5 := Lib.hid (HBP.out.trans (hb5.mono HLB.out))
                    have HL5 : Hid ((ys ++ [u]).length = ys.length + 1) := Lib.hid (by simp)
                    clear hown5 hb5 hg5 hat5
                    exact ⟨⟨p + 1, A5, c5, ys ++ [u], rfl, by omega, by rw [HL5.out], by rw [HL5.out]; omega, HU2, HGH5, HBL5, HBP5⟩, measL hltp⟩
                · obtain rfl : p = r.2.length := by omega
                  obtain ⟨o, M', hst, hga, hml⟩ := store_any (ns := r.2) (zs0 := zs0) HGH.out HGO.out.says HGO.out.k40 HT40.out (by rw [HYS.out, List.take_length]) HWH.out
                  have HGA := Lib.hid hga
                  have HMA := Lib.hid hml
                  have HBA := Lib.hid (below_setB HBP.out (Nat.le_refl bm) o)
                  have HBB := Lib.hid (HBL.out.setB HNB.out o)
                  simp only [] at hst
                  rw [HBT.out] at hst
                  clear hga hml
                  go_wp2_with fail
                  generalize Go.ChangeMaps.setBlock wr bm o = w8 at *
                  exact ⟨⟨z + 1, M', rfl, by omega, Lib.hid (by have := HML.out; have := HMA.out; omega), Lib.hid (by rw [HTK.out, List.map_append, ← List.append_assoc]; exact HGA.out), HBB, HBA⟩, measL hltz⟩
            · obtain rfl : z = r.1.length := by omega
              go_wp2_with fail
              exact ⟨⟨q + 1, M, rfl, by omega, Lib.hid (by have := HML.out; have := (rlE_ok HR0.out).1; omega), Lib.hid (by have h := HG.out; rw [List.take_length] at h; rw [pairs_take HR.out]; exact h), HBZ⟩, measL hltq⟩
        · obtain rfl : q = k := by omega
          rw [HT.out] at HG
          have HKS : Hid ((keysG M).Nodup) := Lib.hid HG.out.inv.nd
          have HMM : Hid (M.length ≤ maxLen) := Lib.hid (by have := HML.out; unfold maxLen; omega)
          obtain ⟨D, hown, hperm, hsize⟩ := mapS_owns strKind HG.out.inv.mp (keysOk_of HG.out.k40) (by rw [keysS_mapG]; exact HG.out.inv.nd) (by rw [show (mapG M).length = M.length by unfold mapG; simp]; exact HMM.out)
          rw [keysS_mapG] at hperm
          rw [show (mapG M).length = M.length by unfold mapG; simp] at hown hsize
          have CK := Lib.hid ((callsIn_wide (n := 5)).1 (Try.maps_Keys_47 (some bm) wr))
          have CS := Lib.hid ((callsIn_wide (n := 5)).1 (Try.slices_Sorted_keys_46_47 bm M.length D noR wr hown (by rw [hsize]; exact HMM.out) (by rw [hsize]; have := HML.out; omega)))
          have HPM := Lib.hid hperm
          clear hown hperm hsize
          go_wp2_with fail
          refine CK.out.mono ?_
          rintro e w6 ⟨rfl, rfl⟩
          go_wp2_with fail
          refine CS.out.mono ?_
          rintro e w7 ⟨v, ss, rfl, hpm, hown7, _, hb7⟩
          obtain ⟨AT, cT, rfl⟩ := own_form hown7
          have HST : Hid (ss.mergeSort (fun x y => decide (x ≤ y)) = tgtsR (rulesOf L)) := Lib.hid (sorted_keys (hpm.trans HPM.out) HKS.out (fun t => by
            rw [HG.out.says.keys t]
            unfold pairsR
            constructor
            · rintro ⟨p, hp, e⟩
              obtain ⟨r, hr, hp⟩ := List.mem_flatMap.1 hp
              obtain ⟨u, hu, rfl⟩ := List.mem_map.1 hp
              exact List.mem_flatMap.2 ⟨r, hr, by rw [← e]; exact hu⟩
            · intro ht
              obtain ⟨r, hr, ht⟩ := List.mem_flatMap.1 ht
              exact ⟨(t, r.2), List.mem_flatMap.2 ⟨r, hr, List.mem_map.2 ⟨t, ht, rfl⟩⟩, rfl⟩))
          have HSL : Hid (ss.length = (tgtsR (rulesOf L)).length) := Lib.hid (by rw [← HST.out]; simp)
          have HSK : Hid ((keysG M).length = (tgtsR (rulesOf L)).length) := Lib.hid (by rw [← HSL.out]; exact (hpm.trans HPM.out).length_eq.symm)
          have HTM : Hid (∀ t ∈ tgtsR (rulesOf L), t ∈ keysG M) := Lib.hid (fun t ht => by
            rw [← HST.out, (List.mergeSort_perm ss _).mem_iff, (hpm.trans HPM.out).mem_iff] at ht
            exact ht)
          rw [HST.out, HSL.out] at hown7
          have hal := below_new (Below.refl wr.heap.size wr) (.cells #[.map (some bm)] 80)
          have HG7 := Lib.hid ((HG.out.below hal).below hb7)
          have HB7 := Lib.hid (below_newL (below_newL HBW.out hal) hb7)
          have HRT : Hid (Rd w7 AT ((tgtsR (rulesOf L)).map sv)) := Lib.hid (Rd.of_own hown7)
          have HND : Hid (∀ t, needsP (pairsR (rulesOf L)) t = needsR (rulesOf L) t) := Lib.hid (fun t => needs_eq (fun r hr => (rlE_ok (HOK.out r hr)).2.2.2.2.2.1) t)
          have HMY := Lib.hid (joinE_many H100.out HF0.out)
          have HTL : Hid ((tgtsR (rulesOf L)).length ≤ 2000) := Lib.hid (by
            have h := HML.out
            have h2 := HSK.out
            unfold keysG at h2
            rw [List.length_map] at h2
            omega)
          rw [HSL.out]
          generalize hTT : tgtsR (rulesOf L) = TT at *
          have HTT := Lib.hid hTT
          clear hTT hown7 hb7 hal hpm CK CS
          have htl := HTL.out
          go_wp2_with fail
          go_loopw [15, 17, 75] (fun v _ i wq => ∃ (j : Nat) (AO : Option Addr) (cO : Nat) (LO : List RSlot), i = .int .i64 (j : Int) ∧ j ≤ TT.length ∧ v = .slice AO j cO ∧ Hid (rulesOf LO = (TT.take j).map fun t => ([t], needsR (rulesOf L) t)) ∧ Hid (∀ t ∈ TT.take j, (needsR (rulesOf L) t).length ≤ 64) ∧ Hid (OutInv wq w7.heap.size AO j cO LO) ∧ Hid (Below w7.heap.size w7 wq)) (fun _ _ i _ => TT.length - (intOf i).toNat)
          case atStart => exact ⟨0, none, 0, [], rfl, by omega, rfl, Lib.hid rfl, Lib.hid (by simp), Lib.hid (OutInv.start _ _), Lib.hid (Below.refl _ _)⟩
          case round =>
            clear HG HBW HBQ
            obtain ⟨j, AO, cO, LO, rfl, hj, rfl, HRO, HW, HOI, HBQ⟩ := hrel
            have HG := Lib.hid (HG7.out.below HBQ.out)
            by_cases hlt : j < TT.length
            · obtain ⟨t, ht⟩ : ∃ t, TT[j]? = some t := ⟨_, List.getElem?_eq_getElem hlt⟩
              obtain ⟨b3, o3, rfl, ec⟩ := (HRT.out.below HBQ.out).scell ht
              have HTJ := Lib.hid ht
              have HT40 : Hid (t.length ≤ 40) := Lib.hid (HG.out.k40 t (HTM.out t (List.mem_of_getElem? ht)))
              have HN40 := Lib.hid (needs_good HOK.out t)
              have HSV : Hid (sv t = .string ⟨t.toArray⟩) := Lib.hid rfl
              have hba := below_new (Below.refl wr.heap.size wr) (.cells #[.string ⟨t.toArray⟩] 9)
              have HG8 := Lib.hid (HG.out.below hba)
              obtain ⟨AN, cN, hlk, hlk2, HOWN⟩ : ∃ (AN : Option Addr) (cN : Nat), (Instr.lookup 80 (.map (some bm)) (.string ⟨t.toArray⟩) false).run Try.prog wr = .ok (.slice AN (needsR (rulesOf L) t).length cN) wr ∧
                  (Instr.lookup 80 (.map (some bm)) (.string ⟨t.toArray⟩) false).run Try.prog (wr.alloc (.cells #[.string ⟨t.toArray⟩] 9)) = .ok (.slice AN (needsR (rulesOf L) t).length cN) (wr.alloc (.cells #[.string ⟨t.toArray⟩] 9)) ∧
                  w7.ownsRow (bm + 1) 9 1 (.slice AN (needsR (rulesOf L) t).length cN) (needsR (rulesOf L) t).length ((needsR (rulesOf L) t).map sv) := by
                have hin := HTM.out t (List.mem_of_getElem? ht)
                rcases look_any HG.out.inv.mp HG.out.k40 t HT40.out with ⟨h1, _⟩ | ⟨i, v, h1, h2⟩
                · exact absurd hin h1
                rcases look_any HG8.out.inv.mp HG8.out.k40 t HT40.out with ⟨h3, _⟩ | ⟨i', v', h3, h4⟩
                · exact absurd hin h3
                have hii := key_once HG.out.inv.nd h1 h3 rfl
                subst hii
                rw [h1] at h3
                injection h3 with h3
                injection h3 with _ h3
                subst h3
                have hv := HG.out.says.vals _ (List.mem_of_getElem? h1)
                rw [HND.out] at hv
                simp only [] at hv
                have ho := HG7.out.inv.own _ (List.mem_of_getElem? h1)
                unfold ownG partV at ho
                simp only [] at ho
                rw [hv] at h2 h4 ho
                exact ⟨v.1, v.2.1, h2, h4, ho⟩
              have HOW := Lib.hid HOWN
              have HNL : Hid ((needsR (rulesOf L) t).length ≤ 2000) := Lib.hid (by
                have h := needsR_len (l := rulesOf L) (fun r hr => (rlE_ok (HOK.out r hr)).2.1) t (rulesOf L).length
                rw [List.take_length, HRL.out] at h
                have h3 := H100.out
                rw [HRL.out] at h3
                omega)
              have hj1 : (j : Int) < (TT.length : Int) := by omega
              generalize hbt : (⟨t.toArray⟩ : ByteArray) = bt at *
              have HBT := Lib.hid hbt
              clear ht hbt HOWN
              by_cases hw : 64 < (needsR (rulesOf L) t).length
              · have HE : Hid (joinE (rulesOf L) = 2) := Lib.hid (HMY.out (.inr (wide_at (by rw [HTT.out]; exact HTJ.out) hw)))
                have hw1 : (64 : Int) < ((needsR (rulesOf L) t).length : Int) := by omega
                clear hw hba
                generalize (needsR (rulesOf L) t).length = nl at *
                go_wp2_with fail
                go_ret2
                exact jPost_no (by rw [HE.out]; decide) (by rw [HE.out]; rfl) (below_newL HB7.out HBQ.out)
              · have hw1 : ¬ (64 : Int) < ((needsR (rulesOf L) t).length : Int) := by omega
                have HWL := Lib.hid hw
                have HB8 := Lib.hid (below_newL HBQ.out hba)
                have HOI8 := Lib.hid (HOI.out.below hba)
                have HO8 := Lib.hid (own_below (own_below HOW.out HBQ.out) hba)
                have HP : Hid (RsIn ((some ⟨wr.heap.size, 0, none⟩, 1), (AN, cN), ([t], needsR (rulesOf L) t)) (wr.alloc (.cells #[.string bt] 9))) := Lib.hid (rsIn_one (rd_lit wr _ #[.string bt] 9 _ rfl (by rw [← HBT.out]; rfl)) (Rd.of_own HO8.out) (own_cap HO8.out) HT40.out HN40.out (by have := HNL.out; omega))
                have HFP : Hid (farS ((some ⟨wr.heap.size, 0, none⟩, 1), (AN, cN), ([t], needsR (rulesOf L) t)) (Value.slice AO j cO).ownBlock) := Lib.hid (farS_new HOI.out (fun g off hA _ => by
                  injection hA with hA; injection hA with hA _ _
                  left
                  omega) (fun g off hA hp => by
                  right
                  obtain ⟨g', off', hA', hlt', _⟩ := Rd.of_own HOW.out hp
                  simp only [] at hA
                  rw [hA] at hA'
                  injection hA' with hA'
                  injection hA' with hA' _ _
                  omega))
                have HRO2 : Hid (rulesOf (LO ++ [((some ⟨wr.heap.size, 0, none⟩, 1), (AN, cN), ([t], needsR (rulesOf L) t))]) = (TT.take (j + 1)).map fun t => ([t], needsR (rulesOf L) t)) := Lib.hid (by
                  rw [take_snocS HTJ.out, List.map_append, ← HRO.out]
                  unfold rulesOf
                  rw [List.map_append]
                  rfl)
                have HW2 : Hid (∀ t ∈ TT.take (j + 1), (needsR (rulesOf L) t).length ≤ 64) := Lib.hid (fun q hq => by
                  rw [take_snocS HTJ.out] at hq
                  rcases List.mem_append.1 hq with hq | hq
                  · exact HW.out q hq
                  · rw [List.mem_singleton.1 hq]; have := HWL.out; omega)
                have HV1 : Hid (Value.slice (some ⟨wr.heap.size, 0, none⟩) 1 1 = rsT ((some ⟨wr.heap.size, 0, none⟩, 1), (AN, cN), ([t], needsR (rulesOf L) t))) := Lib.hid rfl
                have HV2 : Hid (Value.slice AN (needsR (rulesOf L) t).length cN = rsN ((some ⟨wr.heap.size, 0, none⟩, 1), (AN, cN), ([t], needsR (rulesOf L) t))) := Lib.hid rfl
                have HSZ2 := Lib.hid HB8.out.size
                clear hw hba
                generalize (needsR (rulesOf L) t).length = nl at *
                go_wp2_with (at_builtin; refine wpList_pushRl (wr.alloc (.cells #[.string bt] 9)) _ _ w7.heap.size AO j cO LO ((some ⟨wr.heap.size, 0, none⟩, 1), (AN, cN), ([t], needsR (rulesOf L) t)) _ _ HV1.out HV2.out HOI8.out HSZ2.out (by omega) HP.out HFP.out rfl rfl rfl (by simp [go_sem]) ?_; intro g9 c9 w9 hoi9 hb9)
                exact ⟨⟨j + 1, _, c9, _, rfl, by omega, rfl, HRO2, HW2, Lib.hid hoi9, Lib.hid (HB8.out.trans hb9)⟩, measL hlt⟩
            · obtain rfl : j = TT.length := by omega
              by_cases h64 : 64 < TT.length
              · have HE : Hid (joinE (rulesOf L) = 2) := Lib.hid (HMY.out (.inl h64))
                have h2 : (64 : Int) < (TT.length : Int) := by omega
                clear h64
                go_wp2_with fail
                go_ret2
                exact jPost_no (by rw [HE.out]; decide) (by rw [HE.out]; rfl) (below_newL HB7.out HBQ.out)
              · have h2 : ¬ (64 : Int) < (TT.length : Int) := by omega
                have HWN : Hid (wideB (rulesOf L) = false) := Lib.hid (wide_no (fun t ht => HW.out t (by rw [List.take_length, ← HTT.out]; exact ht)))
                have HE : Hid (joinE (rulesOf L) = 0) := Lib.hid (joinE_ok H100.out HF0.out (by rw [HTT.out]; exact h64) HWN.out)
                have HRR : Hid (rulesOf LO = joinR (rulesOf L)) := Lib.hid (by rw [joinR_ok HE.out, HRO.out, List.take_length, HTT.out])
                clear h64
                go_wp2_with fail
                go_ret2
                exact ⟨AO, cO, LO, by rw [HE.out, HOI.out.len]; rfl, HOI.out.all, HRR.out, below_newL HB7.out HBQ.out⟩
end Go.Proofs.Ytoandhhkmkgmaaa
