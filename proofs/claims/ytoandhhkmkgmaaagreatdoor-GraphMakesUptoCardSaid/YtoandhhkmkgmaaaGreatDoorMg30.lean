/- Contracts: macro.flats, macro.Check. Names below 2^63 bytes, values shorter than 2^32 - 15. -/
import Derived.Test.YtoandhhkmkgmaaaGreatDoorMg19
import Derived.Maps.RangeRun
import Derived.Deep.AppendLies
import Derived.Deep.RegionLaw
import Derived.OneCell
namespace Go.Proofs.YtoandhhkmkgmaaaGreatDoor
open Go.RowKit Go.ChangeMaps

/-- Some macro is too large. -/
noncomputable def bigM (l : List MacT) : Bool := l.any fun x => (flM l x.1).1
noncomputable def flatsE (l : List MacT) : Nat := if macE l ≠ 0 then macE l else if bigM l = true then 2 else 0
theorem flatsE_bad {l : List MacT} (h : macE l ≠ 0) : flatsE l = macE l := if_pos h
theorem flatsE_big {l : List MacT} (h : macE l = 0) (h2 : bigM l = true) : flatsE l = 2 := by unfold flatsE; rw [if_neg (fun e => e h), if_pos h2]
theorem flatsE_ok {l : List MacT} (h : macE l = 0) (h2 : bigM l = false) : flatsE l = 0 := by unfold flatsE; rw [if_neg (fun e => e h), if_neg (by rw [h2]; decide)]
/-- The table, all worked out. -/
structure AllM (l : List MacT) (bm : Nat) (m : Int) (T : List EntM) (w : World) : Prop where
 wk : WkAt l bm m T w
 two : ∀ x ∈ T, x.st = 2
theorem AllM.below {l : List MacT} {bm : Nat} {m : Int} {T : List EntM} {w w' : World} (h : AllM l bm m T w) (hb : Below w.heap.size w w') : AllM l bm m T w' := ⟨h.wk.below hb, h.two⟩
theorem AllM.fix {l : List MacT} {bm : Nat} {m : Int} {T : List EntM} {w : World} (h : AllM l bm m T w) : FixM l (lookT T) := by
 intro n v hv
 rw [← h.wk.inv.pairs] at hv
 obtain ⟨x, hx, hp⟩ := List.mem_map.1 hv
 unfold pairM at hp
 injection hp with h1 h2
 rw [← h1, ← h2, lookT_of h.wk.tab.nd hx]
 exact (h.wk.inv.done x hx (h.two x hx)).2.2
theorem AllM.says {l : List MacT} {bm : Nat} {m : Int} {T : List EntM} {w : World} (h : AllM l bm m T w) (hz : macE l = 0) {x : EntM} (hx : x ∈ T) : flM l x.nm = (x.large, x.flat) := by
 rw [← lookT_of h.wk.tab.nd hx]
 exact (flM_eq h.fix hz (by rw [h.wk.inv.names]; exact List.mem_map.2 ⟨x, hx, rfl⟩)).symm
theorem AllM.of {l : List MacT} {bm : Nat} {m : Int} {T : List EntM} {w : World} (h : AllM l bm m T w) {x : MacT} (hx : x ∈ l) : ∃ e ∈ T, e.nm = x.1 ∧ e.val = x.2 := by
 rw [← h.wk.inv.pairs] at hx
 obtain ⟨e, he, hp⟩ := List.mem_map.1 hx
 exact ⟨e, he, by rw [← hp]; rfl, by rw [← hp]; rfl⟩
theorem AllM.big {l : List MacT} {bm : Nat} {m : Int} {T : List EntM} {w : World} (h : AllM l bm m T w) (hz : macE l = 0) {x : EntM} (hx : x ∈ T) (hl : x.large = true) : bigM l = true := by
 unfold bigM
 rw [List.any_eq_true]
 refine ⟨pairM x, by rw [← h.wk.inv.pairs]; exact List.mem_map.2 ⟨x, hx, rfl⟩, ?_⟩
 show (flM l x.nm).1 = true
 rw [h.says hz hx]
 exact hl
theorem AllM.small {l : List MacT} {bm : Nat} {m : Int} {T : List EntM} {w : World} (h : AllM l bm m T w) (hz : macE l = 0) (hl : ∀ x ∈ T, x.large = false) : bigM l = false := by
 unfold bigM
 rw [List.any_eq_false]
 intro x hx
 obtain ⟨e, he, h1, _⟩ := h.of hx
 rw [← h1, h.says hz he]
 simp [hl e he]
def FlatsPost (l : List MacT) (m : Int) (w : World) (e : Ending) (w' : World) : Prop :=
 Below w.heap.size w w' ∧ ((flatsE l ≠ 0 ∧ e = .returned (.tuple #[.map none, .int .i64 (flatsE l : Nat)])) ∨ (flatsE l = 0 ∧ macE l = 0 ∧ bigM l = false ∧ ∃ bm T, e = .returned (.tuple #[.map (some bm), .int .i64 0]) ∧ AllM l bm m T w'))
def seenS (r : Nat) (M : SMapT) (w : World) : Nat := (leftOf (entS M) (w.iterSeen r)).size
theorem iterSeenM {w : World} {r : Nat} {a : Option Nat} {b c : Nat} {s : Array Nat} (h : w.heap[r]? = some (.mapIter a b s c)) : w.iterSeen r = s := by unfold World.iterSeen; rw [h]
theorem entS_born_lt {M : SMapT} {x : MapEntry} (h : x ∈ (entS M).toList) : x.born < M.length := by
 obtain ⟨j, s, t, h1, rfl⟩ := entS_mem h
 exact (List.getElem?_eq_some_iff.1 h1).1
theorem entS_nodup (M : SMapT) : ((entS M).toList.map (·.born)).Nodup := by rw [entS_born]; exact List.nodup_range
theorem leftS_at {M : SMapT} {seen : Array Nat} {e : MapEntry} (h : e ∈ (leftOf (entS M) seen).toList) : ∃ s t, M[e.born]? = some (s, t) ∧ e.key = kvS s ∧ e.val = t := by
 obtain ⟨j, s, t, h1, rfl⟩ := entS_mem (mem_left h).1
 exact ⟨s, t, h1, rfl, rfl⟩
theorem contains_pushM (s : Array Nat) (a b : Nat) : (s.push a).contains b = (s.contains b || (b == a)) := by
 rw [Array.contains_push]
theorem leftS_none {M : SMapT} {seen : Array Nat} (h0 : (leftOf (entS M) seen).size = 0) {j : Nat} {s : List UInt8} {t : Value} (h : M[j]? = some (s, t)) : seen.contains j = true := by
 cases hc : seen.contains j with
 | true => rfl
 | false =>
   have hm : (⟨kvS s, t, j⟩ : MapEntry) ∈ leftOf (entS M) seen := by
    unfold leftOf
    rw [Array.mem_filter]
    refine ⟨Array.mem_toList_iff.1 (List.mem_of_getElem? (entS_get h)), ?_⟩
    simp only [hc]
    rfl
   have := Array.eq_empty_of_size_eq_zero h0
   rw [this] at hm
   simp at hm
theorem tabS_at {T : List EntM} {j : Nat} {s : List UInt8} {t : Value} (h : (tabS T)[j]? = some (s, t)) : ∃ e, T[j]? = some e ∧ e.nm = s ∧ t = .pointer (some ⟨e.blk, 0, none⟩) := by
 unfold tabS at h
 rw [List.getElem?_map] at h
 obtain ⟨e, h1, h2⟩ := Option.map_eq_some_iff.1 h
 injection h2 with h2 h3
 exact ⟨e, h1, h2, h3.symm⟩
theorem tabS_get {T : List EntM} {j : Nat} {e : EntM} (h : T[j]? = some e) : (tabS T)[j]? = some (e.nm, .pointer (some ⟨e.blk, 0, none⟩)) := by unfold tabS; rw [List.getElem?_map, h]; rfl
set_option maxRecDepth 100000 in
set_option maxHeartbeats 1000000 in
theorem mFlats_any {A : Option Addr} {n c : Nat} (l : List MacT) (m : Int) (w : World) (hr : Rd w A (macV l)) (hn : l.length = n) (hb : n ≤ 9223372036854775807) (hs : ∀ x ∈ l, x.1.length ≤ 9223372036854775807 ∧ x.2.length < 4294967281) (hm : w.cell? ⟨1, 0, none⟩ = some (.int .i64 m)) (h0 : 1 < w.heap.size) :
 Calls Tryz.prog 79 #[.slice A n c] w (FlatsPost l m w) := by
 have HC := Lib.hid (mNew_any (c := c) l m w hr hn hb hs hm h0)
 clear hr hn hb hs hm h0
 go_enter Tryz.func79, Tryz.ntmps79
 go_wp2_with fail
 refine HC.out.mono ?_
 rintro e w1 ⟨hb1, ⟨h1, rfl⟩ | ⟨h1, bm, T, rfl, hwk, htwo⟩⟩
 ·have HB := Lib.hid hb1
  have HE := Lib.hid h1
  have hrg := run_range_nilMap (P := Tryz.prog) w1 129 9 134 mapKindM
  have hnx := fun ty => run_next_nilMap (P := Tryz.prog) w1 ty 0 0 #[]
  have HB2 := Lib.hid (hb1.alloc hb1.size (.mapIter none 0 #[] 0))
  clear hb1 h1
  generalize hE : macE l = E at *
  have HE0 := Lib.hid hE
  clear hE
  go_wp2_with fail
  go_loopw [7] (fun _ wr => Hid (wr = w1.alloc (.mapIter none 0 #[] 0))) (fun _ _ => 0)
  case atStart => exact Lib.hid rfl
  case round =>
   have HW := hrel
   obtain rfl := HW.out
   clear HW hrel hrg
   have hnx0 := hnx 0
   go_wp2_with fail
   go_ret2
   refine ⟨HB2.out, .inl ⟨?_, ?_⟩⟩
   ·rw [flatsE_bad (by rw [HE0.out]; exact HE.out), HE0.out]; exact HE.out
   ·rw [flatsE_bad (by rw [HE0.out]; exact HE.out), HE0.out]; rfl
 ·have HA : Hid (AllM l bm m T w1) := Lib.hid ⟨hwk, htwo⟩
  have HB := Lib.hid hb1
  have HE := Lib.hid h1
  have hrg := run_range_map (P := Tryz.prog) w1 129 9 134 bm (entS (tabS T)) (tabS T).length mapKindM hwk.tab.mp
  have HIT : Hid ((w1.alloc (.mapIter (some bm) (tabS T).length #[] (tabS T).length)).heap[w1.heap.size]? = some (.mapIter (some bm) (tabS T).length #[] (tabS T).length)) := Lib.hid (heap_alloc_new _ _)
  have HBW : Hid (Below w1.heap.size w1 (w1.alloc (.mapIter (some bm) (tabS T).length #[] (tabS T).length))) := Lib.hid (below_new (Below.refl _ _) _)
  clear hwk htwo hb1 h1
  go_wp2_with fail
  clear hrg
  go_loopw [7] (fun _ wr => ∃ (seen : Array Nat), Hid (∀ j e, T[j]? = some e → seen.contains j = true → e.large = false) ∧ Hid (wr.heap[w1.heap.size]? = some (.mapIter (some bm) (tabS T).length seen (tabS T).length)) ∧ Hid (Below w1.heap.size w1 wr)) (fun _ wr => seenS w1.heap.size (tabS T) wr)
  case atStart => exact ⟨#[], Lib.hid (by simp), HIT, HBW⟩
  case round =>
   clear HIT HBW
   obtain ⟨seen, HS, HIT, HBW⟩ := hrel
   have HAR := Lib.hid (HA.out.below HBW.out)
   have hmw : wr.heap[bm]? = some (.map (entS (tabS T)) (tabS T).length) := HAR.out.wk.tab.mp
   rcases run_next_at (P := Tryz.prog) wr 0 w1.heap.size bm (tabS T).length (tabS T).length seen (entS (tabS T)) (tabS T).length HIT.out hmw (fun x hx => entS_born_lt hx) (Nat.le_refl _) with ⟨hz0, hnx⟩ | ⟨e, he, w4, hw4, hnx⟩
   ·have HSM : Hid (bigM l = false) := Lib.hid (HA.out.small HE.out (fun x hx => by
     obtain ⟨j, hj⟩ := List.mem_iff_getElem?.1 hx
     exact HS.out j x hj (leftS_none hz0 (tabS_get hj))))
    clear hz0 hmw
    go_wp2_with fail
    go_ret2
    exact ⟨HB.out.trans (HBW.out.mono HB.out.size), .inr ⟨flatsE_ok HE.out HSM.out, HE.out, HSM.out, bm, T, rfl, HAR.out⟩⟩
   ·obtain ⟨s, t, hat, hk, hv⟩ := leftS_at he
    obtain ⟨x, hx, hxs, rfl⟩ := tabS_at hat
    have HX := Lib.hid hx
    have HLS := Lib.hid (left_shrinks (entS (tabS T)) seen e he)
    have hB4 : Below w1.heap.size w1 w4 := by
     rcases hw4 with rfl | rfl
     ·exact HBW.out
     ·exact HBW.out.drew
    have HB5 : Hid (Below w1.heap.size w1 (setBlock w4 w1.heap.size (.mapIter (some bm) (tabS T).length (seen.push e.born) (tabS T).length))) := Lib.hid (below_setB hB4 (Nat.le_refl _) _)
    have HIT5 : Hid ((setBlock w4 w1.heap.size (.mapIter (some bm) (tabS T).length (seen.push e.born) (tabS T).length)).heap[w1.heap.size]? = some (.mapIter (some bm) (tabS T).length (seen.push e.born) (tabS T).length)) := Lib.hid (setB_same _ _ _ (by
     have h1 := (Array.getElem?_eq_some_iff.1 HIT.out).1
     rcases hw4 with rfl | rfl <;> exact h1))
    have HA5 := Lib.hid (HA.out.below HB5.out)
    have hen := run_entry_at (P := Tryz.prog) _ w1.heap.size bm (tabS T).length seen (entS (tabS T)) (tabS T).length e HIT5.out HA5.out.wk.tab.mp (mem_left he).1 (entS_nodup (tabS T))
    rw [hk, hv] at hen hnx
    unfold kvS at hen hnx
    have HME : Hid (seenS w1.heap.size (tabS T) (setBlock w4 w1.heap.size (.mapIter (some bm) (tabS T).length (seen.push e.born) (tabS T).length)) < seenS w1.heap.size (tabS T) wr) := Lib.hid (by
     unfold seenS
     rw [iterSeenM HIT5.out, iterSeenM HIT.out]
     exact HLS.out)
    have y4 := (HA5.out.wk.tab.blk x (List.mem_of_getElem? hx)).cell (j := 4) rfl
    clear hmw hw4 he hk hv hB4 hx hat HLS
    generalize setBlock w4 w1.heap.size (.mapIter (some bm) (tabS T).length (seen.push e.born) (tabS T).length) = w5 at *
    cases hlg : x.large with
    | true =>
      rw [hlg] at y4
      have HBG := Lib.hid (HA.out.big HE.out (List.mem_of_getElem? HX.out) hlg)
      clear hlg
      go_wp2_with fail
      go_ret2
      refine ⟨HB.out.trans (HB5.out.mono HB.out.size), .inl ⟨?_, ?_⟩⟩
      ·rw [flatsE_big HE.out HBG.out]; decide
      ·rw [flatsE_big HE.out HBG.out]; rfl
    | false =>
      rw [hlg] at y4
      have HLG := Lib.hid hlg
      have HS5 : Hid (∀ j e', T[j]? = some e' → (seen.push e.born).contains j = true → e'.large = false) := Lib.hid (fun j e' hj hc => by
       rw [contains_pushM] at hc
       by_cases hje : j = e.born
       ·subst hje
        rw [HX.out] at hj
        injection hj with hj
        rw [← hj]; exact HLG.out
       ·exact HS.out j e' hj (by simpa [hje] using hc))
      clear hlg
      go_wp2_with fail
      go_roundw
      case rel => exact ⟨seen.push e.born, HS5, HIT5, HB5⟩
      case measure => exact HME.out
end Go.Proofs.YtoandhhkmkgmaaaGreatDoor
/- Contracts: macro.Flat, macro.Expand. Names below 2^63 bytes, values and the text shorter than 2^32 - 15. -/
namespace Go.Proofs.YtoandhhkmkgmaaaGreatDoor
open Go.RowKit Go.ChangeMaps

/-- The macros, all flat. -/
noncomputable def flatL (l : List MacT) : List MacT := l.map fun x => (x.1, (flM l x.1).2)
theorem macV_snoc (L : List MacT) (x : MacT) : macV (L ++ [x]) = macV L ++ [sv x.1, sv x.2] := by unfold macV; rw [List.flatMap_append]; rfl
theorem macInfo : ∃ i, Tryz.prog.info? 71 = some i ∧ i.zero = some (.agg #[.string ⟨#[]⟩, .string ⟨#[]⟩]) ∧ i.size = 2 ∧ i.bytes = 32 := by
 have h : (Tryz.prog.info? 71).map (fun i => (i.zero, i.size, i.bytes)) = some (some (.agg #[.string ⟨#[]⟩, .string ⟨#[]⟩]), 2, 32) := by kernel_rfl
 cases hi : Tryz.prog.info? 71 with
 | none => rw [hi] at h; cases h
 | some i =>
   rw [hi] at h
   simp at h
   exact ⟨i, rfl, h⟩
def FlatPost (l : List MacT) (w : World) (e : Ending) (w' : World) : Prop :=
 Below w.heap.size w w' ∧ ((flatsE l ≠ 0 ∧ e = .returned (.tuple #[.slice none 0 0, .int .i64 (flatsE l : Nat)])) ∨ (flatsE l = 0 ∧ ∃ A c, e = .returned (.tuple #[.slice A l.length c, .int .i64 0]) ∧ w'.ownsRow w.heap.size 71 2 (.slice A l.length c) l.length (macV (flatL l))))
theorem cell2_new (w : World) (u v : Value) (t : TypeId) : ∀ j x, ([u, v] : List Value)[j]? = some x → (w.alloc (.cells #[u, v] t)).cell? ((⟨w.heap.size, 0, none⟩ : Addr).add j) = some x := by
 intro j x hj
 rw [Addr.add_lit, World.cell?_alloc_at _ _ _ _ rfl, Nat.zero_add]
 simpa using hj
theorem own_baseM {w : World} {B B' : Nat} {e : TypeId} {sz : Nat} {v : Value} {n : Nat} {xs : List Value} (h : w.ownsRow B e sz v n xs) (hB : B' ≤ B) : w.ownsRow B' e sz v n xs := by
 refine ⟨h.1, ?_⟩
 rcases h.2 with h' | ⟨g, cap, cur, h1, h2, h3⟩
 ·exact .inl h'
 ·exact .inr ⟨g, cap, cur, h1, by omega, h3⟩
set_option maxRecDepth 100000 in
set_option maxHeartbeats 2000000 in
theorem mFlatAll_any {A : Option Addr} {n c : Nat} (l : List MacT) (m : Int) (w : World) (hr : Rd w A (macV l)) (hn : l.length = n) (hb : n ≤ 9223372036854775807) (hs : ∀ x ∈ l, x.1.length ≤ 9223372036854775807 ∧ x.2.length < 4294967281) (hm : w.cell? ⟨1, 0, none⟩ = some (.int .i64 m)) (h0 : 1 < w.heap.size) :
 Calls Tryz.prog 35 #[.slice A n c] w (FlatPost l w) := by
 have HC := Lib.hid (mFlats_any (c := c) l m w hr hn hb hs hm h0)
 have HR := Lib.hid hr
 have HN := Lib.hid hn
 clear hr hn hb hs hm h0
 go_enter Tryz.func35, Tryz.ntmps35
 go_wp2_with fail
 refine HC.out.mono ?_
 rintro e w1 ⟨hb1, ⟨h1, rfl⟩ | ⟨h1, h2, h3, bm, T, rfl, ha⟩⟩
 ·have HB := Lib.hid hb1
  have HE := Lib.hid h1
  have hne : ((flatsE l : Int) == 0) = false := by simp; exact h1
  clear hb1 h1
  go_wp2_with fail
  go_ret2
  exact ⟨HB.out, .inl ⟨HE.out, rfl⟩⟩
 ·have HB := Lib.hid hb1
  have HE := Lib.hid h1
  have HE2 := Lib.hid h2
  have HA := Lib.hid ha
  have hn40 : n ≤ 40 := by have := (macE_zero h2).1; rw [HN.out] at this; omega
  clear hb1 h1 h2 h3 ha
  have HRW := Lib.hid (HR.out)
  go_wp2_with fail
  go_loopw [6, 8, 19] (fun v _ i wr => ∃ (q : Nat) (AO : Option Addr) (cO : Nat), i = .int .i64 (q : Int) ∧ q ≤ n ∧ v = .slice AO q cO ∧ Hid (wr.ownsRow w1.heap.size 71 2 (.slice AO q cO) q (macV ((flatL l).take q))) ∧ Hid (Below w1.heap.size w1 wr)) (fun _ _ i _ => n - (intOf i).toNat)
  case atStart => exact ⟨0, none, 0, rfl, by omega, rfl, Lib.hid (World.ownsRow_nil _ _ _ _), Lib.hid (Below.refl _ _)⟩
  case round =>
   obtain ⟨q, AO, cO, rfl, hq, rfl, HO, HBW⟩ := hrel
   by_cases hlt : q < n
   ·obtain ⟨x, hx⟩ : ∃ x, l[q]? = some x := ⟨_, List.getElem?_eq_getElem (by rw [HN.out]; exact hlt)⟩
    obtain ⟨b, off, rfl, c0, c1⟩ := (show Rd wr A (macV l) from fun hp => by
     obtain ⟨b, off, h1, h2, h3⟩ := HR.out hp
     have hb := HB.out.trans (HBW.out.mono HB.out.size)
     exact ⟨b, off, h1, Nat.lt_of_lt_of_le h2 hb.size, fun j u hj => (hb.cell (p := ⟨b, off + j, none⟩) h2).trans (h3 j u hj)⟩).two hx
    have HX := Lib.hid hx
    obtain ⟨e0, he0, hen, _⟩ := HA.out.of (List.mem_of_getElem? hx)
    obtain ⟨xn, xv⟩ := x
    rw [Nat.mul_comm 2 q] at c0 c1
    simp only [] at c0 c1 hen
    have HFL : Hid ((flatL l)[q]? = some (xn, e0.flat)) := Lib.hid (by
     unfold flatL
     rw [List.getElem?_map, hx]
     show some (xn, (flM l xn).2) = _
     rw [← hen, HA.out.says HE2.out he0])
    obtain ⟨bn, hbn⟩ : ∃ bn, sv xn = .string bn := ⟨_, rfl⟩
    obtain ⟨bv, hbv⟩ : ∃ bv, sv xv = .string bv := ⟨_, rfl⟩
    obtain ⟨bf, hbf⟩ : ∃ bf, sv e0.flat = .string bf := ⟨_, rfl⟩
    rw [hbn] at c0
    rw [hbv] at c1
    have hW1 : Below wr.heap.size wr (wr.alloc (.cells #[.string bn, .string bv] 71)) := (Below.refl _ _).alloc (Nat.le_refl _) _
    have HBK := Lib.hid (Blk.new wr #[.string bn, .string bv] 71)
    have HSZ : Hid ((wr.alloc (.cells #[.string bn, .string bv] 71)).heap.size = wr.heap.size + 1) := Lib.hid (by simp)
    have HBW1 := Lib.hid (HBW.out.trans (hW1.mono HBW.out.size))
    have HO1 := Lib.hid (HO.out.alloc (.cells #[.string bn, .string bv] 71))
    clear hx
    go_upto_region 8 with fail
    generalize hw3 : wr.alloc (.cells #[.string bn, .string bv] 71) = w3 at *
    have HA3 := Lib.hid (HA.out.below HBW1.out)
    have HD : Hid (∀ o, Below w3.heap.size w3 (w3.drew.alloc o)) := Lib.hid (fun o => drew_alloc_below w3 o)
    have HA4 := Lib.hid (fun o => HA3.out.below (HD.out o))
    have lk0 : (Instr.lookup 129 (.map (some bm)) (.string bn) false).run Tryz.prog w3.drew = .ok (.pointer (some ⟨e0.blk, 0, none⟩)) w3.drew := by
     have := tabFind (HA3.out.below (below_of_drewN _ 1)).wk.tab he0
     rw [hen, hbn] at this
     exact this
    have lk1 : ∀ o, (Instr.lookup 129 (.map (some bm)) (.string bn) false).run Tryz.prog (w3.drew.alloc o) = .ok (.pointer (some ⟨e0.blk, 0, none⟩)) (w3.drew.alloc o) := fun o => by
     have := tabFind (HA4.out o).wk.tab he0
     rw [hen, hbn] at this
     exact this
    have z0 : w3.drew.cell? ⟨wr.heap.size, 0, none⟩ = some (.string bn) := HBK.out.cell (j := 0) rfl
    have z1 : ∀ o, (w3.drew.alloc o).cell? ⟨wr.heap.size, 0, none⟩ = some (.string bn) := fun o => (HBK.out.below (HD.out o) HBK.out.lt).cell (j := 0) rfl
    have y0 : w3.drew.cell? ⟨e0.blk, 3, none⟩ = some (.string bf) := by rw [← hbf]; exact (HA3.out.wk.tab.blk e0 he0).cell (j := 3) rfl
    have y1 : ∀ o, (w3.drew.alloc o).cell? ⟨e0.blk, 3, none⟩ = some (.string bf) := fun o => by rw [← hbf]; exact ((HA4.out o).wk.tab.blk e0 he0).cell (j := 3) rfl
    obtain ⟨i0, hi, hz, hs1, hby⟩ := macInfo
    have ht : Tryz.prog.underlying 23 = some (.slice 71) := by kernel_rfl
    have H1 : Hid ((w3.drew.alloc (.cells #[.string bn, .string bf] 71)).ownsRow w1.heap.size 71 2 (.slice AO q cO) q (macV ((flatL l).take q))) := Lib.hid (own_belowK HO1.out (HD.out _))
    have H2 : Hid (∀ j u, ([.string bn, .string bf] : List Value)[j]? = some u → (w3.drew.alloc (.cells #[.string bn, .string bf] 71)).cell? ((⟨w3.heap.size, 0, none⟩ : Addr).add j) = some u) := Lib.hid (cell2_new w3.drew _ _ _)
    have H3 : Hid (∀ u ∈ ([.string bn, .string bf] : List Value), u.oneCell' = true) := Lib.hid (by intro u hu; simp at hu; rcases hu with rfl | rfl <;> rfl)
    have H4 : Hid (w1.heap.size ≤ (w3.drew.alloc (.cells #[.string bn, .string bf] 71)).heap.size) := Lib.hid (Nat.le_trans HBW1.out.size (HD.out _).size)
    have H5 : Hid (Below w1.heap.size w1 (w3.drew.alloc (.cells #[.string bn, .string bf] 71))) := Lib.hid (HBW1.out.trans ((HD.out _).mono HBW1.out.size))
    have HBN := Lib.hid hbn
    have HBF := Lib.hid hbf
    clear hw3 hbn hbv hbf he0 hen hW1 c0 c1
    go_region_law
     (refine step_append_lies _ rfl (.tmp 23) (.tmp 34) 23 rfl w1.heap.size 71 i0 _ 2 32 ht hi hz hs1 hby rfl (by decide) (.slice AO q cO) q (macV ((flatL l).take q)) (by simp [Act.eval]) H1.out ⟨w3.heap.size, 0, none⟩ 1 1 [.string bn, .string bf] (by simp [Act.eval]) rfl H2.out H3.out (by decide) (by unfold maxLen; omega) (by omega) H4.out _ rfl ?_; intro g7 c7 w7 hown7 hg7 _ _)
    all_goals (
     have HOW : Hid (w7.ownsRow w1.heap.size 71 2 (.slice (some ⟨g7, 0, none⟩) (q + 1) c7) (q + 1) (macV ((flatL l).take (q + 1)))) := Lib.hid (by
      rw [takeS_any HFL.out, macV_snoc, HBN.out, HBF.out]
      exact hown7)
     have HB7 : Hid (Below w1.heap.size w1 w7) := Lib.hid (H5.out.grown hg7 H4.out (fun k hk => (H1.out.lt k hk).1))
     clear hown7 hg7
     go_simp
     go_wp2_with fail
     exact ⟨⟨q + 1, some ⟨g7, 0, none⟩, c7, by go_num, by omega, rfl, HOW, HB7⟩, by simp [intOf]; omega⟩)
   ·obtain rfl : q = n := by omega
    go_wp2_with fail
    go_ret2
    have hfl : (flatL l).length = q := by unfold flatL; rw [List.length_map]; exact HN.out
    refine ⟨HB.out.trans (HBW.out.mono HB.out.size), .inr ⟨HE.out, AO, cO, by rw [HN.out]; rfl, ?_⟩⟩
    have h := HO.out
    rw [← hfl, List.take_length, hfl] at h
    rw [HN.out]
    exact own_baseM h HB.out.size
end Go.Proofs.YtoandhhkmkgmaaaGreatDoor
/- Contract: macro.Expand. Names below 2^63 bytes, values and the text shorter than 2^32 - 15. -/
namespace Go.Proofs.YtoandhhkmkgmaaaGreatDoor
open Go.RowKit Go.ChangeMaps

def lackM (l : List MacT) (s : List UInt8) : Bool := (usesOf s).any fun u => !inL (namesL l) u
noncomputable def expE (l : List MacT) (s : List UInt8) : Nat := if flatsE l ≠ 0 then flatsE l else if (parseM s).2 = false then 3 else if lackM l s = true then 5 else if (flatP (flM l) s).1 = true then 2 else 0
noncomputable def expT (l : List MacT) (s : List UInt8) : List UInt8 := if expE l s = 0 then (flatP (flM l) s).2 else []
theorem expE_bad {l : List MacT} {s : List UInt8} (h : flatsE l ≠ 0) : expE l s = flatsE l := if_pos h
theorem expE_form {l : List MacT} {s : List UInt8} (h : flatsE l = 0) (h2 : (parseM s).2 = false) : expE l s = 3 := by unfold expE; rw [if_neg (fun e => e h), if_pos h2]
theorem expE_none {l : List MacT} {s : List UInt8} (h : flatsE l = 0) (h2 : (parseM s).2 = true) (h3 : lackM l s = true) : expE l s = 5 := by unfold expE; rw [if_neg (fun e => e h), if_neg (by rw [h2]; decide), if_pos h3]
theorem expE_big {l : List MacT} {s : List UInt8} (h : flatsE l = 0) (h2 : (parseM s).2 = true) (h3 : lackM l s = false) (h4 : (flatP (flM l) s).1 = true) : expE l s = 2 := by unfold expE; rw [if_neg (fun e => e h), if_neg (by rw [h2]; decide), if_neg (by rw [h3]; decide), if_pos h4]
theorem expE_ok {l : List MacT} {s : List UInt8} (h : flatsE l = 0) (h2 : (parseM s).2 = true) (h3 : lackM l s = false) (h4 : (flatP (flM l) s).1 = false) : expE l s = 0 := by unfold expE; rw [if_neg (fun e => e h), if_neg (by rw [h2]; decide), if_neg (by rw [h3]; decide), if_neg (by rw [h4]; decide)]
theorem lack_no {l : List MacT} {s : List UInt8} (h : ∀ u ∈ usesOf s, u ∈ namesL l) : lackM l s = false := by
 unfold lackM
 rw [List.any_eq_false]
 intro u hu
 unfold inL
 simpa using h u hu
theorem lack_yes {l : List MacT} {s u : List UInt8} (h : u ∈ usesOf s) (h2 : u ∉ namesL l) : lackM l s = true := by
 unfold lackM
 rw [List.any_eq_true]
 exact ⟨u, h, by unfold inL; simpa using h2⟩
theorem lack_mem {l : List MacT} {s : List UInt8} (h : lackM l s = false) : ∀ u ∈ usesOf s, u ∈ namesL l := fun u hu => by
 unfold lackM at h
 rw [List.any_eq_false] at h
 have := h u hu
 unfold inL at this
 simpa using this
def ExpPost (l : List MacT) (s : List UInt8) (w : World) (e : Ending) (w' : World) : Prop := Below w.heap.size w w' ∧ e = .returned (.tuple #[sv (expT l s), .int .i64 (expE l s : Nat)])
theorem expPost_no {l : List MacT} {s : List UInt8} {w w' : World} {k : Nat} (hb : Below w.heap.size w w') (he : expE l s = k) (h0 : k ≠ 0) : ExpPost l s w (.returned (.tuple #[.string ⟨#[]⟩, .int .i64 (k : Int)])) w' := ⟨hb, by unfold expT; rw [if_neg (by rw [he]; exact h0), he]; rfl⟩
set_option maxRecDepth 100000 in
set_option maxHeartbeats 2000000 in
theorem mExpand_any {A : Option Addr} {n c : Nat} (l : List MacT) (s : List UInt8) (m : Int) (w : World) (hr : Rd w A (macV l)) (hn : l.length = n) (hb : n ≤ 9223372036854775807) (hs : ∀ x ∈ l, x.1.length ≤ 9223372036854775807 ∧ x.2.length < 4294967281) (hsl : s.length < 4294967281) (hm : w.cell? ⟨1, 0, none⟩ = some (.int .i64 m)) (h0 : 1 < w.heap.size) :
 Calls Tryz.prog 36 #[.slice A n c, sv s] w (ExpPost l s w) := by
 have HC := Lib.hid (mFlats_any (c := c) l m w hr hn hb hs hm h0)
 have HSL := Lib.hid hsl
 have HM := Lib.hid hm
 have HW0 := Lib.hid h0
 clear hr hn hb hs hm h0 hsl
 go_enter Tryz.func36, Tryz.ntmps36
 go_wp2_with fail
 refine HC.out.mono ?_
 rintro e w1 ⟨hb1, ⟨h1, rfl⟩ | ⟨h1, h2, h3, bm, T, rfl, ha⟩⟩
 ·have HB := Lib.hid hb1
  have HE := Lib.hid h1
  have hne : ((flatsE l : Int) == 0) = false := by simp; exact h1
  clear hb1 h1
  go_wp2_with fail
  go_ret2
  exact expPost_no HB.out (expE_bad HE.out) HE.out
 ·have HB := Lib.hid hb1
  have HE := Lib.hid h1
  have HE2 := Lib.hid h2
  have HA := Lib.hid ha
  have HU := Lib.hid (mUses_any s w1 m ((hb1.cell (p := ⟨1, 0, none⟩) HW0.out).trans HM.out) (Nat.lt_of_lt_of_le HW0.out hb1.size) HSL.out)
  clear hb1 h1 h2 h3 ha
  go_wp2_with fail
  refine HU.out.mono ?_
  rintro e w2 (⟨hp, A', c', rfl, hown, hb2⟩ | ⟨hp, rfl, hb2⟩)
  ·have HP := Lib.hid hp
   have HRU : Hid (Rd w2 A' ((usesOf s).map sv)) := Lib.hid (rd_of_ownK hown)
   have HB2 := Lib.hid (HB.out.trans (hb2.mono HB.out.size))
   have HA2 := Lib.hid (HA.out.below hb2)
   have hul : (usesP (parseM s).1).length ≤ 8589934563 := by have h : (usesP (parseM s).1).length ≤ 2 * s.length + 1 := usesOf_len s; have := HSL.out; omega
   have HNM : Hid (namesL l = namesT T) := Lib.hid HA.out.wk.inv.names
   have HU0 : Hid ((usesOf s).length = (usesP (parseM s).1).length) := Lib.hid rfl
   generalize hnu : (usesP (parseM s).1).length = nu at *
   clear hp hown hb2 HU hnu
   go_wp2_with fail
   go_loop [10, 31] (fun _ i => ∃ (j : Nat), i = .int .i64 (j : Int) ∧ j ≤ nu ∧ Hid (∀ u ∈ (usesOf s).take j, u ∈ namesL l)) (fun _ i => nu - (intOf i).toNat)
   case atStart => exact ⟨0, rfl, by omega, Lib.hid (by simp)⟩
   case round =>
    obtain ⟨j, rfl, hj, HJ⟩ := hrel
    by_cases hlj : j < nu
    ·obtain ⟨u, hu⟩ : ∃ u, (usesOf s)[j]? = some u := ⟨_, List.getElem?_eq_getElem (by rw [HU0.out]; exact hlj)⟩
     obtain ⟨b0, o0, rfl, cu⟩ := HRU.out.scell hu
     have HUJ := Lib.hid hu
     obtain ⟨bu, hbu⟩ : ∃ bu, sv u = .string bu := ⟨_, rfl⟩
     have cu' : w2.cell? ⟨b0, o0 + j, none⟩ = some (.string bu) := by rw [← hbu]; exact cu
     by_cases hin : u ∈ namesT T
     ·obtain ⟨e1, he1, hen1⟩ := List.mem_map.1 hin
      have lu := tabFind HA2.out.wk.tab he1
      rw [hen1, hbu] at lu
      have HIN := Lib.hid hin
      clear hin he1 hen1 hbu hu cu
      go_wp2_with fail
      go_round
      case rel => exact ⟨j + 1, by go_num, by omega, Lib.hid (fun v hv => by
       rw [takeS_M HUJ.out] at hv
       rcases List.mem_append.1 hv with hv | hv
       ·exact HJ.out v hv
       ·rw [List.mem_singleton.1 hv, HNM.out]; exact HIN.out)⟩
      case measure => simp [intOf]; omega
     ·have lu := tabMiss HA2.out.wk.tab hin (by
       have h1 := mem_uses.1 (show u ∈ usesP (parseM s).1 from List.mem_of_getElem? hu)
       have := good_le (pieces_good h1)
       unfold maxLen; omega)
      rw [hbu] at lu
      have HEE : Hid (expE l s = 5) := Lib.hid (expE_none HE.out HP.out (lack_yes (List.mem_of_getElem? HUJ.out) (by rw [HNM.out]; exact hin)))
      clear hin hbu hu cu
      go_wp2_with fail
      go_ret2
      exact expPost_no (k := 5) HB2.out HEE.out (by decide)
    ·obtain rfl : j = nu := by omega
     have HLK : Hid (lackM l s = false) := Lib.hid (lack_no (fun u hu => HJ.out u (by rw [← HU0.out, List.take_length]; exact hu)))
     have HF := Lib.hid (mFlat_any bm T s w2 m HA2.out.wk.tab HA2.out.wk.cell HA2.out.wk.pos HSL.out (fun u hu => by rw [← HNM.out]; exact lack_mem HLK.out u hu))
     have HSAME : Hid (flatP (lookT T) s = flatP (flM l) s) := Lib.hid (flatP_congr (fun u hu => flM_eq HA2.out.fix HE2.out (lack_mem HLK.out u hu)))
     rw [HSAME.out] at HF
     have HE4 := Lib.hid (fun h4 => expE_big HE.out HP.out HLK.out h4)
     have HE5 := Lib.hid (fun h4 => expE_ok HE.out HP.out HLK.out h4)
     have HET : Hid (expT l s = if expE l s = 0 then (flatP (flM l) s).2 else []) := Lib.hid rfl
     obtain ⟨lg, ft, hfp⟩ : ∃ lg ft, flatP (flM l) s = (lg, ft) := ⟨_, _, rfl⟩
     rw [hfp] at HF HE4 HE5 HET
     simp only [] at HF HE4 HE5 HET
     clear hfp
     go_wp2_with fail
     refine HF.out.mono ?_
     rintro e w3 ⟨rfl, hb3⟩
     have HB3 := Lib.hid (HB2.out.trans (hb3.mono HB2.out.size))
     clear hb3
     cases lg with
     | true =>
       have HEE := Lib.hid (HE4.out rfl)
       go_wp2_with fail
       go_ret2
       exact expPost_no (k := 2) HB3.out HEE.out (by decide)
     | false =>
       have HEE := Lib.hid (HE5.out rfl)
       go_wp2_with fail
       go_ret2
       exact ⟨HB3.out, by rw [HET.out, if_pos HEE.out, HEE.out]; rfl⟩
  ·have HP := Lib.hid hp
   have HB2 := Lib.hid (HB.out.trans (hb2.mono HB.out.size))
   clear hp hb2
   go_wp2_with fail
   go_ret2
   exact expPost_no (k := 3) HB2.out (expE_form HE.out HP.out) (by decide)
end Go.Proofs.YtoandhhkmkgmaaaGreatDoor
