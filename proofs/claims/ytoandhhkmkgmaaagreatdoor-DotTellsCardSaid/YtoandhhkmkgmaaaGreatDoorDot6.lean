/- Contract: dot.Read. The table of math/bits and bytealg.MaxLen's cell lie. -/
import Derived.Test.YtoandhhkmkgmaaaGreatDoorDot3
import Derived.Test.YtoandhhkmkgmaaaGreatDoorSplitB
import Derived.Test.YtoandhhkmkgmaaaGreatDoorDotPlain
import Derived.Test.YtoandhhkmkgmaaaGreatDoorLinesIt
import Derived.Test.YtoandhhkmkgmaaaGreatDoorOrdPlain
import Derived.Test.YtoandhhkmkgmaaaGreatDoorAppendReg
import Derived.RegionIn
import Derived.Maps.AppendAt
import Derived.Maps.OwnIn
import Derived.RangeFuncBox
namespace Go.Proofs.YtoandhhkmkgmaaaGreatDoor
open Go.RowKit Go.Shelf
attribute [local go_sem] Oper.semAt_some

def zeroG : List Value := [.slice none 0 0, .slice none 0 0, .int .u64 0, .int .u64 0]
/-- The same wherever the new blocks begin. -/
structure LS0 (lo B : Nat) (v1 v2 : Value) (G : GrT) (W : World) : Prop where
  blo : B < lo
  box : Blk W B 43 [v1, v2, .int .u64 (G.2.2.1 : Int), .int .u64 (G.2.2.2 : Int)]
  names : W.ownsRow lo 9 1 v1 G.1.length (G.1.map sv)
  edges : W.ownsRow lo 102 2 v2 G.2.1.length (eV G.2.1)
  apart : ∀ g, v1.ownBlock = some g → v2.ownBlock ≠ some g
theorem LS0.up {lo B : Nat} {v1 v2 : Value} {G : GrT} {W : World} (h : LS0 lo B v1 v2 G W) (ht : lo ≤ W.heap.size) : LS lo B v1 v2 G W := ⟨h.blo, h.box, h.names, h.edges, h.apart, ht⟩
theorem LS.down {lo B : Nat} {v1 v2 : Value} {G : GrT} {W : World} (h : LS lo B v1 v2 G W) : LS0 lo B v1 v2 G W := ⟨h.blo, h.box, h.names, h.edges, h.apart⟩
/-- Between two lines: the boxes of the results, the graph that is read, what is known. -/
structure DI (w : World) (b : Nat) (s : List UInt8) (ls : List (List UInt8)) (W : World) : Prop where
  below : Below w.heap.size w W
  r1 : Blk W b 43 zeroG
  r2 : Blk W (b + 1) 30 [.int .i64 0]
  gr : ∃ v1 v2 N E p m, LS0 (b + 6) (b + 2) v1 v2 (N, E, p, m) W ∧ N.length ≤ 64 ∧ E.length ≤ ls.length ∧ B64 p ∧ B64 m ∧ Kn s ls.length (N, E, p, m) ∧ ∀ y ∈ N, y.length ≤ 1048576
structure DX (w : World) (b : Nat) (s : List UInt8) (W : World) : Prop where
  below : Below w.heap.size w W
  r1 : Blk W b 43 zeroG
  r2 : Blk W (b + 1) 30 [.int .i64 3]
  no : Reads s none
theorem dblk_but {B l D k : Nat} {W W' : World} {t : TypeId} {vs : List Value} (h : Blk W k t vs) (hb : But3 B l D W W') (h1 : k ≠ B) (h2 : k ≠ l) (h3 : k ≠ D) : Blk W' k t vs := by
  unfold Blk
  rw [hb.block k h.lt h1 h2 h3]
  exact h
theorem dbelow_but {w : World} {B l D : Nat} {W W' : World} (h : Below w.heap.size w W) (hb : But3 B l D W W') (h1 : w.heap.size ≤ B) (h2 : w.heap.size ≤ l) (h3 : w.heap.size ≤ D) : Below w.heap.size w W' :=
  ⟨hb.os.trans h.os, hb.tape.trans h.tape, hb.output.trans h.output, Nat.le_trans h.size hb.size, fun k hk => (hb.block k (Nat.lt_of_lt_of_le hk h.size) (by omega) (by omega) (by omega)).trans (h.block k hk)⟩
theorem drow_but {B l D b n z : Nat} {W W' : World} {t : TypeId} {v : Value} {xs : List Value} (h : W.ownsRow b t z v n xs) (hb : But3 B l D W W') (h1 : B < b) (h2 : l < b) (h3 : D < b) : W'.ownsRow b t z v n xs := by
  obtain ⟨h0, h | ⟨g, cap, cur, hv, hg, hk, hr⟩⟩ := h
  · exact ⟨h0, .inl h⟩
  · exact ⟨h0, .inr ⟨g, cap, cur, hv, hg, (hb.block g (Array.getElem?_eq_some_iff.1 hk).1 (by omega) (by omega) (by omega)).trans hk, hr⟩⟩
theorem DI.but {w : World} {b : Nat} {s : List UInt8} {ls : List (List UInt8)} {W W' : World} (h : DI w b s ls W) (hw : w.heap.size = b) (hb : But3 (b + 3) (b + 5) (b + 4) W W') : DI w b s ls W' := by
  obtain ⟨v1, v2, N, E, p, m, hl, h1, h2, h3, h4, h5⟩ := h.gr
  exact ⟨dbelow_but h.below hb (by omega) (by omega) (by omega), dblk_but h.r1 hb (by omega) (by omega) (by omega), dblk_but h.r2 hb (by omega) (by omega) (by omega), v1, v2, N, E, p, m,
    ⟨hl.blo, dblk_but hl.box hb (by omega) (by omega) (by omega), drow_but hl.names hb (by omega) (by omega) (by omega), drow_but hl.edges hb (by omega) (by omega) (by omega), hl.apart⟩, h1, h2, h3, h4, h5⟩
theorem DX.but {w : World} {b : Nat} {s : List UInt8} {W W' : World} (h : DX w b s W) (hw : w.heap.size = b) (hb : But3 (b + 3) (b + 5) (b + 4) W W') : DX w b s W' :=
  ⟨dbelow_but h.below hb (by omega) (by omega) (by omega), dblk_but h.r1 hb (by omega) (by omega) (by omega), dblk_but h.r2 hb (by omega) (by omega) (by omega), h.no⟩
def DReadPost (s : List UInt8) (w : World) (e : Ending) (w' : World) : Prop :=
  ∃ A1 c1 A2 c2 N E p m er, e = .returned (.tuple #[gv A1 N.length c1 A2 E.length c2 p m, .int .i64 er]) ∧ Rd w' A1 (N.map sv) ∧ Rd w' A2 (eV E) ∧ Below w.heap.size w w' ∧ OutIs s N E p m er ∧ (er = 0 → GOk N E p m ∧ B64 p ∧ B64 m)
theorem dread_end {P : Ending → World → Prop} {W : World} {b D : Nat} {L : List Value} {vs : List Value} {x1 x2 x3 x4 : Value} {er : Int} {t1 t2 : TypeId} (hvs : vs = [x1, x2, x3, x4]) (hD : W.heap[D]? = some (.deferred (some []))) (h1 : Blk W b t1 vs) (h2 : Blk W (b + 1) t2 [.int .i64 er]) (d1 : b ≠ D) (d2 : b + 1 ≠ D)
    (l2 : L[2]? = some (.pointer (some ⟨b, 0, none⟩))) (l3 : L[3]? = some (.pointer (some ⟨b + 1, 0, none⟩))) (hP : P (.returned (.tuple #[.agg #[x1, x2, x3, x4], .int .i64 er])) (W.putObj D (.deferred none))) :
    bodyPostM Fence.wide 8 Tryz.prog Tryz.f18 P .ret ⟨L.toArray, [{ target := .collected D, args := #[] }]⟩ W := by
  subst hvs
  have hb : ∀ {k : Nat} {t : TypeId} {vs : List Value}, Blk W k t vs → k ≠ D → Blk (W.putObj D (.deferred none)) k t vs := fun {k t vs} h hk => by
    unfold Blk
    rw [World.putObj_heap_other hk]
    exact h
  have q1 := (hb h1 d1).cell (j := 0) rfl
  have q2 := (hb h1 d1).cell (j := 1) rfl
  have q3 := (hb h1 d1).cell (j := 2) rfl
  have q4 := (hb h1 d1).cell (j := 3) rfl
  have q5 := (hb h2 d2).cell (j := 0) rfl
  refine ⟨by simp, .inl ⟨_, _, rfl, run_takeDeferred hD, ?_⟩⟩
  exact ⟨.tuple #[.agg #[x1, x2, x3, x4], .int .i64 er], by simp [results, Tryz.results18, go_sem, q1, q2, q3, q4, q5, l2, l3], hP⟩
theorem dalloc_old {w : World} {k : Nat} {o o' : Obj} (h : w.heap[k]? = some o) : (w.alloc o').heap[k]? = some o := (Below.heap_alloc w o' k (Array.getElem?_eq_some_iff.1 h).1).trans h
theorem dalloc_new (w : World) (o : Obj) (k : Nat) (hk : w.heap.size = k) : (w.alloc o).heap[k]? = some o := by rw [← hk]; exact World.alloc_heap_new w o
theorem two_allocD (w : World) (o1 o2 : Obj) : ∃ W, ((w.alloc o1).alloc o2) = W ∧ Below w.heap.size w W ∧ W.heap[w.heap.size]? = some o1 ∧ W.heap[w.heap.size + 1]? = some o2 :=
  ⟨_, rfl, below_new (below_new (Below.refl _ _) _) _, dalloc_old (dalloc_new _ _ _ rfl), dalloc_new _ _ _ (by simp)⟩
theorem four_alloc (w : World) (o1 o2 o3 o4 : Obj) : ∃ W, ((((w.alloc o1).alloc o2).alloc o3).alloc o4) = W ∧ W.heap.size = w.heap.size + 4 ∧ Below w.heap.size w W ∧ W.heap[w.heap.size]? = some o1 ∧ W.heap[w.heap.size + 1]? = some o2 ∧ W.heap[w.heap.size + 2]? = some o3 ∧ W.heap[w.heap.size + 3]? = some o4 :=
  ⟨_, rfl, by simp, below_new (below_new (below_new (below_new (Below.refl _ _) _) _) _) _,
    dalloc_old (dalloc_old (dalloc_old (dalloc_new _ _ _ rfl))), dalloc_old (dalloc_old (dalloc_new _ _ _ (by simp))), dalloc_old (dalloc_new _ _ _ (by simp)), dalloc_new _ _ _ (by simp)⟩
set_option maxRecDepth 100000 in
set_option maxHeartbeats 2000000 in
theorem dRead_long (s : List UInt8) (w : World) (hs : 400000 < s.length) (hm : s.length ≤ 9223372036854775807) : Calls Tryz.prog 18 #[.string ⟨s.toArray⟩] w (DReadPost s w) := by
  have hz : (⟨s.toArray⟩ : ByteArray).size = s.length := by simp [ByteArray.size]
  have hsz : (400000 : Int) < ((⟨s.toArray⟩ : ByteArray).size : Int) := by rw [hz]; omega
  have HO : Hid (OutIs s [] [] 0 0 2) := Lib.hid (by unfold OutIs; rw [if_pos hs]; exact ⟨rfl, rfl, rfl, rfl, rfl⟩)
  have hsm : (⟨s.toArray⟩ : ByteArray).size ≤ 9223372036854775807 := by rw [hz]; exact hm
  clear hz hs hm
  generalize (⟨s.toArray⟩ : ByteArray) = sb at *
  obtain ⟨b, hbe⟩ : ∃ b, w.heap.size = b := ⟨_, rfl⟩
  go_enter Tryz.func18, Tryz.ntmps18
  go_wp2
  obtain ⟨W, hW, hbw, g1, g2⟩ := two_allocD w (.cells #[.slice none 0 0, .slice none 0 0, .int .u64 0, .int .u64 0] 43) (.cells #[.int .i64 2] 30)
  rw [hbe] at g1 g2
  have k1 := Blk.cell (w := W) (b := b) (t := 43) (vs := zeroG) (j := 0) g1 rfl
  have k2 := Blk.cell (w := W) (b := b) (t := 43) (vs := zeroG) (j := 1) g1 rfl
  have k3 := Blk.cell (w := W) (b := b) (t := 43) (vs := zeroG) (j := 2) g1 rfl
  have k4 := Blk.cell (w := W) (b := b) (t := 43) (vs := zeroG) (j := 3) g1 rfl
  have k5 := Blk.cell (w := W) (b := b + 1) (t := 30) (vs := [.int .i64 2]) (j := 0) g2 rfl
  rw [hW]
  clear hW g1 g2
  refine ⟨rfl, .tuple #[.agg #[.slice none 0 0, .slice none 0 0, .int .u64 0, .int .u64 0], .int .i64 2], ?_, none, 0, none, 0, [], [], 0, 0, 2, rfl, Rd.nil_ _ _, Rd.nil_ _ _, hbw, HO.out, fun h => by cases h⟩
  simp [results, Tryz.results18, go_sem, k1, k2, k3, k4, k5]
theorem partErr_all {n : Nat} (hn : n ≤ 64) (e : Int) : partErr n (upTo n) e = e := by
  have h : minus (upTo n) (upTo n) = 0 := sets_in (upTo_b64 hn) hn fun j hj hj2 => by
    rw [upTo_bit]
    simp
    omega
  unfold partErr
  rw [if_pos h]
  split <;> simp_all
theorem part_all {N : List (List UInt8)} {E : List EdgeT} {p m : Nat} (h : GOk N E p m) : drawnT N E p m (upTo N.length) = drawT N E p m := by
  have hn := nums_upTo h.n64
  have hN : partN N (upTo N.length) = N := by
    unfold partN
    rw [hn]
    apply List.ext_getElem?
    intro i
    rw [List.getElem?_map]
    by_cases hi : i < N.length
    · rw [List.getElem?_range hi]
      show some (N.getD i []) = _
      rw [List.getD_eq_getElem?_getD, List.getElem?_eq_getElem hi]
      rfl
    · rw [List.getElem?_eq_none (by rw [List.length_range]; omega), List.getElem?_eq_none (by omega)]
      rfl
  have hS : ∀ t, t < 2 ^ N.length → partS t (upTo N.length) = t := fun t ht => by
    apply Nat.eq_of_testBit_eq
    intro i
    unfold partS
    rw [hn, setP_bit, List.length_range]
    by_cases hi : i < N.length
    · rw [List.getD_eq_getElem?_getD, List.getElem?_range hi]
      simp [hi]
    · have : t.testBit i = false := Nat.testBit_lt_two_pow (Nat.lt_of_lt_of_le ht (Nat.pow_le_pow_right (by omega) (by omega)))
      rw [this]
      simp [hi]
  have hE : partE E (upTo N.length) = E := by
    have hin : ∀ e ∈ E, inE (upTo N.length) e = true := fun e he => by
      obtain ⟨a1, a2, _⟩ := edge_at h.out he
      unfold inE
      rw [upTo_bit, upTo_bit]
      simp [a1, a2]
    have hrk : ∀ e ∈ E, rkE (upTo N.length) e = e := fun e he => by
      obtain ⟨a1, a2, a3, a4⟩ := edge_at h.out he
      obtain ⟨x, y⟩ := e
      simp only at a1 a2 a3 a4
      have r : ∀ z : Int, 0 ≤ z → z.toNat < N.length → ((rankS (upTo N.length) z : Nat) : Int) = z := fun z h0 h1 => by
        have hz : (nums (upTo N.length))[z.toNat]? = some z.toNat := by rw [hn, List.getElem?_range h1]
        have := rank_at hz
        rw [show ((z.toNat : Nat) : Int) = z by omega] at this
        rw [this]
        omega
      unfold rkE
      simp only [r x a3 a1, r y a4 a2]
    unfold partE
    rw [List.filter_eq_self.2 hin]
    exact (List.map_congr_left hrk).trans (List.map_id _)
  unfold drawnT
  rw [hN, hE, hS p h.p, hS m h.m]
theorem lineRel_names {N : List (List UInt8)} {E : List EdgeT} {p m : Nat} {s : List UInt8} {ok : Bool} {N' : List (List UInt8)} {E' : List EdgeT} {p' m' : Nat} (h : LineRel (N, E, p, m) s ok (N', E', p', m')) (hs : s.length ≤ 1048576) (hN : ∀ y ∈ N, y.length ≤ 1048576) : ∀ y ∈ N', y.length ≤ 1048576 := by
  unfold LineRel at h
  split at h
  · rename_i a b c heq
    dsimp only at h
    by_cases h64 : N.length = 64
    · rw [if_pos h64] at h
      obtain ⟨_, h⟩ := h
      injection h with h1 h
      subst h1
      exact hN
    · rw [if_neg h64] at h
      obtain ⟨_, h⟩ := h
      injection h with h1 h
      subst h1
      intro y hy
      rw [List.mem_append, List.mem_singleton] at hy
      rcases hy with hy | rfl
      · exact hN y hy
      · exact Nat.le_trans (splitC_le 34 s y (by rw [heq]; simp)) hs
  · obtain ⟨i, j, fa, fb, _, h, _⟩ := h
    injection h with h1 h
    subst h1
    exact hN
  · obtain ⟨_, h⟩ := h
    injection h with h1 h
    subst h1
    exact hN
theorem own_keep {W W' : World} {lo z n : Nat} {e : TypeId} {v : Value} {xs : List Value} (h : W.ownsRow lo e z v n xs) (hk : ∀ g, lo ≤ g → g < W.heap.size → W'.heap[g]? = W.heap[g]?) : W'.ownsRow lo e z v n xs := by
  obtain ⟨h0, h | ⟨g, cap, cur, hv, hg, hkk, hr⟩⟩ := h
  · exact ⟨h0, .inl h⟩
  · exact ⟨h0, .inr ⟨g, cap, cur, hv, hg, (hk g hg (Array.getElem?_eq_some_iff.1 hkk).1).trans hkk, hr⟩⟩
/-- The world behind the results' stores. -/
def endW (W : World) (b : Nat) (x1 x2 x3 x4 x5 : Value) : World := ((((W.setCell ⟨b, 0, none⟩ x1).setCell ⟨b, 1, none⟩ x2).setCell ⟨b, 2, none⟩ x3).setCell ⟨b, 3, none⟩ x4).setCell ⟨b + 1, 0, none⟩ x5
theorem endW_heap (W : World) (b : Nat) (x1 x2 x3 x4 x5 : Value) {k : Nat} (h1 : k ≠ b) (h2 : k ≠ b + 1) : (endW W b x1 x2 x3 x4 x5).heap[k]? = W.heap[k]? := by
  have hh : ∀ (W : World) (k c j : Nat) (v : Value), k ≠ c → (W.setCell ⟨c, j, none⟩ v).heap[k]? = W.heap[k]? := fun W k c j v hne => Below.heap_setCell _ _ _ _ hne
  unfold endW
  rw [hh _ _ _ _ _ h2, hh _ _ _ _ _ h1, hh _ _ _ _ _ h1, hh _ _ _ _ _ h1, hh _ _ _ _ _ h1]
theorem endW_r1 {W : World} {b : Nat} {t : TypeId} {y1 y2 y3 y4 : Value} (h : Blk W b t [y1, y2, y3, y4]) (x1 x2 x3 x4 x5 : Value) : Blk (endW W b x1 x2 x3 x4 x5) b t [x1, x2, x3, x4] := blk_far ((((h.same 0 x1).same 1 x2).same 2 x3).same 3 x4) (by omega) _
theorem endW_r2 {W : World} {b : Nat} {t : TypeId} {y : Value} (h : Blk W (b + 1) t [y]) (x1 x2 x3 x4 x5 : Value) : Blk (endW W b x1 x2 x3 x4 x5) (b + 1) t [x5] := (blk_far (blk_far (blk_far (blk_far h (by omega) _) (by omega) _) (by omega) _) (by omega) _).same 0 _
theorem endW_below {w W : World} {b : Nat} (h : Below w.heap.size w W) (hb : w.heap.size ≤ b) (x1 x2 x3 x4 x5 : Value) : Below w.heap.size w (endW W b x1 x2 x3 x4 x5) := by
  have hB : ∀ (W : World) (c j : Nat) (v : Value), w.heap.size ≤ c → Below w.heap.size w W → Below w.heap.size w (W.setCell ⟨c, j, none⟩ v) := fun W c j v hc h => h.setCell (p := ⟨c, j, none⟩) hc v
  exact hB _ _ _ _ (by omega) (hB _ _ _ _ (by omega) (hB _ _ _ _ (by omega) (hB _ _ _ _ (by omega) (hB _ _ _ _ (by omega) h))))
theorem below_putD {w W : World} {D : Nat} (h : Below w.heap.size w W) (hD : w.heap.size ≤ D) (o : Obj) : Below w.heap.size w (W.putObj D o) :=
  dbelow_but h (but3_putObj (B := D) (l := D) (D := D) W o) hD hD hD
theorem endW_size (W : World) (b : Nat) (x1 x2 x3 x4 x5 : Value) : (endW W b x1 x2 x3 x4 x5).heap.size = W.heap.size := by unfold endW; simp
theorem ls_new {W : World} {b : Nat} (h : W.heap[b + 2]? = some (.cells #[.slice none 0 0, .slice none 0 0, .int .u64 0, .int .u64 0] 43)) : LS0 (b + 6) (b + 2) (.slice none 0 0) (.slice none 0 0) ([], [], 0, 0) W :=
  ⟨by omega, h, World.ownsRow_nil _ _ _ _, World.ownsRow_nil _ _ _ _, fun g hg => (by cases hg)⟩
theorem DI.new {w W : World} {b : Nat} (s : List UInt8) (h : Below w.heap.size w W ∧ Blk W b 43 zeroG ∧ Blk W (b + 1) 30 [.int .i64 0] ∧ W.heap[b + 2]? = some (.cells #[.slice none 0 0, .slice none 0 0, .int .u64 0, .int .u64 0] 43)) : DI w b s [] W :=
  ⟨h.1, h.2.1, h.2.2.1, _, _, [], [], 0, 0, ls_new h.2.2.2, by simp, by simp, by unfold B64; omega, by unfold B64; omega, kn_zero s, fun y hy => by cases hy⟩
/-- A line that was none: the results stored. -/
theorem DX.of {w Ws W : World} {b lo : Nat} {s : List UInt8} (hw : w.heap.size = b) (hb : Below w.heap.size w W) (h1 : Blk W b 43 zeroG) (h2 : Blk W (b + 1) 30 [.int .i64 0]) (hn : Reads s none) (hlo : b + 6 = lo) (hk : ButLo lo (b + 2) Ws W) :
    Keep3 (b + 3) (b + 5) (b + 4) Ws (((((W.setCell ⟨b, 0, none⟩ (.slice none 0 0)).setCell ⟨b, 1, none⟩ (.slice none 0 0)).setCell ⟨b, 2, none⟩ (.int .u64 0)).setCell ⟨b, 3, none⟩ (.int .u64 0)).setCell ⟨b + 1, 0, none⟩ (.int .i64 3)) ∧ DX w b s (((((W.setCell ⟨b, 0, none⟩ (.slice none 0 0)).setCell ⟨b, 1, none⟩ (.slice none 0 0)).setCell ⟨b, 2, none⟩ (.int .u64 0)).setCell ⟨b, 3, none⟩ (.int .u64 0)).setCell ⟨b + 1, 0, none⟩ (.int .i64 3)) := by
  have hh : ∀ (W : World) (k c j : Nat) (v : Value), k ≠ c → (W.setCell ⟨c, j, none⟩ v).heap[k]? = W.heap[k]? := fun W k c j v hne => Below.heap_setCell _ _ _ _ hne
  have hkk : ∀ k, k < lo → k ≠ b + 2 → k ≠ b → k ≠ b + 1 → (((((W.setCell ⟨b, 0, none⟩ (.slice none 0 0)).setCell ⟨b, 1, none⟩ (.slice none 0 0)).setCell ⟨b, 2, none⟩ (.int .u64 0)).setCell ⟨b, 3, none⟩ (.int .u64 0)).setCell ⟨b + 1, 0, none⟩ (.int .i64 3)).heap[k]? = Ws.heap[k]? := fun k h1 h2 h3 h4 => by
    rw [hh _ _ _ _ _ h4, hh _ _ _ _ _ h3, hh _ _ _ _ _ h3, hh _ _ _ _ _ h3, hh _ _ _ _ _ h3]
    exact hk.block k h1 h2
  refine ⟨⟨hkk _ (by omega) (by omega) (by omega) (by omega), hkk _ (by omega) (by omega) (by omega) (by omega), hkk _ (by omega) (by omega) (by omega) (by omega)⟩, ?_, ?_, ?_, hn⟩
  · have hB : ∀ (W : World) (c j : Nat) (v : Value), w.heap.size ≤ c → Below w.heap.size w W → Below w.heap.size w (W.setCell ⟨c, j, none⟩ v) := fun W c j v hc h => h.setCell (p := ⟨c, j, none⟩) hc v
    exact hB _ _ _ _ (by omega) (hB _ _ _ _ (by omega) (hB _ _ _ _ (by omega) (hB _ _ _ _ (by omega) (hB _ _ _ _ (by omega) hb))))
  · exact blk_far ((((h1.same 0 _).same 1 _).same 2 _).same 3 _) (by omega) _
  · exact (blk_far (blk_far (blk_far (blk_far h2 (by omega) _) (by omega) _) (by omega) _) (by omega) _).same 0 _
end Go.Proofs.YtoandhhkmkgmaaaGreatDoor
/- Contract: dot.Read at texts that are not too long. -/
namespace Go.Proofs.YtoandhhkmkgmaaaGreatDoor
open Go.RowKit Go.Shelf
attribute [local go_sem] Oper.semAt_some

set_option maxHeartbeats 4000000 in
theorem dRead_short (s : List UInt8) (w : World) (mx : Int) (hs : s.length ≤ 400000) (hT : Tab w) (hmx : w.cell? ⟨1, 0, none⟩ = some (.int .i64 mx)) : Calls Tryz.prog 18 #[.string ⟨s.toArray⟩] w (DReadPost s w) := by
  have hz : (⟨s.toArray⟩ : ByteArray).size = s.length := by simp [ByteArray.size]
  have hsz : ¬ (400000 : Int) < ((⟨s.toArray⟩ : ByteArray).size : Int) := by rw [hz]; omega
  have hsz2 : (⟨s.toArray⟩ : ByteArray).size ≤ 400000 := by rw [hz]; exact hs
  have HS := Lib.hid hs
  have HTB := Lib.hid hT
  have HMX := Lib.hid hmx
  have CP := Lib.hid (fun W => Tryz.strings_CutPrefix ⟨s.toArray⟩ ⟨#[100, 105, 103, 114, 97, 112, 104, 32, 123, 10]⟩ W)
  have CS := Lib.hid (fun W => Tryz.strings_CutSuffix ⟨(Lib.trimPrefix s dHead).toArray⟩ ⟨#[125, 10]⟩ W (by
    have : (Lib.trimPrefix s dHead).length ≤ s.length := by unfold Lib.trimPrefix; split <;> simp
    simp only [ByteArray.size, List.size_toArray]
    omega))
  have HBC := Lib.hid (betw_cut s)
  have HBL : Hid ((Lib.trimSuffix (Lib.trimPrefix s dHead) dTail).length ≤ 400000) := Lib.hid (by
    have h1 : (Lib.trimPrefix s dHead).length ≤ s.length := by unfold Lib.trimPrefix; split <;> simp
    have h2 : (Lib.trimSuffix (Lib.trimPrefix s dHead) dTail).length ≤ (Lib.trimPrefix s dHead).length := by
      unfold Lib.trimSuffix
      split
      · rw [List.length_take]; omega
      · exact Nat.le_refl _
    omega)
  have CP' : Hid (∀ W, Calls Tryz.prog 52 #[.string ⟨s.toArray⟩, .string ⟨#[100, 105, 103, 114, 97, 112, 104, 32, 123, 10]⟩] W fun e w' => e = .returned (.tuple #[.string ⟨(Lib.trimPrefix s dHead).toArray⟩, .bool (Lib.hasPrefix s dHead)]) ∧ w' = W) := CP
  have CS' : Hid (∀ W, Calls Tryz.prog 53 #[.string ⟨(Lib.trimPrefix s dHead).toArray⟩, .string ⟨#[125, 10]⟩] W fun e w' => e = .returned (.tuple #[.string ⟨(Lib.trimSuffix (Lib.trimPrefix s dHead) dTail).toArray⟩, .bool (Lib.hasSuffix (Lib.trimPrefix s dHead) dTail)]) ∧ w' = W) := CS
  clear CP CS hz hs hT hmx
  generalize hsb : (⟨s.toArray⟩ : ByteArray) = sb at *
  have HSB := Lib.hid hsb
  clear hsb
  generalize (⟨(Lib.trimPrefix s dHead).toArray⟩ : ByteArray) = s1 at *
  generalize Lib.hasPrefix s dHead = pa at *
  generalize Lib.hasSuffix (Lib.trimPrefix s dHead) dTail = pb at *
  generalize Lib.trimSuffix (Lib.trimPrefix s dHead) dTail = bd at *
  by_cases hpp : pa = true ∧ pb = true
  · obtain ⟨rfl, rfl⟩ := hpp
    have HBW : Hid (betw s dHead dTail = some bd) := Lib.hid (by rw [HBC.out]; exact if_pos ⟨rfl, rfl⟩)
    have CL := Lib.hid (fun W => sLines_any ⟨bd.toArray⟩ W)
    generalize hbb : (⟨bd.toArray⟩ : ByteArray) = bb at *
    have HBB := Lib.hid hbb
    clear hbb HBC
    refine (callsIn_wide (n := 8)).1 ?_
    refine callsIn_of_wp_marks Tryz.func18 rfl trivial ?_ rfl
    simp only [Tryz.ntmps18, List.size_toArray, List.length_cons, List.length_nil, Nat.reduceAdd, Nat.reduceSub, Array.replicate_succ, Array.replicate_zero, List.push_toArray, List.append_toArray, List.nil_append, List.cons_append]
    gi_wp2_with (first
      | (refine ⟨trivial, ?_⟩; gi_at_call 52; refine (callsIn_wide.2 (CP'.out _)).mono ?_; rintro e w' ⟨rfl, rfl⟩)
      | (refine ⟨trivial, ?_⟩; gi_at_call 53; refine (callsIn_wide.2 (CS'.out _)).mono ?_; rintro e w' ⟨rfl, rfl⟩)
      | (refine ⟨trivial, ?_⟩; gi_at_call 54; refine (callsIn_wide.2 (CL.out _)).mono ?_; rintro e w' ⟨rfl, rfl⟩))
    obtain ⟨W0, hW0, hz0, hb0, g1, g2, g3, g4⟩ := four_alloc w (.cells #[.slice none 0 0, .slice none 0 0, .int .u64 0, .int .u64 0] 43) (.cells #[.int .i64 0] 30) (.cells #[.slice none 0 0, .slice none 0 0, .int .u64 0, .int .u64 0] 43) (.cells #[.string bb] 9)
    rw [hW0]
    have HZ0 := Lib.hid hz0
    have HMB : Hid (1 < w.heap.size) := Lib.hid (lt_of_cell' HMX.out)
    have hsv : strV bd = .string bb := by unfold strV; rw [HBB.out]
    have HB4 : Hid (W0.heap[w.heap.size + 3]? = some (.cells #[strV bd] 9 (0, 0))) := Lib.hid (by rw [g4, hsv])
    have HP0 : Hid (Below w.heap.size w W0 ∧ Blk W0 w.heap.size 43 zeroG ∧ Blk W0 (w.heap.size + 1) 30 [.int .i64 0] ∧ W0.heap[w.heap.size + 2]? = some (.cells #[.slice none 0 0, .slice none 0 0, .int .u64 0, .int .u64 0] 43)) := Lib.hid ⟨hb0, g1, g2, g3⟩
    clear hW0 hz0 hb0 g1 g2 g3 g4 hsv
    obtain ⟨b, hb⟩ : ∃ b, b = w.heap.size := ⟨_, rfl⟩
    have HBE := Lib.hid hb
    rw [← hb] at HZ0 HB4 HP0 HMB ⊢
    clear hb
    simp only [Nat.add_assoc, Nat.reduceAdd]
    refine wpIn_lines (gf := 109) (B := b + 3) (T := 9) (s := bd) rfl (enters_of Tryz.func109 (by kernel_rfl) rfl) (lines_con (b + 3) (8 - 1) bd (by have := HBL.out; omega) (by omega)) HB4.out
      (fun ls W => DI w b s ls W) (fun W => DX w b s W) ?hI ?hIx (by have h := HP0.out; exact DI.new s ⟨by rw [← HBE.out]; exact h.1, h.2⟩)
      (fun x => { tmps := #[.string sb, undef, .pointer (some ⟨b, 0, none⟩), .pointer (some ⟨b + 1, 0, none⟩), .string bb, .bool true, .bool true, .pointer (some ⟨b + 2, 0, none⟩), strV x, undef, undef, undef, undef, .string sb, .int .i64 (sb.size : Int), .bool false, undef, .tuple #[.string s1, .bool true], .string sb, .tuple #[.string s1, .bool true], .string s1, .bool true, .tuple #[.string bb, .bool true], .string s1, .tuple #[.string bb, .bool true], .string bb, .bool true, .bool true, .bool false, .bool false, .bool true, .bool false, .bool false, undef, .string bb, .func (.func 109) #[] #[.pointer (some ⟨b + 3, 0, none⟩)], strV x, undef, undef, undef, undef, undef, undef, undef, undef, undef, undef, undef, undef, undef, undef, undef, undef, undef, undef, undef, undef, undef, undef, undef, undef, undef, undef], defers := [] }) ?assign ?body ?done ?stop
    case hI =>
      rintro ls W W' h hb
      rw [HZ0.out] at hb
      exact h.but HBE.out.symm hb
    case hIx =>
      rintro W W' h hb
      rw [HZ0.out] at hb
      exact h.but HBE.out.symm hb
    case assign =>
      intro x W K hK
      gi_wp2
      exact hK
    case body =>
      rintro ls x W h hpre hzz
      rw [HZ0.out] at hzz
      obtain ⟨v1, v2, N, E, p, m, hl, hN, hE, hp, hm, hkn, hnl⟩ := h.gr
      have HXL : Hid (x.length ≤ 400000) := Lib.hid (Nat.le_trans (linesD_le bd x (hpre.subset (by simp))) HBL.out)
      have hEE : E.length ≤ 1048576 := by
        have h1 := hpre.length_le
        have h2 := linesD_len bd
        rw [List.length_append] at h1
        have := HBL.out
        omega
      have hlt : 1 < w.heap.size := by have h1 := HMB.out; have h2 := HBE.out; omega
      have hmW : W.cell? ⟨1, 0, none⟩ = some (.int .i64 mx) := (h.below.cell (p := ⟨1, 0, none⟩) hlt).trans HMX.out
      have CL := Lib.hid (dLine_any (hl.up (by omega)) x (by have := HXL.out; omega) mx hmW hN hEE hp hm (by have := HMB.out; omega) (by have := HMB.out; omega))
      have HDI := Lib.hid h
      have HPRE := Lib.hid hpre
      have HKN := Lib.hid hkn
      have HNL := Lib.hid hnl
      have HBD := Lib.hid (And.intro hN (And.intro hE (And.intro hp hm)))
      have HZZ := Lib.hid hzz
      clear h hpre hzz hl hkn hmW hEE hnl
      unfold strV
      gi_wp2
      refine ⟨trivial, ?_⟩
      gi_at_call 55
      refine (CallsIn.inRound _ (callsIn_wide.2 CL.out)).mono ?_
      rintro e W2 ⟨ok, ⟨N', E', p', m'⟩, u1, u2, rfl, hrel, hls, hbut⟩
      have hbnd := lineRel_bounds hrel HBD.out.1 HBD.out.2.2.1 HBD.out.2.2.2
      have hkeep : ∀ k, k < b + 6 → k ≠ b + 2 → W2.heap[k]? = W.heap[k]? := fun k h1 h2 => hbut.block k h1 h2
      have hbw : Below w.heap.size w W2 := ⟨hbut.os.trans HDI.out.below.os, hbut.tape.trans HDI.out.below.tape, hbut.output.trans HDI.out.below.output, Nat.le_trans HDI.out.below.size hbut.size, fun k hk => (hkeep k (by have := HBE.out; omega) (by have := HBE.out; omega)).trans (HDI.out.below.block k hk)⟩
      have hr1 : Blk W2 b 43 zeroG := (hkeep b (by omega) (by omega)).trans HDI.out.r1
      have hr2 : Blk W2 (b + 1) 30 [.int .i64 0] := (hkeep (b + 1) (by omega) (by omega)).trans HDI.out.r2
      cases ok with
      | true =>
        have HEND : Hid (Keep3 (b + 3) (b + 5) (b + 4) W W2 ∧ DI w b s (ls ++ [x]) W2) := Lib.hid ⟨⟨hkeep _ (by omega) (by omega), hkeep _ (by omega) (by omega), hkeep _ (by omega) (by omega)⟩, hbw, hr1, hr2, u1, u2, N', E', p', m', hls.down, hbnd.1, by have := HBD.out.2.1; rw [List.length_append, List.length_singleton]; omega, hbnd.2.2.1, hbnd.2.2.2, kn_next HBW.out HPRE.out HKN.out hrel, lineRel_names hrel (by have := HXL.out; omega) HNL.out⟩
        clear hrel hls hbut hbnd hkeep hbw hr1 hr2
        gi_wp2
        rw [HZ0.out]
        exact HEND.out
      | false =>
        have HNO := Lib.hid (kn_stop HBW.out HPRE.out HKN.out hrel)
        have HEND := Lib.hid (DX.of (Ws := W) HBE.out.symm hbw hr1 hr2 HNO.out rfl hbut)
        have t1 := hr1.free
        have t2 := hr2.free
        have q1 := hr1.cell (j := 0) rfl
        have q2 := hr1.cell (j := 1) rfl
        have q3 := hr1.cell (j := 2) rfl
        have q4 := hr1.cell (j := 3) rfl
        have q5 := hr2.cell (j := 0) rfl
        clear hrel hls hbut hbnd hkeep hbw hr1 hr2
        gi_wp2
        rw [HZ0.out]
        exact HEND.out
    case stop =>
      rintro W h hD
      have HDX := Lib.hid h
      have HD := Lib.hid hD
      clear h hD
      gi_wp2
      have hz0 := HZ0.out
      have hbw := HBE.out
      refine dread_end (b := b) (D := W0.heap.size) (vs := zeroG) (er := 3) rfl HD.out HDX.out.r1 HDX.out.r2 (by omega) (by omega) (by rfl) (by rfl) ?_
      exact ⟨none, 0, none, 0, [], [], 0, 0, 3, rfl, Rd.nil_ _ _, Rd.nil_ _ _, below_putD HDX.out.below (by omega) _, out_none HS.out HDX.out.no, fun h => by cases h⟩
    case done =>
      rintro W h hD
      obtain ⟨v1, v2, N, E, p, m, hl, hN, hE, hp, hm, hkn, hnl⟩ := h.gr
      obtain ⟨A1, c1, rfl⟩ := slice_of_own hl.names
      obtain ⟨A2, c2, rfl⟩ := slice_of_own hl.edges
      dsimp only at hl
      have hEE : E.length ≤ 1048576 := by
        have h2 := linesD_len bd
        have := HBL.out
        omega
      have HRDS := Lib.hid (kn_end HBW.out hkn hp hm)
      have hG : GrIn A1 N.length A2 E.length N E p m W := ⟨rd_of_ownK hl.names, rd_of_ownK hl.edges, rfl, rfl, by omega, by omega, fun y hy => by have := hnl y hy; omega, hp, hm⟩
      have HBEL := Lib.hid h.below
      have HGOK : Hid (grErr N E p m = 0 → GOk N E p m) := Lib.hid (gOk hp hm)
      have CD := Lib.hid (dDrawF_any (c1 := c1) (c2 := c2) W hG (upTo N.length) (upTo_b64 hN) (HTB.out.below h.below))
      have HLS := Lib.hid hl
      have HD := Lib.hid hD
      have HR1 := Lib.hid h.r1
      have HR2 := Lib.hid h.r2
      have HP := Lib.hid hp
      have HM := Lib.hid hm
      have q1 : W.cell? ⟨b + 2, 0, none⟩ = some (.slice A1 N.length c1) := hl.box.cell (j := 0) rfl
      have q2 : W.cell? ⟨b + 2, 1, none⟩ = some (.slice A2 E.length c2) := hl.box.cell (j := 1) rfl
      have q3 : W.cell? ⟨b + 2, 2, none⟩ = some (.int .u64 (p : Int)) := hl.box.cell (j := 2) rfl
      have q4 : W.cell? ⟨b + 2, 3, none⟩ = some (.int .u64 (m : Int)) := hl.box.cell (j := 3) rfl
      rw [partErr_all hN] at CD
      obtain ⟨er, her⟩ : ∃ er, grErr N E p m = er := ⟨_, rfl⟩
      have HER := Lib.hid her
      have CD' : Hid (∃ T : List UInt8, T = (if er = 0 then drawT N E p m else [])) := Lib.hid ⟨_, rfl⟩
      obtain ⟨T, hTT⟩ := CD'.out
      have hTD : (if grErr N E p m = 0 then drawnT N E p m (upTo N.length) else []) = T := by
        rw [hTT, her]
        by_cases h0 : er = 0
        · rw [if_pos h0, if_pos h0, part_all (HGOK.out (her.trans h0))]
        · rw [if_neg h0, if_neg h0]
      rw [hTD, her] at CD
      have HTT := Lib.hid hTT
      have HNB := Lib.hid hN
      clear h hD hl hkn hnl hG hp hm her hTT hTD
      have HBL2 := Lib.hid (fun W => pBelow_yes (N.length : Int) (by omega) (by omega) W)
      rw [show ((N.length : Int)).toNat = N.length from rfl] at HBL2
      unfold gv DrawPost at CD
      gi_wp2_with (first
        | (refine ⟨trivial, ?_⟩; gi_at_call 56; refine (callsIn_wide.2 (HBL2.out _)).mono ?_; rintro e w' ⟨rfl, rfl⟩))
      refine ⟨trivial, ?_⟩
      gi_at_call 17
      refine (callsIn_wide.2 CD.out).mono ?_
      rintro e W3 ⟨rfl, hb3⟩
      have HB3 := Lib.hid (below_then HBEL.out hb3)
      have HD3 := Lib.hid ((hb3.block _ (lt_of_blockG HD.out)).trans HD.out)
      have HR13 := Lib.hid (HR1.out.below hb3 HR1.out.lt)
      have HR23 := Lib.hid (HR2.out.below hb3 HR2.out.lt)
      have HLN := Lib.hid (own_belowK HLS.out.names hb3)
      have HLE := Lib.hid (own_belowK HLS.out.edges hb3)
      have p1 := cell_keep q1 hb3
      have p2 := cell_keep q2 hb3
      have p3 := cell_keep q3 hb3
      have p4 := cell_keep q4 hb3
      have t1 : ∀ j, W3.frozen? ⟨b, j, none⟩ = false := HR13.out.free
      have t2 : ∀ j, W3.frozen? ⟨b + 1, j, none⟩ = false := HR23.out.free
      have o1 := HR13.out.cell (j := 0) rfl
      have o2 := HR13.out.cell (j := 1) rfl
      have o3 := HR13.out.cell (j := 2) rfl
      have o4 := HR13.out.cell (j := 3) rfl
      have o5 := HR23.out.cell (j := 0) rfl
      have HEQ := Lib.hid (eq_sv2 T s)
      rw [HSB.out] at HEQ
      generalize (⟨T.toArray⟩ : ByteArray) = tb at *
      clear hb3 q1 q2 q3 q4 CD CD'
      by_cases h0 : er = 0
      · subst h0
        by_cases hts : T = s
        · have HEQ1 : (tb.toList == sb.toList) = true := by rw [HEQ.out]; simp [hts]
          have HYES : Hid (Reads s (some (N, E, p, m))) := Lib.hid (by
            have h := HRDS.out
            rw [if_pos ⟨HER.out, by rw [← hts, HTT.out]; exact (if_pos rfl).symm⟩] at h
            exact h)
          have HG2 := Lib.hid (HGOK.out HER.out)
          clear hts
          gi_wp2
          have hz0 := HZ0.out
          have hbw := HBE.out
          change bodyPostM _ _ _ _ _ _ _ (endW W3 b (.slice A1 N.length c1) (.slice A2 E.length c2) (.int .u64 (p : Int)) (.int .u64 (m : Int)) (.int .i64 0))
          refine dread_end (b := b) (D := W0.heap.size) (W := endW W3 b (.slice A1 N.length c1) (.slice A2 E.length c2) (.int .u64 (p : Int)) (.int .u64 (m : Int)) (.int .i64 0)) (er := 0) rfl ((endW_heap _ _ _ _ _ _ _ (by omega) (by omega)).trans HD3.out) (endW_r1 HR13.out _ _ _ _ _) (endW_r2 HR23.out _ _ _ _ _) (by omega) (by omega) (by rfl) (by rfl) ?_
          have hkp : ∀ g, b + 6 ≤ g → g < W3.heap.size → ((endW W3 b (.slice A1 N.length c1) (.slice A2 E.length c2) (.int .u64 (p : Int)) (.int .u64 (m : Int)) (.int .i64 0)).putObj W0.heap.size (.deferred none)).heap[g]? = W3.heap[g]? := fun g h1 _ => (World.putObj_heap_other (by omega)).trans (endW_heap _ _ _ _ _ _ _ (by omega) (by omega))
          exact ⟨A1, c1, A2, c2, N, E, p, m, 0, rfl, rd_of_ownK (own_keep HLN.out hkp), rd_of_ownK (own_keep HLE.out hkp), below_putD (endW_below HB3.out (by omega) _ _ _ _ _) (by omega) _, out_some HS.out HYES.out, fun _ => ⟨HG2.out, HP.out, HM.out⟩⟩
        · have HEQ1 : (tb.toList == sb.toList) = false := by rw [HEQ.out]; simp [hts]
          have HNO : Hid (Reads s none) := Lib.hid (by
            have h := HRDS.out
            rw [if_neg (fun hc => hts (by rw [HTT.out, if_pos rfl]; exact hc.2))] at h
            exact h)
          clear hts
          gi_wp2
          have hz0 := HZ0.out
          have hbw := HBE.out
          change bodyPostM _ _ _ _ _ _ _ (endW W3 b (.slice none 0 0) (.slice none 0 0) (.int .u64 0) (.int .u64 0) (.int .i64 3))
          refine dread_end (b := b) (D := W0.heap.size) (W := endW W3 b (.slice none 0 0) (.slice none 0 0) (.int .u64 0) (.int .u64 0) (.int .i64 3)) (vs := zeroG) (er := 3) rfl ((endW_heap _ _ _ _ _ _ _ (by omega) (by omega)).trans HD3.out) (endW_r1 HR13.out _ _ _ _ _) (endW_r2 HR23.out _ _ _ _ _) (by omega) (by omega) (by rfl) (by rfl) ?_
          exact ⟨none, 0, none, 0, [], [], 0, 0, 3, rfl, Rd.nil_ _ _, Rd.nil_ _ _, below_putD (endW_below HB3.out (by omega) _ _ _ _ _) (by omega) _, out_none HS.out HNO.out, fun h => by cases h⟩
      · have e1 : (er != 0) = true := by simpa using h0
        have e2 : (er == 0) = false := by simpa using h0
        have HNO : Hid (Reads s none) := Lib.hid (by
          have h := HRDS.out
          rw [if_neg (fun hc => h0 (by rw [← HER.out]; exact hc.1))] at h
          exact h)
        clear h0
        gi_wp2
        have hz0 := HZ0.out
        have hbw := HBE.out
        change bodyPostM _ _ _ _ _ _ _ (endW W3 b (.slice none 0 0) (.slice none 0 0) (.int .u64 0) (.int .u64 0) (.int .i64 3))
        refine dread_end (b := b) (D := W0.heap.size) (W := endW W3 b (.slice none 0 0) (.slice none 0 0) (.int .u64 0) (.int .u64 0) (.int .i64 3)) (vs := zeroG) (er := 3) rfl ((endW_heap _ _ _ _ _ _ _ (by omega) (by omega)).trans HD3.out) (endW_r1 HR13.out _ _ _ _ _) (endW_r2 HR23.out _ _ _ _ _) (by omega) (by omega) (by rfl) (by rfl) ?_
        exact ⟨none, 0, none, 0, [], [], 0, 0, 3, rfl, Rd.nil_ _ _, Rd.nil_ _ _, below_putD (endW_below HB3.out (by omega) _ _ _ _ _) (by omega) _, out_none HS.out HNO.out, fun h => by cases h⟩
  · have HNO : Hid (Reads s none) := Lib.hid (reads_betw (by rw [HBC.out]; exact if_neg hpp))
    have HO := Lib.hid (out_none HS.out HNO.out)
    obtain ⟨b, hbe⟩ : ∃ b, w.heap.size = b := ⟨_, rfl⟩
    generalize hbb : (⟨bd.toArray⟩ : ByteArray) = bb at *
    clear hbb HBC HNO HSB HBL HS HTB HMX
    have hcs : pa = false ∨ (pa = true ∧ pb = false) := by cases pa <;> cases pb <;> simp_all
    clear hpp
    obtain ⟨W, hW, hbw, g1, g2⟩ := two_allocD w (.cells #[.slice none 0 0, .slice none 0 0, .int .u64 0, .int .u64 0] 43) (.cells #[.int .i64 3] 30)
    rw [hbe] at g1 g2
    have k1 := Blk.cell (w := W) (b := b) (t := 43) (vs := zeroG) (j := 0) g1 rfl
    have k2 := Blk.cell (w := W) (b := b) (t := 43) (vs := zeroG) (j := 1) g1 rfl
    have k3 := Blk.cell (w := W) (b := b) (t := 43) (vs := zeroG) (j := 2) g1 rfl
    have k4 := Blk.cell (w := W) (b := b) (t := 43) (vs := zeroG) (j := 3) g1 rfl
    have k5 := Blk.cell (w := W) (b := b + 1) (t := 30) (vs := [.int .i64 3]) (j := 0) g2 rfl
    have HK := Lib.hid (And.intro k1 (And.intro k2 (And.intro k3 (And.intro k4 k5))))
    have HW := Lib.hid hW
    have HBB2 := Lib.hid hbw
    clear k1 k2 k3 k4 k5 hW hbw g1 g2
    rcases hcs with rfl | ⟨rfl, rfl⟩
    all_goals (
      go_enter Tryz.func18, Tryz.ntmps18
      go_wp2_with fail
      refine (CP'.out _).mono ?_
      rintro e w' ⟨rfl, rfl⟩
      go_wp2_with fail
      refine (CS'.out _).mono ?_
      rintro e w' ⟨rfl, rfl⟩
      go_wp2_with fail
      rw [HW.out]
      obtain ⟨k1, k2, k3, k4, k5⟩ := HK.out
      refine ⟨rfl, .tuple #[.agg #[.slice none 0 0, .slice none 0 0, .int .u64 0, .int .u64 0], .int .i64 3], ?_, none, 0, none, 0, [], [], 0, 0, 3, rfl, Rd.nil_ _ _, Rd.nil_ _ _, HBB2.out, HO.out, fun h => by cases h⟩
      simp [results, Tryz.results18, go_sem, k1, k2, k3, k4, k5])
theorem dRead_any (s : List UInt8) (w : World) (mx : Int) (hs : s.length ≤ 9223372036854775807) (hT : Tab w) (hmx : w.cell? ⟨1, 0, none⟩ = some (.int .i64 mx)) : Calls Tryz.prog 18 #[.string ⟨s.toArray⟩] w (DReadPost s w) := by
  rcases Nat.lt_or_ge 400000 s.length with h | h
  · exact dRead_long s w h hs
  · exact dRead_short s w mx h hT hmx
end Go.Proofs.YtoandhhkmkgmaaaGreatDoor
