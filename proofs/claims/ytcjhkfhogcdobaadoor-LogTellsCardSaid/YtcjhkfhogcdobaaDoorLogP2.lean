/- Contract: log.Parse. Texts of at most 20000 bytes, or longer ones; the tables and the errors of strconv lie. -/
import Derived.Test.YtcjhkfhogcdobaaDoorLogRd
import Derived.Test.YtcjhkfhogcdobaaDoorAppendReg
import Derived.RegionIn
import Derived.Maps.AppendAt
import Derived.Maps.OwnIn
import Derived.RangeFuncBox
namespace Go.Proofs.YtcjhkfhogcdobaaDoor
open Go.RowKit Go.Shelf
attribute [local go_sem] Oper.semAt_some

theorem elStamp9 : Tryd.prog.underlying 22 = some (.slice 38) ∧ ∃ i, Tryd.prog.info? 38 = some i ∧ i.zero = some (.agg #[.string ⟨#[]⟩, .int .i64 0, .float .f64 0]) ∧ i.size = 3 ∧ i.bytes = 32 ∧ (Value.agg #[.string ⟨#[]⟩, .int .i64 0, .float .f64 0]).cells.size = 3 := by
  refine ⟨Tryd.underlying22, ?_⟩
  have h : (Tryd.prog.info? 38).map (fun i => (i.zero, i.size, i.bytes)) = some (some (.agg #[.string ⟨#[]⟩, .int .i64 0, .float .f64 0]), 3, 32) := by kernel_rfl
  obtain ⟨i, h1, h2, h3, h4⟩ := info_parts h
  exact ⟨i, h1, h2, h3, h4, rfl⟩
/-- Between two lines: the boxes of the results, of what has been read, of the number of the line. -/
structure PI (w : World) (b m : Nat) (O : List StampT) (v : Value) (W : World) : Prop where
  below : Below w.heap.size w W
  r1 : Blk W b 22 [.slice none 0 0]
  r2 : Blk W (b + 1) 3 [.int .i64 0]
  r3 : Blk W (b + 2) 23 [.int .i64 0]
  out : Blk W (b + 3) 22 [v]
  at_ : Blk W (b + 4) 3 [.int .i64 (m : Int)]
  row : W.ownsRow (b + 8) 38 3 v O.length (stV O)
structure PX (w : World) (b : Nat) (n : Int) (e : Int) (W : World) : Prop where
  below : Below w.heap.size w W
  r1 : Blk W b 22 [.slice none 0 0]
  r2 : Blk W (b + 1) 3 [.int .i64 n]
  r3 : Blk W (b + 2) 23 [.int .i64 e]
theorem blk_but {B l D k : Nat} {W W' : World} {t : TypeId} {vs : List Value} (h : Blk W k t vs) (hb : But3 B l D W W') (h1 : k ≠ B) (h2 : k ≠ l) (h3 : k ≠ D) : Blk W' k t vs := by
  unfold Blk
  rw [hb.block k h.lt h1 h2 h3]
  exact h
theorem below_but {w : World} {B l D : Nat} {W W' : World} (h : Below w.heap.size w W) (hb : But3 B l D W W') (h1 : w.heap.size ≤ B) (h2 : w.heap.size ≤ l) (h3 : w.heap.size ≤ D) : Below w.heap.size w W' :=
  ⟨hb.os.trans h.os, hb.tape.trans h.tape, hb.output.trans h.output, Nat.le_trans h.size hb.size, fun k hk => (hb.block k (Nat.lt_of_lt_of_le hk h.size) (by omega) (by omega) (by omega)).trans (h.block k hk)⟩
theorem row_but {B l D b n : Nat} {W W' : World} {t : TypeId} {v : Value} {xs : List Value} (h : W.ownsRow b t 3 v n xs) (hb : But3 B l D W W') (h1 : B < b) (h2 : l < b) (h3 : D < b) : W'.ownsRow b t 3 v n xs := by
  obtain ⟨h0, h | ⟨g, cap, cur, hv, hg, hk, hr⟩⟩ := h
  · exact ⟨h0, .inl h⟩
  · exact ⟨h0, .inr ⟨g, cap, cur, hv, hg, (hb.block g (Array.getElem?_eq_some_iff.1 hk).1 (by omega) (by omega) (by omega)).trans hk, hr⟩⟩
theorem PI.but {w : World} {O : List StampT} {v : Value} {W W' : World} {b m : Nat} (h : PI w b m O v W) (hw : w.heap.size = b) (hb : But3 (b + 5) (b + 7) (b + 6) W W') : PI w b m O v W' :=
  ⟨below_but h.below hb (by omega) (by omega) (by omega), blk_but h.r1 hb (by omega) (by omega) (by omega), blk_but h.r2 hb (by omega) (by omega) (by omega), blk_but h.r3 hb (by omega) (by omega) (by omega), blk_but h.out hb (by omega) (by omega) (by omega), blk_but h.at_ hb (by omega) (by omega) (by omega), row_but h.row hb (by omega) (by omega) (by omega)⟩
theorem PX.but {w : World} {n e : Int} {W W' : World} {b : Nat} (h : PX w b n e W) (hw : w.heap.size = b) (hb : But3 (b + 5) (b + 7) (b + 6) W W') : PX w b n e W' :=
  ⟨below_but h.below hb (by omega) (by omega) (by omega), blk_but h.r1 hb (by omega) (by omega) (by omega), blk_but h.r2 hb (by omega) (by omega) (by omega), blk_but h.r3 hb (by omega) (by omega) (by omega)⟩
def ParsedPost (R : List StampT × Nat × Int) (w : World) (e : Ending) (w' : World) : Prop := ∃ A c, e = .returned (.tuple #[.slice A R.1.length c, .int .i64 (R.2.1 : Int), .int .i64 R.2.2]) ∧ Rd w' A (stV R.1) ∧ Below w.heap.size w w'
/-- The same within a round, and what a round keeps. -/
structure KP (w : World) (b m : Nat) (O : List StampT) (v : Value) (Ws W : World) : Prop where
  pi : PI w b m O v W
  keep : Keep3 (b + 5) (b + 7) (b + 6) Ws W
  size : b + 8 ≤ W.heap.size
theorem keep_below {b : Nat} {Ws W W' : World} (h : Keep3 (b + 5) (b + 7) (b + 6) Ws W) (hs : b + 8 ≤ W.heap.size) (hb : Below W.heap.size W W') : Keep3 (b + 5) (b + 7) (b + 6) Ws W' :=
  ⟨(hb.block _ (by omega)).trans h.b, (hb.block _ (by omega)).trans h.l, (hb.block _ (by omega)).trans h.d⟩
theorem keep_set {b k j : Nat} {Ws W : World} (h : Keep3 (b + 5) (b + 7) (b + 6) Ws W) (h1 : k ≠ b + 5) (h2 : k ≠ b + 7) (h3 : k ≠ b + 6) (u : Value) : Keep3 (b + 5) (b + 7) (b + 6) Ws (W.setCell ⟨k, j, none⟩ u) :=
  ⟨(Below.heap_setCell _ _ _ _ (fun e => h1 e.symm)).trans h.b, (Below.heap_setCell _ _ _ _ (fun e => h2 e.symm)).trans h.l, (Below.heap_setCell _ _ _ _ (fun e => h3 e.symm)).trans h.d⟩
theorem row_below {b n : Nat} {W W' : World} {t : TypeId} {v : Value} {xs : List Value} (h : W.ownsRow b t 3 v n xs) (hb : Below W.heap.size W W') : W'.ownsRow b t 3 v n xs := by
  obtain ⟨h0, h | ⟨g, cap, cur, hv, hg, hk, hr⟩⟩ := h
  · exact ⟨h0, .inl h⟩
  · exact ⟨h0, .inr ⟨g, cap, cur, hv, hg, (hb.block g (Array.getElem?_eq_some_iff.1 hk).1).trans hk, hr⟩⟩
theorem row_set {b n k j : Nat} {W : World} {t : TypeId} {v : Value} {xs : List Value} (h : W.ownsRow b t 3 v n xs) (hk : k < b) (u : Value) : (W.setCell ⟨k, j, none⟩ u).ownsRow b t 3 v n xs := by
  obtain ⟨h0, h | ⟨g, cap, cur, hv, hg, hkk, hr⟩⟩ := h
  · exact ⟨h0, .inl h⟩
  · exact ⟨h0, .inr ⟨g, cap, cur, hv, hg, (Below.heap_setCell _ _ _ _ (by show g ≠ k; omega)).trans hkk, hr⟩⟩
section
variable {w Ws W W' : World} {b m : Nat} {O : List StampT} {v : Value}
theorem KP.grow (h : KP w b m O v Ws W) (hb : Below W.heap.size W W') : KP w b m O v Ws W' :=
  ⟨⟨below_then h.pi.below hb, h.pi.r1.below hb h.pi.r1.lt, h.pi.r2.below hb h.pi.r2.lt, h.pi.r3.below hb h.pi.r3.lt, h.pi.out.below hb h.pi.out.lt, h.pi.at_.below hb h.pi.at_.lt, row_below h.pi.row hb⟩, keep_below h.keep h.size hb, Nat.le_trans h.size hb.size⟩
theorem KP.setAt (h : KP w b m O v Ws W) (hw : w.heap.size = b) (m' : Nat) : KP w b m' O v Ws (W.setCell ⟨b + 4, 0, none⟩ (.int .i64 (m' : Int))) :=
  ⟨⟨h.pi.below.setCell (p := ⟨b + 4, 0, none⟩) (by show w.heap.size ≤ b + 4; omega) _, blk_far h.pi.r1 (by omega) _, blk_far h.pi.r2 (by omega) _, blk_far h.pi.r3 (by omega) _, blk_far h.pi.out (by omega) _, h.pi.at_.same 0 _, row_set h.pi.row (by omega) _⟩, keep_set h.keep (by omega) (by omega) (by omega) _, by simpa using h.size⟩
/-- The results stored. -/
theorem KP.ret (h : KP w b m O v Ws W) (hw : w.heap.size = b) (n e : Int) : Keep3 (b + 5) (b + 7) (b + 6) Ws (((W.setCell ⟨b, 0, none⟩ (.slice none 0 0)).setCell ⟨b + 1, 0, none⟩ (.int .i64 n)).setCell ⟨b + 2, 0, none⟩ (.int .i64 e)).drew ∧ PX w b n e (((W.setCell ⟨b, 0, none⟩ (.slice none 0 0)).setCell ⟨b + 1, 0, none⟩ (.int .i64 n)).setCell ⟨b + 2, 0, none⟩ (.int .i64 e)).drew := by
  have k := keep_set (j := 0) (k := b + 2) (keep_set (j := 0) (k := b + 1) (keep_set (j := 0) (k := b) h.keep (by omega) (by omega) (by omega) (.slice none 0 0)) (by omega) (by omega) (by omega) (.int .i64 n)) (by omega) (by omega) (by omega) (.int .i64 e)
  refine ⟨⟨k.b, k.l, k.d⟩, ?_⟩
  exact ⟨Below.drew (((h.pi.below.setCell (p := ⟨b, 0, none⟩) (by show w.heap.size ≤ b; omega) _).setCell (p := ⟨b + 1, 0, none⟩) (by show w.heap.size ≤ b + 1; omega) _).setCell (p := ⟨b + 2, 0, none⟩) (by show w.heap.size ≤ b + 2; omega) _),
    Blk.drw (blk_far (blk_far (h.pi.r1.same 0 _) (by omega) _) (by omega) _), Blk.drw (blk_far ((blk_far h.pi.r2 (by omega) _).same 0 _) (by omega) _), Blk.drw ((blk_far (blk_far h.pi.r3 (by omega) _) (by omega) _).same 0 _)⟩
/-- A stamp put behind, the slice stored. -/
theorem KP.app {x : StampT} {v' : Value} (h : KP w b m O v Ws W) (hw : w.heap.size = b) (hg : W.grownBy W' v.ownBlock) (hown : W'.ownsRow (b + 8) 38 3 v' (O ++ [x]).length (stV (O ++ [x]))) : Blk W' (b + 3) 22 [v] ∧ KP w b m (O ++ [x]) v' Ws (W'.setCell ⟨b + 3, 0, none⟩ v') := by
  have hne : ∀ k, k < b + 8 → k < W.heap.size → W'.heap[k]? = W.heap[k]? := fun k hk hkw => by
    refine hg.block k hkw fun e => ?_
    obtain ⟨_, hr | ⟨g, cap, cur, hv, hgb, _⟩⟩ := h.pi.row
    · rw [hr.1] at e; cases e
    · rw [hv] at e
      injection e with e
      have : k = g := e
      omega
  have hs := h.size
  have hb' : ∀ {k : Nat} {t : TypeId} {vs : List Value}, Blk W k t vs → k < b + 8 → Blk W' k t vs := fun {k t vs} hk hlt => by
    unfold Blk
    rw [hne k hlt hk.lt]
    exact hk
  have hbel : Below w.heap.size w W' := ⟨hg.os.trans h.pi.below.os, hg.tape.trans h.pi.below.tape, hg.output.trans h.pi.below.output, Nat.le_trans h.pi.below.size hg.size, fun k hk => (hne k (by omega) (Nat.lt_of_lt_of_le hk h.pi.below.size)).trans (h.pi.below.block k hk)⟩
  refine ⟨hb' h.pi.out (by omega), ⟨⟨hbel.setCell (p := ⟨b + 3, 0, none⟩) (by show w.heap.size ≤ b + 3; omega) _, blk_far (hb' h.pi.r1 (by omega)) (by omega) _, blk_far (hb' h.pi.r2 (by omega)) (by omega) _, blk_far (hb' h.pi.r3 (by omega)) (by omega) _, (hb' h.pi.out (by omega)).same 0 _, blk_far (hb' h.pi.at_ (by omega)) (by omega) _, row_set hown (by omega) _⟩, keep_set ⟨(hne _ (by omega) (by omega)).trans h.keep.b, (hne _ (by omega) (by omega)).trans h.keep.l, (hne _ (by omega) (by omega)).trans h.keep.d⟩ (by omega) (by omega) (by omega) _, ?_⟩⟩
  have := hg.size
  simp
  omega
end
theorem own_slice {w : World} {b n : Nat} {t : TypeId} {v : Value} {xs : List Value} (h : w.ownsRow b t 3 v (n + 1) xs) : ∃ g cap, v = .slice (some ⟨g, 0, none⟩) (n + 1) cap ∧ n + 1 ≤ cap ∧ (∀ j u, xs[j]? = some u → w.cell? ⟨g, j, none⟩ = some u) ∧ b ≤ g := by
  obtain ⟨h0, h | ⟨g, cap, cur, hv, hg, hk, hc, _, hcs, hx⟩⟩ := h
  · cases h.2
  · refine ⟨g, cap, hv, hc, fun j u hu => ?_, hg⟩
    rw [← hx, List.getElem?_take] at hu
    split at hu
    · unfold World.cell?
      simp [hk]
      simpa using hu
    · cases hu
theorem stV_drop : ∀ (L : List StampT) (k j : Nat), (stV (L.drop k))[j]? = (stV L)[3 * k + j]?
  | L, 0, j => by simp
  | [], k + 1, j => by simp [stV]
  | x :: L, k + 1, j => by
    have ih := stV_drop L k j
    have e : stV (x :: L) = [sv x.1, .int .i64 x.2.1, fv x.2.2] ++ stV L := rfl
    rw [List.drop_succ_cons, ih, e, List.getElem?_append_right (by simp; omega)]
    congr 1
    simp
    omega
theorem rd_two {w : World} {g : Nat} {O : List StampT} {x : StampT} (h : ∀ j u, (stV (O ++ [x]))[j]? = some u → w.cell? ⟨g, j, none⟩ = some u) : Rd w (some ⟨g, (O.length - 1) * 3, none⟩) (stV (lastTwo O x)) := by
  have hc : ∀ j u, (stV (lastTwo O x))[j]? = some u → w.cell? ⟨g, (O.length - 1) * 3 + j, none⟩ = some u := fun j u hu => by
    unfold lastTwo at hu
    rw [stV_drop] at hu
    rw [show (O.length - 1) * 3 + j = 3 * (O.length - 1) + j by omega]
    exact h _ _ hu
  intro hpos
  have h0 := hc 0 _ (List.getElem?_eq_getElem hpos)
  exact ⟨g, (O.length - 1) * 3, rfl, Lib.lt_of_cell h0, hc⟩
theorem cell_set_far {w : World} {b k j i : Nat} {v u : Value} (h : w.cell? ⟨b, i, none⟩ = some v) (hne : b ≠ k) : (w.setCell ⟨k, j, none⟩ u).cell? ⟨b, i, none⟩ = some v := by
  rw [World.cell?_of_block (Below.heap_setCell w ⟨k, j, none⟩ u b hne)]
  exact h
theorem lastTwo_len (O : List StampT) (x : StampT) : (lastTwo O x).length = O.length + 1 - (O.length - 1) := by
  unfold lastTwo
  rw [List.length_drop, List.length_append, List.length_singleton]
theorem lastTwo_names {O : List StampT} {x : StampT} (h : ∀ y ∈ O, stOne y = 0) (hx : x.1.length ≤ 20000) : NamesOk (lastTwo O x) := by
  intro j y hy
  have hm : y ∈ O ++ [x] := List.mem_of_mem_drop (List.mem_of_getElem? hy)
  rw [List.mem_append, List.mem_singleton] at hm
  rcases hm with hm | rfl
  · have := (stOne_zero (h y hm)).1
    unfold goodName at this
    simp only [Bool.and_eq_true, decide_eq_true_eq] at this
    have := this.2.2
    omega
  · omega
theorem alloc_old {w : World} {k : Nat} {o o' : Obj} (h : w.heap[k]? = some o) : (w.alloc o').heap[k]? = some o := (Below.heap_alloc w o' k (Array.getElem?_eq_some_iff.1 h).1).trans h
theorem alloc_new (w : World) (o : Obj) (k : Nat) (hk : w.heap.size = k) : (w.alloc o).heap[k]? = some o := by rw [← hk]; exact World.alloc_heap_new w o
theorem six_alloc (w : World) (o1 o2 o3 o4 o5 o6 : Obj) : ∃ W, ((((((w.alloc o1).alloc o2).alloc o3).alloc o4).alloc o5).alloc o6) = W ∧ W.heap.size = w.heap.size + 6 ∧ Below w.heap.size w W ∧ W.heap[w.heap.size]? = some o1 ∧ W.heap[w.heap.size + 1]? = some o2 ∧ W.heap[w.heap.size + 2]? = some o3 ∧ W.heap[w.heap.size + 3]? = some o4 ∧ W.heap[w.heap.size + 4]? = some o5 ∧ W.heap[w.heap.size + 5]? = some o6 :=
  ⟨_, rfl, by simp, below_new (below_new (below_new (below_new (below_new (below_new (Below.refl _ _) _) _) _) _) _) _,
    alloc_old (alloc_old (alloc_old (alloc_old (alloc_old (alloc_new _ _ _ rfl))))), alloc_old (alloc_old (alloc_old (alloc_old (alloc_new _ _ _ (by simp))))), alloc_old (alloc_old (alloc_old (alloc_new _ _ _ (by simp)))), alloc_old (alloc_old (alloc_new _ _ _ (by simp))), alloc_old (alloc_new _ _ _ (by simp)), alloc_new _ _ _ (by simp)⟩
theorem row_shape {w : World} {b n : Nat} {t : TypeId} {v : Value} {xs : List Value} (h : w.ownsRow b t 3 v n xs) : ∃ A c, v = .slice A n c ∧ (n = 0 ∨ ∃ g, A = some ⟨g, 0, none⟩ ∧ b ≤ g ∧ ∀ j u, xs[j]? = some u → w.cell? ⟨g, j, none⟩ = some u) := by
  cases n with
  | zero =>
    obtain ⟨h0, h | ⟨g, cap, cur, hv, _⟩⟩ := h
    · exact ⟨none, 0, h.1, .inl rfl⟩
    · exact ⟨_, cap, hv, .inl rfl⟩
  | succ n =>
    obtain ⟨g, cap, hv, _, hc, hg⟩ := own_slice h
    exact ⟨_, cap, hv, .inr ⟨g, rfl, hg, hc⟩⟩
theorem parse_end {P : Ending → World → Prop} {W : World} {b D : Nat} {L : List Value} {A : Option Addr} {n c : Nat} {m e : Int} {t1 t2 t3 : TypeId} (hD : W.heap[D]? = some (.deferred (some []))) (h1 : Blk W b t1 [.slice A n c]) (h2 : Blk W (b + 1) t2 [.int .i64 m]) (h3 : Blk W (b + 2) t3 [.int .i64 e]) (d1 : b ≠ D) (d2 : b + 1 ≠ D) (d3 : b + 2 ≠ D)
    (l2 : L[2]? = some (.pointer (some ⟨b, 0, none⟩))) (l3 : L[3]? = some (.pointer (some ⟨b + 1, 0, none⟩))) (l4 : L[4]? = some (.pointer (some ⟨b + 2, 0, none⟩))) (hP : P (.returned (.tuple #[.slice A n c, .int .i64 m, .int .i64 e])) (W.putObj D (.deferred none))) :
    bodyPostM Fence.wide 8 Tryd.prog Tryd.f5 P .ret ⟨L.toArray, [{ target := .collected D, args := #[] }]⟩ W := by
  have hb : ∀ {k : Nat} {t : TypeId} {vs : List Value}, Blk W k t vs → k ≠ D → Blk (W.putObj D (.deferred none)) k t vs := fun {k t vs} h hk => by
    unfold Blk
    rw [World.putObj_heap_other hk]
    exact h
  have q1 := (hb h1 d1).cell (j := 0) rfl
  have q2 := (hb h2 d2).cell (j := 0) rfl
  have q3 := (hb h3 d3).cell (j := 0) rfl
  refine ⟨by simp, .inl ⟨_, _, rfl, run_takeDeferred hD, ?_⟩⟩
  exact ⟨.tuple #[.slice A n c, .int .i64 m, .int .i64 e], by simp [results, Tryd.results5, go_sem, q1, q2, q3, l2, l3, l4], hP⟩
set_option maxRecDepth 100000 in
set_option maxHeartbeats 4000000 in
theorem lParse_short (s : List UInt8) (w : World) (hs : s.length ≤ 20000) (hE : LEnv w) : Calls Tryd.prog 5 #[.string ⟨s.toArray⟩] w (ParsedPost (readL s) w) := by
  have HE := Lib.hid hE
  have hz : (⟨s.toArray⟩ : ByteArray).size = s.length := by simp [ByteArray.size]
  have hsz : ¬ (20000 : Int) < ((⟨s.toArray⟩ : ByteArray).size : Int) := by rw [hz]; omega
  have hsz2 : (⟨s.toArray⟩ : ByteArray).size ≤ 20000 := by rw [hz]; exact hs
  have HS := Lib.hid hs
  clear hE hz hs
  have CL := Lib.hid (fun W => sLines_any ⟨s.toArray⟩ W)
  generalize hsb : (⟨s.toArray⟩ : ByteArray) = sb at *
  have HSB := Lib.hid hsb
  clear hsb
  refine (callsIn_wide (n := 8)).1 ?_
  refine callsIn_of_wp_marks Tryd.func5 rfl trivial ?_ rfl
  simp only [Tryd.ntmps5, List.size_toArray, List.length_cons, List.length_nil, Nat.reduceAdd, Nat.reduceSub, Array.replicate_succ, Array.replicate_zero, List.push_toArray, List.append_toArray, List.nil_append, List.cons_append]
  gi_wp2_with (refine ⟨trivial, ?_⟩; gi_at_call 14; refine (callsIn_wide.2 (CL.out _)).mono ?_; rintro e w' ⟨rfl, rfl⟩)
  obtain ⟨W0, hW0, hz0, hb0, g1, g2, g3, g4, g5, g6⟩ := six_alloc w (.cells #[.slice none 0 0] 22) (.cells #[.int .i64 0] 3) (.cells #[.int .i64 0] 23) (.cells #[.slice none 0 0] 22) (.cells #[.int .i64 0] 3) (.cells #[.string sb] 9)
  rw [hW0]
  have HZ0 := Lib.hid hz0
  have hsv : strV s = .string sb := by unfold strV; rw [HSB.out]
  have HB6 : Hid (W0.heap[w.heap.size + 5]? = some (.cells #[strV s] 9 (0, 0))) := Lib.hid (by rw [g6, hsv])
  have HP0 : Hid (PI w w.heap.size 0 [] (.slice none 0 0) W0) := Lib.hid ⟨hb0, g1, g2, g3, g4, g5, World.ownsRow_nil _ _ _ _⟩
  clear hW0 hz0 hb0 g1 g2 g3 g4 g5 g6 hsv
  obtain ⟨b, hb⟩ : ∃ b, b = w.heap.size := ⟨_, rfl⟩
  have HBE := Lib.hid hb
  rw [← hb] at HZ0 HB6 HP0 ⊢
  clear hb
  simp only [Nat.add_assoc, Nat.reduceAdd]
  refine wpIn_lines (gf := 29) (B := b + 5) (T := 9) (s := s) rfl (enters_of Tryd.func29 (by kernel_rfl) rfl) (lines_con (b + 5) (8 - 1) s (by have := HS.out; omega) (by omega)) HB6.out
    (fun ls W => ∃ O v, RunIs ls O ∧ PI w b O.length O v W) (fun W => ∃ (n : Nat) (e : Int), readL s = ([], n, e) ∧ PX w b (n : Int) e W) ?hI ?hIx ⟨[], _, runIs_nil, HP0.out⟩
    (fun x => { tmps := #[.string sb, undef, .pointer (some ⟨b, 0, none⟩), .pointer (some ⟨b + 1, 0, none⟩), .pointer (some ⟨b + 2, 0, none⟩), .pointer (some ⟨b + 3, 0, none⟩), .pointer (some ⟨b + 4, 0, none⟩), strV x, undef, undef, undef, .string sb, .int .i64 (sb.size : Int), .bool false, .string sb, .func (.func 29) #[] #[.pointer (some ⟨b + 5, 0, none⟩)], strV x, undef, undef, undef, undef, undef, undef, undef, undef, undef, undef, undef, undef, undef, undef, undef, undef, undef, undef, undef, undef, undef, undef, undef, undef, undef, undef, undef, undef], defers := [] }) ?assign ?body ?done ?stop
  case hI =>
    rintro ls W W' ⟨O, v, hr, hp⟩ hb
    rw [HZ0.out] at hb
    exact ⟨O, v, hr, hp.but HBE.out.symm hb⟩
  case hIx =>
    rintro W W' ⟨n, e, hr, hp⟩ hb
    rw [HZ0.out] at hb
    exact ⟨n, e, hr, hp.but HBE.out.symm hb⟩
  case assign =>
    intro x W K hK
    gi_wp2
    exact hK
  case body =>
    rintro ls x W ⟨O, v, hr, hp⟩ hpre hzz
    have HRI := Lib.hid hr
    have HPI := Lib.hid hp
    have HPRE := Lib.hid hpre
    clear hr hp hpre
    have HRL : Hid (readL s = runLines 0 [] (linesL s)) := Lib.hid (by unfold readL; rw [if_neg (by have := HS.out; omega)])
    have hbw := HBE.out.symm
    have HK1 := Lib.hid (KP.setAt (Ws := W) ⟨HPI.out, Keep3.refl _ _ _ _, by have := HZ0.out; omega⟩ hbw (O.length + 1))
    have rat := HPI.out.at_.cell (j := 0) rfl
    have fat := HPI.out.at_.free
    have hOm := HRI.out.max
    have ha1 : IntKind.i64.wrap ((O.length : Int) + 1) = (O.length : Int) + 1 := IntWalk.i64_in _ (by omega)
    have HXL : Hid (x.length ≤ 20000) := Lib.hid (Nat.le_trans (linesL_le s x (HPRE.out.subset (by simp))) HS.out)
    have HE1 := Lib.hid (HE.out.below HK1.out.pi.below)
    have CR := Lib.hid (fun W (hW : LEnv W) => lRead_any x W HXL.out hW)
    have HNL : Hid ((readP x).1.1.length ≤ 20000) := Lib.hid (Nat.le_trans (readP_name x) HXL.out)
    generalize hR : readP x = R at CR HNL
    have HR := Lib.hid hR
    clear hR
    obtain ⟨⟨nm, t, f⟩, ok⟩ := R
    unfold ReadPost stA sv fv at CR
    simp only at CR HNL
    have HNV : Hid (stV [((nm, t, f) : StampT)] = [.string ⟨nm.toArray⟩, .int .i64 t, .float .f64 f.toNat]) := Lib.hid rfl
    generalize (⟨nm.toArray⟩ : ByteArray) = nb at CR HNV
    generalize f.toNat = fb at CR HNV
    obtain ⟨hTs, i0, hi0, hz0, hz1, hz2, hz3⟩ := elStamp9
    have HSN := Lib.hid (stV_snoc O ((nm, t, f) : StampT))
    have HNV2 : Hid ([sv nm, .int .i64 t, fv f] = [.string nb, .int .i64 t, .float .f64 fb]) := Lib.hid HNV.out
    have hmax : max ((O.length : Int) + 1 - 2) 0 = ((O.length - 1 : Nat) : Int) := by omega
    have hmaxn : ((O.length - 1 : Nat) : Int).toNat = O.length - 1 := by omega
    have HCE : Hid (∃ ec, stErr (lastTwo O ((nm, t, f) : StampT)) = ec) := Lib.hid ⟨_, rfl⟩
    obtain ⟨ec, hec⟩ := HCE.out
    have HEC := Lib.hid hec
    clear hec
    by_cases hbig : 200 < O.length + 1
    · have hb1 : ((200 : Int) < (O.length : Int) + 1) := by omega
      have HBIG := Lib.hid hbig
      unfold strV
      gi_wp2_with (first
        | (refine ⟨trivial, ?_⟩; gi_at_call 15; refine (CallsIn.inRound _ (callsIn_wide.2 (CR.out _ HE1.out))).mono ?_; rintro e w2 ⟨rfl, hb2⟩; have HK2 := Lib.hid (HK1.out.grow hb2); have HK3 := Lib.hid (HK2.out.grow (below_new (Below.refl _ w2) (.cells #[.string nb, .int .i64 t, .float .f64 fb] 38))); have HK4 := Lib.hid (HK3.out.grow (below_new (Below.refl _ (w2.alloc (.cells #[.string nb, .int .i64 t, .float .f64 fb] 38))) (.cells #[.string nb, .int .i64 t, .float .f64 fb] 38))); clear rat fat; have rout := HK3.out.pi.out.cell (j := 0) rfl; have fout := HK3.out.pi.out.free; have rat := HK3.out.pi.at_.cell (j := 0) rfl; have xb := (box3_new w2 (.string nb) (.int .i64 t) (.float .f64 fb) 38); have x1 := xb.cell (j := 0) rfl; have x2 := xb.cell (j := 1) rfl; have x3 := xb.cell (j := 2) rfl; clear xb; have HNB := Lib.hid (show Blk ((w2.alloc (.cells #[.string nb, .int .i64 t, .float .f64 fb] 38)).alloc (.cells #[.string nb, .int .i64 t, .float .f64 fb] 38)) (w2.heap.size + 1) 38 [.string nb, .int .i64 t, .float .f64 fb] by have := box3_new (w2.alloc (.cells #[.string nb, .int .i64 t, .float .f64 fb] 38)) (.string nb) (.int .i64 t) (.float .f64 fb) 38; rwa [World.size_alloc] at this))
        | (gi_at_builtin; go_loud (refine wpListIn_append_own _ rfl _ _ 22 rfl (b + 8) 38 i0 _ 3 32 hTs hi0 hz0 hz1 hz2 hz3 (by decide) v O.length (stV O) rfl HK4.out.pi.row ⟨w2.heap.size + 1, 0, none⟩ 1 1 [.string nb, .int .i64 t, .float .f64 fb] rfl rfl (fun j u hu => by rw [addr_plus, Nat.zero_add]; exact HNB.out.cell hu) (by simp [Value.oneCell']) (by unfold maxLen; omega) (by omega) HK4.out.size ?_; intro v' w5 hown5 hg5 _; obtain ⟨g', cap', hv', hcap', hrd'⟩ := own_slice hown5; subst hv'; obtain ⟨hbo, hk5⟩ := HK4.out.app (x := ((nm, t, f) : StampT)) hbw hg5 (by rw [List.length_append, List.length_singleton, HSN.out, HNV2.out]; exact hown5); have HK5 := Lib.hid hk5; clear rout fout rat hk5 hown5 hg5 x1 x2 x3; have rout := hbo.cell (j := 0) rfl; have fout := hbo.free; clear hbo; have HRD := Lib.hid hrd'.1; have hgb := hrd'.2; clear hrd'; have rou2 := HK5.out.pi.out.cell (j := 0) rfl; have rat := HK5.out.pi.at_.cell (j := 0) rfl))
        | (refine ⟨trivial, ?_⟩; gi_at_call 8; refine (CallsIn.inRound _ (callsIn_wide.2 (lCheck_any (A := some ⟨g', (O.length - 1) * 3, none⟩) (n := O.length + 1 - (O.length - 1)) (c := cap' - (O.length - 1)) (lastTwo O ((nm, t, f) : StampT)) _ (rd_two (fun j u hu => cell_set_far (HRD.out j u (by rw [HSN.out, HNV2.out] at hu; exact hu)) (by omega))) (lastTwo_len _ _) (by omega) (lastTwo_names HRI.out.good HNL.out)))).mono ?_; rintro e w6 ⟨rfl, hb6⟩; rw [HEC.out]; have HK6 := Lib.hid (HK5.out.grow hb6); clear rout fout rat rou2 hb6; have rat := HK6.out.pi.at_.cell (j := 0) rfl; have s1 := HK6.out.pi.r1.cell (j := 0) rfl; have s2 := HK6.out.pi.r2.cell (j := 0) rfl; have s3 := HK6.out.pi.r3.cell (j := 0) rfl; have t1 := HK6.out.pi.r1.free; have t2 := HK6.out.pi.r2.free; have t3 := HK6.out.pi.r3.free))
      gi_region
      all_goals
        gi_wp2
        rw [HZ0.out]
        obtain ⟨k1, k2⟩ := HK6.out.ret hbw ((O.length : Int) + 1) 2
        exact ⟨k1, O.length + 1, 2, by rw [HRL.out]; obtain ⟨rest, hrest⟩ := HPRE.out; rw [← hrest, List.append_assoc]; exact run_large HRI.out HBIG.out rest, k2⟩
    · have HBIG := Lib.hid hbig
      have hb1 : ¬ ((200 : Int) < (O.length : Int) + 1) := by omega
      by_cases hg : ok = true ∧ ec = 0
      · obtain ⟨hok, hec0⟩ := hg
        subst hok hec0
        have HRN : Hid (RunIs (ls ++ [x]) (O ++ [((nm, t, f) : StampT)])) := Lib.hid (by
          have := run_next (l := x) HRI.out HBIG.out (by rw [HR.out]; exact ⟨rfl, HEC.out⟩)
          rwa [HR.out] at this)
        unfold strV
        gi_wp2_with (first
          | (refine ⟨trivial, ?_⟩; gi_at_call 15; refine (CallsIn.inRound _ (callsIn_wide.2 (CR.out _ HE1.out))).mono ?_; rintro e w2 ⟨rfl, hb2⟩; have HK2 := Lib.hid (HK1.out.grow hb2); have HK3 := Lib.hid (HK2.out.grow (below_new (Below.refl _ w2) (.cells #[.string nb, .int .i64 t, .float .f64 fb] 38))); have HK4 := Lib.hid (HK3.out.grow (below_new (Below.refl _ (w2.alloc (.cells #[.string nb, .int .i64 t, .float .f64 fb] 38))) (.cells #[.string nb, .int .i64 t, .float .f64 fb] 38))); clear rat fat; have rout := HK3.out.pi.out.cell (j := 0) rfl; have fout := HK3.out.pi.out.free; have rat := HK3.out.pi.at_.cell (j := 0) rfl; have xb := (box3_new w2 (.string nb) (.int .i64 t) (.float .f64 fb) 38); have x1 := xb.cell (j := 0) rfl; have x2 := xb.cell (j := 1) rfl; have x3 := xb.cell (j := 2) rfl; clear xb; have HNB := Lib.hid (show Blk ((w2.alloc (.cells #[.string nb, .int .i64 t, .float .f64 fb] 38)).alloc (.cells #[.string nb, .int .i64 t, .float .f64 fb] 38)) (w2.heap.size + 1) 38 [.string nb, .int .i64 t, .float .f64 fb] by have := box3_new (w2.alloc (.cells #[.string nb, .int .i64 t, .float .f64 fb] 38)) (.string nb) (.int .i64 t) (.float .f64 fb) 38; rwa [World.size_alloc] at this))
          | (gi_at_builtin; go_loud (refine wpListIn_append_own _ rfl _ _ 22 rfl (b + 8) 38 i0 _ 3 32 hTs hi0 hz0 hz1 hz2 hz3 (by decide) v O.length (stV O) rfl HK4.out.pi.row ⟨w2.heap.size + 1, 0, none⟩ 1 1 [.string nb, .int .i64 t, .float .f64 fb] rfl rfl (fun j u hu => by rw [addr_plus, Nat.zero_add]; exact HNB.out.cell hu) (by simp [Value.oneCell']) (by unfold maxLen; omega) (by omega) HK4.out.size ?_; intro v' w5 hown5 hg5 _; obtain ⟨g', cap', hv', hcap', hrd'⟩ := own_slice hown5; subst hv'; obtain ⟨hbo, hk5⟩ := HK4.out.app (x := ((nm, t, f) : StampT)) hbw hg5 (by rw [List.length_append, List.length_singleton, HSN.out, HNV2.out]; exact hown5); have HK5 := Lib.hid hk5; clear rout fout rat hk5 hown5 hg5 x1 x2 x3; have rout := hbo.cell (j := 0) rfl; have fout := hbo.free; clear hbo; have HRD := Lib.hid hrd'.1; have hgb := hrd'.2; clear hrd'; have rou2 := HK5.out.pi.out.cell (j := 0) rfl; have rat := HK5.out.pi.at_.cell (j := 0) rfl))
          | (refine ⟨trivial, ?_⟩; gi_at_call 8; refine (CallsIn.inRound _ (callsIn_wide.2 (lCheck_any (A := some ⟨g', (O.length - 1) * 3, none⟩) (n := O.length + 1 - (O.length - 1)) (c := cap' - (O.length - 1)) (lastTwo O ((nm, t, f) : StampT)) _ (rd_two (fun j u hu => cell_set_far (HRD.out j u (by rw [HSN.out, HNV2.out] at hu; exact hu)) (by omega))) (lastTwo_len _ _) (by omega) (lastTwo_names HRI.out.good HNL.out)))).mono ?_; rintro e w6 ⟨rfl, hb6⟩; rw [HEC.out]; have HK6 := Lib.hid (HK5.out.grow hb6); clear rout fout rat rou2 hb6; have rat := HK6.out.pi.at_.cell (j := 0) rfl; have s1 := HK6.out.pi.r1.cell (j := 0) rfl; have s2 := HK6.out.pi.r2.cell (j := 0) rfl; have s3 := HK6.out.pi.r3.cell (j := 0) rfl; have t1 := HK6.out.pi.r1.free; have t2 := HK6.out.pi.r2.free; have t3 := HK6.out.pi.r3.free))
        have hlen : (O ++ [((nm, t, f) : StampT)]).length = O.length + 1 := by simp
        refine ⟨?_, O ++ [((nm, t, f) : StampT)], .slice (some ⟨g', 0, none⟩) (O.length + 1) cap', HRN.out, ?_⟩
        · rw [HZ0.out]; exact HK6.out.keep
        · rw [hlen]; exact HK6.out.pi
      · have HNG : Hid (¬ ((readP x).2 = true ∧ stErr (lastTwo O (readP x).1) = 0)) := Lib.hid (by rw [HR.out, HEC.out]; exact hg)
        cases hok : ok with
        | false =>
          rw [hok] at CR
          clear hg
          unfold strV
          gi_wp2_with (first
            | (refine ⟨trivial, ?_⟩; gi_at_call 15; refine (CallsIn.inRound _ (callsIn_wide.2 (CR.out _ HE1.out))).mono ?_; rintro e w2 ⟨rfl, hb2⟩; have HK2 := Lib.hid (HK1.out.grow hb2); have HK3 := Lib.hid (HK2.out.grow (below_new (Below.refl _ w2) (.cells #[.string nb, .int .i64 t, .float .f64 fb] 38))); have HK4 := Lib.hid (HK3.out.grow (below_new (Below.refl _ (w2.alloc (.cells #[.string nb, .int .i64 t, .float .f64 fb] 38))) (.cells #[.string nb, .int .i64 t, .float .f64 fb] 38))); clear rat fat; have rout := HK3.out.pi.out.cell (j := 0) rfl; have fout := HK3.out.pi.out.free; have rat := HK3.out.pi.at_.cell (j := 0) rfl; have xb := (box3_new w2 (.string nb) (.int .i64 t) (.float .f64 fb) 38); have x1 := xb.cell (j := 0) rfl; have x2 := xb.cell (j := 1) rfl; have x3 := xb.cell (j := 2) rfl; clear xb; have HNB := Lib.hid (show Blk ((w2.alloc (.cells #[.string nb, .int .i64 t, .float .f64 fb] 38)).alloc (.cells #[.string nb, .int .i64 t, .float .f64 fb] 38)) (w2.heap.size + 1) 38 [.string nb, .int .i64 t, .float .f64 fb] by have := box3_new (w2.alloc (.cells #[.string nb, .int .i64 t, .float .f64 fb] 38)) (.string nb) (.int .i64 t) (.float .f64 fb) 38; rwa [World.size_alloc] at this))
            | (gi_at_builtin; go_loud (refine wpListIn_append_own _ rfl _ _ 22 rfl (b + 8) 38 i0 _ 3 32 hTs hi0 hz0 hz1 hz2 hz3 (by decide) v O.length (stV O) rfl HK4.out.pi.row ⟨w2.heap.size + 1, 0, none⟩ 1 1 [.string nb, .int .i64 t, .float .f64 fb] rfl rfl (fun j u hu => by rw [addr_plus, Nat.zero_add]; exact HNB.out.cell hu) (by simp [Value.oneCell']) (by unfold maxLen; omega) (by omega) HK4.out.size ?_; intro v' w5 hown5 hg5 _; obtain ⟨g', cap', hv', hcap', hrd'⟩ := own_slice hown5; subst hv'; obtain ⟨hbo, hk5⟩ := HK4.out.app (x := ((nm, t, f) : StampT)) hbw hg5 (by rw [List.length_append, List.length_singleton, HSN.out, HNV2.out]; exact hown5); have HK5 := Lib.hid hk5; clear rout fout rat hk5 hown5 hg5 x1 x2 x3; have rout := hbo.cell (j := 0) rfl; have fout := hbo.free; clear hbo; have HRD := Lib.hid hrd'.1; have hgb := hrd'.2; clear hrd'; have rou2 := HK5.out.pi.out.cell (j := 0) rfl; have rat := HK5.out.pi.at_.cell (j := 0) rfl))
            | (refine ⟨trivial, ?_⟩; gi_at_call 8; refine (CallsIn.inRound _ (callsIn_wide.2 (lCheck_any (A := some ⟨g', (O.length - 1) * 3, none⟩) (n := O.length + 1 - (O.length - 1)) (c := cap' - (O.length - 1)) (lastTwo O ((nm, t, f) : StampT)) _ (rd_two (fun j u hu => cell_set_far (HRD.out j u (by rw [HSN.out, HNV2.out] at hu; exact hu)) (by omega))) (lastTwo_len _ _) (by omega) (lastTwo_names HRI.out.good HNL.out)))).mono ?_; rintro e w6 ⟨rfl, hb6⟩; rw [HEC.out]; have HK6 := Lib.hid (HK5.out.grow hb6); clear rout fout rat rou2 hb6; have rat := HK6.out.pi.at_.cell (j := 0) rfl; have s1 := HK6.out.pi.r1.cell (j := 0) rfl; have s2 := HK6.out.pi.r2.cell (j := 0) rfl; have s3 := HK6.out.pi.r3.cell (j := 0) rfl; have t1 := HK6.out.pi.r1.free; have t2 := HK6.out.pi.r2.free; have t3 := HK6.out.pi.r3.free))
          gi_region
          all_goals
            gi_wp2
            rw [HZ0.out]
            obtain ⟨k1, k2⟩ := HK6.out.ret hbw ((O.length : Int) + 1) 3
            exact ⟨k1, O.length + 1, 3, by rw [HRL.out]; obtain ⟨rest, hrest⟩ := HPRE.out; rw [← hrest, List.append_assoc]; exact run_bad HRI.out HBIG.out HNG.out rest, k2⟩
        | true =>
          rw [hok] at CR
          have hec0 : ¬ ec = 0 := fun e => hg ⟨hok, e⟩
          have d1 : (ec != 0) = true := by simpa using hec0
          have d2 : (ec == 0) = false := by simpa using hec0
          clear hg hec0
          unfold strV
          gi_wp2_with (first
            | (refine ⟨trivial, ?_⟩; gi_at_call 15; refine (CallsIn.inRound _ (callsIn_wide.2 (CR.out _ HE1.out))).mono ?_; rintro e w2 ⟨rfl, hb2⟩; have HK2 := Lib.hid (HK1.out.grow hb2); have HK3 := Lib.hid (HK2.out.grow (below_new (Below.refl _ w2) (.cells #[.string nb, .int .i64 t, .float .f64 fb] 38))); have HK4 := Lib.hid (HK3.out.grow (below_new (Below.refl _ (w2.alloc (.cells #[.string nb, .int .i64 t, .float .f64 fb] 38))) (.cells #[.string nb, .int .i64 t, .float .f64 fb] 38))); clear rat fat; have rout := HK3.out.pi.out.cell (j := 0) rfl; have fout := HK3.out.pi.out.free; have rat := HK3.out.pi.at_.cell (j := 0) rfl; have xb := (box3_new w2 (.string nb) (.int .i64 t) (.float .f64 fb) 38); have x1 := xb.cell (j := 0) rfl; have x2 := xb.cell (j := 1) rfl; have x3 := xb.cell (j := 2) rfl; clear xb; have HNB := Lib.hid (show Blk ((w2.alloc (.cells #[.string nb, .int .i64 t, .float .f64 fb] 38)).alloc (.cells #[.string nb, .int .i64 t, .float .f64 fb] 38)) (w2.heap.size + 1) 38 [.string nb, .int .i64 t, .float .f64 fb] by have := box3_new (w2.alloc (.cells #[.string nb, .int .i64 t, .float .f64 fb] 38)) (.string nb) (.int .i64 t) (.float .f64 fb) 38; rwa [World.size_alloc] at this))
            | (gi_at_builtin; go_loud (refine wpListIn_append_own _ rfl _ _ 22 rfl (b + 8) 38 i0 _ 3 32 hTs hi0 hz0 hz1 hz2 hz3 (by decide) v O.length (stV O) rfl HK4.out.pi.row ⟨w2.heap.size + 1, 0, none⟩ 1 1 [.string nb, .int .i64 t, .float .f64 fb] rfl rfl (fun j u hu => by rw [addr_plus, Nat.zero_add]; exact HNB.out.cell hu) (by simp [Value.oneCell']) (by unfold maxLen; omega) (by omega) HK4.out.size ?_; intro v' w5 hown5 hg5 _; obtain ⟨g', cap', hv', hcap', hrd'⟩ := own_slice hown5; subst hv'; obtain ⟨hbo, hk5⟩ := HK4.out.app (x := ((nm, t, f) : StampT)) hbw hg5 (by rw [List.length_append, List.length_singleton, HSN.out, HNV2.out]; exact hown5); have HK5 := Lib.hid hk5; clear rout fout rat hk5 hown5 hg5 x1 x2 x3; have rout := hbo.cell (j := 0) rfl; have fout := hbo.free; clear hbo; have HRD := Lib.hid hrd'.1; have hgb := hrd'.2; clear hrd'; have rou2 := HK5.out.pi.out.cell (j := 0) rfl; have rat := HK5.out.pi.at_.cell (j := 0) rfl))
            | (refine ⟨trivial, ?_⟩; gi_at_call 8; refine (CallsIn.inRound _ (callsIn_wide.2 (lCheck_any (A := some ⟨g', (O.length - 1) * 3, none⟩) (n := O.length + 1 - (O.length - 1)) (c := cap' - (O.length - 1)) (lastTwo O ((nm, t, f) : StampT)) _ (rd_two (fun j u hu => cell_set_far (HRD.out j u (by rw [HSN.out, HNV2.out] at hu; exact hu)) (by omega))) (lastTwo_len _ _) (by omega) (lastTwo_names HRI.out.good HNL.out)))).mono ?_; rintro e w6 ⟨rfl, hb6⟩; rw [HEC.out]; have HK6 := Lib.hid (HK5.out.grow hb6); clear rout fout rat rou2 hb6; have rat := HK6.out.pi.at_.cell (j := 0) rfl; have s1 := HK6.out.pi.r1.cell (j := 0) rfl; have s2 := HK6.out.pi.r2.cell (j := 0) rfl; have s3 := HK6.out.pi.r3.cell (j := 0) rfl; have t1 := HK6.out.pi.r1.free; have t2 := HK6.out.pi.r2.free; have t3 := HK6.out.pi.r3.free))
          gi_region
          all_goals
            gi_wp2
            rw [HZ0.out]
            obtain ⟨k1, k2⟩ := HK6.out.ret hbw ((O.length : Int) + 1) 3
            exact ⟨k1, O.length + 1, 3, by rw [HRL.out]; obtain ⟨rest, hrest⟩ := HPRE.out; rw [← hrest, List.append_assoc]; exact run_bad HRI.out HBIG.out HNG.out rest, k2⟩
  case done =>
    rintro W ⟨O, v, hr, hp⟩ hD
    have HRI := Lib.hid hr
    have HD := Lib.hid hD
    obtain ⟨A, c, hv, hsh⟩ := row_shape hp.row
    subst hv
    have HSH := Lib.hid hsh
    have HPI := Lib.hid hp
    clear hr hp hD hsh
    have rout : W.cell? ⟨b + 3, 0, none⟩ = some (.slice A O.length c) := HPI.out.out.cell (j := 0) rfl
    have t1 := HPI.out.r1.free
    have t2 := HPI.out.r2.free
    have t3 : ∀ j, W.frozen? ⟨b + 2, j, none⟩ = false := HPI.out.r3.free
    have s1 := HPI.out.r1.cell (j := 0) rfl
    have s2 := HPI.out.r2.cell (j := 0) rfl
    have s3 : W.cell? ⟨b + 2, 0, none⟩ = some (.int .i64 0) := HPI.out.r3.cell (j := 0) rfl
    have HRS : Hid (readL s = (O, 0, 0)) := Lib.hid (by
      unfold readL
      rw [if_neg (by have := HS.out; omega)]
      have := HRI.out.run []
      rw [List.append_nil] at this
      rw [this]
      rfl)
    gi_wp2
    have hbw := HBE.out
    have hz0 := HZ0.out
    refine parse_end (b := b) (D := W0.heap.size) (A := A) (n := O.length) (c := c) (m := 0) (e := 0) ?_ (blk_far (blk_far (HPI.out.r1.same 0 _) (by omega) _) (by omega) _) (blk_far ((blk_far HPI.out.r2 (by omega) _).same 0 _) (by omega) _) ((blk_far (blk_far HPI.out.r3 (by omega) _) (by omega) _).same 0 _) (by omega) (by omega) (by omega) (by rfl) (by rfl) (by rfl) ?_
    · rw [Below.heap_setCell _ _ _ _ (by show W0.heap.size ≠ b + 2; omega), Below.heap_setCell _ _ _ _ (by show W0.heap.size ≠ b + 1; omega), Below.heap_setCell _ _ _ _ (by show W0.heap.size ≠ b; omega)]
      exact HD.out
    · rw [HRS.out]
      refine ⟨A, c, rfl, ?_, ?_⟩
      · rcases HSH.out with h0 | ⟨g, rfl, hg, hc⟩
        · rw [List.length_eq_zero_iff.1 h0]
          intro hpos
          exact absurd hpos (Nat.lt_irrefl 0)
        · have hcc : ∀ j u, (stV O)[j]? = some u → (((((W.setCell ⟨b, 0, none⟩ (.slice (some ⟨g, 0, none⟩) O.length c)).setCell ⟨b + 1, 0, none⟩ (.int .i64 0)).setCell ⟨b + 2, 0, none⟩ (.int .i64 0)).putObj W0.heap.size (.deferred none))).cell? ⟨g, 0 + j, none⟩ = some u := fun j u hu => by
            rw [Nat.zero_add, World.cell?_of_block (World.putObj_heap_other (by show g ≠ W0.heap.size; omega))]
            exact cell_set_far (cell_set_far (cell_set_far (hc j u hu) (by omega)) (by omega)) (by omega)
          intro hpos
          exact ⟨g, 0, rfl, Lib.lt_of_cell (hcc 0 _ (List.getElem?_eq_getElem hpos)), hcc⟩
      · exact below_but (((HPI.out.below.setCell (p := ⟨b, 0, none⟩) (by show w.heap.size ≤ b; omega) _).setCell (p := ⟨b + 1, 0, none⟩) (by show w.heap.size ≤ b + 1; omega) _).setCell (p := ⟨b + 2, 0, none⟩) (by show w.heap.size ≤ b + 2; omega) _) (but3_putObj (B := W0.heap.size) (l := W0.heap.size) (D := W0.heap.size) _ _) (by omega) (by omega) (by omega)
  case stop =>
    rintro W ⟨n, e, hr, hp⟩ hD
    have HR := Lib.hid hr
    have HPX := Lib.hid hp
    have HD := Lib.hid hD
    clear hr hp hD
    gi_wp2
    have hz0 := HZ0.out
    have hbw := HBE.out
    refine parse_end (b := b) (D := W0.heap.size) (A := none) (n := 0) (c := 0) (m := (n : Int)) (e := e) HD.out HPX.out.r1 HPX.out.r2 HPX.out.r3 (by omega) (by omega) (by omega) (by rfl) (by rfl) (by rfl) ?_
    rw [HR.out]
    exact ⟨none, 0, rfl, Rd.nil_ _ _, below_but HPX.out.below (but3_putObj (B := W0.heap.size) (l := W0.heap.size) (D := W0.heap.size) W _) (by omega) (by omega) (by omega)⟩
end Go.Proofs.YtcjhkfhogcdobaaDoor
/- Contract: log.Parse at any text. -/
namespace Go.Proofs.YtcjhkfhogcdobaaDoor
open Go.RowKit
theorem three_alloc (w : World) (o1 o2 o3 : Obj) : ∃ W, (((w.alloc o1).alloc o2).alloc o3) = W ∧ Below w.heap.size w W ∧ W.heap[w.heap.size]? = some o1 ∧ W.heap[w.heap.size + 1]? = some o2 ∧ W.heap[w.heap.size + 2]? = some o3 :=
  ⟨_, rfl, below_new (below_new (below_new (Below.refl _ _) _) _) _, alloc_old (alloc_old (alloc_new _ _ _ rfl)), alloc_old (alloc_new _ _ _ (by simp)), alloc_new _ _ _ (by simp)⟩
set_option maxRecDepth 100000 in
set_option maxHeartbeats 2000000 in
theorem lParse_long (s : List UInt8) (w : World) (hs : 20000 < s.length) (hm : s.length ≤ 9223372036854775807) : Calls Tryd.prog 5 #[.string ⟨s.toArray⟩] w (ParsedPost (readL s) w) := by
  have hz : (⟨s.toArray⟩ : ByteArray).size = s.length := by simp [ByteArray.size]
  have hsz : (20000 : Int) < ((⟨s.toArray⟩ : ByteArray).size : Int) := by rw [hz]; omega
  have HR : Hid (readL s = ([], 0, 2)) := Lib.hid (by unfold readL; rw [if_pos hs])
  have hsm : (⟨s.toArray⟩ : ByteArray).size ≤ 9223372036854775807 := by rw [hz]; exact hm
  clear hz hs hm
  generalize (⟨s.toArray⟩ : ByteArray) = sb at *
  obtain ⟨b, hbe⟩ : ∃ b, w.heap.size = b := ⟨_, rfl⟩
  go_enter Tryd.func5, Tryd.ntmps5
  go_wp2
  obtain ⟨W, hW, hbw, g1, g2, g3⟩ := three_alloc w (.cells #[.slice none 0 0] 22) (.cells #[.int .i64 0] 3) (.cells #[.int .i64 2] 23)
  rw [hbe] at g1 g2 g3
  have c1 := Blk.cell (w := W) (b := b) (t := 22) (vs := [.slice none 0 0]) (j := 0) g1 rfl
  have c2 := Blk.cell (w := W) (b := b + 1) (t := 3) (vs := [.int .i64 0]) (j := 0) g2 rfl
  have c3 := Blk.cell (w := W) (b := b + 2) (t := 23) (vs := [.int .i64 2]) (j := 0) g3 rfl
  rw [hW]
  clear hW g1 g2 g3
  rw [HR.out]
  refine ⟨rfl, .tuple #[.slice none 0 0, .int .i64 0, .int .i64 2], ?_, none, 0, rfl, Rd.nil_ _ _, hbw⟩
  simp [results, Tryd.results5, go_sem, c1, c2, c3]
theorem lParse_any (s : List UInt8) (w : World) (hm : s.length ≤ 9223372036854775807) (hE : LEnv w) : Calls Tryd.prog 5 #[.string ⟨s.toArray⟩] w (ParsedPost (readL s) w) := by
  rcases Nat.lt_or_ge 20000 s.length with h | h
  · exact lParse_long s w h hm
  · exact lParse_short s w h hE
end Go.Proofs.YtcjhkfhogcdobaaDoor
