/- Contract: graph.Turn. -/
import Derived.Test.YtiechbaknolimaaDoorGraphPlain
import Derived.Test.YtiechbaknolimaaDoorName12
import Derived.Test.YtiechbaknolimaaDoorRun1
import Derived.Deep.AppendLies
import Derived.Deep.RegionHeld3
import Derived.Test.YtiechbaknolimaaDoorLog2
namespace Go.Proofs.YtiechbaknolimaaDoor
open Go.RowKit

theorem elEdge : Tryd.prog.underlying 23 = some (.slice 69) ∧ ∃ i, Tryd.prog.info? 69 = some i ∧ i.zero = some (.agg #[.int .i64 0, .int .i64 0]) ∧ i.size = 2 ∧ i.bytes = 16 ∧ (Value.agg #[.int .i64 0, .int .i64 0]).cells.size = 2 := by
  refine ⟨Tryd.underlying23, ?_⟩
  have h : (Tryd.prog.info? 69).map (fun i => (i.zero, i.size, i.bytes)) = some (some (.agg #[.int .i64 0, .int .i64 0]), 2, 16) := by kernel_rfl
  cases hi : Tryd.prog.info? 69 with
  | none => rw [hi] at h; cases h
  | some i =>
    rw [hi] at h
    simp at h
    exact ⟨i, rfl, h.1, h.2.1, h.2.2, by rfl⟩
theorem two_cells {w : World} {v1 v2 : Value} {e : TypeId} : ∀ (j : Nat) (u : Value), ([v1, v2] : List Value)[j]? = some u → (w.alloc (.cells #[v1, v2] e)).cell? ((⟨w.heap.size, 0, none⟩ : Addr).add j) = some u := by
  intro j u hj
  rw [addr_plus, World.cell?_alloc_at _ _ _ _ rfl, Nat.zero_add]
  simpa using hj
section
variable {ops : Array Oper} {rest : List Oper} {o : Oper} {a : Act} {Q : Exit → Act → World → Prop}
/-- 'out = append(out, Edge{x, y})', out the call's own. -/
theorem wpList_pushE (wr : World) (s x : Operand) (B : Nat) (A : Option Addr) (n c : Nat) (E : List EdgeT) (e : EdgeT)
    (hown : wr.ownsRow B 69 2 (.slice A n c) n (eV E)) (hB : B ≤ wr.heap.size) (hn : (n + 1) * 16 ≤ 140737488355328)
    (hgd : o.guard = none) (ho : o.op = .call { callee := .builtin .append, args := #[s, x], argTypes := #[23, 23] })
    (hs : a.eval s = .slice A n c) (hx : a.eval x = .slice (some ⟨wr.heap.size, 0, none⟩) 1 1)
    (h : ∀ g c' w', w'.ownsRow B 69 2 (.slice (some ⟨g, 0, none⟩) (n + 1) c') (n + 1) (eV (E ++ [e])) → Below B wr w' → wpList Tryd.prog ops Q rest (a.put o.dst (.slice (some ⟨g, 0, none⟩) (n + 1) c')) w') :
    wpList Tryd.prog ops Q (o :: rest) a (wr.alloc (.cells #[.int .i64 e.1, .int .i64 e.2] 69)) := by
  obtain ⟨ht, i, hi, hz, h1, hb, hzs⟩ := elEdge
  have hB' : B ≤ (wr.alloc (.cells #[.int .i64 e.1, .int .i64 e.2] 69)).heap.size := by simp; omega
  have hbl : Below wr.heap.size wr (wr.alloc (.cells #[.int .i64 e.1, .int .i64 e.2] 69)) := below_new (Below.refl _ _) _
  have ho2 : (wr.alloc (.cells #[.int .i64 e.1, .int .i64 e.2] 69)).ownsRow B 69 2 (.slice A n c) n (eV E) := own_lt hown hbl (fun g hg => (hown.lt g hg).2)
  refine wpList_append_lies _ hgd s x 23 ho B 69 i _ 2 16 ht hi hz h1 hb hzs (by decide) (.slice A n c) n (eV E) hs ho2 ⟨wr.heap.size, 0, none⟩ 1 1 [.int .i64 e.1, .int .i64 e.2] hx rfl two_cells (by intro u hu; simp at hu; rcases hu with rfl | rfl <;> rfl) (by decide) (by unfold maxLen; omega) hn hB' _ rfl ?_
  intro g cap w' hown' hg _ _
  refine h g cap w' (by rw [eV_snoc]; exact hown') ?_
  exact ((Below.refl B wr).alloc hB _).grown hg hB' (fun k hk => (hown.lt k hk).1)
end
def GPost (err : Int) (N : List (List UInt8)) (E : List EdgeT) (p m : Nat) (w : World) (e : Ending) (w' : World) : Prop :=
  ∃ A1 c1 A2 c2, e = .returned (.tuple #[gv A1 N.length c1 A2 E.length c2 p m, .int .i64 err]) ∧ Rd w' A1 (N.map sv) ∧ Rd w' A2 (eV E) ∧ Below w.heap.size w w'
theorem gPost_no {err : Int} {w w' : World} {e : Ending} (he : e = .returned (.tuple #[.agg #[.slice none 0 0, .slice none 0 0, .int .u64 0, .int .u64 0], .int .i64 err])) (hb : Below w.heap.size w w') : GPost err [] [] 0 0 w e w' :=
  ⟨none, 0, none, 0, by rw [he]; rfl, Rd.nil_ _ _, Rd.nil_ _ _, hb⟩
theorem box_turn (w : World) (x1 x2 x3 x4 v1 v2 v3 v4 : Value) (t b : TypeId) : ∃ w2, w2 = (w.alloc (.cells #[x1, x2, x3, x4] t)).alloc (.cells #[v1, v2, v3, v4] b) ∧
    GrBox w.heap.size x1 x2 x3 x4 w2 ∧ Blk w2 (w.heap.size + 1) b [v1, v2, v3, v4] ∧ Below w.heap.size w w2 := by
  obtain ⟨h1, h2, h3, h4, h5⟩ := box_four w x1 x2 x3 x4 t
  refine ⟨_, rfl, ?_, ?_, ?_⟩
  · exact GrBox.below ⟨h1, h2, h3, h4⟩ (below_new (Below.refl _ _) _)
  · have := Blk.new (w.alloc (.cells #[x1, x2, x3, x4] t)) #[v1, v2, v3, v4] b
    simpa using this
  · exact below_new h5 _
/-- Four cells stored. -/
theorem Blk.put4 {w : World} {b : Nat} {t : TypeId} {x1 x2 x3 x4 : Value} (h : Blk w b t [x1, x2, x3, x4]) (v1 v2 v3 v4 : Value) :
    Blk ((((w.setCell ⟨b, 0, none⟩ v1).setCell ⟨b, 1, none⟩ v2).setCell ⟨b, 2, none⟩ v3).setCell ⟨b, 3, none⟩ v4) b t [v1, v2, v3, v4] := (((h.same 0 v1).same 1 v2).same 2 v3).same 3 v4
theorem below_put4 {B b : Nat} {w w' : World} (h : Below B w w') (hB : B ≤ b) (v1 v2 v3 v4 : Value) : Below B w ((((w'.setCell ⟨b, 0, none⟩ v1).setCell ⟨b, 1, none⟩ v2).setCell ⟨b, 2, none⟩ v3).setCell ⟨b, 3, none⟩ v4) :=
  (((h.setCell (p := ⟨b, 0, none⟩) hB v1).setCell (p := ⟨b, 1, none⟩) hB v2).setCell (p := ⟨b, 2, none⟩) hB v3).setCell (p := ⟨b, 3, none⟩) hB v4
theorem cell_put4 {w : World} {b b' j : Nat} {v : Value} (h : w.cell? ⟨b', j, none⟩ = some v) (hne : b' ≠ b) (v1 v2 v3 v4 : Value) : ((((w.setCell ⟨b, 0, none⟩ v1).setCell ⟨b, 1, none⟩ v2).setCell ⟨b, 2, none⟩ v3).setCell ⟨b, 3, none⟩ v4).cell? ⟨b', j, none⟩ = some v := by
  have e : ∀ (W : World) (o : Nat) (u : Value), (W.setCell ⟨b, o, none⟩ u).cell? ⟨b', j, none⟩ = W.cell? ⟨b', j, none⟩ := fun W o u => World.cell?_of_block (Below.heap_setCell _ _ _ _ hne)
  rw [e, e, e, e]
  exact h
theorem own_put4 {B b n s : Nat} {e : TypeId} {v : Value} {xs : List Value} {w : World} (h : w.ownsRow B e s v n xs) (hne : v.ownBlock ≠ some b) (v1 v2 v3 v4 : Value) : ((((w.setCell ⟨b, 0, none⟩ v1).setCell ⟨b, 1, none⟩ v2).setCell ⟨b, 2, none⟩ v3).setCell ⟨b, 3, none⟩ v4).ownsRow B e s v n xs :=
  ownsRow_setCell_other (ownsRow_setCell_other (ownsRow_setCell_other (ownsRow_setCell_other h (a := ⟨b, 0, none⟩) hne v1) (a := ⟨b, 1, none⟩) hne v2) (a := ⟨b, 2, none⟩) hne v3) (a := ⟨b, 3, none⟩) hne v4
theorem gb_below {w w1 w2 : World} {b : Nat} (h : w.grownBy w1 (some b)) (hb : Below w.heap.size w1 w2) : w.grownBy w2 (some b) :=
  ⟨hb.os.trans h.os, hb.tape.trans h.tape, hb.output.trans h.output, Nat.le_trans h.size hb.size, fun k hk hne => (hb.block k hk).trans (h.block k hk hne)⟩
theorem gb_set {w w1 : World} {b : Nat} (h : w.grownBy w1 (some b)) (j : Nat) (v : Value) : w.grownBy (w1.setCell ⟨b, j, none⟩ v) (some b) :=
  ⟨h.os, h.tape, h.output, by simpa [World.setCell] using h.size, fun k hk hne => by
    rw [Below.heap_setCell _ _ _ _ (fun e => hne (by rw [e]))]
    exact h.block k hk hne⟩
theorem Blk.gb {w w1 : World} {b c : Nat} {t : TypeId} {vs : List Value} (h : Blk w b t vs) (hg : w.grownBy w1 (some c)) (hne : b ≠ c) : Blk w1 b t vs := by
  unfold Blk
  rw [hg.block b h.lt (fun e => hne (by injection e))]
  exact h
theorem up_sub {L : List Nat} {m : Nat} (h : L.Pairwise (· < ·)) (hm : ∀ x ∈ L, x < m) : L.Sublist (List.range m) := by
  have e : L = (List.range m).filter fun x => decide (x ∈ L) := by
    refine List.Perm.eq_of_pairwise (fun x y _ _ h1 h2 => by omega) h (List.pairwise_lt_range.filter _) ?_
    refine (List.perm_ext_iff_of_nodup (h.imp fun h => Nat.ne_of_lt h) (List.nodup_range.filter _)).2 fun x => ?_
    rw [List.mem_filter, List.mem_range, decide_eq_true_eq]
    exact ⟨fun hx => ⟨hm x hx, hx⟩, fun hx => hx.2⟩
  rw [e]
  exact List.filter_sublist
theorem edges_le {n : Nat} {E : List EdgeT} (hn : n ≤ 64) (ho : E.any (edgeOut n) = false) (hr : risesB edgeLt E = true) : E.length ≤ 4096 := by
  have hin : ∀ e ∈ E, 0 ≤ e.1 ∧ e.1 < n ∧ 0 ≤ e.2 ∧ e.2 < n := fun e he => by
    have := List.any_eq_false.1 ho e he
    unfold edgeOut at this
    simp at this
    omega
  have h1 : (E.map fun e => (e.1.toNat * 64 + e.2.toNat)).Pairwise (· < ·) := by
    rw [List.pairwise_map]
    refine List.Pairwise.imp_of_mem ?_ (rises_ris hr)
    intro a b ha hb hab
    have h1 := hin a ha
    have h2 := hin b hb
    unfold edgeLt at hab
    rw [decide_eq_true_eq] at hab
    omega
  have h2 := List.Sublist.length_le (show (E.map fun e => (e.1.toNat * 64 + e.2.toNat)).Sublist (List.range 4096) from up_sub h1 (fun x hx => by
    obtain ⟨e, he, rfl⟩ := List.mem_map.1 hx
    have := hin e he
    omega))
  simpa using h2
section
variable {A1 A2 : Option Addr} {n k c1 c2 : Nat} {N : List (List UInt8)} {E : List EdgeT} {p m : Nat} (w : World) (hG : GrIn A1 n A2 k N E p m w)
include hG
set_option maxRecDepth 100000 in
set_option maxHeartbeats 2000000 in
theorem gTurn_bad (he : grErr N E p m ≠ 0) : Calls Tryd.prog 7 #[gv A1 n c1 A2 k c2 p m] w (GPost (grErr N E p m) [] [] 0 0 w) := by
  have C1 := Lib.hid (fun W (hW : Below w.heap.size w W) => gCheck_any (c1 := c1) (c2 := c2) W (hG.below hW))
  generalize grErr N E p m = e0 at *
  unfold gv at *
  obtain ⟨w2, hw2, x0, r0, z0⟩ := box_turn w (.slice A1 n c1) (.slice A2 k c2) (.int .u64 (p : Int)) (.int .u64 (m : Int)) (.slice none 0 0) (.slice none 0 0) (.int .u64 0) (.int .u64 0) 26 26
  have X2 := Lib.hid x0
  have R2 := Lib.hid r0
  have B2 := Lib.hid z0
  have HW2 := Lib.hid hw2
  clear hG x0 r0 z0 hw2
  go_enter Tryd.func7, Tryd.ntmps7
  go_upto_region 1 with fail
  rw [← HW2.out]
  generalize hBr : w.heap.size + 1 = Br at *
  have HBr := Lib.hid hBr
  clear hBr HW2
  obtain ⟨x1, x2, x3, x4⟩ := X2.out
  go_wp2_with fail
  refine (C1.out _ B2.out).mono ?_
  rintro e w3 ⟨rfl, hb3⟩
  have B3 := Lib.hid (below_then B2.out hb3)
  have R3 := Lib.hid (R2.out.below hb3 R2.out.lt)
  clear hb3 x1 x2 x3 x4 X2 C1 R2
  have r1 := R3.out.cell (j := 0) rfl
  have r2 := R3.out.cell (j := 1) rfl
  have r3 := R3.out.cell (j := 2) rfl
  have r4 := R3.out.cell (j := 3) rfl
  have rf := R3.out.free
  go_wp2_with fail
  have RZ := Lib.hid (R3.out.put4 (.slice none 0 0) (.slice none 0 0) (.int .u64 0) (.int .u64 0))
  have BZ := Lib.hid (below_put4 B3.out (by have := HBr.out; omega : w.heap.size ≤ Br) (.slice none 0 0) (.slice none 0 0) (.int .u64 0) (.int .u64 0))
  generalize ((((w3.setCell ⟨Br, 0, none⟩ (.slice none 0 0)).setCell ⟨Br, 1, none⟩ (.slice none 0 0)).setCell ⟨Br, 2, none⟩ (.int .u64 0)).setCell ⟨Br, 3, none⟩ (.int .u64 0)) = wz at *
  have q1 := RZ.out.cell (j := 0) rfl
  have q2 := RZ.out.cell (j := 1) rfl
  have q3 := RZ.out.cell (j := 2) rfl
  have q4 := RZ.out.cell (j := 3) rfl
  refine bodyPost_ret (v := .tuple #[.agg #[.slice none 0 0, .slice none 0 0, .int .u64 0, .int .u64 0], .int .i64 e0]) (by simp [results, Tryd.results7, go_sem, q1, q2, q3, q4]) rfl ?_
  exact gPost_no rfl BZ.out
set_option maxRecDepth 100000 in
set_option maxHeartbeats 2000000 in
theorem gTurn_good (he : grErr N E p m = 0) : Calls Tryd.prog 7 #[gv A1 n c1 A2 k c2 p m] w (GPost 0 N (esort (E.map swapE)) p m w) := by
  have C1 := Lib.hid (fun W (hW : Below w.heap.size w W) => gCheck_any (c1 := c1) (c2 := c2) W (hG.below hW))
  have HG := Lib.hid hG
  rw [he] at C1
  obtain ⟨hn64, _, _, hout, _, _⟩ := gr_ok he
  rw [hG.nlen] at hn64
  have C2 := Lib.hid (fun W (hW : Below w.heap.size w W) => sClone_any (c := c1) N W (hG.names.below hW) hG.nlen (by omega))
  have hkb : k ≤ 4096 := by have := edges_le hn64 (by rw [hG.nlen] at hout; exact hout) (gr_ok he).2.2.2.2.1; rw [hG.elen] at this; exact this
  unfold gv at C1 ⊢
  obtain ⟨w2, hw2, x0, r0, z0⟩ := box_turn w (.slice A1 n c1) (.slice A2 k c2) (.int .u64 (p : Int)) (.int .u64 (m : Int)) (.slice none 0 0) (.slice none 0 0) (.int .u64 0) (.int .u64 0) 26 26
  have X2 := Lib.hid x0
  have R2 := Lib.hid r0
  have B2 := Lib.hid z0
  have HW2 := Lib.hid hw2
  clear hG he hout x0 r0 z0 hw2
  go_enter Tryd.func7, Tryd.ntmps7
  go_upto_region 1 with fail
  rw [← HW2.out]
  generalize hBr : w.heap.size + 1 = Br at *
  have HBr := Lib.hid hBr
  clear hBr HW2
  obtain ⟨x1, x2, x3, x4⟩ := X2.out
  go_wp2_with fail
  refine (C1.out _ B2.out).mono ?_
  rintro e w3 ⟨rfl, hb3⟩
  have B3 := Lib.hid (below_then B2.out hb3)
  have X3 := Lib.hid (X2.out.below hb3)
  have R3 := Lib.hid (R2.out.below hb3 R2.out.lt)
  clear hb3 x1 x2 x3 x4 X2 C1 R2
  obtain ⟨x1, x2, x3, x4⟩ := X3.out
  go_upto_region 4 with fail
  have BD := Lib.hid (Below.drew B3.out)
  have BA := Lib.hid (Below.drew (below_new B3.out (.cells #[.slice none 0 0, .slice none 0 0, .int .u64 0, .int .u64 0] 26)))
  have HZ := Lib.hid (show Blk (w3.alloc (.cells #[.slice none 0 0, .slice none 0 0, .int .u64 0, .int .u64 0] 26)).drew w3.heap.size 26 [.slice none 0 0, .slice none 0 0, .int .u64 0, .int .u64 0] from Blk.new w3 #[.slice none 0 0, .slice none 0 0, .int .u64 0, .int .u64 0] 26)
  have nez : w.heap.size ≠ w3.heap.size := by have h1 := lt_of_cell' x1; omega
  have y1 := cell_alloc x1 (.cells #[.slice none 0 0, .slice none 0 0, .int .u64 0, .int .u64 0] 26)
  have y3 := cell_alloc x3 (.cells #[.slice none 0 0, .slice none 0 0, .int .u64 0, .int .u64 0] 26)
  have y4 := cell_alloc x4 (.cells #[.slice none 0 0, .slice none 0 0, .int .u64 0, .int .u64 0] 26)
  go_cut [5] from 14 (fun s5 wx => ∃ Bm AC cC, s5 = .pointer (some ⟨Bm, 0, none⟩) ∧ Hid (Blk wx Bm 26 [.slice AC n cC, .slice none 0 0, .int .u64 (p : Int), .int .u64 (m : Int)]) ∧ Hid (wx.ownsRow w3.heap.size 9 1 (.slice AC n cC) n (N.map sv)) ∧ Hid (w3.heap.size ≤ Bm ∧ ∀ g, (Value.slice AC n cC).ownBlock = some g → g ≠ Bm) ∧ Hid (Below w3.heap.size w3 wx))
  case first =>
    go_region_held3 (fun w' => w'.cell? ⟨w.heap.size, 0, none⟩ = some (.slice A1 n c1) ∧ w'.cell? ⟨w.heap.size, 2, none⟩ = some (.int .u64 (p : Int)) ∧ w'.cell? ⟨w.heap.size, 3, none⟩ = some (.int .u64 (m : Int)))
      ((refine ⟨?_, ?_, ?_⟩ <;> first | (with_reducible assumption) | (with_reducible exact cell_alloc (by assumption) _) | (with_reducible exact cell_put4 (by assumption) (by assumption) _ _ _ _) | assumption))
      ((first
        | (go_at_call 32; refine (C2.out _ BD.out).mono ?_; rintro e w4 ⟨AC, cC, rfl, hownC, hb4⟩; have z1 := cell_keep (w := w3.drew) x1 hb4; have z2 := cell_keep (w := w3.drew) x3 hb4; have z3 := cell_keep (w := w3.drew) x4 hb4; have nez4 : w.heap.size ≠ w4.heap.size := by (have h1 := lt_of_cell' z1; omega))
        | (go_at_call 32; refine (C2.out _ BA.out).mono ?_; rintro e w4 ⟨AC, cC, rfl, hownC, hb4⟩; have z1 := cell_keep (w := (w3.alloc (.cells #[.slice none 0 0, .slice none 0 0, .int .u64 0, .int .u64 0] 26)).drew) y1 hb4; have z2 := cell_keep (w := (w3.alloc (.cells #[.slice none 0 0, .slice none 0 0, .int .u64 0, .int .u64 0] 26)).drew) y3 hb4; have z3 := cell_keep (w := (w3.alloc (.cells #[.slice none 0 0, .slice none 0 0, .int .u64 0, .int .u64 0] 26)).drew) y4 hb4; have hm := HZ.out.below hb4 HZ.out.lt; have mm1 := hm.cell (j := 0) rfl; have mm2 := hm.cell (j := 1) rfl; have mm3 := hm.cell (j := 2) rfl; have mm4 := hm.cell (j := 3) rfl; have mmf := hm.free)))
    · have hA := own_below (w := w4) (show w4.ownsRow w3.heap.size 9 1 (.slice AC n cC) n (N.map sv) from hownC) (below_new (Below.refl _ _) (.cells #[.slice AC n cC, .slice none 0 0, .int .u64 (p : Int), .int .u64 (m : Int)] 26))
      have hB : Below w3.heap.size w3 (w4.alloc (.cells #[.slice AC n cC, .slice none 0 0, .int .u64 (p : Int), .int .u64 (m : Int)] 26)) := below_new (⟨hb4.os, hb4.tape, hb4.output, hb4.size, hb4.block⟩ : Below w3.heap.size w3 w4) _
      have hS : w3.heap.size ≤ w4.heap.size := hb4.size
      go_wp2_with fail
      go_meet
      exact ⟨w4.heap.size, AC, cC, rfl, Lib.hid (Blk.new w4 _ _), Lib.hid hA, Lib.hid ⟨hS, fun g hg => by have := hownC.lt g hg; omega⟩, Lib.hid hB⟩
    · have hb5 : Below w3.heap.size w3 w4 := (below_new (Below.refl w3.heap.size w3) (.cells #[.slice none 0 0, .slice none 0 0, .int .u64 0, .int .u64 0] 26)).trans (Below.mono (⟨hb4.os, hb4.tape, hb4.output, hb4.size, hb4.block⟩ : Below (w3.alloc (.cells #[.slice none 0 0, .slice none 0 0, .int .u64 0, .int .u64 0] 26)).heap.size (w3.alloc (.cells #[.slice none 0 0, .slice none 0 0, .int .u64 0, .int .u64 0] 26)) w4) (by simp))
      have hlt : ∀ g, (Value.slice AC n cC).ownBlock = some g → w3.heap.size < g := fun g hg => by have := (hownC.lt g hg).1; simp at this; omega
      have hA : w4.ownsRow w3.heap.size 9 1 (.slice AC n cC) n (N.map sv) := own_base hownC (by simp)
      have hP := own_put4 (b := w3.heap.size) hA (fun he => by have := hlt _ he; omega) (.slice AC n cC) (.slice none 0 0) (.int .u64 (p : Int)) (.int .u64 (m : Int))
      have hM := hm.put4 (.slice AC n cC) (.slice none 0 0) (.int .u64 (p : Int)) (.int .u64 (m : Int))
      have hB := below_put4 hb5 (Nat.le_refl _) (.slice AC n cC) (.slice none 0 0) (.int .u64 (p : Int)) (.int .u64 (m : Int))
      go_wp2_with fail
      go_meet
      exact ⟨w3.heap.size, AC, cC, rfl, Lib.hid hM, Lib.hid hP, Lib.hid ⟨Nat.le_refl _, fun g hg => by have := hlt g hg; omega⟩, Lib.hid hB⟩
  case rest =>
    obtain ⟨Bm, AC, cC, rfl, HM, HC, HNE, HB4⟩ := hcut
    clear x1 x3 x4 y1 y3 y4 nez BD BA HZ C2
    have B4 := Lib.hid (below_then B3.out HB4.out)
    have X4 := Lib.hid (X3.out.below HB4.out)
    have R4 := Lib.hid (R3.out.below HB4.out R3.out.lt)
    have HLE : Hid (w.heap.size ≤ w3.heap.size ∧ Br < w3.heap.size ∧ w.heap.size < w3.heap.size) := Lib.hid ⟨B3.out.size, R3.out.lt, lt_of_cell' X3.out.c1⟩
    have neb : w.heap.size ≠ Bm := by have := HLE.out; have := HNE.out.1; omega
    have neR : Br ≠ Bm := by have := HLE.out; have := HNE.out.1; omega
    have HKE := Lib.hid HG.out.elen
    obtain ⟨x1, x2, x3, x4⟩ := X4.out
    clear X3 R3
    go_wp2_with fail
    go_loopw [7, 25] (fun _ i wr => ∃ q : Nat, q ≤ k ∧ i = .int .i64 (q : Int) ∧ ∃ AE cE, Hid (Blk wr Bm 26 [.slice AC n cC, .slice AE q cE, .int .u64 (p : Int), .int .u64 (m : Int)]) ∧ Hid (wr.ownsRow wc.heap.size 69 2 (.slice AE q cE) q (eV ((E.take q).map swapE))) ∧ Hid (wc.grownBy wr (some Bm))) (fun _ i _ => k - (intOf i).toNat)
    case atStart => exact ⟨0, by omega, rfl, none, 0, HM, Lib.hid (World.ownsRow_nil _ _ _ _), Lib.hid ⟨rfl, rfl, rfl, Nat.le_refl _, fun _ _ _ => rfl⟩⟩
    case round =>
      clear x1 x2 x3 x4
      obtain ⟨q, hq, rfl, AE, cE, hm, hown, hgr⟩ := hrel
      have BW := Lib.hid (B4.out.grown hgr.out B4.out.size (fun k hk => by injection hk with hk; have := HLE.out; have := HNE.out.1; omega))
      have m1 := hm.out.cell (j := 0) rfl
      have m2 := hm.out.cell (j := 1) rfl
      have m3 := hm.out.cell (j := 2) rfl
      have m4 := hm.out.cell (j := 3) rfl
      have mf := hm.out.free
      by_cases hlt : q < k
      · obtain ⟨⟨e1, e2⟩, he⟩ : ∃ e, E[q]? = some e := ⟨_, List.getElem?_eq_getElem (by rw [HKE.out]; exact hlt)⟩
        obtain ⟨b, off, rfl, y1, y2⟩ := (HG.out.edges.below BW.out).edge he
        simp only at y1 y2
        have hq2 : (q : Int) < (k : Int) := by omega
        have HTK : Hid ((E.take (q + 1)).map swapE = (E.take q).map swapE ++ [swapE (e1, e2)]) := Lib.hid (by
          obtain ⟨hl, hx⟩ := List.getElem?_eq_some_iff.1 he
          rw [List.take_succ_eq_append_getElem hl, hx, List.map_append]; rfl)
        have HSZ : Hid (wc.heap.size ≤ (wr.alloc (.cells #[.int .i64 e1, .int .i64 e2] 69)).heap.size) := Lib.hid (by have := hgr.out.size; simp; omega)
        have HO2 := Lib.hid (own_lt hown.out (below_new (Below.refl _ _) (.cells #[.int .i64 e1, .int .i64 e2] 69)) (fun g hg => (hown.out.lt g hg).2))
        have HBA : Hid (Below wc.heap.size wr (wr.alloc (.cells #[.int .i64 e1, .int .i64 e2] 69))) := Lib.hid ((Below.refl _ _).alloc hgr.out.size _)
        have HT9 : Hid (∀ w9, Below wc.heap.size (wr.alloc (.cells #[.int .i64 e1, .int .i64 e2] 69)) w9 → w9.cell? ⟨Bm, 1, none⟩ = some (.slice AE q cE) ∧ w9.frozen? ⟨Bm, 1, none⟩ = false) := Lib.hid (fun w9 hb9 => by
          have hh := (hm.out.below HBA.out HM.out.lt).below hb9 HM.out.lt
          exact ⟨hh.cell (j := 1) rfl, hh.free 1⟩)
        have a2 := cell_alloc m2 (.cells #[.int .i64 e1, .int .i64 e2] 69)
        clear he
        go_wp2_with (at_builtin; refine wpList_pushE (wr.alloc (.cells #[.int .i64 e1, .int .i64 e2] 69)) _ _ wc.heap.size AE q cE ((E.take q).map swapE) (swapE (e1, e2)) HO2.out HSZ.out (by omega) rfl rfl rfl (by simp [Act.eval]) ?_; intro g9 c9 w9 hown9 hb9; obtain ⟨t1, tf⟩ := HT9.out w9 hb9)
        have HBM : Hid (Blk (w9.setCell ⟨Bm, 1, none⟩ (.slice (some ⟨g9, 0, none⟩) (q + 1) c9)) Bm 26 [.slice AC n cC, .slice (some ⟨g9, 0, none⟩) (q + 1) c9, .int .u64 (p : Int), .int .u64 (m : Int)]) := Lib.hid (((hm.out.below HBA.out HM.out.lt).below hb9 HM.out.lt).same 1 _)
        have HOW : Hid ((w9.setCell ⟨Bm, 1, none⟩ (.slice (some ⟨g9, 0, none⟩) (q + 1) c9)).ownsRow wc.heap.size 69 2 (.slice (some ⟨g9, 0, none⟩) (q + 1) c9) (q + 1) (eV ((E.take (q + 1)).map swapE))) := Lib.hid (by
          rw [HTK.out]
          exact ownsRow_setCell_below hown9 (a := ⟨Bm, 1, none⟩) HM.out.lt _)
        have HGR : Hid (wc.grownBy (w9.setCell ⟨Bm, 1, none⟩ (.slice (some ⟨g9, 0, none⟩) (q + 1) c9)) (some Bm)) := Lib.hid (gb_set (gb_below (gb_below hgr.out HBA.out) hb9) 1 _)
        clear hown9 hb9
        go_roundw
        case rel => exact ⟨q + 1, by omega, by go_num, some ⟨g9, 0, none⟩, c9, HBM, HOW, HGR⟩
        case measure => simp [intOf]; omega
      · obtain rfl : q = k := by omega
        have hqn : ¬ (q : Int) < (q : Int) := by omega
        have HTK : Hid (E.take q = E) := Lib.hid (List.take_of_length_le (by rw [HKE.out]; exact Nat.le_refl _))
        have HO : Hid (wr.ownsRow wc.heap.size 69 2 (.slice AE q cE) q (eV (E.map swapE))) := Lib.hid (by have := hown.out; rwa [HTK.out] at this)
        have HS := Lib.hid (sortE_any (E.map swapE) wr HO.out (by rw [List.length_map]; exact HKE.out) (by omega) hgr.out.size)
        clear hown
        go_wp2_with fail
        refine HS.out.mono ?_
        rintro e w9 ⟨rfl, hown9, hgr9⟩
        have hltB : ∀ g, (Value.slice AE q cE).ownBlock = some g → wc.heap.size ≤ g := fun g hg => (HO.out.lt g hg).1
        have hbS : Below wc.heap.size wr w9 := (Below.refl wc.heap.size wr).grown hgr9 hgr.out.size hltB
        have HM9 := Lib.hid (hm.out.below hbS HM.out.lt)
        have HG9 := Lib.hid (gb_below hgr.out hbS)
        have R9 : Hid (Blk w9 Br 26 [.slice none 0 0, .slice none 0 0, .int .u64 0, .int .u64 0]) := Lib.hid (R4.out.gb HG9.out neR)
        have HC9 : Hid (w9.ownsRow w3.heap.size 9 1 (.slice AC n cC) n (N.map sv)) := Lib.hid (HC.out.kept HG9.out (by
          cases hv : (Value.slice AC n cC).ownBlock with
          | none => exact .inl rfl
          | some g => exact .inr (by intro he; injection he with he; exact HNE.out.2 g hv he)))
        have HO9 := Lib.hid hown9
        have BW9 := Lib.hid (B4.out.grown HG9.out B4.out.size (fun k hk => by injection hk with hk; have := HLE.out; have := HNE.out.1; omega))
        clear hown9 hgr9 hltB hbS m1 m2 m3 m4 mf
        have m1 := HM9.out.cell (j := 0) rfl
        have m2 := HM9.out.cell (j := 1) rfl
        have m3 := HM9.out.cell (j := 2) rfl
        have m4 := HM9.out.cell (j := 3) rfl
        have r1 := R9.out.cell (j := 0) rfl
        have r2 := R9.out.cell (j := 1) rfl
        have r3 := R9.out.cell (j := 2) rfl
        have r4 := R9.out.cell (j := 3) rfl
        have rf := R9.out.free
        go_wp2_with fail
        have RZ := Lib.hid (R9.out.put4 (.slice AC n cC) (.slice AE q cE) (.int .u64 (p : Int)) (.int .u64 (m : Int)))
        have BZ := Lib.hid (below_put4 BW9.out (by have := HBr.out; omega : w.heap.size ≤ Br) (.slice AC n cC) (.slice AE q cE) (.int .u64 (p : Int)) (.int .u64 (m : Int)))
        have NZ := Lib.hid (Rd.of_own (own_put4 (b := Br) HC9.out (fun he => by have h1 := (HC9.out.lt Br he).1; have h2 := HLE.out.2.1; omega) (.slice AC n cC) (.slice AE q cE) (.int .u64 (p : Int)) (.int .u64 (m : Int))))
        have EZ := Lib.hid (rd_of_ownK (own_put4 (b := Br) HO9.out (fun he => by have h1 := (HO9.out.lt Br he).1; have h2 := R4.out.lt; omega) (.slice AC n cC) (.slice AE q cE) (.int .u64 (p : Int)) (.int .u64 (m : Int))))
        generalize ((((w9.setCell ⟨Br, 0, none⟩ (.slice AC n cC)).setCell ⟨Br, 1, none⟩ (.slice AE q cE)).setCell ⟨Br, 2, none⟩ (.int .u64 (p : Int))).setCell ⟨Br, 3, none⟩ (.int .u64 (m : Int))) = wz at *
        have q1 := RZ.out.cell (j := 0) rfl
        have q2 := RZ.out.cell (j := 1) rfl
        have q3 := RZ.out.cell (j := 2) rfl
        have q4 := RZ.out.cell (j := 3) rfl
        refine bodyPost_ret (v := .tuple #[.agg #[.slice AC n cC, .slice AE q cE, .int .u64 (p : Int), .int .u64 (m : Int)], .int .i64 0]) (by simp [results, Tryd.results7, go_sem, q1, q2, q3, q4]) rfl ?_
        refine ⟨AC, cC, AE, cE, ?_, NZ.out, EZ.out, BZ.out⟩
        rw [HG.out.nlen, (esort_perm _).length_eq, List.length_map, HKE.out]
        rfl
end
end Go.Proofs.YtiechbaknolimaaDoor
