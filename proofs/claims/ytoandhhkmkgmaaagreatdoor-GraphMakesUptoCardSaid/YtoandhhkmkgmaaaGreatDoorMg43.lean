/- Words for contracts of graphs: a graph's edges that grow, what a call tells of a graph, boxes of four cells. -/
import Derived.Test.YtoandhhkmkgmaaaGreatDoorMg41
import Derived.Test.YtoandhhkmkgmaaaGreatDoorMg9
import Derived.Deep.AppendLies
import Derived.Deep.RegionHeld3
namespace Go.Proofs.YtoandhhkmkgmaaaGreatDoor
open Go.RowKit

theorem elEdge : Tryz.prog.underlying 40 = some (.slice 102) ∧ ∃ i, Tryz.prog.info? 102 = some i ∧ i.zero = some (.agg #[.int .i64 0, .int .i64 0]) ∧ i.size = 2 ∧ i.bytes = 16 ∧ (Value.agg #[.int .i64 0, .int .i64 0]).cells.size = 2 := by
 refine ⟨Tryz.underlying40, ?_⟩
 have h : (Tryz.prog.info? 102).map (fun i => (i.zero, i.size, i.bytes)) = some (some (.agg #[.int .i64 0, .int .i64 0]), 2, 16) := by kernel_rfl
 cases hi : Tryz.prog.info? 102 with
 | none => rw [hi] at h; cases h
 | some i =>
   rw [hi] at h
   simp at h
   exact ⟨i, rfl, h.1, h.2.1, h.2.2, by rfl⟩
theorem two_cells {w : World} {v1 v2 : Value} {e : TypeId} : ∀ (j : Nat) (u : Value), ([v1, v2] : List Value)[j]? = some u → (w.alloc (.cells #[v1, v2] e)).cell? ((⟨w.heap.size, 0, none⟩ : Addr).add j) = some u := by
 intro j u hj
 rw [addr_plus, World.cell?_alloc_at _ _ _ _ rfl, Nat.zero_add]
 simpa using hj
section
variable {ops : Array Oper} {rest : List Oper} {o : Oper} {a : Act} {Q : Exit → Act → World → Prop}
/-- 'out = append(out, Edge{x, y})', out the call's own. -/
theorem wpList_pushE (wr : World) (s x : Operand) (B : Nat) (A : Option Addr) (n c : Nat) (E : List EdgeT) (e : EdgeT)
 (hown : wr.ownsRow B 102 2 (.slice A n c) n (eV E)) (hB : B ≤ wr.heap.size) (hn : (n + 1) * 16 ≤ 140737488355328)
 (hgd : o.guard = none) (ho : o.op = .call { callee := .builtin .append, args := #[s, x], argTypes := #[40, 40] })
 (hs : a.eval s = .slice A n c) (hx : a.eval x = .slice (some ⟨wr.heap.size, 0, none⟩) 1 1)
 (h : ∀ g c' w', w'.ownsRow B 102 2 (.slice (some ⟨g, 0, none⟩) (n + 1) c') (n + 1) (eV (E ++ [e])) → Below B wr w' → wpList Tryz.prog ops Q rest (a.put o.dst (.slice (some ⟨g, 0, none⟩) (n + 1) c')) w') :
 wpList Tryz.prog ops Q (o :: rest) a (wr.alloc (.cells #[.int .i64 e.1, .int .i64 e.2] 102)) := by
 obtain ⟨ht, i, hi, hz, h1, hb, hzs⟩ := elEdge
 have hB' : B ≤ (wr.alloc (.cells #[.int .i64 e.1, .int .i64 e.2] 102)).heap.size := by simp; omega
 have hbl : Below wr.heap.size wr (wr.alloc (.cells #[.int .i64 e.1, .int .i64 e.2] 102)) := below_new (Below.refl _ _) _
 have ho2 : (wr.alloc (.cells #[.int .i64 e.1, .int .i64 e.2] 102)).ownsRow B 102 2 (.slice A n c) n (eV E) := own_lt hown hbl (fun g hg => (hown.lt g hg).2)
 refine wpList_append_lies _ hgd s x 40 ho B 102 i _ 2 16 ht hi hz h1 hb hzs (by decide) (.slice A n c) n (eV E) hs ho2 ⟨wr.heap.size, 0, none⟩ 1 1 [.int .i64 e.1, .int .i64 e.2] hx rfl two_cells (by intro u hu; simp at hu; rcases hu with rfl | rfl <;> rfl) (by decide) (by unfold maxLen; omega) hn hB' _ rfl ?_
 intro g cap w' hown' hg _ _
 refine h g cap w' (by rw [eV_snoc]; exact hown') ?_
 exact ((Below.refl B wr).alloc hB _).grown hg hB' (fun k hk => (hown.lt k hk).1)
end
def GPost (err : Int) (N : List (List UInt8)) (E : List EdgeT) (p m : Nat) (w : World) (e : Ending) (w' : World) : Prop :=
 ∃ A1 c1 A2 c2, e = .returned (.tuple #[gv A1 N.length c1 A2 E.length c2 p m, .int .i64 err]) ∧ Rd w' A1 (N.map sv) ∧ Rd w' A2 (eV E) ∧ Below w.heap.size w w'
theorem gPost_no {err : Int} {w w' : World} {e : Ending} (he : e = .returned (.tuple #[.agg #[.slice none 0 0, .slice none 0 0, .int .u64 0, .int .u64 0], .int .i64 err])) (hb : Below w.heap.size w w') : GPost err [] [] 0 0 w e w' :=
 ⟨none, 0, none, 0, by rw [he]; rfl, Rd.nil_ _ _, Rd.nil_ _ _, hb⟩
theorem box_turn (w : World) (x1 x2 x3 x4 v1 v2 v3 v4 : Value) (t b : TypeId) : ∃ w2, w2 = (w.alloc (.cells #[x1, x2, x3, x4] t)).alloc (.cells #[v1, v2, v3, v4] b) ∧
 GrBox w.heap.size x1 x2 x3 x4 w2 ∧ Blk w2 (w.heap.size + 1) b [v1, v2, v3, v4] ∧ Below w.heap.size w w2 := by
 obtain ⟨h1, h2, h3, h4, h5⟩ := box_four w x1 x2 x3 x4 t
 refine ⟨_, rfl, ?_, ?_, ?_⟩
 ·exact GrBox.below ⟨h1, h2, h3, h4⟩ (below_new (Below.refl _ _) _)
 ·have := Blk.new (w.alloc (.cells #[x1, x2, x3, x4] t)) #[v1, v2, v3, v4] b
  simpa using this
 ·exact below_new h5 _
/-- Four cells stored. -/
theorem Blk.put4 {w : World} {b : Nat} {t : TypeId} {x1 x2 x3 x4 : Value} (h : Blk w b t [x1, x2, x3, x4]) (v1 v2 v3 v4 : Value) :
 Blk ((((w.setCell ⟨b, 0, none⟩ v1).setCell ⟨b, 1, none⟩ v2).setCell ⟨b, 2, none⟩ v3).setCell ⟨b, 3, none⟩ v4) b t [v1, v2, v3, v4] := (((h.same 0 v1).same 1 v2).same 2 v3).same 3 v4
theorem below_put4 {B b : Nat} {w w' : World} (h : Below B w w') (hB : B ≤ b) (v1 v2 v3 v4 : Value) : Below B w ((((w'.setCell ⟨b, 0, none⟩ v1).setCell ⟨b, 1, none⟩ v2).setCell ⟨b, 2, none⟩ v3).setCell ⟨b, 3, none⟩ v4) :=
 (((h.setCell (p := ⟨b, 0, none⟩) hB v1).setCell (p := ⟨b, 1, none⟩) hB v2).setCell (p := ⟨b, 2, none⟩) hB v3).setCell (p := ⟨b, 3, none⟩) hB v4
theorem cell_put4 {w : World} {b b' j : Nat} {v : Value} (h : w.cell? ⟨b', j, none⟩ = some v) (hne : b' ≠ b) (v1 v2 v3 v4 : Value) : ((((w.setCell ⟨b, 0, none⟩ v1).setCell ⟨b, 1, none⟩ v2).setCell ⟨b, 2, none⟩ v3).setCell ⟨b, 3, none⟩ v4).cell? ⟨b', j, none⟩ = some v := by
 have e : ∀ (W : World) (o : Nat) (u : Value), (W.setCell ⟨b, o, none⟩ u).cell? ⟨b', j, none⟩ = W.cell? ⟨b', j, none⟩ := fun W o u => World.cell?_of_block (Below.heap_setCell _ _ _ _ hne)
 rw [e, e, e, e]
 exact h
theorem own_put4 {B b n s : Nat} {e : TypeId} {v : Value} {xs : List Value} {w : World} (h : w.ownsRow B e s v n xs) (hne : v.ownBlock ≠ some b) (v1 v2 v3 v4 : Value) : ((((w.setCell ⟨b, 0, none⟩ v1).setCell ⟨b, 1, none⟩ v2).setCell ⟨b, 2, none⟩ v3).setCell ⟨b, 3, none⟩ v4).ownsRow B e s v n xs :=
 ownsRow_setCell_other (ownsRow_setCell_other (ownsRow_setCell_other (ownsRow_setCell_other h (a := ⟨b, 0, none⟩) hne v1) (a := ⟨b, 1, none⟩) hne v2) (a := ⟨b, 2, none⟩) hne v3) (a := ⟨b, 3, none⟩) hne v4
theorem gb_below {w w1 w2 : World} {b : Nat} (h : w.grownBy w1 (some b)) (hb : Below w.heap.size w1 w2) : w.grownBy w2 (some b) :=
 ⟨hb.os.trans h.os, hb.tape.trans h.tape, hb.output.trans h.output, Nat.le_trans h.size hb.size, fun k hk hne => (hb.block k hk).trans (h.block k hk hne)⟩
theorem gb_set {w w1 : World} {b : Nat} (h : w.grownBy w1 (some b)) (j : Nat) (v : Value) : w.grownBy (w1.setCell ⟨b, j, none⟩ v) (some b) :=
 ⟨h.os, h.tape, h.output, by simpa [World.setCell] using h.size, fun k hk hne => by
  rw [Below.heap_setCell _ _ _ _ (fun e => hne (by rw [e]))]
  exact h.block k hk hne⟩
theorem Blk.gb {w w1 : World} {b c : Nat} {t : TypeId} {vs : List Value} (h : Blk w b t vs) (hg : w.grownBy w1 (some c)) (hne : b ≠ c) : Blk w1 b t vs := by
 unfold Blk
 rw [hg.block b h.lt (fun e => hne (by injection e))]
 exact h
end Go.Proofs.YtoandhhkmkgmaaaGreatDoor
/- Contracts: the reference's SameTexts and SameGraph at two that are one; graph.Number; graph.squeeze. -/
namespace Go.Proofs.YtoandhhkmkgmaaaGreatDoor
open Go.RowKit

set_option maxHeartbeats 1000000 in
theorem sameTexts_any {A B : Option Addr} {n c d : Nat} (l : List (List UInt8)) (w : World) (hr : Rd w A (l.map sv)) (hr2 : Rd w B (l.map sv)) (hn : l.length = n) (hb : n ≤ 9223372036854775807) :
 Calls Tryz.prog 45 #[.slice A n c, .slice B n d] w fun e w' => e = .returned (.bool true) ∧ Below w.heap.size w w' := by
 have HR := Lib.hid hr
 have HR2 := Lib.hid hr2
 have HN := Lib.hid hn
 clear hr hr2 hn
 go_enter Tryz.func45, Tryz.ntmps45
 go_wp2_with fail
 go_loopw [5, 13] (fun _ i wr => ∃ q : Nat, q ≤ n ∧ i = .int .i64 (q : Int) ∧ Hid (Below w.heap.size w wr)) (fun _ i _ => n - (intOf i).toNat)
 case atStart => exact ⟨0, by omega, rfl, Lib.hid (Below.refl _ _)⟩
 case round =>
  obtain ⟨q, hq, rfl, hbw⟩ := hrel
  by_cases hlt : q < n
  ·obtain ⟨s, he⟩ : ∃ x, l[q]? = some x := ⟨_, List.getElem?_eq_getElem (by rw [HN.out]; exact hlt)⟩
   obtain ⟨b, off, rfl, y1⟩ := (HR.out.below hbw.out).scell he
   obtain ⟨b2, off2, rfl, z1⟩ := (HR2.out.below hbw.out).scell he
   have HB := Lib.hid (fun q => below_drewN hbw.out q)
   have f1 : (0 : Int) ≤ (q : Int) := by omega
   have f2 : (q : Int) < (n : Int) := by omega
   clear he hbw
   generalize (⟨s.toArray⟩ : ByteArray) = bs at *
   have hbb : (bs.toList == bs.toList) = true := by simp
   go_wp2_with fail
   go_quiet (fail)
   go_wp2_with fail
   go_roundw
   case rel => exact ⟨q + 1, by omega, by go_num, Lib.hid (HB.out _)⟩
   case measure => simp [intOf]; omega
  ·have hqn : ¬ (q : Int) < (n : Int) := by omega
   go_wp2_with fail
   go_ret
   exact ⟨rfl, hbw.out⟩
theorem sameGraph_any {A1 A2 B1 B2 : Option Addr} {c1 c2 d1 d2 : Nat} (N : List (List UInt8)) (E : List EdgeT) (p m : Nat) (w : World) (h1 : Rd w A1 (N.map sv)) (h2 : Rd w A2 (eV E)) (h3 : Rd w B1 (N.map sv)) (h4 : Rd w B2 (eV E)) (hn : N.length ≤ 9223372036854775807) (hk : E.length ≤ 9223372036854775807) :
 Calls Tryz.prog 24 #[gv A1 N.length c1 A2 E.length c2 p m, gv B1 N.length d1 B2 E.length d2 p m] w fun e w' => e = .returned (.bool true) ∧ Below w.heap.size w w' := by
 have C1 := Lib.hid (fun W (hW : Below w.heap.size w W) => sameTexts_any (c := c1) (d := d1) N W (h1.below hW) (h3.below hW) rfl hn)
 have H2 := Lib.hid h2
 have H4 := Lib.hid h4
 unfold gv
 generalize hk0 : E.length = k at *
 have HK := Lib.hid hk0
 generalize N.length = n at *
 obtain ⟨w2, hw2, x0, r0, z0⟩ := box_turn w (.slice A1 n c1) (.slice A2 k c2) (.int .u64 (p : Int)) (.int .u64 (m : Int)) (.slice B1 n d1) (.slice B2 k d2) (.int .u64 (p : Int)) (.int .u64 (m : Int)) 43 43
 have X2 := Lib.hid x0
 have R2 := Lib.hid r0
 have B2' := Lib.hid z0
 have HW2 := Lib.hid hw2
 clear h1 h2 h3 h4 hk0 x0 r0 z0 hw2
 go_enter Tryz.func24, Tryz.ntmps24
 go_upto_region 1 with fail
 rw [← HW2.out]
 generalize w.heap.size + 1 = Br at *
 clear HW2
 obtain ⟨x1, x2, x3, x4⟩ := X2.out
 have r1 := R2.out.cell (j := 0) rfl
 go_wp2_with fail
 refine (C1.out _ B2'.out).mono ?_
 rintro e w3 ⟨rfl, hb3⟩
 have B3 := Lib.hid (below_then B2'.out hb3)
 have X3 := Lib.hid (X2.out.below hb3)
 have R3 := Lib.hid (R2.out.below hb3 R2.out.lt)
 clear hb3 x1 x2 x3 x4 X2 C1 R2 r1
 obtain ⟨x1, x2, x3, x4⟩ := X3.out
 have r2 := R3.out.cell (j := 1) rfl
 have r3 := R3.out.cell (j := 2) rfl
 have r4 := R3.out.cell (j := 3) rfl
 go_wp2_with fail
 clear x1 x2 x3 x4 r2 r3 r4
 go_loopw [5, 38] (fun _ i wr => ∃ q : Nat, q ≤ k ∧ i = .int .i64 (q : Int) ∧ Hid (Below w3.heap.size w3 wr)) (fun _ i _ => k - (intOf i).toNat)
 case atStart => exact ⟨0, by omega, rfl, Lib.hid (Below.refl _ _)⟩
 case round =>
  obtain ⟨q, hq, rfl, hbw⟩ := hrel
  by_cases hlt : q < k
  ·obtain ⟨⟨e1, e2⟩, he⟩ : ∃ x, E[q]? = some x := ⟨_, List.getElem?_eq_getElem (by rw [HK.out]; exact hlt)⟩
   obtain ⟨b, off, rfl, y1, y2⟩ := (H2.out.below (below_then B3.out hbw.out)).edge he
   obtain ⟨b2, off2, rfl, z1, z2⟩ := (H4.out.below (below_then B3.out hbw.out)).edge he
   have X4 := X3.out.below hbw.out
   have R4 := R3.out.below hbw.out R3.out.lt
   have x2 := X4.c2
   have r2 := R4.cell (j := 1) rfl
   simp only at y1 y2 z1 z2
   have HB := Lib.hid (fun q => below_drewN hbw.out q)
   have f1 : (0 : Int) ≤ (q : Int) := by omega
   have f2 : (q : Int) < (k : Int) := by omega
   clear he hbw X4 R4
   go_wp2_with fail
   go_quiet (fail)
   go_wp2_with fail
   go_roundw
   case rel => exact ⟨q + 1, by omega, by go_num, Lib.hid (HB.out _)⟩
   case measure => simp [intOf]; omega
  ·have hqn : ¬ (q : Int) < (k : Int) := by omega
   have hB := below_then B3.out hbw.out
   have HBB := Lib.hid hB
   clear hB
   have x2 := (X3.out.below hbw.out).c2
   go_wp2_with fail
   go_ret
   exact ⟨rfl, HBB.out⟩
end Go.Proofs.YtoandhhkmkgmaaaGreatDoor
/- Contract: the reference's GraphOf. Rows are at most 64 sets below 2^64. -/
namespace Go.Proofs.YtoandhhkmkgmaaaGreatDoor
open Go.RowKit

section
variable {ops : Array Oper} {rest : List Oper} {o : Oper} {a : Act} {Q : Exit → Act → World → Prop}
/-- 'out = append(out, Edge{x, y})', out the call's own, and what else is kept. -/
theorem wpList_pushE2 (wr : World) (s x : Operand) (B : Nat) (A : Option Addr) (n c : Nat) (E : List EdgeT) (e : EdgeT)
 (hown : wr.ownsRow B 102 2 (.slice A n c) n (eV E)) (hB : B ≤ wr.heap.size) (hn : (n + 1) * 16 ≤ 140737488355328)
 (hgd : o.guard = none) (ho : o.op = .call { callee := .builtin .append, args := #[s, x], argTypes := #[40, 40] })
 (hs : a.eval s = .slice A n c) (hx : a.eval x = .slice (some ⟨wr.heap.size, 0, none⟩) 1 1)
 (h : ∀ g c' w', w'.ownsRow B 102 2 (.slice (some ⟨g, 0, none⟩) (n + 1) c') (n + 1) (eV (E ++ [e])) → Below B wr w' → wr.grownBy w' (Value.slice A n c).ownBlock → ((Value.slice A n c).ownBlock = some g ∨ wr.heap.size < g) → wpList Tryz.prog ops Q rest (a.put o.dst (.slice (some ⟨g, 0, none⟩) (n + 1) c')) w') :
 wpList Tryz.prog ops Q (o :: rest) a (wr.alloc (.cells #[.int .i64 e.1, .int .i64 e.2] 102)) := by
 obtain ⟨ht, i, hi, hz, h1, hb, hzs⟩ := elEdge
 have hB' : B ≤ (wr.alloc (.cells #[.int .i64 e.1, .int .i64 e.2] 102)).heap.size := by simp; omega
 have hbl : Below wr.heap.size wr (wr.alloc (.cells #[.int .i64 e.1, .int .i64 e.2] 102)) := below_new (Below.refl _ _) _
 have ho2 : (wr.alloc (.cells #[.int .i64 e.1, .int .i64 e.2] 102)).ownsRow B 102 2 (.slice A n c) n (eV E) := own_lt hown hbl (fun g hg => (hown.lt g hg).2)
 refine wpList_append_lies _ hgd s x 40 ho B 102 i _ 2 16 ht hi hz h1 hb hzs (by decide) (.slice A n c) n (eV E) hs ho2 ⟨wr.heap.size, 0, none⟩ 1 1 [.int .i64 e.1, .int .i64 e.2] hx rfl two_cells (by intro u hu; simp at hu; rcases hu with rfl | rfl <;> rfl) (by decide) (by unfold maxLen; omega) hn hB' _ rfl ?_
 intro g cap w' hown' hg hat _
 refine h g cap w' (by rw [eV_snoc]; exact hown') ?_ ?_ ?_
 ·exact ((Below.refl B wr).alloc hB _).grown hg hB' (fun k hk => (hown.lt k hk).1)
 ·refine ⟨hg.os, hg.tape, hg.output, Nat.le_trans hbl.size hg.size, fun k hk hne => ?_⟩
  rw [hg.block k (by simp; omega) hne]
  exact hbl.block k hk
 ·rcases hat with hat | hat
  ·exact .inl hat
  ·right; rw [hat]; simp
end
theorem edgesAt_len (r : List Nat) (i : Nat) : (edgesAt r i).length = (nums (rowAt r i)).length := by unfold edgesAt; rw [List.length_map]
def edgesTo (r : List Nat) (i : Nat) : List EdgeT := (List.range i).flatMap (edgesAt r)
theorem edgesTo_succ (r : List Nat) (i : Nat) : edgesTo r (i + 1) = edgesTo r i ++ edgesAt r i := by unfold edgesTo; rw [List.range_succ, List.flatMap_append]; simp
theorem edgesAt_take {r : List Nat} {i j x : Nat} (h : (nums (rowAt r i))[j]? = some x) : (edgesAt r i).take (j + 1) = (edgesAt r i).take j ++ [((i : Int), (x : Int))] := by
 have hh : (edgesAt r i)[j]? = some ((i : Int), (x : Int)) := by unfold edgesAt; rw [List.getElem?_map, h]; rfl
 obtain ⟨hl, he⟩ := List.getElem?_eq_some_iff.1 hh
 rw [List.take_succ_eq_append_getElem hl, he]
theorem own_baseK {w : World} {B B' size : Nat} {e : TypeId} {v : Value} {n : Nat} {xs : List Value} (h : w.ownsRow B e size v n xs) (hB : B' ≤ B) : w.ownsRow B' e size v n xs := by
 refine ⟨h.1, ?_⟩
 rcases h.2 with h' | ⟨g, cap, cur, h1, h2, h3⟩
 ·exact .inl h'
 ·exact .inr ⟨g, cap, cur, h1, Nat.le_trans hB h2, h3⟩
def GOfPost (A : Option Addr) (n c p m : Nat) (r : List Nat) (w : World) (e : Ending) (w' : World) : Prop :=
 ∃ A2 c2, e = .returned (gv A n c A2 (edgesOf r).length c2 p m) ∧ w'.ownsRow w.heap.size 102 2 (.slice A2 (edgesOf r).length c2) (edgesOf r).length (eV (edgesOf r)) ∧ Below w.heap.size w w'
set_option maxRecDepth 100000 in
set_option maxHeartbeats 2000000 in
theorem rGraphOf_any {A AR : Option Addr} {n c j cr : Nat} (r : List Nat) (p m : Nat) (w : World) (hr : Rd w AR (r.map uv)) (hj : r.length = j) (hj64 : j ≤ 64) (hb : Rows64 r) :
 Calls Tryz.prog 60 #[.slice A n c, .slice AR j cr, .int .u64 (p : Int), .int .u64 (m : Int)] w (GOfPost A n c p m r w) := by
 have HR := Lib.hid hr
 have HJ := Lib.hid hj
 have HB := Lib.hid hb
 clear hr hj hb
 go_enter Tryz.func60, Tryz.ntmps60
 have hR1 := Blk.new w #[.slice none 0 0, .slice none 0 0, .int .u64 0, .int .u64 0] 43
 have hM1 := Blk.new (w.alloc (.cells #[.slice none 0 0, .slice none 0 0, .int .u64 0, .int .u64 0] 43)) #[.slice A n c, .slice none 0 0, .int .u64 (p : Int), .int .u64 (m : Int)] 43
 have hbl : Below w.heap.size w ((w.alloc (.cells #[.slice none 0 0, .slice none 0 0, .int .u64 0, .int .u64 0] 43)).alloc (.cells #[.slice A n c, .slice none 0 0, .int .u64 (p : Int), .int .u64 (m : Int)] 43)) := below_new (below_new (Below.refl _ _) _) _
 have HM := Lib.hid hM1
 have HRS := Lib.hid (hR1.below (below_new (Below.refl _ _) (.cells #[.slice A n c, .slice none 0 0, .int .u64 (p : Int), .int .u64 (m : Int)] 43)) hR1.lt)
 have BC := Lib.hid hbl
 have HBM : Hid ((w.alloc (.cells #[.slice none 0 0, .slice none 0 0, .int .u64 0, .int .u64 0] 43)).heap.size = w.heap.size + 1) := Lib.hid (by simp)
 clear hR1 hM1 hbl
 go_upto_region 2 with fail
 generalize hwc : (w.alloc (.cells #[.slice none 0 0, .slice none 0 0, .int .u64 0, .int .u64 0] 43)).alloc (.cells #[.slice A n c, .slice none 0 0, .int .u64 (p : Int), .int .u64 (m : Int)] 43) = wc at *
 clear hwc
 have hbm : (w.alloc (.cells #[.slice none 0 0, .slice none 0 0, .int .u64 0, .int .u64 0] 43)).heap.size = w.heap.size + 1 := HBM.out
 rw [hbm] at HM
 generalize hBm : w.heap.size + 1 = Bm at *
 have HLE : Hid (w.heap.size < Bm ∧ Bm < wc.heap.size) := Lib.hid ⟨by omega, HM.out.lt⟩
 have neR : w.heap.size ≠ Bm := by omega
 clear hBm hbm HBM
 go_wp2_with fail
 go_loopw [10, 12, 19] (fun _ _ i wr => ∃ q : Nat, q ≤ j ∧ i = .int .i64 (q : Int) ∧ ∃ AE kE cE, kE ≤ q * 64 ∧ Hid ((edgesTo r q).length = kE) ∧ Hid (Blk wr Bm 43 [.slice A n c, .slice AE kE cE, .int .u64 (p : Int), .int .u64 (m : Int)]) ∧ Hid (wr.ownsRow wc.heap.size 102 2 (.slice AE kE cE) kE (eV (edgesTo r q))) ∧ Hid (wc.grownBy wr (some Bm))) (fun _ _ i _ => j - (intOf i).toNat)
 case atStart => exact ⟨0, by omega, rfl, none, 0, 0, by omega, Lib.hid rfl, HM, Lib.hid (World.ownsRow_nil _ _ _ _), Lib.hid ⟨rfl, rfl, rfl, Nat.le_refl _, fun _ _ _ => rfl⟩⟩
 case round =>
  obtain ⟨q, hq, rfl, AE, kE, cE, hkq, hkE, hm, hown, hgr⟩ := hrel
  have BW := Lib.hid (BC.out.grown hgr.out BC.out.size (fun k hk => by injection hk with hk; have := HLE.out; omega))
  by_cases hlt : q < j
  ·obtain ⟨x, hx⟩ : ∃ x, r[q]? = some x := ⟨_, List.getElem?_eq_getElem (by rw [HJ.out]; exact hlt)⟩
   obtain ⟨b, off, rfl, y1⟩ := (HR.out.below BW.out).at_ (k := q) (by rw [List.length_map, HJ.out]; exact hlt)
   rw [List.getElem_map, (List.getElem?_eq_some_iff.1 hx).2] at y1
   have hrow : rowAt r q = x := by unfold rowAt; rw [hx]; rfl
   have HNB := Lib.hid (rNumbers_any x (by rw [← hrow]; exact HB.out q) wr)
   have HROW := Lib.hid hrow
   have hnl := nums_len x
   have hq2 : (q : Int) < (j : Int) := by omega
   unfold uv at y1
   clear hx hrow
   go_wp2_with fail
   refine HNB.out.mono ?_
   rintro e w5 ⟨AN, cN, rfl, hownN, hb5⟩
   have HGR5 := Lib.hid (gb_below hgr.out (hb5.mono hgr.out.size))
   have HM5 := Lib.hid (hm.out.below hb5 hm.out.lt)
   have HO5 := Lib.hid (own_lt hown.out hb5 (fun g hg => (hown.out.lt g hg).2))
   have HNE5 : Hid (∀ g, (Value.slice (some ⟨b, off, none⟩) 0 0).ownBlock = some g → True) := Lib.hid (fun _ _ => trivial)
   have HND : Hid (∀ g, (Value.slice AN (nums x).length cN).ownBlock = some g → wr.heap.size ≤ g ∧ g < w5.heap.size) := Lib.hid (fun g hg => hownN.lt g hg)
   have HNO := Lib.hid hownN
   have HSE : Hid (∀ g, (Value.slice AE kE cE).ownBlock = some g → g < wr.heap.size) := Lib.hid (fun g hg => (hown.out.lt g hg).2)
   have HBR5 : Hid (Bm < wr.heap.size) := Lib.hid hm.out.lt
   have HTO := Lib.hid (edgesTo_succ r q)
   clear hm hown hb5 hownN hgr HNB HNE5
   go_wp2_with fail
   generalize wr = wq at *
   go_loopw [12, 28] (fun _ i wi => ∃ t : Nat, t ≤ (nums x).length ∧ i = .int .i64 (t : Int) ∧ ∃ AI cI, Hid (Blk wi Bm 43 [.slice A n c, .slice AI (kE + t) cI, .int .u64 (p : Int), .int .u64 (m : Int)]) ∧ Hid (wi.ownsRow wc.heap.size 102 2 (.slice AI (kE + t) cI) (kE + t) (eV (edgesTo r q ++ (edgesAt r q).take t))) ∧ Hid (wc.grownBy wi (some Bm)) ∧ Hid (wi.ownsRow wq.heap.size 3 1 (.slice AN (nums x).length cN) (nums x).length ((nums x).map nv)) ∧ Hid (∀ g, (Value.slice AI (kE + t) cI).ownBlock = some g → (Value.slice AN (nums x).length cN).ownBlock ≠ some g) ∧ Hid (w5.heap.size ≤ wi.heap.size)) (fun _ i _ => (nums x).length - (intOf i).toNat)
   case atStart => exact ⟨0, by omega, rfl, AE, cE, HM5, by simpa using HO5, HGR5, HNO, Lib.hid (fun g hg he => by have h1 := HSE.out g hg; have h2 := (HND.out g he).1; omega), Lib.hid (Nat.le_refl _)⟩
   case round =>
    obtain ⟨t, ht, rfl, AI, cI, hmi, howni, hgri, hnum, hnei, hsi⟩ := hrel
    have m1 := hmi.out.cell (j := 0) rfl
    have m2 := hmi.out.cell (j := 1) rfl
    have m3 := hmi.out.cell (j := 2) rfl
    have m4 := hmi.out.cell (j := 3) rfl
    have mf := hmi.out.free
    by_cases hlt2 : t < (nums x).length
    ·obtain ⟨y, hy⟩ : ∃ y, (nums x)[t]? = some y := ⟨_, List.getElem?_eq_getElem hlt2⟩
     obtain ⟨bN, oN, hAN, z1⟩ := (Rd.of_own hnum.out).at_ (k := t) (by rw [List.length_map]; exact hlt2)
     subst hAN
     rw [List.getElem_map, (List.getElem?_eq_some_iff.1 hy).2] at z1
     have ht2 : (t : Int) < ((nums x).length : Int) := by omega
     have HTK : Hid ((edgesAt r q).take (t + 1) = (edgesAt r q).take t ++ [((q : Int), (y : Int))]) := Lib.hid (edgesAt_take (by rw [HROW.out]; exact hy))
     have hsz : wc.heap.size ≤ wr.heap.size := hgri.out.size
     have HT9 : Hid (∀ w9, Below wc.heap.size wr w9 → w9.cell? ⟨Bm, 1, none⟩ = some (.slice AI (kE + t) cI) ∧ w9.frozen? ⟨Bm, 1, none⟩ = false) := Lib.hid (fun w9 hb9 => by
      have hh := hmi.out.below hb9 HLE.out.2
      exact ⟨hh.cell (j := 1) rfl, hh.free 1⟩)
     unfold nv at z1
     clear hy
     go_wp2_with (at_builtin; refine wpList_pushE2 wr _ _ wc.heap.size AI (kE + t) cI (edgesTo r q ++ (edgesAt r q).take t) ((q : Int), (y : Int)) howni.out hsz (by omega) rfl rfl rfl rfl ?_; intro g9 c9 w9 hown9 hb9 hgr9 hat9; obtain ⟨t1, tf⟩ := HT9.out w9 hb9)
     have HBM9 : Hid (Blk (w9.setCell ⟨Bm, 1, none⟩ (.slice (some ⟨g9, 0, none⟩) (kE + t + 1) c9)) Bm 43 [.slice A n c, .slice (some ⟨g9, 0, none⟩) (kE + t + 1) c9, .int .u64 (p : Int), .int .u64 (m : Int)]) := Lib.hid ((hmi.out.below hb9 HLE.out.2).same 1 _)
     have HOW : Hid ((w9.setCell ⟨Bm, 1, none⟩ (.slice (some ⟨g9, 0, none⟩) (kE + t + 1) c9)).ownsRow wc.heap.size 102 2 (.slice (some ⟨g9, 0, none⟩) (kE + t + 1) c9) (kE + t + 1) (eV (edgesTo r q ++ (edgesAt r q).take (t + 1)))) := Lib.hid (by
      rw [HTK.out, ← List.append_assoc]
      exact ownsRow_setCell_below hown9 (a := ⟨Bm, 1, none⟩) HLE.out.2 _)
     have HGR : Hid (wc.grownBy (w9.setCell ⟨Bm, 1, none⟩ (.slice (some ⟨g9, 0, none⟩) (kE + t + 1) c9)) (some Bm)) := Lib.hid (gb_set (gb_below hgri.out hb9) 1 _)
     have HNU : Hid ((w9.setCell ⟨Bm, 1, none⟩ (.slice (some ⟨g9, 0, none⟩) (kE + t + 1) c9)).ownsRow wq.heap.size 3 1 (.slice (some ⟨bN, oN, none⟩) (nums x).length cN) (nums x).length ((nums x).map nv)) := Lib.hid (ownsRow_setCell_other (hnum.out.kept hgr9 (.inr (fun he => hnei.out bN he.symm rfl))) (a := ⟨Bm, 1, none⟩) (fun he => by
      have h1 := (HND.out bN rfl).1
      have h2 := HBR5.out
      injection he with he
      simp only at he
      omega) _)
     have HNE : Hid (∀ g, (Value.slice (some ⟨g9, 0, none⟩) (kE + t + 1) c9).ownBlock = some g → (Value.slice (some ⟨bN, oN, none⟩) (nums x).length cN).ownBlock ≠ some g) := Lib.hid (fun g hg => by
      injection hg with hg
      subst hg
      rcases hat9 with hat | hat
      ·exact hnei.out _ hat
      ·intro he
       have h1 := (HND.out _ he).2
       have h2 := hsi.out
       simp only at h1 hat
       omega)
     have HSI : Hid (w5.heap.size ≤ (w9.setCell ⟨Bm, 1, none⟩ (.slice (some ⟨g9, 0, none⟩) (kE + t + 1) c9)).heap.size) := Lib.hid (by have h1 := hgr9.size; have h2 := hsi.out; simp [World.setCell]; omega)
     clear hown9 hb9 hgr9 hat9
     go_roundw
     case rel => exact ⟨t + 1, by omega, by go_num, some ⟨g9, 0, none⟩, c9, HBM9, HOW, HGR, HNU, HNE, HSI⟩
     case measure => simp [intOf]; omega
    ·obtain rfl : t = (nums x).length := by omega
     have htn : ¬ ((nums x).length : Int) < ((nums x).length : Int) := by omega
     have hal : (edgesAt r q).length = (nums x).length := by rw [edgesAt_len, HROW.out]
     have HE : Hid (edgesTo r q ++ (edgesAt r q).take (nums x).length = edgesTo r (q + 1)) := Lib.hid (by rw [HTO.out, List.take_of_length_le (by omega)])
     have HOW : Hid (wr.ownsRow wc.heap.size 102 2 (.slice AI (kE + (nums x).length) cI) (kE + (nums x).length) (eV (edgesTo r (q + 1)))) := Lib.hid (by have := howni.out; rwa [HE.out] at this)
     have HLN : Hid ((edgesTo r (q + 1)).length = kE + (nums x).length) := Lib.hid (by have := HOW.out.1; rw [eV_len] at this; omega)
     clear howni hnum hnei hal
     go_wp2_with fail
     go_roundw
     case rel => exact ⟨q + 1, by omega, by go_num, AI, kE + (nums x).length, cI, by omega, HLN, hmi, HOW, hgri⟩
     case measure => simp [intOf]; omega
  ·obtain rfl : q = j := by omega
   have hqn : ¬ (q : Int) < (q : Int) := by omega
   have m1 := hm.out.cell (j := 0) rfl
   have m2 := hm.out.cell (j := 1) rfl
   have m3 := hm.out.cell (j := 2) rfl
   have m4 := hm.out.cell (j := 3) rfl
   have R9 := Lib.hid (HRS.out.gb hgr.out neR)
   have r1 := R9.out.cell (j := 0) rfl
   have r2 := R9.out.cell (j := 1) rfl
   have r3 := R9.out.cell (j := 2) rfl
   have r4 := R9.out.cell (j := 3) rfl
   have rf := R9.out.free
   have HE : Hid (edgesTo r q = edgesOf r) := Lib.hid (by unfold edgesTo edgesOf; rw [HJ.out])
   go_wp2_with fail
   have RZ := Lib.hid (R9.out.put4 (.slice A n c) (.slice AE kE cE) (.int .u64 (p : Int)) (.int .u64 (m : Int)))
   have BZ := Lib.hid (below_put4 BW.out (Nat.le_refl _) (.slice A n c) (.slice AE kE cE) (.int .u64 (p : Int)) (.int .u64 (m : Int)))
   have EZ := Lib.hid (own_baseK (own_put4 (b := w.heap.size) hown.out (fun he => by have h1 := (hown.out.lt _ he).1; have h2 := HLE.out; omega) (.slice A n c) (.slice AE kE cE) (.int .u64 (p : Int)) (.int .u64 (m : Int))) BC.out.size)
   generalize ((((wr.setCell ⟨w.heap.size, 0, none⟩ (.slice A n c)).setCell ⟨w.heap.size, 1, none⟩ (.slice AE kE cE)).setCell ⟨w.heap.size, 2, none⟩ (.int .u64 (p : Int))).setCell ⟨w.heap.size, 3, none⟩ (.int .u64 (m : Int))) = wz at *
   have q1 := RZ.out.cell (j := 0) rfl
   have q2 := RZ.out.cell (j := 1) rfl
   have q3 := RZ.out.cell (j := 2) rfl
   have q4 := RZ.out.cell (j := 3) rfl
   refine bodyPost_ret (v := .agg #[.slice A n c, .slice AE kE cE, .int .u64 (p : Int), .int .u64 (m : Int)]) (by simp [results, Tryz.results60, go_sem, q1, q2, q3, q4]) rfl ?_
   refine ⟨AE, cE, ?_, by rw [← HE.out, hkE.out]; exact EZ.out, BZ.out⟩
   rw [← HE.out, hkE.out]
   rfl
end Go.Proofs.YtoandhhkmkgmaaaGreatDoor
