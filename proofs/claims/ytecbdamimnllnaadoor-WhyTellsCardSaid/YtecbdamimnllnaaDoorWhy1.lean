/- Contracts: why.row, why.needed; the reference's ReasonRow, ReasonsForm. The row of reasons is finite. -/
import Derived.Test.YtecbdamimnllnaaDoorWhyPlain
import Derived.Test.YtecbdamimnllnaaDoorSt1
import Derived.Maps.AppendAt
import Derived.OneCell
namespace Go.Proofs.YtecbdamimnllnaaDoor
open Go.RowKit

/-- A block that is known whole, none of it frozen. -/
def Blk (w : World) (b : Nat) (t : TypeId) (vs : List Value) : Prop := w.heap[b]? = some (.cells vs.toArray t (0, 0))
section
variable {w w' : World} {b : Nat} {t : TypeId} {vs : List Value}
theorem Blk.cell (h : Blk w b t vs) {j : Nat} {v : Value} (hj : vs[j]? = some v) : w.cell? ⟨b, j, none⟩ = some v := by
  unfold Blk at h
  simp [World.cell?, h, hj]
theorem Blk.free (h : Blk w b t vs) (j : Nat) : w.frozen? ⟨b, j, none⟩ = false := by
  unfold Blk at h
  simp [World.frozen?, h]
theorem Blk.lt (h : Blk w b t vs) : b < w.heap.size := lt_of_block h
theorem Blk.same (h : Blk w b t vs) (j : Nat) (u : Value) : Blk (w.setCell ⟨b, j, none⟩ u) b t (vs.set j u) := by
  unfold Blk
  rw [heap_setCell_same w b j vs.toArray t u h]
  simp
theorem Blk.below {B : Nat} (h : Blk w b t vs) (hb : Below B w w') (hB : b < B) : Blk w' b t vs := by
  unfold Blk
  rw [hb.block b hB]
  exact h
theorem Blk.new (w : World) (cs : Array Value) (t : TypeId) : Blk (w.alloc (.cells cs t)) w.heap.size t cs.toList := by
  unfold Blk
  rw [heap_alloc_new, Array.toArray_toList]
theorem Blk.put4 {x1 x2 x3 x4 : Value} (h : Blk w b t [x1, x2, x3, x4]) (v1 v2 v3 v4 : Value) :
    Blk ((((w.setCell ⟨b, 0, none⟩ v1).setCell ⟨b, 1, none⟩ v2).setCell ⟨b, 2, none⟩ v3).setCell ⟨b, 3, none⟩ v4) b t [v1, v2, v3, v4] := (((h.same 0 v1).same 1 v2).same 2 v3).same 3 v4
end
theorem below_put4 {B b : Nat} {w w' : World} (h : Below B w w') (hB : B ≤ b) (v1 v2 v3 v4 : Value) : Below B w ((((w'.setCell ⟨b, 0, none⟩ v1).setCell ⟨b, 1, none⟩ v2).setCell ⟨b, 2, none⟩ v3).setCell ⟨b, 3, none⟩ v4) :=
  (((h.setCell (p := ⟨b, 0, none⟩) hB v1).setCell (p := ⟨b, 1, none⟩) hB v2).setCell (p := ⟨b, 2, none⟩) hB v3).setCell (p := ⟨b, 3, none⟩) hB v4
theorem own_put4 {B b n s : Nat} {e : TypeId} {v : Value} {xs : List Value} {w : World} (h : w.ownsRow B e s v n xs) (hne : v.ownBlock ≠ some b) (v1 v2 v3 v4 : Value) : ((((w.setCell ⟨b, 0, none⟩ v1).setCell ⟨b, 1, none⟩ v2).setCell ⟨b, 2, none⟩ v3).setCell ⟨b, 3, none⟩ v4).ownsRow B e s v n xs :=
  ownsRow_setCell_other (ownsRow_setCell_other (ownsRow_setCell_other (ownsRow_setCell_other h (a := ⟨b, 0, none⟩) hne v1) (a := ⟨b, 1, none⟩) hne v2) (a := ⟨b, 2, none⟩) hne v3) (a := ⟨b, 3, none⟩) hne v4
theorem whyInfo : ∃ i, Tryd.prog.info? 32 = some i ∧ i.zero = some (.agg #[.int .i64 0, .int .i64 0, .int .i64 0, .slice none 0 0]) ∧ i.size = 4 ∧ i.bytes = 48 := by
  have h : (Tryd.prog.info? 32).map (fun i => (i.zero, i.size, i.bytes)) = some (some (.agg #[.int .i64 0, .int .i64 0, .int .i64 0, .slice none 0 0]), 4, 48) := by kernel_rfl
  cases hi : Tryd.prog.info? 32 with
  | none => rw [hi] at h; cases h
  | some i =>
    rw [hi] at h
    simp at h
    exact ⟨i, rfl, h⟩
/-- 'append(out, w)', out the call's own. -/
theorem wpList_pushW {ops : Array Oper} {rest : List Oper} {o : Oper} {a : Act} {Q : Exit → Act → World → Prop} (wr : World) (s x : Operand) (B : Nat) (A : Option Addr) (n c : Nat) (L : List WV) (p : WV)
    (hown : wr.ownsRow B 32 4 (.slice A n c) n (wcs L)) (hB : B ≤ wr.heap.size) (hn : (n + 1) * 48 ≤ 140737488355328)
    (hgd : o.guard = none) (ho : o.op = .call { callee := .builtin .append, args := #[s, x], argTypes := #[30, 30] })
    (hs : a.eval s = .slice A n c) (hx : a.eval x = .slice (some ⟨wr.heap.size, 0, none⟩) 1 1)
    (h : ∀ g c' w', w'.ownsRow B 32 4 (.slice (some ⟨g, 0, none⟩) (n + 1) c') (n + 1) (wcs (L ++ [p])) → Below B wr w' → wr.grownBy w' (Value.slice A n c).ownBlock → ((Value.slice A n c).ownBlock = some g ∨ wr.heap.size ≤ g) → wpList Tryd.prog ops Q rest (a.put o.dst (.slice (some ⟨g, 0, none⟩) (n + 1) c')) w') :
    wpList Tryd.prog ops Q (o :: rest) a (wr.alloc (.cells #[.int .i64 p.n, .int .i64 p.c, .int .i64 p.k, .slice p.A p.m p.cap] 32)) := by
  obtain ⟨i, hi, hz, h1, hb⟩ := whyInfo
  have ht : Tryd.prog.underlying 30 = some (.slice 32) := by kernel_rfl
  have hB' : B ≤ (wr.alloc (.cells #[.int .i64 p.n, .int .i64 p.c, .int .i64 p.k, .slice p.A p.m p.cap] 32)).heap.size := by simp; omega
  refine wpList_append_own_at _ hgd s x 30 ho B 32 i _ 4 48 ht hi hz h1 hb rfl (by decide) (.slice A n c) n (wcs L) hs (hown.alloc _) ⟨wr.heap.size, 0, none⟩ 1 1 p.cs hx rfl ?_ (by intro u hu; simp [WV.cs] at hu; rcases hu with rfl | rfl | rfl | rfl <;> rfl) (by unfold maxLen; omega) hn hB' ?_
  · intro j u hj
    rw [Addr.add_lit, World.cell?_alloc_at _ _ _ _ rfl, Nat.zero_add]
    simp only [WV.cs] at hj
    simpa using hj
  · intro v' w' hown' hg hnil hor
    have hne : v' ≠ .slice none 0 0 := fun e => by have := (hnil.1 e).2; omega
    rcases hown'.2 with ⟨h', _⟩ | ⟨g, cap, cur, h', _⟩
    · exact absurd h' hne
    · subst h'
      refine h g cap w' (by rw [wcs_snoc]; exact hown') ?_ ?_ ?_
      · exact ((Below.refl B wr).alloc hB _).grown hg hB' (fun k hk => (hown.lt k hk).1)
      · exact ⟨hg.os, hg.tape, hg.output, Nat.le_trans (by simp) hg.size, fun k hk hne => (hg.block k (by simp; omega) hne).trans (Below.heap_alloc _ _ _ hk)⟩
      · rcases hor with e | e
        · exact .inl e.symm
        · right
          have e' : some g = some _ := e
          injection e' with e'
          rw [e']
          simp
theorem whyNew {A : Option Addr} {n c g b s : Nat} (h : (Value.slice A n c).ownBlock = some g ∨ s ≤ g) (hne : ∀ x, (Value.slice A n c).ownBlock = some x → x ≠ b) (hb : b < s) : g ≠ b := by
  rcases h with h | h
  · exact hne g h
  · omega
theorem measW {q m : Nat} (h : q < m) : m - (intOf (.int .i64 ((q : Int) + 1))).toNat < m - (intOf (.int .i64 (q : Int))).toNat := by
  simp [intOf]
  omega
theorem valW (q : Nat) : Value.int .i64 ((q : Int) + 1) = Value.int .i64 ((q + 1 : Nat) : Int) := rfl
theorem box_why (w : World) (e : WV) (t : TypeId) :
    (w.alloc (.cells #[.int .i64 e.n, .int .i64 e.c, .int .i64 e.k, .slice e.A e.m e.cap] t)).cell? ⟨w.heap.size, 0, none⟩ = some (.int .i64 e.n) ∧ (w.alloc (.cells #[.int .i64 e.n, .int .i64 e.c, .int .i64 e.k, .slice e.A e.m e.cap] t)).cell? ⟨w.heap.size, 1, none⟩ = some (.int .i64 e.c) ∧
    (w.alloc (.cells #[.int .i64 e.n, .int .i64 e.c, .int .i64 e.k, .slice e.A e.m e.cap] t)).cell? ⟨w.heap.size, 2, none⟩ = some (.int .i64 e.k) ∧ (w.alloc (.cells #[.int .i64 e.n, .int .i64 e.c, .int .i64 e.k, .slice e.A e.m e.cap] t)).cell? ⟨w.heap.size, 3, none⟩ = some (.slice e.A e.m e.cap) := by
  refine ⟨?_, ?_, ?_, ?_⟩ <;> (rw [World.cell?_alloc_at _ _ _ _ rfl]; rfl)
theorem needed_any (c : Int) (w : World) : Calls Tryd.prog 22 #[.int .i64 c] w fun e w' => e = .returned (.bool (decide (3 ≤ c))) ∧ w = w' := by
  go_enter Tryd.func22, Tryd.ntmps22
  go_wp2_with fail
  go_ret
  exact ⟨rfl, rfl⟩
theorem ok_end (b0 : Bool) (ec : Int) : (b0 = false ∧ ec = 5) ∨ (b0 = false ∧ (ec == 5) = false) ∨ (b0 = true ∧ ec = 5) ∨ (b0 = true ∧ (ec == 5) = false ∧ ¬ 1 ≤ ec) ∨ (b0 = true ∧ (ec == 5) = false ∧ 1 ≤ ec ∧ ¬ ec ≤ 5) ∨ (b0 = true ∧ (ec == 5) = false ∧ 1 ≤ ec ∧ ec ≤ 5) := by
  cases b0
  · by_cases h : ec = 5
    · exact .inl ⟨rfl, h⟩
    · exact .inr (.inl ⟨rfl, by simpa using h⟩)
  · by_cases h : ec = 5
    · exact .inr (.inr (.inl ⟨rfl, h⟩))
    · have h' : (ec == 5) = false := by simpa using h
      by_cases h1 : 1 ≤ ec
      · by_cases h2 : ec ≤ 5
        · exact .inr (.inr (.inr (.inr (.inr ⟨rfl, h', h1, h2⟩))))
        · exact .inr (.inr (.inr (.inr (.inl ⟨rfl, h', h1, h2⟩))))
      · exact .inr (.inr (.inr (.inl ⟨rfl, h', h1⟩)))
theorem ok_mid (b0 : Bool) (ec : Int) (em : Nat) : (b0 = false ∧ ec = 5) ∨ (b0 = false ∧ (ec == 5) = false) ∨ (b0 = true ∧ ec = 5 ∧ ((em : Int) == 1) = true) ∨ (b0 = true ∧ ec = 5 ∧ ((em : Int) == 1) = false) ∨ (b0 = true ∧ (ec == 5) = false ∧ ¬ 1 ≤ ec) ∨ (b0 = true ∧ (ec == 5) = false ∧ 1 ≤ ec ∧ ¬ ec ≤ 5) ∨ (b0 = true ∧ (ec == 5) = false ∧ 1 ≤ ec ∧ ec ≤ 5) := by
  rcases ok_end b0 ec with h | h | ⟨h1, h2⟩ | h | h | h
  · exact .inl h
  · exact .inr (.inl h)
  · cases hm : ((em : Int) == 1)
    · exact .inr (.inr (.inr (.inl ⟨h1, h2, rfl⟩)))
    · exact .inr (.inr (.inl ⟨h1, h2, rfl⟩))
  · exact .inr (.inr (.inr (.inr (.inl h))))
  · exact .inr (.inr (.inr (.inr (.inr (.inl h)))))
  · exact .inr (.inr (.inr (.inr (.inr (.inr h)))))
def RowPost (L : List WV) (w : World) (e : Ending) (w' : World) : Prop :=
  Below w.heap.size w w' ∧ ((64 < L.length ∧ e = .returned (.tuple #[.slice none 0 0, .bool true, .bool false])) ∨
    (L.length ≤ 64 ∧ ∃ A c, e = .returned (.tuple #[.slice A L.length c, .bool false, .bool (allOk L)]) ∧ w'.ownsRow w.heap.size 32 4 (.slice A L.length c) L.length (wcs L)))
set_option maxHeartbeats 1000000 in
set_option maxRecDepth 4000 in
theorem row_any (L : List WV) (e0 : WV) (w : World) (h : WhyCh w L) (h0 : L[0]? = some e0) : Calls Tryd.prog 18 #[wvv e0] w (RowPost L w) := by
  have H := Lib.hid h
  have H0 := Lib.hid h0
  have HX : Hid (Blk (w.alloc (.cells #[.int .i64 e0.n, .int .i64 e0.c, .int .i64 e0.k, .slice e0.A e0.m e0.cap] 32)) w.heap.size 32 e0.cs) := Lib.hid (Blk.new w #[.int .i64 e0.n, .int .i64 e0.c, .int .i64 e0.k, .slice e0.A e0.m e0.cap] 32)
  have HB : Hid (Below w.heap.size w (w.alloc (.cells #[.int .i64 e0.n, .int .i64 e0.c, .int .i64 e0.k, .slice e0.A e0.m e0.cap] 32))) := Lib.hid (below_new (Below.refl _ _) _)
  clear h h0
  unfold wvv
  go_enter Tryd.func18, Tryd.ntmps18
  go_wp2_with fail
  go_loopw [2, 4, 5] (fun x y _ wr => ∃ (i : Nat) (e : WV) (A' : Option Addr) (c' : Nat), x = .slice A' i c' ∧ y = .bool (allOk (L.take i)) ∧ i ≤ 64 ∧ Hid (∀ g, (Value.slice A' i c').ownBlock = some g → g ≠ w.heap.size) ∧ Hid (L[i]? = some e) ∧ Hid (Blk wr w.heap.size 32 e.cs) ∧ Hid (wr.ownsRow w.heap.size 32 4 (.slice A' i c') i (wcs (L.take i))) ∧ Hid (Below w.heap.size w wr)) (fun x _ _ _ => 66 - sliceLen x)
  case atStart => exact ⟨0, e0, none, 0, rfl, rfl, by omega, Lib.hid (fun g hg => (by cases hg)), H0, HX, Lib.hid (World.ownsRow_nil _ _ _ _), HB⟩
  case round =>
    clear HX HB H0
    obtain ⟨i, e, A', c', rfl, rfl, hi, HNE, HE, HX, HO, HB⟩ := hrel
    have y0 := HX.out.cell (j := 0) rfl
    have y1 := HX.out.cell (j := 1) rfl
    have y2 := HX.out.cell (j := 2) rfl
    have y3 := HX.out.cell (j := 3) rfl
    have HTK : Hid (L.take (i + 1) = L.take i ++ [e]) := Lib.hid (by rw [List.take_add_one, HE.out]; rfl)
    have hsz := HB.out.size
    have HIL : Hid (i < L.length) := Lib.hid (by
      rcases Nat.lt_or_ge i L.length with h1 | h1
      · exact h1
      · have := HE.out; rw [List.getElem?_eq_none h1] at this; cases this)
    obtain ⟨en, ec, ek, eA, em, ecap⟩ := e
    simp only at y0 y1 y2 y3
    have HOK : Hid (allOk (L.take (i + 1)) = (allOk (L.take i) && okW ⟨en, ec, ek, eA, em, ecap⟩)) := Lib.hid (by rw [HTK.out, allOk_snoc])
    generalize allOk (L.take i) = b0 at HOK
    by_cases h64 : i = 64
    · have HBIG : Hid (64 < L.length) := Lib.hid (by have := HIL.out; omega)
      subst h64
      go_wp2_with (at_builtin; refine wpList_pushW wr _ _ w.heap.size A' 64 c' (L.take 64) ⟨en, ec, ek, eA, em, ecap⟩ HO.out hsz (by omega) rfl rfl rfl rfl ?_; intro g5 c5 w5 hown5 hb5 hgr5 hor5; have HB5 := Lib.hid (HB.out.trans hb5); clear hown5 hb5 hgr5 hor5)
      go_ret3
      exact ⟨HB5.out, .inl ⟨HBIG.out, rfl⟩⟩
    · have hi2 : i < 64 := by omega
      have hi3 : ¬ (64 : Int) < (i : Int) + 1 := by omega
      clear h64 hi
      by_cases hm : em = 0
      · subst hm
        have HLL : Hid (i + 1 = L.length) := Lib.hid (H.out.last i _ HE.out rfl)
        rw [List.take_of_length_le (by have := HLL.out; omega)] at HOK
        rcases ok_end b0 ec with ⟨rfl, rfl⟩ | ⟨rfl, h1⟩ | ⟨rfl, rfl⟩ | ⟨rfl, h1, h2⟩ | ⟨rfl, h1, h2, h3⟩ | ⟨rfl, h1, h2, h3⟩
        all_goals (
          go_wp2_with (at_builtin; refine wpList_pushW wr _ _ w.heap.size A' i c' (L.take i) ⟨en, _, ek, eA, 0, ecap⟩ HO.out hsz (by omega) rfl rfl rfl rfl ?_; intro g5 c5 w5 hown5 hb5 hgr5 hor5; have HOR := Lib.hid hor5; have HO5 := Lib.hid hown5; have HB5 := Lib.hid (HB.out.trans hb5); have HX5 : Hid (Blk w5 w.heap.size 32 [.int .i64 en, .int .i64 _, .int .i64 ek, .slice eA 0 ecap]) := Lib.hid (show w5.heap[w.heap.size]? = _ from (hgr5.block _ HX.out.lt (fun h => HNE.out _ h.symm rfl)).trans HX.out); have y0 := HX5.out.cell (j := 0) rfl; have y1 := HX5.out.cell (j := 1) rfl; have y2 := HX5.out.cell (j := 2) rfl; have y3 := HX5.out.cell (j := 3) rfl; clear hown5 hb5 hgr5 hor5)
          go_ret3
          refine ⟨HB5.out, .inr ⟨by have := HLL.out; omega, some ⟨g5, 0, none⟩, c5, ?_, ?_⟩⟩
          · rw [← HLL.out, HOK.out]
            first | rfl | (simp_all [okW]; done) | (simp_all [okW]; omega)
          · rw [← HLL.out]
            have h := HO5.out
            rw [← HTK.out, List.take_of_length_le (by have := HLL.out; omega)] at h
            exact h)
      · obtain ⟨bN, oN, e', hA, hn, z0, z1, z2, z3⟩ := H.out.next i _ HE.out hm
        simp only at hA
        subst hA
        have hm0 : ((em : Int) == 0) = false := by simp; omega
        have hm1 : (0 : Int) < (em : Int) := by omega
        have HEN := Lib.hid hn
        have HZ0 := Lib.hid z0
        have HZ1 := Lib.hid z1
        have HZ2 := Lib.hid z2
        have HZ3 := Lib.hid z3
        have HM := Lib.hid hm
        clear hn z0 z1 z2 z3 hm
        rcases ok_mid b0 ec em with ⟨rfl, rfl⟩ | ⟨rfl, h1⟩ | ⟨rfl, rfl, h1⟩ | ⟨rfl, rfl, h1⟩ | ⟨rfl, h1, h2⟩ | ⟨rfl, h1, h2, h3⟩ | ⟨rfl, h1, h2, h3⟩
        all_goals (
          go_wp2_with (at_builtin; refine wpList_pushW wr _ _ w.heap.size A' i c' (L.take i) ⟨en, _, ek, some ⟨bN, oN, none⟩, em, ecap⟩ HO.out hsz (by omega) rfl rfl rfl rfl ?_; intro g5 c5 w5 hown5 hb5 hgr5 hor5; have HOR := Lib.hid hor5; have HO5 := Lib.hid hown5; have HB5 := Lib.hid (HB.out.trans hb5); have HX5 : Hid (Blk w5 w.heap.size 32 [.int .i64 en, .int .i64 _, .int .i64 ek, .slice (some ⟨bN, oN, none⟩) em ecap]) := Lib.hid (show w5.heap[w.heap.size]? = _ from (hgr5.block _ HX.out.lt (fun h => HNE.out _ h.symm rfl)).trans HX.out); have y0 := HX5.out.cell (j := 0) rfl; have y1 := HX5.out.cell (j := 1) rfl; have y2 := HX5.out.cell (j := 2) rfl; have y3 := HX5.out.cell (j := 3) rfl; have f0 := HX5.out.free 0; have f1 := HX5.out.free 1; have f2 := HX5.out.free 2; have f3 := HX5.out.free 3; have z0 := cell_keep HZ0.out HB5.out; have z1 := cell_keep HZ1.out HB5.out; have z2 := cell_keep HZ2.out HB5.out; have z3 := cell_keep HZ3.out HB5.out; clear hown5 hb5 hgr5 hor5)
          refine ⟨⟨i + 1, e', some ⟨g5, 0, none⟩, c5, rfl, ?_, by omega, Lib.hid (fun g hg => ?_), HEN, Lib.hid (HX5.out.put4 _ _ _ _), Lib.hid ?_, Lib.hid (below_put4 HB5.out (Nat.le_refl _) _ _ _ _)⟩, by simp [sliceLen]; omega⟩
          · rw [HOK.out]
            first | rfl | (simp_all [okW]; done) | (simp_all [okW]; omega)
          · have hgg : g5 = g := by simpa [Value.ownBlock] using hg
            subst hgg
            exact whyNew HOR.out HNE.out HX.out.lt
          · rw [HTK.out]
            exact own_put4 HO5.out (fun hg => whyNew HOR.out HNE.out HX.out.lt (by simpa [Value.ownBlock] using hg)) _ _ _ _)
end Go.Proofs.YtecbdamimnllnaaDoor
/- Contracts of the reference: ReasonRow, ReasonsForm. The row of reasons is finite. -/
namespace Go.Proofs.YtecbdamimnllnaaDoor
open Go.RowKit

def RowPostR (L : List WV) (w : World) (e : Ending) (w' : World) : Prop :=
  Below w.heap.size w w' ∧ ((64 < L.length ∧ e = .returned (.tuple #[.slice none 0 0, .bool false])) ∨
    (L.length ≤ 64 ∧ ∃ A c, e = .returned (.tuple #[.slice A L.length c, .bool true]) ∧ w'.ownsRow w.heap.size 32 4 (.slice A L.length c) L.length (wcs L)))
theorem own_oneW (w : World) (e : WV) {B : Nat} (hB : B ≤ w.heap.size) : (w.alloc (.cells #[.int .i64 e.n, .int .i64 e.c, .int .i64 e.k, .slice e.A e.m e.cap] 32)).ownsRow B 32 4 (.slice (some ⟨w.heap.size, 0, none⟩) 1 1) 1 (wcs [e]) :=
  ⟨rfl, .inr ⟨w.heap.size, 1, #[.int .i64 e.n, .int .i64 e.c, .int .i64 e.k, .slice e.A e.m e.cap], rfl, hB, heap_alloc_new w _, Nat.le_refl _, by unfold maxLen; omega, rfl, rfl⟩⟩
theorem whyOne {b g : Nat} (h : b + 1 = g) : g ≠ b := by omega
set_option maxHeartbeats 1000000 in
set_option maxRecDepth 4000 in
theorem rRow_any (L : List WV) (e0 : WV) (w : World) (h : WhyCh w L) (h0 : L[0]? = some e0) : Calls Tryd.prog 25 #[wvv e0] w (RowPostR L w) := by
  have H := Lib.hid h
  have H0 := Lib.hid h0
  have HT1 : Hid (L.take 1 = [e0]) := Lib.hid (by rw [List.take_add_one, h0]; rfl)
  have HX : Hid (Blk ((w.alloc (.cells #[.int .i64 e0.n, .int .i64 e0.c, .int .i64 e0.k, .slice e0.A e0.m e0.cap] 32)).alloc (.cells #[.int .i64 e0.n, .int .i64 e0.c, .int .i64 e0.k, .slice e0.A e0.m e0.cap] 32)) w.heap.size 32 e0.cs) := Lib.hid ((Blk.new w #[.int .i64 e0.n, .int .i64 e0.c, .int .i64 e0.k, .slice e0.A e0.m e0.cap] 32).below (B := w.heap.size + 1) ((Below.refl _ _).alloc (by simp) _) (by omega))
  have HB : Hid (Below w.heap.size w ((w.alloc (.cells #[.int .i64 e0.n, .int .i64 e0.c, .int .i64 e0.k, .slice e0.A e0.m e0.cap] 32)).alloc (.cells #[.int .i64 e0.n, .int .i64 e0.c, .int .i64 e0.k, .slice e0.A e0.m e0.cap] 32))) := Lib.hid (below_new (below_new (Below.refl _ _) _) _)
  have HO : Hid (((w.alloc (.cells #[.int .i64 e0.n, .int .i64 e0.c, .int .i64 e0.k, .slice e0.A e0.m e0.cap] 32)).alloc (.cells #[.int .i64 e0.n, .int .i64 e0.c, .int .i64 e0.k, .slice e0.A e0.m e0.cap] 32)).ownsRow w.heap.size 32 4 (.slice (some ⟨w.heap.size + 1, 0, none⟩) 1 1) 1 (wcs [e0])) := Lib.hid (by
    have h1 := own_oneW (w.alloc (.cells #[.int .i64 e0.n, .int .i64 e0.c, .int .i64 e0.k, .slice e0.A e0.m e0.cap] 32)) e0 (B := w.heap.size) (by simp)
    rw [World.size_alloc] at h1
    exact h1)
  obtain ⟨x0, x1, x2, x3⟩ := box_why w e0 32
  clear h h0
  unfold wvv
  go_enter Tryd.func25, Tryd.ntmps25
  go_wp2_with fail
  clear x0 x1 x2 x3
  go_loopw [4] (fun x wr => ∃ (i : Nat) (e : WV) (A' : Option Addr) (c' : Nat), x = .slice A' (i + 1) c' ∧ i < 64 ∧ Hid (∀ g, (Value.slice A' (i + 1) c').ownBlock = some g → g ≠ w.heap.size) ∧ Hid (L[i]? = some e) ∧ Hid (Blk wr w.heap.size 32 e.cs) ∧ Hid (wr.ownsRow w.heap.size 32 4 (.slice A' (i + 1) c') (i + 1) (wcs (L.take (i + 1)))) ∧ Hid (Below w.heap.size w wr)) (fun x _ => 66 - sliceLen x)
  case atStart => exact ⟨0, e0, _, 1, rfl, by omega, Lib.hid (fun g hg => whyOne (by simpa [Value.ownBlock] using hg)), H0, HX, Lib.hid (by rw [HT1.out]; exact HO.out), HB⟩
  case round =>
    clear HX HB H0 HO HT1
    obtain ⟨i, e, A', c', rfl, hi, HNE, HE, HX, HO, HB⟩ := hrel
    have y0 := HX.out.cell (j := 0) rfl
    have y1 := HX.out.cell (j := 1) rfl
    have y2 := HX.out.cell (j := 2) rfl
    have y3 := HX.out.cell (j := 3) rfl
    have hsz := HB.out.size
    have HIL : Hid (i < L.length) := Lib.hid (by
      rcases Nat.lt_or_ge i L.length with h1 | h1
      · exact h1
      · have := HE.out; rw [List.getElem?_eq_none h1] at this; cases this)
    obtain ⟨en, ec, ek, eA, em, ecap⟩ := e
    simp only at y0 y1 y2 y3
    by_cases hm : em = 0
    · subst hm
      have HLL : Hid (i + 1 = L.length) := Lib.hid (H.out.last i _ HE.out rfl)
      go_wp2_with fail
      go_ret2
      refine ⟨HB.out, .inr ⟨by have := HLL.out; omega, A', c', by rw [← HLL.out]; rfl, ?_⟩⟩
      have h := HO.out
      rw [List.take_of_length_le (by have := HLL.out; omega), HLL.out] at h
      exact h
    · obtain ⟨bN, oN, e', hA, hn, z0, z1, z2, z3⟩ := H.out.next i _ HE.out hm
      simp only at hA
      subst hA
      have hm1 : (0 : Int) < (em : Int) := by omega
      have HEN := Lib.hid hn
      have HTK : Hid (L.take (i + 1 + 1) = L.take (i + 1) ++ [e']) := Lib.hid (by rw [List.take_add_one, hn]; rfl)
      have HIN : Hid (i + 1 < L.length) := Lib.hid (by
        rcases Nat.lt_or_ge (i + 1) L.length with h1 | h1
        · exact h1
        · rw [List.getElem?_eq_none h1] at hn; cases hn)
      have z0 := cell_keep z0 HB.out
      have z1 := cell_keep z1 HB.out
      have z2 := cell_keep z2 HB.out
      have z3 := cell_keep z3 HB.out
      have f0 := HX.out.free 0
      have f1 := HX.out.free 1
      have f2 := HX.out.free 2
      have f3 := HX.out.free 3
      have HXP := Lib.hid (HX.out.put4 (.int .i64 e'.n) (.int .i64 e'.c) (.int .i64 e'.k) (.slice e'.A e'.m e'.cap))
      have HOP := Lib.hid (own_put4 HO.out (b := w.heap.size) (fun hg => HNE.out _ hg rfl) (.int .i64 e'.n) (.int .i64 e'.c) (.int .i64 e'.k) (.slice e'.A e'.m e'.cap))
      have HBP := Lib.hid (below_put4 HB.out (Nat.le_refl _) (.int .i64 e'.n) (.int .i64 e'.c) (.int .i64 e'.k) (.slice e'.A e'.m e'.cap))
      clear hn hm
      go_upto_region 4 with fail
      clear z0 z1 z2 z3 f0 f1 f2 f3 y0 y1 y2 y3 HX HO HB
      generalize ((((wr.setCell ⟨w.heap.size, 0, none⟩ (.int .i64 e'.n)).setCell ⟨w.heap.size, 1, none⟩ (.int .i64 e'.c)).setCell ⟨w.heap.size, 2, none⟩ (.int .i64 e'.k)).setCell ⟨w.heap.size, 3, none⟩ (.slice e'.A e'.m e'.cap)) = w4 at HXP HOP HBP ⊢
      have q0 := HXP.out.cell (j := 0) rfl
      have q1 := HXP.out.cell (j := 1) rfl
      have q2 := HXP.out.cell (j := 2) rfl
      have q3 := HXP.out.cell (j := 3) rfl
      have hszp := HBP.out.size
      have HXL := Lib.hid HXP.out.lt
      by_cases h64 : i = 63
      · subst h64
        go_wp2_with (at_builtin; refine wpList_pushW w4 _ _ w.heap.size A' (63 + 1) c' (L.take (63 + 1)) e' HOP.out hszp (by omega) rfl rfl rfl rfl ?_; intro g5 c5 w5 hown5 hb5 hgr5 hor5; have HB5 := Lib.hid (HBP.out.trans hb5); clear hown5 hb5 hgr5 hor5)
        go_ret2
        exact ⟨HB5.out, .inl ⟨by have := HIN.out; omega, rfl⟩⟩
      · have h64' : ¬ (64 : Int) < (i : Int) + 1 + 1 := by omega
        have hi2 : i + 1 < 64 := by omega
        clear h64
        go_wp2_with (at_builtin; refine wpList_pushW w4 _ _ w.heap.size A' (i + 1) c' (L.take (i + 1)) e' HOP.out hszp (by omega) rfl rfl rfl rfl ?_; intro g5 c5 w5 hown5 hb5 hgr5 hor5; have HOR := Lib.hid hor5; have HO5 := Lib.hid hown5; have HB5 := Lib.hid (HBP.out.trans hb5); have HX5 : Hid (Blk w5 w.heap.size 32 e'.cs) := Lib.hid (show w5.heap[w.heap.size]? = _ from (hgr5.block _ HXP.out.lt (fun h => HNE.out _ h.symm rfl)).trans HXP.out); clear hown5 hb5 hgr5 hor5)
        refine ⟨⟨i + 1, e', some ⟨g5, 0, none⟩, c5, rfl, hi2, Lib.hid (fun g hg => ?_), HEN, HX5, Lib.hid (by rw [HTK.out]; exact HO5.out), HB5⟩, by simp [sliceLen]; omega⟩
        have hgg : g5 = g := by simpa [Value.ownBlock] using hg
        subst hgg
        exact whyNew HOR.out HNE.out HXL.out
/-! ### ReasonsForm -/
theorem form_ways (n ec k : Int) (A : Option Addr) (em cap : Nat) : (okW ⟨n, ec, k, A, em, cap⟩ = false ∧ ec < 1) ∨ (okW ⟨n, ec, k, A, em, cap⟩ = false ∧ ¬ ec < 1 ∧ 5 < ec) ∨ (okW ⟨n, ec, k, A, em, cap⟩ = false ∧ ec = 5 ∧ ((em : Int) != 1) = true) ∨ (okW ⟨n, ec, k, A, em, cap⟩ = true ∧ ec = 5 ∧ ((em : Int) != 1) = false) ∨
    (okW ⟨n, ec, k, A, em, cap⟩ = false ∧ ¬ ec < 1 ∧ ¬ 5 < ec ∧ (ec == 5) = false ∧ ec < 5 ∧ 0 < (em : Int)) ∨ (okW ⟨n, ec, k, A, em, cap⟩ = true ∧ ¬ ec < 1 ∧ ¬ 5 < ec ∧ (ec == 5) = false ∧ ec < 5 ∧ ¬ 0 < (em : Int)) := by
  have e : okW ⟨n, ec, k, A, em, cap⟩ = (decide (1 ≤ ec) && decide (ec ≤ 5) && decide (em = if ec = 5 then 1 else 0)) := rfl
  by_cases h1 : ec < 1
  · exact .inl ⟨by rw [e, decide_eq_false (by omega)]; rfl, h1⟩
  · by_cases h2 : 5 < ec
    · exact .inr (.inl ⟨by rw [e, decide_eq_false (show ¬ ec ≤ 5 by omega)]; simp, h1, h2⟩)
    · by_cases h3 : ec = 5
      · by_cases h4 : em = 1
        · exact .inr (.inr (.inr (.inl ⟨by rw [e]; simp [h3, h4], h3, by rw [h4]; rfl⟩)))
        · exact .inr (.inr (.inl ⟨by rw [e]; simp [h3, h4], h3, by simp; omega⟩))
      · by_cases h4 : em = 0
        · exact .inr (.inr (.inr (.inr (.inr ⟨by rw [e]; simp [h3, h4]; omega, h1, h2, by simpa using h3, by omega, by omega⟩))))
        · exact .inr (.inr (.inr (.inr (.inl ⟨by rw [e]; simp [h3, h4], h1, h2, by simpa using h3, by omega, by omega⟩))))
theorem rd_why {w : World} {A : Option Addr} {L : List WV} {i : Nat} {e : WV} (h : Rd w A (wcs L)) (hi : L[i]? = some e) : ∃ b o, A = some ⟨b, o, none⟩ ∧ w.cell? ⟨b, o + i * 4, none⟩ = some (.int .i64 e.n) ∧ w.cell? ⟨b, o + i * 4 + 1, none⟩ = some (.int .i64 e.c) ∧ w.cell? ⟨b, o + i * 4 + 2, none⟩ = some (.int .i64 e.k) ∧ w.cell? ⟨b, o + i * 4 + 3, none⟩ = some (.slice e.A e.m e.cap) := by
  obtain ⟨h0, h1, h2, h3⟩ := wcs_at hi
  have hl : 0 < (wcs L).length := by
    have := (List.getElem?_eq_some_iff.1 h0).1
    omega
  obtain ⟨b, o, hA, _, hc⟩ := h hl
  exact ⟨b, o, hA, hc _ _ h0, hc _ _ h1, hc _ _ h2, hc _ _ h3⟩
set_option maxHeartbeats 1000000 in
set_option maxRecDepth 4000 in
theorem rForm_any {A : Option Addr} {n c : Nat} (L : List WV) (w : World) (hR : Rd w A (wcs L)) (hn : L.length = n) (hb : n ≤ 64) :
    Calls Tryd.prog 26 #[.slice A n c] w fun e w' => e = .returned (.bool (allOk L)) ∧ Below w.heap.size w w' := by
  have HR := Lib.hid hR
  have HN := Lib.hid hn
  clear hR hn
  go_enter Tryd.func26, Tryd.ntmps26
  go_wp2_with fail
  go_loopw [4, 7] (fun _ x wr => ∃ (i : Nat), x = .int .i64 (i : Int) ∧ i ≤ n ∧ Hid (allOk (L.take i) = true) ∧ Hid (Below w.heap.size w wr)) (fun _ x _ => n - (intOf x).toNat)
  case atStart => exact ⟨0, rfl, Nat.zero_le _, Lib.hid rfl, Lib.hid (Below.refl _ _)⟩
  case round =>
    obtain ⟨i, rfl, hi, HA, HB⟩ := hrel
    by_cases hlt : i < n
    · obtain ⟨⟨en, ec, ek, eA, em, ecap⟩, he⟩ : ∃ e, L[i]? = some e := ⟨L[i]'(by rw [HN.out]; exact hlt), List.getElem?_eq_getElem (by rw [HN.out]; exact hlt)⟩
      obtain ⟨b, o, rfl, z0, z1, z2, z3⟩ := rd_why (HR.out.below HB.out) he
      simp only at z0 z1 z2 z3
      have HTK : Hid (allOk (L.take (i + 1)) = okW ⟨en, ec, ek, eA, em, ecap⟩) := Lib.hid (by rw [List.take_add_one, he]; show allOk (_ ++ [_]) = _; rw [allOk_snoc, HA.out, Bool.true_and])
      have HBN := Lib.hid (below_new HB.out (.cells #[.int .i64 en, .int .i64 ec, .int .i64 ek, .slice eA em ecap] 32))
      have HNO : Hid (okW ⟨en, ec, ek, eA, em, ecap⟩ = false → allOk L = false) := Lib.hid (fun h => by
        unfold allOk
        rw [List.all_eq_false]
        exact ⟨_, List.mem_of_getElem? he, by rw [h]; simp⟩)
      clear he
      rcases form_ways en ec ek eA em ecap with ⟨h0, h1⟩ | ⟨h0, h1, h2⟩ | ⟨h0, rfl, h1⟩ | ⟨h0, rfl, h1⟩ | ⟨h0, h1, h2, h3, h4, h5⟩ | ⟨h0, h1, h2, h3, h4, h5⟩
      all_goals (
        have HOK := Lib.hid h0
        clear h0
        go_wp2_with fail
        first
          | exact ⟨⟨i + 1, valW i, hlt, Lib.hid (HTK.out.trans HOK.out), HBN⟩, measW hlt⟩
          | (go_ret; exact ⟨ret_bool (HNO.out HOK.out).symm, HBN.out⟩))
    · obtain rfl : i = n := by omega
      have HE : Hid (allOk L = true) := Lib.hid (by rw [← List.take_of_length_le (l := L) (i := i) (by rw [HN.out]; exact Nat.le_refl _)]; exact HA.out)
      go_wp2_with fail
      go_ret
      exact ⟨ret_bool HE.out.symm, HB.out⟩
end Go.Proofs.YtecbdamimnllnaaDoor
