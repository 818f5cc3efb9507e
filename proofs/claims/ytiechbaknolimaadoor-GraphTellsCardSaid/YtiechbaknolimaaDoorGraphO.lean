/- Contract: the reference's GraphOf. Rows are at most 64 sets below 2^64. -/
import Derived.Test.YtiechbaknolimaaDoorGraphS
namespace Go.Proofs.YtiechbaknolimaaDoor
open Go.RowKit

section
variable {ops : Array Oper} {rest : List Oper} {o : Oper} {a : Act} {Q : Exit → Act → World → Prop}
/-- 'out = append(out, Edge{x, y})', out the call's own, and what else is kept. -/
theorem wpList_pushE2 (wr : World) (s x : Operand) (B : Nat) (A : Option Addr) (n c : Nat) (E : List EdgeT) (e : EdgeT)
    (hown : wr.ownsRow B 69 2 (.slice A n c) n (eV E)) (hB : B ≤ wr.heap.size) (hn : (n + 1) * 16 ≤ 140737488355328)
    (hgd : o.guard = none) (ho : o.op = .call { callee := .builtin .append, args := #[s, x], argTypes := #[23, 23] })
    (hs : a.eval s = .slice A n c) (hx : a.eval x = .slice (some ⟨wr.heap.size, 0, none⟩) 1 1)
    (h : ∀ g c' w', w'.ownsRow B 69 2 (.slice (some ⟨g, 0, none⟩) (n + 1) c') (n + 1) (eV (E ++ [e])) → Below B wr w' → wr.grownBy w' (Value.slice A n c).ownBlock → ((Value.slice A n c).ownBlock = some g ∨ wr.heap.size < g) → wpList Tryd.prog ops Q rest (a.put o.dst (.slice (some ⟨g, 0, none⟩) (n + 1) c')) w') :
    wpList Tryd.prog ops Q (o :: rest) a (wr.alloc (.cells #[.int .i64 e.1, .int .i64 e.2] 69)) := by
  obtain ⟨ht, i, hi, hz, h1, hb, hzs⟩ := elEdge
  have hB' : B ≤ (wr.alloc (.cells #[.int .i64 e.1, .int .i64 e.2] 69)).heap.size := by simp; omega
  have hbl : Below wr.heap.size wr (wr.alloc (.cells #[.int .i64 e.1, .int .i64 e.2] 69)) := below_new (Below.refl _ _) _
  have ho2 : (wr.alloc (.cells #[.int .i64 e.1, .int .i64 e.2] 69)).ownsRow B 69 2 (.slice A n c) n (eV E) := own_lt hown hbl (fun g hg => (hown.lt g hg).2)
  refine wpList_append_lies _ hgd s x 23 ho B 69 i _ 2 16 ht hi hz h1 hb hzs (by decide) (.slice A n c) n (eV E) hs ho2 ⟨wr.heap.size, 0, none⟩ 1 1 [.int .i64 e.1, .int .i64 e.2] hx rfl two_cells (by intro u hu; simp at hu; rcases hu with rfl | rfl <;> rfl) (by decide) (by unfold maxLen; omega) hn hB' _ rfl ?_
  intro g cap w' hown' hg hat _
  refine h g cap w' (by rw [eV_snoc]; exact hown') ?_ ?_ ?_
  · exact ((Below.refl B wr).alloc hB _).grown hg hB' (fun k hk => (hown.lt k hk).1)
  · refine ⟨hg.os, hg.tape, hg.output, Nat.le_trans hbl.size hg.size, fun k hk hne => ?_⟩
    rw [hg.block k (by simp; omega) hne]
    exact hbl.block k hk
  · rcases hat with hat | hat
    · exact .inl hat
    · right; rw [hat]; simp
end
theorem edgesAt_len (r : List Nat) (i : Nat) : (edgesAt r i).length = (nums (rowAt r i)).length := by unfold edgesAt; rw [List.length_map]
def edgesTo (r : List Nat) (i : Nat) : List EdgeT := (List.range i).flatMap (edgesAt r)
theorem edgesTo_succ (r : List Nat) (i : Nat) : edgesTo r (i + 1) = edgesTo r i ++ edgesAt r i := by unfold edgesTo; rw [List.range_succ, List.flatMap_append]; simp
theorem edgesTo_len (r : List Nat) : ∀ i, (edgesTo r i).length ≤ i * 64
  | 0 => by simp [edgesTo]
  | i + 1 => by
    have := edgesTo_len r i
    have h2 := nums_len (rowAt r i)
    rw [edgesTo_succ, List.length_append, edgesAt_len]
    omega
theorem edgesAt_take {r : List Nat} {i j x : Nat} (h : (nums (rowAt r i))[j]? = some x) : (edgesAt r i).take (j + 1) = (edgesAt r i).take j ++ [((i : Int), (x : Int))] := by
  have hh : (edgesAt r i)[j]? = some ((i : Int), (x : Int)) := by unfold edgesAt; rw [List.getElem?_map, h]; rfl
  obtain ⟨hl, he⟩ := List.getElem?_eq_some_iff.1 hh
  rw [List.take_succ_eq_append_getElem hl, he]
theorem own_baseK {w : World} {B B' size : Nat} {e : TypeId} {v : Value} {n : Nat} {xs : List Value} (h : w.ownsRow B e size v n xs) (hB : B' ≤ B) : w.ownsRow B' e size v n xs := by
  refine ⟨h.1, ?_⟩
  rcases h.2 with h' | ⟨g, cap, cur, h1, h2, h3⟩
  · exact .inl h'
  · exact .inr ⟨g, cap, cur, h1, Nat.le_trans hB h2, h3⟩
def GOfPost (A : Option Addr) (n c p m : Nat) (r : List Nat) (w : World) (e : Ending) (w' : World) : Prop :=
  ∃ A2 c2, e = .returned (gv A n c A2 (edgesOf r).length c2 p m) ∧ w'.ownsRow w.heap.size 69 2 (.slice A2 (edgesOf r).length c2) (edgesOf r).length (eV (edgesOf r)) ∧ Below w.heap.size w w'
set_option maxRecDepth 100000 in
set_option maxHeartbeats 2000000 in
theorem rGraphOf_any {A AR : Option Addr} {n c j cr : Nat} (r : List Nat) (p m : Nat) (w : World) (hr : Rd w AR (r.map uv)) (hj : r.length = j) (hj64 : j ≤ 64) (hb : Rows64 r) :
    Calls Tryd.prog 15 #[.slice A n c, .slice AR j cr, .int .u64 (p : Int), .int .u64 (m : Int)] w (GOfPost A n c p m r w) := by
  have HR := Lib.hid hr
  have HJ := Lib.hid hj
  have HB := Lib.hid hb
  clear hr hj hb
  go_enter Tryd.func15, Tryd.ntmps15
  have hR1 := Blk.new w #[.slice none 0 0, .slice none 0 0, .int .u64 0, .int .u64 0] 26
  have hM1 := Blk.new (w.alloc (.cells #[.slice none 0 0, .slice none 0 0, .int .u64 0, .int .u64 0] 26)) #[.slice A n c, .slice none 0 0, .int .u64 (p : Int), .int .u64 (m : Int)] 26
  have hbl : Below w.heap.size w ((w.alloc (.cells #[.slice none 0 0, .slice none 0 0, .int .u64 0, .int .u64 0] 26)).alloc (.cells #[.slice A n c, .slice none 0 0, .int .u64 (p : Int), .int .u64 (m : Int)] 26)) := below_new (below_new (Below.refl _ _) _) _
  have HM := Lib.hid hM1
  have HRS := Lib.hid (hR1.below (below_new (Below.refl _ _) (.cells #[.slice A n c, .slice none 0 0, .int .u64 (p : Int), .int .u64 (m : Int)] 26)) hR1.lt)
  have BC := Lib.hid hbl
  have HBM : Hid ((w.alloc (.cells #[.slice none 0 0, .slice none 0 0, .int .u64 0, .int .u64 0] 26)).heap.size = w.heap.size + 1) := Lib.hid (by simp)
  clear hR1 hM1 hbl
  go_upto_region 2 with fail
  generalize hwc : (w.alloc (.cells #[.slice none 0 0, .slice none 0 0, .int .u64 0, .int .u64 0] 26)).alloc (.cells #[.slice A n c, .slice none 0 0, .int .u64 (p : Int), .int .u64 (m : Int)] 26) = wc at *
  clear hwc
  have hbm : (w.alloc (.cells #[.slice none 0 0, .slice none 0 0, .int .u64 0, .int .u64 0] 26)).heap.size = w.heap.size + 1 := HBM.out
  rw [hbm] at HM
  generalize hBm : w.heap.size + 1 = Bm at *
  have HLE : Hid (w.heap.size < Bm ∧ Bm < wc.heap.size) := Lib.hid ⟨by omega, HM.out.lt⟩
  have neR : w.heap.size ≠ Bm := by omega
  clear hBm hbm HBM
  go_wp2_with fail
  go_loopw [10, 12, 19] (fun _ _ i wr => ∃ q : Nat, q ≤ j ∧ i = .int .i64 (q : Int) ∧ ∃ AE kE cE, kE ≤ q * 64 ∧ Hid ((edgesTo r q).length = kE) ∧ Hid (Blk wr Bm 26 [.slice A n c, .slice AE kE cE, .int .u64 (p : Int), .int .u64 (m : Int)]) ∧ Hid (wr.ownsRow wc.heap.size 69 2 (.slice AE kE cE) kE (eV (edgesTo r q))) ∧ Hid (wc.grownBy wr (some Bm))) (fun _ _ i _ => j - (intOf i).toNat)
  case atStart => exact ⟨0, by omega, rfl, none, 0, 0, by omega, Lib.hid rfl, HM, Lib.hid (World.ownsRow_nil _ _ _ _), Lib.hid ⟨rfl, rfl, rfl, Nat.le_refl _, fun _ _ _ => rfl⟩⟩
  case round =>
    obtain ⟨q, hq, rfl, AE, kE, cE, hkq, hkE, hm, hown, hgr⟩ := hrel
    have BW := Lib.hid (BC.out.grown hgr.out BC.out.size (fun k hk => by injection hk with hk; have := HLE.out; omega))
    by_cases hlt : q < j
    · obtain ⟨x, hx⟩ : ∃ x, r[q]? = some x := ⟨_, List.getElem?_eq_getElem (by rw [HJ.out]; exact hlt)⟩
      obtain ⟨b, off, rfl, y1⟩ := (HR.out.below BW.out).at_ (k := q) (by rw [List.length_map, HJ.out]; exact hlt)
      rw [List.getElem_map, (List.getElem?_eq_some_iff.1 hx).2] at y1
      have hrow : rowAt r q = x := by unfold rowAt; rw [hx]; rfl
      have HNB := Lib.hid (rNumbers_any x (by rw [← hrow]; exact HB.out q) wr)
      have HROW := Lib.hid hrow
      have hnl := nums_len x
      have hq2 : (q : Int) < (j : Int) := by omega
      unfold uv at y1
      clear hx hrow
      go_wp2_with fail
      refine HNB.out.mono ?_
      rintro e w5 ⟨AN, cN, rfl, hownN, hb5⟩
      have HGR5 := Lib.hid (gb_below hgr.out (hb5.mono hgr.out.size))
      have HM5 := Lib.hid (hm.out.below hb5 hm.out.lt)
      have HO5 := Lib.hid (own_lt hown.out hb5 (fun g hg => (hown.out.lt g hg).2))
      have HNE5 : Hid (∀ g, (Value.slice (some ⟨b, off, none⟩) 0 0).ownBlock = some g → True) := Lib.hid (fun _ _ => trivial)
      have HND : Hid (∀ g, (Value.slice AN (nums x).length cN).ownBlock = some g → wr.heap.size ≤ g ∧ g < w5.heap.size) := Lib.hid (fun g hg => hownN.lt g hg)
      have HNO := Lib.hid hownN
      have HSE : Hid (∀ g, (Value.slice AE kE cE).ownBlock = some g → g < wr.heap.size) := Lib.hid (fun g hg => (hown.out.lt g hg).2)
      have HBR5 : Hid (Bm < wr.heap.size) := Lib.hid hm.out.lt
      have HTO := Lib.hid (edgesTo_succ r q)
      clear hm hown hb5 hownN hgr HNB HNE5
      go_wp2_with fail
      generalize wr = wq at *
      go_loopw [12, 28] (fun _ i wi => ∃ t : Nat, t ≤ (nums x).length ∧ i = .int .i64 (t : Int) ∧ ∃ AI cI, Hid (Blk wi Bm 26 [.slice A n c, .slice AI (kE + t) cI, .int .u64 (p : Int), .int .u64 (m : Int)]) ∧ Hid (wi.ownsRow wc.heap.size 69 2 (.slice AI (kE + t) cI) (kE + t) (eV (edgesTo r q ++ (edgesAt r q).take t))) ∧ Hid (wc.grownBy wi (some Bm)) ∧ Hid (wi.ownsRow wq.heap.size 3 1 (.slice AN (nums x).length cN) (nums x).length ((nums x).map nv)) ∧ Hid (∀ g, (Value.slice AI (kE + t) cI).ownBlock = some g → (Value.slice AN (nums x).length cN).ownBlock ≠ some g) ∧ Hid (w5.heap.size ≤ wi.heap.size)) (fun _ i _ => (nums x).length - (intOf i).toNat)
      case atStart => exact ⟨0, by omega, rfl, AE, cE, HM5, by simpa using HO5, HGR5, HNO, Lib.hid (fun g hg he => by have h1 := HSE.out g hg; have h2 := (HND.out g he).1; omega), Lib.hid (Nat.le_refl _)⟩
      case round =>
        obtain ⟨t, ht, rfl, AI, cI, hmi, howni, hgri, hnum, hnei, hsi⟩ := hrel
        have m1 := hmi.out.cell (j := 0) rfl
        have m2 := hmi.out.cell (j := 1) rfl
        have m3 := hmi.out.cell (j := 2) rfl
        have m4 := hmi.out.cell (j := 3) rfl
        have mf := hmi.out.free
        by_cases hlt2 : t < (nums x).length
        · obtain ⟨y, hy⟩ : ∃ y, (nums x)[t]? = some y := ⟨_, List.getElem?_eq_getElem hlt2⟩
          obtain ⟨bN, oN, hAN, z1⟩ := (Rd.of_own hnum.out).at_ (k := t) (by rw [List.length_map]; exact hlt2)
          subst hAN
          rw [List.getElem_map, (List.getElem?_eq_some_iff.1 hy).2] at z1
          have ht2 : (t : Int) < ((nums x).length : Int) := by omega
          have HTK : Hid ((edgesAt r q).take (t + 1) = (edgesAt r q).take t ++ [((q : Int), (y : Int))]) := Lib.hid (edgesAt_take (by rw [HROW.out]; exact hy))
          have hsz : wc.heap.size ≤ wr.heap.size := hgri.out.size
          have HT9 : Hid (∀ w9, Below wc.heap.size wr w9 → w9.cell? ⟨Bm, 1, none⟩ = some (.slice AI (kE + t) cI) ∧ w9.frozen? ⟨Bm, 1, none⟩ = false) := Lib.hid (fun w9 hb9 => by
            have hh := hmi.out.below hb9 HLE.out.2
            exact ⟨hh.cell (j := 1) rfl, hh.free 1⟩)
          unfold nv at z1
          clear hy
          go_wp2_with (at_builtin; refine wpList_pushE2 wr _ _ wc.heap.size AI (kE + t) cI (edgesTo r q ++ (edgesAt r q).take t) ((q : Int), (y : Int)) howni.out hsz (by omega) rfl rfl rfl rfl ?_; intro g9 c9 w9 hown9 hb9 hgr9 hat9; obtain ⟨t1, tf⟩ := HT9.out w9 hb9)
          have HBM9 : Hid (Blk (w9.setCell ⟨Bm, 1, none⟩ (.slice (some ⟨g9, 0, none⟩) (kE + t + 1) c9)) Bm 26 [.slice A n c, .slice (some ⟨g9, 0, none⟩) (kE + t + 1) c9, .int .u64 (p : Int), .int .u64 (m : Int)]) := Lib.hid ((hmi.out.below hb9 HLE.out.2).same 1 _)
          have HOW : Hid ((w9.setCell ⟨Bm, 1, none⟩ (.slice (some ⟨g9, 0, none⟩) (kE + t + 1) c9)).ownsRow wc.heap.size 69 2 (.slice (some ⟨g9, 0, none⟩) (kE + t + 1) c9) (kE + t + 1) (eV (edgesTo r q ++ (edgesAt r q).take (t + 1)))) := Lib.hid (by
            rw [HTK.out, ← List.append_assoc]
            exact ownsRow_setCell_below hown9 (a := ⟨Bm, 1, none⟩) HLE.out.2 _)
          have HGR : Hid (wc.grownBy (w9.setCell ⟨Bm, 1, none⟩ (.slice (some ⟨g9, 0, none⟩) (kE + t + 1) c9)) (some Bm)) := Lib.hid (gb_set (gb_below hgri.out hb9) 1 _)
          have HNU : Hid ((w9.setCell ⟨Bm, 1, none⟩ (.slice (some ⟨g9, 0, none⟩) (kE + t + 1) c9)).ownsRow wq.heap.size 3 1 (.slice (some ⟨bN, oN, none⟩) (nums x).length cN) (nums x).length ((nums x).map nv)) := Lib.hid (ownsRow_setCell_other (hnum.out.kept hgr9 (.inr (fun he => hnei.out bN he.symm rfl))) (a := ⟨Bm, 1, none⟩) (fun he => by
            have h1 := (HND.out bN rfl).1
            have h2 := HBR5.out
            injection he with he
            simp only at he
            omega) _)
          have HNE : Hid (∀ g, (Value.slice (some ⟨g9, 0, none⟩) (kE + t + 1) c9).ownBlock = some g → (Value.slice (some ⟨bN, oN, none⟩) (nums x).length cN).ownBlock ≠ some g) := Lib.hid (fun g hg => by
            injection hg with hg
            subst hg
            rcases hat9 with hat | hat
            · exact hnei.out _ hat
            · intro he
              have h1 := (HND.out _ he).2
              have h2 := hsi.out
              simp only at h1 hat
              omega)
          have HSI : Hid (w5.heap.size ≤ (w9.setCell ⟨Bm, 1, none⟩ (.slice (some ⟨g9, 0, none⟩) (kE + t + 1) c9)).heap.size) := Lib.hid (by have h1 := hgr9.size; have h2 := hsi.out; simp [World.setCell]; omega)
          clear hown9 hb9 hgr9 hat9
          go_roundw
          case rel => exact ⟨t + 1, by omega, by go_num, some ⟨g9, 0, none⟩, c9, HBM9, HOW, HGR, HNU, HNE, HSI⟩
          case measure => simp [intOf]; omega
        · obtain rfl : t = (nums x).length := by omega
          have htn : ¬ ((nums x).length : Int) < ((nums x).length : Int) := by omega
          have hal : (edgesAt r q).length = (nums x).length := by rw [edgesAt_len, HROW.out]
          have HE : Hid (edgesTo r q ++ (edgesAt r q).take (nums x).length = edgesTo r (q + 1)) := Lib.hid (by rw [HTO.out, List.take_of_length_le (by omega)])
          have HOW : Hid (wr.ownsRow wc.heap.size 69 2 (.slice AI (kE + (nums x).length) cI) (kE + (nums x).length) (eV (edgesTo r (q + 1)))) := Lib.hid (by have := howni.out; rwa [HE.out] at this)
          have HLN : Hid ((edgesTo r (q + 1)).length = kE + (nums x).length) := Lib.hid (by have := HOW.out.1; rw [eV_len] at this; omega)
          clear howni hnum hnei hal
          go_wp2_with fail
          go_roundw
          case rel => exact ⟨q + 1, by omega, by go_num, AI, kE + (nums x).length, cI, by omega, HLN, hmi, HOW, hgri⟩
          case measure => simp [intOf]; omega
    · obtain rfl : q = j := by omega
      have hqn : ¬ (q : Int) < (q : Int) := by omega
      have m1 := hm.out.cell (j := 0) rfl
      have m2 := hm.out.cell (j := 1) rfl
      have m3 := hm.out.cell (j := 2) rfl
      have m4 := hm.out.cell (j := 3) rfl
      have R9 := Lib.hid (HRS.out.gb hgr.out neR)
      have r1 := R9.out.cell (j := 0) rfl
      have r2 := R9.out.cell (j := 1) rfl
      have r3 := R9.out.cell (j := 2) rfl
      have r4 := R9.out.cell (j := 3) rfl
      have rf := R9.out.free
      have HE : Hid (edgesTo r q = edgesOf r) := Lib.hid (by unfold edgesTo edgesOf; rw [HJ.out])
      go_wp2_with fail
      have RZ := Lib.hid (R9.out.put4 (.slice A n c) (.slice AE kE cE) (.int .u64 (p : Int)) (.int .u64 (m : Int)))
      have BZ := Lib.hid (below_put4 BW.out (Nat.le_refl _) (.slice A n c) (.slice AE kE cE) (.int .u64 (p : Int)) (.int .u64 (m : Int)))
      have EZ := Lib.hid (own_baseK (own_put4 (b := w.heap.size) hown.out (fun he => by have h1 := (hown.out.lt _ he).1; have h2 := HLE.out; omega) (.slice A n c) (.slice AE kE cE) (.int .u64 (p : Int)) (.int .u64 (m : Int))) BC.out.size)
      generalize ((((wr.setCell ⟨w.heap.size, 0, none⟩ (.slice A n c)).setCell ⟨w.heap.size, 1, none⟩ (.slice AE kE cE)).setCell ⟨w.heap.size, 2, none⟩ (.int .u64 (p : Int))).setCell ⟨w.heap.size, 3, none⟩ (.int .u64 (m : Int))) = wz at *
      have q1 := RZ.out.cell (j := 0) rfl
      have q2 := RZ.out.cell (j := 1) rfl
      have q3 := RZ.out.cell (j := 2) rfl
      have q4 := RZ.out.cell (j := 3) rfl
      refine bodyPost_ret (v := .agg #[.slice A n c, .slice AE kE cE, .int .u64 (p : Int), .int .u64 (m : Int)]) (by simp [results, Tryd.results15, go_sem, q1, q2, q3, q4]) rfl ?_
      refine ⟨AE, cE, ?_, by rw [← HE.out, hkE.out]; exact EZ.out, BZ.out⟩
      rw [← HE.out, hkE.out]
      rfl
end Go.Proofs.YtiechbaknolimaaDoor
