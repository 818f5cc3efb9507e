/- Contracts: glob.parse: a pattern taken apart. -/
import Derived.Test.YtcodncddaemhlaaDoorGlob4
import Derived.Maps.AppendAt
import Derived.OneCell
namespace Go.Proofs.YtcodncddaemhlaaDoor
open Go.RowKit

/-- A piece as it lies: its mark, its words. -/
structure PW where
  any : Bool
  ws : List Nat
def pcs (P : List PW) : List Value := P.flatMap fun p => pieceL p.any p.ws
theorem pcs_snoc (P : List PW) (p : PW) : pcs (P ++ [p]) = pcs P ++ pieceL p.any p.ws := by unfold pcs; rw [List.flatMap_append]; simp
def PwQ (p : PW) (g : GQ) : Prop := p.any = g.p.any ∧ Wd p.ws g.p.set
def Pws (P : List PW) (M : List GQ) : Prop := P.length = M.length ∧ ∀ (i : Nat) (p : PW) (g : GQ), P[i]? = some p → M[i]? = some g → PwQ p g
theorem Pws.nil : Pws [] [] := ⟨rfl, fun i p g h => by simp at h⟩
theorem Pws.snoc {P : List PW} {M : List GQ} {p : PW} {g : GQ} (h : Pws P M) (hp : PwQ p g) : Pws (P ++ [p]) (M ++ [g]) := by
  refine ⟨by simp [h.1], fun i x y hx hy => ?_⟩
  by_cases hi : i < P.length
  · rw [List.getElem?_append_left hi] at hx
    rw [List.getElem?_append_left (by rw [← h.1]; exact hi)] at hy
    exact h.2 i x y hx hy
  · rw [List.getElem?_append_right (by omega)] at hx
    rw [List.getElem?_append_right (by rw [← h.1]; omega), ← h.1] at hy
    cases hk : i - P.length with
    | zero =>
      rw [hk] at hx hy
      simp at hx hy
      subst hx; subst hy
      exact hp
    | succ k => rw [hk] at hx; simp at hx
theorem parse_step {t r : List UInt8} {M : List GQ} {c : UInt8} {s' : List UInt8} {q : GQ} (h : parseG t = (parseG (c :: s')).map (M ++ ·)) (hs : stepG c s' = some (q, r)) : parseG t = (parseG r).map ((M ++ [q]) ++ ·) := by
  rw [h, parseG_yes hs, Option.map_map]
  congr 1
  funext x
  simp
theorem parse_no {t : List UInt8} {M : List GQ} {c : UInt8} {s' : List UInt8} (h : parseG t = (parseG (c :: s')).map (M ++ ·)) (hs : stepG c s' = none) : parseG t = none := by
  rw [h, parseG_no hs]
  rfl
theorem own_belowG {w w' : World} {B : Nat} {e : TypeId} {sz : Nat} {v : Value} {n : Nat} {xs : List Value} (h : w.ownsRow B e sz v n xs) (hb : Below w.heap.size w w') : w'.ownsRow B e sz v n xs :=
  h.kept (w' := w') (row := none) ⟨hb.os, hb.tape, hb.output, hb.size, fun k hk _ => hb.block k hk⟩ (by
    cases hv : v.ownBlock with
    | none => exact .inl rfl
    | some g => exact .inr (by simp))
theorem pcInfo : ∃ i, Tryd.prog.info? 141 = some i ∧ i.zero = some (.agg #[.bool false, .int .u64 0, .int .u64 0, .int .u64 0, .int .u64 0]) ∧ i.size = 5 ∧ i.bytes = 40 := by
  have h : (Tryd.prog.info? 141).map (fun i => (i.zero, i.size, i.bytes)) = some (some (.agg #[.bool false, .int .u64 0, .int .u64 0, .int .u64 0, .int .u64 0]), 5, 40) := by kernel_rfl
  cases hi : Tryd.prog.info? 141 with
  | none => rw [hi] at h; cases h
  | some i =>
    rw [hi] at h
    simp at h
    exact ⟨i, rfl, h⟩
/-- 'append(out, p)', out the call's own. -/
theorem wpList_pushP {ops : Array Oper} {rest : List Oper} {o : Oper} {a : Act} {Q : Exit → Act → World → Prop} (wr : World) (s x : Operand) (B : Nat) (A : Option Addr) (n c : Nat) (L : List PW) (an : Bool) (x0 x1 x2 x3 : Nat)
    (hown : wr.ownsRow B 141 5 (.slice A n c) n (pcs L)) (hB : B ≤ wr.heap.size) (hn : (n + 1) * 40 ≤ 140737488355328)
    (hgd : o.guard = none) (ho : o.op = .call { callee := .builtin .append, args := #[s, x], argTypes := #[104, 104] })
    (hs : a.eval s = .slice A n c) (hx : a.eval x = .slice (some ⟨wr.heap.size, 0, none⟩) 1 1)
    (h : ∀ g c' w', w'.ownsRow B 141 5 (.slice (some ⟨g, 0, none⟩) (n + 1) c') (n + 1) (pcs (L ++ [⟨an, [x0, x1, x2, x3]⟩])) → Below B wr w' → wpList Tryd.prog ops Q rest (a.put o.dst (.slice (some ⟨g, 0, none⟩) (n + 1) c')) w') :
    wpList Tryd.prog ops Q (o :: rest) a (wr.alloc (.cells #[.bool an, .int .u64 (x0 : Int), .int .u64 (x1 : Int), .int .u64 (x2 : Int), .int .u64 (x3 : Int)] 141)) := by
  obtain ⟨i, hi, hz, h1, hb⟩ := pcInfo
  have ht : Tryd.prog.underlying 104 = some (.slice 141) := by kernel_rfl
  have hB' : B ≤ (wr.alloc (.cells #[.bool an, .int .u64 (x0 : Int), .int .u64 (x1 : Int), .int .u64 (x2 : Int), .int .u64 (x3 : Int)] 141)).heap.size := by simp; omega
  refine wpList_append_own_at _ hgd s x 104 ho B 141 i _ 5 40 ht hi hz h1 hb rfl (by decide) (.slice A n c) n (pcs L) hs (hown.alloc _) ⟨wr.heap.size, 0, none⟩ 1 1 (pieceL an [x0, x1, x2, x3]) hx rfl ?_ (by intro u hu; simp [pieceL] at hu; rcases hu with rfl | rfl | rfl | rfl | rfl <;> rfl) (by unfold maxLen; omega) hn hB' ?_
  · intro j u hj
    rw [Addr.add_lit, World.cell?_alloc_at _ _ _ _ rfl, Nat.zero_add]
    simp only [pieceL] at hj
    simpa using hj
  · intro v' w' hown' hg hnil hor
    have hne : v' ≠ .slice none 0 0 := fun e => by have := (hnil.1 e).2; omega
    rcases hown'.2 with ⟨h', _⟩ | ⟨g, cap, cur, h', _⟩
    · exact absurd h' hne
    · subst h'
      refine h g cap w' (by rw [pcs_snoc]; exact hown') ?_
      exact ((Below.refl B wr).alloc hB _).grown hg hB' (fun k hk => (hown.lt k hk).1)
def ParPost (t : List UInt8) (w : World) (e : Ending) (w' : World) : Prop :=
  Below w.heap.size w w' ∧ ((parseG t = none ∧ e = .returned (.tuple #[.slice none 0 0, .bool false])) ∨
    ∃ L P A n c, parseG t = some L ∧ Pws P L ∧ P.length = n ∧ n ≤ 60 ∧ w'.ownsRow w.heap.size 141 5 (.slice A n c) n (pcs P) ∧ e = .returned (.tuple #[.slice A n c, .bool true]))
set_option maxRecDepth 100000 in
set_option maxHeartbeats 2000000 in
theorem pcParse_any (t : List UInt8) (ht : t.length ≤ 60) (w : World) : Calls Tryd.prog 91 #[.string ⟨t.toArray⟩] w (ParPost t w) := by
  go_enter Tryd.func91, Tryd.ntmps91
  go_wp2_with fail
  go_loopw [0, 2] (fun x y wr => ∃ (s : List UInt8) (P : List PW) (M : List GQ) (A : Option Addr) (n cp : Nat), x = .string ⟨s.toArray⟩ ∧ y = .slice A n cp ∧ s.length + n ≤ 60 ∧ Hid (P.length = n) ∧ Hid (parseG t = (parseG s).map (M ++ ·)) ∧ Hid (Pws P M) ∧ Hid (wr.ownsRow w.heap.size 141 5 (.slice A n cp) n (pcs P)) ∧ Hid (Below w.heap.size w wr)) (fun x _ _ => strLen x)
  case atStart => exact ⟨t, [], [], none, 0, 0, rfl, rfl, by omega, Lib.hid rfl, Lib.hid (by simp), Lib.hid Pws.nil, Lib.hid (World.ownsRow_nil _ _ _ _), Lib.hid (Below.refl _ _)⟩
  case round =>
    obtain ⟨s, P, M, A, n, cp, rfl, rfl, hln, HN, HPE, HPW, HO, HBW⟩ := hrel
    cases s with
    | nil =>
      go_wp2_with fail
      go_ret2
      exact ⟨HBW.out, .inr ⟨M, P, A, n, cp, by rw [HPE.out, parseG_nil]; simp, HPW.out, HN.out, by simp at hln; omega, HO.out, rfl⟩⟩
    | cons c t' =>
      have g0 : ∀ h, (⟨(c :: t').toArray⟩ : ByteArray)[0]'h = c := fun _ => rfl
      have hsl := ext_tail c t'
      have HBK0 := Lib.hid (show Blk (wr.alloc (.cells #[.bool false, .int .u64 0, .int .u64 0, .int .u64 0, .int .u64 0] 141)) wr.heap.size 141 (pieceL false [0, 0, 0, 0]) from Blk.new wr _ _)
      have HB0 := Lib.hid (below_new (Below.refl wr.heap.size wr) (.cells #[.bool false, .int .u64 0, .int .u64 0, .int .u64 0, .int .u64 0] 141))
      have hn1 : n ≤ 59 := by simp at hln; omega
      have hln2 : t'.length + (n + 1) ≤ 60 := by simp at hln; omega
      clear hln
      go_upto_region 5 with fail
      generalize wr.alloc (.cells #[.bool false, .int .u64 0, .int .u64 0, .int .u64 0, .int .u64 0] 141) = w1 at *
      clear g0 hsl
      obtain ⟨d0, d1, d2, d3, d4⟩ := Blk.cells5 HBK0.out
      have f0 := HBK0.out.free 0
      have f1 := HBK0.out.free 1
      have f2 := HBK0.out.free 2
      have f3 := HBK0.out.free 3
      have f4 := HBK0.out.free 4
      by_cases h42 : c = 42
      · subst h42
        have HKA := Lib.hid (HBK0.out.same 0 (.bool true))
        have HBA := Lib.hid (HB0.out.setCell (p := ⟨wr.heap.size, 0, none⟩) (Nat.le_refl _) (.bool true))
        go_upto_region 22 with fail
        generalize w1.setCell ⟨wr.heap.size, 0, none⟩ (.bool true) = w2 at *
        have HWZ := Lib.hid wd_zero
        clear d0 d1 d2 d3 d4 f0 f1 f2 f3 f4 HBK0 HB0
        obtain ⟨c0, c1, c2, c3, c4⟩ := Blk.cells5 HKA.out
        have HOZ := Lib.hid (own_belowG HO.out HBA.out)
        have HSZ : w.heap.size ≤ w2.heap.size := Nat.le_trans HBW.out.size HBA.out.size
        have HBZW := Lib.hid (below_then HBW.out HBA.out)
        have HPE2 : Hid (parseG t = (parseG t').map ((M ++ [⟨⟨true, noS⟩, -1⟩]) ++ ·)) := Lib.hid (parse_step HPE.out rfl)
        have HPW2 : Hid (Pws (P ++ [⟨true, [0, 0, 0, 0]⟩]) (M ++ [⟨⟨true, noS⟩, -1⟩])) := Lib.hid (Pws.snoc HPW.out ⟨rfl, HWZ.out⟩)
        have HMS : Hid (strLen (.string ⟨(t').toArray⟩) < strLen (.string ⟨(42 :: t').toArray⟩)) := Lib.hid (by show (t' : List UInt8).length < (42 :: t').length; simp)
        have HN2 : Hid ((P ++ [(⟨true, [0, 0, 0, 0]⟩ : PW)]).length = n + 1) := Lib.hid (by simp [HN.out])
        clear HPE HPW HO HBW
        go_wp2_with (at_builtin; refine wpList_pushP w2 _ _ w.heap.size A n cp P true 0 0 0 0 HOZ.out HSZ (by omega) rfl rfl rfl rfl ?_; intro g5 c5 w5 hown5 hb5)
        exact ⟨⟨t', P ++ [⟨true, [0, 0, 0, 0]⟩], M ++ [⟨⟨true, noS⟩, -1⟩], some ⟨g5, 0, none⟩, n + 1, c5, rfl, rfl, by exact hln2, HN2, HPE2, HPW2, Lib.hid hown5, Lib.hid (HBZW.out.trans hb5)⟩, HMS.out⟩
      · have e42 : Hid (c ≠ 42) := Lib.hid h42
        have n42 : ((c.toNat : Int) == 42) = false := by
          have : c.toNat ≠ 42 := fun e => h42 (UInt8.toNat_inj.1 e)
          simp
          omega
        by_cases h63 : c = 63
        · subst h63
          clear d0 d1 d2 d3 d4 f0 f1 f2 f3 f4 h42
          go_wp2_with fail
          refine (pcTurn_any wr.heap.size wr.heap.size (Nat.le_refl _) false [0, 0, 0, 0] noS _ HBK0.out wd_zero).mono ?_
          rintro e w2 ⟨rfl, hb2, ws', hk2, hw2⟩
          have HWA := Lib.hid hw2
          have HKA := Lib.hid hk2
          have HBA := Lib.hid (HB0.out.trans hb2)
          obtain ⟨x0, x1, x2, x3, rfl⟩ := four_of HWA.out.len
          clear hw2 hk2 hb2 HBK0 HB0
          obtain ⟨c0, c1, c2, c3, c4⟩ := Blk.cells5 HKA.out
          have HOZ := Lib.hid (own_belowG HO.out HBA.out)
          have HSZ : w.heap.size ≤ w2.heap.size := Nat.le_trans HBW.out.size HBA.out.size
          have HBZW := Lib.hid (below_then HBW.out HBA.out)
          have HPE2 : Hid (parseG t = (parseG t').map ((M ++ [⟨⟨false, turnS noS⟩, -1⟩]) ++ ·)) := Lib.hid (parse_step HPE.out rfl)
          have HPW2 : Hid (Pws (P ++ [⟨false, [x0, x1, x2, x3]⟩]) (M ++ [⟨⟨false, turnS noS⟩, -1⟩])) := Lib.hid (Pws.snoc HPW.out ⟨rfl, HWA.out⟩)
          have HMS : Hid (strLen (.string ⟨(t').toArray⟩) < strLen (.string ⟨(63 :: t').toArray⟩)) := Lib.hid (by show (t' : List UInt8).length < (63 :: t').length; simp)
          have HN2 : Hid ((P ++ [(⟨false, [x0, x1, x2, x3]⟩ : PW)]).length = n + 1) := Lib.hid (by simp [HN.out])
          clear HPE HPW HO HBW
          go_wp2_with (at_builtin; refine wpList_pushP w2 _ _ w.heap.size A n cp P false x0 x1 x2 x3 HOZ.out HSZ (by omega) rfl rfl rfl rfl ?_; intro g5 c5 w5 hown5 hb5)
          exact ⟨⟨t', P ++ [⟨false, [x0, x1, x2, x3]⟩], M ++ [⟨⟨false, turnS noS⟩, -1⟩], some ⟨g5, 0, none⟩, n + 1, c5, rfl, rfl, by exact hln2, HN2, HPE2, HPW2, Lib.hid hown5, Lib.hid (HBZW.out.trans hb5)⟩, HMS.out⟩
        · have e63 : Hid (c ≠ 63) := Lib.hid h63
          have n63 : ((c.toNat : Int) == 63) = false := by
            have : c.toNat ≠ 63 := fun e => h63 (UInt8.toNat_inj.1 e)
            simp
            omega
          by_cases h91 : c = 91
          · subst h91
            clear h42 h63
            go_wp2_with fail
            refine (pcClass_any t' (by omega) _).mono ?_
            rintro e w2 ⟨hb2, hcl⟩
            rcases hcl with ⟨hno, y0, y1, y2, y3, rfl⟩ | ⟨S, r, y0, y1, y2, y3, hyes, hwd, rfl⟩
            · have HNO : Hid (parseG t = none) := Lib.hid (parse_no HPE.out (by have e : stepG 91 t' = (clsP 0 noS (behB t')).map fun x => (⟨⟨false, setB t' x.1⟩, -1⟩, x.2) := rfl; rw [e, hno]; rfl))
              have HBX := Lib.hid ((HBW.out.trans (HB0.out.mono HBW.out.size)).trans (hb2.mono (Nat.le_trans HBW.out.size HB0.out.size)))
              have HKX := Lib.hid (HBK0.out.below hb2 HBK0.out.lt)
              have HBW0 := Lib.hid HBW.out.size
              clear hb2 hno HBK0 HB0 HBW HO HPE HPW d0 d1 d2 d3 d4 f0 f1 f2 f3 f4
              obtain ⟨d0, d1, d2, d3, d4⟩ := Blk.cells5 HKX.out
              have f0 := HKX.out.free 0
              have f1 := HKX.out.free 1
              have f2 := HKX.out.free 2
              have f3 := HKX.out.free 3
              have f4 := HKX.out.free 4
              have HBX5 := Lib.hid (below_put5 HBX.out (show w.heap.size ≤ wr.heap.size from HBW0.out) (.bool false) (.int .u64 (y0 : Int)) (.int .u64 (y1 : Int)) (.int .u64 (y2 : Int)) (.int .u64 (y3 : Int)))
              unfold pcv
              go_wp2_with fail
              go_ret2
              exact ⟨HBX5.out, .inl ⟨HNO.out, rfl⟩⟩
            · have HST : Hid (stepG 91 t' = some (⟨⟨false, setB t' S⟩, -1⟩, r)) := Lib.hid (by have e : stepG 91 t' = (clsP 0 noS (behB t')).map fun x => (⟨⟨false, setB t' x.1⟩, -1⟩, x.2) := rfl; rw [e, hyes]; rfl)
              have hlr := stepG_len HST.out
              have hln3 : r.length + (n + 1) ≤ 60 := Nat.le_trans (Nat.add_le_add_right hlr _) hln2
              have HLR := Lib.hid hlr
              have HWA := Lib.hid hwd
              have HKX := Lib.hid (HBK0.out.below hb2 HBK0.out.lt)
              have HKA := Lib.hid (Blk.put5 HKX.out (.bool false) (.int .u64 (y0 : Int)) (.int .u64 (y1 : Int)) (.int .u64 (y2 : Int)) (.int .u64 (y3 : Int)))
              have HBA := Lib.hid (below_put5 (below_then HB0.out hb2) (Nat.le_refl _) (.bool false) (.int .u64 (y0 : Int)) (.int .u64 (y1 : Int)) (.int .u64 (y2 : Int)) (.int .u64 (y3 : Int)))
              clear d0 d1 d2 d3 d4 f0 f1 f2 f3 f4 hb2 hyes hwd hlr HBK0 HB0
              obtain ⟨d0, d1, d2, d3, d4⟩ := Blk.cells5 HKX.out
              have f0 := HKX.out.free 0
              have f1 := HKX.out.free 1
              have f2 := HKX.out.free 2
              have f3 := HKX.out.free 3
              have f4 := HKX.out.free 4
              unfold pcv
              unfold put5 at HKA HBA
              go_upto_region 22 with fail
              generalize (((((w2.setCell ⟨wr.heap.size, 0, none⟩ (.bool false)).setCell ⟨wr.heap.size, 1, none⟩ (.int .u64 (y0 : Int))).setCell ⟨wr.heap.size, 2, none⟩ (.int .u64 (y1 : Int))).setCell ⟨wr.heap.size, 3, none⟩ (.int .u64 (y2 : Int))).setCell ⟨wr.heap.size, 4, none⟩ (.int .u64 (y3 : Int))) = w3 at *
              clear d0 d1 d2 d3 d4 f0 f1 f2 f3 f4 HKX
              obtain ⟨c0, c1, c2, c3, c4⟩ := Blk.cells5 HKA.out
              have HOZ := Lib.hid (own_belowG HO.out HBA.out)
              have HSZ : w.heap.size ≤ w3.heap.size := Nat.le_trans HBW.out.size HBA.out.size
              have HBZW := Lib.hid (below_then HBW.out HBA.out)
              have HPE2 : Hid (parseG t = (parseG r).map ((M ++ [⟨⟨false, setB t' S⟩, -1⟩]) ++ ·)) := Lib.hid (parse_step HPE.out HST.out)
              have HPW2 : Hid (Pws (P ++ [⟨false, [y0, y1, y2, y3]⟩]) (M ++ [⟨⟨false, setB t' S⟩, -1⟩])) := Lib.hid (Pws.snoc HPW.out ⟨rfl, HWA.out⟩)
              have HMS : Hid (strLen (.string ⟨(r).toArray⟩) < strLen (.string ⟨(91 :: t').toArray⟩)) := Lib.hid (by show (r : List UInt8).length < (91 :: t').length; have := HLR.out; simp only [List.length_cons]; omega)
              have HN2 : Hid ((P ++ [(⟨false, [y0, y1, y2, y3]⟩ : PW)]).length = n + 1) := Lib.hid (by simp [HN.out])
              clear HPE HPW HO HBW
              go_wp2_with (at_builtin; refine wpList_pushP w3 _ _ w.heap.size A n cp P false y0 y1 y2 y3 HOZ.out HSZ (by omega) rfl rfl rfl rfl ?_; intro g5 c5 w5 hown5 hb5)
              exact ⟨⟨r, P ++ [⟨false, [y0, y1, y2, y3]⟩], M ++ [⟨⟨false, setB t' S⟩, -1⟩], some ⟨g5, 0, none⟩, n + 1, c5, rfl, rfl, by exact hln3, HN2, HPE2, HPW2, Lib.hid hown5, Lib.hid (HBZW.out.trans hb5)⟩, HMS.out⟩
          · have e91 : Hid (c ≠ 91) := Lib.hid h91
            have n91 : ((c.toNat : Int) == 91) = false := by
              have : c.toNat ≠ 91 := fun e => h91 (UInt8.toNat_inj.1 e)
              simp
              omega
            by_cases h93 : c = 93
            · subst h93
              have HNO : Hid (parseG t = none) := Lib.hid (parse_no HPE.out rfl)
              clear d0 d1 d2 d3 d4 f0 f1 f2 f3 f4 h42 h63 h91
              go_wp2_with fail
              go_ret2
              exact ⟨below_then HBW.out HB0.out, .inl ⟨HNO.out, rfl⟩⟩
            · have e93 : Hid (c ≠ 93) := Lib.hid h93
              have n93 : ((c.toNat : Int) == 93) = false := by
                have : c.toNat ≠ 93 := fun e => h93 (UInt8.toNat_inj.1 e)
                simp
                omega
              by_cases h92 : c = 92
              · subst h92
                clear h42 h63 h91 h93
                cases t' with
                | nil =>
                  have HNO : Hid (parseG t = none) := Lib.hid (parse_no HPE.out rfl)
                  clear d0 d1 d2 d3 d4 f0 f1 f2 f3 f4
                  go_wp2_with fail
                  go_ret2
                  exact ⟨below_then HBW.out HB0.out, .inl ⟨HNO.out, rfl⟩⟩
                | cons d r =>
                  have g0 : ∀ h, (⟨(d :: r).toArray⟩ : ByteArray)[0]'h = d := fun _ => rfl
                  have hsl := ext_tail d r
                  have hln3 : r.length + (n + 1) ≤ 60 := by simp at hln2; omega
                  clear hln2
                  go_upto_region 21 with fail
                  clear g0 hsl
                  clear d0 d1 d2 d3 d4 f0 f1 f2 f3 f4
                  go_wp2_with fail
                  refine (pcAdd_any wr.heap.size wr.heap.size (Nat.le_refl _) false [0, 0, 0, 0] noS d d (Nat.le_refl _) _ HBK0.out wd_zero).mono ?_
                  rintro e w2 ⟨rfl, hb2, ws', hk2, hw2⟩
                  have HWA := Lib.hid hw2
                  have HKA := Lib.hid hk2
                  have HBA := Lib.hid (HB0.out.trans hb2)
                  obtain ⟨x0, x1, x2, x3, rfl⟩ := four_of HWA.out.len
                  clear hw2 hk2 hb2 HBK0 HB0
                  obtain ⟨c0, c1, c2, c3, c4⟩ := Blk.cells5 HKA.out
                  have HOZ := Lib.hid (own_belowG HO.out HBA.out)
                  have HSZ : w.heap.size ≤ w2.heap.size := Nat.le_trans HBW.out.size HBA.out.size
                  have HBZW := Lib.hid (below_then HBW.out HBA.out)
                  have HPE2 : Hid (parseG t = (parseG r).map ((M ++ [⟨⟨false, oneS d⟩, d.toNat⟩]) ++ ·)) := Lib.hid (parse_step HPE.out rfl)
                  have HPW2 : Hid (Pws (P ++ [⟨false, [x0, x1, x2, x3]⟩]) (M ++ [⟨⟨false, oneS d⟩, d.toNat⟩])) := Lib.hid (Pws.snoc HPW.out ⟨rfl, HWA.out⟩)
                  have HMS : Hid (strLen (.string ⟨(r).toArray⟩) < strLen (.string ⟨(92 :: d :: r).toArray⟩)) := Lib.hid (by show (r : List UInt8).length < (92 :: d :: r).length; simp only [List.length_cons]; omega)
                  have HN2 : Hid ((P ++ [(⟨false, [x0, x1, x2, x3]⟩ : PW)]).length = n + 1) := Lib.hid (by simp [HN.out])
                  clear HPE HPW HO HBW
                  go_wp2_with (at_builtin; refine wpList_pushP w2 _ _ w.heap.size A n cp P false x0 x1 x2 x3 HOZ.out HSZ (by omega) rfl rfl rfl rfl ?_; intro g5 c5 w5 hown5 hb5)
                  exact ⟨⟨r, P ++ [⟨false, [x0, x1, x2, x3]⟩], M ++ [⟨⟨false, oneS d⟩, d.toNat⟩], some ⟨g5, 0, none⟩, n + 1, c5, rfl, rfl, by exact hln3, HN2, HPE2, HPW2, Lib.hid hown5, Lib.hid (HBZW.out.trans hb5)⟩, HMS.out⟩
              · have HST : Hid (stepG c t' = some (⟨⟨false, oneS c⟩, c.toNat⟩, t')) := Lib.hid (by unfold stepG; rw [if_neg e42.out, if_neg e63.out, if_neg e91.out, if_neg e93.out, if_neg h92])
                have n92 : ((c.toNat : Int) == 92) = false := by
                  have : c.toNat ≠ 92 := fun e => h92 (UInt8.toNat_inj.1 e)
                  simp
                  omega
                clear h42 h63 h91 h93 h92
                clear d0 d1 d2 d3 d4 f0 f1 f2 f3 f4
                go_wp2_with fail
                refine (pcAdd_any wr.heap.size wr.heap.size (Nat.le_refl _) false [0, 0, 0, 0] noS c c (Nat.le_refl _) _ HBK0.out wd_zero).mono ?_
                rintro e w2 ⟨rfl, hb2, ws', hk2, hw2⟩
                have HWA := Lib.hid hw2
                have HKA := Lib.hid hk2
                have HBA := Lib.hid (HB0.out.trans hb2)
                obtain ⟨x0, x1, x2, x3, rfl⟩ := four_of HWA.out.len
                clear hw2 hk2 hb2 HBK0 HB0
                obtain ⟨c0, c1, c2, c3, c4⟩ := Blk.cells5 HKA.out
                have HOZ := Lib.hid (own_belowG HO.out HBA.out)
                have HSZ : w.heap.size ≤ w2.heap.size := Nat.le_trans HBW.out.size HBA.out.size
                have HBZW := Lib.hid (below_then HBW.out HBA.out)
                have HPE2 : Hid (parseG t = (parseG t').map ((M ++ [⟨⟨false, oneS c⟩, c.toNat⟩]) ++ ·)) := Lib.hid (parse_step HPE.out HST.out)
                have HPW2 : Hid (Pws (P ++ [⟨false, [x0, x1, x2, x3]⟩]) (M ++ [⟨⟨false, oneS c⟩, c.toNat⟩])) := Lib.hid (Pws.snoc HPW.out ⟨rfl, HWA.out⟩)
                have HMS : Hid (strLen (.string ⟨(t').toArray⟩) < strLen (.string ⟨(c :: t').toArray⟩)) := Lib.hid (by show (t' : List UInt8).length < (c :: t').length; simp)
                have HN2 : Hid ((P ++ [(⟨false, [x0, x1, x2, x3]⟩ : PW)]).length = n + 1) := Lib.hid (by simp [HN.out])
                clear HPE HPW HO HBW
                go_wp2_with (at_builtin; refine wpList_pushP w2 _ _ w.heap.size A n cp P false x0 x1 x2 x3 HOZ.out HSZ (by omega) rfl rfl rfl rfl ?_; intro g5 c5 w5 hown5 hb5)
                exact ⟨⟨t', P ++ [⟨false, [x0, x1, x2, x3]⟩], M ++ [⟨⟨false, oneS c⟩, c.toNat⟩], some ⟨g5, 0, none⟩, n + 1, c5, rfl, rfl, by exact hln2, HN2, HPE2, HPW2, Lib.hid hown5, Lib.hid (HBZW.out.trans hb5)⟩, HMS.out⟩
end Go.Proofs.YtcodncddaemhlaaDoor
