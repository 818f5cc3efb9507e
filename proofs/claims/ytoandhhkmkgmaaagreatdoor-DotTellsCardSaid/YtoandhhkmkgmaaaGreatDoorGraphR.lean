/- Contract: the reference's GraphPart, for a good graph and a set within its names. -/
import Derived.Test.YtoandhhkmkgmaaaGreatDoorGraphP
namespace Go.Proofs.YtoandhhkmkgmaaaGreatDoor
open Go.RowKit

/-- Row i of a part after t places. -/
def curQ (r : List Nat) (s i t : Nat) : Nat := setP t fun k => (rowAt r ((nums s).getD i 0)).testBit ((nums s).getD k 0)
def curR (r : List Nat) (s q t : Nat) : List Nat := (List.range (nums s).length).map fun i => if i < q then curQ r s i (nums s).length else if i = q then curQ r s q t else 0
theorem curR_len (r : List Nat) (s q t : Nat) : (curR r s q t).length = (nums s).length := by unfold curR; rw [List.length_map, List.length_range]
theorem curR_get (r : List Nat) (s q t i : Nat) : (curR r s q t)[i]? = if i < (nums s).length then some (if i < q then curQ r s i (nums s).length else if i = q then curQ r s q t else 0) else none := by
  unfold curR
  rw [List.getElem?_map]
  by_cases h : i < (nums s).length
  · rw [if_pos h, List.getElem?_range h]; rfl
  · rw [if_neg h, List.getElem?_eq_none (by rw [List.length_range]; omega)]; rfl
theorem curR_zero (r : List Nat) (s : Nat) : curR r s 0 0 = List.replicate (nums s).length 0 := by
  apply List.ext_getElem?
  intro i
  rw [curR_get, List.getElem?_replicate]
  by_cases h : i < (nums s).length
  · rw [if_pos h, if_pos h, if_neg (by omega)]
    by_cases hi : i = 0
    · rw [if_pos hi]; rfl
    · rw [if_neg hi]
  · rw [if_neg h, if_neg h]
theorem curR_set (r : List Nat) (s q t : Nat) (hq : q < (nums s).length) : curR r s q (t + 1) = (curR r s q t).set q (curQ r s q (t + 1)) := by
  apply List.ext_getElem?
  intro i
  rw [List.getElem?_set, curR_get, curR_get, curR_len]
  by_cases hi : q = i
  · subst hi
    rw [if_pos rfl, if_pos hq, if_pos hq, if_neg (by omega), if_pos rfl]
  · rw [if_neg hi]
    by_cases h : i < (nums s).length
    · rw [if_pos h, if_pos h, if_neg (show ¬ i = q by omega), if_neg (show ¬ i = q by omega)]
    · rw [if_neg h, if_neg h]
theorem curR_next (r : List Nat) (s q : Nat) : curR r s q (nums s).length = curR r s (q + 1) 0 := by
  apply List.ext_getElem?
  intro i
  rw [curR_get, curR_get]
  by_cases h : i < (nums s).length
  · rw [if_pos h, if_pos h]
    by_cases h1 : i < q
    · rw [if_pos h1, if_pos (by omega)]
    · rw [if_neg h1]
      by_cases h2 : i = q
      · subst h2
        rw [if_pos rfl, if_pos (by omega)]
      · rw [if_neg h2, if_neg (by omega)]
        by_cases h3 : i = q + 1
        · rw [if_pos h3]; rfl
        · rw [if_neg h3]
  · rw [if_neg h, if_neg h]
theorem curR_at (r : List Nat) (s q t : Nat) (hq : q < (nums s).length) : (curR r s q t)[q]? = some (curQ r s q t) := by
  rw [curR_get, if_pos hq, if_neg (by omega), if_pos rfl]
theorem curR_end (r : List Nat) (s : Nat) : curR r s (nums s).length 0 = partR r s := by
  apply List.ext_getElem?
  intro i
  rw [curR_get]
  unfold partR
  rw [List.getElem?_map]
  by_cases h : i < (nums s).length
  · rw [if_pos h, if_pos h, List.getElem?_eq_getElem h]
    unfold curQ
    rw [show (nums s).getD i 0 = (nums s)[i] by rw [List.getD_eq_getElem?_getD, List.getElem?_eq_getElem h]; rfl]
    rfl
  · rw [if_neg h, List.getElem?_eq_none (by omega)]; rfl
theorem curQ_succ (r : List Nat) (s q t : Nat) {x y : Nat} (hx : (nums s)[q]? = some x) (hy : (nums s)[t]? = some y) : curQ r s q (t + 1) = if (rowAt r x).testBit y then addN (curQ r s q t) t else curQ r s q t := by
  have h1 : (nums s).getD q 0 = x := by rw [List.getD_eq_getElem?_getD, hx]; rfl
  have h2 : (nums s).getD t 0 = y := by rw [List.getD_eq_getElem?_getD, hy]; rfl
  unfold curQ
  rw [h1, setP_succ, h2]
theorem curQ_b64 (r : List Nat) (s q t : Nat) (ht : t ≤ 64) : B64 (curQ r s q t) := setP_b64 _ ht
section
variable {ops : Array Oper} {rest : List Oper} {o : Oper} {a : Act} {Q : Exit → Act → World → Prop}
/-- 'out = append(out, s)' of strings, out the call's own. -/
theorem wpList_pushS (wr : World) (s x : Operand) (B : Nat) (A : Option Addr) (n c : Nat) (xs : List Value) (nm : List UInt8)
    (hown : wr.ownsRow B 9 1 (.slice A n c) n xs) (hB : B ≤ wr.heap.size) (hn : (n + 1) * 16 ≤ 140737488355328)
    (hgd : o.guard = none) (ho : o.op = .call { callee := .builtin .append, args := #[s, x], argTypes := #[22, 22] })
    (hs : a.eval s = .slice A n c) (hx : a.eval x = .slice (some ⟨wr.heap.size, 0, none⟩) 1 1)
    (h : ∀ g c' w', w'.ownsRow B 9 1 (.slice (some ⟨g, 0, none⟩) (n + 1) c') (n + 1) (xs ++ [.string ⟨nm.toArray⟩]) → Below B wr w' → wpList Tryz.prog ops Q rest (a.put o.dst (.slice (some ⟨g, 0, none⟩) (n + 1) c')) w') :
    wpList Tryz.prog ops Q (o :: rest) a (wr.alloc (.cells #[.string ⟨nm.toArray⟩] 9)) := by
  obtain ⟨ht, i, hi, hz, h1, hb, hzs⟩ := elStrG
  have hB' : B ≤ (wr.alloc (.cells #[.string ⟨nm.toArray⟩] 9)).heap.size := by simp; omega
  have hbl : Below wr.heap.size wr (wr.alloc (.cells #[.string ⟨nm.toArray⟩] 9)) := below_new (Below.refl _ _) _
  have ho2 : (wr.alloc (.cells #[.string ⟨nm.toArray⟩] 9)).ownsRow B 9 1 (.slice A n c) n xs := own_lt hown hbl (fun g hg => (hown.lt g hg).2)
  refine wpList_append_lies _ hgd s x 22 ho B 9 i _ 1 16 ht hi hz h1 hb hzs (by decide) (.slice A n c) n xs hs ho2 ⟨wr.heap.size, 0, none⟩ 1 1 [.string ⟨nm.toArray⟩] hx rfl (cell_one_new _ _ _) (by intro u hu; simp at hu; subst hu; rfl) (by decide) (by unfold maxLen; omega) hn hB' _ rfl ?_
  intro g cap w' hown' hg _ _
  exact h g cap w' hown' (((Below.refl B wr).alloc hB _).grown hg hB' (fun k hk => (hown.lt k hk).1))
end
def RPartPost (N : List (List UInt8)) (E : List EdgeT) (p m : Nat) (w : World) (e : Ending) (w' : World) : Prop :=
  ∃ A1 c1 A2 c2, e = .returned (gv A1 N.length c1 A2 E.length c2 p m) ∧ Rd w' A1 (N.map sv) ∧ Rd w' A2 (eV E) ∧ Below w.heap.size w w'
section
variable {A1 A2 : Option Addr} {n k c1 c2 : Nat} {N : List (List UInt8)} {E : List EdgeT} {p m : Nat} (w : World) (hG : GrIn A1 n A2 k N E p m w) (s : Nat) (hs : B64 s)
include hG hs
set_option maxRecDepth 100000 in
set_option maxHeartbeats 2000000 in
theorem rGraphPart_any (he0 : grErr N E p m = 0) (hms : minus s (upTo n) = 0) : Calls Tryz.prog 23 #[gv A1 n c1 A2 k c2 p m, .int .u64 (s : Int)] w (RPartPost (partN N s) (partE E s) (partS p s) (partS m s) w) := by
  have HPE : Hid (partE E s = edgesOf (partR (rowsG n E) s)) := Lib.hid (by
    obtain ⟨_, _, _, hout, hr, _⟩ := gr_ok he0
    rw [hG.nlen] at hout
    exact part_edges hs hout hr)
  have C1 := Lib.hid (fun W => rNumbers_any s hs W)
  have C2 := Lib.hid (fun W (hW : Below w.heap.size w W) => rRowsOf_any (c1 := c1) (c2 := c2) W (hG.below hW) he0)
  have C3 := Lib.hid (fun W (A AR : Option Addr) (c cr : Nat) (hr : Rd W AR ((partR (rowsG n E) s).map uv)) => rGraphOf_any (A := A) (n := (nums s).length) (c := c) (cr := cr) (partR (rowsG n E) s) (partS p s) (partS m s) W hr (partR_len _ _) (nums_len s) (partR_b64 _ _))
  obtain ⟨hn64, _, _, hout, _, _⟩ := gr_ok he0
  rw [hG.nlen] at hn64 hout
  have HG := Lib.hid hG
  have HS := Lib.hid hs
  have HRB := Lib.hid ((rowsG_good hn64 hout).b64)
  have HRL := Lib.hid (rowsG_len n E)
  have hlen := nums_len s
  have HSN : Hid (∀ (q x : Nat), (nums s)[q]? = some x → x < n) := Lib.hid (fun q x hx => by
    have hb := (mem_nums hs).1 (List.mem_of_getElem? hx)
    apply Classical.byContradiction
    intro hc
    exact sets_out hs hn64 (Nat.le_of_not_lt hc) hb hms)
  rw [HPE.out]
  have HPN : Hid (∀ q x nm, (nums s)[q]? = some x → N[x]? = some nm → (((partN N s).take (q + 1)).map sv) = ((partN N s).take q).map sv ++ [.string ⟨nm.toArray⟩]) := Lib.hid (fun q x nm hx hnm => by
    have hh : (partN N s)[q]? = some nm := by unfold partN; rw [List.getElem?_map, hx]; simp [List.getD_eq_getElem?_getD, hnm]
    obtain ⟨hl, he⟩ := List.getElem?_eq_some_iff.1 hh
    rw [List.take_succ_eq_append_getElem hl, he, List.map_append]; rfl)
  have HPL : Hid ((partN N s).length = (nums s).length) := Lib.hid (by unfold partN; rw [List.length_map])
  have HP64 : Hid (B64 p) := Lib.hid hG.p64
  have HM64 : Hid (B64 m) := Lib.hid hG.m64
  unfold gv at C2 ⊢
  obtain ⟨w2, hw2, x0, r0, z0⟩ := box_turn w (.slice A1 n c1) (.slice A2 k c2) (.int .u64 (p : Int)) (.int .u64 (m : Int)) (.slice none 0 0) (.slice none 0 0) (.int .u64 0) (.int .u64 0) 43 43
  have X2 := Lib.hid x0
  have R2 := Lib.hid r0
  have B2 := Lib.hid z0
  have HW2 := Lib.hid hw2
  clear hG he0 hms hout x0 r0 z0 hw2 hs HPE
  generalize hr : rowsG n E = r at *
  have HRE := Lib.hid hr
  clear hr
  go_enter Tryz.func23, Tryz.ntmps23
  go_upto_region 1 with fail
  rw [← HW2.out]
  generalize hBr : w.heap.size + 1 = Br at *
  have HBr := Lib.hid hBr
  clear hBr HW2
  go_wp2_with fail
  refine (C1.out _).mono ?_
  rintro e w3 ⟨AN, cN, rfl, hownN, hb3⟩
  have B3 := Lib.hid (below_then B2.out hb3)
  have X3 := Lib.hid (X2.out.below hb3)
  have R3 := Lib.hid (R2.out.below hb3 R2.out.lt)
  have N3 := Lib.hid (Rd.of_own hownN)
  clear hb3 X2 C1 R2 hownN
  obtain ⟨x1, x2, x3, x4⟩ := X3.out
  go_wp2_with fail
  refine (C2.out _ B3.out).mono ?_
  rintro e w4 ⟨AR, cR, rfl, hownR, hb4⟩
  have B4 := Lib.hid (below_then B3.out hb4)
  have X4 := Lib.hid (X3.out.below hb4)
  have R4 := Lib.hid (R3.out.below hb4 R3.out.lt)
  have N4 := Lib.hid (N3.out.below hb4)
  rw [HRE.out] at hownR
  have W4 := Lib.hid (Rd.of_own hownR)
  clear hb4 X3 C2 R3 hownR N3 x1 x2 x3 x4 B3
  go_wp2_with (at_make; refine wpList_new elU64 rfl w4 _ w4.heap.size (nums s).length .i64 (by omega) (by omega) (Nat.le_refl _) rfl rfl rfl ?_)
  intro w5 hown5 hb5 hlt5
  rw [show List.replicate (nums s).length (Value.int .u64 0) = (curR r s 0 0).map uv by rw [curR_zero, List.map_replicate]; rfl] at hown5
  have HO5 := Lib.hid hown5
  have HB5 := Lib.hid hb5
  have HLT5 : Hid (w4.heap.size < w5.heap.size ∧ w.heap.size ≤ w4.heap.size) := Lib.hid ⟨hlt5, B4.out.size⟩
  have HS5 : Hid (w4.heap.size ≤ w5.heap.size) := Lib.hid (by omega)
  clear hown5 hb5 hlt5
  go_wp2_with fail
  go_loopw [7, 9, 10, 11, 12, 13, 14, 24] (fun nmv ph md _ _ _ _ i wr => ∃ q : Nat, q ≤ (nums s).length ∧ i = .int .i64 (q : Int) ∧ ∃ AI cI, nmv = .slice AI q cI ∧ ph = .int .u64 (setP q fun i => p.testBit ((nums s).getD i 0) : Nat) ∧ md = .int .u64 (setP q fun i => m.testBit ((nums s).getD i 0) : Nat) ∧ Hid (wr.ownsRow w5.heap.size 9 1 (.slice AI q cI) q (((partN N s).take q).map sv)) ∧ Hid (wr.ownsRow w4.heap.size 41 1 (.slice (some ⟨w4.heap.size, 0, none⟩) (nums s).length (nums s).length) (nums s).length ((curR r s q 0).map uv)) ∧ Hid (Below w4.heap.size w4 wr) ∧ Hid (w5.heap.size ≤ wr.heap.size)) (fun _ _ _ _ _ _ _ i _ => (nums s).length - (intOf i).toNat)
  case atStart => exact ⟨0, by omega, rfl, none, 0, rfl, rfl, rfl, Lib.hid (World.ownsRow_nil _ _ _ _), HO5, HB5, Lib.hid (Nat.le_refl _)⟩
  case round =>
    obtain ⟨q, hq, rfl, AI, cI, rfl, rfl, rfl, hown, hrow, hbw, hsz⟩ := hrel
    have BW := Lib.hid (below_then B4.out hbw.out)
    have XW := Lib.hid (X4.out.below hbw.out)
    obtain ⟨x1, x2, x3, x4⟩ := XW.out
    by_cases hlt : q < (nums s).length
    · obtain ⟨x, hx⟩ : ∃ x, (nums s)[q]? = some x := ⟨_, List.getElem?_eq_getElem hlt⟩
      have hxn := HSN.out q x hx
      obtain ⟨nm, hnm⟩ : ∃ nm, N[x]? = some nm := ⟨_, List.getElem?_eq_getElem (by rw [HG.out.nlen]; exact hxn)⟩
      obtain ⟨bN, oN, rfl, v0⟩ := HG.out.names.scell hnm
      have v3 := cell_keep v0 BW.out
      obtain ⟨bL, oL, rfl, hbL, hcL⟩ := N4.out (by rw [List.length_map]; omega)
      have HK : Hid (∀ W, Below w4.heap.size w4 W → ∀ (j y : Nat), (nums s)[j]? = some y → W.cell? ⟨bL, oL + j, none⟩ = some (.int .i64 (y : Int))) := Lib.hid (fun W hW j y hy => cell_keep (hcL j _ (by rw [List.getElem?_map, hy]; rfl)) hW)
      obtain ⟨bR, oR, rfl, hbR, hcR⟩ := W4.out (by rw [List.length_map, HRL.out]; omega)
      have HKR : Hid (∀ W, Below w4.heap.size w4 W → ∀ (j : Nat), j < n → W.cell? ⟨bR, oR + j, none⟩ = some (.int .u64 (rowAt r j : Nat))) := Lib.hid (fun W hW j hj => cell_keep (hcR j _ (by rw [List.getElem?_map]; unfold rowAt; have hl : j < r.length := (by rw [HRL.out]; exact hj); rw [List.getElem?_eq_getElem hl]; rfl)) hW)
      have z1 := HK.out _ hbw.out q x hx
      have HTK := Lib.hid (HPN.out q x nm hx hnm)
      have HX := Lib.hid hx
      have hq2 : (q : Int) < ((nums s).length : Int) := by omega
      have hxn2 : (x : Int) < (n : Int) := by omega
      have hq64 : q < 64 := by omega
      have HSP := Lib.hid (partS_take p (nums s) q)
      have HSM := Lib.hid (partS_take m (nums s) q)
      rw [show (nums s).getD q 0 = x by rw [List.getD_eq_getElem?_getD, hx]; rfl] at HSP HSM
      have HP6 := Lib.hid (setP_b64 (m := q) (fun i => p.testBit ((nums s).getD i 0)) (by omega))
      have HM6 := Lib.hid (setP_b64 (m := q) (fun i => m.testBit ((nums s).getD i 0)) (by omega))
      have HL1 : Hid (w.heap.size < w5.heap.size ∧ bN < w5.heap.size) := Lib.hid ⟨by have h1 := lt_of_cell' X4.out.c1; have := HS5.out; omega, by have h1 := lt_of_cell' v0; have := HLT5.out; omega⟩
      clear hx hnm hbL hcL hbR hcR
      generalize setP q (fun i => p.testBit ((nums s).getD i 0)) = ph at *
      generalize setP q (fun i => m.testBit ((nums s).getD i 0)) = md at *
      have hpi := in_nat p HP64.out x
      have hmi := in_nat m HM64.out x
      have HPI := Lib.hid hpi
      have HMI := Lib.hid hmi
      clear hpi hmi
      go_wp2_with (at_builtin; refine wpList_pushS wr _ _ w5.heap.size AI q cI _ nm hown.out hsz.out (by omega) rfl rfl rfl rfl ?_; intro g9 c9 w9 hown9 hb9; have y3 := cell_lt x3 hb9 HL1.out.1; have y4 := cell_lt x4 hb9 HL1.out.1)
      have HO9 : Hid (w9.ownsRow w5.heap.size 9 1 (.slice (some ⟨g9, 0, none⟩) (q + 1) c9) (q + 1) (((partN N s).take (q + 1)).map sv)) := Lib.hid (by rw [HTK.out]; exact hown9)
      have HR9 := Lib.hid (own_lt hrow.out hb9 (fun g hg => by cases hg; exact HLT5.out.1))
      have HB9 := Lib.hid (hbw.out.trans (hb9.mono HS5.out))
      have HZ9 : Hid (w5.heap.size ≤ w9.heap.size) := Lib.hid (Nat.le_trans hsz.out hb9.size)
      clear hown9 hb9 hown hrow hbw hsz
      cases hpb : p.testBit x <;> cases hmb : m.testBit x
      all_goals (
        rw [hpb] at HPI HSP
        rw [hmb] at HMI HSM
        refine (HPI.out _).mono ?_
        rintro e w' ⟨rfl, rfl⟩
        go_wp2_with fail
        refine (HMI.out _).mono ?_
        rintro e w' ⟨rfl, rfl⟩
        go_wp2_with fail
        generalize wr = wq at *
        go_loopw [13, 14, 55] (fun _ _ i wi => ∃ t : Nat, t ≤ (nums s).length ∧ i = .int .i64 (t : Int) ∧ Hid (wi.ownsRow w5.heap.size 9 1 (.slice (some ⟨g9, 0, none⟩) (q + 1) c9) (q + 1) (((partN N s).take (q + 1)).map sv)) ∧ Hid (wi.ownsRow w4.heap.size 41 1 (.slice (some ⟨w4.heap.size, 0, none⟩) (nums s).length (nums s).length) (nums s).length ((curR r s q t).map uv)) ∧ Hid (Below w4.heap.size w4 wi) ∧ Hid (w5.heap.size ≤ wi.heap.size)) (fun _ _ i _ => (nums s).length - (intOf i).toNat)
        case atStart => exact ⟨0, by omega, rfl, HO9, HR9, HB9, HZ9⟩
        case round =>
          obtain ⟨t, ht, rfl, howni, hrowi, hbi, hzi⟩ := hrel
          by_cases hlt2 : t < (nums s).length
          · obtain ⟨y, hy⟩ : ∃ y, (nums s)[t]? = some y := ⟨_, List.getElem?_eq_getElem hlt2⟩
            have u1 := HK.out _ hbi.out t y hy
            have u2 := HKR.out _ hbi.out x hxn
            have HIN := Lib.hid (in_nat (rowAt r x) (HRB.out x) y)
            have HQS := Lib.hid (curQ_succ r s q t HX.out hy)
            have HQ6 := Lib.hid (curQ_b64 r s q t (by omega))
            have HSET := Lib.hid (curR_set r s q t hlt)
            have hcq : wr.cell? ⟨w4.heap.size, q, none⟩ = some (.int .u64 (curQ r s q t : Nat)) := by
              rw [hrowi.out.cellAt q (by omega), List.getElem?_map, curR_at r s q t hlt]
              rfl
            have hfq := hrowi.out.frozenAt q
            have ht2 : (t : Int) < ((nums s).length : Int) := by omega
            have ht64 : t < 64 := by omega
            cases hbt : (rowAt r x).testBit y with
            | true =>
              rw [hbt] at HIN HQS
              rw [if_pos rfl] at HQS
              have HROW := Lib.hid (hrowi.out.stored q (.int .u64 ((addN (curQ r s q t) t : Nat) : Int))).1
              have HNM := Lib.hid (ownsRow_setCell_below howni.out (a := ⟨w4.heap.size, q, none⟩) HLT5.out.1 (.int .u64 ((addN (curQ r s q t) t : Nat) : Int)))
              have HBS := Lib.hid (hbi.out.setCell (p := ⟨w4.heap.size, q, none⟩) (Nat.le_refl _) (.int .u64 ((addN (curQ r s q t) t : Nat) : Int)))
              have HZS : Hid (w5.heap.size ≤ (wr.setCell ⟨w4.heap.size, q, none⟩ (.int .u64 ((addN (curQ r s q t) t : Nat) : Int))).heap.size) := Lib.hid (by have := hzi.out; simpa [World.setCell] using this)
              have her := or_raw (curQ r s q t) t HQ6.out ht64
              clear hbt hy howni hrowi hbi hzi
              rw [HQS.out] at HSET
              generalize curQ r s q t = cq at *
              go_wp2_with fail
              refine (HIN.out _).mono ?_
              rintro e w' ⟨rfl, rfl⟩
              go_wp2_with fail
              go_region
              go_wp2_with fail
              go_roundw
              case rel =>
                refine ⟨t + 1, by omega, by go_num, HNM, Lib.hid ?_, Lib.hid HBS.out.drew, HZS⟩
                have := HROW.out
                rw [show (Value.int .u64 ((addN cq t : Nat) : Int)) = uv (addN cq t) from rfl, ← List.map_set, ← HSET.out] at this
                exact this
              case measure => simp [intOf]; omega
            | false =>
              rw [hbt] at HIN HQS
              rw [if_neg (by decide)] at HQS
              have HSAME : Hid (curR r s q (t + 1) = curR r s q t) := Lib.hid (by
                rw [HSET.out, HQS.out]
                apply List.ext_getElem?
                intro i
                rw [List.getElem?_set]
                by_cases hi : q = i
                · subst hi
                  rw [if_pos rfl, curR_len, if_pos hlt, curR_at r s q t hlt]
                · rw [if_neg hi])
              clear hbt hy hcq hfq
              go_wp2_with fail
              refine (HIN.out _).mono ?_
              rintro e w' ⟨rfl, rfl⟩
              go_wp2_with fail
              go_roundw
              case rel => exact ⟨t + 1, by omega, by go_num, howni, by rw [HSAME.out]; exact hrowi, hbi, hzi⟩
              case measure => simp [intOf]; omega
          · obtain rfl : t = (nums s).length := by omega
            have htn : ¬ ((nums s).length : Int) < ((nums s).length : Int) := by omega
            rw [curR_next] at hrowi
            go_wp2_with fail
            go_roundw
            case rel => exact ⟨q + 1, by omega, by go_num, some ⟨g9, 0, none⟩, c9, rfl, (by first | (rw [HSP.out, if_pos (by trivial), or_raw _ _ HP6.out hq64]) | (rw [HSP.out, if_neg (by decide)])), (by first | (rw [HSM.out, if_pos (by trivial), or_raw _ _ HM6.out hq64]) | (rw [HSM.out, if_neg (by decide)])), howni, hrowi, hbi, hzi⟩
            case measure => simp [intOf]; omega)
    · obtain rfl : q = (nums s).length := by omega
      have hqn : ¬ ((nums s).length : Int) < ((nums s).length : Int) := by omega
      have HNM : Hid (wr.ownsRow w5.heap.size 9 1 (.slice AI (nums s).length cI) (nums s).length ((partN N s).map sv)) := Lib.hid (by have := hown.out; rwa [List.take_of_length_le (by rw [HPL.out]; omega)] at this)
      have HRR : Hid (Rd wr (some ⟨w4.heap.size, 0, none⟩) ((partR r s).map uv)) := Lib.hid (by have := Rd.of_own hrow.out; rwa [curR_end] at this)
      have RW := Lib.hid (R4.out.below hbw.out R4.out.lt)
      have HPS1 : Hid ((setP (nums s).length fun i => p.testBit ((nums s).getD i 0)) = partS p s) := Lib.hid rfl
      have HPS2 : Hid ((setP (nums s).length fun i => m.testBit ((nums s).getD i 0)) = partS m s) := Lib.hid rfl
      rw [HPS1.out, HPS2.out]
      clear hown hrow hbw hsz HPS1 HPS2 x1 x2 x3 x4
      go_wp2_with fail
      refine (C3.out wr AI _ cI _ HRR.out).mono ?_
      rintro e w9 ⟨A9, c9, rfl, hE9, hb9⟩
      have HE9 := Lib.hid hE9
      have B9 := Lib.hid (below_then BW.out hb9)
      have R9 := Lib.hid (RW.out.below hb9 RW.out.lt)
      have N9 := Lib.hid (own_below HNM.out hb9)
      have HBB : Hid (Br < w4.heap.size ∧ Br < wr.heap.size) := Lib.hid ⟨R4.out.lt, RW.out.lt⟩
      clear hb9 hE9
      unfold gv
      have r1 := R9.out.cell (j := 0) rfl
      have r2 := R9.out.cell (j := 1) rfl
      have r3 := R9.out.cell (j := 2) rfl
      have r4 := R9.out.cell (j := 3) rfl
      have rf := R9.out.free
      generalize edgesOf (partR r s) = PE at *
      go_wp2_with fail
      have RZ := Lib.hid (R9.out.put4 (.slice AI (nums s).length cI) (.slice A9 PE.length c9) (.int .u64 (partS p s : Nat)) (.int .u64 (partS m s : Nat)))
      have BZ := Lib.hid (below_put4 B9.out (by have := HBr.out; omega : w.heap.size ≤ Br) (.slice AI (nums s).length cI) (.slice A9 PE.length c9) (.int .u64 (partS p s : Nat)) (.int .u64 (partS m s : Nat)))
      have NZ := Lib.hid (rd_of_ownK (own_put4 (b := Br) N9.out (fun he => by have h1 := (N9.out.lt _ he).1; have h2 := HBB.out; have h3 := HS5.out; omega) (.slice AI (nums s).length cI) (.slice A9 PE.length c9) (.int .u64 (partS p s : Nat)) (.int .u64 (partS m s : Nat))))
      have EZ := Lib.hid (rd_of_ownK (own_put4 (b := Br) HE9.out (fun he => by have h1 := (HE9.out.lt _ he).1; have h2 := HBB.out; omega) (.slice AI (nums s).length cI) (.slice A9 PE.length c9) (.int .u64 (partS p s : Nat)) (.int .u64 (partS m s : Nat))))
      generalize ((((w9.setCell ⟨Br, 0, none⟩ (.slice AI (nums s).length cI)).setCell ⟨Br, 1, none⟩ (.slice A9 PE.length c9)).setCell ⟨Br, 2, none⟩ (.int .u64 (partS p s : Nat))).setCell ⟨Br, 3, none⟩ (.int .u64 (partS m s : Nat))) = wz at *
      have q1 := RZ.out.cell (j := 0) rfl
      have q2 := RZ.out.cell (j := 1) rfl
      have q3 := RZ.out.cell (j := 2) rfl
      have q4 := RZ.out.cell (j := 3) rfl
      refine bodyPost_ret (v := .agg #[.slice AI (nums s).length cI, .slice A9 PE.length c9, .int .u64 (partS p s : Nat), .int .u64 (partS m s : Nat)]) (by simp [results, Tryz.results23, go_sem, q1, q2, q3, q4]) rfl ?_
      refine ⟨AI, cI, A9, c9, ?_, NZ.out, EZ.out, BZ.out⟩
      rw [HPL.out]
      rfl
end
end Go.Proofs.YtoandhhkmkgmaaaGreatDoor
