/- Contract: the reference's StampsRead. Texts of at most 20000 bytes, or longer ones. -/
import Derived.Test.YtcjhkfhogcdobaaDoorLogD
import Derived.Test.YtcjhkfhogcdobaaDoorLogP2
import Derived.Test.YtcjhkfhogcdobaaDoorLogPr
import Derived.StillTailTactics
import Derived.OwnWalk
import Derived.Deep.RegionHeld3
import Derived.BigQuiet
import Derived.Deep.QuietTactic
import Derived.Test.YtcjhkfhogcdobaaDoorLogSame
import Derived.Test.YtcjhkfhogcdobaaDoorOpenStr
import Derived.Test.YtcjhkfhogcdobaaDoorOpenF
import Derived.Test.YtcjhkfhogcdobaaDoorLog1
import Derived.Deep.SlicePairs
import Derived.Lib.SmallJoins
namespace Go.Proofs.YtcjhkfhogcdobaaDoor
open Go.RowKit

def sizeOfV : Value → Nat
  | .string b => b.size
  | _ => 0
theorem emp_ne {s : List UInt8} (h : s ≠ []) : ((⟨s.toArray⟩ : ByteArray).toList == []) = false ∧ (⟨s.toArray⟩ : ByteArray).toList.isEmpty = false := by
  rw [Lib.toList_data]
  cases s with
  | nil => exact absurd rfl h
  | cons a l => exact ⟨rfl, rfl⟩
theorem split_at {t : List UInt8} {b : ByteArray} (hb : (⟨t.toArray⟩ : ByteArray) = b) (e : Nat) (w : World) (he : e ≤ 20000) : Calls Tryd.prog 16 #[.string (b.extract 0 e), .int .u8 32] w (SplitPost 32 (t.take e) w) := by
  rw [← hb, linT]
  exact rSplit_any 32 (t.take e) w (by rw [List.length_take]; omega)
theorem ofBits_q (u : Nat) (hu : u < 18446744073709551616) (w : World) : Calls Tryd.prog 19 #[.int .u64 (u : Int)] w fun e w'' => e = .returned (.float .f64 (UInt64.ofNat u).toNat) ∧ w'' = w := (rOfBits_any u hu w).mono (by rintro e w' ⟨rfl, rfl⟩; exact ⟨rfl, rfl⟩)
theorem rd_one (w : World) (a : List UInt8) (v : Int) (F : UInt64) : Rd (w.alloc (.cells #[.string ⟨a.toArray⟩, .int .i64 v, .float .f64 F.toNat] 38)) (some ⟨w.heap.size, 0, none⟩) (stV [(a, v, F)]) := by
  have hb := Blk.new w #[.string ⟨a.toArray⟩, .int .i64 v, .float .f64 F.toNat] 38
  have hc : ∀ j u, (stV [((a, v, F) : StampT)])[j]? = some u → (w.alloc (.cells #[.string ⟨a.toArray⟩, .int .i64 v, .float .f64 F.toNat] 38)).cell? ⟨w.heap.size, 0 + j, none⟩ = some u := fun j u hu => by rw [Nat.zero_add]; exact hb.cell hu
  intro hpos
  exact ⟨_, 0, rfl, Lib.lt_of_cell (hc 0 _ (List.getElem?_eq_getElem hpos)), hc⟩
theorem one_names {a : List UInt8} {v : Int} {F : UInt64} (h : a.length ≤ 9223372036854775807) : NamesOk [(a, v, F)] := by
  intro j y hy
  match j, hy with
  | 0, hy =>
    simp at hy
    subst hy
    exact h
theorem below_grown {B : Nat} {a w w' : World} {r : Option Nat} (h : Below B a w) (hg : w.grownBy w' r) (hB : ∀ k, r = some k → B ≤ k) (ha : B ≤ w.heap.size) : Below B a w' :=
  ⟨hg.os.trans h.os, hg.tape.trans h.tape, hg.output.trans h.output, Nat.le_trans h.size hg.size, fun k hk => (hg.block k (Nat.lt_of_lt_of_le hk ha) (fun e => absurd (hB k e.symm) (Nat.not_le_of_lt hk))).trans (h.block k hk)⟩
set_option maxRecDepth 100000 in
set_option maxHeartbeats 4000000 in
theorem rRead_any (s0 : List UInt8) (w : World) (hm : s0.length ≤ 9223372036854775807) :
    Calls Tryd.prog 6 #[.string ⟨s0.toArray⟩] w (ParsedPost (readL s0) w) := by
  have hz : (⟨s0.toArray⟩ : ByteArray).size = s0.length := by simp [ByteArray.size]
  by_cases hs : 20000 < s0.length
  · have HR : Hid (readL s0 = ([], 0, 2)) := Lib.hid (by unfold readL; rw [if_pos hs])
    have hsz : (20000 : Int) < ((⟨s0.toArray⟩ : ByteArray).size : Int) := by rw [hz]; omega
    have hsm : (⟨s0.toArray⟩ : ByteArray).size ≤ 9223372036854775807 := by rw [hz]; exact hm
    clear hz hs hm
    generalize (⟨s0.toArray⟩ : ByteArray) = sb at *
    go_enter Tryd.func6, Tryd.ntmps6
    go_wp2_with fail
    go_ret3
    rw [HR.out]
    exact ⟨none, 0, rfl, Rd.nil_ _ _, Below.refl _ _⟩
  have HRL : Hid (readL s0 = runLines 0 [] (linesL s0)) := Lib.hid (by unfold readL; rw [if_neg hs])
  have hsz : ¬ (20000 : Int) < ((⟨s0.toArray⟩ : ByteArray).size : Int) := by rw [hz]; omega
  have hsz2 : (⟨s0.toArray⟩ : ByteArray).size ≤ 20000 := by rw [hz]; omega
  have HS0 : Hid (s0.length ≤ 20000) := Lib.hid (by omega)
  have HBS : Hid (∃ t : List UInt8, (Value.string ⟨s0.toArray⟩ = .string ⟨t.toArray⟩) ∧ t.length ≤ 20000 ∧ readL s0 = runLines 0 [] (linesL t)) := Lib.hid ⟨s0, rfl, by omega, HRL.out⟩
  clear hz hs hm
  generalize (⟨s0.toArray⟩ : ByteArray) = sb at *
  go_enter Tryd.func6, Tryd.ntmps6
  go_wp2_with fail
  go_loopw [0, 5, 6] (fun x0 x5 x6 wr => ∃ (t : List UInt8) (O : List StampT) (A : Option Addr) (c : Nat), x0 = .string ⟨t.toArray⟩ ∧ x5 = .slice A O.length c ∧ x6 = .int .i64 (O.length : Int) ∧ t.length ≤ 20000 ∧ O.length ≤ 200 ∧ Hid (readL s0 = runLines O.length O (linesL t)) ∧ Hid (∀ x ∈ O, stOne x = 0) ∧ Hid (wr.ownsRow w.heap.size 38 3 (.slice A O.length c) O.length (stV O)) ∧ Hid (Below w.heap.size w wr)) (fun x0 _ _ _ => sizeOfV x0)
  case atStart =>
    obtain ⟨t, h1, h2, h3⟩ := HBS.out
    exact ⟨t, [], none, 0, h1, rfl, rfl, h2, by simp, Lib.hid h3, Lib.hid (by simp), Lib.hid (World.ownsRow_nil _ _ _ _), Lib.hid (Below.refl _ _)⟩
  case round =>
    clear HBS
    obtain ⟨t, O, A, c, rfl, rfl, rfl, ht, hO, HRUN, HG, HOW, HBW⟩ := hrel
    by_cases hte : t = []
    · subst hte
      have e1 : ((⟨([] : List UInt8).toArray⟩ : ByteArray).toList == []) = true := by rw [Lib.toList_data]; rfl
      have e2 : (⟨([] : List UInt8).toArray⟩ : ByteArray).toList.isEmpty = true := by rw [Lib.toList_data]; rfl
      generalize (⟨([] : List UInt8).toArray⟩ : ByteArray) = bt at *
      have HSH : Hid (O.length = 0 ∨ ∃ g, A = some ⟨g, 0, none⟩ ∧ w.heap.size ≤ g ∧ ∀ j u, (stV O)[j]? = some u → wr.cell? ⟨g, j, none⟩ = some u) := Lib.hid (by
        obtain ⟨A', c', hv, hsh⟩ := row_shape HOW.out
        simp only [Value.slice.injEq] at hv
        rw [hv.1]
        exact hsh)
      go_wp2_with fail
      go_ret3
      have hR : readL s0 = (O, 0, 0) := by rw [HRUN.out]; rfl
      rw [hR]
      refine ⟨A, c, rfl, ?_, HBW.out⟩
      rcases HSH.out with h0 | ⟨g, rfl, hg, hc⟩
      · rw [List.length_eq_zero_iff.1 h0]
        intro hpos
        exact absurd hpos (Nat.lt_irrefl 0)
      · intro hpos
        exact ⟨g, 0, rfl, Lib.lt_of_cell (hc 0 _ (List.getElem?_eq_getElem hpos)), fun j u hu => by rw [Nat.zero_add]; exact hc j u hu⟩
    · obtain ⟨e1, e2⟩ := emp_ne hte
      have HTE := Lib.hid hte
      have hbz : (⟨t.toArray⟩ : ByteArray).size ≤ 20000 := by simp [ByteArray.size]; exact ht
      have HBZ : Hid ((⟨t.toArray⟩ : ByteArray).size = t.length) := Lib.hid (by simp [ByteArray.size])
      clear hte
      generalize hbt : (⟨t.toArray⟩ : ByteArray) = bt at *
      have HBT := Lib.hid hbt
      clear hbt
      go_wp2_with fail
      obtain ⟨wz, hwz⟩ : ∃ wz : World, wz = wr := ⟨_, rfl⟩
      subst hwz
      go_loopw [7] (fun y wr => ∃ e : Nat, y = .int .i64 (e : Int) ∧ e ≤ bt.size ∧ Hid (∀ j, j < e → t[j]? ≠ some 10) ∧ Hid (Below wz.heap.size wz wr)) (fun y _ => bt.size - (intOf y).toNat)
      case atStart => exact ⟨0, rfl, by omega, Lib.hid (fun j hj => absurd hj (by omega)), Lib.hid (Below.refl _ _)⟩
      case round =>
        obtain ⟨e, rfl, he, HNO, HBZ2⟩ := hrel
        have HROW : Hid (wr.ownsRow w.heap.size 38 3 (.slice A O.length c) O.length (stV O)) := Lib.hid (row_below HOW.out HBZ2.out)
        have HBW2 : Hid (Below w.heap.size w wr) := Lib.hid (below_newL HBW.out HBZ2.out)
        by_cases hlt : e < bt.size
        · have hX := bytes_at t HBT.out.symm hlt
          have hei : (e : Int) < (bt.size : Int) := by omega
          by_cases h10 : bt[e] = 10
          · have c1 : ((bt[e].toNat : Nat) : Int) = 10 := by rw [h10]; rfl
            have HX : Hid (t[e]? = some 10) := Lib.hid (by rw [hX, h10])
            clear hX h10
            have HLN := Lib.hid (lines_at t e HNO.out HX.out)
            have HR1 := Lib.hid HRUN.out
            rw [HLN.out] at HR1
            by_cases hbig : 200 < O.length + 1
            · have hbi : (200 : Int) < (O.length : Int) + 1 := by omega
              have HE : Hid (readL s0 = ([], O.length + 1, 2)) := Lib.hid (by rw [HR1.out, runR_large hbig])
              go_wp2_with fail
              go_ret3
              rw [HE.out]
              exact ⟨none, 0, rfl, Rd.nil_ _ _, HBW2.out⟩
            have hbi : ¬ (200 : Int) < (O.length : Int) + 1 := by omega
            have HBIG := Lib.hid hbig
            clear hbig
            have CS := Lib.hid (fun W => split_at (t := t) (b := bt) HBT.out e W (by omega))
            have hee : ((e : Int) == (bt.size : Int)) = false := by simp; omega
            have hee2 : decide ((e : Int) = (bt.size : Int)) = false := by simp; omega
            by_cases h3 : (splitC 32 (t.take e)).length = 3
            · obtain ⟨a, b, cc, habc⟩ : ∃ a b cc, splitC 32 (t.take e) = [a, b, cc] := by
                match splitC 32 (t.take e), h3 with
                | [a, b, cc], _ => exact ⟨a, b, cc, rfl⟩
              have HABC := Lib.hid habc
              clear h3 habc
              have HLA : Hid (a.length ≤ 20000 ∧ b.length ≤ 20000 ∧ cc.length ≤ 20000) := Lib.hid (by
                have hl : (t.take e).length ≤ 20000 := by rw [List.length_take]; omega
                have h := fun x (hx : x ∈ splitC 32 (t.take e)) => splitC_le 32 (t.take e) x hx
                rw [HABC.out] at h
                have h1 := h a (by simp)
                have h2 := h b (by simp)
                have h4 := h cc (by simp)
                omega)
              have CD := Lib.hid (fun W => rDecimalRead_any b W (by have := HLA.out; omega))
              have CH := Lib.hid (fun W => rHexRead_any cc W (by have := HLA.out; omega))
              obtain ⟨F, hF⟩ : ∃ F, F = UInt64.ofNat (hexRd cc) := ⟨_, rfl⟩
              have HF := Lib.hid hF
              have CO := Lib.hid (fun W => ofBits_q (hexRd cc) (hexRd_lt cc) W)
              rw [← hF] at CO
              clear hF
              go_wp2_with fail
              refine (CS.out _).mono ?_
              rintro e' w2 ⟨g, cs, rfl, hown, hb2⟩
              rw [HABC.out] at hown ⊢
              have HW2 := Lib.hid (below_newL HBW2.out hb2)
              have HR2 := Lib.hid (row_below HROW.out hb2)
              have x0 := hown.cellAt 0 (by simp)
              have x1 := hown.cellAt 1 (by simp)
              have x2 := hown.cellAt 2 (by simp)
              simp only [List.map_cons, List.map_nil, List.getElem?_cons_zero, List.getElem?_cons_succ] at x0 x1 x2
              clear hown hb2 HROW
              unfold sv at x0 x1 x2
              simp only [List.length_cons, List.length_nil, Nat.reduceAdd]
              go_wp2_with fail
              refine (CD.out _).mono ?_
              rintro e' w3 ⟨⟨v, rfl, hv, hv0, hv1⟩, hb3⟩
              have HV := Lib.hid hv
              have HW3 := Lib.hid (below_newL HW2.out hb3)
              have HR3 := Lib.hid (row_below HR2.out hb3)
              have y0 := cell_up x0 hb3
              have y1 := cell_up x1 hb3
              have y2 := cell_up x2 hb3
              clear x0 x1 x2 hb3 hv HR2 HW2 CD
              go_wp2_with fail
              refine (CH.out _).mono ?_
              rintro e' w4 ⟨rfl, rfl⟩
              go_wp2_with fail
              have HSL := Lib.hid (fun W (hW : Below w3.heap.size w3 W) => (cell_up y0 hW : W.cell? ⟨g, 0, none⟩ = some (.string ⟨a.toArray⟩)))
              go_region_held3 (fun W => W.cell? ⟨g, 0, none⟩ = some (.string ⟨a.toArray⟩))
                ((refine HSL.out _ ?_; repeat' (first | exact Below.refl _ _ | refine Below.drew ?_ | refine below_new ?_ _ | refine Below.setCell ?_ (by simp) _)))
                ((first | (go_at_call 19; (with_reducible refine (CO.out _).mono ?_); rintro e' w5 ⟨rfl, rfl⟩)))
              all_goals
                have HW5 : Hid (Below w.heap.size w (w3.alloc (.cells #[.string ⟨a.toArray⟩, .int .i64 v, .float .f64 F.toNat] 38)).drew) := Lib.hid (Below.drew (below_new HW3.out _))
                have HR5 : Hid ((w3.alloc (.cells #[.string ⟨a.toArray⟩, .int .i64 v, .float .f64 F.toNat] 38)).drew.ownsRow w.heap.size 38 3 (.slice A O.length c) O.length (stV O)) := Lib.hid (row_below HR3.out (Below.drew (below_new (Below.refl _ _) _)))
                have HBX : Hid (Blk (w3.alloc (.cells #[.string ⟨a.toArray⟩, .int .i64 v, .float .f64 F.toNat] 38)).drew w3.heap.size 38 [.string ⟨a.toArray⟩, .int .i64 v, .float .f64 F.toNat]) := Lib.hid (Blk.drw (Blk.new w3 #[.string ⟨a.toArray⟩, .int .i64 v, .float .f64 F.toNat] 38))
                clear HW3 HR3 y0 y1 y2 CO CH CS HSL
                generalize (w3.alloc (.cells #[.string ⟨a.toArray⟩, .int .i64 v, .float .f64 F.toNat] 38)).drew = w5 at *
                generalize w3.heap.size = BX at *
                have z1 := HBX.out.cell (j := 0) rfl
                have z2 := HBX.out.cell (j := 1) rfl
                have z3 := HBX.out.cell (j := 2) rfl
                cases hA : okD b with
                | false =>
                  have HE : Hid (readL s0 = ([], O.length + 1, 3)) := Lib.hid (by
                    rw [HR1.out, runR_none HBIG.out]
                    rw [accR_end, HABC.out]
                    simp [hA])
                  clear hA
                  go_wp2_with fail
                  go_ret3
                  rw [HE.out]
                  exact ⟨none, 0, rfl, Rd.nil_ _ _, HW5.out⟩
                | true =>
                  cases hB : hexOk cc with
                  | false =>
                    have HE : Hid (readL s0 = ([], O.length + 1, 3)) := Lib.hid (by
                      rw [HR1.out, runR_none HBIG.out]
                      rw [accR_end, HABC.out]
                      simp [hB])
                    clear hA hB
                    go_wp2_with fail
                    go_ret3
                    rw [HE.out]
                    exact ⟨none, 0, rfl, Rd.nil_ _ _, HW5.out⟩
                  | true =>
                    have HX : Hid (readT a b cc = (a, v, F)) := Lib.hid (by unfold readT; rw [HV.out hA, HF.out])
                    have HACC : Hid (accR (t.take e ++ [10]) = if stOne (a, v, F) = 0 then some (a, v, F) else none) := Lib.hid (by
                      rw [accR_end, HABC.out]
                      simp only [hA, hB, true_and, HX.out])
                    clear hA hB HV
                    have CF := Lib.hid (rStamps_any (A := some ⟨w5.heap.size, 0, none⟩) (n := 1) (c := 1) [((a, v, F) : StampT)] (w5.alloc (.cells #[.string ⟨a.toArray⟩, .int .i64 v, .float .f64 F.toNat] 38)) (rd_one w5 a v F) rfl (by decide) (one_names (by have := HLA.out; omega)))
                    rw [stErr_one] at CF
                    by_cases h1 : stOne ((a, v, F) : StampT) = 0
                    · have hn1 : (stOne ((a, v, F) : StampT) != 0) = false := by rw [h1]; rfl
                      rw [h1] at CF
                      have HX1 := Lib.hid h1
                      rw [if_pos h1] at HACC
                      have HGX : Hid (∀ x ∈ O ++ [((a, v, F) : StampT)], stOne x = 0) := Lib.hid (fun x hx => by
                        rw [List.mem_append, List.mem_singleton] at hx
                        rcases hx with hx | rfl
                        · exact HG.out x hx
                        · exact HX1.out)
                      have HDR : Hid (Value.string (bt.extract (e + 1) bt.size) = .string ⟨(t.drop (e + 1)).toArray⟩) := Lib.hid (by rw [HBZ.out, ← HBT.out, linD])
                      clear h1 hn1
                      obtain ⟨i0, hi0, hz0, hz1, hz2, hz3⟩ := elStamp9.2
                      have hTs := elStamp9.1
                      have HNL : Hid ((O ++ [((a, v, F) : StampT)]).length = O.length + 1) := Lib.hid (by simp)
                      rcases Nat.eq_zero_or_pos O.length with h0 | h0
                      · have HNX : Hid (readL s0 = runLines (O.length + 1) (O ++ [((a, v, F) : StampT)]) (linesL (t.drop (e + 1)))) := Lib.hid (by
                          rw [HR1.out]
                          exact runR_next HBIG.out HACC.out (by rw [List.length_eq_zero_iff.1 h0]; rfl))
                        have hi1 : ¬ (1 : Int) < (O.length : Int) + 1 := by omega
                        have hi2 : (O.length : Int) ≤ 0 := by omega
                        generalize O.length = N at *
                        clear h0
                        go_wp2_with fail
                        refine CF.out.mono ?_
                        rintro e' w6 ⟨rfl, hb6⟩
                        have HB6 := Lib.hid ((below_new (Below.refl w5.heap.size w5) (.cells #[.string ⟨a.toArray⟩, .int .i64 v, .float .f64 F.toNat] 38)))
                        have HW6 := Lib.hid (below_newL (below_new HW5.out _) hb6)
                        have HR6 : Hid (w6.ownsRow w.heap.size 38 3 (.slice A N c) N (stV O)) := Lib.hid (row_below (row_below HR5.out HB6.out) hb6)
                        have HBX6 := Lib.hid ((HBX.out.below HB6.out HBX.out.lt).below hb6 (Nat.lt_of_lt_of_le HBX.out.lt HB6.out.size))
                        clear hb6 z1 z2 z3
                        have z1 := HBX6.out.cell (j := 0) rfl
                        have z2 := HBX6.out.cell (j := 1) rfl
                        have z3 := HBX6.out.cell (j := 2) rfl
                        go_wp2_with (at_builtin; go_loud (refine wpList_append_own _ rfl _ _ 22 rfl w.heap.size 38 i0 _ 3 32 hTs hi0 hz0 hz1 hz2 hz3 (by decide) _ N (stV O) rfl (HR6.out.alloc _) ⟨w6.heap.size, 0, none⟩ 1 1 [.string ⟨a.toArray⟩, .int .i64 v, .float .f64 F.toNat] rfl rfl (fun j u hu => by rw [addr_plus, Nat.zero_add]; exact (Blk.new w6 #[.string ⟨a.toArray⟩, .int .i64 v, .float .f64 F.toNat] 38).cell hu) (by simp [Value.oneCell']) (by unfold maxLen; omega) (by omega) (by rw [World.size_alloc]; have := HW6.out.size; omega) ?_; intro v' w7 hown7 hg7 _; obtain ⟨g', cap', hv', _, _, hgg⟩ := own_slice hown7; subst hv'; have HW7 := Lib.hid (below_grown (below_new HW6.out _) hg7 (fun k hk => (HR6.out.lt k hk).1) (by rw [World.size_alloc]; have := HW6.out.size; omega)); have HO7 := Lib.hid hown7; clear hown7 hg7))
                        exact ⟨⟨t.drop (e + 1), O ++ [((a, v, F) : StampT)], some ⟨g', 0, none⟩, cap', HDR.out, by rw [HNL.out], by rw [HNL.out]; rfl, by rw [List.length_drop]; omega, by rw [HNL.out]; omega, Lib.hid (by rw [HNX.out, HNL.out]), HGX, Lib.hid (by rw [HNL.out, stV_snoc]; exact HO7.out), HW7⟩, by have := HBZ.out; simp only [sizeOfV, ByteArray.size_extract]; omega⟩
                      · obtain ⟨k, hk⟩ : ∃ k, O.length = k + 1 := ⟨O.length - 1, by omega⟩
                        obtain ⟨p, hp⟩ : ∃ p, O[k]? = some p := ⟨_, List.getElem?_eq_getElem (by omega)⟩
                        have HGL : Hid (O.getLast? = some p) := Lib.hid (by rw [List.getLast?_eq_getElem?, hk]; exact hp)
                        obtain ⟨g1, hgA, y5⟩ : ∃ g1, A = some ⟨g1, 0, none⟩ ∧ w5.cell? ⟨g1, k * 3 + 1, none⟩ = some (.int .i64 p.2.1) := by
                          obtain ⟨A', c', hv', hsh⟩ := row_shape HR5.out
                          simp only [Value.slice.injEq] at hv'
                          rw [hv'.1]
                          rcases hsh with hsh | ⟨g1, h1, _, h3⟩
                          · omega
                          · exact ⟨g1, h1, by rw [Nat.mul_comm]; exact h3 _ _ (stV_at hp).2.1⟩
                        subst hgA
                        have hi1 : (1 : Int) < (O.length : Int) + 1 := by omega
                        have hidx : (O.length : Int) + 1 - 2 = (k : Int) := by omega
                        have hkN : (k : Int) < (O.length : Int) := by omega
                        have hkN2 : k < O.length := by omega
                        clear hk hp
                        by_cases h2 : p.2.1 ≤ v
                        · have hng : ¬ v < p.2.1 := by omega
                          have HNX : Hid (readL s0 = runLines (O.length + 1) (O ++ [((a, v, F) : StampT)]) (linesL (t.drop (e + 1)))) := Lib.hid (by
                            rw [HR1.out]
                            exact runR_next HBIG.out HACC.out (by rw [HGL.out]; simp [leAt, h2]))
                          obtain ⟨p1, p2, p3⟩ := p
                          simp only at y5 h2 hng
                          clear HGL
                          generalize O.length = N at *
                          go_wp2_with fail
                          refine CF.out.mono ?_
                          rintro e' w6 ⟨rfl, hb6⟩
                          have HB6 := Lib.hid ((below_new (Below.refl w5.heap.size w5) (.cells #[.string ⟨a.toArray⟩, .int .i64 v, .float .f64 F.toNat] 38)))
                          have HW6 := Lib.hid (below_newL (below_new HW5.out _) hb6)
                          have HR6 : Hid (w6.ownsRow w.heap.size 38 3 (.slice (some ⟨g1, 0, none⟩) N c) N (stV O)) := Lib.hid (row_below (row_below HR5.out HB6.out) hb6)
                          have HBX6 := Lib.hid ((HBX.out.below HB6.out HBX.out.lt).below hb6 (Nat.lt_of_lt_of_le HBX.out.lt HB6.out.size))
                          have y6 := cell_up (cell_up y5 HB6.out) hb6
                          clear hb6 z1 z2 z3 y5
                          have z1 := HBX6.out.cell (j := 0) rfl
                          have z2 := HBX6.out.cell (j := 1) rfl
                          have z3 := HBX6.out.cell (j := 2) rfl
                          go_wp2_with (at_builtin; go_loud (refine wpList_append_own _ rfl _ _ 22 rfl w.heap.size 38 i0 _ 3 32 hTs hi0 hz0 hz1 hz2 hz3 (by decide) _ N (stV O) rfl (HR6.out.alloc _) ⟨w6.heap.size, 0, none⟩ 1 1 [.string ⟨a.toArray⟩, .int .i64 v, .float .f64 F.toNat] rfl rfl (fun j u hu => by rw [addr_plus, Nat.zero_add]; exact (Blk.new w6 #[.string ⟨a.toArray⟩, .int .i64 v, .float .f64 F.toNat] 38).cell hu) (by simp [Value.oneCell']) (by unfold maxLen; omega) (by omega) (by rw [World.size_alloc]; have := HW6.out.size; omega) ?_; intro v' w7 hown7 hg7 _; obtain ⟨g', cap', hv', _, _, hgg⟩ := own_slice hown7; subst hv'; have HW7 := Lib.hid (below_grown (below_new HW6.out _) hg7 (fun k hk => (HR6.out.lt k hk).1) (by rw [World.size_alloc]; have := HW6.out.size; omega)); have HO7 := Lib.hid hown7; clear hown7 hg7))
                          exact ⟨⟨t.drop (e + 1), O ++ [((a, v, F) : StampT)], some ⟨g', 0, none⟩, cap', HDR.out, by rw [HNL.out], by rw [HNL.out]; rfl, by rw [List.length_drop]; omega, by rw [HNL.out]; omega, Lib.hid (by rw [HNX.out, HNL.out]), HGX, Lib.hid (by rw [HNL.out, stV_snoc]; exact HO7.out), HW7⟩, by have := HBZ.out; simp only [sizeOfV, ByteArray.size_extract]; omega⟩
                        · have hng : v < p.2.1 := by omega
                          have HE : Hid (readL s0 = ([], O.length + 1, 3)) := Lib.hid (by
                            rw [HR1.out]
                            exact runR_low HBIG.out HACC.out (by rw [HGL.out]; simp [leAt, h2]))
                          obtain ⟨p1, p2, p3⟩ := p
                          simp only at y5 h2 hng
                          clear HGL
                          generalize O.length = N at *
                          go_wp2_with fail
                          refine CF.out.mono ?_
                          rintro e' w6 ⟨rfl, hb6⟩
                          have HB6 := Lib.hid ((below_new (Below.refl w5.heap.size w5) (.cells #[.string ⟨a.toArray⟩, .int .i64 v, .float .f64 F.toNat] 38)))
                          have HW6 := Lib.hid (below_newL (below_new HW5.out _) hb6)
                          have y6 := cell_up (cell_up y5 HB6.out) hb6
                          clear hb6 z1 z2 z3 y5
                          go_wp2_with fail
                          go_ret3
                          rw [HE.out]
                          exact ⟨none, 0, rfl, Rd.nil_ _ _, HW6.out⟩
                    · have HE : Hid (readL s0 = ([], O.length + 1, 3)) := Lib.hid (by rw [HR1.out, runR_none HBIG.out]; rw [HACC.out, if_neg h1])
                      have hn1 : (stOne ((a, v, F) : StampT) != 0) = true := by simpa using h1
                      generalize stOne ((a, v, F) : StampT) = E at *
                      have h1b : ¬ E = 0 := h1
                      clear HACC
                      go_wp2_with fail
                      refine CF.out.mono ?_
                      rintro e' w6 ⟨rfl, hb6⟩
                      have HW6 := Lib.hid (below_newL (below_new HW5.out _) hb6)
                      clear hb6
                      go_wp2_with fail
                      go_ret3
                      rw [HE.out]
                      exact ⟨none, 0, rfl, Rd.nil_ _ _, HW6.out⟩
            · have HE : Hid (readL s0 = ([], O.length + 1, 3)) := Lib.hid (by rw [HR1.out, runR_none HBIG.out (accR_three h3)])
              go_wp2_with fail
              refine (CS.out _).mono ?_
              rintro e' w2 ⟨g, cs, rfl, _, hb2⟩
              have HW2 := Lib.hid (below_newL HBW2.out hb2)
              generalize hk : (splitC 32 (t.take e)).length = k at *
              have hk3 : ((k : Int) != 3) = true := by simp; omega
              have hk4 : decide ((k : Int) = 3) = false := by simp; omega
              have hk5 : ¬ (k : Int) = 3 := by omega
              clear hb2 h3 hk
              go_wp2_with fail
              go_ret3
              rw [HE.out]
              exact ⟨none, 0, rfl, Rd.nil_ _ _, HW2.out⟩
          · have c1 : ¬ ((bt[e].toNat : Nat) : Int) = 10 := fun h => h10 (UInt8.toNat_inj.1 (by have : (10 : UInt8).toNat = 10 := rfl; omega))
            have HN2 : Hid (∀ j, j < e + 1 → t[j]? ≠ some 10) := Lib.hid (fun j hj => by
              rcases Nat.lt_or_ge j e with h | h
              · exact HNO.out j h
              · obtain rfl : j = e := by omega
                rw [hX]
                intro h
                injection h with h
                exact h10 h)
            clear hX h10
            go_wp2_with fail
            exact ⟨⟨e + 1, rfl, by omega, HN2, HBZ2⟩, by simp [intOf]; omega⟩
        · have hee : ¬ (e : Int) < (bt.size : Int) := by omega
          have HEQ : Hid (e = bt.size) := Lib.hid (by omega)
          have HLN : Hid (linesL t = [t] ∧ t.getLast? ≠ some 10) := Lib.hid (lines_no t (fun j hj => HNO.out j (by have := HEQ.out; have := HBZ.out; omega)) HTE.out)
          have HR1 := Lib.hid HRUN.out
          rw [HLN.out.1] at HR1
          by_cases hbig : 200 < O.length + 1
          · have hbi : (200 : Int) < (O.length : Int) + 1 := by omega
            have HE : Hid (readL s0 = ([], O.length + 1, 2)) := Lib.hid (by rw [HR1.out, runR_large hbig])
            go_wp2_with fail
            go_ret3
            rw [HE.out]
            exact ⟨none, 0, rfl, Rd.nil_ _ _, HBW2.out⟩
          have hbi : ¬ (200 : Int) < (O.length : Int) + 1 := by omega
          have HE : Hid (readL s0 = ([], O.length + 1, 3)) := Lib.hid (by rw [HR1.out, runR_none hbig (accR_bare HLN.out.2)])
          clear hbig
          have CS := Lib.hid (fun W => split_at (t := t) (b := bt) HBT.out e W (by omega))
          have hq : ((e : Int) == (bt.size : Int)) = true := by simp; omega
          have hq2 : decide ((e : Int) = (bt.size : Int)) = true := by simp; omega
          go_wp2_with fail
          refine (CS.out _).mono ?_
          rintro e' w2 ⟨g, cs, rfl, _, hb2⟩
          have HW2 := Lib.hid (below_newL HBW2.out hb2)
          clear hb2
          go_wp2_with fail
          go_ret3
          rw [HE.out]
          exact ⟨none, 0, rfl, Rd.nil_ _ _, HW2.out⟩
end Go.Proofs.YtcjhkfhogcdobaaDoor
/- The law LogTells: what is called, what is compared. -/
namespace Go.Proofs.YtcjhkfhogcdobaaDoor
open Go.RowKit

theorem runLines_len : ∀ (ls : List (List UInt8)) (q : Nat) (O : List StampT), (runLines q O ls).1.length ≤ O.length + ls.length
  | [], q, O => by simp [runLines]
  | l :: ls, q, O => by
    rw [runLines]
    split
    · simp
    · split
      · simp
      · rename_i x _
        split
        · have := runLines_len ls (q + 1) (O ++ [x])
          simp only [List.length_append, List.length_cons, List.length_nil] at this ⊢
          omega
        · simp
theorem linesL_len : ∀ s : List UInt8, (linesL s).length ≤ s.length
  | [] => by simp [linesL]
  | x :: r => by
    have ih := linesL_len r
    rw [linesL_cons]
    split
    · simp; omega
    · split
      · simp
      · rename_i p q h
        rw [h] at ih
        simp at ih ⊢
        omega
theorem readL_len (s : List UInt8) : (readL s).1.length ≤ s.length := by
  unfold readL
  split
  · simp
  · have h1 := runLines_len (linesL s) 0 []
    have h2 := linesL_len s
    simp only [List.length_nil] at h1
    omega
set_option maxRecDepth 100000 in
set_option maxHeartbeats 4000000 in
theorem logTells_walk (A : Option Addr) (c : Nat) (L : List StampT) (s : List UInt8) (w : World) (hr : Rd w A (stV L)) (hb : L.length ≤ 9223372036854775807) (hs : NamesOk L) (hl : s.length ≤ 9223372036854775807) (hE : LEnv w) :
    Calls Tryd.prog 3 #[.slice A L.length c, .string ⟨s.toArray⟩] w fun e w' => e = .returned (.bool true) ∧ Below w.heap.size w w' := by
  have hz : (⟨s.toArray⟩ : ByteArray).size = s.length := by simp [ByteArray.size]
  have hbz : (⟨s.toArray⟩ : ByteArray).size ≤ 9223372036854775807 := by rw [hz]; exact hl
  have CP := Lib.hid (fun W (hW : LTab W) (hR : Rd W A (stV L)) => lPrint_any (A := A) (n := L.length) (c := c) L W hR rfl hb hs hW)
  have CA := Lib.hid (fun W (hW : LEnv W) => lParse_any s W hl hW)
  have CB := Lib.hid (fun W => rRead_any s W hl)
  have CF := Lib.hid (fun W (hR : Rd W A (stV L)) => rStamps_any (A := A) (n := L.length) (c := c) L W hR rfl hb hs)
  have CC := Lib.hid (fun W (hR : Rd W A (stV L)) => lCheck_any (A := A) (n := L.length) (c := c) L W hR rfl hb hs)
  have CT := Lib.hid (fun W (hR : Rd W A (stV L)) (h0 : stErr L = 0) => rStampsText_any (A := A) (n := L.length) (c := c) L W hR rfl h0)
  have HRN := Lib.hid (Nat.le_trans (readL_len s) hl)
  have HR := Lib.hid hr
  have HEV := Lib.hid hE
  clear hr hs hE hl
  by_cases hcut : 600 < s.length ∧ s.length ≤ 20000
  · have h1 : (600 : Int) < ((⟨s.toArray⟩ : ByteArray).size : Int) := by rw [hz]; omega
    have h2 : ((⟨s.toArray⟩ : ByteArray).size : Int) ≤ 20000 := by rw [hz]; omega
    clear hcut hz
    generalize (⟨s.toArray⟩ : ByteArray) = bs at *
    go_enter Tryd.func3, Tryd.ntmps3
    go_wp2_with fail
    go_ret
    exact ⟨rfl, Below.refl _ _⟩
  have hcb : (⟨s.toArray⟩ : ByteArray).size ≤ 600 ∨ (20000 : Int) < ((⟨s.toArray⟩ : ByteArray).size : Int) := by rw [hz]; omega
  clear hcut hz
  generalize (⟨s.toArray⟩ : ByteArray) = bs at *
  go_enter Tryd.func3, Tryd.ntmps3
  have hgo : (¬ (600 : Int) < (bs.size : Int)) ∨ ((600 : Int) < (bs.size : Int) ∧ ¬ (bs.size : Int) ≤ 20000) := by omega
  clear hcb
  rcases hgo with hgo | ⟨hg1, hg2⟩
  all_goals
    go_wp2_with fail
    refine (CP.out _ HEV.out.t HR.out).mono ?_
    rintro e w1 ⟨rfl, hb1⟩
    have HB1 := Lib.hid hb1
    clear hb1 CP
    generalize hT : (⟨(if stErr L = 0 then stampsT L else []).toArray⟩ : ByteArray) = bT at *
    have HT := Lib.hid hT
    clear hT
    go_wp2_with fail
    refine (CA.out _ (HEV.out.below HB1.out)).mono ?_
    rintro e w2 ⟨A2, c2, rfl, hr2, hb2⟩
    have HB2 := Lib.hid (below_newL HB1.out hb2)
    have HR2 := Lib.hid hr2
    clear hb2 hr2 CA
    go_wp2_with fail
    refine (CB.out _).mono ?_
    rintro e w3 ⟨A3, c3, rfl, hr3, hb3⟩
    have HB3 := Lib.hid (below_newL HB2.out hb3)
    have HR3 := Lib.hid (And.intro (HR2.out.below hb3) hr3)
    clear hb3 hr3 CB HR2
    generalize hRL : readL s = RL at *
    obtain ⟨RO, rn, re⟩ := RL
    clear hRL
    simp only at HR3 HRN ⊢
    go_wp2_with fail
    refine (CF.out _ (HR.out.below HB3.out)).mono ?_
    rintro e w4 ⟨rfl, hb4⟩
    have HB4 := Lib.hid (below_newL HB3.out hb4)
    have HR4 := Lib.hid (And.intro (HR3.out.1.below hb4) (HR3.out.2.below hb4))
    clear hb4 CF HR3
    go_wp2_with fail
    refine (CC.out _ (HR.out.below HB4.out)).mono ?_
    rintro e w5 ⟨rfl, hb5⟩
    have HB5 := Lib.hid (below_newL HB4.out hb5)
    have HR5 := Lib.hid (And.intro (HR4.out.1.below hb5) (HR4.out.2.below hb5))
    clear hb5 CC HR4
    have CS := Lib.hid (fun W h1 h2 => sameStamps_any (A := A2) (B := A3) (n := RO.length) (c := c2) (d := c3) RO W h1 h2 rfl HRN.out)
    by_cases h0 : stErr L = 0
    · have HT2 : Hid (bT = ⟨(stampsT L).toArray⟩) := Lib.hid (by rw [← HT.out, if_pos h0])
      have CT2 := Lib.hid (fun W hR => CT.out W hR h0)
      rw [h0]
      clear h0 CT
      have hbb : (bT.toList == bT.toList) = true := by simp
      have hbc : (bT.toList != bT.toList) = false := by simp
      go_wp2_with fail
      refine (CT2.out _ (HR.out.below HB5.out)).mono ?_
      rintro e w6 ⟨rfl, hb6⟩
      rw [← HT2.out]
      have HB6 := Lib.hid (below_newL HB5.out hb6)
      have HR6 := Lib.hid (And.intro (HR5.out.1.below hb6) (HR5.out.2.below hb6))
      clear hb6 CT2 HR5
      go_wp2_with fail
      refine (CS.out _ HR6.out.1 HR6.out.2).mono ?_
      rintro e w7 ⟨rfl, hb7⟩
      have HB7 := Lib.hid (below_newL HB6.out hb7)
      clear hb7 CS
      go_wp2_with fail
      go_ret
      exact ⟨rfl, HB7.out⟩
    · have HT2 : Hid (bT = ⟨([] : List UInt8).toArray⟩) := Lib.hid (by rw [← HT.out, if_neg h0])
      generalize stErr L = E at *
      have h0b : (E != 0) = true := by simpa using h0
      have h0c : (E == 0) = false := by simpa using h0
      have e1 : (bT.toList == []) = true := by rw [HT2.out, Lib.toList_data]; rfl
      have e2 : bT.toList.isEmpty = true := by rw [HT2.out, Lib.toList_data]; rfl
      have e3 : (bT.toList != []) = false := by rw [HT2.out, Lib.toList_data]; rfl
      clear CT
      go_wp2_with fail
      refine (CS.out _ HR5.out.1 HR5.out.2).mono ?_
      rintro e w7 ⟨rfl, hb7⟩
      have HB7 := Lib.hid (below_newL HB5.out hb7)
      clear hb7 CS
      go_wp2_with fail
      go_ret
      exact ⟨rfl, HB7.out⟩
end Go.Proofs.YtcjhkfhogcdobaaDoor
/- Stamps that come in: a slice of triples of a text, a number and a time. No condition. -/
namespace Go.Proofs.YtcjhkfhogcdobaaDoor
open Go.RowKit Go.WideShapes Go.ChangeShapes Go.ChangeAt Go.Deep

theorem fam_listT {α : Type} {q : Nat → α → Prop} : ∀ (len : Nat), (∀ i, i < len → ∃ x, q i x) → ∃ l : List α, l.length = len ∧ ∀ i, i < len → ∃ x, l[i]? = some x ∧ q i x
  | 0, _ => ⟨[], rfl, fun i hi => absurd hi (Nat.not_lt_zero _)⟩
  | k + 1, h => by
    obtain ⟨l, hl1, hl2⟩ := fam_listT k (fun i hi => h i (by omega))
    obtain ⟨x, hx⟩ := h k (by omega)
    refine ⟨l ++ [x], by simp [hl1], fun i hi => ?_⟩
    rcases Nat.lt_or_ge i k with h1 | h1
    · obtain ⟨y, hy1, hy2⟩ := hl2 i h1
      exact ⟨y, by rw [List.getElem?_append_left (by omega)]; exact hy1, hy2⟩
    · obtain rfl : i = k := by omega
      exact ⟨x, by rw [List.getElem?_append_right (by omega), hl1]; simp, hx⟩
theorem rd_of_cellsT {W : World} {a : Addr} {len : Nat} {V : Nat → Value} {xs : List Value} (hl : xs.length = len) (hV : ∀ i, i < len → xs[i]? = some (V i)) (hc : ∀ i, i < len → W.cell? (a.add i) = some (V i)) : Rd W (some a) xs := by
  intro hpos
  obtain ⟨b, off, ext⟩ := a
  have h0 := hc 0 (by omega)
  have hext : ext = none := by simpa [Addr.add] using World.cell?_spot h0
  subst hext
  have hat : ∀ i, i < len → W.cell? ⟨b, off + i, none⟩ = some (V i) := fun i hi => by
    have := hc i hi
    unfold Addr.add at this
    by_cases hz : i = 0
    · subst hz; simpa using this
    · simpa [hz] using this
  refine ⟨b, off, rfl, lt_of_cell' (hat 0 (by omega)), fun j u hu => ?_⟩
  have hj : j < len := by rw [← hl]; exact (List.getElem?_eq_some_iff.1 hu).1
  rw [hV j hj] at hu
  injection hu with hu
  subst hu
  exact hat j hj
section
variable {H : Type} {enc : TypeId × Value → H} {P : Program} {W : World} {n : Nat} {t e : TypeId} {cs : List Value} {x : DataW H × List MemPlace}
theorem trod_numT {k : IntKind} {V : Value} {y : DataW H × List MemPlace} (he : P.underlying e = some (.int k)) (h : DataW.trod enc P W 0 (fun _ => true) true n e [V] = some y) : ∃ z, V = .int k z := by
  cases n with
  | zero => simp [DataW.trod] at h
  | succ n =>
    simp only [DataW.trod, he] at h
    cases V <;> simp at h
    rename_i k' z
    obtain ⟨⟨rfl, hw⟩, _⟩ := h
    exact ⟨z, rfl⟩
theorem trod_strT {V : Value} {y : DataW H × List MemPlace} (he : P.underlying e = some .string) (h : DataW.trod enc P W 0 (fun _ => true) true n e [V] = some y) : ∃ s : List UInt8, V = sv s ∧ s.length ≤ maxLen := by
  obtain ⟨D, Pl⟩ := y
  obtain ⟨b, hV, _, hb⟩ := DataW.trod_string he h
  injection hV with hV _
  subst hV
  exact ⟨b.data.toList, str_of' b, by rw [Array.length_toList]; exact hb⟩
/-- A slice of stamps. -/
theorem trod_stamps {f0 f1 f2 : Field} (ht : P.underlying t = some (.slice e)) (he : P.underlying e = some (.struct #[f0, f1, f2])) (ce : P.cellsOf e = 3) (o0 : f0.offset = 0) (o1 : f1.offset = 1) (o2 : f2.offset = 2)
    (c0 : P.cellsOf f0.type = 1) (c1 : P.cellsOf f1.type = 1) (c2 : P.cellsOf f2.type = 1) (t0 : P.underlying f0.type = some .string) (t1 : P.underlying f1.type = some (.int .i64)) (t2 : P.underlying f2.type = some (.float .f64))
    (h : DataW.trod enc P W 0 (fun _ => true) true n t cs = some x) :
    ∃ (A : Option Addr) (E : List StampT) (c : Nat), cs = [.slice A E.length c] ∧ Rd W A (stV E) ∧ E.length ≤ 9223372036854775807 ∧ NamesOk E := by
  rcases open_slice ht h with ⟨rfl, _⟩ | ⟨a, len, cap, m, n, D, Pl, rfl, _, hl, hm, hmm, _, hx⟩
  · exact ⟨none, [], 0, rfl, Rd.nil_ _ _, by simp, fun j x hj => by simp at hj⟩
  · simp at hmm
    have hlm : len ≤ m := by omega
    obtain ⟨E, hl1, hl2⟩ := fam_listT (q := fun i (y : StampT) => (W.cell? (a.add (i * 3)) = some (sv y.1) ∧ W.cell? (a.add (i * 3 + 1)) = some (.int .i64 y.2.1) ∧ W.cell? (a.add (i * 3 + 2)) = some (fv y.2.2)) ∧ y.1.length ≤ maxLen) len (fun i hi => by
      obtain ⟨cs', h1, h2⟩ := hx i (by omega)
      rw [ce] at h1
      obtain ⟨_, hlen, hcell⟩ := World.cells?_some h1
      obtain ⟨xs, k, _, _, _, hxl, hf⟩ := DataW.trod_struct he h2
      match xs, hxl, cs', hlen with
      | [y0, y1, y2], _, [v0, v1, v2], _ =>
        have g0 := hf 0 f0 rfl
        have g1 := hf 1 f1 rfl
        have g2 := hf 2 f2 rfl
        simp [o0, o1, o2, c0, c1, c2] at g0 g1 g2
        have e0 := hcell 0 (by omega)
        have e1 := hcell 1 (by omega)
        have e2 := hcell 2 (by omega)
        rw [add_add] at e0 e1 e2
        obtain ⟨s, rfl, hs⟩ := trod_strT t0 g0
        obtain ⟨z, rfl⟩ := trod_numT t1 g1
        obtain ⟨d2, p2⟩ := y2
        obtain ⟨f, rfl, _⟩ := trod_time t2 g2
        exact ⟨(s, z, f), ⟨by simpa using e0, by simpa using e1, by simpa using e2⟩, hs⟩)
    unfold maxLen at hm
    refine ⟨some a, E, cap, by rw [hl1], rd_of_cellsT (len := 3 * len) (V := fun j => (stV E).getD j undef) (by rw [stV_len, hl1]) (fun j hj => ?_) (fun j hj => ?_), by omega, fun j y hy => ?_⟩
    · rw [List.getD_eq_getElem?_getD, List.getElem?_eq_getElem (by rw [stV_len, hl1]; exact hj)]
      rfl
    · obtain ⟨y, hy, ⟨h0, h1, h2⟩, _⟩ := hl2 (j / 3) (by omega)
      obtain ⟨k0, k1, k2⟩ := stV_at hy
      rw [List.getD_eq_getElem?_getD]
      rcases (by omega : j = 3 * (j / 3) ∨ j = 3 * (j / 3) + 1 ∨ j = 3 * (j / 3) + 2) with hj3 | hj3 | hj3
      · rw [hj3, k0, show 3 * (j / 3) = j / 3 * 3 by omega]
        exact h0
      · rw [hj3, k1, show 3 * (j / 3) + 1 = j / 3 * 3 + 1 by omega]
        exact h1
      · rw [hj3, k2, show 3 * (j / 3) + 2 = j / 3 * 3 + 2 by omega]
        exact h2
    · obtain ⟨z, hz, _, h4⟩ := hl2 j (by rw [← hl1]; exact (List.getElem?_eq_some_iff.1 hy).1)
      rw [hy] at hz
      injection hz with hz
      subst hz
      unfold maxLen at h4
      omega
end
theorem cellsStm : Tryd.prog.cellsOf 38 = 3 := by kernel_rfl
theorem cellsStT : Tryd.prog.cellsOf 9 = 1 := by kernel_rfl
theorem cellsInT : Tryd.prog.cellsOf 2 = 1 := by kernel_rfl
theorem cellsFlT : Tryd.prog.cellsOf 36 = 1 := by kernel_rfl
set_option maxRecDepth 100000 in
theorem open_stamps {H : Type} {enc : TypeId × Value → H} {W : World} {base : Nat} {v : Value} {d : DataW H} {ps : List MemPlace}
    (hok : Value.okWide Tryd.prog W .any base 22 v) (h : DataW.Trod enc Tryd.prog W 0 (fun _ => true) true 22 v d ps) :
    ∃ (A : Option Addr) (E : List StampT) (c : Nat), v = .slice A E.length c ∧ Rd W A (stV E) ∧ E.length ≤ 9223372036854775807 ∧ NamesOk E := by
  obtain ⟨a0, len, cap, rfl⟩ := okWide_slice Tryd.underlying22 hok
  obtain ⟨fuel, hf⟩ := h
  obtain ⟨A, E, c, e1, h1, h2, h3⟩ := trod_stamps Tryd.underlying22 Tryd.underlying38 cellsStm rfl rfl rfl cellsStT cellsInT cellsFlT Tryd.underlying9 Tryd.underlying2 Tryd.underlying36 hf
  simp [Value.cells] at e1
  obtain ⟨rfl, rfl, rfl⟩ := e1
  exact ⟨a0, E, cap, rfl, h1, h2, h3⟩
end Go.Proofs.YtcjhkfhogcdobaaDoor
