/- Contract: stale.check. The graph as for graph.Check; the table of math/bits lies. -/
import Derived.Test.YtecbdamimnllnaaDoorGr5
import Derived.Test.YtecbdamimnllnaaDoorStalePlain
import Derived.Test.YtecbdamimnllnaaDoorOrd
namespace Go.Proofs.YtecbdamimnllnaaDoor
open Go.RowKit

/-- What is seen, as a value. -/
def sx (A3 : Option Addr) (j c3 d : Nat) : Value := .agg #[.slice A3 j c3, .int .u64 (d : Int)]
structure SeIn (A3 : Option Addr) (j : Nat) (T : List Int) (d : Nat) (w : World) : Prop where
  at_ : Rd w A3 (T.map (.int .i64))
  tlen : T.length = j
  tb : j ≤ 9223372036854775807
  d64 : B64 d
theorem SeIn.below {A3 : Option Addr} {j d : Nat} {T : List Int} {w w' : World} (h : SeIn A3 j T d w) (hb : Below w.heap.size w w') : SeIn A3 j T d w' := ⟨h.at_.below hb, h.tlen, h.tb, h.d64⟩
structure SeBox (B : Nat) (v1 v2 : Value) (w : World) : Prop where
  c1 : w.cell? ⟨B, 0, none⟩ = some v1
  c2 : w.cell? ⟨B, 1, none⟩ = some v2
theorem SeBox.below {B : Nat} {v1 v2 : Value} {w w' : World} (h : SeBox B v1 v2 w) (hb : Below w.heap.size w w') : SeBox B v1 v2 w' := ⟨cell_keep h.c1 hb, cell_keep h.c2 hb⟩
theorem box_six (w : World) (x1 x2 x3 x4 y1 y2 : Value) (t u : TypeId) :
    GrBox w.heap.size x1 x2 x3 x4 ((w.alloc (.cells #[x1, x2, x3, x4] t)).alloc (.cells #[y1, y2] u)) ∧ SeBox (w.heap.size + 1) y1 y2 ((w.alloc (.cells #[x1, x2, x3, x4] t)).alloc (.cells #[y1, y2] u)) ∧ Below w.heap.size w ((w.alloc (.cells #[x1, x2, x3, x4] t)).alloc (.cells #[y1, y2] u)) := by
  obtain ⟨h1, h2, h3, h4, h5⟩ := box_four w x1 x2 x3 x4 t
  refine ⟨⟨cell_alloc h1 _, cell_alloc h2 _, cell_alloc h3 _, cell_alloc h4 _⟩, ⟨?_, ?_⟩, below_new h5 _⟩ <;> (rw [World.cell?_alloc_at _ _ _ _ (by simp)]; rfl)
theorem SeIn.tcell {A3 : Option Addr} {j d : Nat} {T : List Int} {w : World} (h : SeIn A3 j T d w) {q : Nat} (hq : q < j) : ∃ b off, A3 = some ⟨b, off, none⟩ ∧ w.cell? ⟨b, off + q, none⟩ = some (.int .i64 (tmI T q)) := by
  obtain ⟨b, off, hA, hc⟩ := h.at_.int (k := q) (by rw [h.tlen]; exact hq)
  exact ⟨b, off, hA, hc⟩
theorem good_fault {l : List Nat} (h : Good l) : faultOf l [] = 0 := by
  unfold faultOf
  rw [if_neg (by have := h.1; omega), if_pos]
  rw [List.append_nil, List.all_eq_true]
  intro s hs
  obtain ⟨i, hi⟩ := List.mem_iff_getElem?.1 hs
  have e : rowAt l i = s := by unfold rowAt; rw [hi]; rfl
  rw [← e]
  exact (inU_iff h.1 (h.b64 i)).2 (fun j hj => h.2 i j hj)
theorem bit_raw (s q : Nat) (hs : B64 s) : bits .and .u64 ((s : Int) / 2 ^ q) 1 = if s.testBit q then 1 else 0 := by
  have e : ((s : Int) / 2 ^ q) = ((s / 2 ^ q : Nat) : Int) := by simp
  have h1 : s / 2 ^ q < 18446744073709551616 := Nat.lt_of_le_of_lt (Nat.div_le_self _ _) hs
  have := u64_and_nat (s / 2 ^ q) 1 h1 (by decide)
  rw [e, show (1 : Int) = ((1 : Nat) : Int) from rfl, this, Nat.and_one_is_mod, Nat.testBit_eq_decide_div_mod_eq]
  by_cases h : s / 2 ^ q % 2 = 1
  · simp [h]
  · have : s / 2 ^ q % 2 = 0 := by omega
    simp [this]
def StPost (n : Nat) (E : List EdgeT) (err : Int) (w : World) (e : Ending) (w' : World) : Prop :=
  (err ≠ 0 ∧ e = .returned (.tuple #[.slice none 0 0, .slice none 0 0, .int .i64 err]) ∧ Below w.heap.size w w') ∨
  (err = 0 ∧ ∃ A c B c', e = .returned (.tuple #[.slice A n c, .slice B n c', .int .i64 0]) ∧ w'.ownsRow w.heap.size 24 1 (.slice A n c) n ((rowsG n E).map uv) ∧ w'.ownsRow w.heap.size 3 1 (.slice B n c') n ((ordL (rowsG n E)).map nv) ∧ Below w.heap.size w w')
section
variable {A1 A2 A3 : Option Addr} {n k j c1 c2 c3 : Nat} {N : List (List UInt8)} {E : List EdgeT} {p m d : Nat} {T : List Int} (w : World) (hG : GrIn A1 n A2 k N E p m w) (hS : SeIn A3 j T d w) (hT : Tab w)
include hG hS hT
set_option maxRecDepth 100000 in
set_option maxHeartbeats 4000000 in
theorem stCheck_any : Calls Tryd.prog 32 #[gv A1 n c1 A2 k c2 p m, sx A3 j c3 d] w (StPost n E (seErr N E p m T d) w) := by
  have HCB := Lib.hid (fun W (hW : Below w.heap.size w W) => gRows_bad (c1 := c1) (c2 := c2) W (hG.below hW))
  have HCG := Lib.hid (fun W (hW : Below w.heap.size w W) => gRows_good (c1 := c1) (c2 := c2) W (hG.below hW))
  have HG := Lib.hid hG
  have HS := Lib.hid hS
  have HT := Lib.hid hT
  have HN := Lib.hid hG.nlen
  have HJ := Lib.hid hS.tlen
  have hjb := hS.tb
  unfold gv at *
  unfold sx
  obtain ⟨x0, y0, z0⟩ := box_six w (.slice A1 n c1) (.slice A2 k c2) (.int .u64 (p : Int)) (.int .u64 (m : Int)) (.slice A3 j c3) (.int .u64 (d : Int)) 26 29
  have X2 := Lib.hid x0
  have Y2 := Lib.hid y0
  have B2 := Lib.hid z0
  clear hG hS hT x0 y0 z0
  go_enter Tryd.func32, Tryd.ntmps32
  go_upto_region 1 with fail
  generalize (w.alloc (.cells #[.slice A1 n c1, .slice A2 k c2, .int .u64 (p : Int), .int .u64 (m : Int)] 26)).alloc (.cells #[.slice A3 j c3, .int .u64 (d : Int)] 29) = w2 at *
  generalize w.heap.size + 1 = BS at *
  obtain ⟨x1, x2, x3, x4⟩ := X2.out
  obtain ⟨y1, y2⟩ := Y2.out
  go_wp2_with fail
  by_cases he : grErr N E p m = 0
  · refine (HCG.out _ B2.out he).mono ?_
    rintro e w3 ⟨AR, cR, rfl, hown3, hb3⟩
    have HR3 := Lib.hid hown3
    have B3 := Lib.hid (below_then B2.out hb3)
    have X3 := Lib.hid (X2.out.below hb3)
    have Y3 := Lib.hid (Y2.out.below hb3)
    have HE0 := Lib.hid he
    clear hown3 hb3 x1 x2 x3 x4 y1 y2 X2 Y2 HCG HCB he
    obtain ⟨x1, x2, x3, x4⟩ := X3.out
    obtain ⟨y1, y2⟩ := Y3.out
    by_cases hjn : j = n
    · subst hjn
      go_wp2_with fail
      go_loopw [10, 35] (fun _ i wr => ∃ q : Nat, q ≤ j ∧ i = .int .i64 (q : Int) ∧ Hid (∀ (r : Nat) (t : Int), r < q → T[r]? = some t → tOut t = false) ∧ w3 = wr) (fun _ i _ => j - (intOf i).toNat)
      case atStart => exact ⟨0, by omega, rfl, Lib.hid (fun r t h => absurd h (by omega)), rfl⟩
      case round =>
        obtain ⟨q, hq, rfl, hall, rfl⟩ := hrel
        by_cases hlt : q < j
        · have hq2 : (q : Int) < (j : Int) := by omega
          obtain ⟨b, off, rfl, yt⟩ := (HS.out.below B3.out).tcell hlt
          have hTq : T[q]? = some (tmI T q) := by unfold tmI; rw [List.getElem?_eq_getElem (by rw [HJ.out]; exact hlt)]; rfl
          have HTQ := Lib.hid hTq
          clear hTq
          generalize tmI T q = t at *
          rcases tOut_ways t with ⟨ho, g1⟩ | ⟨ho, g1, g2⟩ | ⟨ho, g1, g2⟩
          case inr.inr =>
            have HA : Hid (∀ (r : Nat) (t : Int), r < q + 1 → T[r]? = some t → tOut t = false) := Lib.hid (fun r u hr hu => by
              rcases Nat.lt_or_ge r q with h | h
              · exact hall.out r u h hu
              · obtain rfl : r = q := by omega
                rw [HTQ.out] at hu
                injection hu with hu
                rw [← hu]; exact ho)
            clear ho hall
            go_wp2_with fail
            go_roundw
            case rel => exact ⟨q + 1, by omega, by go_num, HA, by first | rfl | trivial⟩
            case measure => simp [intOf]; omega
          all_goals
            have HE : Hid (seErr N E p m T d = 4) := Lib.hid (seErr_4 HN.out HJ.out HE0.out rfl (tOut_any HTQ.out ho))
            clear ho hall
            go_wp2_with fail
            go_ret3
            exact .inl ⟨by rw [HE.out]; decide, by rw [HE.out] <;> rfl, B3.out⟩
        · have HA := Lib.hid (tOut_none hall.out (by rw [HJ.out]; omega))
          have HA0 := HA
          have hqj : ¬ (q : Int) < (j : Int) := by omega
          have hn64 : j ≤ 64 := by have := (gr_ok HE0.out).1; rw [HN.out] at this; exact this
          clear hall hlt hq
          go_wp2_with fail
          refine (pBelow_yes (j : Int) (by omega) (by omega) _).mono ?_
          rintro e w' ⟨rfl, rfl⟩
          rw [Int.toNat_natCast]
          have hmr := minus_raw d (upTo j) HS.out.d64 (upTo_b64 hn64)
          by_cases h3 : minus d (upTo j) = 0
          · have H3 := Lib.hid h3
            rw [h3] at hmr
            have HGD : Hid (Good (rowsG j E)) := Lib.hid (rowsG_good hn64 (by have := (gr_ok HE0.out).2.2.2.1; rw [HN.out] at this; exact this))
            have HF0 : Hid (faultOf (rowsG j E) [] = 0) := Lib.hid (good_fault HGD.out)
            have HTW := Lib.hid (HT.out.below B3.out)
            have HRR := Lib.hid (Rd.of_own HR3.out)
            have HRL : Hid ((rowsG j E).length = j) := Lib.hid (rowsG_len j E)
            clear h3
            go_wp2_with fail
            by_cases h4 : ordR (rowsG j E) = 0
            · have H4 := Lib.hid h4
              refine (pOrder_good (rowsG j E) _ HRR.out HRL.out (by omega) HGD.out.b64 HF0.out HTW.out h4).mono ?_
              clear h4
              rintro e w4 ⟨AO, cO, rfl, hown4, hb4⟩
              have HO4 := Lib.hid hown4
              have B4 := Lib.hid (below_then B3.out hb4)
              have X4 := Lib.hid (X3.out.below hb4)
              have Y4 := Lib.hid (Y3.out.below hb4)
              have HR4 := Lib.hid (own_below HR3.out hb4)
              have hsz := B3.out.size
              have hsz2 := B2.out.size
              clear hown4 hb4 x1 x2 x3 x4 y1 y2 X3 Y3 HR3 HRR
              obtain ⟨x1, x2, x3, x4⟩ := X4.out
              obtain ⟨y1, y2⟩ := Y4.out
              go_wp2_with fail
              go_loopw [14, 15, 68] (fun _ _ i wr => ∃ q : Nat, q ≤ j ∧ i = .int .i64 (q : Int) ∧ Hid (∀ r, r < q → lone T (m ||| p) r = false) ∧ w4 = wr) (fun _ _ i _ => j - (intOf i).toNat)
              case atStart => exact ⟨0, by omega, rfl, Lib.hid (fun r h => absurd h (by omega)), rfl⟩
              case round =>
                clear hqj hmr
                obtain ⟨q, hq, rfl, hall, rfl⟩ := hrel
                by_cases hlt : q < j
                · have hq2 : (q : Int) < (j : Int) := by omega
                  obtain ⟨b, off, rfl, yt⟩ := (HS.out.below B4.out).tcell hlt
                  have hor : bits .or .u64 (m : Int) (p : Int) = ((m ||| p : Nat) : Int) := u64_or_nat m p HG.out.m64 HG.out.p64
                  have HLO : Hid (lone T (m ||| p) q = (decide (tmI T q < 0) && !(m ||| p).testBit q)) := Lib.hid rfl
                  generalize tmI T q = t at *
                  by_cases ht : t < 0
                  · have hbr := bit_raw (m ||| p) q (HG.out.m64.or HG.out.p64)
                    have g1 : decide (t < 0) = true := decide_eq_true ht
                    cases hb : (m ||| p).testBit q with
                    | true =>
                      rw [hb] at HLO hbr
                      rw [if_pos rfl] at hbr
                      have HA : Hid (∀ r, r < q + 1 → lone T (m ||| p) r = false) := Lib.hid (fun r hr => by
                        rcases Nat.lt_or_ge r q with h | h
                        · exact hall.out r h
                        · obtain rfl : r = q := by omega
                          rw [HLO.out]; simp)
                      clear hall HLO ht hb
                      go_wp2_with fail
                      go_roundw
                      case rel => exact ⟨q + 1, by omega, by go_num, HA, by first | rfl | trivial⟩
                      case measure => simp [intOf]; omega
                    | false =>
                      rw [hb] at HLO hbr
                      rw [if_neg (by simp)] at hbr
                      have HE : Hid (seErr N E p m T d = 5) := Lib.hid (seErr_5 HN.out HJ.out HE0.out rfl HA0.out H3.out H4.out (lone_any hlt (by rw [HLO.out, g1]; rfl)))
                      clear hall HLO ht hb
                      go_wp2_with fail
                      go_ret3
                      exact .inl ⟨by rw [HE.out]; decide, by rw [HE.out] <;> rfl, B4.out⟩
                  · have HA : Hid (∀ r, r < q + 1 → lone T (m ||| p) r = false) := Lib.hid (fun r hr => by
                      rcases Nat.lt_or_ge r q with h | h
                      · exact hall.out r h
                      · obtain rfl : r = q := by omega
                        rw [HLO.out, decide_eq_false ht]; rfl)
                    have g1 : decide (t < 0) = false := decide_eq_false ht
                    clear hall HLO ht
                    go_wp2_with fail
                    go_roundw
                    case rel => exact ⟨q + 1, by omega, by go_num, HA, by first | rfl | trivial⟩
                    case measure => simp [intOf]; omega
                · have HA : Hid ((List.range j).any (lone T (m ||| p)) = false) := Lib.hid (lone_none hall.out (by omega))
                  have HE : Hid (seErr N E p m T d = 0) := Lib.hid (seErr_0 HN.out HJ.out HE0.out rfl HA0.out H3.out H4.out HA.out)
                  have hqj : ¬ (q : Int) < (j : Int) := by omega
                  clear hall
                  go_wp2_with fail
                  go_ret3
                  exact .inr ⟨HE.out, _, _, _, _, rfl, own_base HR4.out hsz2, own_base HO4.out hsz, B4.out⟩
            · have HE : Hid (seErr N E p m T d = 8) := Lib.hid (seErr_8 HN.out HJ.out HE0.out rfl HA.out H3.out h4)
              refine (pOrder_cyc (rowsG j E) _ HRR.out HRL.out (by omega) HGD.out.b64 HF0.out HTW.out h4).mono ?_
              rintro e w4 ⟨rfl, hb4⟩
              have B4 := Lib.hid (below_then B3.out hb4)
              clear hb4 x1 x2 x3 x4 y1 y2 X3 Y3 h4
              go_wp2_with fail
              go_ret3
              exact .inl ⟨by rw [HE.out]; decide, by rw [HE.out] <;> rfl, B4.out⟩
          · have HE : Hid (seErr N E p m T d = 4) := Lib.hid (seErr_4b HN.out HJ.out HE0.out rfl HA.out h3)
            have hne : ((minus d (upTo j) : Nat) : Int) ≠ 0 := by omega
            generalize minus d (upTo j) = M at *
            clear h3
            go_wp2_with fail
            go_ret3
            exact .inl ⟨by rw [HE.out]; decide, by rw [HE.out] <;> rfl, B3.out⟩
    · have HE : Hid (seErr N E p m T d = 1) := Lib.hid (seErr_1 HN.out HJ.out HE0.out hjn)
      have hji : ¬ (j : Int) = (n : Int) := by omega
      go_wp2_with fail
      go_ret3
      exact .inl ⟨by rw [HE.out]; decide, by rw [HE.out] <;> rfl, B3.out⟩
  · have hne := he
    have HE : Hid (seErr N E p m T d = grErr N E p m) := Lib.hid (seErr_gr he)
    refine (HCB.out _ B2.out he).mono ?_
    rintro e w3 ⟨rfl, hb3⟩
    have B3 := Lib.hid (below_then B2.out hb3)
    have HNE := Lib.hid he
    clear hb3 x1 x2 x3 x4 y1 y2 X2 Y2 HCG HCB he
    generalize grErr N E p m = x at *
    go_wp2_with fail
    go_ret3
    exact .inl ⟨by rw [HE.out]; exact HNE.out, by rw [HE.out] <;> rfl, B3.out⟩
end
end Go.Proofs.YtecbdamimnllnaaDoor
