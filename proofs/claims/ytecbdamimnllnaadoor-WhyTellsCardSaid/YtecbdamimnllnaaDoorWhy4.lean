/- Contracts: why.Holds, the reference's ReasonHolds. The graph and what is seen are right; the row of reasons is finite. -/
import Derived.Test.YtecbdamimnllnaaDoorWhy3
import Derived.Test.YtecbdamimnllnaaDoorSt2
import Derived.Test.YtecbdamimnllnaaDoorSt5
namespace Go.Proofs.YtecbdamimnllnaaDoor
open Go.RowKit

theorem wlt_blk2 {w : World} {b : Nat} {o : Obj} (h : w.heap[b]? = some o) : b < w.heap.size := (Array.getElem?_eq_some_iff.1 h).1
/-- Of each that holds: the ones before too. -/
def hPre (l : List Nat) (T : List Int) (p m d : Nat) (L : List WV) (i : Nat) : Bool := (List.range i).all fun j => match L[j]? with | some e => holdsB l T p m d e (nxN L j) | none => true
theorem hPre_succ {l : List Nat} {T : List Int} {p m d : Nat} {L : List WV} {i : Nat} {e : WV} (h : L[i]? = some e) : hPre l T p m d L (i + 1) = (hPre l T p m d L i && holdsB l T p m d e (nxN L i)) := by
  unfold hPre
  rw [List.range_succ, List.all_append]
  simp [h]
theorem hPre_no {l : List Nat} {T : List Int} {p m d : Nat} {L : List WV} {i : Nat} {e : WV} (h : L[i]? = some e) (hn : holdsB l T p m d e (nxN L i) = false) : holdsL l T p m d L = false := by
  unfold holdsL
  rw [List.all_eq_false]
  refine ⟨i, List.mem_range.2 (List.getElem?_eq_some_iff.1 h).1, ?_⟩
  rw [h]
  simp [hn]
def whyH (err : Int) (v : Bool) : Bool := if err = 0 then v else false
/-- What Holds answers. -/
def holdsV (l : List Nat) (T : List Int) (p m d : Nat) (L : List WV) : Bool := decide (L.length ≤ 64) && (allOk L && holdsL l T p m d L)
theorem rdW_own {w : World} {B n c : Nat} {A : Option Addr} {L : List WV} (h : w.ownsRow B 32 4 (.slice A n c) n (wcs L)) : Rd w A (wcs L) := by
  intro hn
  rcases h.2 with ⟨hv, h0⟩ | ⟨g, cap, cur, hv, _, hh, _, _, _, _⟩
  · have := h.1; omega
  · injection hv with hA _ _
    subst hA
    refine ⟨g, 0, rfl, wlt_blk2 hh, fun j u hu => ?_⟩
    rw [Nat.zero_add, h.cellAt j (by have := (List.getElem?_eq_some_iff.1 hu).1; have := h.1; omega)]
    exact hu
theorem WhyCh.nx {w : World} {L : List WV} (h : WhyCh w L) {i : Nat} {e : WV} (hi : L[i]? = some e) (hm : e.m ≠ 0) : ∃ b off, e.A = some ⟨b, off, none⟩ ∧ w.cell? ⟨b, off, none⟩ = some (.int .i64 (nxN L i)) := by
  obtain ⟨b, off, e', h1, h2, h3, _⟩ := h.next i e hi hm
  refine ⟨b, off, h1, ?_⟩
  unfold nxN
  rw [h2]
  exact h3
section
variable {A1 A2 A3 : Option Addr} {n k c1 c2 c3 : Nat} {N : List (List UInt8)} {E : List EdgeT} {p m d : Nat} {T : List Int} (L : List WV) (e0 : WV) (w : World) (hG : GrIn A1 n A2 k N E p m w)
include hG
set_option maxRecDepth 100000 in
set_option maxHeartbeats 2000000 in
theorem pHolds_any {j : Nat} (hS : SeIn A3 j T d w) (hT : Tab w) (hW : WhyCh w L) (h0 : L[0]? = some e0) :
    Calls Tryd.prog 5 #[gv A1 n c1 A2 k c2 p m, sx A3 j c3 d, wvv e0] w fun e w' => e = .returned (.tuple #[.bool (whyH (seErr N E p m T d) (holdsV (rowsG n E) T p m d L)), .int .i64 (seErr N E p m T d)]) ∧ Below w.heap.size w w' := by
  have HC := Lib.hid (fun W (hW : Below w.heap.size w W) => stCheckE_any (c1 := c1) (c2 := c2) (c3 := c3) W (hG.below hW) (hS.below hW) (hT.below hW))
  have HG := Lib.hid hG
  have HS := Lib.hid hS
  have HWC := Lib.hid hW
  have H0 := Lib.hid h0
  obtain ⟨x0, y0, v0, z0⟩ := box_ten w (.slice A1 n c1) (.slice A2 k c2) (.int .u64 (p : Int)) (.int .u64 (m : Int)) (.slice A3 j c3) (.int .u64 (d : Int)) e0 26 29 32
  have B2 := Lib.hid z0
  have X2 := Lib.hid x0
  have Y2 := Lib.hid y0
  have V2 := Lib.hid v0
  obtain ⟨x1, x2, x3, x4⟩ := x0
  obtain ⟨y1, y2⟩ := y0
  obtain ⟨v1, v2, v3, v4⟩ := v0
  have hrow := Lib.hid (fun W (hb : Below w.heap.size w W) => row_any L e0 W (hW.below hb) h0)
  clear hG hS hT hW h0 z0
  unfold gv sx wvv at *
  go_enter Tryd.func5, Tryd.ntmps5
  go_upto_region 1 with fail
  generalize (((w.alloc (.cells #[.slice A1 n c1, .slice A2 k c2, .int .u64 (p : Int), .int .u64 (m : Int)] 26)).alloc (.cells #[.slice A3 j c3, .int .u64 (d : Int)] 29)).alloc (.cells #[.int .i64 e0.n, .int .i64 e0.c, .int .i64 e0.k, .slice e0.A e0.m e0.cap] 32)) = w2 at *
  generalize hBS : w.heap.size + 1 = BS at *
  generalize hBW : BS + 1 = BW at *
  clear hBS hBW
  go_wp2_with fail
  refine (HC.out _ B2.out).mono ?_
  rintro e w3 ⟨rfl, hb3⟩
  have B3 := Lib.hid (below_then B2.out hb3)
  have X3 := Lib.hid (X2.out.below hb3)
  have Y3 := Lib.hid (Y2.out.below hb3)
  have V3 := Lib.hid (V2.out.below hb3)
  clear hb3 x1 x2 x3 x4 y1 y2 v1 v2 v3 v4 X2 Y2 V2
  by_cases he : seErr N E p m T d = 0
  · have HE := Lib.hid he
    rw [he]
    obtain ⟨hg0, hjn, _, _, hr0⟩ := se_ok HG.out.nlen HS.out.tlen he
    obtain ⟨hn64, _, _, hout, _, _⟩ := gr_ok hg0
    rw [HG.out.nlen] at hn64 hout
    have HGD : Hid (Good (rowsG n E)) := Lib.hid (rowsG_good hn64 hout)
    obtain rfl : n = j := hjn.symm
    have HG0 := Lib.hid hg0
    clear hg0 hr0 hout he
    obtain ⟨x1, x2, x3, x4⟩ := X3.out
    go_wp2_with fail
    have hgr := gRows_good (c1 := c1) (c2 := c2) w3 (HG.out.below B3.out) HG0.out
    unfold gv at hgr
    refine hgr.mono ?_
    rintro e w4 ⟨AR, cR, rfl, hown4, hb4⟩
    have HRR := Lib.hid (Rd.of_own hown4)
    have B4 := Lib.hid (below_then B3.out hb4)
    have X4 := Lib.hid (X3.out.below hb4)
    have Y4 := Lib.hid (Y3.out.below hb4)
    have V4 := Lib.hid (V3.out.below hb4)
    have HR4 := Lib.hid (hrow.out _ B4.out)
    clear hown4 hb4 hgr x1 x2 x3 x4 X3 Y3 V3 hrow
    obtain ⟨v1, v2, v3, v4⟩ := V4.out
    go_wp2_with fail
    refine HR4.out.mono ?_
    rintro e w5 ⟨hb5, (⟨hbig, rfl⟩ | ⟨hsm, A5, c5, rfl, hown5⟩)⟩
    · have HV : Hid (whyH (seErr N E p m T d) (holdsV (rowsG n E) T p m d L) = false) := Lib.hid (by unfold whyH; rw [if_pos HE.out]; unfold holdsV; rw [decide_eq_false (by omega)]; rfl)
      have B5 := Lib.hid (below_then B4.out hb5)
      clear hb5 v1 v2 v3 v4 hbig
      go_wp2_with fail
      go_ret2
      exact ⟨by rw [HV.out, HE.out] <;> rfl, B5.out⟩
    · have HVV : Hid (whyH (seErr N E p m T d) (holdsV (rowsG n E) T p m d L) = (allOk L && holdsL (rowsG n E) T p m d L)) := Lib.hid (by unfold whyH; rw [if_pos HE.out]; unfold holdsV; rw [decide_eq_true hsm]; rfl)
      have B5 := Lib.hid (below_then B4.out hb5)
      have HR5 := Lib.hid (HRR.out.below hb5)
      have X5 := Lib.hid (X4.out.below hb5)
      have Y5 := Lib.hid (Y4.out.below hb5)
      have HOW := Lib.hid (rdW_own hown5)
      clear hb5 v1 v2 v3 v4 hown5 HRR X4 Y4 V4 HR4
      cases hok : allOk L with
      | false =>
        rw [hok] at HVV
        clear hok
        go_wp2_with fail
        go_ret2
        exact ⟨by rw [HVV.out, HE.out] <;> rfl, B5.out⟩
      | true =>
        rw [hok, Bool.true_and] at HVV
        have HOK := Lib.hid hok
        clear hok
        go_wp2_with fail
        go_loopw [15, 37] (fun _ x wr => ∃ (i : Nat), x = .int .i64 (i : Int) ∧ i ≤ L.length ∧ Hid (hPre (rowsG n E) T p m d L i = true) ∧ Hid (Below w5.heap.size w5 wr)) (fun _ x _ => L.length - (intOf x).toNat)
        case atStart => exact ⟨0, rfl, Nat.zero_le _, Lib.hid rfl, Lib.hid (Below.refl _ _)⟩
        case round =>
          obtain ⟨i, rfl, hi, HPR, HBW⟩ := hrel
          by_cases hlt : i < L.length
          · obtain ⟨e, he⟩ : ∃ e, L[i]? = some e := ⟨L[i], List.getElem?_eq_getElem hlt⟩
            obtain ⟨b, o, rfl, z0, z1, z2, z3⟩ := rd_why (HOW.out.below HBW.out) he
            have hoe : okW e = true := List.all_eq_true.1 HOK.out e (List.mem_of_getElem? he)
            obtain ⟨hc1, hc5, hem⟩ := okW_iff.1 hoe
            have HNO := Lib.hid (fun hno => hPre_no (l := rowsG n E) (T := T) (p := p) (m := m) (d := d) he hno)
            have HPS := Lib.hid (hPre_succ (l := rowsG n E) (T := T) (p := p) (m := m) (d := d) he)
            have HBN := Lib.hid (below_new HBW.out (.cells #[.int .i64 e.n, .int .i64 e.c, .int .i64 e.k, .slice e.A e.m e.cap] 32))
            have BN := Lib.hid (below_then B5.out HBN.out)
            obtain ⟨x1, x2, x3, x4⟩ := X5.out.below HBN.out
            obtain ⟨y1, y2⟩ := Y5.out.below HBN.out
            have hh := holds_any (c1 := c1) (c2 := c2) (c3 := c3) (cR := cR) (rowsG n E) _ (HG.out.below BN.out) (HS.out.below BN.out) (rowsG_len n E) HGD.out (HR5.out.below HBN.out) e (nxN L i) hc1 hc5 (fun h5 => by
              have hm1 : e.m = 1 := by rw [hem, if_pos h5]
              obtain ⟨b', o', g1, g2⟩ := (HWC.out.below BN.out).nx he (by omega)
              exact ⟨b', o', g1, by omega, g2⟩)
            unfold gv sx wvv at hh
            have HH := Lib.hid hh
            clear hh he hoe hc1 hc5 hem
            obtain ⟨en, ec, ek, eA, em, ecap⟩ := e
            simp only at z0 z1 z2 z3 HH HBN BN HNO HPS x1 x2 x3 x4 y1 y2
            go_wp2_with fail
            refine HH.out.mono ?_
            rintro e' w6 ⟨rfl, hb6⟩
            have B6 := Lib.hid (below_then HBN.out hb6)
            clear hb6 x1 x2 x3 x4 y1 y2 z0 z1 z2 z3
            cases hhb : holdsB (rowsG n E) T p m d ⟨en, ec, ek, eA, em, ecap⟩ (nxN L i) with
            | false =>
              have HF := Lib.hid (HNO.out hhb)
              clear hhb
              go_wp2_with fail
              go_ret2
              exact ⟨by rw [HVV.out, HF.out, HE.out] <;> rfl, below_then B5.out B6.out⟩
            | true =>
              have HP2 : Hid (hPre (rowsG n E) T p m d L (i + 1) = true) := Lib.hid (by rw [HPS.out, HPR.out, hhb]; rfl)
              clear hhb
              go_wp2_with fail
              exact ⟨⟨i + 1, valW i, hlt, HP2, B6⟩, measW hlt⟩
          · obtain rfl : i = L.length := by omega
            have HT2 : Hid (holdsL (rowsG n E) T p m d L = true) := Lib.hid HPR.out
            go_wp2_with fail
            go_ret2
            exact ⟨by rw [HVV.out, HT2.out, HE.out] <;> rfl, below_then B5.out HBW.out⟩
  · have hz : (seErr N E p m T d != 0) = true := by simp [he]
    have HV : Hid (whyH (seErr N E p m T d) (holdsV (rowsG n E) T p m d L) = false) := Lib.hid (by unfold whyH; exact if_neg he)
    clear he
    go_wp2_with fail
    go_ret2
    exact ⟨by rw [HV.out] <;> rfl, B3.out⟩
end
end Go.Proofs.YtecbdamimnllnaaDoor
/- Contract: the reference's ReasonHolds. The graph and what is seen are right; the row of reasons is finite. -/
namespace Go.Proofs.YtecbdamimnllnaaDoor
open Go.RowKit

theorem b64_all : B64 (2 ^ 64 - 1) := by unfold B64; decide
theorem holds_ways {l : List Nat} {T : List Int} {p m d : Nat} {en ec ek : Int} {A : Option Addr} {em cap n : Nat} {nx : Int} (hl : l.length = n) (hc1 : 1 ≤ ec) (hc5 : ec ≤ 5) :
    (holdsB l T p m d ⟨en, ec, ek, A, em, cap⟩ nx = false ∧ en < 0) ∨ (holdsB l T p m d ⟨en, ec, ek, A, em, cap⟩ nx = false ∧ ¬ en < 0 ∧ (n : Int) ≤ en) ∨ (holdsB l T p m d ⟨en, ec, ek, A, em, cap⟩ nx = false ∧ ¬ en < 0 ∧ ¬ (n : Int) ≤ en ∧ ek < 0) ∨
    (holdsB l T p m d ⟨en, ec, ek, A, em, cap⟩ nx = false ∧ ¬ en < 0 ∧ ¬ (n : Int) ≤ en ∧ ¬ ek < 0 ∧ (n : Int) ≤ ek) ∨
    ∃ x z c : Nat, en = (x : Int) ∧ ek = (z : Int) ∧ ec = (c : Int) ∧ x < n ∧ z < n ∧ 1 ≤ c ∧ c ≤ 5 ∧ holdsB l T p m d ⟨(x : Int), (c : Int), (z : Int), A, em, cap⟩ nx = ((m ||| p).testBit x && (rsn l T p d (2 ^ 64 - 1) x c z && (decide (c ≠ 5) || decide (nx = (z : Int))))) := by
  have e : holdsB l T p m d ⟨en, ec, ek, A, em, cap⟩ nx = ((decide (0 ≤ en) && decide (en < n) && decide (0 ≤ ek) && decide (ek < n)) && ((m ||| p).testBit en.toNat && (rsn l T p d (2 ^ 64 - 1) en.toNat ec.toNat ek.toNat && (decide (ec ≠ 5) || decide (nx = ek))))) := by rw [← hl]; rfl
  by_cases h1 : en < 0
  · exact .inl ⟨by rw [e, decide_eq_false (show ¬ 0 ≤ en by omega)]; rfl, h1⟩
  · by_cases h2 : (n : Int) ≤ en
    · exact .inr (.inl ⟨by rw [e, decide_eq_false (show ¬ en < n by omega), Bool.and_false]; rfl, h1, h2⟩)
    · by_cases h3 : ek < 0
      · exact .inr (.inr (.inl ⟨by rw [e, decide_eq_false (show ¬ 0 ≤ ek by omega), Bool.and_false]; rfl, h1, h2, h3⟩))
      · by_cases h4 : (n : Int) ≤ ek
        · exact .inr (.inr (.inr (.inl ⟨by rw [e, decide_eq_false (show ¬ ek < n by omega), Bool.and_false]; rfl, h1, h2, h3, h4⟩)))
        · refine .inr (.inr (.inr (.inr ⟨en.toNat, ek.toNat, ec.toNat, by omega, by omega, by omega, by omega, by omega, by omega, by omega, ?_⟩)))
          have e1 : ((en.toNat : Nat) : Int) = en := by omega
          have e2 : ((ek.toNat : Nat) : Int) = ek := by omega
          have e3 : ((ec.toNat : Nat) : Int) = ec := by omega
          rw [e1, e2, e3, e, decide_eq_true (show 0 ≤ en by omega), decide_eq_true (show en < n by omega), decide_eq_true (show 0 ≤ ek by omega), decide_eq_true (show ek < n by omega)]
          have e4 : decide (ec ≠ 5) = decide (ec.toNat ≠ 5) := by rw [decide_eq_decide]; omega
          rw [e4]
          rfl
section
variable {A1 A2 A3 : Option Addr} {n k c1 c2 c3 : Nat} {N : List (List UInt8)} {E : List EdgeT} {p m d : Nat} {T : List Int} (L : List WV) (e0 : WV) (w : World) (hG : GrIn A1 n A2 k N E p m w) (hS : SeIn A3 n T d w)
include hG hS
set_option maxRecDepth 100000 in
set_option maxHeartbeats 2000000 in
theorem rHolds_any (he : grErr N E p m = 0) (hW : WhyCh w L) (h0 : L[0]? = some e0) :
    Calls Tryd.prog 10 #[gv A1 n c1 A2 k c2 p m, sx A3 n c3 d, wvv e0] w fun e w' => e = .returned (.bool (holdsV (rowsG n E) T p m d L)) ∧ Below w.heap.size w w' := by
  have HG := Lib.hid hG
  have HS := Lib.hid hS
  have HWC := Lib.hid hW
  have HM := Lib.hid (fun x W => in_nat m hG.m64 x W)
  have HP := Lib.hid (fun x W => in_nat p hG.p64 x W)
  obtain ⟨hn64, _, _, hout, _, _⟩ := gr_ok he
  rw [hG.nlen] at hn64 hout
  have HGD : Hid (Good (rowsG n E)) := Lib.hid (rowsG_good hn64 hout)
  have HG0 := Lib.hid he
  obtain ⟨x0, y0, v0, z0⟩ := box_ten w (.slice A1 n c1) (.slice A2 k c2) (.int .u64 (p : Int)) (.int .u64 (m : Int)) (.slice A3 n c3) (.int .u64 (d : Int)) e0 26 29 32
  have B2 := Lib.hid z0
  have X2 := Lib.hid x0
  have Y2 := Lib.hid y0
  obtain ⟨v1, v2, v3, v4⟩ := v0
  have hrow := Lib.hid (fun W (hb : Below w.heap.size w W) => rRow_any L e0 W (hW.below hb) h0)
  clear hG hS hW h0 z0 x0 y0 he hout
  unfold gv sx wvv at *
  go_enter Tryd.func10, Tryd.ntmps10
  go_upto_region 1 with fail
  generalize (((w.alloc (.cells #[.slice A1 n c1, .slice A2 k c2, .int .u64 (p : Int), .int .u64 (m : Int)] 26)).alloc (.cells #[.slice A3 n c3, .int .u64 (d : Int)] 29)).alloc (.cells #[.int .i64 e0.n, .int .i64 e0.c, .int .i64 e0.k, .slice e0.A e0.m e0.cap] 32)) = w2 at *
  generalize hBS : w.heap.size + 1 = BS at *
  generalize hBW : BS + 1 = BW at *
  clear hBS hBW
  go_wp2_with fail
  refine (hrow.out _ B2.out).mono ?_
  rintro e w5 ⟨hb5, (⟨hbig, rfl⟩ | ⟨hsm, A5, c5, rfl, hown5⟩)⟩
  · have HV : Hid (holdsV (rowsG n E) T p m d L = false) := Lib.hid (by unfold holdsV; rw [decide_eq_false (by omega)]; rfl)
    have B5 := Lib.hid (below_then B2.out hb5)
    clear hb5 v1 v2 v3 v4 hbig
    go_wp2_with fail
    go_ret
    exact ⟨ret_bool HV.out.symm, B5.out⟩
  · have HVV : Hid (holdsV (rowsG n E) T p m d L = (allOk L && holdsL (rowsG n E) T p m d L)) := Lib.hid (by unfold holdsV; rw [decide_eq_true hsm]; rfl)
    have B5 := Lib.hid (below_then B2.out hb5)
    have X5 := Lib.hid (X2.out.below hb5)
    have Y5 := Lib.hid (Y2.out.below hb5)
    have HOW := Lib.hid (rdW_own hown5)
    clear hb5 v1 v2 v3 v4 hown5 X2 Y2 hrow
    go_wp2_with fail
    refine (rForm_any L w5 HOW.out rfl hsm).mono ?_
    rintro e w6 ⟨rfl, hb6⟩
    have B6 := Lib.hid (below_then B5.out hb6)
    have X6 := Lib.hid (X5.out.below hb6)
    have Y6 := Lib.hid (Y5.out.below hb6)
    have HOW6 := Lib.hid (HOW.out.below hb6)
    clear hb6 X5 Y5 HOW
    cases hok : allOk L with
    | false =>
      rw [hok] at HVV
      clear hok
      go_wp2_with fail
      go_ret
      exact ⟨ret_bool HVV.out.symm, B6.out⟩
    | true =>
      rw [hok, Bool.true_and] at HVV
      have HOK := Lib.hid hok
      clear hok
      obtain ⟨x1, x2, x3, x4⟩ := X6.out
      have hgr := rRowsOf_any (c1 := c1) (c2 := c2) w6 (HG.out.below B6.out) HG0.out
      unfold gv at hgr
      go_wp2_with fail
      refine hgr.mono ?_
      rintro e w7 ⟨AR, cR, rfl, hown7, hb7⟩
      have HRR := Lib.hid (Rd.of_own hown7)
      have B7 := Lib.hid (below_then B6.out hb7)
      have X7 := Lib.hid (X6.out.below hb7)
      have Y7 := Lib.hid (Y6.out.below hb7)
      have HOW7 := Lib.hid (HOW6.out.below hb7)
      clear hb7 x1 x2 x3 x4 hown7 hgr X6 Y6 HOW6
      go_wp2_with fail
      go_loopw [11, 12, 31] (fun _ _ x wr => ∃ (i : Nat), x = .int .i64 (i : Int) ∧ i ≤ L.length ∧ Hid (hPre (rowsG n E) T p m d L i = true) ∧ Hid (Below w7.heap.size w7 wr)) (fun _ _ x _ => L.length - (intOf x).toNat)
      case atStart => exact ⟨0, rfl, Nat.zero_le _, Lib.hid rfl, Lib.hid (Below.refl _ _)⟩
      case round =>
        obtain ⟨i, rfl, hi, HPR, HBW⟩ := hrel
        by_cases hlt : i < L.length
        · obtain ⟨e, he⟩ : ∃ e, L[i]? = some e := ⟨L[i], List.getElem?_eq_getElem hlt⟩
          obtain ⟨b, o, rfl, z0, z1, z2, z3⟩ := rd_why (HOW7.out.below HBW.out) he
          have hoe : okW e = true := List.all_eq_true.1 HOK.out e (List.mem_of_getElem? he)
          obtain ⟨hc1, hc5, hem⟩ := okW_iff.1 hoe
          have HNO := Lib.hid (fun hno => hPre_no (l := rowsG n E) (T := T) (p := p) (m := m) (d := d) he hno)
          have HPS := Lib.hid (hPre_succ (l := rowsG n E) (T := T) (p := p) (m := m) (d := d) he)
          have HBN := Lib.hid (below_new HBW.out (.cells #[.int .i64 e.n, .int .i64 e.c, .int .i64 e.k, .slice e.A e.m e.cap] 32))
          have BN := Lib.hid (below_then B7.out HBN.out)
          have HEM := Lib.hid hem
          obtain ⟨x1, x2, x3, x4⟩ := X7.out.below HBN.out
          obtain ⟨y1, y2⟩ := Y7.out.below HBN.out
          have HIT := Lib.hid he
          have HRW := Lib.hid (HRR.out.below HBN.out)
          clear he hoe hem
          obtain ⟨en, ec, ek, eA, em, ecap⟩ := e
          simp only at z0 z1 z2 z3 HBN BN HNO HPS x1 x2 x3 x4 y1 y2 hc1 hc5 HEM HRW
          rcases holds_ways (l := rowsG n E) (T := T) (p := p) (m := m) (d := d) (A := eA) (em := em) (cap := ecap) (n := n) (nx := nxN L i) (en := en) (ek := ek) (rowsG_len n E) hc1 hc5 with ⟨h0, k1⟩ | ⟨h0, k1, k2⟩ | ⟨h0, k1, k2, k3⟩ | ⟨h0, k1, k2, k3, k4⟩ | ⟨x, z, c, rfl, rfl, rfl, hx, hz, hc1', hc5', hhe⟩
          · have HF := Lib.hid (HNO.out h0)
            clear h0
            go_wp2_with fail
            go_ret
            exact ⟨ret_bool (HVV.out.trans HF.out).symm, BN.out⟩
          · have HF := Lib.hid (HNO.out h0)
            clear h0
            go_wp2_with fail
            go_ret
            exact ⟨ret_bool (HVV.out.trans HF.out).symm, BN.out⟩
          · have HF := Lib.hid (HNO.out h0)
            clear h0
            go_wp2_with fail
            go_ret
            exact ⟨ret_bool (HVV.out.trans HF.out).symm, BN.out⟩
          · have HF := Lib.hid (HNO.out h0)
            clear h0
            go_wp2_with fail
            go_ret
            exact ⟨ret_bool (HVV.out.trans HF.out).symm, BN.out⟩
          · have gx0 : ¬ ((x : Int) < 0) := by omega
            have gx1 : ¬ ((n : Int) ≤ (x : Int)) := by omega
            have gz0 : ¬ ((z : Int) < 0) := by omega
            have gz1 : ¬ ((n : Int) ≤ (z : Int)) := by omega
            have HHE := Lib.hid hhe
            have HBI : Hid ((m ||| p).testBit x = (m.testBit x || p.testBit x)) := Lib.hid (by rw [Nat.testBit_or])
            have hrs := rReason_any (c1 := c1) (c2 := c2) (c3 := c3) (cR := cR) (rowsG n E) _ (HG.out.below BN.out) (HS.out.below BN.out) (rowsG_len n E) HGD.out HRW.out (2 ^ 64 - 1) x z b64_all hx hz c hc1' hc5'
            unfold gv sx at hrs
            have HRS := Lib.hid hrs
            clear hhe hrs hc1 hc5
            cases hm : m.testBit x with
            | true =>
              rw [hm, Bool.true_or] at HBI
              rw [HBI.out, Bool.true_and] at HHE
              clear HBI
              go_wp2_with fail
              refine (HM.out x _).mono ?_
              rintro e w9 ⟨rfl, rfl⟩
              rw [hm]
              clear hm
              go_wp2_with fail
              clear x1 x2 x3 x4 y1 y2
              refine HRS.out.mono ?_
              rintro e w9 ⟨rfl, hb9⟩
              have B9 := Lib.hid (below_then HBN.out hb9)
              have V9 : Hid (WyBox wr.heap.size ⟨(x : Int), (c : Int), (z : Int), eA, em, ecap⟩ w9) := Lib.hid (WyBox.below (by
                obtain ⟨q1, q2, q3, q4⟩ := box_why wr ⟨(x : Int), (c : Int), (z : Int), eA, em, ecap⟩ 32
                exact ⟨q1, q2, q3, q4⟩) hb9)
              clear hb9 HRS
              cases hrv : rsn (rowsG n E) T p d (2 ^ 64 - 1) x c z with
              | false =>
                have HF := Lib.hid (HNO.out (by rw [HHE.out, hrv]; rfl))
                clear hrv
                go_wp2_with fail
                go_ret
                exact ⟨ret_bool (HVV.out.trans HF.out).symm, below_then B7.out B9.out⟩
              | true =>
                rw [hrv, Bool.true_and] at HHE
                clear hrv
                obtain ⟨v1, v2, v3, v4⟩ := V9.out
                simp only at v1 v2 v3 v4
                by_cases hc : c = 5
                · subst hc
                  have hm1 : em ≠ 0 := by have := HEM.out; simp at this; omega
                  obtain ⟨_, _, e', _, hn, _⟩ := HWC.out.next i _ HIT.out hm1
                  obtain ⟨_, _, hA, u0, _⟩ := rd_why (HOW7.out.below B9.out) hn
                  cases hA
                  have HNX : Hid (nxN L i = e'.n) := Lib.hid (by unfold nxN; rw [hn])
                  have hil : (i : Int) + 1 < (L.length : Int) := by
                    have := (List.getElem?_eq_some_iff.1 hn).1
                    omega
                  have hil0 : (0 : Int) ≤ (i : Int) + 1 := by omega
                  rw [HNX.out] at HHE
                  clear hn hm1
                  generalize e'.n = en' at *
                  by_cases hq : en' = (z : Int)
                  · have gq : (en' != (z : Int)) = false := by simp [hq]
                    have HP2 : Hid (hPre (rowsG n E) T p m d L (i + 1) = true) := Lib.hid (by rw [HPS.out, HPR.out, HNX.out, HHE.out, hq]; simp)
                    clear hq
                    go_wp2_with fail
                    go_quiet (fail)
                    go_wp2_with fail
                    exact ⟨⟨i + 1, valW i, hlt, HP2, Lib.hid (below_drewN B9.out _)⟩, measW hlt⟩
                  · have gq : (en' != (z : Int)) = true := by simp [hq]
                    have HF := Lib.hid (HNO.out (by rw [HNX.out, HHE.out]; simp [hq]))
                    clear hq
                    go_wp2_with fail
                    go_quiet (fail)
                    go_wp2_with fail
                    go_ret
                    exact ⟨ret_bool (HVV.out.trans HF.out).symm, below_drewN (below_then B7.out B9.out) _⟩
                · have gc : ((c : Int) == 5) = false := by simp; omega
                  have HP2 : Hid (hPre (rowsG n E) T p m d L (i + 1) = true) := Lib.hid (by rw [HPS.out, HPR.out, HHE.out]; simp [hc])
                  clear hc
                  go_wp2_with fail
                  go_quiet (fail)
                  go_wp2_with fail
                  exact ⟨⟨i + 1, valW i, hlt, HP2, Lib.hid (below_drewN B9.out _)⟩, measW hlt⟩
            | false =>
              rw [hm, Bool.false_or] at HBI
              cases hp : p.testBit x with
              | true =>
                rw [hp] at HBI
                rw [HBI.out, Bool.true_and] at HHE
                clear HBI
                go_wp2_with fail
                refine (HM.out x _).mono ?_
                rintro e w9 ⟨rfl, rfl⟩
                rw [hm]
                go_wp2_with fail
                refine (HP.out x _).mono ?_
                rintro e w9 ⟨rfl, rfl⟩
                rw [hp]
                clear hm hp
                go_wp2_with fail
                clear x1 x2 x3 x4 y1 y2
                refine HRS.out.mono ?_
                rintro e w9 ⟨rfl, hb9⟩
                have B9 := Lib.hid (below_then HBN.out hb9)
                have V9 : Hid (WyBox wr.heap.size ⟨(x : Int), (c : Int), (z : Int), eA, em, ecap⟩ w9) := Lib.hid (WyBox.below (by
                  obtain ⟨q1, q2, q3, q4⟩ := box_why wr ⟨(x : Int), (c : Int), (z : Int), eA, em, ecap⟩ 32
                  exact ⟨q1, q2, q3, q4⟩) hb9)
                clear hb9 HRS
                cases hrv : rsn (rowsG n E) T p d (2 ^ 64 - 1) x c z with
                | false =>
                  have HF := Lib.hid (HNO.out (by rw [HHE.out, hrv]; rfl))
                  clear hrv
                  go_wp2_with fail
                  go_ret
                  exact ⟨ret_bool (HVV.out.trans HF.out).symm, below_then B7.out B9.out⟩
                | true =>
                  rw [hrv, Bool.true_and] at HHE
                  clear hrv
                  obtain ⟨v1, v2, v3, v4⟩ := V9.out
                  simp only at v1 v2 v3 v4
                  by_cases hc : c = 5
                  · subst hc
                    have hm1 : em ≠ 0 := by have := HEM.out; simp at this; omega
                    obtain ⟨_, _, e', _, hn, _⟩ := HWC.out.next i _ HIT.out hm1
                    obtain ⟨_, _, hA, u0, _⟩ := rd_why (HOW7.out.below B9.out) hn
                    cases hA
                    have HNX : Hid (nxN L i = e'.n) := Lib.hid (by unfold nxN; rw [hn])
                    have hil : (i : Int) + 1 < (L.length : Int) := by
                      have := (List.getElem?_eq_some_iff.1 hn).1
                      omega
                    have hil0 : (0 : Int) ≤ (i : Int) + 1 := by omega
                    rw [HNX.out] at HHE
                    clear hn hm1
                    generalize e'.n = en' at *
                    by_cases hq : en' = (z : Int)
                    · have gq : (en' != (z : Int)) = false := by simp [hq]
                      have HP2 : Hid (hPre (rowsG n E) T p m d L (i + 1) = true) := Lib.hid (by rw [HPS.out, HPR.out, HNX.out, HHE.out, hq]; simp)
                      clear hq
                      go_wp2_with fail
                      go_quiet (fail)
                      go_wp2_with fail
                      exact ⟨⟨i + 1, valW i, hlt, HP2, Lib.hid (below_drewN B9.out _)⟩, measW hlt⟩
                    · have gq : (en' != (z : Int)) = true := by simp [hq]
                      have HF := Lib.hid (HNO.out (by rw [HNX.out, HHE.out]; simp [hq]))
                      clear hq
                      go_wp2_with fail
                      go_quiet (fail)
                      go_wp2_with fail
                      go_ret
                      exact ⟨ret_bool (HVV.out.trans HF.out).symm, below_drewN (below_then B7.out B9.out) _⟩
                  · have gc : ((c : Int) == 5) = false := by simp; omega
                    have HP2 : Hid (hPre (rowsG n E) T p m d L (i + 1) = true) := Lib.hid (by rw [HPS.out, HPR.out, HHE.out]; simp [hc])
                    clear hc
                    go_wp2_with fail
                    go_quiet (fail)
                    go_wp2_with fail
                    exact ⟨⟨i + 1, valW i, hlt, HP2, Lib.hid (below_drewN B9.out _)⟩, measW hlt⟩
              | false =>
                rw [hp] at HBI
                rw [HBI.out, Bool.false_and] at HHE
                have HF := Lib.hid (HNO.out HHE.out)
                go_wp2_with fail
                refine (HM.out x _).mono ?_
                rintro e w9 ⟨rfl, rfl⟩
                rw [hm]
                go_wp2_with fail
                refine (HP.out x _).mono ?_
                rintro e w9 ⟨rfl, rfl⟩
                rw [hp]
                clear hm hp
                go_wp2_with fail
                go_ret
                exact ⟨ret_bool (HVV.out.trans HF.out).symm, BN.out⟩
        · obtain rfl : i = L.length := by omega
          have HT2 : Hid (holdsL (rowsG n E) T p m d L = true) := Lib.hid HPR.out
          go_wp2_with fail
          go_ret
          exact ⟨ret_bool (HVV.out.trans HT2.out).symm, below_then B7.out HBW.out⟩
end
end Go.Proofs.YtecbdamimnllnaaDoor
