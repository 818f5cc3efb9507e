/- Contract: stale.set, along an order. The graph good, its rows without a knot; the table of math/bits lies. -/
import Derived.Test.YtecbdamimnllnaaDoorSt1
import Derived.Test.YtecbdamimnllnaaDoorReach5
namespace Go.Proofs.YtecbdamimnllnaaDoor
open Go.RowKit

theorem row_raw (r d o : Nat) (hr : B64 r) (hd : B64 d) (ho : B64 o) : bits .and .u64 (r : Int) ((d ||| o : Nat) : Int) = ((r &&& (d ||| o) : Nat) : Int) := u64_and_nat _ _ hr (hd.or ho)
theorem foldS_b64 (c : Nat → Nat → Bool) {L : List Nat} (h : ∀ x ∈ L, x < 64) (q : Nat) : B64 (foldS c (L.take q)) := B64.of_bits fun j hj => h j (List.mem_of_mem_take (foldS_sub c L j q hj))
/-- The first causes, decided. -/
def now0 (tx : Int) (pb : Bool) (y : Nat) : Bool := decide (tx < 0) || pb || decide (y ≠ 0)
theorem now_ways (tx : Int) (pb : Bool) (y : Nat) :
    (now0 tx pb y = true ∧ decide (tx < 0) = true) ∨ (now0 tx pb y = true ∧ decide (tx < 0) = false ∧ pb = true) ∨ (now0 tx pb y = true ∧ decide (tx < 0) = false ∧ pb = false ∧ ((y : Int) != 0) = true) ∨ (now0 tx pb y = false ∧ decide (tx < 0) = false ∧ pb = false ∧ ((y : Int) != 0) = false) := by
  unfold now0
  have e : ((y : Int) != 0) = decide (y ≠ 0) := by
    by_cases h : y = 0
    · subst h; rfl
    · simp [h]
  rw [e]
  cases decide (tx < 0) <;> cases pb <;> cases decide (y ≠ 0) <;> simp
theorem nowB_eq (l : List Nat) (T : List Int) (p d out x : Nat) : nowB l T p d out x = (now0 (tmI T x) (p.testBit x) (rowAt l x &&& (d ||| out)) || (nums (rowAt l x)).any (fun z => decide (tmI T x < tmI T z))) := by
  unfold nowB now0
  rfl
theorem any_snoc' {α : Type} (f : α → Bool) (L : List α) (x : α) : (L ++ [x]).any f = (L.any f || f x) := by rw [List.any_append]; simp
section
variable {A1 A2 A3 AR AO : Option Addr} {n k c1 c2 c3 cR cO : Nat} {N : List (List UInt8)} {E : List EdgeT} {p m d : Nat} {T : List Int} (l : List Nat) (w : World) (hG : GrIn A1 n A2 k N E p m w) (hS : SeIn A3 n T d w) (hT : Tab w)
  (hl : l.length = n) (hg : Good l) (hr0 : ordR l = 0) (hR : Rd w AR (l.map uv)) (hO : Rd w AO ((ordL l).map nv))
include hG hS hT hl hg hr0 hR hO
set_option maxRecDepth 100000 in
set_option maxHeartbeats 8000000 in
theorem stSet_any : Calls Tryd.prog 33 #[gv A1 n c1 A2 k c2 p m, sx A3 n c3 d, .slice AR n cR, .slice AO n cO] w fun e w' => e = .returned (.int .u64 (staleS l T p m d : Nat)) ∧ Below w.heap.size w w' := by
  have hn : n ≤ 64 := by have := hg.1; omega
  have HP := Lib.hid hG.p64
  have HM := Lib.hid hG.m64
  have HD := Lib.hid hS.d64
  have HS := Lib.hid hS
  have HT := Lib.hid hT
  have HL := Lib.hid hl
  have HG := Lib.hid hg
  have HR := Lib.hid hR
  have HO := Lib.hid hO
  have HFU : Hid ((ordL l).length = n) := Lib.hid (by rw [← hl]; exact (ord_full hg).2 hr0)
  have HMEM : Hid (∀ x, x ∈ ordL l → x < n) := Lib.hid (fun x hx => by rw [← hl]; exact (ord_mem hg hr0 x).1 hx)
  have HFB : Hid (∀ q, B64 (foldS (stC l T p m d) ((ordL l).take q))) := Lib.hid (fun q => foldS_b64 _ (fun x hx => by have := (ord_mem hg hr0 x).1 hx; omega) q)
  have HEND : Hid (foldS (stC l T p m d) ((ordL l).take n) = staleS l T p m d) := Lib.hid (by unfold staleS; rw [List.take_of_length_le (by rw [HFU.out]; exact Nat.le_refl _)])
  unfold gv sx
  obtain ⟨x0, y0, z0⟩ := box_six w (.slice A1 n c1) (.slice A2 k c2) (.int .u64 (p : Int)) (.int .u64 (m : Int)) (.slice A3 n c3) (.int .u64 (d : Int)) 26 29
  have X2 := Lib.hid x0
  have Y2 := Lib.hid y0
  have B2 := Lib.hid z0
  clear hG hS hT hl hg hr0 hR hO x0 y0 z0
  go_enter Tryd.func33, Tryd.ntmps33
  go_upto_region 1 with fail
  generalize (w.alloc (.cells #[.slice A1 n c1, .slice A2 k c2, .int .u64 (p : Int), .int .u64 (m : Int)] 26)).alloc (.cells #[.slice A3 n c3, .int .u64 (d : Int)] 29) = w2 at *
  generalize w.heap.size + 1 = BS at *
  go_wp2_with fail
  go_loopw [9, 11, 12, 14, 17, 62] (fun o _ _ _ i _ wr => ∃ q : Nat, q ≤ n ∧ i = .int .i64 (q : Int) ∧ o = .int .u64 (foldS (stC l T p m d) ((ordL l).take q) : Nat) ∧ Hid (Below w2.heap.size w2 wr)) (fun _ _ _ _ i _ _ => n - (intOf i).toNat)
  case atStart => exact ⟨0, by omega, rfl, rfl, Lib.hid (Below.refl _ _)⟩
  case round =>
    obtain ⟨q, hq, rfl, rfl, hbw⟩ := hrel
    by_cases hlt : q < n
    · have hq2 : (q : Int) < (n : Int) := by omega
      have hql : q < (ordL l).length := by rw [HFU.out]; exact hlt
      obtain ⟨bO, oO, rfl, xO⟩ := ((HO.out.below B2.out).below hbw.out).at_ (k := q) (by simpa using hql)
      have hc' : wr.cell? ⟨bO, oO + q, none⟩ = some (.int .i64 ((ordL l)[q]?.getD 0 : Nat)) := by rw [xO]; simp [nv, hql]
      have hie : (ordL l)[q]? = some ((ordL l)[q]?.getD 0) := by simp [hql]
      clear xO hql
      generalize (ordL l)[q]?.getD 0 = x at *
      have hxn : x < n := HMEM.out x (List.mem_of_getElem? hie)
      have HST : Hid (foldS (stC l T p m d) ((ordL l).take (q + 1)) = if stC l T p m d (foldS (stC l T p m d) ((ordL l).take q)) x then addN (foldS (stC l T p m d) ((ordL l).take q)) x else foldS (stC l T p m d) ((ordL l).take q)) := Lib.hid (by rw [take_sn hie, foldS_snoc])
      have HOB := Lib.hid (HFB.out q)
      have HSC : Hid (∀ o, stC l T p m d o x = ((m ||| p).testBit x && (now0 (tmI T x) (p.testBit x) (rowAt l x &&& (d ||| o)) || (nums (rowAt l x)).any (fun z => decide (tmI T x < tmI T z))))) := Lib.hid (fun o => by unfold stC; rw [nowB_eq])
      have hor : bits .or .u64 (m : Int) (p : Int) = ((m ||| p : Nat) : Int) := u64_or_nat m p HM.out HP.out
      have hbr := bit_raw (m ||| p) x (HM.out.or HP.out)
      obtain ⟨x1, x2, x3, x4⟩ := X2.out.below hbw.out
      clear hie
      generalize foldS (stC l T p m d) ((ordL l).take q) = o at *
      have HSO := Lib.hid (HSC.out o)
      clear HSC
      cases hb : (m ||| p).testBit x with
      | false =>
        rw [hb] at HSO hbr
        rw [if_neg (by simp)] at hbr
        have HNX : Hid (foldS (stC l T p m d) ((ordL l).take (q + 1)) = o) := Lib.hid (by rw [HST.out, HSO.out]; simp)
        have HBD := hbw
        clear hb hbw
        go_wp2_with fail
        go_roundw
        case rel => exact ⟨q + 1, by omega, by go_num, by rw [HNX.out], HBD⟩
        case measure => simp [intOf]; omega
      | true =>
        rw [hb] at HSO hbr
        rw [if_pos rfl] at hbr
        obtain ⟨y1, y2⟩ := Y2.out.below hbw.out
        obtain ⟨bT, oT, rfl, xT⟩ := ((HS.out.below B2.out).below hbw.out).tcell hxn
        have HRB := Lib.hid (HG.out.b64 x)
        obtain ⟨bR, oR, rfl, xR⟩ := ((HR.out.below B2.out).below hbw.out).set (k := x) (by rw [HL.out]; exact hxn)
        have hpr := bit_raw p x HP.out
        have hdo : bits .or .u64 (d : Int) (o : Int) = ((d ||| o : Nat) : Int) := u64_or_nat d o HD.out HOB.out
        have hrw := row_raw (rowAt l x) d o HRB.out HD.out HOB.out
        have hxi : (x : Int) < (n : Int) := by omega
        have hxi0 : (0 : Int) ≤ (x : Int) := by omega
        have HTI : Hid (∀ z, z < n → ∀ W, Below w2.heap.size w2 W → W.cell? ⟨bT, oT + z, none⟩ = some (.int .i64 (tmI T z))) := Lib.hid (fun z hz W hW => by
          obtain ⟨b', o', hA, hc⟩ := ((HS.out.below B2.out).below hW).tcell hz
          injection hA with hA
          injection hA with hA1 hA2 _
          subst hA1 hA2
          exact hc)
        have HZN : Hid (∀ z, z ∈ nums (rowAt l x) → z < n) := Lib.hid (fun z hz => by rw [← HL.out]; exact HG.out.2 x z ((mem_nums HRB.out).1 hz))
        have HBD := Lib.hid (fun qq => below_drewN hbw.out qq)
        have HTW := Lib.hid (fun qq => (HT.out.below B2.out).below (HBD.out qq))
        generalize htx : tmI T x = tx at *
        have HTXE := Lib.hid htx
        generalize rowAt l x &&& (d ||| o) = Y at *
        generalize rowAt l x = R at *
        clear hb hbw htx
        rcases now_ways tx (p.testBit x) Y with ⟨h0, g1⟩ | ⟨h0, g1, g2⟩ | ⟨h0, g1, g2, g3⟩ | ⟨h0, g1, g2, g3⟩
        all_goals
          have HA0 := Lib.hid h0
          first
            | (rw [g2] at hpr)
            | skip
          try simp only [if_true, if_false, Bool.false_eq_true] at hpr
          clear h0
          try clear g2
          go_wp2_with fail
          go_quiet (fail)
          go_wp2_with fail
          refine (list_any R HRB.out _ (HTW.out _)).mono ?_
          rintro e w4 ⟨A4, c4, rfl, hown4, hb4⟩
          have hnl := nums_len R
          have HLS := Lib.hid (Rd.of_own hown4)
          have B4 := Lib.hid (below_then (HBD.out _) hb4)
          have X4 := Lib.hid ((X2.out.below (HBD.out _)).below hb4)
          have Y4 := Lib.hid ((Y2.out.below (HBD.out _)).below hb4)
          clear hown4 hb4 x1 x2 x3 x4 y1 y2 xT xR hc' hpr hdo hrw hbr hor g1
          try clear g3
          go_wp2_with fail
          go_loopw [12, 14, 62] (fun b _ i wq => ∃ z : Nat, z ≤ (nums R).length ∧ i = .int .i64 (z : Int) ∧ b = .bool (now0 tx (p.testBit x) Y || ((nums R).take z).any (fun y => decide (tx < tmI T y))) ∧ Hid (Below w4.heap.size w4 wq)) (fun _ _ i _ => (nums R).length - (intOf i).toNat)
          case atStart => exact ⟨0, by omega, rfl, by rw [HA0.out]; rfl, Lib.hid (Below.refl _ _)⟩
          case round =>
            obtain ⟨z, hz, rfl, rfl, hbq⟩ := hrel
            have B5 := Lib.hid (below_then B4.out hbq.out)
            by_cases hzl : z < (nums R).length
            · obtain ⟨b2, o2, rfl, hcc⟩ := (HLS.out.below hbq.out).at_ (k := z) (by simpa using hzl)
              have hc2 : wr.cell? ⟨b2, o2 + z, none⟩ = some (.int .i64 ((nums R)[z]?.getD 0 : Nat)) := by rw [hcc]; simp [nv, hzl]
              have hym : (nums R)[z]?.getD 0 ∈ nums R := by simp [hzl]
              have HTK := Lib.hid (take_snoc (nums R) 0 z hzl)
              clear hcc
              generalize (nums R)[z]?.getD 0 = y at *
              have hyn : y < n := HZN.out y hym
              have t1 := HTI.out y hyn _ B5.out
              have t2 := HTI.out x hxn _ B5.out
              rw [HTXE.out] at t2
              have HNV : Hid ((now0 tx (p.testBit x) Y || ((nums R).take (z + 1)).any (fun y => decide (tx < tmI T y))) = ((now0 tx (p.testBit x) Y || ((nums R).take z).any (fun y => decide (tx < tmI T y))) || decide (tx < tmI T y))) := Lib.hid (by rw [HTK.out, any_snoc', Bool.or_assoc])
              obtain ⟨y1, y2⟩ := Y4.out.below hbq.out
              have hyi : (y : Int) < (n : Int) := by omega
              have hyi0 : (0 : Int) ≤ (y : Int) := by omega
              have hzi : (z : Int) < ((nums R).length : Int) := by omega
              have HBQ := Lib.hid (fun qq => below_drewN hbq.out qq)
              generalize htyy : tmI T y = ty at *
              clear htyy hym hbq
              generalize (now0 tx (p.testBit x) Y || ((nums R).take z).any (fun y => decide (tx < tmI T y))) = V at *
              cases V with
              | true =>
                go_wp2_with fail
                go_quiet (fail)
                go_wp2_with fail
                go_roundw
                case rel => exact ⟨z + 1, by omega, by go_num, by rw [HNV.out]; rfl, Lib.hid (HBQ.out _)⟩
                case measure => simp [intOf]; omega
              | false =>
                cases hgt : decide (tx < ty) with
                | true =>
                  rw [hgt] at HNV
                  go_wp2_with fail
                  go_quiet (fail)
                  go_wp2_with fail
                  go_roundw
                  case rel => exact ⟨z + 1, by omega, by go_num, by rw [HNV.out]; rfl, Lib.hid (HBQ.out _)⟩
                  case measure => simp [intOf]; omega
                | false =>
                  rw [hgt] at HNV
                  go_wp2_with fail
                  go_quiet (fail)
                  go_wp2_with fail
                  go_roundw
                  case rel => exact ⟨z + 1, by omega, by go_num, by rw [HNV.out]; rfl, Lib.hid (HBQ.out _)⟩
                  case measure => simp [intOf]; omega
            · obtain rfl : z = (nums R).length := by omega
              rw [List.take_of_length_le (Nat.le_refl _)]
              have her := or_raw o x HOB.out (by omega)
              generalize (now0 tx (p.testBit x) Y || (nums R).any (fun y => decide (tx < tmI T y))) = V at *
              cases V with
              | true =>
                have HNX : Hid (foldS (stC l T p m d) ((ordL l).take (q + 1)) = addN o x) := Lib.hid (by rw [HST.out, HSO.out]; rfl)
                go_wp2_with fail
                go_roundw
                case rel => exact ⟨q + 1, by omega, by go_num, by rw [HNX.out], B5⟩
                case measure => simp [intOf]; omega
              | false =>
                have HNX : Hid (foldS (stC l T p m d) ((ordL l).take (q + 1)) = o) := Lib.hid (by rw [HST.out, HSO.out]; rfl)
                go_wp2_with fail
                go_roundw
                case rel => exact ⟨q + 1, by omega, by go_num, by rw [HNX.out], B5⟩
                case measure => simp [intOf]; omega
    · obtain rfl : q = n := by omega
      rw [HEND.out]
      have hqn : ¬ (q : Int) < (q : Int) := by omega
      go_wp2_with fail
      go_ret
      exact ⟨rfl, below_then B2.out hbw.out⟩
end
end Go.Proofs.YtecbdamimnllnaaDoor
/- Contracts: stale.Check, Set, Only. The graph as for graph.Check; the table of math/bits lies. -/
namespace Go.Proofs.YtecbdamimnllnaaDoor
open Go.RowKit

section
variable {A1 A2 A3 : Option Addr} {n k j c1 c2 c3 : Nat} {N : List (List UInt8)} {E : List EdgeT} {p m d : Nat} {T : List Int} (w : World) (hG : GrIn A1 n A2 k N E p m w) (hS : SeIn A3 j T d w) (hT : Tab w)
include hG hS hT
theorem stCheckE_any : Calls Tryd.prog 17 #[gv A1 n c1 A2 k c2 p m, sx A3 j c3 d] w fun e w' => e = .returned (.int .i64 (seErr N E p m T d)) ∧ Below w.heap.size w w' := by
  have HC := Lib.hid (fun W (hW : Below w.heap.size w W) => stCheck_any (c1 := c1) (c2 := c2) (c3 := c3) W (hG.below hW) (hS.below hW) (hT.below hW))
  unfold gv sx at *
  obtain ⟨x0, y0, z0⟩ := box_six w (.slice A1 n c1) (.slice A2 k c2) (.int .u64 (p : Int)) (.int .u64 (m : Int)) (.slice A3 j c3) (.int .u64 (d : Int)) 26 29
  have B2 := Lib.hid z0
  obtain ⟨x1, x2, x3, x4⟩ := x0
  obtain ⟨y1, y2⟩ := y0
  clear hG hS hT z0
  go_enter Tryd.func17, Tryd.ntmps17
  go_upto_region 1 with fail
  generalize (w.alloc (.cells #[.slice A1 n c1, .slice A2 k c2, .int .u64 (p : Int), .int .u64 (m : Int)] 26)).alloc (.cells #[.slice A3 j c3, .int .u64 (d : Int)] 29) = w2 at *
  generalize w.heap.size + 1 = BS at *
  go_wp2_with fail
  refine (HC.out _ B2.out).mono ?_
  rintro e w3 (⟨h0, rfl, hb3⟩ | ⟨h0, A, c, B, c', rfl, _, _, hb3⟩)
  · have B3 := Lib.hid (below_then B2.out hb3)
    clear h0 hb3 x1 x2 x3 x4 y1 y2
    go_wp2_with fail
    go_ret
    exact ⟨rfl, B3.out⟩
  · have B3 := Lib.hid (below_then B2.out hb3)
    have H0 := Lib.hid h0
    clear h0 hb3 x1 x2 x3 x4 y1 y2
    go_wp2_with fail
    go_ret
    exact ⟨ret_int H0.out.symm, B3.out⟩
/-- What Only answers. -/
def onlyV (n : Nat) (E : List EdgeT) (T : List Int) (p m d u : Nat) (err : Int) : Nat := if err = 0 then (if faultOf (rowsG n E) [u] = 0 then reachD (rowsG n E) u (-1) &&& staleS (rowsG n E) T p m d else 0) else 0
def onlyE (n : Nat) (E : List EdgeT) (u : Nat) (err : Int) : Int := if err = 0 then (if faultOf (rowsG n E) [u] = 0 then 0 else faultOf (rowsG n E) [u]) else err
/-- What Set answers. -/
def setV (n : Nat) (E : List EdgeT) (T : List Int) (p m d : Nat) (err : Int) : Nat := if err = 0 then staleS (rowsG n E) T p m d else 0
set_option maxHeartbeats 1000000 in
theorem stSetE_any : Calls Tryd.prog 14 #[gv A1 n c1 A2 k c2 p m, sx A3 j c3 d] w fun e w' => e = .returned (.tuple #[.int .u64 (setV n E T p m d (seErr N E p m T d) : Nat), .int .i64 (seErr N E p m T d)]) ∧ Below w.heap.size w w' := by
  have HC := Lib.hid (fun W (hW : Below w.heap.size w W) => stCheck_any (c1 := c1) (c2 := c2) (c3 := c3) W (hG.below hW) (hS.below hW) (hT.below hW))
  have HG := Lib.hid hG
  have HS := Lib.hid hS
  have HT := Lib.hid hT
  unfold gv sx at HC
  unfold gv sx
  obtain ⟨x0, y0, z0⟩ := box_six w (.slice A1 n c1) (.slice A2 k c2) (.int .u64 (p : Int)) (.int .u64 (m : Int)) (.slice A3 j c3) (.int .u64 (d : Int)) 26 29
  have B2 := Lib.hid z0
  have X2 := Lib.hid x0
  have Y2 := Lib.hid y0
  obtain ⟨x1, x2, x3, x4⟩ := x0
  obtain ⟨y1, y2⟩ := y0
  clear hG hS hT z0
  go_enter Tryd.func14, Tryd.ntmps14
  go_upto_region 1 with fail
  generalize (w.alloc (.cells #[.slice A1 n c1, .slice A2 k c2, .int .u64 (p : Int), .int .u64 (m : Int)] 26)).alloc (.cells #[.slice A3 j c3, .int .u64 (d : Int)] 29) = w2 at *
  generalize w.heap.size + 1 = BS at *
  go_wp2_with fail
  refine (HC.out _ B2.out).mono ?_
  rintro e w3 (⟨h0, rfl, hb3⟩ | ⟨h0, A, c, B, c', rfl, ho1, ho2, hb3⟩)
  · have B3 := Lib.hid (below_then B2.out hb3)
    have H0 : Hid (setV n E T p m d (seErr N E p m T d) = 0) := Lib.hid (by unfold setV; rw [if_neg h0])
    have hne : (seErr N E p m T d != 0) = true := by simp [h0]
    clear hb3 x1 x2 x3 x4 y1 y2
    go_wp2_with fail
    go_ret2
    exact ⟨by rw [H0.out] <;> rfl, B3.out⟩
  · have B3 := Lib.hid (below_then B2.out hb3)
    obtain ⟨hg0, hjn, _, _, hr0⟩ := se_ok HG.out.nlen HS.out.tlen h0
    obtain ⟨hn64, _, _, hout, _, _⟩ := gr_ok hg0
    rw [HG.out.nlen] at hn64 hout
    have HGD : Hid (Good (rowsG n E)) := Lib.hid (rowsG_good hn64 hout)
    have HR0 := Lib.hid hr0
    have HRR := Lib.hid (Rd.of_own ho1)
    have HOO := Lib.hid (Rd.of_own ho2)
    have H0 : Hid (setV n E T p m d (seErr N E p m T d) = staleS (rowsG n E) T p m d) := Lib.hid (by unfold setV; rw [if_pos h0])
    have HE0 := Lib.hid h0
    have X3 := Lib.hid (X2.out.below hb3)
    have Y3 := Lib.hid (Y2.out.below hb3)
    have HJN := Lib.hid hjn
    clear hb3 x1 x2 x3 x4 y1 y2 h0 hg0 hr0 ho1 ho2 hout hjn
    obtain ⟨x1, x2, x3, x4⟩ := X3.out
    obtain ⟨y1, y2⟩ := Y3.out
    go_wp2_with fail
    have hS' : SeIn A3 n T d w3 := by have := HS.out.below B3.out; rwa [HJN.out] at this
    have hc := stSet_any (c1 := c1) (c2 := c2) (c3 := c3) (cR := c) (cO := c') (rowsG n E) w3 (HG.out.below B3.out) hS' (HT.out.below B3.out) (rowsG_len n E) HGD.out HR0.out HRR.out HOO.out
    unfold gv sx at hc
    rw [HJN.out]
    refine hc.mono ?_
    rintro e w4 ⟨rfl, hb4⟩
    have B4 := Lib.hid (below_then B3.out hb4)
    clear hb4 hc hS' x1 x2 x3 x4 y1 y2
    go_wp2_with fail
    go_ret2
    exact ⟨by rw [H0.out, HE0.out] <;> rfl, B4.out⟩
end
end Go.Proofs.YtecbdamimnllnaaDoor
