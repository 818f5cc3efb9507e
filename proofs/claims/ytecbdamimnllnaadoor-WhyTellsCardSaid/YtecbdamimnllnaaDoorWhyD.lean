/- Contract: the reference's ReasonText. The graph as for graph.Check; the row of reasons is finite. -/
import Derived.Test.YtecbdamimnllnaaDoorWhyC
import Derived.Test.YtecbdamimnllnaaDoorSt4
namespace Go.Proofs.YtecbdamimnllnaaDoor
open Go.RowKit

theorem txt_cell (wr : World) (c : Nat) (h1 : 1 ≤ c) (h5 : c ≤ 5) : (wr.alloc (.cells #[.string ⟨#[]⟩, .string ⟨#[103, 111, 110, 101]⟩, .string ⟨#[112, 104, 111, 110, 121]⟩, .string ⟨#[100, 105, 114, 116, 121]⟩, .string ⟨#[110, 101, 119, 101, 114]⟩, .string ⟨#[97, 110, 101, 119]⟩] 9)).cell? ⟨wr.heap.size, c, none⟩ = some (.string ⟨(causeB c).toArray⟩) := by
  rw [World.cell?_alloc_at _ _ _ _ rfl]
  rcases (by omega : c = 1 ∨ c = 2 ∨ c = 3 ∨ c = 4 ∨ c = 5) with rfl | rfl | rfl | rfl | rfl <;> rfl
theorem catD1 {T na nc : List UInt8} {ST SA SC : ByteArray} (hT : (⟨T.toArray⟩ : ByteArray) = ST) (hA : (⟨na.toArray⟩ : ByteArray) = SA) (hC : (⟨nc.toArray⟩ : ByteArray) = SC) : Value.string (ST ++ (SA ++ ⟨#[32]⟩ ++ SC) ++ ⟨#[10]⟩) = .string ⟨(T ++ (na ++ [32] ++ nc) ++ [10]).toArray⟩ := by
  subst hT hA hC
  have e0 : (⟨#[32]⟩ : ByteArray) = ⟨[(32 : UInt8)].toArray⟩ := rfl
  have e1 : (⟨#[10]⟩ : ByteArray) = ⟨[(10 : UInt8)].toArray⟩ := rfl
  rw [e0, e1]
  simp only [ByteArray.mk_append_mk]
theorem catD2 {T na nc nz : List UInt8} {ST SA SC SZ : ByteArray} (hT : (⟨T.toArray⟩ : ByteArray) = ST) (hA : (⟨na.toArray⟩ : ByteArray) = SA) (hC : (⟨nc.toArray⟩ : ByteArray) = SC) (hZ : (⟨nz.toArray⟩ : ByteArray) = SZ) : Value.string (ST ++ (SA ++ ⟨#[32]⟩ ++ SC) ++ (⟨#[32]⟩ ++ SZ) ++ ⟨#[10]⟩) = .string ⟨(T ++ (na ++ [32] ++ nc) ++ ([32] ++ nz) ++ [10]).toArray⟩ := by
  subst hT hA hC hZ
  have e0 : (⟨#[32]⟩ : ByteArray) = ⟨[(32 : UInt8)].toArray⟩ := rfl
  have e1 : (⟨#[10]⟩ : ByteArray) = ⟨[(10 : UInt8)].toArray⟩ := rfl
  rw [e0, e1]
  simp only [ByteArray.mk_append_mk]
section
variable {A1 A2 : Option Addr} {n k c1 c2 : Nat} {N : List (List UInt8)} {E : List EdgeT} {p m : Nat} (L : List WV) (e0 : WV) (w : World) (hG : GrIn A1 n A2 k N E p m w)
include hG
set_option maxRecDepth 100000 in
set_option maxHeartbeats 4000000 in
theorem rText_any (hW : WhyCh w L) (h0 : L[0]? = some e0) :
    Calls Tryd.prog 7 #[gv A1 n c1 A2 k c2 p m, wvv e0] w (TextPost N E p m L w) := by
  have HC := Lib.hid (fun W (hW : Below w.heap.size w W) => rGraphFault_any (c1 := c1) (c2 := c2) W (hG.below hW))
  have HG := Lib.hid hG
  obtain ⟨g1, g2, g3, g4, gz⟩ := box_four w (.slice A1 n c1) (.slice A2 k c2) (.int .u64 (p : Int)) (.int .u64 (m : Int)) 26
  obtain ⟨v1, v2, v3, v4⟩ := box_why (w.alloc (.cells #[.slice A1 n c1, .slice A2 k c2, .int .u64 (p : Int), .int .u64 (m : Int)] 26)) e0 32
  simp only [World.size_alloc] at v1 v2 v3 v4
  have B2 := Lib.hid (below_new gz (.cells #[.int .i64 e0.n, .int .i64 e0.c, .int .i64 e0.k, .slice e0.A e0.m e0.cap] 32))
  have X2 := Lib.hid (GrBox.below (GrBox.mk g1 g2 g3 g4) (below_new (Below.refl _ _) (.cells #[.int .i64 e0.n, .int .i64 e0.c, .int .i64 e0.k, .slice e0.A e0.m e0.cap] 32)))
  have hrow := Lib.hid (fun W (hb : Below w.heap.size w W) => rRow_any L e0 W (hW.below hb) h0)
  clear hG hW h0 g1 g2 g3 g4 gz
  unfold gv wvv at *
  go_enter Tryd.func7, Tryd.ntmps7
  go_upto_region 1 with fail
  generalize ((w.alloc (.cells #[.slice A1 n c1, .slice A2 k c2, .int .u64 (p : Int), .int .u64 (m : Int)] 26)).alloc (.cells #[.int .i64 e0.n, .int .i64 e0.c, .int .i64 e0.k, .slice e0.A e0.m e0.cap] 32)) = w2 at *
  generalize w.heap.size + 1 = BW at *
  go_wp2_with fail
  refine (hrow.out _ B2.out).mono ?_
  rintro e w5 ⟨hb5, (⟨hbig, rfl⟩ | ⟨hsm, A5, c5, rfl, hown5⟩)⟩
  · have HE : Hid (txErr N E p m L = 2) := Lib.hid (by unfold txErr; rw [if_pos hbig])
    have B5 := Lib.hid (below_then B2.out hb5)
    clear hb5 v1 v2 v3 v4 hbig
    go_wp2_with fail
    go_ret2
    exact ⟨by rw [HE.out, tx_no HE.out (by decide)] <;> rfl, B5.out⟩
  · have B5 := Lib.hid (below_then B2.out hb5)
    have X5 := Lib.hid (X2.out.below hb5)
    have HOW := Lib.hid (rdW_own hown5)
    clear hb5 v1 v2 v3 v4 hown5 X2 hrow
    go_wp2_with fail
    refine (rForm_any L w5 HOW.out rfl hsm).mono ?_
    rintro e w5' ⟨rfl, hb5'⟩
    have B5' := Lib.hid (below_then B5.out hb5')
    have X5' := Lib.hid (X5.out.below hb5')
    have HOW' := Lib.hid (HOW.out.below hb5')
    clear hb5' X5 HOW
    cases hok : allOk L with
    | false =>
      have HE : Hid (txErr N E p m L = 3) := Lib.hid (by unfold txErr; rw [if_neg (by omega), if_pos hok])
      clear hok
      go_wp2_with fail
      go_ret2
      exact ⟨by rw [HE.out, tx_no HE.out (by decide)] <;> rfl, B5'.out⟩
    | true =>
      have HOK := Lib.hid hok
      clear hok
      obtain ⟨x1, x2, x3, x4⟩ := X5'.out
      go_wp2_with fail
      refine (HC.out _ B5'.out).mono ?_
      rintro e w6 ⟨rfl, hb6⟩
      have B6 := Lib.hid (below_then B5'.out hb6)
      have X6 := Lib.hid (X5'.out.below hb6)
      have HOW6 := Lib.hid (HOW'.out.below hb6)
      clear hb6 x1 x2 x3 x4 X5' HOW' HC
      by_cases hg : grErr N E p m = 0
      · rw [hg]
        obtain ⟨hn64, hgood, _, _, _, _⟩ := gr_ok hg
        have HGN := Lib.hid hgood
        have hn64' : n ≤ 64 := by rw [← HG.out.nlen]; exact hn64
        have HER : Hid (txErr N E p m L = if L.all (inW n) = false then 4 else 0) := Lib.hid (by unfold txErr; rw [if_neg (by omega), if_neg (by rw [HOK.out]; simp), if_neg (by simp [hg]), HG.out.nlen])
        clear hg hn64 hgood
        go_wp2_with fail
        go_loopw [9, 11, 29] (fun y _ x wr => ∃ (i : Nat), x = .int .i64 (i : Int) ∧ i ≤ L.length ∧ y = .string ⟨(textW N (L.take i)).toArray⟩ ∧ Hid ((L.take i).all (inW n) = true) ∧ Hid (Below w6.heap.size w6 wr)) (fun _ _ x _ => L.length - (intOf x).toNat)
        case atStart => exact ⟨0, rfl, Nat.zero_le _, rfl, Lib.hid rfl, Lib.hid (Below.refl _ _)⟩
        case round =>
          obtain ⟨i, rfl, hi, rfl, HIN, HBW⟩ := hrel
          by_cases hlt : i < L.length
          · obtain ⟨e, he⟩ : ∃ e, L[i]? = some e := ⟨L[i], List.getElem?_eq_getElem hlt⟩
            obtain ⟨b, o, rfl, z0, z1, z2, z3⟩ := rd_why (HOW6.out.below HBW.out) he
            have hoe : okW e = true := List.all_eq_true.1 HOK.out e (List.mem_of_getElem? he)
            obtain ⟨hc1, hc5, hem⟩ := okW_iff.1 hoe
            have HTK : Hid (L.take (i + 1) = L.take i ++ [e]) := Lib.hid (by rw [List.take_add_one, he]; rfl)
            have HIT := Lib.hid (List.mem_of_getElem? he)
            have HBN := Lib.hid (below_new HBW.out (.cells #[.int .i64 e.n, .int .i64 e.c, .int .i64 e.k, .slice e.A e.m e.cap] 32))
            clear he hoe hem
            obtain ⟨en, ec, ek, eA, em, ecap⟩ := e
            simp only at z0 z1 z2 z3 hc1 hc5 HBN
            obtain ⟨x1, x2, x3, x4⟩ := X6.out.below HBN.out
            have BE := Lib.hid (below_then B6.out HBN.out)
            by_cases hin : 0 ≤ en ∧ en < n ∧ 0 ≤ ek ∧ ek < n
            · have HIN2 : Hid (inW n ⟨en, ec, ek, eA, em, ecap⟩ = true) := Lib.hid (by
                show (decide (0 ≤ en) && decide (en < n) && decide (0 ≤ ek) && decide (ek < n)) = true
                simp
                omega)
              obtain ⟨x, rfl⟩ : ∃ x : Nat, en = (x : Int) := ⟨en.toNat, by omega⟩
              obtain ⟨z, rfl⟩ : ∃ z : Nat, ek = (z : Int) := ⟨ek.toNat, by omega⟩
              obtain ⟨c, rfl⟩ : ∃ c : Nat, ec = (c : Int) := ⟨ec.toNat, by omega⟩
              have hx : x < n := by omega
              have hz : z < n := by omega
              have gx0 : ¬ ((x : Int) < 0) := by omega
              have gx1 : ¬ ((n : Int) ≤ (x : Int)) := by omega
              have gz0 : ¬ ((z : Int) < 0) := by omega
              have gz1 : ¬ ((n : Int) ≤ (z : Int)) := by omega
              go_upto_region 15 with fail
              obtain ⟨g1, g2, g3, g4⟩ := box_why wr ⟨(x : Int), (c : Int), (z : Int), eA, em, ecap⟩ 32
              generalize wr.alloc (.cells #[.int .i64 (x : Int), .int .i64 (c : Int), .int .i64 (z : Int), .slice eA em ecap] 32) = wb at *
              generalize wr.heap.size = BV at *
              clear z0 z1 z2 z3
              obtain ⟨bN, oN, rfl, s1⟩ := rd_strW (HG.out.names.below (below_then B6.out HBN.out)) (i := x) (by rw [HG.out.nlen]; exact hx)
              obtain ⟨_, _, hA, s2⟩ := rd_strW (HG.out.names.below (below_then B6.out HBN.out)) (i := z) (by rw [HG.out.nlen]; exact hz)
              cases hA
              have ha1 := nmB_len HGN.out (x : Int)
              have ha2 := nmB_len HGN.out (z : Int)
              have ha3 := causeB_len c
              have hlen := textW_len HGN.out (L.take i)
              have hlen2 : (L.take i).length ≤ 64 := by rw [List.length_take]; omega
              have HLN : Hid (lineW N ⟨(x : Int), (c : Int), (z : Int), eA, em, ecap⟩ = (nmB N (x : Int) ++ [32] ++ causeB c) ++ (if 3 ≤ (c : Int) then [32] ++ nmB N (z : Int) else []) ++ [10]) := Lib.hid rfl
              have T6 := txt_cell wb c (by omega) (by omega)
              generalize nmB N (x : Int) = na at *
              generalize nmB N (z : Int) = nz at *
              generalize causeB c = nc at *
              generalize hTT : textW N (L.take i) = T at *
              have hq1 : ByteArray.size ⟨na.toArray⟩ = na.length := rfl
              have hq2 : ByteArray.size ⟨nz.toArray⟩ = nz.length := rfl
              have hq3 : ByteArray.size ⟨nc.toArray⟩ = nc.length := rfl
              have hq4 : ByteArray.size ⟨T.toArray⟩ = T.length := rfl
              generalize hSA : (⟨na.toArray⟩ : ByteArray) = SA at *
              generalize hSZ : (⟨nz.toArray⟩ : ByteArray) = SZ at *
              generalize hSC : (⟨nc.toArray⟩ : ByteArray) = SC at *
              generalize hST : (⟨T.toArray⟩ : ByteArray) = ST at *
              have e1 : ¬ (9223372036854775807 < SA.size + 1) := by omega
              have e2 : ¬ (9223372036854775807 < SA.size + 1 + SC.size) := by omega
              have e3 : ¬ (9223372036854775807 < ST.size + (SA.size + 1 + SC.size)) := by omega
              have e4 : ¬ (9223372036854775807 < 1 + SZ.size) := by omega
              have e5 : ¬ (9223372036854775807 < ST.size + (SA.size + 1 + SC.size) + (1 + SZ.size)) := by omega
              have e6 : ¬ (9223372036854775807 < ST.size + (SA.size + 1 + SC.size) + 1) := by omega
              have e7 : ¬ (9223372036854775807 < ST.size + (SA.size + 1 + SC.size) + (1 + SZ.size) + 1) := by omega
              have i1 : (x : Int) < (n : Int) := by omega
              have i2 : (z : Int) < (n : Int) := by omega
              have i3 : (c : Int) < 6 := by omega
              have HL0 := Lib.hid hlen
              have HL2 := Lib.hid hlen2
              have HA1 := Lib.hid ha1
              have HA2 := Lib.hid ha2
              have HA3 := Lib.hid ha3
              have HQ1 := Lib.hid hq1
              have HQ2 := Lib.hid hq2
              have HQ3 := Lib.hid hq3
              have HQ4 := Lib.hid hq4
              have HSA := Lib.hid hSA
              have HSZ := Lib.hid hSZ
              have HSC := Lib.hid hSC
              have HST := Lib.hid hST
              have HTT := Lib.hid hTT
              clear hSA hSZ hSC hST hTT hq1 hq2 hq3 hq4 ha1 ha2 ha3 hlen hlen2
              have BO : Below wb.heap.size wb (wb.alloc (.cells #[.string ⟨#[]⟩, .string ⟨#[103, 111, 110, 101]⟩, .string ⟨#[112, 104, 111, 110, 121]⟩, .string ⟨#[100, 105, 114, 116, 121]⟩, .string ⟨#[110, 101, 119, 101, 114]⟩, .string ⟨#[97, 110, 101, 119]⟩] 9)) := below_new (Below.refl _ _) _
              have HBO := Lib.hid (below_new HBN.out (.cells #[.string ⟨#[]⟩, .string ⟨#[103, 111, 110, 101]⟩, .string ⟨#[112, 104, 111, 110, 121]⟩, .string ⟨#[100, 105, 114, 116, 121]⟩, .string ⟨#[110, 101, 119, 101, 114]⟩, .string ⟨#[97, 110, 101, 119]⟩] 9))
              have y1 := cell_keep x1 BO
              have y5 := cell_keep s1 BO
              have y7 := cell_keep g1 BO
              have y8 := cell_keep g2 BO
              have Y6 := Lib.hid (cell_keep s2 BO)
              have Y1 := Lib.hid y1
              have Y9 := Lib.hid (cell_keep g3 BO)
              have Y8 := Lib.hid y8
              clear BO
              have HIN3 : Hid ((L.take (i + 1)).all (inW n) = true) := Lib.hid (by rw [HTK.out, List.all_append, HIN.out]; simp [HIN2.out])
              go_region
              generalize wb.alloc (.cells #[.string ⟨#[]⟩, .string ⟨#[103, 111, 110, 101]⟩, .string ⟨#[112, 104, 111, 110, 121]⟩, .string ⟨#[100, 105, 114, 116, 121]⟩, .string ⟨#[110, 101, 119, 101, 114]⟩, .string ⟨#[97, 110, 101, 119]⟩] 9) = wc at *
              clear x1 x2 x3 x4 g1 g2 g3 g4 s1 s2 T6
              have y6 := Y6.out
              have y9 := Y9.out
              by_cases h3 : c < 3
              · have h2 : ¬ ((2 : Int) < (c : Int)) := by omega
                have HLE : Hid (textW N (L.take (i + 1)) = T ++ (na ++ [32] ++ nc) ++ [10]) := Lib.hid (by
                  rw [HTK.out, textW_snoc, HLN.out, if_neg (show ¬ (3 : Int) ≤ (c : Int) by omega), HTT.out]
                  simp)
                clear h3
                go_wp2_with fail
                exact ⟨⟨i + 1, valW i, hlt, by rw [HLE.out, catD1 HST.out HSA.out HSC.out], HIN3, Lib.hid (Below.drew HBO.out)⟩, measW hlt⟩
              · have h2 : (2 : Int) < (c : Int) := by omega
                have HLE : Hid (textW N (L.take (i + 1)) = T ++ (na ++ [32] ++ nc) ++ ([32] ++ nz) ++ [10]) := Lib.hid (by
                  rw [HTK.out, textW_snoc, HLN.out, if_pos (show (3 : Int) ≤ (c : Int) by omega), HTT.out]
                  simp)
                clear h3
                go_wp2_with fail
                exact ⟨⟨i + 1, valW i, hlt, by rw [HLE.out, catD2 HST.out HSA.out HSC.out HSZ.out], HIN3, Lib.hid (Below.drew HBO.out)⟩, measW hlt⟩
            · have HE : Hid (txErr N E p m L = 4) := Lib.hid (by
                rw [HER.out, if_pos]
                rw [List.all_eq_false]
                refine ⟨_, HIT.out, ?_⟩
                show ¬ (decide (0 ≤ en) && decide (en < n) && decide (0 ≤ ek) && decide (ek < n)) = true
                simp
                omega)
              have key : en < 0 ∨ (¬ en < 0 ∧ (n : Int) ≤ en) ∨ (¬ en < 0 ∧ ¬ (n : Int) ≤ en ∧ ek < 0) ∨ (¬ en < 0 ∧ ¬ (n : Int) ≤ en ∧ ¬ ek < 0 ∧ (n : Int) ≤ ek) := by omega
              clear hin
              rcases key with k1 | ⟨k1, k2⟩ | ⟨k1, k2, k3⟩ | ⟨k1, k2, k3, k4⟩
              all_goals (
                go_wp2_with fail
                go_ret2
                exact ⟨by rw [HE.out, tx_no HE.out (by decide)] <;> rfl, BE.out⟩)
          · obtain rfl : i = L.length := by omega
            have HE : Hid (txErr N E p m L = 0) := Lib.hid (by rw [HER.out, if_neg]; rw [List.take_length] at HIN; rw [HIN.out]; simp)
            have HS : Hid (sv (txStr N E p m L) = .string ⟨(textW N L).toArray⟩) := Lib.hid (by unfold txStr; rw [if_pos HE.out]; rfl)
            rw [List.take_length]
            go_wp2_with fail
            go_ret2
            exact ⟨by rw [HE.out, HS.out] <;> rfl, below_then B6.out HBW.out⟩
      · have HE : Hid (txErr N E p m L = grErr N E p m) := Lib.hid (by unfold txErr; rw [if_neg (by omega), if_neg (by rw [HOK.out]; simp), if_pos (by simpa using hg)])
        have hne : (grErr N E p m != 0) = true := by simp [hg]
        have HGE := Lib.hid hg
        clear hg
        go_wp2_with fail
        go_ret2
        exact ⟨by rw [HE.out, tx_no HE.out HGE.out] <;> rfl, B6.out⟩
end
end Go.Proofs.YtecbdamimnllnaaDoor
