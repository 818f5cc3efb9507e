/- Contract: why.Text. The graph as for graph.Check; the row of reasons is finite; the causes' texts lie. -/
import Derived.Test.YtecbdamimnllnaaDoorWhyB
namespace Go.Proofs.YtecbdamimnllnaaDoor
open Go.RowKit

def TextPost (N : List (List UInt8)) (E : List EdgeT) (p m : Nat) (L : List WV) (w : World) (e : Ending) (w' : World) : Prop := e = .returned (.tuple #[sv (txStr N E p m L), .int .i64 (txErr N E p m L)]) ∧ Below w.heap.size w w'
theorem tx_no {N : List (List UInt8)} {E : List EdgeT} {p m : Nat} {L : List WV} {er : Int} (h : txErr N E p m L = er) (h0 : er ≠ 0) : sv (txStr N E p m L) = .string ⟨#[]⟩ := by unfold txStr; rw [h, if_neg h0]; rfl
theorem bld_alloc {T e : TypeId} {B b : Nat} {bs : List Value} {w : World} (h : Lib.IsBuilder T e B b bs w) (o : Obj) : Lib.IsBuilder T e B b bs (w.alloc o) := by
  have key : ∀ q, Lib.BuilderAt T e B b q bs w → Lib.BuilderAt T e B b q bs (w.alloc o) := fun q hq => by
    have hlt := hq.lt
    obtain ⟨hB, v, hb, hown, hne⟩ := hq
    exact ⟨hB, v, (Lib.alloc_old w o b hlt).trans hb, hown.alloc o, hne⟩
  exact h.imp (key _) (key _)
theorem bld_drew {T e : TypeId} {B b : Nat} {bs : List Value} {w : World} (h : Lib.IsBuilder T e B b bs w) : Lib.IsBuilder T e B b bs w.drew := h.imp (fun h => ⟨h.1, h.2⟩) (fun h => ⟨h.1, h.2⟩)
theorem catW1 {na nc : List UInt8} {SA SC : ByteArray} {T : List UInt8} (hA : (⟨na.toArray⟩ : ByteArray) = SA) (hC : (⟨nc.toArray⟩ : ByteArray) = SC) : Lib.byteCells T ++ Lib.strCells (SA ++ ⟨#[32]⟩ ++ SC) = Lib.byteCells (T ++ (na ++ [32] ++ nc)) := by
  subst hA hC
  have e : (⟨na.toArray⟩ : ByteArray) ++ ⟨#[32]⟩ ++ ⟨nc.toArray⟩ = ⟨(na ++ [32] ++ nc).toArray⟩ := by
    have e0 : (⟨#[32]⟩ : ByteArray) = ⟨[(32 : UInt8)].toArray⟩ := rfl
    rw [e0, ByteArray.mk_append_mk, ByteArray.mk_append_mk]
  rw [e]
  show Lib.byteCells T ++ Lib.byteCells _ = _
  unfold Lib.byteCells
  simp only [List.map_append, List.append_assoc]
theorem catW2 (T : List UInt8) : Lib.byteCells (T ++ [10]) = Lib.byteCells T ++ [.int .u8 10] := by unfold Lib.byteCells; rw [List.map_append]; rfl
theorem catW3 {nz : List UInt8} {SZ : ByteArray} {T : List UInt8} (hZ : (⟨nz.toArray⟩ : ByteArray) = SZ) : Lib.byteCells T ++ Lib.strCells (⟨#[32]⟩ ++ SZ) = Lib.byteCells (T ++ ([32] ++ nz)) := by
  subst hZ
  have e : (⟨#[32]⟩ : ByteArray) ++ ⟨nz.toArray⟩ = ⟨([32] ++ nz).toArray⟩ := by
    have e0 : (⟨#[32]⟩ : ByteArray) = ⟨[(32 : UInt8)].toArray⟩ := rfl
    rw [e0, ByteArray.mk_append_mk]
  rw [e]
  show Lib.byteCells T ++ Lib.byteCells _ = _
  unfold Lib.byteCells
  simp only [List.map_append]
theorem lt_of_blockW {T e : TypeId} {B b : Nat} {bs : List Value} {w : World} (h : Lib.IsBuilder T e B b bs w) : b < w.heap.size := h.elim (fun h => h.lt) (fun h => h.lt)
theorem rd_strW {w : World} {A : Option Addr} {N : List (List UInt8)} {i : Nat} (h : Rd w A (N.map sv)) (hi : i < N.length) : ∃ b o, A = some ⟨b, o, none⟩ ∧ w.cell? ⟨b, o + i, none⟩ = some (.string ⟨(nmB N (i : Int)).toArray⟩) := by
  obtain ⟨b, o, hA, hc⟩ := h.at_ (k := i) (by simpa using hi)
  refine ⟨b, o, hA, ?_⟩
  rw [hc, List.getElem_map]
  unfold nmB sv
  rw [Int.toNat_natCast, List.getElem?_eq_getElem hi]
  rfl
theorem okc {B b : Nat} {w w' : World} (h : Lib.OthersKept 5 (some B) w w') {o : Nat} {cs : Array Value} {t : TypeId} (hb : w.heap[b]? = some (.cells cs t (0, 0))) (hne : b ≠ B) (ht : t ≠ 5) {v : Value} (hc : w.cell? ⟨b, o, none⟩ = some v) : w'.cell? ⟨b, o, none⟩ = some v := by
  have := h b _ hb (fun e => hne (by injection e)) (fun c fz e => ht (by injection e))
  simp only [World.cell?, hb] at hc
  simp only [World.cell?, this]
  exact hc
section
variable {A1 A2 : Option Addr} {n k c1 c2 : Nat} {N : List (List UInt8)} {E : List EdgeT} {p m : Nat} (L : List WV) (e0 : WV) (w : World) (hG : GrIn A1 n A2 k N E p m w)
include hG
set_option maxRecDepth 100000 in
set_option maxHeartbeats 4000000 in
theorem pText_any (hW : WhyCh w L) (h0 : L[0]? = some e0) (hC : CTab w) :
    Calls Tryd.prog 6 #[gv A1 n c1 A2 k c2 p m, wvv e0] w (TextPost N E p m L w) := by
  have HC := Lib.hid (fun W (hW : Below w.heap.size w W) => gCheck_any (c1 := c1) (c2 := c2) W (hG.below hW))
  have HG := Lib.hid hG
  have HCT := Lib.hid hC
  obtain ⟨g1, g2, g3, g4, gz⟩ := box_four w (.slice A1 n c1) (.slice A2 k c2) (.int .u64 (p : Int)) (.int .u64 (m : Int)) 26
  obtain ⟨v1, v2, v3, v4⟩ := box_why (w.alloc (.cells #[.slice A1 n c1, .slice A2 k c2, .int .u64 (p : Int), .int .u64 (m : Int)] 26)) e0 32
  simp only [World.size_alloc] at v1 v2 v3 v4
  have B2 := Lib.hid (below_new gz (.cells #[.int .i64 e0.n, .int .i64 e0.c, .int .i64 e0.k, .slice e0.A e0.m e0.cap] 32))
  have X2 := Lib.hid (GrBox.below (GrBox.mk g1 g2 g3 g4) (below_new (Below.refl _ _) (.cells #[.int .i64 e0.n, .int .i64 e0.c, .int .i64 e0.k, .slice e0.A e0.m e0.cap] 32)))
  have hrow := Lib.hid (fun W (hb : Below w.heap.size w W) => row_any L e0 W (hW.below hb) h0)
  clear hG hW h0 hC g1 g2 g3 g4 gz
  unfold gv wvv at *
  go_enter Tryd.func6, Tryd.ntmps6
  go_upto_region 1 with fail
  generalize ((w.alloc (.cells #[.slice A1 n c1, .slice A2 k c2, .int .u64 (p : Int), .int .u64 (m : Int)] 26)).alloc (.cells #[.int .i64 e0.n, .int .i64 e0.c, .int .i64 e0.k, .slice e0.A e0.m e0.cap] 32)) = w2 at *
  generalize w.heap.size + 1 = BW at *
  go_wp2_with fail
  refine (hrow.out _ B2.out).mono ?_
  rintro e w5 ⟨hb5, (⟨hbig, rfl⟩ | ⟨hsm, A5, c5, rfl, hown5⟩)⟩
  · have HE : Hid (txErr N E p m L = 2) := Lib.hid (by unfold txErr; rw [if_pos hbig])
    have B5 := Lib.hid (below_then B2.out hb5)
    clear hb5 v1 v2 v3 v4 hbig
    go_wp2_with fail
    go_ret2
    exact ⟨by rw [HE.out, tx_no HE.out (by decide)] <;> rfl, B5.out⟩
  · have B5 := Lib.hid (below_then B2.out hb5)
    have X5 := Lib.hid (X2.out.below hb5)
    have HOW := Lib.hid (rdW_own hown5)
    clear hb5 v1 v2 v3 v4 hown5 X2 hrow
    cases hok : allOk L with
    | false =>
      have HE : Hid (txErr N E p m L = 3) := Lib.hid (by unfold txErr; rw [if_neg (by omega), if_pos hok])
      clear hok
      go_wp2_with fail
      go_ret2
      exact ⟨by rw [HE.out, tx_no HE.out (by decide)] <;> rfl, B5.out⟩
    | true =>
      have HOK := Lib.hid hok
      clear hok
      obtain ⟨x1, x2, x3, x4⟩ := X5.out
      go_wp2_with fail
      refine (HC.out _ B5.out).mono ?_
      rintro e w6 ⟨rfl, hb6⟩
      have B6 := Lib.hid (below_then B5.out hb6)
      have X6 := Lib.hid (X5.out.below hb6)
      have HOW6 := Lib.hid (HOW.out.below hb6)
      clear hb6 x1 x2 x3 x4 X5 HOW HC
      by_cases hg : grErr N E p m = 0
      · rw [hg]
        obtain ⟨hn64, hgood, _, _, _, _⟩ := gr_ok hg
        have HGN := Lib.hid hgood
        have hn64' : n ≤ 64 := by rw [← HG.out.nlen]; exact hn64
        have HER : Hid (txErr N E p m L = if L.all (inW n) = false then 4 else 0) := Lib.hid (by unfold txErr; rw [if_neg (by omega), if_neg (by rw [HOK.out]; simp), if_neg (by simp [hg]), HG.out.nlen])
        clear hg hn64 hgood
        have HBI : Hid (Lib.IsBuilder 60 5 w6.heap.size w6.heap.size (Lib.byteCells []) (w6.alloc (.cells #[.pointer none, .slice none 0 0] 60))) := Lib.hid (.inl ⟨Nat.le_refl _, .slice none 0 0, heap_alloc_new w6 _, World.ownsRow_nil _ _ _ _, by simp [Value.ownBlock]⟩)
        have HBB : Hid (Below w6.heap.size w6 (w6.alloc (.cells #[.pointer none, .slice none 0 0] 60))) := Lib.hid (below_new (Below.refl _ _) _)
        go_wp2_with fail
        go_loopw [12, 31] (fun _ x wr => ∃ (i : Nat), x = .int .i64 (i : Int) ∧ i ≤ L.length ∧ Hid ((L.take i).all (inW n) = true) ∧ Hid (Lib.IsBuilder 60 5 w6.heap.size w6.heap.size (Lib.byteCells (textW N (L.take i))) wr) ∧ Hid (Below w6.heap.size w6 wr)) (fun _ x _ => L.length - (intOf x).toNat)
        case atStart => exact ⟨0, rfl, Nat.zero_le _, Lib.hid rfl, HBI, HBB⟩
        case round =>
          clear HBI HBB
          obtain ⟨i, rfl, hi, HIN, HBI, HBW⟩ := hrel
          by_cases hlt : i < L.length
          · obtain ⟨e, he⟩ : ∃ e, L[i]? = some e := ⟨L[i], List.getElem?_eq_getElem hlt⟩
            obtain ⟨b, o, rfl, z0, z1, z2, z3⟩ := rd_why (HOW6.out.below HBW.out) he
            have hoe : okW e = true := List.all_eq_true.1 HOK.out e (List.mem_of_getElem? he)
            obtain ⟨hc1, hc5, hem⟩ := okW_iff.1 hoe
            have HTK : Hid (L.take (i + 1) = L.take i ++ [e]) := Lib.hid (by rw [List.take_add_one, he]; rfl)
            have HIT := Lib.hid (List.mem_of_getElem? he)
            have HVB := Lib.hid (heap_alloc_new wr (.cells #[.int .i64 e.n, .int .i64 e.c, .int .i64 e.k, .slice e.A e.m e.cap] 32))
            have HBN := Lib.hid (HBW.out.alloc HBW.out.size (.cells #[.int .i64 e.n, .int .i64 e.c, .int .i64 e.k, .slice e.A e.m e.cap] 32))
            have HBJ := Lib.hid (bld_alloc HBI.out (.cells #[.int .i64 e.n, .int .i64 e.c, .int .i64 e.k, .slice e.A e.m e.cap] 32))
            have hszr := HBW.out.size
            clear he hoe hem
            obtain ⟨en, ec, ek, eA, em, ecap⟩ := e
            simp only at z0 z1 z2 z3 hc1 hc5 HVB HBN HBJ
            obtain ⟨x1, x2, x3, x4⟩ := X6.out.below HBN.out
            have HOUT : Hid (¬ (0 ≤ en ∧ en < n ∧ 0 ≤ ek ∧ ek < n) → txErr N E p m L = 4) := Lib.hid (fun h => by
              rw [HER.out, if_pos]
              rw [List.all_eq_false]
              refine ⟨_, HIT.out, ?_⟩
              show ¬ (decide (0 ≤ en) && decide (en < n) && decide (0 ≤ ek) && decide (ek < n)) = true
              simp
              omega)
            by_cases hm1 : min en ek < 0
            · have HE := Lib.hid (HOUT.out (by omega))
              have BE := Lib.hid (below_then B6.out HBN.out)
              go_wp2_with fail
              go_ret2
              exact ⟨by rw [HE.out, tx_no HE.out (by decide)] <;> rfl, BE.out⟩
            · by_cases hm2 : (n : Int) ≤ max en ek
              · have HE := Lib.hid (HOUT.out (by omega))
                have BE := Lib.hid (below_then B6.out HBN.out)
                go_wp2_with fail
                go_ret2
                exact ⟨by rw [HE.out, tx_no HE.out (by decide)] <;> rfl, BE.out⟩
              · have HIN2 : Hid (inW n ⟨en, ec, ek, eA, em, ecap⟩ = true) := Lib.hid (by
                  show (decide (0 ≤ en) && decide (en < n) && decide (0 ≤ ek) && decide (ek < n)) = true
                  simp
                  omega)
                obtain ⟨x, rfl⟩ : ∃ x : Nat, en = (x : Int) := ⟨en.toNat, by omega⟩
                obtain ⟨z, rfl⟩ : ∃ z : Nat, ek = (z : Int) := ⟨ek.toNat, by omega⟩
                obtain ⟨c, rfl⟩ : ∃ c : Nat, ec = (c : Int) := ⟨ec.toNat, by omega⟩
                have hx : x < n := by omega
                have hz : z < n := by omega
                go_upto_region 15 with fail
                generalize hwb : wr.alloc (.cells #[.int .i64 (x : Int), .int .i64 (c : Int), .int .i64 (z : Int), .slice eA em ecap] 32) = wb at *
                generalize hwv : wr.heap.size = BV at *
                have hVB : BV ≠ w6.heap.size := by
                  have := (lt_of_blockW HBI.out)
                  omega
                obtain ⟨g1, g2, g3, g4⟩ := box_why wr ⟨(x : Int), (c : Int), (z : Int), eA, em, ecap⟩ 32
                rw [hwb, hwv] at g1 g2 g3 g4
                clear hwb z0 z1 z2 z3
                obtain ⟨bN, oN, rfl, s1⟩ := rd_strW (HG.out.names.below (below_then B6.out HBN.out)) (i := x) (by rw [HG.out.nlen]; exact hx)
                obtain ⟨_, _, hA, s2⟩ := rd_strW (HG.out.names.below (below_then B6.out HBN.out)) (i := z) (by rw [HG.out.nlen]; exact hz)
                cases hA
                have s3 := (HCT.out.below (below_then B6.out HBN.out)).at_ c (by omega)
                have hlN : bN < w6.heap.size := by
                  obtain ⟨_, _, hA, t1⟩ := rd_strW (HG.out.names.below B6.out) (i := x) (by rw [HG.out.nlen]; exact hx)
                  cases hA
                  exact lt_of_cell' t1
                have hlG : w.heap.size < w6.heap.size := lt_of_cell' X6.out.c1
                have hlC : 0 < w6.heap.size := (HCT.out.below B6.out).lt
                have ha1 := nmB_len HGN.out (x : Int)
                have ha2 := nmB_len HGN.out (z : Int)
                have ha3 := causeB_len c
                have hlen := textW_len HGN.out (L.take i)
                have hlen2 : (L.take i).length ≤ 64 := by rw [List.length_take]; omega
                have HLN : Hid (lineW N ⟨(x : Int), (c : Int), (z : Int), eA, em, ecap⟩ = (nmB N (x : Int) ++ [32] ++ causeB c) ++ (if 3 ≤ (c : Int) then [32] ++ nmB N (z : Int) else []) ++ [10]) := Lib.hid rfl
                generalize nmB N (x : Int) = na at *
                generalize nmB N (z : Int) = nz at *
                generalize causeB c = nc at *
                have hq1 : ByteArray.size ⟨na.toArray⟩ = na.length := rfl
                have hq2 : ByteArray.size ⟨nz.toArray⟩ = nz.length := rfl
                have hq3 : ByteArray.size ⟨nc.toArray⟩ = nc.length := rfl
                generalize hSA : (⟨na.toArray⟩ : ByteArray) = SA at *
                generalize hSZ : (⟨nz.toArray⟩ : ByteArray) = SZ at *
                generalize hSC : (⟨nc.toArray⟩ : ByteArray) = SC at *
                have HSA := Lib.hid hSA
                have HSZ := Lib.hid hSZ
                have HSC := Lib.hid hSC
                have e1 : ¬ (9223372036854775807 < SA.size + 1) := by omega
                have e2 : ¬ (9223372036854775807 < SA.size + 1 + SC.size) := by omega
                have e3 : ¬ (9223372036854775807 < 1 + SZ.size) := by omega
                have i1 : (x : Int) < (n : Int) := by omega
                have i2 : (z : Int) < (n : Int) := by omega
                have i3 : (c : Int) < 6 := by omega
                clear hSA hSZ hSC
                have HSL := Lib.hid (fun W (hW : Below w6.heap.size wb W) (hK : Lib.OthersKept 5 (some w6.heap.size) wb W) => (⟨(hW.cell (p := ⟨w.heap.size, 0, none⟩) hlG).trans x1, (hW.cell (p := ⟨bN, oN + x, none⟩) hlN).trans s1, (hW.cell (p := ⟨bN, oN + z, none⟩) hlN).trans s2, okc hK HVB.out hVB (by decide) g1, okc hK HVB.out hVB (by decide) g2, okc hK HVB.out hVB (by decide) g3, (hW.cell (p := ⟨0, c, none⟩) hlC).trans s3, hW, hK⟩ :
                  W.cell? ⟨w.heap.size, 0, none⟩ = some (.slice (some ⟨bN, oN, none⟩) n c1) ∧ W.cell? ⟨bN, oN + x, none⟩ = some (.string SA) ∧ W.cell? ⟨bN, oN + z, none⟩ = some (.string SZ) ∧ W.cell? ⟨BV, 0, none⟩ = some (.int .i64 (x : Int)) ∧ W.cell? ⟨BV, 1, none⟩ = some (.int .i64 (c : Int)) ∧ W.cell? ⟨BV, 2, none⟩ = some (.int .i64 (z : Int)) ∧ W.cell? ⟨0, c, none⟩ = some (.string SC) ∧ Below w6.heap.size wb W ∧ Lib.OthersKept 5 (some w6.heap.size) wb W))
                have bd : Below w6.heap.size wb wb.drew := Below.drew (Below.refl _ _)
                have kd : Lib.OthersKept 5 (some w6.heap.size) wb wb.drew := Lib.OthersKept.drew (Lib.OthersKept.refl _ _ _)
                have HCL := Lib.hid (bld_str w6.heap.size w6.heap.size (Lib.byteCells (textW N (L.take i))) (SA ++ ⟨#[32]⟩ ++ SC) wb.drew (bld_drew HBJ.out))
                have hszb := HBN.out.size
                have hbl : (Lib.byteCells (textW N (L.take i))).length + (SA ++ ⟨#[32]⟩ ++ SC).size ≤ 140737488355328 := by
                  rw [Lib.byteCells_length, ByteArray.size_append, ByteArray.size_append]
                  show _ + (SA.size + 1 + SC.size) ≤ _
                  omega
                have HBL := Lib.hid hbl
                have hl1 : (textW N (L.take i)).length ≤ 100000 := by omega
                have hl2 : SZ.size ≤ 40 := by omega
                have hl3 : SA.size + 1 + SC.size ≤ 100 := by omega
                clear hbl hq1 hq2 hq3 ha1 ha2 ha3 hlen hlen2
                go_region_held3 (fun W => W.cell? ⟨w.heap.size, 0, none⟩ = some (.slice (some ⟨bN, oN, none⟩) n c1) ∧ W.cell? ⟨bN, oN + x, none⟩ = some (.string SA) ∧ W.cell? ⟨bN, oN + z, none⟩ = some (.string SZ) ∧ W.cell? ⟨BV, 0, none⟩ = some (.int .i64 (x : Int)) ∧ W.cell? ⟨BV, 1, none⟩ = some (.int .i64 (c : Int)) ∧ W.cell? ⟨BV, 2, none⟩ = some (.int .i64 (z : Int)) ∧ W.cell? ⟨0, c, none⟩ = some (.string SC) ∧ Below w6.heap.size wb W ∧ Lib.OthersKept 5 (some w6.heap.size) wb W)
                  ((refine HSL.out _ ?_ ?_ <;> first | assumption | exact Below.drew (by assumption) | exact Lib.OthersKept.drew (by assumption)))
                  ((first
                    | (go_at_call 21; (refine (HCL.out HBL.out hszb).mono ?_); rintro e u7 ⟨rfl, h7, b7, k7⟩; have b7' := bd.trans b7; have k7' := kd.trans k7)))
                have HI1 : Hid (Lib.IsBuilder 60 5 w6.heap.size w6.heap.size (Lib.byteCells (textW N (L.take i) ++ (na ++ [32] ++ nc))) u7) := Lib.hid (by
                  rw [← catW1 HSA.out HSC.out]
                  exact .inr h7)
                have B7 := Lib.hid (HBN.out.trans b7')
                rename_i hHeld
                obtain ⟨q1, _, q3, _, q5, q6, _, _, _⟩ := hHeld
                have hsz7 := B7.out.size
                clear h7 b7 k7 b7' k7' bd kd HSL HCL HBL HBJ HBN s1 s2 s3 x1 x2 x3 x4 g1 g2 g3 g4
                have hb2 : (Lib.byteCells (textW N (L.take i) ++ (na ++ [32] ++ nc))).length ≤ 100200 := by
                  have g1 : SA.size = na.length := by rw [← HSA.out]; rfl
                  have g2 : SC.size = nc.length := by rw [← HSC.out]; rfl
                  rw [Lib.byteCells_length]
                  simp only [List.length_append, List.length_singleton]
                  omega
                have HIN3 : Hid ((L.take (i + 1)).all (inW n) = true) := Lib.hid (by rw [HTK.out, List.all_append, HIN.out]; simp [HIN2.out])
                generalize hT1 : textW N (L.take i) ++ (na ++ [32] ++ nc) = T1 at *
                have HT1E : Hid (T1 = textW N (L.take i) ++ (na ++ [32] ++ nc)) := Lib.hid hT1.symm
                clear hT1
                by_cases h3 : c < 3
                · have HNL := Lib.hid (needed_lo (c : Int) (by omega) u7)
                  have HWB := Lib.hid (bld_byte w6.heap.size w6.heap.size (Lib.byteCells T1) 10 u7 HI1.out (by omega) hsz7)
                  have HLE : Hid (textW N (L.take (i + 1)) = T1 ++ [10]) := Lib.hid (by
                    rw [HTK.out, textW_snoc, HLN.out, if_neg (show ¬ (3 : Int) ≤ (c : Int) by omega), HT1E.out]
                    simp)
                  clear h3
                  go_wp2_with fail
                  refine HNL.out.mono ?_
                  rintro e' u8 ⟨rfl, rfl⟩
                  go_wp2_with fail
                  refine HWB.out.mono ?_
                  rintro e' u9 ⟨rfl, h9, b9, _⟩
                  have HI9 : Hid (Lib.IsBuilder 60 5 w6.heap.size w6.heap.size (Lib.byteCells (textW N (L.take (i + 1)))) u9) := Lib.hid (by
                    rw [HLE.out, catW2]
                    exact .inr h9)
                  have B9 := Lib.hid (B7.out.trans b9)
                  clear h9 b9 q1 q3 q5 q6
                  go_wp2_with fail
                  exact ⟨⟨i + 1, valW i, hlt, HIN3, HI9, B9⟩, measW hlt⟩
                · have HNL := Lib.hid (needed_hi (c : Int) (by omega) u7)
                  have HWS := Lib.hid (bld_str w6.heap.size w6.heap.size (Lib.byteCells T1) (⟨#[32]⟩ ++ SZ) u7 HI1.out (by rw [ByteArray.size_append]; show _ + (1 + SZ.size) ≤ _; omega) hsz7)
                  have HLE : Hid (textW N (L.take (i + 1)) = T1 ++ ([32] ++ nz) ++ [10]) := Lib.hid (by
                    rw [HTK.out, textW_snoc, HLN.out, if_pos (show (3 : Int) ≤ (c : Int) by omega), HT1E.out]
                    simp)
                  clear h3
                  go_wp2_with fail
                  refine HNL.out.mono ?_
                  rintro e' u8 ⟨rfl, rfl⟩
                  go_wp2_with fail
                  refine HWS.out.mono ?_
                  rintro e' u9 ⟨rfl, h9, b9, _⟩
                  have HI9 : Hid (Lib.IsBuilder 60 5 w6.heap.size w6.heap.size (Lib.byteCells (T1 ++ ([32] ++ nz))) u9) := Lib.hid (by
                    rw [← catW3 HSZ.out]
                    exact .inr h9)
                  have B9 := Lib.hid (B7.out.trans b9)
                  have hsz9 := B9.out.size
                  clear h9 b9 q1 q3 q5 q6
                  have HWB := Lib.hid (bld_byte w6.heap.size w6.heap.size (Lib.byteCells (T1 ++ ([32] ++ nz))) 10 u9 HI9.out (by
                    have g1 : SZ.size = nz.length := by rw [← HSZ.out]; rfl
                    rw [Lib.byteCells_length] at hb2 ⊢
                    simp only [List.length_append, List.length_singleton]
                    omega) hsz9)
                  go_wp2_with fail
                  refine HWB.out.mono ?_
                  rintro e' ua ⟨rfl, ha, bA', _⟩
                  have HIA : Hid (Lib.IsBuilder 60 5 w6.heap.size w6.heap.size (Lib.byteCells (textW N (L.take (i + 1)))) ua) := Lib.hid (by
                    rw [HLE.out, catW2]
                    exact .inr ha)
                  have BA := Lib.hid (B9.out.trans bA')
                  clear ha bA'
                  go_wp2_with fail
                  exact ⟨⟨i + 1, valW i, hlt, HIN3, HIA, BA⟩, measW hlt⟩
          · obtain rfl : i = L.length := by omega
            have HE : Hid (txErr N E p m L = 0) := Lib.hid (by rw [HER.out, if_neg]; rw [List.take_length] at HIN; rw [HIN.out]; simp)
            have HS : Hid (sv (txStr N E p m L) = .string ⟨(textW N L).toArray⟩) := Lib.hid (by unfold txStr; rw [if_pos HE.out]; rfl)
            rw [List.take_length] at HBI
            have HST := Lib.hid (Tryd.Builder_String_any w6.heap.size w6.heap.size (textW N L) wr HBI.out HBW.out.size)
            go_wp2_with fail
            refine HST.out.mono ?_
            rintro e w7 ⟨rfl, hb7⟩
            have B7 := Lib.hid (below_then B6.out (HBW.out.trans hb7))
            clear hb7
            go_wp2_with fail
            go_ret2
            exact ⟨by rw [HE.out, HS.out] <;> rfl, B7.out⟩
      · have HE : Hid (txErr N E p m L = grErr N E p m) := Lib.hid (by unfold txErr; rw [if_neg (by omega), if_neg (by rw [HOK.out]; simp), if_pos (by simpa using hg)])
        have hne : (grErr N E p m != 0) = true := by simp [hg]
        have HGE := Lib.hid hg
        clear hg
        go_wp2_with fail
        go_ret2
        exact ⟨by rw [HE.out, tx_no HE.out HGE.out] <;> rfl, B6.out⟩
end
end Go.Proofs.YtecbdamimnllnaaDoor
