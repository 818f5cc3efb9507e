/- Contract: ask.free. What is asked lies in the world that was there first; out is the call's own; lengths together at most 2^40. -/
import Derived.Test.YtcodncddaemhlaaDoorAskV
import Derived.Test.YtcodncddaemhlaaDoorRl1
import Derived.Deep.DeepCutAuto
import Derived.Deep.RegionLawGrows
namespace Go.Proofs.YtcodncddaemhlaaDoor
open Go.RowKit

def OutIs (w0 w : World) (r : Option Nat) (l : List (List UInt8)) (v : Value) (wx : World) : Prop :=
  ∃ A c, v = .slice A l.length c ∧ wx.ownsRow w0.heap.size 9 1 (.slice A l.length c) l.length (l.map sv) ∧ FRel w wx r (Value.slice A l.length c).ownBlock
def BndW (w2 : World) (r : Option Nat) (l : List (List UInt8)) (v : Value) (wx : World) : Prop := BndR wx r v l ∧ Below w2.heap.size w2 wx
theorem bindS_in (k : Int) (s : List UInt8) (b : List (List UInt8)) (i : Nat) : bindS k s b i = if decide (k = 4 ∧ i = 1) = true then b ++ [s] else b := by
  unfold bindS
  simp
set_option maxRecDepth 100000 in
set_option maxHeartbeats 4000000 in
theorem aFree_any (w0 : World) : ∀ (x : AskT) (A : Option Addr) (c : Nat), AskAt w0 x A c → ∀ (w : World), Below w0.heap.size w0 w → ∀ (bv : Value) (bl : List (List UInt8)) (AO : Option Addr) (nO cO : Nat) (ol : List (List UInt8)),
    BndR w (Value.slice AO nO cO).ownBlock bv bl → w.ownsRow w0.heap.size 9 1 (.slice AO nO cO) nO (ol.map sv) → ol.length = nO → bl.length + sizeA x ≤ 1099511627776 → nO + sizeA x ≤ 1099511627776 →
    Calls Tryd.prog 22 #[askV x A c, bv, .slice AO nO cO] w (FreePost w0 w (Value.slice AO nO cO).ownBlock (ol ++ freeA x bl)) := by
  refine askT_ind fun k s n X ih A c hA w hw bv bl AO nO cO ol hbnd hown hno hsb hso => ?_
  have HIH := Lib.hid ih
  have HA := Lib.hid hA
  have HW := Lib.hid hw
  have HBND := Lib.hid hbnd
  have HOWN := Lib.hid hown
  have HNO := Lib.hid hno
  have HSZ := Lib.hid (sizeA_mk k s n X)
  have HSB : Hid (bl.length + (1 + (X.map sizeA).sum) ≤ 1099511627776) := Lib.hid (by rw [← HSZ.out]; exact hsb)
  have HSO : Hid (nO + (1 + (X.map sizeA).sum) ≤ 1099511627776) := Lib.hid (by rw [← HSZ.out]; exact hso)
  have hm' : X.length ≤ 1099511627776 := by have := kids_le X; have := HSO.out; omega
  have HFM := Lib.hid (freeA_mk k s n X bl)
  rw [HFM.out]
  have hbn := hbnd.rd
  obtain ⟨AB, cB, rfl, hrb⟩ := hbn
  have CCO := Lib.hid (fun W (hr : Rd W AB (bl.map sv)) => slContains_any (A := AB) (n := bl.length) (c := cB) bl s W hr rfl (by have := HSB.out; omega))
  have HRB := Lib.hid hrb
  obtain ⟨y, hy⟩ := boxA_new w (.int .i64 k) (.string ⟨s.toArray⟩) (.int .i64 n) (.slice A X.length c) 24
  have Y := Lib.hid y
  have HY := Lib.hid hy
  have HRB1 := Lib.hid (hrb.below hy)
  have HBS : Hid (some w.heap.size ≠ (Value.slice AO nO cO).ownBlock) := Lib.hid (own_ne hown (Nat.le_refl _))
  have HF1 : Hid (FRel w (w.alloc (.cells #[.int .i64 k, .string ⟨s.toArray⟩, .int .i64 n, .slice A X.length c] 24)) (Value.slice AO nO cO).ownBlock (Value.slice AO nO cO).ownBlock) := Lib.hid (FRel.of_below hy _)
  have HO1 := Lib.hid (own_below hown hy)
  have HW1 := Lib.hid (below_then hw hy)
  have HSV : Hid (sv s = .string ⟨s.toArray⟩) := Lib.hid rfl
  clear ih hA hw hbnd hown hno hsb hso y hy hrb
  unfold askV
  simp only [AskT.kind, AskT.name, AskT.n, AskT.X]
  generalize hpb : decide (k = 3 ∧ s ∉ bl) = pb
  have HPB := Lib.hid hpb
  have HPE : Hid ((if k = 3 ∧ s ∉ bl then [s] else ([] : List (List UInt8))) = if pb = true then [s] else []) := Lib.hid (by rw [← hpb]; simp)
  rw [HPE.out, ← List.append_assoc, ← kidsF_all]
  obtain ⟨r0, hr0⟩ : ∃ r0, r0 = (Value.slice AO nO cO).ownBlock := ⟨_, rfl⟩
  obtain ⟨OL, hOL⟩ : ∃ OL, OL = ol ++ if pb = true then [s] else [] := ⟨_, rfl⟩
  rw [← hr0, ← hOL]
  have HR0 := Lib.hid hr0
  have HOL := Lib.hid hOL
  rw [← hr0] at HBS HF1 HBND
  have HRW : Hid (∀ g, r0 = some g → w0.heap.size ≤ g) := Lib.hid (fun g hg => (HOWN.out.lt g (by rw [← hr0]; exact hg)).1)
  clear hr0 hOL
  have HIN : Hid (inL bl s = decide (s ∈ bl)) := Lib.hid rfl
  clear hpb
  generalize hbs : (⟨s.toArray⟩ : ByteArray) = bs at *
  have HBSV := Lib.hid hbs
  clear hbs
  go_enter Tryd.func22, Tryd.ntmps22
  go_upto_region 1 with fail
  generalize hw1 : w.alloc (.cells #[.int .i64 k, .string bs, .int .i64 n, .slice A X.length c] 24) = w1 at *
  have HZ1 : Hid (w1.heap.size = w.heap.size + 1) := Lib.hid (by rw [← hw1]; simp)
  clear hw1
  have HSB1 : Hid (w0.heap.size ≤ w1.heap.size) := Lib.hid (by have := HW.out.size; have := HZ1.out; omega)
  generalize w.heap.size = BF at *
  obtain ⟨y1, y2, y3, y4⟩ := Y.out
  go_cut [19] (fun s19 wx => s19 = .bool pb ∧ wx = w1)
  case first =>
    by_cases hk3 : k = 3
    · have hk : (k == 3) = true := by simp [hk3]
      have HV : Hid ((!(inL bl s)) = pb) := Lib.hid (by rw [← HPB.out, HIN.out]; simp [hk3])
      clear hk3
      go_wp2_with fail
      refine (CCO.out w1 HRB1.out).mono ?_
      rintro e w' ⟨rfl, rfl⟩
      generalize inL bl s = ib at *
      go_wp2_with fail
      go_meet
      exact ⟨congrArg Value.bool HV.out, rfl⟩
    · have hk : (k == 3) = false := by simp [hk3]
      have HV : Hid (false = pb) := Lib.hid (by rw [← HPB.out]; simp [hk3])
      clear hk3
      go_wp2_with fail
      go_meet
      exact ⟨congrArg Value.bool HV.out, rfl⟩
  case rest =>
    obtain ⟨rfl, hwc⟩ := hcut
    replace hwc := hwc.symm
    subst hwc
    go_upto_if 19 with fail
    go_cut [2] (fun s2 wx => OutIs w0 w1 r0 OL s2 wx)
    case first =>
      cases pb with
      | true =>
        obtain ⟨y1, y2, y3, y4⟩ := Y.out
        have hsz1 : w0.heap.size ≤ w1.heap.size := HSB1.out
        have hn47 : (nO + 1) * 16 ≤ 140737488355328 := by have := HSO.out; omega
        have hn48 : nO + 1 ≤ 140737488355328 := by omega
        have HOT : Hid (OL = ol ++ [s]) := HOL
        go_wp2_with (at_builtin; refine wpList_pushAt elStr w1 _ _ w0.heap.size AO nO cO _ (.string bs) HO1.out rfl hsz1 hn47 hn48 rfl rfl rfl rfl ?_; intro A' c' w5 hown5 hb5 hg5 hat5)
        go_meet
        have hl : OL.length = nO + 1 := by rw [HOT.out, List.length_append, HNO.out]; rfl
        refine ⟨A', c', by rw [hl], ?_, ?_⟩
        · rw [hl, HOT.out, List.map_append, List.map_singleton, HSV.out]
          exact hown5
        · rw [hl]
          have := push_frel hg5 hat5
          rw [← HR0.out] at this
          exact this
      | false =>
        have HOT : Hid (OL = ol) := Lib.hid (HOL.out.trans (List.append_nil _))
        have hl : OL.length = nO := by rw [HOT.out, HNO.out]
        go_wp2_with fail
        go_meet
        refine ⟨AO, cO, by rw [hl], ?_, ?_⟩
        · rw [hl, HOT.out]
          exact HO1.out
        · rw [hl, ← HR0.out]
          exact FRel.refl _ _
    case rest =>
      obtain ⟨A2, c2, rfl, ho2, hf2⟩ := hcut
      have HO2 := Lib.hid ho2
      have HF2 := Lib.hid hf2
      have HY2 := Lib.hid (hf2.box Y.out HBS.out)
      clear ho2 hf2 y1 y2 y3 y4
      obtain ⟨y1, y2, y3, y4⟩ := HY2.out
      go_wp2_with fail
      go_loopw [2, 7, 8, 9, 28] (fun v2 _ _ _ i wr => ∃ j : Nat, i = .int .i64 (j : Int) ∧ j ≤ X.length ∧ Hid (OutIs w0 w1 r0 (OL ++ kidsF k s bl X j) v2 wr)) (fun _ _ _ _ i _ => X.length - (intOf i).toNat)
      case atStart => exact ⟨0, rfl, by omega, Lib.hid ⟨A2, c2, by simp [kidsF], by simpa [kidsF] using HO2.out, by simpa [kidsF] using HF2.out⟩⟩
      case round =>
        obtain ⟨j, rfl, hj, HI⟩ := hrel
        obtain ⟨A3, c3, rfl, ho3, hf3⟩ := HI.out
        by_cases hlt : j < X.length
        · obtain ⟨x, hx⟩ : ∃ x, X[j]? = some x := ⟨_, List.getElem?_eq_getElem hlt⟩
          have hBr : Below w0.heap.size w0 wr := hf3.below HW1.out HRW.out
          obtain ⟨b, off, A', c', rfl, e1, e2, e3, e4, hch⟩ := AskAt.child HA.out hx
          replace e1 := cell_keptA e1 hBr
          replace e2 := cell_keptA e2 hBr
          replace e3 := cell_keptA e3 hBr
          replace e4 := cell_keptA e4 hBr
          obtain ⟨u, hu⟩ := boxA_new wr (.int .i64 x.kind) (.string ⟨x.name.toArray⟩) (.int .i64 x.n) (.slice A' x.X.length c') 24
          have U := Lib.hid u
          have HU := Lib.hid (FRel.of_below hu (Value.slice A3 (OL ++ kidsF k s bl X j).length c3).ownBlock)
          have HO3 := Lib.hid (own_below ho3 hu)
          have HF3 := Lib.hid (hf3.trans HU.out)
          have HBr := Lib.hid (below_then hBr hu)
          have HBN := Lib.hid ((HBND.out.keep HF1.out).keep HF3.out)
          have HY3 := Lib.hid (HF3.out.box Y.out HBS.out)
          have HSU := Lib.hid (kidsF_succ (k := k) (s := s) (b := bl) hx)
          have HKS : Hid ((OL ++ kidsF k s bl X j).length + sizeA x ≤ nO + (1 + (X.map sizeA).sum)) := Lib.hid (by
            have h1 : (X.map sizeA)[j]? = some (sizeA x) := by rw [List.getElem?_map, hx]; rfl
            have h2 := sum_take_succ h1
            have h3 := sum_take_le (X.map sizeA) (j + 1)
            have h4 := kidsF_le (k := k) (s := s) (b := bl) (X := X) j
            have h5 : OL.length ≤ nO + 1 := by rw [HOL.out, List.length_append, HNO.out]; split <;> simp
            rw [List.length_append]
            omega)
          have HXS : Hid (bl.length + 1 + sizeA x ≤ 1099511627776) := Lib.hid (by
            have h1 : (X.map sizeA)[j]? = some (sizeA x) := by rw [List.getElem?_map, hx]; rfl
            have h2 := sum_take_succ h1
            have h3 := sum_take_le (X.map sizeA) (j + 1)
            have := HSB.out
            omega)
          have HC := Lib.hid (fun W bv bl' hW hbv hl => HIH.out x (List.mem_of_getElem? hx) A' c' hch W hW bv bl' A3 (OL ++ kidsF k s bl X j).length c3 (OL ++ kidsF k s bl X j) hbv hl rfl)
          unfold askV at HC
          have hj1 : (j : Int) < (X.length : Int) := by omega
          clear hx hch hBr u hu ho3 hf3 HI y1 y2 y3 y4
          generalize hbx : (⟨x.name.toArray⟩ : ByteArray) = bx at *
          clear hbx
          generalize x.kind = xk at *
          generalize x.n = xn at *
          generalize x.X.length = xm at *
          generalize sizeA x = xs at *
          have HBI := Lib.hid (bindS_in k s bl j)
          generalize hb2 : bindS k s bl j = bl2 at *
          clear hb2
          generalize hpb2 : decide (k = 4 ∧ j = 1) = pb2 at *
          have HPB2 := Lib.hid hpb2
          clear hpb2
          generalize hq : (OL ++ kidsF k s bl X j).length = q at *
          have HQ := Lib.hid hq
          clear hq
          obtain ⟨r3, hr3⟩ : ∃ r3, r3 = (Value.slice A3 q c3).ownBlock := ⟨_, rfl⟩
          rw [← hr3] at HF3 HBN HC
          have HR3 := Lib.hid hr3
          clear hr3
          go_upto_region 7 with fail
          generalize hw2 : wr.alloc (.cells #[.int .i64 xk, .string bx, .int .i64 xn, .slice A' xm c'] 24) = w2 at *
          clear hw2
          obtain ⟨y1, y2, y3, y4⟩ := HY3.out
          obtain ⟨z1, z2, z3, z4⟩ := U.out
          go_cut [40] (fun s40 wx => s40 = .bool pb2 ∧ wx = w2)
          case first =>
            by_cases h4 : k = 4
            · have k4 : (k == 4) = true := by simp [h4]
              by_cases h1 : j = 1
              · have j1 : ((j : Int) == 1) = true := by simp [h1]
                have HV : Hid (true = pb2) := Lib.hid (by rw [← HPB2.out]; simp [h1, h4])
                clear h4 h1
                go_wp2_with fail
                go_meet
                exact ⟨congrArg Value.bool HV.out, rfl⟩
              · have j1 : ((j : Int) == 1) = false := by simp; omega
                have HV : Hid (false = pb2) := Lib.hid (by rw [← HPB2.out]; simp [h1])
                clear h4 h1
                go_wp2_with fail
                go_meet
                exact ⟨congrArg Value.bool HV.out, rfl⟩
            · have k4 : (k == 4) = false := by simp [h4]
              have HV : Hid (false = pb2) := Lib.hid (by rw [← HPB2.out]; simp [h4])
              clear h4
              go_wp2_with fail
              go_meet
              exact ⟨congrArg Value.bool HV.out, rfl⟩
          case rest =>
            obtain ⟨rfl, hwc⟩ := hcut
            replace hwc := hwc.symm
            subst hwc
            go_upto_if 40 with fail
            go_cut [9] (fun s9 wx => BndW w2 r3 bl2 s9 wx)
            case first =>
              cases pb2 with
              | false =>
                have HBL : Hid (bl2 = bl) := Lib.hid (by rw [HBI.out, if_neg (by decide)])
                go_wp2_with fail
                go_meet
                exact ⟨by rw [HBL.out]; exact HBN.out, Below.refl _ _⟩
              | true =>
                have HBL : Hid (bl2 = bl ++ [s]) := Lib.hid (by rw [HBI.out, if_pos rfl])
                rcases HBN.out with ⟨hnil, hl0⟩ | ⟨g, cg, hsl, hl0, hcg, hgr, hcell⟩
                · injection hnil with h1 h2 h3
                  subst h1 hl0
                  have hcB : cB = 0 := h3
                  subst hcB
                  clear h2 h3
                  go_wp2_with fail
                  obtain ⟨ht, i0, hi, hz, hs1, hby, hzs⟩ := elStr
                  have H2 := Lib.hid (lit_cell (w := w2) (v := .string bs) (e := 9))
                  have HDW := Lib.hid (drew_alloc_below w2 (.cells #[.string bs] 9))
                  go_region_law
                    (refine step_append_grows rfl (.tmp 46) (.tmp 49) 35 rfl 9 i0 (.string ⟨#[]⟩) 1 16 ht hi hz hs1 hby hzs (by decide) none 0 0 [] (by simp [Act.eval]) (fun _ => ⟨rfl, rfl⟩) rfl (by intro b h; cases h) ⟨w2.heap.size, 0, none⟩ 1 1 [.string bs] (by simp [Act.eval]) rfl H2.out (by intro u hu; rw [List.mem_singleton] at hu; rw [hu]; rfl) (by omega) (by unfold maxLen; omega) (by omega) ?_; intro v7 w7 hown7 hg7; obtain ⟨A7, c7, rfl⟩ := own_form hown7)
                  have hb7 : Below w2.heap.size w2 w7 := HDW.out.trans ((Below.refl _ _).grown hg7 (by simp) (fun k h => by cases h))
                  have hbn7 : BndR w7 r3 (.slice A7 (0 + 1) c7) bl2 := by
                    rw [HBL.out]
                    refine BndR.of_own (e := 9) (l := [] ++ [s]) (n := 0 + 1) ?_ rfl (by omega) (fun g hg => Nat.lt_of_lt_of_le (HO3.out.lt g (by rw [← HR3.out]; exact hg)).2 HDW.out.size)
                    rw [List.map_append, List.map_singleton, HSV.out]
                    exact hown7
                  go_simp
                  clear ht hi hz hs1 hby hzs hown7 hg7
                  go_wp2_with fail
                  go_meet
                  exact ⟨hbn7, hb7⟩
                · injection hsl with h1 h2 h3
                  subst h1
                  have hcB : cB = cg := h3
                  subst hcB
                  have HL0 := Lib.hid hl0
                  have H1 : Hid (∀ b, some (⟨g, 0, none⟩ : Addr) = some b → ∀ j u, (bl.map sv)[j]? = some u → (w2.drew.alloc (.cells #[.string bs] 9)).cell? (b.add j) = some u) := Lib.hid (fun b hb j u hu => by
                    injection hb with hb
                    subst hb
                    have h := cell_keptA (hcell j u hu) (drew_alloc_below w2 (.cells #[.string bs] 9))
                    unfold Addr.add
                    by_cases hj : j = 0
                    · subst hj; simpa using h
                    · simpa [hj] using h)
                  have HLB : Hid ((bl.map sv).length = bl.length * 1) := Lib.hid (by simp)
                  have hbl0 : bl.length + 1 ≤ 1099511627776 := by have := HXS.out; omega
                  have hbl1 : 0 < bl.length := hl0
                  clear h2 h3 hcell hl0
                  generalize hnb : bl.length = nb at *
                  have HNB := Lib.hid hnb
                  clear hnb
                  go_wp2_with fail
                  obtain ⟨ht, i0, hi, hz, hs1, hby, hzs⟩ := elStr
                  have H2 := Lib.hid (lit_cell (w := w2) (v := .string bs) (e := 9))
                  have HDW := Lib.hid (drew_alloc_below w2 (.cells #[.string bs] 9))
                  go_region_law
                    (refine step_append_grows rfl (.tmp 46) (.tmp 49) 35 rfl 9 i0 (.string ⟨#[]⟩) 1 16 ht hi hz hs1 hby hzs (by decide) (some ⟨g, 0, none⟩) nb nb (bl.map sv) (by simp [Act.eval]) (by intro h; cases h) HLB.out H1.out ⟨w2.heap.size, 0, none⟩ 1 1 [.string bs] (by simp [Act.eval]) rfl H2.out (by intro u hu; rw [List.mem_singleton] at hu; rw [hu]; rfl) (by omega) (by unfold maxLen; omega) (by omega) ?_; intro v7 w7 hown7 hg7; obtain ⟨A7, c7, rfl⟩ := own_form hown7)
                  have hb7 : Below w2.heap.size w2 w7 := HDW.out.trans ((Below.refl _ _).grown hg7 (by simp) (fun k h => by cases h))
                  have hbn7 : BndR w7 r3 (.slice A7 (nb + 1) c7) bl2 := by
                    rw [HBL.out]
                    refine BndR.of_own (e := 9) (l := bl ++ [s]) (n := nb + 1) ?_ (by rw [List.length_append, HNB.out]; rfl) (by omega) (fun g hg => Nat.lt_of_lt_of_le (HO3.out.lt g (by rw [← HR3.out]; exact hg)).2 HDW.out.size)
                    rw [List.map_append, List.map_singleton, HSV.out]
                    exact hown7
                  go_simp
                  clear ht hi hz hs1 hby hzs hown7 hg7
                  go_wp2_with fail
                  go_meet
                  exact ⟨hbn7, hb7⟩
            case rest =>
              obtain ⟨hbw, hbb⟩ := hcut
              have HBL2 : Hid (bl2.length ≤ bl.length + 1) := Lib.hid (by rw [HBI.out]; split <;> simp)
              have HC2 := Lib.hid (HC.out wc _ bl2 (below_then HBr.out hbb) hbw (own_below HO3.out hbb) (by have := HXS.out; have := HBL2.out; omega) (by have := HKS.out; have := HSO.out; omega))
              have Z2 := Lib.hid (U.out.below hbb)
              have HF4 : Hid (FRel w1 wc r0 r3) := Lib.hid (HF3.out.trans (FRel.of_below hbb r3))
              clear z1 z2 z3 z4 y1 y2 y3 y4 hbw hbb e1 e2 e3 e4
              obtain ⟨z1, z2, z3, z4⟩ := Z2.out
              unfold askV FreePost at HC2
              go_wp2_with fail
              refine HC2.out.mono ?_
              rintro e w9 ⟨A9, c9, rfl, ho9, hf9⟩
              have HO9 : Hid (OutIs w0 w1 r0 (OL ++ kidsF k s bl X (j + 1)) (.slice A9 ((OL ++ kidsF k s bl X j) ++ freeA x bl2).length c9) w9) := Lib.hid (by
                rw [HSU.out, ← List.append_assoc]
                exact ⟨A9, c9, rfl, ho9, HF4.out.trans hf9⟩)
              clear ho9 hf9
              generalize ((OL ++ kidsF k s bl X j) ++ freeA x bl2).length = q9 at *
              go_wp2_with fail
              exact ⟨⟨j + 1, rfl, by omega, HO9⟩, measA hlt⟩
        · obtain rfl : j = X.length := by omega
          have HO3 := Lib.hid ho3
          have HF3 := Lib.hid hf3
          clear ho3 hf3 HI
          generalize OL ++ kidsF k s bl X X.length = L at *
          go_wp2_with fail
          go_ret
          exact ⟨A3, c3, rfl, HO3.out, HF1.out.trans HF3.out⟩
end Go.Proofs.YtcodncddaemhlaaDoor
