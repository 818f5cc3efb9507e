/- Contract: the reference's Run. -/
import Derived.Test.YtiechbaknolimaaDoorRun3
import Derived.Test.YtiechbaknolimaaDoorSt4
import Derived.Test.YtiechbaknolimaaDoorSt5
namespace Go.Proofs.YtiechbaknolimaaDoor
open Go.RowKit

theorem box_run3 (w : World) (x1 x2 x3 x4 y1 y2 v1 v2 : Value) (t u b : TypeId) : ∃ w2, w2 = ((w.alloc (.cells #[x1, x2, x3, x4] t)).alloc (.cells #[y1, y2] u)).alloc (.cells #[v1, v2] b) ∧
    GrBox w.heap.size x1 x2 x3 x4 w2 ∧ SeBox (w.heap.size + 1) y1 y2 w2 ∧ Blk w2 (w.heap.size + 1 + 1) b [v1, v2] ∧ Below w.heap.size w w2 := by
  obtain ⟨h1, h2, h3⟩ := box_six w x1 x2 x3 x4 y1 y2 t u
  refine ⟨_, rfl, ?_, ?_, ?_, ?_⟩
  · exact h1.below (below_new (Below.refl _ _) _)
  · exact h2.below (below_new (Below.refl _ _) _)
  · have := Blk.new ((w.alloc (.cells #[x1, x2, x3, x4] t)).alloc (.cells #[y1, y2] u)) #[v1, v2] b
    simpa using this
  · exact below_new h3 _
section
variable {A1 A2 A3 : Option Addr} {n k j c1 c2 c3 : Nat} {N : List (List UInt8)} {E : List EdgeT} {p m d : Nat} {T : List Int} (w : World) (hG : GrIn A1 n A2 k N E p m w) (hS : SeIn A3 j T d w) (u : Nat) (hu : B64 u) (now : Int)
include hG hS hu
set_option maxRecDepth 100000 in
set_option maxHeartbeats 2000000 in
theorem rRun_any : Calls Tryd.prog 27 #[gv A1 n c1 A2 k c2 p m, sx A3 j c3 d, .int .u64 (u : Int), .int .i64 now] w
    (RunPost (runErr (onlyE n E u (seErr N E p m T d)) now T) (runV (runErr (onlyE n E u (seErr N E p m T d)) now T) (onlyV n E T p m d u (seErr N E p m T d)) now T (ordL (rowsG n E))) w) := by
  have C1 := Lib.hid (fun W (hW : Below w.heap.size w W) => rSeenFault_any (c1 := c1) (c2 := c2) (c3 := c3) W (hG.below hW) (hS.below hW))
  obtain ⟨s, hs⟩ : ∃ s, s = onlyV n E T p m d u (seErr N E p m T d) := ⟨_, rfl⟩
  obtain ⟨e0, he⟩ : ∃ e0, e0 = onlyE n E u (seErr N E p m T d) := ⟨_, rfl⟩
  rw [← hs, ← he]
  have HS0 := Lib.hid hs
  have HE0 := Lib.hid he
  clear hs he
  have HG := Lib.hid hG
  have HS := Lib.hid hS
  have HU := Lib.hid hu
  unfold gv sx at *
  obtain ⟨w2, hw2, x0, y0, r0, z0⟩ := box_run3 w (.slice A1 n c1) (.slice A2 k c2) (.int .u64 (p : Int)) (.int .u64 (m : Int)) (.slice A3 j c3) (.int .u64 (d : Int)) (.slice none 0 0) (.slice none 0 0) 26 48 58
  have X2 := Lib.hid x0
  have Y2 := Lib.hid y0
  have R2 := Lib.hid r0
  have B2 := Lib.hid z0
  have HW2 := Lib.hid hw2
  clear hG hS hu x0 y0 r0 z0 hw2
  obtain ⟨es, hes⟩ : ∃ es, es = seErr N E p m T d := ⟨_, rfl⟩
  rw [← hes] at C1 HS0 HE0
  have HES := Lib.hid hes
  clear hes
  go_enter Tryd.func27, Tryd.ntmps27
  go_upto_region 1 with fail
  rw [← HW2.out]
  generalize hBS : w.heap.size + 1 = BS at *
  generalize hBr : BS + 1 = Br at *
  have HBr := Lib.hid hBr
  have HBS := Lib.hid hBS
  clear hBS hBr HW2
  obtain ⟨x1, x2, x3, x4⟩ := X2.out
  obtain ⟨y1, y2⟩ := Y2.out
  go_wp2_with fail
  refine (C1.out _ B2.out).mono ?_
  rintro e w3 ⟨rfl, hb3⟩
  have B3 := Lib.hid (below_then B2.out hb3)
  have X3 := Lib.hid (X2.out.below hb3)
  have Y3 := Lib.hid (Y2.out.below hb3)
  have R3 := Lib.hid (R2.out.below hb3 R2.out.lt)
  clear hb3 x1 x2 x3 x4 y1 y2 X2 Y2 C1 R2
  obtain ⟨x1, x2, x3, x4⟩ := X3.out
  obtain ⟨y1, y2⟩ := Y3.out
  have r1 := R3.out.cell (j := 0) rfl
  have r2 := R3.out.cell (j := 1) rfl
  have rf := R3.out.free
  by_cases h0 : es = 0
  case neg =>
    have HE : Hid (runErr e0 now T = es) := Lib.hid (by rw [HE0.out]; unfold runErr onlyE; rw [if_neg h0, if_pos h0])
    have HN0 := Lib.hid h0
    go_wp2_with fail
    have RZ := Lib.hid ((R3.out.same 0 (.slice none 0 0)).same 1 (.slice none 0 0))
    have BZ : Hid (Below w.heap.size w ((w3.setCell ⟨Br, 0, none⟩ (.slice none 0 0)).setCell ⟨Br, 1, none⟩ (.slice none 0 0))) := Lib.hid ((B3.out.setCell (by show w.heap.size ≤ Br; have := HBr.out; have := HBS.out; omega) _).setCell (by show w.heap.size ≤ Br; have := HBr.out; have := HBS.out; omega) _)
    generalize (w3.setCell ⟨Br, 0, none⟩ (.slice none 0 0)).setCell ⟨Br, 1, none⟩ (.slice none 0 0) = wz at *
    have q1 := RZ.out.cell (j := 0) rfl
    have q2 := RZ.out.cell (j := 1) rfl
    refine bodyPost_ret (v := .tuple #[.agg #[.slice none 0 0, .slice none 0 0], .int .i64 es]) (by simp [results, Tryd.results27, go_sem, q1, q2]) rfl ?_
    exact runPost_no (by rw [HE.out]; exact HN0.out) (by rw [HE.out]) BZ.out
  subst h0
  obtain ⟨hg0, hjn, _, _, hr0⟩ := se_ok HG.out.nlen HS.out.tlen HES.out.symm
  obtain ⟨hn64, _, _, hout, _, _⟩ := gr_ok hg0
  rw [HG.out.nlen] at hn64 hout
  subst hjn
  have HGD : Hid (Good (rowsG j E)) := Lib.hid (rowsG_good hn64 hout)
  have HRL : Hid ((rowsG j E).length = j) := Lib.hid (rowsG_len j E)
  have HF0 : Hid (faultOf (rowsG j E) [] = 0) := Lib.hid (good_fault HGD.out)
  have HFU : Hid (faultOf (rowsG j E) [u] = okErr (inU j u)) := Lib.hid (by rw [(faultOf_zero HF0.out).1, HRL.out]; simp)
  have HSB : Hid (B64 (staleS (rowsG j E) T p m d)) := Lib.hid (stale_b64 HGD.out hr0)
  have HRW := Lib.hid (fun W (hW : Below w.heap.size w W) => rRowsOf_any (c1 := c1) (c2 := c2) W (HG.out.below hW) hg0)
  have HAN := Lib.hid (fun W (hW : Below w.heap.size w W) => rAnew_any (c1 := c1) (c2 := c2) (c3 := c3) W (HG.out.below hW) (HS.out.below hW) hg0 hr0)
  have HB64 : Hid (B64 s) := Lib.hid (by rw [HS0.out]; exact only_b64 HGD.out hr0)
  have HLO : Hid ((ordL (rowsG j E)).length = j) := Lib.hid (by have := (ord_full HGD.out).2 hr0; rw [HRL.out] at this; exact this)
  have HX : Hid (∀ (q x : Nat), (ordL (rowsG j E))[q]? = some x → x < j) := Lib.hid (fun q x hx => by have := ((ordL_inv HGD.out).mem x).1 (List.mem_of_getElem? hx); rw [HRL.out] at this; exact this.1)
  unfold gv sx at *
  clear hr0 hg0 hout
  go_wp2_with fail
  refine (HRW.out w3 B3.out).mono ?_
  rintro e w4 ⟨AW, cW, rfl, hown4, hb4⟩
  have B4 := Lib.hid (below_then B3.out hb4)
  have X4 := Lib.hid (X3.out.below hb4)
  have Y4 := Lib.hid (Y3.out.below hb4)
  have R4 := Lib.hid (R3.out.below hb4 R3.out.lt)
  have HR4 := Lib.hid (Rd.of_own hown4)
  clear hb4 hown4 x1 x2 x3 x4 y1 y2 X3 Y3 r1 r2 rf R3 HRW
  obtain ⟨x1, x2, x3, x4⟩ := X4.out
  obtain ⟨y1, y2⟩ := Y4.out
  go_wp2_with fail
  have HLIT : Hid (Rd (w4.alloc (.cells #[.int .u64 (u : Int)] 24)) (some ⟨w4.heap.size, 0, none⟩) ([u].map uv)) := Lib.hid (rd_lit w4 _ #[.int .u64 (u : Int)] _ ([u].map uv) rfl rfl)
  refine (rRowsFault_any (m := 1) (rowsG j E) [u] _ (HR4.out.alloc _) HRL.out (by omega) HGD.out.b64 HLIT.out rfl (by omega) (rowAt_all (fun s hs => by rw [List.mem_singleton] at hs; rw [hs]; exact HU.out))).mono ?_
  rintro e w5 ⟨rfl, hb5⟩
  have B5 := Lib.hid (below_then (below_new B4.out _) hb5)
  have hb45 := below_then (below_new (Below.refl w4.heap.size w4) _) hb5
  have X5 := Lib.hid (X4.out.below hb45)
  have Y5 := Lib.hid (Y4.out.below hb45)
  have R5 := Lib.hid (R4.out.below hb45 R4.out.lt)
  have HR5 := Lib.hid (HR4.out.below hb45)
  clear hb5 hb45 x1 x2 x3 x4 y1 y2 X4 Y4 R4 HR4 HLIT
  obtain ⟨x1, x2, x3, x4⟩ := X5.out
  obtain ⟨y1, y2⟩ := Y5.out
  have r1 := R5.out.cell (j := 0) rfl
  have r2 := R5.out.cell (j := 1) rfl
  have rf := R5.out.free
  by_cases hf : faultOf (rowsG j E) [u] = 0
  case neg =>
    have H4 : Hid (faultOf (rowsG j E) [u] = 4) := Lib.hid (by
      have := HFU.out
      rw [this] at hf ⊢
      unfold okErr at hf ⊢
      split
      · rename_i h; rw [if_pos h] at hf; exact absurd rfl hf
      · rfl)
    have HE : Hid (runErr e0 now T = 4) := Lib.hid (by rw [HE0.out]; unfold runErr onlyE; rw [if_pos rfl, if_neg hf, H4.out]; rfl)
    rw [H4.out]
    clear hf
    go_wp2_with fail
    have RZ := Lib.hid ((R5.out.same 0 (.slice none 0 0)).same 1 (.slice none 0 0))
    have BZ : Hid (Below w.heap.size w ((w5.setCell ⟨Br, 0, none⟩ (.slice none 0 0)).setCell ⟨Br, 1, none⟩ (.slice none 0 0))) := Lib.hid ((B5.out.setCell (by show w.heap.size ≤ Br; have := HBr.out; have := HBS.out; omega) _).setCell (by show w.heap.size ≤ Br; have := HBr.out; have := HBS.out; omega) _)
    generalize (w5.setCell ⟨Br, 0, none⟩ (.slice none 0 0)).setCell ⟨Br, 1, none⟩ (.slice none 0 0) = wz at *
    have q1 := RZ.out.cell (j := 0) rfl
    have q2 := RZ.out.cell (j := 1) rfl
    refine bodyPost_ret (v := .tuple #[.agg #[.slice none 0 0, .slice none 0 0], .int .i64 4]) (by simp [results, Tryd.results27, go_sem, q1, q2]) rfl ?_
    exact runPost_no (by rw [HE.out]; decide) (by rw [HE.out]) BZ.out
  have HEZ : Hid (e0 = 0) := Lib.hid (by rw [HE0.out]; unfold onlyE; rw [if_pos rfl, if_pos hf])
  have HSV : Hid (s = reachD (rowsG j E) u (-1) &&& staleS (rowsG j E) T p m d) := Lib.hid (by rw [HS0.out]; unfold onlyV; rw [if_pos rfl, if_pos hf])
  have HIR : Hid (InRows (rowsG j E) u) := Lib.hid ((faultOf_ok HGD.out.b64 (by intro x hx; rw [List.mem_singleton] at hx; rw [hx]; exact HU.out) hf).2 u (by simp))
  have HRB : Hid (B64 (reachD (rowsG j E) u (-1))) := Lib.hid ((reachD_in HGD.out HIR.out (-1)).b64 HGD.out)
  rw [hf]
  clear hf
  by_cases h1 : now < 0
  · have HE : Hid (runErr e0 now T = 4) := Lib.hid (by rw [HEZ.out]; unfold runErr nowBad; simp [h1])
    go_wp2_with fail
    have RZ := Lib.hid ((R5.out.same 0 (.slice none 0 0)).same 1 (.slice none 0 0))
    have BZ : Hid (Below w.heap.size w ((w5.setCell ⟨Br, 0, none⟩ (.slice none 0 0)).setCell ⟨Br, 1, none⟩ (.slice none 0 0))) := Lib.hid ((B5.out.setCell (by show w.heap.size ≤ Br; have := HBr.out; have := HBS.out; omega) _).setCell (by show w.heap.size ≤ Br; have := HBr.out; have := HBS.out; omega) _)
    generalize (w5.setCell ⟨Br, 0, none⟩ (.slice none 0 0)).setCell ⟨Br, 1, none⟩ (.slice none 0 0) = wz at *
    have q1 := RZ.out.cell (j := 0) rfl
    have q2 := RZ.out.cell (j := 1) rfl
    refine bodyPost_ret (v := .tuple #[.agg #[.slice none 0 0, .slice none 0 0], .int .i64 4]) (by simp [results, Tryd.results27, go_sem, q1, q2]) rfl ?_
    exact runPost_no (by rw [HE.out]; decide) (by rw [HE.out]) BZ.out
  by_cases h2 : 1099511627712 < now
  · have HE : Hid (runErr e0 now T = 4) := Lib.hid (by rw [HEZ.out]; unfold runErr nowBad; simp [h2])
    have h1' : ¬ now < 0 := h1
    go_wp2_with fail
    have RZ := Lib.hid ((R5.out.same 0 (.slice none 0 0)).same 1 (.slice none 0 0))
    have BZ : Hid (Below w.heap.size w ((w5.setCell ⟨Br, 0, none⟩ (.slice none 0 0)).setCell ⟨Br, 1, none⟩ (.slice none 0 0))) := Lib.hid ((B5.out.setCell (by show w.heap.size ≤ Br; have := HBr.out; have := HBS.out; omega) _).setCell (by show w.heap.size ≤ Br; have := HBr.out; have := HBS.out; omega) _)
    generalize (w5.setCell ⟨Br, 0, none⟩ (.slice none 0 0)).setCell ⟨Br, 1, none⟩ (.slice none 0 0) = wz at *
    have q1 := RZ.out.cell (j := 0) rfl
    have q2 := RZ.out.cell (j := 1) rfl
    refine bodyPost_ret (v := .tuple #[.agg #[.slice none 0 0, .slice none 0 0], .int .i64 4]) (by simp [results, Tryd.results27, go_sem, q1, q2]) rfl ?_
    exact runPost_no (by rw [HE.out]; decide) (by rw [HE.out]) BZ.out
  go_wp2_with fail
  go_loop [13, 44] (fun _ i => ∃ q : Nat, q ≤ j ∧ i = .int .i64 (q : Int) ∧ Hid (∀ (z : Nat) (t : Int), z < q → T[z]? = some t → late now t = false)) (fun _ i => j - (intOf i).toNat)
  case atStart => exact ⟨0, by omega, rfl, Lib.hid (fun z t hz => absurd hz (by omega))⟩
  case round =>
    obtain ⟨q, hq, rfl, hall⟩ := hrel
    by_cases hlt : q < j
    · obtain ⟨t, ht⟩ : ∃ t, T[q]? = some t := ⟨_, List.getElem?_eq_getElem (by rw [HS.out.tlen]; exact hlt)⟩
      obtain ⟨bT, oT, rfl, t1⟩ := (HS.out.at_.below B5.out).int (k := q) (by rw [HS.out.tlen]; exact hlt)
      rw [ht] at t1
      simp only [Option.getD_some] at t1
      have hq2 : (q : Int) < (j : Int) := by omega
      have HTQ := Lib.hid ht
      clear ht
      by_cases hlate : now ≤ t
      · have HE : Hid (runErr e0 now T = 4) := Lib.hid (by
          have ha : T.any (late now) = true := List.any_eq_true.2 ⟨t, List.mem_of_getElem? HTQ.out, decide_eq_true hlate⟩
          rw [HEZ.out]; unfold runErr nowBad; simp [ha])
        clear hall
        go_wp2_with fail
        have RZ := Lib.hid ((R5.out.same 0 (.slice none 0 0)).same 1 (.slice none 0 0))
        have BZ : Hid (Below w.heap.size w ((w5.setCell ⟨Br, 0, none⟩ (.slice none 0 0)).setCell ⟨Br, 1, none⟩ (.slice none 0 0))) := Lib.hid ((B5.out.setCell (by show w.heap.size ≤ Br; have := HBr.out; have := HBS.out; omega) _).setCell (by show w.heap.size ≤ Br; have := HBr.out; have := HBS.out; omega) _)
        generalize (w5.setCell ⟨Br, 0, none⟩ (.slice none 0 0)).setCell ⟨Br, 1, none⟩ (.slice none 0 0) = wz at *
        have q1 := RZ.out.cell (j := 0) rfl
        have q2 := RZ.out.cell (j := 1) rfl
        refine bodyPost_ret (v := .tuple #[.agg #[.slice none 0 0, .slice none 0 0], .int .i64 4]) (by simp [results, Tryd.results27, go_sem, q1, q2]) rfl ?_
        exact runPost_no (by rw [HE.out]; decide) (by rw [HE.out]) BZ.out
      · have HA : Hid (∀ (z : Nat) (t : Int), z < q + 1 → T[z]? = some t → late now t = false) := Lib.hid (fun z t' hz hzt => by
          rcases Nat.lt_or_ge z q with h | h
          · exact hall.out z t' h hzt
          · obtain rfl : z = q := by omega
            rw [HTQ.out] at hzt
            injection hzt with hzt
            rw [← hzt]; exact decide_eq_false hlate)
        clear hall
        go_wp2_with fail
        go_round
        case rel => exact ⟨q + 1, by omega, by go_num, HA⟩
        case measure => simp [intOf]; omega
    · obtain rfl : q = j := by omega
      have hqn : ¬ (q : Int) < (q : Int) := by omega
      have HE : Hid (runErr e0 now T = 0) := Lib.hid (by
        have ha : T.any (late now) = false := any_miss (fun z t hz => hall.out z t (by have := (List.getElem?_eq_some_iff.1 hz).1; rw [HS.out.tlen] at this; exact this) hz)
        rw [HEZ.out]; unfold runErr nowBad; simp [ha, h1, h2])
      have hnow : 0 ≤ now ∧ now ≤ 1099511627712 := by omega
      clear hall r1 r2 rf
      go_wp2_with fail
      refine (HAN.out w5 B5.out).mono ?_
      rintro e w6 ⟨rfl, hb6⟩
      have B6 := Lib.hid (below_then B5.out hb6)
      have Y6 := Lib.hid (Y5.out.below hb6)
      have R6 := Lib.hid (R5.out.below hb6 R5.out.lt)
      have HR6 := Lib.hid (HR5.out.below hb6)
      have HN6 : Hid (Br < w6.heap.size) := Lib.hid R6.out.lt
      clear hb6 x1 x2 x3 x4 y1 y2 X5 Y5 R5 HR5 HAN
      obtain ⟨y1, y2⟩ := Y6.out
      have han : bits .and .u64 (staleS (rowsG q E) T p m d : Nat) (reachD (rowsG q E) u (-1) : Nat) = ((s : Nat) : Int) := by rw [HSV.out, Nat.and_comm]; exact u64_and_nat _ _ HSB.out HRB.out
      go_wp2_with fail
      refine (rSteps_any (rowsG q E) u (-1) _ HR6.out HRL.out HGD.out HIR.out (by omega) (by omega)).mono ?_
      rintro e w' ⟨rfl, rfl⟩
      go_wp2_with (at_builtin; refine wpList_cat elI64 w6 _ _ w6.heap.size none 0 0 [] A3 q c3 (T.map (.int .i64)) (World.ownsRow_nil _ _ _ _) (HS.out.at_.below B6.out) (by rw [List.length_map]; exact HS.out.tlen) (iv_one T) (Nat.le_refl _) (by omega) (by omega) rfl rfl rfl rfl ?_; intro AT cT w7 hownT hb7)
      rw [Nat.zero_add, List.nil_append] at hownT
      have HOT7 := Lib.hid hownT
      have HB7 := Lib.hid hb7
      have HW8 := Lib.hid (below_new (Below.refl w7.heap.size w7) (.cells #[.slice none 0 0, .slice AT q cT] 58))
      have HM8 := Lib.hid (Blk.new w7 #[.slice none 0 0, .slice AT q cT] 58)
      have HS8 : Hid ((w7.alloc (.cells #[.slice none 0 0, .slice AT q cT] 58)).heap.size = w7.heap.size + 1) := Lib.hid (by simp)
      clear hownT hb7 y1 y2 Y6 han
      generalize w7.alloc (.cells #[.slice none 0 0, .slice AT q cT] 58) = w8 at *
      refine (rOrdered_any (c := cW) (rowsG q E) w8 ((HR6.out.below HB7.out).below HW8.out) HRL.out HGD.out).mono ?_
      rintro e w9 ⟨AO, cO, rfl, hownO, hb9⟩
      rw [HLO.out] at hownO
      rw [HLO.out]
      have B9 : Hid (Below w.heap.size w w9) := Lib.hid (below_then (below_then (below_then B6.out HB7.out) HW8.out) hb9)
      have HF : Hid (RunFix w6.heap.size w.heap.size w7.heap.size Br w9.heap.size q cT q cO AT AO) := Lib.hid (by
        have h6 := HN6.out
        have h7 := HB7.out.size
        have h8 := HS8.out
        have h9 := hb9.size
        have h10 := HBr.out
        have h11 := HBS.out
        refine ⟨by omega, h6, by omega, h7, by omega, fun g hg => ?_, fun g hg => ?_, fun g hg he => ?_⟩
        · have := HOT7.out.lt g hg; omega
        · have := hownO.lt g hg; omega
        · have h12 := HOT7.out.lt g hg
          have h13 := hownO.lt g he
          omega)
      have HREL : Hid (RunRel false w6.heap.size w.heap.size w7.heap.size Br w9.heap.size q cT q cO AT AO (ordL (rowsG q E)) now 0 none 0 ([], T) w9) := Lib.hid (by
        have h6 := HN6.out
        have h7 := HB7.out.size
        have h8 := HS8.out
        refine ⟨(fun h => by cases h), HM8.out.below hb9 (by omega), ((R6.out.below HB7.out h6).below HW8.out (by omega)).below hb9 (by omega), World.ownsRow_nil _ _ _ _, ?_, own_base hownO (by omega)⟩
        exact own_below (own_below HOT7.out HW8.out) hb9)
      have HWB : Hid (w.heap.size ≤ w6.heap.size ∧ w.heap.size ≤ Br) := Lib.hid ⟨B6.out.size, by have := HBr.out; have := HBS.out; omega⟩
      have HLB : Hid (w6.heap.size ≤ w7.heap.size ∧ w7.heap.size < w9.heap.size) := Lib.hid ⟨HF.out.mlo, HF.out.mb⟩
      have ne3 : Br ≠ w7.heap.size := by have := HF.out.r1; have := HF.out.mlo; omega
      clear hownO hb9 HB7 HW8 HM8 HS8 HOT7 HN6 R6 HR6
      generalize w7.heap.size = Bm at *
      generalize hLL : ordL (rowsG q E) = L at *
      clear hLL
      go_wp2_with fail
      go_loopw [17, 67] (fun _ i wr => ∃ r : Nat, r ≤ q ∧ i = .int .i64 (r : Int) ∧ ∃ k AR cR, k ≤ r ∧ Hid (RunRel false w6.heap.size w.heap.size Bm Br w9.heap.size q cT q cO AT AO L now k AR cR (runL s now T (L.take r)) wr) ∧ Hid ((runL s now T (L.take r)).1.length = k) ∧ Hid (Below w.heap.size w wr) ∧ Hid (w9.heap.size ≤ wr.heap.size)) (fun _ i _ => q - (intOf i).toNat)
      case atStart => exact ⟨0, by omega, rfl, 0, none, 0, by omega, Lib.hid (by rw [List.take_zero, runL_nil]; exact HREL.out), Lib.hid rfl, B9, Lib.hid (Nat.le_refl _)⟩
      case round =>
        obtain ⟨r, hr, rfl, k, AR, cR, hkr, hrl, hkl, hbw, hws⟩ := hrel
        by_cases hlt2 : r < q
        · obtain ⟨x, hx⟩ : ∃ x, L[r]? = some x := ⟨_, List.getElem?_eq_getElem (by rw [HLO.out]; exact hlt2)⟩
          have hxj := HX.out r x hx
          obtain ⟨gO, oO, rfl, o1⟩ := (Rd.of_own hrl.out.ord).at_ (k := r) (by rw [List.length_map, HLO.out]; exact hlt2)
          rw [List.getElem_map, (List.getElem?_eq_some_iff.1 hx).2] at o1
          obtain ⟨gT, rfl⟩ := own_eq_slice hrl.out.at_ (by omega)
          have t1 := (Rd.of_own hrl.out.at_).int (k := x) (by rw [runL_len, HS.out.tlen]; exact hxj)
          obtain ⟨_, _, hA, t1⟩ := t1
          injection hA with hA
          injection hA with hA1 hA2 _
          subst hA1 hA2
          rw [Nat.zero_add] at t1
          have tf := hrl.out.at_.frozenAt x
          have m1 := hrl.out.made.cell (j := 0) rfl
          have m2 := hrl.out.made.cell (j := 1) rfl
          have mf := hrl.out.made.free 0
          have HST : Hid (runL s now T (L.take (r + 1)) = runStep s now (runL s now T (L.take r)) x) := Lib.hid (runL_take hx)
          have HIN := Lib.hid (in_nat s HB64.out x)
          have hgT := HF.out.at_ gT rfl
          have ne4 : gT ≠ Bm := by omega
          have hq2 : (r : Int) < (q : Int) := by omega
          have hx2 : (x : Int) < (q : Int) := by omega
          have hk2 : k < 64 := by omega
          unfold nv at o1
          clear hx hgT
          cases hbt : s.testBit x with
          | true =>
            rw [hbt] at HIN
            have HNX : Hid (runL s now T (L.take (r + 1)) = ((runL s now T (L.take r)).1 ++ [x], (runL s now T (L.take r)).2.set x (now + k))) := Lib.hid (by rw [HST.out, runStep_in hbt, hkl.out])
            have HROW : Hid ((wr.setCell ⟨gT, x, none⟩ (.int .i64 (now + k))).ownsRow w9.heap.size 3 1 (.slice AR k cR) k ((runL s now T (L.take r)).1.map nv)) := Lib.hid (ownsRow_setCell_below hrl.out.row (a := ⟨gT, x, none⟩) (HF.out.at_ gT rfl).2.1 _)
            have hsz : w9.heap.size ≤ (wr.setCell ⟨gT, x, none⟩ (.int .i64 (now + k))).heap.size := by simpa [World.setCell] using hws.out
            have HSC : Hid ((wr.setCell ⟨gT, x, none⟩ (.int .i64 (now + k))).heap.size = wr.heap.size) := Lib.hid (by simp [World.setCell])
            have HT9 : Hid (∀ w9', Below w9.heap.size (wr.setCell ⟨gT, x, none⟩ (.int .i64 (now + k))) w9' → w9'.cell? ⟨Bm, 0, none⟩ = some (.slice AR k cR) ∧ w9'.frozen? ⟨Bm, 0, none⟩ = false) := Lib.hid (fun w9' hb9 => by
              have hm := (hrl.out.made.other (a := ⟨gT, x, none⟩) (by show Bm ≠ gT; omega) (.int .i64 (now + k))).below hb9 HF.out.mb
              exact ⟨hm.cell (j := 0) rfl, hm.free 0⟩)
            clear hbt
            go_wp2_with fail
            refine (HIN.out _).mono ?_
            rintro e w' ⟨rfl, rfl⟩
            go_wp2_with (at_builtin; refine wpList_push elInt (wr.setCell ⟨gT, x, none⟩ (.int .i64 (now + k))) _ _ w9.heap.size AR k cR _ (nv x) HROW.out rfl hsz (by omega) (by omega) rfl rfl rfl (by rw [HSC.out]; rfl) ?_; intro AR' cR' w10 hown10 hb10; obtain ⟨m3, mf10⟩ := HT9.out w10 hb10)
            have HR9 : Hid (RunRel false w6.heap.size w.heap.size Bm Br w9.heap.size q cT q cO (some ⟨gT, 0, none⟩) (some ⟨gO, oO, none⟩) L now (k + 1) AR' cR' (runL s now T (L.take (r + 1))) (w10.setCell ⟨Bm, 0, none⟩ (.slice AR' (k + 1) cR'))) := Lib.hid (by
              have := runRel_step2 HF.out hrl.out rfl (now + k) hb10 hown10
              rw [HNX.out]
              exact this)
            have HB9 : Hid (Below w.heap.size w (w10.setCell ⟨Bm, 0, none⟩ (.slice AR' (k + 1) cR'))) := Lib.hid (by
              have h1 := HWB.out.1
              have h2 := HLB.out
              have h3 := HF.out.at_ gT rfl
              have hb := (hbw.out.setCell (p := ⟨gT, x, none⟩) (by show w.heap.size ≤ gT; omega) (.int .i64 (now + k))).trans (hb10.mono (by omega))
              exact hb.setCell (by show w.heap.size ≤ Bm; omega) _)
            have HS9 : Hid (w9.heap.size ≤ (w10.setCell ⟨Bm, 0, none⟩ (.slice AR' (k + 1) cR')).heap.size) := Lib.hid (by have := hb10.size; simp [World.setCell] at this ⊢; have := hws.out; omega)
            have HL9 : Hid ((runL s now T (L.take (r + 1))).1.length = k + 1) := Lib.hid (by rw [HNX.out]; simp [hkl.out])
            clear hown10 hb10
            go_roundw
            case rel => exact ⟨r + 1, by omega, by go_num, k + 1, AR', cR', by omega, HR9, HL9, HB9, HS9⟩
            case measure => simp [intOf]; omega
          | false =>
            rw [hbt] at HIN
            have HNX : Hid (runL s now T (L.take (r + 1)) = runL s now T (L.take r)) := Lib.hid (by rw [HST.out, runStep_out hbt])
            clear hbt
            go_wp2_with fail
            refine (HIN.out _).mono ?_
            rintro e w' ⟨rfl, rfl⟩
            go_wp2_with fail
            go_roundw
            case rel => exact ⟨r + 1, by omega, by go_num, k, AR, cR, by omega, by rw [HNX.out]; exact hrl, by rw [HNX.out]; exact hkl, hbw, hws⟩
            case measure => simp [intOf]; omega
        · obtain rfl : r = q := by omega
          have hqn : ¬ (r : Int) < (r : Int) := by omega
          have m1 := hrl.out.made.cell (j := 0) rfl
          have m2 := hrl.out.made.cell (j := 1) rfl
          have r1 := hrl.out.res.cell (j := 0) rfl
          have r2 := hrl.out.res.cell (j := 1) rfl
          have rf := hrl.out.res.free
          have HTK : Hid (L.take r = L) := Lib.hid (List.take_of_length_le (by rw [HLO.out]; exact Nat.le_refl _))
          go_wp2_with fail
          have RZ := Lib.hid ((hrl.out.res.same 0 (.slice AR k cR)).same 1 (.slice AT r cT))
          have BZ : Hid (Below w.heap.size w ((wr.setCell ⟨Br, 0, none⟩ (.slice AR k cR)).setCell ⟨Br, 1, none⟩ (.slice AT r cT))) := Lib.hid ((hbw.out.setCell HWB.out.2 _).setCell HWB.out.2 _)
          have HA1 : Hid (Rd ((wr.setCell ⟨Br, 0, none⟩ (.slice AR k cR)).setCell ⟨Br, 1, none⟩ (.slice AT r cT)) AR ((runL s now T L).1.map nv)) := Lib.hid (by
            have h1 := HF.out.r1
            have h2 := HF.out.mlo
            have h3 := HF.out.mb
            have := Rd.of_own (ownsRow_setCell_below (ownsRow_setCell_below hrl.out.row (a := ⟨Br, 0, none⟩) (by show Br < w9.heap.size; omega) (.slice AR k cR)) (a := ⟨Br, 1, none⟩) (by show Br < w9.heap.size; omega) (.slice AT r cT))
            rwa [HTK.out] at this)
          have HA2 : Hid (Rd ((wr.setCell ⟨Br, 0, none⟩ (.slice AR k cR)).setCell ⟨Br, 1, none⟩ (.slice AT r cT)) AT ((runL s now T L).2.map (.int .i64))) := Lib.hid (by
            have h1 := HF.out.r1
            have := Rd.of_own (ownsRow_setCell_below (ownsRow_setCell_below hrl.out.at_ (a := ⟨Br, 0, none⟩) h1 (.slice AR k cR)) (a := ⟨Br, 1, none⟩) h1 (.slice AT r cT))
            rwa [HTK.out] at this)
          have HL1 : Hid ((runL s now T L).1.length = k) := Lib.hid (by have := hkl.out; rwa [HTK.out] at this)
          generalize (wr.setCell ⟨Br, 0, none⟩ (.slice AR k cR)).setCell ⟨Br, 1, none⟩ (.slice AT r cT) = wz at *
          have q1 := RZ.out.cell (j := 0) rfl
          have q2 := RZ.out.cell (j := 1) rfl
          refine bodyPost_ret (v := .tuple #[.agg #[.slice AR k cR, .slice AT r cT], .int .i64 0]) (by simp [results, Tryd.results27, go_sem, q1, q2]) rfl ?_
          rw [HE.out]
          exact ⟨AR, k, cR, AT, r, cT, rfl, HL1.out, by show (runL s now T L).2.length = r; rw [runL_len]; exact HS.out.tlen, HA1.out, HA2.out, BZ.out⟩
end
end Go.Proofs.YtiechbaknolimaaDoor
