/- The law NormTells, walked, under the contract of ruled. -/
import Derived.Test.YtcodncddaemhlaaDoorNormM
import Derived.Test.YtcodncddaemhlaaDoorNorm9
import Derived.Test.YtcodncddaemhlaaDoorNormR1
import Derived.Test.YtcodncddaemhlaaDoorAskR2
import Derived.Test.YtcodncddaemhlaaDoorFTab
import Derived.Test.YtcodncddaemhlaaDoorNormK7
import Derived.Lib.LaidTab
namespace Go.Proofs.YtcodncddaemhlaaDoor
open Go.RowKit

theorem okOf {x : AskT} (h : askE x = 0) : okA x ∧ sizeA x ≤ 60 := ⟨askE_okA h, askE_size h⟩
set_option maxRecDepth 100000 in
set_option maxHeartbeats 4000000 in
theorem normTells_of (HRU : RuledCon) (x : AskT) (A : Option Addr) (c : Nat) (w : World) (hA : AskAt w x A c) (hok : AskOk x) (hs : sizeA x ≤ 1152921504606846976) (hF : FTab w) (hT : NTab w) :
    Calls Tryd.prog 3 #[askV x A c] w fun e w' => e = .returned (.bool true) ∧ Below w.heap.size w w' := by
  obtain ⟨y, hy⟩ := boxA_new w (.int .i64 x.kind) (.string ⟨x.name.toArray⟩) (.int .i64 x.n) (.slice A x.X.length c) 24
  have Y := Lib.hid y
  have HY := Lib.hid hy
  have CN := Lib.hid (nNormT_any x A c _ (AskAt.keep hy _ _ _ hA) hok hs (hF.below hy) (hT.below hy))
  have CZ := Lib.hid (fun W (hb : Below w.heap.size w W) => nSizeT_any x A c W (AskAt.keep hb _ _ _ hA) hok hs (hF.below hb))
  have CA := Lib.hid (fun W (hb : Below w.heap.size w W) => rAskFault_any x A c W (AskAt.keep hb _ _ _ hA) hok hs)
  have CR := Lib.hid (fun (h : askE x = 0) W (hb : Below w.heap.size w W) => rNormal_of HRU (measR x + 1) x A c W (fun k => k < w.heap.size) (Nat.lt_succ_self _) (askP_below (AskP.of _ _ _ hA) hb) (okOf h).1 (okOf h).2)
  have CS := Lib.hid (fun W (hb : Below w.heap.size w W) => rSize_any x A c W (AskAt.keep hb _ _ _ hA) (by have := kids_size x; omega) hs)
  have HNE : Hid (askE x = 0 → normE x = normA x) := Lib.hid (fun h => by unfold normE; exact if_pos h)
  have HN0 : Hid (askE x ≠ 0 → normE x = .mk 0 [] 0 []) := Lib.hid (fun h => by unfold normE; exact if_neg h)
  have HNS : Hid (askE x = 0 → sizeA (normA x) ≤ 1152921504606846976) := Lib.hid (fun h => by have h1 := (norm_ok x (okOf h).1).2.2; omega)
  have HZ1 : Hid (askE x = 0 → (if askE x = 0 then sizeA x else 0) = sizeA x) := Lib.hid (fun h => if_pos h)
  have HZ0 : Hid (askE x ≠ 0 → (if askE x = 0 then sizeA x else 0) = 0) := Lib.hid (fun h => if_neg h)
  clear hA hok hs hF hT y hy
  unfold SizePost at CZ
  unfold NormTPost at CN
  unfold NormPost at CR
  generalize (if askE x = 0 then sizeA x else 0) = Z at *
  have SM := Lib.hid (fun (q : AskT) (A1 A2 : Option Addr) (c1 c2 : Nat) W (h1 : AskAt W q A1 c1) (h2 : AskAt W q A2 c2) (h3 : sizeA q ≤ 1152921504606846976) => rSame_any q A1 A2 c1 c2 W h1 h2 h3)
  generalize normE x = NE at *
  generalize normA x = NR at *
  unfold askV at *
  unfold CntPost at *
  unfold TruePost at SM
  generalize hbs : (⟨x.name.toArray⟩ : ByteArray) = bs at *
  clear hbs
  generalize askE x = E at *
  generalize sizeA x = sz at *
  generalize x.kind = xk at *
  generalize x.n = xn at *
  generalize x.X.length = xm at *
  go_enter Tryd.func3, Tryd.ntmps3
  go_upto_region 1 with fail
  generalize w.alloc (.cells #[.int .i64 xk, .string bs, .int .i64 xn, .slice A xm c] 24) = w1 at *
  obtain ⟨BX, hBX⟩ : ∃ BX, BX = w.heap.size := ⟨_, rfl⟩
  have HBXE := Lib.hid hBX
  rw [← hBX] at Y ⊢
  clear hBX
  by_cases h0 : E = 0
  · obtain rfl := HNE.out h0
    obtain rfl := HZ1.out h0
    subst h0
    have hns := HNS.out rfl
    have HNSS := Lib.hid hns
    have SM2 := Lib.hid (fun (A1 A2 : Option Addr) (c1 c2 : Nat) W (h1 : AskAt W NE A1 c1) (h2 : AskAt W NE A2 c2) => SM.out NE A1 A2 c1 c2 W h1 h2 hns)
    have CR2 := Lib.hid (fun W hb => CR.out rfl W hb)
    clear hns SM CR HNE HN0 HNS HZ1 HZ0
    generalize (⟨NE.name.toArray⟩ : ByteArray) = yn at *
    generalize NE.kind = yk at *
    generalize NE.n = ynn at *
    generalize NE.X.length = yl at *
    obtain ⟨y1, y2, y3, y4⟩ := Y.out
    go_wp2_with fail
    refine CN.out.mono ?_
    rintro e w2 ⟨A2, c2, rfl, hat2, hb2⟩
    have HB2 := Lib.hid (below_newA HY.out hb2)
    have Y2 := Lib.hid (Y.out.below hb2)
    obtain ⟨u, hu⟩ := boxA_new w2 (.int .i64 yk) (.string yn) (.int .i64 ynn) (.slice A2 yl c2) 24
    have U := Lib.hid u
    have HB3 := Lib.hid (below_newA HB2.out hu)
    have Y3 := Lib.hid (Y2.out.below hu)
    have HAT := Lib.hid (AskAt.keep hu _ _ _ hat2)
    clear hat2 hb2 u hu y1 y2 y3 y4 CN
    go_upto_region 2 with fail
    generalize w2.alloc (.cells #[.int .i64 yk, .string yn, .int .i64 ynn, .slice A2 yl c2] 24) = w3 at *
    generalize w2.heap.size = BY at *
    obtain ⟨y1, y2, y3, y4⟩ := Y3.out
    have CZ2 := Lib.hid (CZ.out w3 HB3.out)
    go_wp2_with fail
    refine CZ2.out.mono ?_
    rintro e w4 ⟨rfl, hb4⟩
    have HB4 := Lib.hid (below_newA HB3.out hb4)
    have Y4 := Lib.hid (Y3.out.below hb4)
    have U4 := Lib.hid (U.out.below hb4)
    have HAT4 := Lib.hid (AskAt.keep hb4 _ _ _ HAT.out)
    clear hb4 y1 y2 y3 y4 CZ CZ2
    obtain ⟨y1, y2, y3, y4⟩ := Y4.out
    have CA2 := Lib.hid (CA.out w4 HB4.out)
    go_upto_region 3 with fail
    go_wp2_with fail
    refine CA2.out.mono ?_
    rintro e w5 ⟨rfl, hb5⟩
    have HB5 := Lib.hid (below_newA HB4.out hb5)
    have Y5 := Lib.hid (Y4.out.below hb5)
    have U5 := Lib.hid (U4.out.below hb5)
    have HAT5 := Lib.hid (AskAt.keep hb5 _ _ _ HAT4.out)
    clear hb5 y1 y2 y3 y4 CA CA2 Y Y2 Y3 Y4 U U4 HAT HAT4 HB2 HB3 HB4
    have CR3 := Lib.hid (fun W (hW : Below w5.heap.size w5 W) => CR2.out W (below_newA HB5.out hW))
    have CS3 := Lib.hid (fun W (hW : Below w5.heap.size w5 W) => CS.out W (below_newA HB5.out hW))
    have HSL := Lib.hid (fun W (hW : Below w5.heap.size w5 W) => (⟨(Y5.out.below hW).c1, (Y5.out.below hW).c2, (Y5.out.below hW).c3, (Y5.out.below hW).c4, (U5.out.below hW).c1, (U5.out.below hW).c2, (U5.out.below hW).c3, (U5.out.below hW).c4, hW⟩ : W.cell? ⟨BX, 0, none⟩ = some (.int .i64 xk) ∧ W.cell? ⟨BX, 1, none⟩ = some (.string bs) ∧ W.cell? ⟨BX, 2, none⟩ = some (.int .i64 xn) ∧ W.cell? ⟨BX, 3, none⟩ = some (.slice A xm c) ∧ W.cell? ⟨BY, 0, none⟩ = some (.int .i64 yk) ∧ W.cell? ⟨BY, 1, none⟩ = some (.string yn) ∧ W.cell? ⟨BY, 2, none⟩ = some (.int .i64 ynn) ∧ W.cell? ⟨BY, 3, none⟩ = some (.slice A2 yl c2) ∧ Below w5.heap.size w5 W))
    go_upto_region 6 with fail
    obtain ⟨y1, y2, y3, y4⟩ := Y5.out
    obtain ⟨u1, u2, u3, u4⟩ := U5.out
    have b0 := Below.refl w5.heap.size w5
    have bd : Below w5.heap.size w5 w5.drew := Below.drew b0
    go_cut [2] (fun s2 wx => s2 = .bool true ∧ Below w5.heap.size w5 wx)
    case first =>
      go_region_held3 (fun W => W.cell? ⟨BX, 0, none⟩ = some (.int .i64 xk) ∧ W.cell? ⟨BX, 1, none⟩ = some (.string bs) ∧ W.cell? ⟨BX, 2, none⟩ = some (.int .i64 xn) ∧ W.cell? ⟨BX, 3, none⟩ = some (.slice A xm c) ∧ W.cell? ⟨BY, 0, none⟩ = some (.int .i64 yk) ∧ W.cell? ⟨BY, 1, none⟩ = some (.string yn) ∧ W.cell? ⟨BY, 2, none⟩ = some (.int .i64 ynn) ∧ W.cell? ⟨BY, 3, none⟩ = some (.slice A2 yl c2) ∧ Below w5.heap.size w5 W)
        ((refine HSL.out _ ?_; first | assumption | exact Below.drew (by assumption)))
        ((first
          | (go_at_call 9; (with_reducible refine (CR3.out _ (by first | assumption | exact Below.drew (by assumption))).mono ?_); rintro e u7 ⟨A7, c7, rfl, hp7, h7⟩; have hat7 := AskP.at_ _ _ _ hp7; have b7 := below_then (by first | assumption | exact Below.drew (by assumption)) h7)
          | (go_at_call 8; (with_reducible refine (SM2.out A2 A7 c2 c7 _ (AskAt.keep (by assumption) _ _ _ HAT5.out) (by first | assumption | exact AskAt.keep (by assumption) _ _ _ hat7)).mono ?_); rintro e u8 ⟨rfl, h8⟩; have b8 := below_then (by first | assumption | exact Below.drew (by assumption)) h8)
          | (go_at_call 10; (with_reducible refine (CS3.out _ (by first | assumption | exact Below.drew (by assumption))).mono ?_); rintro e u9 ⟨rfl, h9⟩; have b9 := below_then (by first | assumption | exact Below.drew (by assumption)) h9)))
      all_goals
        go_wp2_with fail
        go_meet
        exact ⟨congrArg Value.bool (by simp), by first | assumption | exact Below.drew (by assumption)⟩
    case rest =>
      obtain ⟨rfl, hb9⟩ := hcut
      have HB9 := Lib.hid (below_newA HB5.out hb9)
      clear hb9 y1 y2 y3 y4 u1 u2 u3 u4 b0 bd
      generalize hw9 : wc = w9 at *
      clear hw9
      go_wp2_with fail
      go_ret
      exact ⟨rfl, HB9.out⟩
  · have hne : (((E : Nat) : Int) != 0) = true := by simp; omega
    obtain rfl := HN0.out h0
    obtain rfl := HZ0.out h0
    have SM2 := Lib.hid (fun (A1 A2 : Option Addr) (c1 c2 : Nat) W (h1 : AskAt W (.mk 0 [] 0 []) A1 c1) (h2 : AskAt W (.mk 0 [] 0 []) A2 c2) => SM.out (.mk 0 [] 0 []) A1 A2 c1 c2 W h1 h2 (by rw [sizeA_mk]; simp))
    simp only [AskT.kind, AskT.name, AskT.n, AskT.X, List.length_nil] at SM2 CN
    clear SM CR CS HNE HN0 HNS HZ1 HZ0
    have ez : (⟨([] : List UInt8).toArray⟩ : ByteArray) = ⟨#[]⟩ := rfl
    rw [ez] at SM2 CN
    clear ez
    obtain ⟨y1, y2, y3, y4⟩ := Y.out
    go_wp2_with fail
    refine CN.out.mono ?_
    rintro e w2 ⟨A2, c2, rfl, hat2, hb2⟩
    have HB2 := Lib.hid (below_newA HY.out hb2)
    have Y2 := Lib.hid (Y.out.below hb2)
    obtain ⟨u, hu⟩ := boxA_new w2 (.int .i64 0) (.string ⟨#[]⟩) (.int .i64 0) (.slice A2 0 c2) 24
    have U := Lib.hid u
    have HB3 := Lib.hid (below_newA HB2.out hu)
    have Y3 := Lib.hid (Y2.out.below hu)
    have HAT := Lib.hid (AskAt.keep hu _ _ _ hat2)
    clear hat2 hb2 u hu y1 y2 y3 y4 CN
    go_upto_region 2 with fail
    generalize w2.alloc (.cells #[.int .i64 0, .string ⟨#[]⟩, .int .i64 0, .slice A2 0 c2] 24) = w3 at *
    generalize w2.heap.size = BY at *
    obtain ⟨y1, y2, y3, y4⟩ := Y3.out
    have CZ2 := Lib.hid (CZ.out w3 HB3.out)
    go_wp2_with fail
    refine CZ2.out.mono ?_
    rintro e w4 ⟨rfl, hb4⟩
    have HB4 := Lib.hid (below_newA HB3.out hb4)
    have Y4 := Lib.hid (Y3.out.below hb4)
    have U4 := Lib.hid (U.out.below hb4)
    have HAT4 := Lib.hid (AskAt.keep hb4 _ _ _ HAT.out)
    clear hb4 y1 y2 y3 y4 CZ CZ2
    obtain ⟨y1, y2, y3, y4⟩ := Y4.out
    have CA2 := Lib.hid (CA.out w4 HB4.out)
    go_upto_region 3 with fail
    go_wp2_with fail
    refine CA2.out.mono ?_
    rintro e w5 ⟨rfl, hb5⟩
    have HB5 := Lib.hid (below_newA HB4.out hb5)
    have U5 := Lib.hid (U4.out.below hb5)
    have SM3 := Lib.hid (SM2.out A2 none c2 0 w5 (AskAt.keep hb5 _ _ _ HAT4.out) (AskP.at_ _ _ _ (askP_nil (ok := fun _ => True) _ _ _)))
    clear hb5 y1 y2 y3 y4 CA CA2
    obtain ⟨u1, u2, u3, u4⟩ := U5.out
    go_wp2_with fail
    refine SM3.out.mono ?_
    rintro e w6 ⟨rfl, hb6⟩
    have HB6 := Lib.hid (below_newA HB5.out hb6)
    clear hb6 u1 u2 u3 u4
    go_wp2_with fail
    go_ret
    exact ⟨ret_bool (by simp), HB6.out⟩
end Go.Proofs.YtcodncddaemhlaaDoor
/- The tables that a text of an ask reads, out of what the row lays; the law NormTells walked. No condition. -/
namespace Go.Proofs.YtcodncddaemhlaaDoor
open Go.RowKit Go.WideShapes Go.ChangeShapes

/-- A laid array of strings holds them, cell for cell. -/
theorem cells_of_strs {H : Type} {enc : TypeId × Value → H} {P : Program} {w : World} {base : Nat} {sp : Nat → Bool} {held : Bool} {fuel : Nat} {t e : TypeId} {n : Nat} {cs : List Value} {ss : List (List UInt8)} {p : List MemPlace}
    (ht : P.underlying t = some (.array n e)) (he : P.underlying e = some .string) (hce : P.cellsOf e = 1) (hct : P.cellsOf t = n)
    (h : DataW.trod enc P w base sp held fuel t cs = some (.agg (ss.map fun s => .lit (.string s)), p)) : cs = ss.map sv := by
  cases fuel with
  | zero => simp [DataW.trod] at h
  | succ fuel =>
    simp only [DataW.trod, ht, hce, hct, Nat.mul_one] at h
    split at h
    · rename_i hl
      obtain ⟨xs, hm, hx⟩ := Option.map_eq_some_iff.1 h
      have hxs : xs.map (·.1) = ss.map fun s => (DataW.lit (.string s) : DataW H) := by simpa using congrArg Prod.fst hx
      have hxl : xs.length = n := by simpa using Lib.mapM_length hm
      have hsl : ss.length = n := by
        have := congrArg List.length hxs
        simp at this
        omega
      apply List.ext_getElem?
      intro i
      by_cases hi : i < n
      · obtain ⟨b, hb, hf⟩ := Lib.mapM_at hm i i (by simp [hi])
        obtain ⟨q, hc, rfl, _⟩ := DataW.trod_string he hf
        have h1 : cs[i]? = some (.string q) := by
          have := congrArg (·[0]?) hc
          simpa [List.getElem?_take, List.getElem?_drop] using this
        have h2 : (xs.map (·.1))[i]? = some (DataW.lit (.string q.data.toList) : DataW H) := by simp [hb]
        rw [hxs] at h2
        simp only [List.getElem?_map, Option.map_eq_some_iff, DataW.lit.injEq, Lit.string.injEq] at h2
        obtain ⟨s, hs, rfl⟩ := h2
        rw [List.getElem?_map, hs, h1]
        rfl
      · rw [List.getElem?_eq_none (by omega), List.getElem?_eq_none (by simp; omega)]
    · cases h
theorem strs_of_head {P : Program} {W : World} {name : String} {ss : List (List UInt8)} {rest : List (String × DataW Unit)} {g : Nat} {t e : TypeId} {n : Nat}
    (hg : P.globalNamed name = some g) (hty : (P.globals[g]?).map (·.type) = some t) (ht : P.underlying t = some (.array n e)) (he : P.underlying e = some .string) (hce : P.cellsOf e = 1) (hct : P.cellsOf t = n)
    (h : laidMet P ((name, .agg (ss.map fun s => .lit (.string s))) :: rest) W) (i : Nat) : W.cell? ⟨g, i, none⟩ = (ss[i]?).map sv := by
  obtain ⟨ps, ⟨g', t', cs, fuel, p, q, hg', ht', hvar, hd, _, _⟩, _⟩ := h
  obtain rfl := Option.some.inj (hg.symm.trans hg')
  obtain rfl := Option.some.inj (hty.symm.trans ht')
  have hcs := cells_of_strs ht he hce hct hd
  rw [World.var?_cell hg hvar i, ← Array.getElem?_toList, hcs, List.getElem?_map]
theorem gKinds : Tryd.prog.globalNamed "millwright/ask.kinds" = some 1 := by kernel_rfl
theorem gKindsType : (Tryd.prog.globals[1]?).map (·.type) = some 126 := by kernel_rfl
theorem cellsKinds : Tryd.prog.cellsOf 126 = 4 := by kernel_rfl
theorem gP10 : Tryd.prog.globalNamed "internal/strconv.uint64pow10" = some 5 := by kernel_rfl
theorem gP10Type : (Tryd.prog.globals[5]?).map (·.type) = some 154 := by kernel_rfl
theorem cellsP10 : Tryd.prog.cellsOf 154 = 20 := by kernel_rfl
theorem cellsU64 : Tryd.prog.cellsOf 74 = 1 := by kernel_rfl
def p10L : List Int := [1, 10, 100, 1000, 10000, 100000, 1000000, 10000000, 100000000, 1000000000, 10000000000, 100000000000, 1000000000000, 10000000000000, 100000000000000, 1000000000000000, 10000000000000000, 100000000000000000, 1000000000000000000, 10000000000000000000]
theorem p10_lit : Lib.pow10Tab = p10L := by decide
theorem p10_of {W : World} {rest : List (String × DataW Unit)} (h : laidMet Tryd.prog (("internal/strconv.uint64pow10", Lib.tabData .u64 p10L) :: rest) W) : Lib.TabIs Tryd.prog W "internal/strconv.uint64pow10" .u64 Lib.pow10Tab := by
  rw [p10_lit]
  exact Lib.tabIs_of_head (rest := rest) gP10 gP10Type Tryd.underlying154 Tryd.underlying74 cellsU64 cellsP10 h
def kindsL : List (List UInt8) := [[], [109, 97, 100, 101], [112, 104, 111, 110, 121], [112, 108, 97, 105, 110]]
theorem kinds_of {W : World} {rest : List (String × DataW Unit)} (h : laidMet Tryd.prog (("millwright/ask.kinds", .agg (kindsL.map fun s => .lit (.string s))) :: rest) W) (i : Nat) : W.cell? ⟨1, i, none⟩ = (kindsL[i]?).map sv :=
  strs_of_head gKinds gKindsType Tryd.underlying126 Tryd.underlying9 cellsFS cellsKinds h i
theorem nTab_of {W : World} {r1 r2 : List (String × DataW Unit)} (hf : FTab W) (h1 : laidMet Tryd.prog (("internal/strconv.uint64pow10", Lib.tabData .u64 p10L) :: r1) W) (h2 : laidMet Tryd.prog (("millwright/ask.kinds", .agg (kindsL.map fun s => .lit (.string s))) :: r2) W) : NTab W :=
  ⟨hf, kinds_of h2 1, kinds_of h2 2, kinds_of h2 3, p10_of h1⟩
/-- The law, walked. -/
theorem normTells_walk (x : AskT) (A : Option Addr) (c : Nat) (w : World) (hA : AskAt w x A c) (hok : AskOk x) (hs : sizeA x ≤ 1152921504606846976) (hF : FTab w) (hT : NTab w) :
    Calls Tryd.prog 3 #[askV x A c] w fun e w' => e = .returned (.bool true) ∧ Below w.heap.size w w' := normTells_of rRuled_any x A c w hA hok hs hF hT
end Go.Proofs.YtcodncddaemhlaaDoor
