/- Contract: the reference's GraphFault. As graph.Check. -/
import Derived.Test.YtoandhhkmkgmaaaGreatDoorGr3
namespace Go.Proofs.YtoandhhkmkgmaaaGreatDoor
open Go.RowKit

theorem ge_sv (x y : List UInt8) : Op.bytesLess (⟨x.toArray⟩ : ByteArray).toList (⟨y.toArray⟩ : ByteArray).toList = ltS x y := less_sv x y
theorem sets_out {s n j : Nat} (hs : B64 s) (hn : n ≤ 64) (hj : n ≤ j) (hb : s.testBit j = true) : minus s (upTo n) ≠ 0 := fun h => by
  have : inU n s = true := by unfold inU; exact decide_eq_true h
  have := (inU_iff hn hs).1 this j hb
  omega
theorem sets_in {s n : Nat} (hs : B64 s) (hn : n ≤ 64) (h : ∀ j, n ≤ j → j < 64 → s.testBit j = false) : minus s (upTo n) = 0 := by
  have : inU n s = true := (inU_iff hn hs).2 fun j hj => by
    rcases Nat.lt_or_ge j n with h1 | h1
    · exact h1
    · rw [h j h1 (hs.bit hj)] at hj; cases hj
  unfold inU at this
  exact of_decide_eq_true this
theorem edge_ways2 (a1 a2 d1 d2 : Int) : (edgeLt (a1, a2) (d1, d2) = false ∧ decide (d1 < a1) = true) ∨ (edgeLt (a1, a2) (d1, d2) = false ∧ decide (d1 < a1) = false ∧ (a1 == d1) = true ∧ decide (d2 ≤ a2) = true) ∨
    (edgeLt (a1, a2) (d1, d2) = true ∧ decide (d1 < a1) = false ∧ (a1 == d1) = false) ∨ (edgeLt (a1, a2) (d1, d2) = true ∧ decide (d1 < a1) = false ∧ (a1 == d1) = true ∧ decide (d2 ≤ a2) = false) := by
  unfold edgeLt
  simp only [decide_eq_true_eq, decide_eq_false_iff_not, beq_iff_eq, beq_eq_false_iff_ne]
  omega
section
variable {A1 A2 : Option Addr} {n k c1 c2 : Nat} {N : List (List UInt8)} {E : List EdgeT} {p m : Nat} (w : World) (hG : GrIn A1 n A2 k N E p m w)
include hG
set_option maxHeartbeats 4000000 in
theorem rGraphFault_any : Calls Tryz.prog 19 #[gv A1 n c1 A2 k c2 p m] w fun e w' => e = .returned (.int .i64 (grErr N E p m)) ∧ Below w.heap.size w w' := by
  have HG := Lib.hid hG
  have hnb := hG.nb
  have hkb := hG.eb
  have HN := Lib.hid hG.nlen
  clear hG
  unfold gv
  obtain ⟨x1, x2, x3, x4, x5⟩ := box_four w (.slice A1 n c1) (.slice A2 k c2) (.int .u64 (p : Int)) (.int .u64 (m : Int)) 43
  go_enter Tryz.func19, Tryz.ntmps19
  by_cases h1 : 64 < n
  · have HE : Hid (2 = grErr N E p m) := Lib.hid (grErr_2 HN.out E p m h1).symm
    have h1' : (64 : Int) < (n : Int) := by omega
    go_wp2_with fail
    go_ret
    exact ⟨ret_int HE.out, x5⟩
  have h1' : ¬ (64 : Int) < (n : Int) := by omega
  have HG1 := Lib.hid (HG.out.below x5)
  have B1 := Lib.hid x5
  have X1 := Lib.hid (GrBox.mk x1 x2 x3 x4)
  go_wp2_with fail
  generalize w.alloc (.cells #[.slice A1 n c1, .slice A2 k c2, .int .u64 (p : Int), .int .u64 (m : Int)] 43) = w1 at *
  clear x5
  refine (goodNames_any N w1 HG1.out.names HG1.out.nlen (by omega) HG1.out.strs).mono ?_
  rintro e w' ⟨rfl, rfl⟩
  by_cases h2 : N.all goodName = false
  · have HE : Hid (3 = grErr N E p m) := Lib.hid (grErr_3 HN.out E p m h1 h2).symm
    rw [h2]
    clear h2
    go_wp2_with fail
    go_ret
    exact ⟨ret_int HE.out, B1.out⟩
  rw [show N.all goodName = true by simpa using h2]
  have H2 := Lib.hid h2
  clear h2 x1 x2 x3 x4
  go_wp2_with fail
  go_loopw [4] (fun i wr => ∃ q : Nat, q ≤ n - 1 ∧ i = .int .i64 ((q + 1 : Nat) : Int) ∧ Hid (∀ j, j < q → stepB ltS N j = true) ∧ Hid (Below w1.heap.size w1 wr)) (fun i _ => n + 1 - (intOf i).toNat)
  case atStart => exact ⟨0, by omega, rfl, Lib.hid (fun j hj => absurd hj (by omega)), Lib.hid (Below.refl _ _)⟩
  case round =>
    obtain ⟨q, hq, rfl, hall, hbw⟩ := hrel
    have B4 := Lib.hid (below_then B1.out hbw.out)
    have HGr := Lib.hid (HG1.out.below hbw.out)
    have X4 := Lib.hid (X1.out.below hbw.out)
    by_cases hlt : q + 1 < n
    · obtain ⟨x, hx⟩ : ∃ x, N[q]? = some x := ⟨_, List.getElem?_eq_getElem (by rw [HN.out]; omega)⟩
      obtain ⟨y, hy⟩ : ∃ y, N[q + 1]? = some y := ⟨_, List.getElem?_eq_getElem (by rw [HN.out]; omega)⟩
      obtain ⟨b, off, rfl, y1⟩ := (HG1.out.names.below hbw.out).scell hx
      obtain ⟨b', off', hA, y2⟩ := (HG1.out.names.below hbw.out).scell hy
      injection hA with hA
      injection hA with hA1 hA2 _
      subst hA1 hA2
      have HX := Lib.hid hx
      have HY := Lib.hid hy
      have hg := less_sv x y
      have HB := Lib.hid (fun o => below_drewN hbw.out o)
      have HB4 := Lib.hid (fun o => below_drewN B4.out o)
      clear hx hy hbw
      generalize (⟨x.toArray⟩ : ByteArray) = bx at *
      generalize (⟨y.toArray⟩ : ByteArray) = by' at *
      obtain ⟨x1, x2, x3, x4⟩ := X4.out
      have f1 : (0 : Int) ≤ (q : Int) := by omega
      have f2 : (q : Int) < (n : Int) := by omega
      have f3 : (0 : Int) ≤ (q : Int) + 1 := by omega
      have f4 : (q : Int) + 1 < (n : Int) := by omega
      have f5 : IntKind.i64.wrap ((q : Int) + 1 - 1) = (q : Int) := by rw [IntKind.wrap_i64]; omega
      have f6 : ((q : Int) + 1 - 1) = (q : Int) := by omega
      cases hq3 : ltS x y with
      | true =>
        have hg2 : Op.bytesLess bx.toList by'.toList = true := by rw [hg]; exact hq3
        have HA : Hid (∀ j, j < q + 1 → stepB ltS N j = true) := Lib.hid (fun j hj => by
          rcases Nat.lt_or_ge j q with h | h
          · exact hall.out j h
          · obtain rfl : j = q := by omega
            rw [stepB_at HX.out HY.out]; exact hq3)
        clear hq3 hall hg
        go_wp2_with fail
        go_quiet (fail)
        go_wp2_with fail
        go_roundw
        case rel => exact ⟨q + 1, by omega, by go_num, HA, Lib.hid (HB.out _)⟩
        case measure => simp [intOf]; omega
      | false =>
        have hg2 : Op.bytesLess bx.toList by'.toList = false := by rw [hg]; exact hq3
        have HA : Hid (risesB ltS N = false) := Lib.hid (risS_no HX.out HY.out hq3)
        have HE : Hid (3 = grErr N E p m) := Lib.hid (grErr_3a HN.out E p m h1 H2.out HA.out).symm
        clear hq3 hall hg
        go_wp2_with fail
        go_quiet (fail)
        go_wp2_with fail
        go_ret
        exact ⟨ret_int HE.out, HB4.out _⟩
    · have H3 : Hid (¬ risesB ltS N = false) := Lib.hid (by rw [rises_yes fun i hi => hall.out i (by have := HN.out; omega)]; simp)
      have HG3 := HGr
      have B3 := B4
      have X3 := X4
      have hge : ¬ (q : Int) + 1 < (n : Int) := by omega
      clear hall hbw HG1 B1 X1 HGr B4 X4
      obtain ⟨x1, x2, x3, x4⟩ := X3.out
      generalize wr = w3 at *
      go_wp2_with fail
      go_loopw [6, 40] (fun _ i wr => ∃ q : Nat, q ≤ k ∧ i = .int .i64 (q : Int) ∧ Hid (∀ (j : Nat) (e : EdgeT), j < q → E[j]? = some e → edgeOut n e = false) ∧ Hid (Below w3.heap.size w3 wr)) (fun _ i _ => k - (intOf i).toNat)
      case atStart => exact ⟨0, by omega, rfl, Lib.hid (fun j e hj => absurd hj (by omega)), Lib.hid (Below.refl _ _)⟩
      case round =>
        clear x1 x2 x3 x4 hge hlt hq
        obtain ⟨q, hq, rfl, hall, hbw⟩ := hrel
        have B4 := Lib.hid (below_then B3.out hbw.out)
        by_cases hlt : q < k
        · obtain ⟨⟨e1, e2⟩, he⟩ : ∃ e, E[q]? = some e := ⟨_, List.getElem?_eq_getElem (by rw [HG3.out.elen]; exact hlt)⟩
          obtain ⟨b, off, rfl, y1, y2⟩ := (HG3.out.edges.below hbw.out).edge he
          simp only at y1 y2
          have HB := Lib.hid (fun o => below_new hbw.out o)
          have HB4 := Lib.hid (fun o => below_new B4.out o)
          have HEe := Lib.hid he
          have hq2 : (q : Int) < (k : Int) := by omega
          clear he hbw
          rcases edge_ways n e1 e2 with ⟨ho, g1⟩ | ⟨ho, g1, g2⟩ | ⟨ho, g1, g2, g3⟩ | ⟨ho, g1, g2, g3, g4⟩ | ⟨ho, g1, g2, g3, g4⟩
          case inr.inr.inr.inr =>
            have HA : Hid (∀ (j : Nat) (e : EdgeT), j < q + 1 → E[j]? = some e → edgeOut n e = false) := Lib.hid (fun j e hj hje => by
              rcases Nat.lt_or_ge j q with h | h
              · exact hall.out j e h hje
              · obtain rfl : j = q := by omega
                rw [HEe.out] at hje
                injection hje with hje
                rw [← hje]; exact ho)
            clear ho hall
            go_wp2_with fail
            go_roundw
            case rel => exact ⟨q + 1, by omega, by go_num, HA, Lib.hid (HB.out _)⟩
            case measure => simp [intOf]; omega
          all_goals
            have HE : Hid (4 = grErr N E p m) := Lib.hid (grErr_4 HN.out p m h1 H2.out H3.out (edgeOut_any HEe.out ho)).symm
            clear ho hall
            go_wp2_with fail
            go_ret
            exact ⟨ret_int HE.out, HB4.out _⟩
        · have HA : Hid (E.any (edgeOut n) = false) := Lib.hid (edge_take hall.out (by rw [HG3.out.elen]; omega))
          have HG4 := Lib.hid (HG3.out.below hbw.out)
          have X4 := Lib.hid (X3.out.below hbw.out)
          have hqk : ¬ (q : Int) < (k : Int) := by omega
          clear hall hbw X3 HG3 hq hlt
          obtain ⟨x1, x2, x3, x4⟩ := X4.out
          generalize wr = w4 at *
          go_wp2_with fail
          go_loopw [7, 8, 9] (fun i _ _ wr => ∃ q : Nat, q ≤ k - 1 ∧ i = .int .i64 ((q + 1 : Nat) : Int) ∧ Hid (∀ j, j < q → stepB edgeLt E j = true) ∧ Hid (Below w4.heap.size w4 wr)) (fun i _ _ _ => k + 1 - (intOf i).toNat)
          case atStart => exact ⟨0, by omega, rfl, Lib.hid (fun j hj => absurd hj (by omega)), Lib.hid (Below.refl _ _)⟩
          case round =>
            clear x1 x2 x3 x4 hqk
            obtain ⟨q, hq, rfl, hall, hbw⟩ := hrel
            have B5 := Lib.hid (below_then B4.out hbw.out)
            have HG5 := Lib.hid (HG4.out.below hbw.out)
            have X5 := Lib.hid (X4.out.below hbw.out)
            by_cases hlt : q + 1 < k
            · obtain ⟨⟨a1, a2⟩, hx⟩ : ∃ x, E[q]? = some x := ⟨_, List.getElem?_eq_getElem (by rw [HG4.out.elen]; omega)⟩
              obtain ⟨⟨d1, d2⟩, hy⟩ : ∃ y, E[q + 1]? = some y := ⟨_, List.getElem?_eq_getElem (by rw [HG4.out.elen]; omega)⟩
              obtain ⟨b, off, rfl, y1, y2⟩ := HG5.out.edges.edge hx
              obtain ⟨b', off', hA, y3, y4⟩ := HG5.out.edges.edge hy
              injection hA with hA
              injection hA with hA1 hA2 _
              subst hA1 hA2
              simp only at y1 y2 y3 y4
              have HX := Lib.hid hx
              have HY := Lib.hid hy
              have HB := Lib.hid hbw.out
              clear hx hy hbw
              obtain ⟨x1, x2, x3, x4⟩ := X5.out
              have f1 : (0 : Int) ≤ (q : Int) := by omega
              have f2 : (q : Int) < (k : Int) := by omega
              have f3 : (0 : Int) ≤ (q : Int) + 1 := by omega
              have f4 : (q : Int) + 1 < (k : Int) := by omega
              have f5 : IntKind.i64.wrap ((q : Int) + 1 - 1) = (q : Int) := by rw [IntKind.wrap_i64]; omega
              have f6 : ((q : Int) + 1 - 1) = (q : Int) := by omega
              have f7 : IntKind.i64.wrap (q : Int) = (q : Int) := by rw [IntKind.wrap_i64]; omega
              have u2 := fun o => cell_alloc x2 o
              have u3 := fun o => cell_alloc y1 o
              have u4 := fun o => cell_alloc y2 o
              have u5 := fun o => cell_alloc y3 o
              have u6 := fun o => cell_alloc y4 o
              have z2 := fun o o' => cell_alloc (cell_alloc x2 o) o'
              have z3 := fun o o' => cell_alloc (cell_alloc y1 o) o'
              have z4 := fun o o' => cell_alloc (cell_alloc y2 o) o'
              have z5 := fun o o' => cell_alloc (cell_alloc y3 o) o'
              have z6 := fun o o' => cell_alloc (cell_alloc y4 o) o'
              have HBB := Lib.hid (fun o o' => Below.drew (below_new (below_new HB.out o) o'))
              have HB5 := Lib.hid (fun o o' => Below.drew (below_new (below_new B5.out o) o'))
              rcases edge_ways2 a1 a2 d1 d2 with ⟨ho, g1⟩ | ⟨ho, g1, g2, g3⟩ | ⟨ho, g1, g2⟩ | ⟨ho, g1, g2, g3⟩
              case inl =>
                have HE : Hid (3 = grErr N E p m) := Lib.hid (grErr_3b HN.out p m h1 H2.out H3.out HA.out (rises_no (List.getElem?_eq_some_iff.1 HY.out).1 (by rw [stepB_at HX.out HY.out]; exact ho))).symm
                clear ho hall
                go_wp2_with fail
                go_region
                all_goals
                  go_wp2_with fail
                  go_ret
                  exact ⟨ret_int HE.out, HB5.out _ _⟩
              case inr.inl =>
                have HE : Hid (3 = grErr N E p m) := Lib.hid (grErr_3b HN.out p m h1 H2.out H3.out HA.out (rises_no (List.getElem?_eq_some_iff.1 HY.out).1 (by rw [stepB_at HX.out HY.out]; exact ho))).symm
                clear ho hall
                go_wp2_with fail
                go_region
                all_goals
                  go_wp2_with fail
                  go_ret
                  exact ⟨ret_int HE.out, HB5.out _ _⟩
              all_goals
                have HS : Hid (∀ j, j < q + 1 → stepB edgeLt E j = true) := Lib.hid (fun j hj => by
                  rcases Nat.lt_or_ge j q with h | h
                  · exact hall.out j h
                  · obtain rfl : j = q := by omega
                    rw [stepB_at HX.out HY.out]; exact ho)
                clear ho hall
                go_wp2_with fail
                go_region
                all_goals
                  go_wp2_with fail
                  go_roundw
                  case rel => exact ⟨q + 1, by omega, by go_num, HS, Lib.hid (HBB.out _ _)⟩
                  case measure => simp [intOf]; omega
            · have H5 : Hid (¬ risesB edgeLt E = false) := Lib.hid (by rw [rises_yes fun i hi => hall.out i (by have := HG4.out.elen; omega)]; simp)
              have hge : ¬ (q : Int) + 1 < (k : Int) := by omega
              clear hall hbw X4 HG4 B4 hq hlt
              obtain ⟨x1, x2, x3, x4⟩ := X5.out
              generalize wr = w5 at *
              go_wp2_with fail
              go_loopw [10] (fun i wr => ∃ q : Nat, n ≤ q ∧ q ≤ 64 ∧ i = .int .i64 (q : Int) ∧ Hid (∀ j, n ≤ j → j < q → (p ||| m).testBit j = false) ∧ w5 = wr) (fun i _ => 64 - (intOf i).toNat)
              case atStart => exact ⟨n, by omega, by omega, rfl, Lib.hid (fun j h1 h2 => absurd h1 (by omega)), rfl⟩
              case round =>
                obtain ⟨q, hnq, hq, rfl, hall, rfl⟩ := hrel
                clear hge
                have HP := Lib.hid HG5.out.p64
                have HM := Lib.hid HG5.out.m64
                by_cases hlt : q < 64
                · have hlt' : (q : Int) < 64 := by omega
                  cases hp : p.testBit q with
                  | true =>
                    have HE : Hid (4 = grErr N E p m) := Lib.hid (grErr_4a HN.out h1 H2.out H3.out HA.out H5.out (sets_out (HP.out.or HM.out) (by omega) hnq (by rw [Nat.testBit_or, hp]; rfl))).symm
                    have HPQ := Lib.hid hp
                    clear hp hall
                    go_wp2_with fail
                    refine (in_nat p HP.out q _).mono ?_
                    rintro e w' ⟨rfl, rfl⟩
                    rw [HPQ.out]
                    go_wp2_with fail
                    go_ret
                    exact ⟨ret_int HE.out, B5.out⟩
                  | false =>
                    have HPQ := Lib.hid hp
                    clear hp
                    cases hm : m.testBit q with
                    | true =>
                      have HE : Hid (4 = grErr N E p m) := Lib.hid (grErr_4a HN.out h1 H2.out H3.out HA.out H5.out (sets_out (HP.out.or HM.out) (by omega) hnq (by rw [Nat.testBit_or, hm, Bool.or_true]))).symm
                      have HMQ := Lib.hid hm
                      clear hm hall
                      go_wp2_with fail
                      refine (in_nat p HP.out q _).mono ?_
                      rintro e w' ⟨rfl, rfl⟩
                      rw [HPQ.out]
                      go_wp2_with fail
                      refine (in_nat m HM.out q _).mono ?_
                      rintro e w' ⟨rfl, rfl⟩
                      rw [HMQ.out]
                      go_wp2_with fail
                      go_ret
                      exact ⟨ret_int HE.out, B5.out⟩
                    | false =>
                      have HMQ := Lib.hid hm
                      have HS : Hid (∀ j, n ≤ j → j < q + 1 → (p ||| m).testBit j = false) := Lib.hid (fun j ha hj => by
                        rcases Nat.lt_or_ge j q with h | h
                        · exact hall.out j ha h
                        · obtain rfl : j = q := by omega
                          rw [Nat.testBit_or, HPQ.out, hm]; rfl)
                      clear hm hall
                      go_wp2_with fail
                      refine (in_nat p HP.out q _).mono ?_
                      rintro e w' ⟨rfl, rfl⟩
                      rw [HPQ.out]
                      go_wp2_with fail
                      refine (in_nat m HM.out q _).mono ?_
                      rintro e w' ⟨rfl, rfl⟩
                      rw [HMQ.out]
                      go_wp2_with fail
                      go_roundw
                      case rel => exact ⟨q + 1, by omega, by omega, by go_num, HS, by first | rfl | trivial⟩
                      case measure => simp [intOf]; omega
                · have HE : Hid (0 = grErr N E p m) := Lib.hid (grErr_0 HN.out h1 H2.out H3.out HA.out H5.out (sets_in (HP.out.or HM.out) (by omega) (fun j a b => hall.out j a (by omega)))).symm
                  have hlt' : ¬ (q : Int) < 64 := by omega
                  clear hall
                  go_wp2_with fail
                  go_ret
                  exact ⟨ret_int HE.out, B5.out⟩
end
end Go.Proofs.YtoandhhkmkgmaaaGreatDoor
