/- Contracts: graph.Check. Lengths below 2^63, texts below 2^63; sets below 2^64; the table of math/bits lies nowhere in it. -/
import Derived.Test.YtoandhhkmkgmaaaGreatDoorGr1
import Derived.Test.YtoandhhkmkgmaaaGreatDoorName7
import Derived.Test.YtoandhhkmkgmaaaGreatDoorReach5
namespace Go.Proofs.YtoandhhkmkgmaaaGreatDoor
open Go.RowKit

/-- A graph as a value. -/
def gv (A1 : Option Addr) (n c1 : Nat) (A2 : Option Addr) (k c2 : Nat) (p m : Nat) : Value := .agg #[.slice A1 n c1, .slice A2 k c2, .int .u64 (p : Int), .int .u64 (m : Int)]
theorem box_four (w : World) (x1 x2 x3 x4 : Value) (t : TypeId) :
    (w.alloc (.cells #[x1, x2, x3, x4] t)).cell? ⟨w.heap.size, 0, none⟩ = some x1 ∧ (w.alloc (.cells #[x1, x2, x3, x4] t)).cell? ⟨w.heap.size, 1, none⟩ = some x2 ∧
    (w.alloc (.cells #[x1, x2, x3, x4] t)).cell? ⟨w.heap.size, 2, none⟩ = some x3 ∧ (w.alloc (.cells #[x1, x2, x3, x4] t)).cell? ⟨w.heap.size, 3, none⟩ = some x4 ∧ Below w.heap.size w (w.alloc (.cells #[x1, x2, x3, x4] t)) := by
  refine ⟨?_, ?_, ?_, ?_, below_new (Below.refl _ _) _⟩ <;> (rw [World.cell?_alloc_at _ _ _ _ rfl]; rfl)
/-- What a graph in memory is, seen from a world. -/
structure GrIn (A1 : Option Addr) (n : Nat) (A2 : Option Addr) (k : Nat) (N : List (List UInt8)) (E : List EdgeT) (p m : Nat) (w : World) : Prop where
  names : Rd w A1 (N.map sv)
  edges : Rd w A2 (eV E)
  nlen : N.length = n
  elen : E.length = k
  nb : n ≤ 9223372036854775807
  eb : k ≤ 9223372036854775807
  strs : StrsOk N
  p64 : B64 p
  m64 : B64 m
theorem GrIn.below {A1 A2 : Option Addr} {n k : Nat} {N : List (List UInt8)} {E : List EdgeT} {p m : Nat} {w w' : World} (h : GrIn A1 n A2 k N E p m w) (hb : Below w.heap.size w w') : GrIn A1 n A2 k N E p m w' :=
  ⟨h.names.below hb, h.edges.below hb, h.nlen, h.elen, h.nb, h.eb, h.strs, h.p64, h.m64⟩
theorem edge_take {n : Nat} {E : List EdgeT} {k : Nat} (h : ∀ (j : Nat) (e : EdgeT), j < k → E[j]? = some e → edgeOut n e = false) (hk : E.length ≤ k) : E.any (edgeOut n) = false := by
  rw [List.any_eq_false]
  intro e he
  obtain ⟨j, hj⟩ := List.mem_iff_getElem?.1 he
  have := (List.getElem?_eq_some_iff.1 hj).1
  rw [h j e (by omega) hj]
  simp
/-- The cells of a graph that lies in a block of its own. -/
structure GrBox (B : Nat) (v1 v2 v3 v4 : Value) (w : World) : Prop where
  c1 : w.cell? ⟨B, 0, none⟩ = some v1
  c2 : w.cell? ⟨B, 1, none⟩ = some v2
  c3 : w.cell? ⟨B, 2, none⟩ = some v3
  c4 : w.cell? ⟨B, 3, none⟩ = some v4
theorem GrBox.below {B : Nat} {v1 v2 v3 v4 : Value} {w w' : World} (h : GrBox B v1 v2 v3 v4 w) (hb : Below w.heap.size w w') : GrBox B v1 v2 v3 v4 w' :=
  ⟨cell_keep h.c1 hb, cell_keep h.c2 hb, cell_keep h.c3 hb, cell_keep h.c4 hb⟩
theorem grErr_2 {N : List (List UInt8)} {n : Nat} (hn : N.length = n) (E : List EdgeT) (p m : Nat) (h : 64 < n) : grErr N E p m = 2 := by
  subst hn; unfold grErr; rw [if_pos h]
theorem grErr_3 {N : List (List UInt8)} {n : Nat} (hn : N.length = n) (E : List EdgeT) (p m : Nat) (h : ¬ 64 < n) (h2 : N.all goodName = false) : grErr N E p m = 3 := by
  subst hn; unfold grErr; rw [if_neg h, if_pos h2]
theorem grErr_3a {N : List (List UInt8)} {n : Nat} (hn : N.length = n) (E : List EdgeT) (p m : Nat) (h : ¬ 64 < n) (h2 : ¬ N.all goodName = false) (h3 : risesB ltS N = false) : grErr N E p m = 3 := by
  subst hn; unfold grErr; rw [if_neg h, if_neg h2, if_pos h3]
theorem grErr_4 {N : List (List UInt8)} {n : Nat} (hn : N.length = n) {E : List EdgeT} (p m : Nat) (h : ¬ 64 < n) (h2 : ¬ N.all goodName = false) (h3 : ¬ risesB ltS N = false) (h4 : E.any (edgeOut n) = true) : grErr N E p m = 4 := by
  subst hn; unfold grErr; rw [if_neg h, if_neg h2, if_neg h3, if_pos h4]
theorem grErr_3b {N : List (List UInt8)} {n : Nat} (hn : N.length = n) {E : List EdgeT} (p m : Nat) (h : ¬ 64 < n) (h2 : ¬ N.all goodName = false) (h3 : ¬ risesB ltS N = false) (h4 : E.any (edgeOut n) = false) (h5 : risesB edgeLt E = false) : grErr N E p m = 3 := by
  subst hn; unfold grErr; rw [if_neg h, if_neg h2, if_neg h3, if_neg (by simp [h4]), if_pos h5]
theorem grErr_4a {N : List (List UInt8)} {n : Nat} (hn : N.length = n) {E : List EdgeT} {p m : Nat} (h : ¬ 64 < n) (h2 : ¬ N.all goodName = false) (h3 : ¬ risesB ltS N = false) (h4 : E.any (edgeOut n) = false) (h5 : ¬ risesB edgeLt E = false) (h6 : minus (p ||| m) (upTo n) ≠ 0) : grErr N E p m = 4 := by
  subst hn; unfold grErr; rw [if_neg h, if_neg h2, if_neg h3, if_neg (by simp [h4]), if_neg h5, if_pos h6]
theorem grErr_0 {N : List (List UInt8)} {n : Nat} (hn : N.length = n) {E : List EdgeT} {p m : Nat} (h : ¬ 64 < n) (h2 : ¬ N.all goodName = false) (h3 : ¬ risesB ltS N = false) (h4 : E.any (edgeOut n) = false) (h5 : ¬ risesB edgeLt E = false) (h6 : minus (p ||| m) (upTo n) = 0) : grErr N E p m = 0 := by
  subst hn; unfold grErr; rw [if_neg h, if_neg h2, if_neg h3, if_neg (by simp [h4]), if_neg h5, if_neg (by simp [h6])]
theorem edgeOut_any {n : Nat} {E : List EdgeT} {q : Nat} {e : EdgeT} (h : E[q]? = some e) (ho : edgeOut n e = true) : E.any (edgeOut n) = true := List.any_eq_true.2 ⟨e, List.mem_of_getElem? h, ho⟩
/-- An edge out of bounds, or not: five ways. -/
theorem edge_ways (n : Nat) (a b : Int) :
    (edgeOut n (a, b) = true ∧ decide (a < 0) = true) ∨ (edgeOut n (a, b) = true ∧ decide (a < 0) = false ∧ decide ((n : Int) ≤ a) = true) ∨ (edgeOut n (a, b) = true ∧ decide (a < 0) = false ∧ decide ((n : Int) ≤ a) = false ∧ decide (b < 0) = true) ∨
    (edgeOut n (a, b) = true ∧ decide (a < 0) = false ∧ decide ((n : Int) ≤ a) = false ∧ decide (b < 0) = false ∧ decide ((n : Int) ≤ b) = true) ∨ (edgeOut n (a, b) = false ∧ decide (a < 0) = false ∧ decide ((n : Int) ≤ a) = false ∧ decide (b < 0) = false ∧ decide ((n : Int) ≤ b) = false) := by
  unfold edgeOut
  simp only [decide_eq_true_eq, decide_eq_false_iff_not]
  omega
section
variable {A1 A2 : Option Addr} {n k c1 c2 : Nat} {N : List (List UInt8)} {E : List EdgeT} {p m : Nat} (w : World) (hG : GrIn A1 n A2 k N E p m w)
include hG
set_option maxHeartbeats 4000000 in
theorem gCheck_any : Calls Tryz.prog 100 #[gv A1 n c1 A2 k c2 p m] w fun e w' => e = .returned (.int .i64 (grErr N E p m)) ∧ Below w.heap.size w w' := by
  have HG := Lib.hid hG
  have hnb := hG.nb
  have hkb := hG.eb
  have HN := Lib.hid hG.nlen
  clear hG
  unfold gv
  obtain ⟨x1, x2, x3, x4, x5⟩ := box_four w (.slice A1 n c1) (.slice A2 k c2) (.int .u64 (p : Int)) (.int .u64 (m : Int)) 43
  go_enter Tryz.func100, Tryz.ntmps100
  by_cases h1 : 64 < n
  · have HE : Hid (2 = grErr N E p m) := Lib.hid (grErr_2 HN.out E p m h1).symm
    have h1' : (64 : Int) < (n : Int) := by omega
    go_wp2_with fail
    go_ret
    exact ⟨ret_int HE.out, x5⟩
  have h1' : ¬ (64 : Int) < (n : Int) := by omega
  have HG1 := Lib.hid (HG.out.below x5)
  have B1 := Lib.hid x5
  have X1 := Lib.hid (GrBox.mk x1 x2 x3 x4)
  go_wp2_with fail
  generalize w.alloc (.cells #[.slice A1 n c1, .slice A2 k c2, .int .u64 (p : Int), .int .u64 (m : Int)] 43) = w1 at *
  clear x5
  refine (nSort_any N w1 HG1.out.names HG1.out.nlen (by omega) HG1.out.strs).mono ?_
  rintro e w2 ⟨AS, cS, rfl, _, hb2⟩
  have HG2 := Lib.hid (HG1.out.below hb2)
  have B2 := Lib.hid (below_then B1.out hb2)
  have X2 := Lib.hid (X1.out.below hb2)
  clear hb2 x1 x2 x3 x4 X1 HG1
  obtain ⟨x1, x2, x3, x4⟩ := X2.out
  by_cases h2 : N.all goodName = false
  · have HE : Hid (3 = grErr N E p m) := Lib.hid (grErr_3 HN.out E p m h1 h2).symm
    rw [show namesErr N = 3 by unfold namesErr; rw [if_neg (by simp [h2])]]
    clear h2
    go_wp2_with fail
    go_ret
    exact ⟨ret_int HE.out, B2.out⟩
  rw [show namesErr N = 0 by unfold namesErr; rw [if_pos (by simpa using h2)]]
  have H2 := Lib.hid h2
  clear h2
  go_wp2_with fail
  refine (risesS_any N w2 HG2.out.names HG2.out.nlen hnb).mono ?_
  rintro e w3 ⟨rfl, hb3⟩
  have HG3 := Lib.hid (HG2.out.below hb3)
  have B3 := Lib.hid (below_then B2.out hb3)
  have X3 := Lib.hid (X2.out.below hb3)
  clear hb3 x1 x2 x3 x4 X2 HG2
  obtain ⟨x1, x2, x3, x4⟩ := X3.out
  by_cases h3 : risesB ltS N = false
  · have HE : Hid (3 = grErr N E p m) := Lib.hid (grErr_3a HN.out E p m h1 H2.out h3).symm
    rw [h3]
    clear h3
    go_wp2_with fail
    go_ret
    exact ⟨ret_int HE.out, B3.out⟩
  rw [show risesB ltS N = true by simpa using h3]
  have H3 := Lib.hid h3
  clear h3
  go_wp2_with fail
  go_loopw [7, 31] (fun _ i wr => ∃ q : Nat, q ≤ k ∧ i = .int .i64 (q : Int) ∧ Hid (∀ (j : Nat) (e : EdgeT), j < q → E[j]? = some e → edgeOut n e = false) ∧ Hid (Below w3.heap.size w3 wr)) (fun _ i _ => k - (intOf i).toNat)
  case atStart => exact ⟨0, by omega, rfl, Lib.hid (fun j e hj => absurd hj (by omega)), Lib.hid (Below.refl _ _)⟩
  case round =>
    clear x1 x2 x3 x4
    obtain ⟨q, hq, rfl, hall, hbw⟩ := hrel
    have B4 := Lib.hid (below_then B3.out hbw.out)
    by_cases hlt : q < k
    · obtain ⟨⟨e1, e2⟩, he⟩ : ∃ e, E[q]? = some e := ⟨_, List.getElem?_eq_getElem (by rw [HG3.out.elen]; exact hlt)⟩
      obtain ⟨b, off, rfl, y1, y2⟩ := (HG3.out.edges.below hbw.out).edge he
      simp only at y1 y2
      have HB := Lib.hid (fun o => below_new hbw.out o)
      have HB4 := Lib.hid (fun o => below_new B4.out o)
      have HEe := Lib.hid he
      have hq2 : (q : Int) < (k : Int) := by omega
      clear he hbw
      rcases edge_ways n e1 e2 with ⟨ho, g1⟩ | ⟨ho, g1, g2⟩ | ⟨ho, g1, g2, g3⟩ | ⟨ho, g1, g2, g3, g4⟩ | ⟨ho, g1, g2, g3, g4⟩
      case inr.inr.inr.inr =>
        have HA : Hid (∀ (j : Nat) (e : EdgeT), j < q + 1 → E[j]? = some e → edgeOut n e = false) := Lib.hid (fun j e hj hje => by
          rcases Nat.lt_or_ge j q with h | h
          · exact hall.out j e h hje
          · obtain rfl : j = q := by omega
            rw [HEe.out] at hje
            injection hje with hje
            rw [← hje]; exact ho)
        clear ho hall
        go_wp2_with fail
        go_roundw
        case rel => exact ⟨q + 1, by omega, by go_num, HA, Lib.hid (HB.out _)⟩
        case measure => simp [intOf]; omega
      all_goals
        have HE : Hid (4 = grErr N E p m) := Lib.hid (grErr_4 HN.out p m h1 H2.out H3.out (edgeOut_any HEe.out ho)).symm
        clear ho hall
        go_wp2_with fail
        go_ret
        exact ⟨ret_int HE.out, HB4.out _⟩
    · have HA : Hid (E.any (edgeOut n) = false) := Lib.hid (edge_take hall.out (by rw [HG3.out.elen]; omega))
      have HGr := Lib.hid (HG3.out.below hbw.out)
      have X4 := Lib.hid (X3.out.below hbw.out)
      have hqk : ¬ (q : Int) < (k : Int) := by omega
      clear hall hbw X3 HG3
      obtain ⟨x1, x2, x3, x4⟩ := X4.out
      go_wp2_with fail
      refine (risesE_any E wr HGr.out.edges HGr.out.elen hkb).mono ?_
      rintro e w5 ⟨rfl, hb5⟩
      have HG5 := Lib.hid (HGr.out.below hb5)
      have B5 := Lib.hid (below_then B4.out hb5)
      have X5 := Lib.hid (X4.out.below hb5)
      clear hb5 x1 x2 x3 x4 X4 HGr
      obtain ⟨x1, x2, x3, x4⟩ := X5.out
      by_cases h5 : risesB edgeLt E = false
      · have HE : Hid (3 = grErr N E p m) := Lib.hid (grErr_3b HN.out p m h1 H2.out H3.out HA.out h5).symm
        rw [h5]
        clear h5
        go_wp2_with fail
        go_ret
        exact ⟨ret_int HE.out, B5.out⟩
      rw [show risesB edgeLt E = true by simpa using h5]
      have H5 := Lib.hid h5
      clear h5
      go_wp2_with fail
      refine (pBelow_yes (n : Int) (by omega) (by omega) _).mono ?_
      rintro e w' ⟨rfl, rfl⟩
      rw [Int.toNat_natCast]
      have hor : bits .or .u64 (p : Int) (m : Int) = ((p ||| m : Nat) : Int) := u64_or_nat p m HG5.out.p64 HG5.out.m64
      have han : bits .andNot .u64 ((p ||| m : Nat) : Int) (upTo n : Nat) = (minus (p ||| m) (upTo n) : Nat) := minus_raw _ _ (HG5.out.p64.or HG5.out.m64) (upTo_b64 (by omega))
      by_cases h6 : minus (p ||| m) (upTo n) = 0
      · have HE : Hid (0 = grErr N E p m) := Lib.hid (grErr_0 HN.out h1 H2.out H3.out HA.out H5.out h6).symm
        rw [h6] at han
        clear h6
        go_wp2_with fail
        go_ret
        exact ⟨ret_int HE.out, B5.out⟩
      · have HE : Hid (4 = grErr N E p m) := Lib.hid (grErr_4a HN.out h1 H2.out H3.out HA.out H5.out h6).symm
        have h6' : ((minus (p ||| m) (upTo n) : Nat) : Int) ≠ 0 := by omega
        generalize minus (p ||| m) (upTo n) = M at *
        clear h6
        go_wp2_with fail
        go_ret
        exact ⟨ret_int HE.out, B5.out⟩
end
end Go.Proofs.YtoandhhkmkgmaaaGreatDoor
