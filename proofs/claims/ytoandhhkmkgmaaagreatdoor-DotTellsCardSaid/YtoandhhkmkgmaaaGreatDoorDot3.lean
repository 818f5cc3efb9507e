/- Contract: dot.Draw. -/
import Derived.Test.YtoandhhkmkgmaaaGreatDoorDot1
import Derived.Test.YtoandhhkmkgmaaaGreatDoorGraphP
namespace Go.Proofs.YtoandhhkmkgmaaaGreatDoor
open Go.RowKit

/-- What dot.Draw tells of a part. -/
def drawnT (N : List (List UInt8)) (E : List EdgeT) (p m s : Nat) : List UInt8 := drawT (partN N s) (partE E s) (partS p s) (partS m s)
def DrawPost (T : List UInt8) (er : Int) (w : World) (e : Ending) (w' : World) : Prop := e = .returned (.tuple #[.string ⟨T.toArray⟩, .int .i64 er]) ∧ Below w.heap.size w w'
theorem nums_up (s : Nat) : (nums s).Pairwise (· < ·) := by
  unfold nums
  exact List.Pairwise.filter _ List.pairwise_lt_range
theorem partS_b64 (t s : Nat) : B64 (partS t s) := setP_b64 _ (nums_len s)
theorem partS_lt (t s : Nat) : partS t s < 2 ^ (nums s).length := by
  apply Nat.lt_pow_two_of_testBit
  intro i hi
  unfold partS
  rw [setP_bit]
  simp
  omega
/-- A part of a good graph is a good graph. -/
theorem part_ok {N : List (List UInt8)} {E : List EdgeT} {p m s : Nat} (h : GOk N E p m) (hs : B64 s) (hms : minus s (upTo N.length) = 0) : GOk (partN N s) (partE E s) (partS p s) (partS m s) := by
  have hlt : ∀ x ∈ nums s, x < N.length := fun x hx => by
    have hb := (mem_nums hs).1 hx
    apply Classical.byContradiction
    intro hc
    exact sets_out hs h.n64 (Nat.le_of_not_lt hc) hb hms
  have hlen : (partN N s).length = (nums s).length := by unfold partN; simp
  refine ⟨?_, ?_, ?_, ?_, ?_, ?_, ?_⟩
  · rw [hlen]; exact nums_len s
  · rw [List.all_eq_true]
    intro x hx
    unfold partN at hx
    rw [List.mem_map] at hx
    obtain ⟨i, hi, rfl⟩ := hx
    exact nmAt_good h.good (hlt i hi)
  · unfold Up partN
    rw [List.pairwise_map]
    refine (List.pairwise_iff_getElem.2 ?_)
    intro i j hi hj hij
    have h1 := (List.pairwise_iff_getElem.1 (nums_up s)) i j hi hj hij
    have l1 := hlt _ (List.getElem_mem hi)
    have l2 := hlt _ (List.getElem_mem hj)
    have h2 := (List.pairwise_iff_getElem.1 h.up) _ _ l1 l2 h1
    rw [List.getD_eq_getElem?_getD, List.getD_eq_getElem?_getD, List.getElem?_eq_getElem l1, List.getElem?_eq_getElem l2]
    exact h2
  · rw [part_edges hs h.out h.ris, hlen, ← Bool.not_eq_true]
    intro hc
    rw [List.any_eq_true] at hc
    obtain ⟨e, he, ho⟩ := hc
    obtain ⟨i, k, hi, hk, rfl⟩ := (mem_edgesOf (partR_b64 _ _)).1 he
    rw [partR_len] at hi
    obtain ⟨x, hx⟩ : ∃ x, (nums s)[i]? = some x := ⟨_, List.getElem?_eq_getElem hi⟩
    rw [partR_at hx, setP_bit] at hk
    simp only [Bool.and_eq_true, decide_eq_true_eq] at hk
    unfold edgeOut at ho
    simp only [decide_eq_true_eq] at ho
    omega
  · rw [part_edges hs h.out h.ris]
    have hr := ris_edgesOf (partR_b64 (rowsG N.length E) s)
    exact rises_yes fun i hi => by
      rw [stepB_at (List.getElem?_eq_getElem (by omega)) (List.getElem?_eq_getElem hi)]
      exact (List.pairwise_iff_getElem.1 hr) _ _ _ _ (by omega)
  · rw [hlen]; exact partS_lt p s
  · rw [hlen]; exact partS_lt m s
theorem ok_in {A1 A2 : Option Addr} {N : List (List UInt8)} {E : List EdgeT} {p m : Nat} {w : World} (h : GOk N E p m) (hp : B64 p) (hm : B64 m) (h1 : Rd w A1 (N.map sv)) (h2 : Rd w A2 (eV E)) : GrIn A1 N.length A2 E.length N E p m w :=
  ⟨h1, h2, rfl, rfl, by have := h.n64; omega, by have := edges_le h.n64 h.out h.ris; omega, fun x hx => by have := good_len (List.all_eq_true.1 h.good x hx); omega, hp, hm⟩
section
variable {A1 A2 : Option Addr} {n k c1 c2 : Nat} {N : List (List UInt8)} {E : List EdgeT} {p m : Nat} (w : World) (hG : GrIn A1 n A2 k N E p m w) (s : Nat) (hs : B64 s) (hT : Tab w)
include hG hs hT
set_option maxRecDepth 100000 in
set_option maxHeartbeats 2000000 in
theorem dDrawF_any : Calls Tryz.prog 17 #[gv A1 n c1 A2 k c2 p m, .int .u64 (s : Int)] w (DrawPost (if partErr n s (grErr N E p m) = 0 then drawnT N E p m s else []) (partErr n s (grErr N E p m)) w) := by
  obtain ⟨b1, b2, b3, b4, b5⟩ := box_four w (.slice A1 n c1) (.slice A2 k c2) (.int .u64 (p : Int)) (.int .u64 (m : Int)) 43
  obtain ⟨w1, hw1⟩ : ∃ w1, w1 = w.alloc (.cells #[.slice A1 n c1, .slice A2 k c2, .int .u64 (p : Int), .int .u64 (m : Int)] 43) := ⟨_, rfl⟩
  have HW1 := Lib.hid hw1
  rw [← hw1] at b1 b2 b3 b4 b5
  have HB1 := Lib.hid b5
  by_cases he : partErr n s (grErr N E p m) = 0
  · have he0 : grErr N E p m = 0 := by
      apply Classical.byContradiction
      intro h
      unfold partErr at he
      rw [if_neg h] at he
      exact h he
    have hms : minus s (upTo n) = 0 := by
      apply Classical.byContradiction
      intro h
      unfold partErr at he
      rw [if_pos he0, if_neg h] at he
      cases he
    have HOK := Lib.hid (part_ok (gOk hG.p64 hG.m64 he0) hs (by rw [hG.nlen]; exact hms))
    have HP := Lib.hid (gPart_good (c1 := c1) (c2 := c2) w1 (hG.below b5) s hs he (hT.below b5))
    have HPL : Hid (partErr n s (grErr N E p m) = 0) := Lib.hid he
    rw [he, if_pos rfl]
    unfold drawnT
    have HB641 := Lib.hid (partS_b64 p s)
    have HB642 := Lib.hid (partS_b64 m s)
    generalize partN N s = N' at *
    generalize partE E s = E' at *
    generalize partS p s = p' at *
    generalize partS m s = m' at *
    clear he he0 hms hG hT hw1 b5 hs
    unfold gv at HP ⊢
    go_enter Tryz.func17, Tryz.ntmps17
    go_upto_region 1 with fail
    rw [← HW1.out]
    clear HW1
    go_wp2_with fail
    refine HP.out.mono ?_
    rintro e w2 ⟨A1', d1, A2', d2, rfl, hr1, hr2, hb2⟩
    have HR1 := Lib.hid hr1
    have HR2 := Lib.hid hr2
    have HB2 := Lib.hid (below_then HB1.out hb2)
    unfold gv
    clear hr1 hr2 hb2 b1 b2 b3 b4
    go_upto_region 2 with fail
    obtain ⟨y1, y2, y3, y4, y5⟩ := box_four w2 (.slice A1' N'.length d1) (.slice A2' E'.length d2) (.int .u64 (p' : Int)) (.int .u64 (m' : Int)) 43
    generalize w2.alloc (.cells #[.slice A1' N'.length d1, .slice A2' E'.length d2, .int .u64 (p' : Int), .int .u64 (m' : Int)] 43) = w3 at *
    have HD := Lib.hid (dDraw_any (c1 := d1) (c2 := d2) w3 (ok_in HOK.out HB641.out HB642.out (HR1.out.below y5) (HR2.out.below y5)) HOK.out)
    have HB3 := Lib.hid (below_then HB2.out y5)
    unfold gv at HD
    clear y5
    go_wp2_with fail
    refine HD.out.mono ?_
    rintro e w4 ⟨rfl, hb4⟩
    have HB4 := Lib.hid (below_then HB3.out hb4)
    clear hb4 y1 y2 y3 y4
    go_wp2_with fail
    go_ret2
    exact ⟨rfl, HB4.out⟩
  · have HP := Lib.hid (gPart_bad (c1 := c1) (c2 := c2) w1 (hG.below b5) s hs he)
    rw [if_neg he]
    generalize partErr n s (grErr N E p m) = er at *
    have h1 : (er != 0) = true := by simpa using he
    have h2 : (er == 0) = false := by simpa using he
    clear he hG hT hw1 b5 hs
    unfold gv at HP ⊢
    go_enter Tryz.func17, Tryz.ntmps17
    go_upto_region 1 with fail
    rw [← HW1.out]
    clear HW1
    go_wp2_with fail
    refine HP.out.mono ?_
    rintro e w2 ⟨A1', d1, A2', d2, rfl, hr1, hr2, hb2⟩
    have HB2 := Lib.hid (below_then HB1.out hb2)
    unfold gv
    clear hr1 hr2 hb2 b1 b2 b3 b4
    go_wp2_with fail
    go_ret2
    exact ⟨rfl, below_new HB2.out _⟩
end
end Go.Proofs.YtoandhhkmkgmaaaGreatDoor
