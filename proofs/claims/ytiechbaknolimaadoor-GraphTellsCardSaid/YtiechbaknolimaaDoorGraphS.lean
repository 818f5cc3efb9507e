/- Contracts: the reference's SameTexts and SameGraph at two that are one; graph.Number; graph.squeeze. -/
import Derived.Test.YtiechbaknolimaaDoorGraphT
import Derived.Test.YtiechbaknolimaaDoorQuiet
namespace Go.Proofs.YtiechbaknolimaaDoor
open Go.RowKit

set_option maxHeartbeats 1000000 in
theorem sameTexts_any {A B : Option Addr} {n c d : Nat} (l : List (List UInt8)) (w : World) (hr : Rd w A (l.map sv)) (hr2 : Rd w B (l.map sv)) (hn : l.length = n) (hb : n ≤ 9223372036854775807) :
    Calls Tryd.prog 46 #[.slice A n c, .slice B n d] w fun e w' => e = .returned (.bool true) ∧ Below w.heap.size w w' := by
  have HR := Lib.hid hr
  have HR2 := Lib.hid hr2
  have HN := Lib.hid hn
  clear hr hr2 hn
  go_enter Tryd.func46, Tryd.ntmps46
  go_wp2_with fail
  go_loopw [5, 13] (fun _ i wr => ∃ q : Nat, q ≤ n ∧ i = .int .i64 (q : Int) ∧ Hid (Below w.heap.size w wr)) (fun _ i _ => n - (intOf i).toNat)
  case atStart => exact ⟨0, by omega, rfl, Lib.hid (Below.refl _ _)⟩
  case round =>
    obtain ⟨q, hq, rfl, hbw⟩ := hrel
    by_cases hlt : q < n
    · obtain ⟨s, he⟩ : ∃ x, l[q]? = some x := ⟨_, List.getElem?_eq_getElem (by rw [HN.out]; exact hlt)⟩
      obtain ⟨b, off, rfl, y1⟩ := (HR.out.below hbw.out).scell he
      obtain ⟨b2, off2, rfl, z1⟩ := (HR2.out.below hbw.out).scell he
      have HB := Lib.hid (fun q => below_drewN hbw.out q)
      have f1 : (0 : Int) ≤ (q : Int) := by omega
      have f2 : (q : Int) < (n : Int) := by omega
      clear he hbw
      generalize (⟨s.toArray⟩ : ByteArray) = bs at *
      have hbb : (bs.toList == bs.toList) = true := by simp
      go_wp2_with fail
      go_quiet (fail)
      go_wp2_with fail
      go_roundw
      case rel => exact ⟨q + 1, by omega, by go_num, Lib.hid (HB.out _)⟩
      case measure => simp [intOf]; omega
    · have hqn : ¬ (q : Int) < (n : Int) := by omega
      go_wp2_with fail
      go_ret
      exact ⟨rfl, hbw.out⟩
theorem sameGraph_any {A1 A2 B1 B2 : Option Addr} {c1 c2 d1 d2 : Nat} (N : List (List UInt8)) (E : List EdgeT) (p m : Nat) (w : World) (h1 : Rd w A1 (N.map sv)) (h2 : Rd w A2 (eV E)) (h3 : Rd w B1 (N.map sv)) (h4 : Rd w B2 (eV E)) (hn : N.length ≤ 9223372036854775807) (hk : E.length ≤ 9223372036854775807) :
    Calls Tryd.prog 12 #[gv A1 N.length c1 A2 E.length c2 p m, gv B1 N.length d1 B2 E.length d2 p m] w fun e w' => e = .returned (.bool true) ∧ Below w.heap.size w w' := by
  have C1 := Lib.hid (fun W (hW : Below w.heap.size w W) => sameTexts_any (c := c1) (d := d1) N W (h1.below hW) (h3.below hW) rfl hn)
  have H2 := Lib.hid h2
  have H4 := Lib.hid h4
  unfold gv
  generalize hk0 : E.length = k at *
  have HK := Lib.hid hk0
  generalize N.length = n at *
  obtain ⟨w2, hw2, x0, r0, z0⟩ := box_turn w (.slice A1 n c1) (.slice A2 k c2) (.int .u64 (p : Int)) (.int .u64 (m : Int)) (.slice B1 n d1) (.slice B2 k d2) (.int .u64 (p : Int)) (.int .u64 (m : Int)) 26 26
  have X2 := Lib.hid x0
  have R2 := Lib.hid r0
  have B2' := Lib.hid z0
  have HW2 := Lib.hid hw2
  clear h1 h2 h3 h4 hk0 x0 r0 z0 hw2
  go_enter Tryd.func12, Tryd.ntmps12
  go_upto_region 1 with fail
  rw [← HW2.out]
  generalize w.heap.size + 1 = Br at *
  clear HW2
  obtain ⟨x1, x2, x3, x4⟩ := X2.out
  have r1 := R2.out.cell (j := 0) rfl
  go_wp2_with fail
  refine (C1.out _ B2'.out).mono ?_
  rintro e w3 ⟨rfl, hb3⟩
  have B3 := Lib.hid (below_then B2'.out hb3)
  have X3 := Lib.hid (X2.out.below hb3)
  have R3 := Lib.hid (R2.out.below hb3 R2.out.lt)
  clear hb3 x1 x2 x3 x4 X2 C1 R2 r1
  obtain ⟨x1, x2, x3, x4⟩ := X3.out
  have r2 := R3.out.cell (j := 1) rfl
  have r3 := R3.out.cell (j := 2) rfl
  have r4 := R3.out.cell (j := 3) rfl
  go_wp2_with fail
  clear x1 x2 x3 x4 r2 r3 r4
  go_loopw [5, 38] (fun _ i wr => ∃ q : Nat, q ≤ k ∧ i = .int .i64 (q : Int) ∧ Hid (Below w3.heap.size w3 wr)) (fun _ i _ => k - (intOf i).toNat)
  case atStart => exact ⟨0, by omega, rfl, Lib.hid (Below.refl _ _)⟩
  case round =>
    obtain ⟨q, hq, rfl, hbw⟩ := hrel
    by_cases hlt : q < k
    · obtain ⟨⟨e1, e2⟩, he⟩ : ∃ x, E[q]? = some x := ⟨_, List.getElem?_eq_getElem (by rw [HK.out]; exact hlt)⟩
      obtain ⟨b, off, rfl, y1, y2⟩ := (H2.out.below (below_then B3.out hbw.out)).edge he
      obtain ⟨b2, off2, rfl, z1, z2⟩ := (H4.out.below (below_then B3.out hbw.out)).edge he
      have X4 := X3.out.below hbw.out
      have R4 := R3.out.below hbw.out R3.out.lt
      have x2 := X4.c2
      have r2 := R4.cell (j := 1) rfl
      simp only at y1 y2 z1 z2
      have HB := Lib.hid (fun q => below_drewN hbw.out q)
      have f1 : (0 : Int) ≤ (q : Int) := by omega
      have f2 : (q : Int) < (k : Int) := by omega
      clear he hbw X4 R4
      go_wp2_with fail
      go_quiet (fail)
      go_wp2_with fail
      go_roundw
      case rel => exact ⟨q + 1, by omega, by go_num, Lib.hid (HB.out _)⟩
      case measure => simp [intOf]; omega
    · have hqn : ¬ (q : Int) < (k : Int) := by omega
      have hB := below_then B3.out hbw.out
      have HBB := Lib.hid hB
      clear hB
      have x2 := (X3.out.below hbw.out).c2
      go_wp2_with fail
      go_ret
      exact ⟨rfl, HBB.out⟩
def numE (l : List (List UInt8)) (x : List UInt8) (e0 : Int) : Int := if e0 = 0 then (if hasS l x then 0 else 5) else e0
def numV (l : List (List UInt8)) (x : List UInt8) (e0 : Int) : Int := if e0 = 0 then (if hasS l x then placeMax l x else 0) else 0
theorem gNumber_any {A1 A2 : Option Addr} {n k c1 c2 : Nat} {N : List (List UInt8)} {E : List EdgeT} {p m : Nat} (w : World) (hG : GrIn A1 n A2 k N E p m w) (x : List UInt8) :
    Calls Tryd.prog 9 #[gv A1 n c1 A2 k c2 p m, sv x] w fun e w' => e = .returned (.tuple #[.int .i64 (numV N x (grErr N E p m)), .int .i64 (numE N x (grErr N E p m))]) ∧ Below w.heap.size w w' := by
  have C1 := Lib.hid (fun W (hW : Below w.heap.size w W) => gCheck_any (c1 := c1) (c2 := c2) W (hG.below hW))
  have HG := Lib.hid hG
  by_cases he : grErr N E p m = 0
  · rw [he] at C1 ⊢
    obtain ⟨hn64, _, hri, _, _, _⟩ := gr_ok he
    rw [hG.nlen] at hn64
    have hup := rises_up hri
    have C2 := Lib.hid (fun W (hW : Below w.heap.size w W) => nmFind_any (c := c1) N x W (hG.names.below hW) hG.nlen (by omega) hup)
    unfold gv sv at *
    obtain ⟨x0, x1', x2', x3', z0⟩ := box_four w (.slice A1 n c1) (.slice A2 k c2) (.int .u64 (p : Int)) (.int .u64 (m : Int)) 26
    have X2 := Lib.hid (GrBox.mk x0 x1' x2' x3')
    have B2 := Lib.hid z0
    clear hG he hri hup x0 x1' x2' x3' z0
    go_enter Tryd.func9, Tryd.ntmps9
    go_upto_region 1 with fail
    generalize w.alloc (.cells #[.slice A1 n c1, .slice A2 k c2, .int .u64 (p : Int), .int .u64 (m : Int)] 26) = w2 at *
    obtain ⟨x1, x2, x3, x4⟩ := X2.out
    go_wp2_with fail
    refine (C1.out _ B2.out).mono ?_
    rintro e w3 ⟨rfl, hb3⟩
    have B3 := Lib.hid (below_then B2.out hb3)
    have X3 := Lib.hid (X2.out.below hb3)
    clear hb3 x1 x2 x3 x4 X2 C1
    obtain ⟨x1, x2, x3, x4⟩ := X3.out
    go_wp2_with fail
    refine (C2.out _ B3.out).mono ?_
    rintro e w' ⟨rfl, rfl⟩
    cases hh : hasS N x with
    | true =>
      have HV : Hid (numV N x 0 = placeMax N x ∧ numE N x 0 = 0) := Lib.hid (by unfold numV numE; simp [hh])
      generalize placeMax N x = pm at *
      clear hh
      go_wp2_with fail
      go_ret2
      exact ⟨by rw [HV.out.1, HV.out.2] <;> rfl, B3.out⟩
    | false =>
      have HV : Hid (numV N x 0 = 0 ∧ numE N x 0 = 5) := Lib.hid (by unfold numV numE; simp [hh])
      generalize placeMax N x = pm at *
      clear hh
      go_wp2_with fail
      go_ret2
      exact ⟨by rw [HV.out.1, HV.out.2] <;> rfl, B3.out⟩
  · have HV : Hid (numV N x (grErr N E p m) = 0 ∧ numE N x (grErr N E p m) = grErr N E p m) := Lib.hid (by unfold numV numE; simp [he])
    rw [HV.out.1, HV.out.2]
    clear HV
    generalize grErr N E p m = e0 at *
    unfold gv sv at *
    obtain ⟨x0, x1', x2', x3', z0⟩ := box_four w (.slice A1 n c1) (.slice A2 k c2) (.int .u64 (p : Int)) (.int .u64 (m : Int)) 26
    have X2 := Lib.hid (GrBox.mk x0 x1' x2' x3')
    have B2 := Lib.hid z0
    clear hG x0 x1' x2' x3' z0
    go_enter Tryd.func9, Tryd.ntmps9
    go_upto_region 1 with fail
    generalize w.alloc (.cells #[.slice A1 n c1, .slice A2 k c2, .int .u64 (p : Int), .int .u64 (m : Int)] 26) = w2 at *
    obtain ⟨x1, x2, x3, x4⟩ := X2.out
    go_wp2_with fail
    refine (C1.out _ B2.out).mono ?_
    rintro e w3 ⟨rfl, hb3⟩
    have B3 := Lib.hid (below_then B2.out hb3)
    clear hb3 x1 x2 x3 x4 X2 C1
    go_wp2_with fail
    go_ret2
    exact ⟨rfl, B3.out⟩
theorem or_zero (o : Nat) (ho : B64 o) : bits .or .u64 (o : Int) 0 = (o : Int) := by
  have := u64_or_nat o 0 ho (by decide)
  rwa [Nat.or_zero] at this
theorem partS_take (t : Nat) (L : List Nat) (j : Nat) : setP (j + 1) (fun i => t.testBit (L.getD i 0)) = if t.testBit (L.getD j 0) then addN (setP j fun i => t.testBit (L.getD i 0)) j else setP j fun i => t.testBit (L.getD i 0) := setP_succ _ _
set_option maxHeartbeats 1000000 in
theorem sqz_any (t s : Nat) (ht : B64 t) (hs : B64 s) (w : World) (hT : Tab w) :
    Calls Tryd.prog 36 #[.int .u64 (t : Int), .int .u64 (s : Int)] w fun e w' => e = .returned (.int .u64 (partS t s : Nat)) ∧ Below w.heap.size w w' := by
  have HL := Lib.hid (list_any s hs w hT)
  have HTB := Lib.hid ht
  have hnl := nums_len s
  have HLT : Hid (∀ (q x : Nat), (nums s)[q]? = some x → x < 64) := Lib.hid (fun q x hx => nums_lt (List.mem_of_getElem? hx))
  have HPS : Hid (partS t s = setP (nums s).length fun i => t.testBit ((nums s).getD i 0)) := Lib.hid rfl
  rw [HPS.out]
  clear hT hs ht HPS
  generalize nums s = L at *
  go_enter Tryd.func36, Tryd.ntmps36
  go_wp2_with fail
  refine HL.out.mono ?_
  rintro e w1 ⟨A, c, rfl, hown, hb1⟩
  have HO := Lib.hid (Rd.of_own hown)
  have B1 := Lib.hid hb1
  clear hown hb1 HL
  go_wp2_with fail
  go_loop [5, 6, 7, 11] (fun o _ _ i => ∃ q : Nat, q ≤ L.length ∧ i = .int .i64 (q : Int) ∧ o = .int .u64 (setP q fun i => t.testBit (L.getD i 0) : Nat)) (fun _ _ _ i => L.length - (intOf i).toNat)
  case atStart => exact ⟨0, by omega, rfl, rfl⟩
  case round =>
    obtain ⟨q, hq, rfl, rfl⟩ := hrel
    by_cases hlt : q < L.length
    · obtain ⟨x, hx⟩ : ∃ x, L[q]? = some x := ⟨_, List.getElem?_eq_getElem hlt⟩
      obtain ⟨b, off, rfl, y1⟩ := HO.out.at_ (k := q) (by rw [List.length_map]; exact hlt)
      rw [List.getElem_map, (List.getElem?_eq_some_iff.1 hx).2] at y1
      have hx64 := HLT.out q x hx
      have hq64 : q < 64 := by omega
      have hq2 : (q : Int) < (L.length : Int) := by omega
      have HST := Lib.hid (partS_take t L q)
      rw [show L.getD q 0 = x by rw [List.getD_eq_getElem?_getD, hx]; rfl] at HST
      have HS64 := Lib.hid (setP_b64 (m := q) (fun i => t.testBit (L.getD i 0)) (by omega))
      have hbit := bit_raw t x HTB.out
      unfold nv at y1
      clear hx
      generalize hSS : setP q (fun i => t.testBit (L.getD i 0)) = o at *
      clear hSS
      cases hbt : t.testBit x with
      | true =>
        rw [hbt, if_pos rfl] at hbit HST
        clear hbt
        go_wp2_with fail
        go_round
        case rel => exact ⟨q + 1, by omega, by go_num, by rw [HST.out, or_raw o q HS64.out hq64]⟩
        case measure => simp [intOf]; omega
      | false =>
        rw [hbt, if_neg (by decide)] at hbit HST
        clear hbt
        go_wp2_with fail
        go_round
        case rel => exact ⟨q + 1, by omega, by go_num, by rw [HST.out, or_zero o HS64.out]⟩
        case measure => simp [intOf]; omega
    · obtain rfl : q = L.length := by omega
      have hqn : ¬ (L.length : Int) < (L.length : Int) := by omega
      go_wp2_with fail
      go_ret
      exact ⟨rfl, B1.out⟩
end Go.Proofs.YtiechbaknolimaaDoor
