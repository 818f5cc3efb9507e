/- Contracts: graph.Rows, the reference's RowsOf. The graph as for graph.Check; for RowsOf a good one. -/
import Derived.Test.YtoandhhkmkgmaaaGreatDoorGr3
import Derived.Test.YtoandhhkmkgmaaaGreatDoorReach4
namespace Go.Proofs.YtoandhhkmkgmaaaGreatDoor
open Go.RowKit

theorem bit_raw (s q : Nat) (hs : B64 s) : bits .and .u64 ((s : Int) / 2 ^ q) 1 = if s.testBit q then 1 else 0 := by
  have e : ((s : Int) / 2 ^ q) = ((s / 2 ^ q : Nat) : Int) := by simp
  have h1 : s / 2 ^ q < 18446744073709551616 := Nat.lt_of_le_of_lt (Nat.div_le_self _ _) hs
  have := u64_and_nat (s / 2 ^ q) 1 h1 (by decide)
  rw [e, show (1 : Int) = ((1 : Nat) : Int) from rfl, this, Nat.and_one_is_mod, Nat.testBit_eq_decide_div_mod_eq]
  by_cases h : s / 2 ^ q % 2 = 1
  · simp [h]
  · have : s / 2 ^ q % 2 = 0 := by omega
    simp [this]
theorem box_cells (w : World) (x1 x2 : Value) (t : TypeId) : (w.alloc (.cells #[x1, x2] t)).cell? ⟨w.heap.size, 0, none⟩ = some x1 ∧ (w.alloc (.cells #[x1, x2] t)).cell? ⟨w.heap.size, 1, none⟩ = some x2 := by
  refine ⟨?_, ?_⟩ <;> (rw [World.cell?_alloc_at _ _ _ _ rfl]; rfl)
theorem rows_zero (n : Nat) : List.replicate n (Value.int .u64 0) = (rowsG n []).map uv := by
  unfold rowsG
  rw [List.foldl_nil, List.map_replicate]
  rfl
theorem rowsG_b64 {n : Nat} {E : List EdgeT} (hn : n ≤ 64) (h : E.any (edgeOut n) = false) (q : Nat) : Rows64 (rowsG n (E.take q)) :=
  (rowsG_good hn (by
    rw [List.any_eq_false] at *
    intro x hx
    exact h x (List.mem_of_mem_take hx))).b64
/-- What is made: rows of a graph. -/
def RowsPost (n : Nat) (E : List EdgeT) (w : World) (e : Ending) (w' : World) : Prop :=
  ∃ A c, e = .returned (.slice A n c) ∧ w'.ownsRow w.heap.size 41 1 (.slice A n c) n ((rowsG n E).map uv) ∧ Below w.heap.size w w'
def RowsEPost (n : Nat) (E : List EdgeT) (w : World) (e : Ending) (w' : World) : Prop :=
  ∃ A c, e = .returned (.tuple #[.slice A n c, .int .i64 0]) ∧ w'.ownsRow w.heap.size 41 1 (.slice A n c) n ((rowsG n E).map uv) ∧ Below w.heap.size w w'
section
variable {A1 A2 : Option Addr} {n k c1 c2 : Nat} {N : List (List UInt8)} {E : List EdgeT} {p m : Nat} (w : World) (hG : GrIn A1 n A2 k N E p m w)
include hG
end
end Go.Proofs.YtoandhhkmkgmaaaGreatDoor
/- Contract: the reference's RowsOf, for a good graph. -/
namespace Go.Proofs.YtoandhhkmkgmaaaGreatDoor
open Go.RowKit

section
variable {A1 A2 : Option Addr} {n k c1 c2 : Nat} {N : List (List UInt8)} {E : List EdgeT} {p m : Nat} (w : World) (hG : GrIn A1 n A2 k N E p m w)
include hG
set_option maxHeartbeats 1000000 in
theorem rRowsOf_any (he : grErr N E p m = 0) : Calls Tryz.prog 21 #[gv A1 n c1 A2 k c2 p m] w (RowsPost n E w) := by
  have HG := Lib.hid hG
  obtain ⟨hn, _, _, hout, _, _⟩ := gr_ok he
  rw [hG.nlen] at hn hout
  have HOUT := Lib.hid hout
  have hkb := hG.eb
  have HRB := Lib.hid (rowsG_b64 hn hout)
  unfold gv at *
  obtain ⟨x1, x2, x3, x4, x5⟩ := box_four w (.slice A1 n c1) (.slice A2 k c2) (.int .u64 (p : Int)) (.int .u64 (m : Int)) 43
  have B1 := Lib.hid x5
  have X1 := Lib.hid (GrBox.mk x1 x2 x3 x4)
  clear hG x5 he hout
  go_enter Tryz.func21, Tryz.ntmps21
  go_upto_region 1 with fail
  generalize w.alloc (.cells #[.slice A1 n c1, .slice A2 k c2, .int .u64 (p : Int), .int .u64 (m : Int)] 43) = w2 at *
  have B2 := B1
  have X2 := X1
  go_wp2_with (at_make; refine wpList_new elU64 rfl w2 _ w2.heap.size n .i64 (by omega) (by omega) (Nat.le_refl _) rfl rfl rfl ?_)
  intro w3 hown3 hb3 hlt3
  rw [rows_zero n] at hown3
  have HO3 := Lib.hid hown3
  have HB3 := Lib.hid hb3
  have X3 := Lib.hid (X2.out.below hb3)
  have HG2 := Lib.hid (HG.out.below B2.out)
  clear hown3 hb3 x1 x2 x3 x4 X2 HG X1 B1
  obtain ⟨x1, x2, x3, x4⟩ := X3.out
  go_wp2
  go_loopw [5, 13] (fun _ i wr => ∃ q : Nat, q ≤ k ∧ i = .int .i64 (q : Int) ∧ Hid (wr.ownsRow w2.heap.size 41 1 (.slice (some ⟨w2.heap.size, 0, none⟩) n n) n ((rowsG n (E.take q)).map uv)) ∧ Hid (Below w2.heap.size w2 wr)) (fun _ i _ => k - (intOf i).toNat)
  case atStart => exact ⟨0, by omega, rfl, HO3, HB3⟩
  case round =>
    clear x1 x2 x3 x4
    obtain ⟨q, hq, rfl, hown, hbw⟩ := hrel
    by_cases hlt : q < k
    · obtain ⟨⟨e1, e2⟩, he⟩ : ∃ e, E[q]? = some e := ⟨_, List.getElem?_eq_getElem (by rw [HG2.out.elen]; exact hlt)⟩
      obtain ⟨b, off, rfl, y1, y2⟩ := (HG2.out.edges.below hbw.out).edge he
      simp only at y1 y2
      have hin := edgeG_in HOUT.out (List.mem_of_getElem? he)
      simp only at hin
      obtain ⟨a, rfl⟩ : ∃ a : Nat, e1 = (a : Int) := ⟨e1.toNat, by omega⟩
      obtain ⟨d, rfl⟩ : ∃ d : Nat, e2 = (d : Int) := ⟨e2.toNat, by omega⟩
      have han : a < n := by omega
      have hdn : d < n := by omega
      have hTK : E.take (q + 1) = E.take q ++ [((a : Int), (d : Int))] := by rw [List.take_add_one, he]; rfl
      have HED : Hid (rowsG n (E.take (q + 1)) = (rowsG n (E.take q)).set a (addN (rowAt (rowsG n (E.take q)) a) d)) := Lib.hid (by
        rw [hTK, rowsG_snoc]
        unfold edgeIn
        simp)
      have HRA := Lib.hid (HRB.out q a)
      have HLEN := Lib.hid (rowsG_len n (E.take q))
      have HRW : Hid ((rowsG n (E.take q))[a]? = some (rowAt (rowsG n (E.take q)) a)) := Lib.hid (by have hl : a < (rowsG n (E.take q)).length := (by rw [HLEN.out]; exact han); unfold rowAt; simp [hl])
      have HOA := Lib.hid (hown.out.alloc (.cells #[.int .i64 (a : Int), .int .i64 (d : Int)] 102))
      have HBA := Lib.hid (below_new hbw.out (.cells #[.int .i64 (a : Int), .int .i64 (d : Int)] 102))
      obtain ⟨z1, z2⟩ := box_cells wr (.int .i64 (a : Int)) (.int .i64 (d : Int)) 102
      have hq2 : (q : Int) < (k : Int) := by omega
      clear he hbw hown hin hTK
      go_wp2_with fail
      generalize wr.alloc (.cells #[.int .i64 (a : Int), .int .i64 (d : Int)] 102) = w4 at *
      generalize wr.heap.size = B7 at *
      have hcq : w4.cell? ⟨w2.heap.size, a, none⟩ = some (.int .u64 (rowAt (rowsG n (E.take q)) a : Nat)) := by
        rw [HOA.out.cellAt a (by omega)]
        unfold rowAt
        simp [HLEN.out, han, uv]
      have hfq := HOA.out.frozenAt a
      have her := or_raw (rowAt (rowsG n (E.take q)) a) d HRA.out (by omega)
      have HROW := Lib.hid (HOA.out.stored a (.int .u64 ((addN (rowAt (rowsG n (E.take q)) a) d : Nat) : Int))).1
      have HBS := Lib.hid (HBA.out.setCell (p := ⟨w2.heap.size, a, none⟩) (Nat.le_refl _) (.int .u64 ((addN (rowAt (rowsG n (E.take q)) a) d : Nat) : Int)))
      have hsr := sum_raw (rowAt (rowsG n (E.take q)) a) d HRA.out (by omega)
      generalize rowAt (rowsG n (E.take q)) a = R at *
      clear y1 y2
      cases hbt : R.testBit d with
      | true =>
        have HSM : Hid (addN R d = R) := Lib.hid (addN_same hbt)
        have HBT := Lib.hid hbt
        clear hbt hsr her
        go_quiet ((go_at_call 58; exact quiet_left ((in_nat R HRA.out d _).mono (fun _ _ hh => ⟨by rw [hh.1, HBT.out], hh.2⟩))))
        go_wp2_with fail
        go_roundw
        case rel =>
          refine ⟨q + 1, by omega, by go_num, Lib.hid ?_, Lib.hid (below_drewN HBA.out _)⟩
          have hsame : (rowsG n (E.take q)).set a R = rowsG n (E.take q) := by
            have h1 := HRW.out
            apply List.ext_getElem?
            intro i
            rw [List.getElem?_set]
            by_cases hi : a = i
            · subst hi
              have hl : a < (rowsG n (E.take q)).length := by rw [HLEN.out]; exact han
              rw [if_pos rfl, if_pos hl, h1]
            · rw [if_neg hi]
          rw [HED.out, HSM.out, hsame]
          exact HOA.out
        case measure => simp [intOf]; omega
      | false =>
        have HBT := Lib.hid hbt
        have hsr := hsr hbt
        clear hbt her
        have HRW2 : Hid (∀ qq, ((w4.drewN qq).setCell ⟨w2.heap.size, a, none⟩ (.int .u64 ((addN R d : Nat) : Int))).ownsRow w2.heap.size 41 1 (.slice (some ⟨w2.heap.size, 0, none⟩) n n) n ((rowsG n (E.take (q + 1))).map uv)) := Lib.hid (fun qq => by
          have := ((own_drewN HOA.out qq).stored a (.int .u64 ((addN R d : Nat) : Int))).1
          rw [show (Value.int .u64 ((addN R d : Nat) : Int)) = uv (addN R d) from rfl, ← List.map_set, ← HED.out] at this
          exact this)
        go_quiet ((go_at_call 58; exact quiet_left ((in_nat R HRA.out d _).mono (fun _ _ hh => ⟨by rw [hh.1, HBT.out], hh.2⟩))))
        go_wp2_with fail
        go_region
        go_wp2_with fail
        go_roundw
        case rel =>
          exact ⟨q + 1, by omega, by go_num, Lib.hid (HRW2.out _), Lib.hid ((below_drewN HBA.out _).setCell (Nat.le_refl _) _)⟩
        case measure => simp [intOf]; omega
    · have hqk : ¬ (q : Int) < (k : Int) := by omega
      have HOE : Hid (wr.ownsRow w2.heap.size 41 1 (.slice (some ⟨w2.heap.size, 0, none⟩) n n) n ((rowsG n E).map uv)) := Lib.hid (by
        have := hown.out
        rwa [List.take_of_length_le (by rw [HG2.out.elen]; omega)] at this)
      clear hown
      go_wp2_with fail
      go_ret
      exact ⟨_, _, rfl, own_base HOE.out B2.out.size, below_then B2.out hbw.out⟩
end
end Go.Proofs.YtoandhhkmkgmaaaGreatDoor
