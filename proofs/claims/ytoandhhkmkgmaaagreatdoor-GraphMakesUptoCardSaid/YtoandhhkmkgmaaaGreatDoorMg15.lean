/- Contracts that the law's proof leans on, and plain lemmas to them, merged. No condition beyond each contract's own hypotheses. -/
import Derived.Test.YtoandhhkmkgmaaaGreatDoorShelf
import Derived.Test.YtoandhhkmkgmaaaGreatDoorMg0
import Derived.Test.YtoandhhkmkgmaaaGreatDoorRows
import Derived.Lib.Walk
import Derived.Lib.Builder
import Derived.Lib.AppendStr
import Derived.Lib.UnsafeStr
import Derived.WalkKit
import Derived.Outline
import Derived.Laws.Externs
import Derived.Lib.Hide
import Derived.Lib.OthersKept
import Derived.Test.YtoandhhkmkgmaaaGreatDoorMg6
import Derived.Test.YtoandhhkmkgmaaaGreatDoorMg13
namespace Go.Proofs.YtoandhhkmkgmaaaGreatDoor
open Go.RowKit

theorem bldSize : ∃ j, Tryz.prog.info? 159 = some j ∧ j.size = 2 := by
 have h : (Tryz.prog.info? 159).map (fun i => i.size) = some 2 := by kernel_rfl
 exact Option.map_eq_some_iff.1 h
theorem byteInfo : ∃ i, Tryz.prog.info? 5 = some i ∧ i.zero = some (.int .u8 0) ∧ i.size = 1 ∧ i.bytes = 1 := by
 have h : (Tryz.prog.info? 5).map (fun i => (i.zero, i.size, i.bytes)) = some (some (.int .u8 0), 1, 1) := by kernel_rfl
 cases hi : Tryz.prog.info? 5 with
 | none => rw [hi] at h; cases h
 | some i =>
   rw [hi] at h
   simp at h
   exact ⟨i, rfl, h⟩
theorem wlt_blk {w : World} {b : Nat} {o : Obj} (h : w.heap[b]? = some o) : b < w.heap.size := (Array.getElem?_eq_some_iff.1 h).1
theorem bld_ne : (159 : TypeId) ≠ 5 := by decide
set_option maxHeartbeats 1000000 in
set_option maxRecDepth 100000 in
theorem bld_used (b : Nat) (w : World) (h0 : w.cell? ⟨b, 0, none⟩ = some (.pointer (some ⟨b, 0, none⟩))) :
 Calls Tryz.prog 161 #[.pointer (some ⟨b, 0, none⟩)] w fun e w' => e = .returned (.tuple #[]) ∧ w' = w := by
 obtain ⟨j, hj, _⟩ := bldSize
 go_enter Tryz.func161, Tryz.ntmps161
 go_wp2
 rw [Lib.run_neq_ptr_same w _ Tryz.underlying156 hj]
 go_wp2
 go_end0
 exact ⟨rfl, rfl⟩
set_option maxHeartbeats 1000000 in
set_option maxRecDepth 100000 in
theorem bld_fresh (b : Nat) (w : World) (h0 : w.cell? ⟨b, 0, none⟩ = some (.pointer none)) (hsh : w.shape? b = some (159, 2)) (hfz : w.frozen? ⟨b, 0, none⟩ = false) :
 Calls Tryz.prog 161 #[.pointer (some ⟨b, 0, none⟩)] w fun e w' => e = .returned (.tuple #[]) ∧ w' = w.setCell ⟨b, 0, none⟩ (.pointer (some ⟨b, 0, none⟩)) := by
 obtain ⟨j, hj, hjs⟩ := bldSize
 go_enter Tryz.func161, Tryz.ntmps161
 go_wp2
 rw [Lib.run_to_unsafe w ⟨b, 0, none⟩ Tryz.underlying156 (by kernel_rfl) hj (by rw [hjs]; decide) hsh (Nat.zero_lt_succ 1)]
 simp only [Result.andThen]
 rw [Oper.upon_value]
 go_wp2
 rw [run_callFunc_extern Tryz.func198 (by kernel_rfl) (by kernel_rfl) (by kernel_rfl) (e := Extern.AbiNoEscape.same) (by kernel_rfl)]
 rw [Lib.run_noEscape]
 simp only [Result.andThen]
 rw [Oper.upon_value]
 go_wp2
 rw [Lib.run_from_unsafe w ⟨b, 0, none⟩ (by kernel_rfl) Tryz.underlying156 hj hsh (by kernel_rfl)]
 simp only [Result.andThen]
 rw [Oper.upon_value]
 go_wp2
 go_end0
 exact ⟨rfl, rfl⟩
theorem bld_check (B b : Nat) (bs : List Value) (w : World) (h : Lib.IsBuilder 159 5 B b bs w) :
 Calls Tryz.prog 161 #[.pointer (some ⟨b, 0, none⟩)] w fun e w' => e = .returned (.tuple #[]) ∧ Lib.BuilderAt 159 5 B b (.pointer (some ⟨b, 0, none⟩)) bs w' ∧ Below B w w' ∧ Lib.OthersKept 5 (some b) w w' := by
 rcases h with h | h
 ·refine (bld_fresh b w h.cell0 h.shape h.frozen0).mono ?_
  rintro e w' ⟨rfl, rfl⟩
  exact ⟨rfl, h.used _, (Below.refl B w).setCell (p := ⟨b, 0, none⟩) h.1 _, (Lib.OthersKept.refl _ _ w).setCell ⟨b, 0, none⟩ rfl _⟩
 ·refine (bld_used b w h.cell0).mono ?_
  rintro e w' ⟨rfl, rfl⟩
  exact ⟨rfl, h, Below.refl B _, Lib.OthersKept.refl _ _ _⟩
set_option maxHeartbeats 2000000 in
set_option maxRecDepth 100000 in
theorem bld_str (B b : Nat) (bs : List Value) (s : ByteArray) (w : World) (h : Lib.IsBuilder 159 5 B b bs w) (hlen : bs.length + s.size ≤ 140737488355328) (hBw : B ≤ w.heap.size) :
 Calls Tryz.prog 103 #[.pointer (some ⟨b, 0, none⟩), .string s] w fun e w' => e = .returned (.tuple #[.int .i64 s.size, .nilIface]) ∧ Lib.BuilderAt 159 5 B b (.pointer (some ⟨b, 0, none⟩)) (bs ++ Lib.strCells s) w' ∧ Below B w w' ∧ Lib.OthersKept 5 (some b) w w' := by
 obtain ⟨i0, hi, hz0, hz1, hz2⟩ := byteInfo
 have HC := Lib.hid (bld_check B b bs w h)
 clear h
 go_enter Tryz.func103, Tryz.ntmps103
 go_wp2_with fail
 refine HC.out.mono ?_
 rintro e w1 ⟨rfl, h1, hb1, hk1⟩
 have HB1 := Lib.hid hb1
 have HK1 := Lib.hid hk1
 clear hk1
 obtain ⟨hB, v, hbk, hown, hne⟩ := h1
 have c0 : w1.cell? ⟨b, 0, none⟩ = some (.pointer (some ⟨b, 0, none⟩)) := by rw [Lib.cell_of_heap hbk]; rfl
 have c1 : w1.cell? ⟨b, 1, none⟩ = some v := by rw [Lib.cell_of_heap hbk]; rfl
 have HBK := Lib.hid hbk
 have HO := Lib.hid hown
 have HN := Lib.hid hne
 clear hb1 hbk hown hne HC
 go_wp2_with (at_builtin; refine Lib.wpList_append_own_string _ rfl _ _ 157 9 rfl B 5 i0 Tryz.underlying157 Tryz.underlying9 hi hz0 hz1 hz2 _ _ _ rfl HO.out s rfl ?c3 ?c4 ?c5 ?_)
 case c3 => unfold maxLen; omega
 case c4 => omega
 case c5 => have := HB1.out.size; omega
 intro v' w2 hown' hgrow _
 have hlt : b < w1.heap.size := wlt_blk HBK.out
 have hb2 : w2.heap[b]? = some (.cells #[.pointer (some ⟨b, 0, none⟩), v] 159 (0, 0)) := by
  rw [hgrow.block b hlt (fun e => HN.out e.symm)]
  exact HBK.out
 have d0 : w2.cell? ⟨b, 0, none⟩ = some (.pointer (some ⟨b, 0, none⟩)) := by rw [Lib.cell_of_heap hb2]; rfl
 have d1 : w2.cell? ⟨b, 1, none⟩ = some v := by rw [Lib.cell_of_heap hb2]; rfl
 have f1 : w2.frozen? ⟨b, 1, none⟩ = false := Lib.frozen_of_heap hb2 1
 obtain ⟨ao, n', cap, rfl⟩ : ∃ ao n' cap, v' = .slice ao n' cap := by
  rcases hown'.2 with ⟨hv, _⟩ | ⟨g, cap, cur, hv, _⟩
  ·exact ⟨_, _, _, hv⟩
  ·exact ⟨_, _, _, hv⟩
 have HG := Lib.hid hgrow
 have HO' := Lib.hid hown'
 have HB2 := Lib.hid hb2
 clear hgrow hown' hb2
 go_wp2_with fail
 go_ret2
 refine ⟨rfl, ?_, ?_, (HK1.out.grown HG.out (Lib.ownsRowF_kind (World.ownsRowF_of HO.out))).setCell ⟨b, 1, none⟩ rfl _⟩
 ·exact Lib.BuilderAt.put (T := 159) (e := 5) hB HB2.out (bs' := bs ++ Lib.strCells s) (by simpa [Lib.strCells_length] using HO'.out) bld_ne
 ·exact (HB1.out.grown HG.out (by have := HB1.out.size; omega) (fun k hk => (HO.out.lt k hk).1)).setCell (p := ⟨b, 1, none⟩) hB _
end Go.Proofs.YtoandhhkmkgmaaaGreatDoor
namespace Go.Proofs.YtoandhhkmkgmaaaGreatDoor
open Go.RowKit

def joinSp : List (List UInt8) → List UInt8
 | [] => []
 | x :: xs => x ++ xs.flatMap fun s => 32 :: s
def lens (l : List (List UInt8)) (k : Nat) : Nat := ((l.take k).map List.length).sum
theorem lens_succ {l : List (List UInt8)} {k : Nat} {x : List UInt8} (h : l[k]? = some x) : lens l (k + 1) = lens l k + x.length := by unfold lens; rw [take_snocS h]; simp
def tailSp (l : List (List UInt8)) (k : Nat) : List UInt8 := (l.take k).flatMap fun s => 32 :: s
theorem tailSp_succ {l : List (List UInt8)} {k : Nat} {x : List UInt8} (h : l[k]? = some x) : tailSp l (k + 1) = tailSp l k ++ [32] ++ x := by unfold tailSp; rw [take_snocS h]; simp
theorem tailSp_len (l : List (List UInt8)) (k : Nat) : (tailSp l k).length = lens l k + (l.take k).length := by
 unfold tailSp lens
 induction l.take k with
 | nil => rfl
 | cons x l ih => simp only [List.flatMap_cons, List.length_append, List.length_cons, List.map_cons, List.sum_cons, ih]; omega
theorem lens_le (l : List (List UInt8)) (k : Nat) : lens l k ≤ lens l l.length := by
 unfold lens
 rw [List.take_length]
 conv => rhs; rw [← List.take_append_drop k l]
 rw [List.map_append, List.sum_append]
 omega
set_option maxRecDepth 100000 in
set_option maxHeartbeats 4000000 in
theorem joinSp_any {A : Option Addr} {n c : Nat} (x0 : List UInt8) (l : List (List UInt8)) (w : World) (hr : Rd w A ((x0 :: l).map sv)) (hn : l.length + 1 = n) (h2 : 2 ≤ n) (hb : n ≤ 2097152) (hnc : n ≤ c) (hs : lens (x0 :: l) n ≤ 1099511627776) :
 Calls Tryz.prog 95 #[.slice A n c, .string ⟨#[32]⟩] w fun e w' => e = .returned (.string ⟨(joinSp (x0 :: l)).toArray⟩) ∧ Below w.heap.size w w' := by
 have HR := Lib.hid hr
 have HN := Lib.hid hn
 have HS := Lib.hid hs
 have HLE := Lib.hid (lens_le (x0 :: l))
 rw [show (x0 :: l).length = n by rw [List.length_cons]; exact hn] at HLE
 clear hr hn hs
 obtain ⟨b, off, rfl, hc0⟩ := HR.out.scell (k := 0) rfl
 have HC0 := Lib.hid hc0
 clear hc0
 have k1 : ((n : Int) == 0) = false := by simp; omega
 have k3 : decide (9223372036854775807 / ((n : Int) - 1) ≤ 1) = false := by
  have h := (Int.le_ediv_iff_mul_le (a := 2) (b := 9223372036854775807) (c := (n : Int) - 1) (by omega)).2 (by omega)
  simp
  omega
 have k2 : ((n : Int) == 1) = false := by simp; omega
 go_enter Tryz.func95, Tryz.ntmps95
 go_wp2_with fail
 go_loop [5, 7, 41] (fun x _ i => ∃ k : Nat, k ≤ n ∧ i = .int .i64 (k : Int) ∧ x = .int .i64 ((n : Int) - 1 + (lens (x0 :: l) k : Int))) (fun _ _ i => n - (intOf i).toNat)
 case atStart => exact ⟨0, by omega, rfl, by simp [lens]⟩
 case round =>
  obtain ⟨k, hk, rfl, rfl⟩ := hrel
  by_cases hlt : k < n
  ·obtain ⟨x, hx⟩ : ∃ x, (x0 :: l)[k]? = some x := ⟨_, List.getElem?_eq_getElem (by rw [List.length_cons, HN.out]; exact hlt)⟩
   obtain ⟨b', off', he, hc⟩ := HR.out.scell hx
   injection he with he
   injection he with he1 he2 _
   subst he1 he2
   have hsum := lens_succ hx
   have h1 := HLE.out (k + 1)
   have h2' := HS.out
   have HSUM : Hid ((n : Int) - 1 + (lens (x0 :: l) (k + 1) : Int) = (n : Int) - 1 + (lens (x0 :: l) k : Int) + (x.length : Int)) := Lib.hid (by rw [hsum]; omega)
   have hm : lens (x0 :: l) k + x.length ≤ 1099511627776 := by omega
   have hsz : (⟨x.toArray⟩ : ByteArray).size = x.length := rfl
   generalize (⟨x.toArray⟩ : ByteArray) = bx at *
   clear hx hsum h1 h2'
   generalize lens (x0 :: l) k = m at *
   have hk1 : (k : Int) < (n : Int) := by omega
   have hov : decide (9223372036854775807 - ((n : Int) - 1 + (m : Int)) < (bx.size : Int)) = false := by simp; omega
   rw [← hsz] at HSUM hm
   clear hsz
   go_wp2_with fail
   go_round
   case rel => exact ⟨k + 1, by omega, by go_num, congrArg (Value.int .i64) HSUM.out.symm⟩
   case measure => simp [intOf]; omega
  ·obtain rfl : k = n := by omega
   obtain ⟨N, hN⟩ : ∃ N : Nat, (k : Int) - 1 + (lens (x0 :: l) k : Int) = (N : Int) := ⟨k - 1 + lens (x0 :: l) k, by omega⟩
   have hNB : N ≤ 281474976710656 := by have := HS.out; omega
   rw [hN]
   have HG := Lib.hid (Tryz.Builder_Grow_fresh w.heap.size w.heap.size N (w.alloc (.cells #[.pointer none, .slice none 0 0] 159)) (Nat.le_refl _) (heap_alloc_new _ _) (by simp) hNB)
   have HA0 : Hid (Below w.heap.size w (w.alloc (.cells #[.pointer none, .slice none 0 0] 159))) := Lib.hid (below_new (Below.refl _ _) _)
   clear hNB hN
   go_wp2_with fail
   refine HG.out.mono ?_
   rintro e w1 ⟨rfl, hbd, hb1⟩
   have HB1 := Lib.hid (HA0.out.trans hb1)
   have HD1 := Lib.hid hbd
   have hc1 : w1.cell? ⟨b, off, none⟩ = some (.string ⟨x0.toArray⟩) := cell_kept HC0.out HB1.out
   have HX0 : Hid (x0.length ≤ 1099511627776) := Lib.hid (by
    have h := HLE.out 1
    rw [show lens (x0 :: l) 1 = x0.length by simp [lens]] at h
    have := HS.out
    omega)
   have HW := Lib.hid (bld_str w.heap.size w.heap.size [] ⟨x0.toArray⟩ w1 (.inr HD1.out) (by have := HX0.out; show 0 + x0.length ≤ _; omega) HB1.out.size)
   generalize hbx : (⟨x0.toArray⟩ : ByteArray) = bx0 at *
   have HBX := Lib.hid hbx
   clear hbd hb1 hbx
   go_wp2_with fail
   refine HW.out.mono ?_
   rintro e w2 ⟨rfl, hd2, hb2, _⟩
   have HB2 := Lib.hid (HB1.out.trans hb2)
   have HD2 : Hid (Lib.BuilderAt 159 5 w.heap.size w.heap.size (.pointer (some ⟨w.heap.size, 0, none⟩)) (Lib.byteCells (x0 ++ tailSp l 0)) w2) := Lib.hid (by
    have h := hd2
    rw [← HBX.out] at h
    have e : Lib.byteCells (x0 ++ tailSp l 0) = [] ++ Lib.strCells ⟨x0.toArray⟩ := by
     rw [List.nil_append, show tailSp l 0 = [] from rfl, List.append_nil]
     rfl
    rw [e]
    exact h)
   clear hd2 hb2 hc1
   go_wp2_with fail
   go_loopw [10, 65] (fun _ y wr => ∃ j : Nat, j ≤ l.length ∧ y = .int .i64 (j : Int) ∧ Hid (Lib.BuilderAt 159 5 w.heap.size w.heap.size (.pointer (some ⟨w.heap.size, 0, none⟩)) (Lib.byteCells (x0 ++ tailSp l j)) wr) ∧ Hid (Below w.heap.size w wr)) (fun _ y _ => l.length - (intOf y).toNat)
   case atStart => exact ⟨0, Nat.zero_le _, rfl, HD2, HB2⟩
   case round =>
    obtain ⟨j, hj, rfl, HD, HB⟩ := hrel
    have hnl := HN.out
    by_cases hlt : j < l.length
    ·obtain ⟨x, hx⟩ : ∃ x, l[j]? = some x := ⟨_, List.getElem?_eq_getElem hlt⟩
     have hx1 : (x0 :: l)[j + 1]? = some x := by simpa using hx
     obtain ⟨b', off', he, hc⟩ := (HR.out.below HB.out).scell hx1
     injection he with he
     injection he with he1 he2 _
     subst he1 he2
     have hc : wr.cell? ⟨b, off + 1 + j, none⟩ = some (.string ⟨x.toArray⟩) := by rw [show off + 1 + j = off + (j + 1) by omega]; exact hc
     have HT := Lib.hid (tailSp_succ hx)
     have HLN : Hid ((x0 ++ tailSp l j).length + 1 + x.length ≤ 2000000000000) := Lib.hid (by
      have h1 := tailSp_len l (j + 1)
      have h2 := tailSp_succ hx
      rw [h2] at h1
      simp only [List.length_append, List.length_singleton, List.length_take] at h1
      have h3 : x0.length + lens l (j + 1) ≤ 1099511627776 := by
       have h := HLE.out (j + 2)
       have h4 := HS.out
       have e : lens (x0 :: l) (j + 2) = x0.length + lens l (j + 1) := by simp [lens]
       omega
      rw [List.length_append]
      omega)
     have HW1 := Lib.hid (bld_str w.heap.size w.heap.size (Lib.byteCells (x0 ++ tailSp l j)) ⟨#[32]⟩ wr (.inr HD.out) (by rw [Lib.byteCells_length]; have := HLN.out; show _ + 1 ≤ _; omega) HB.out.size)
     have HBX2 : Hid (∀ W, Lib.BuilderAt 159 5 w.heap.size w.heap.size (.pointer (some ⟨w.heap.size, 0, none⟩)) (Lib.byteCells (x0 ++ tailSp l j) ++ Lib.strCells ⟨#[32]⟩) W → Below w.heap.size w W →
      Calls Tryz.prog 103 #[.pointer (some ⟨w.heap.size, 0, none⟩), .string ⟨x.toArray⟩] W fun e w' => e = .returned (.tuple #[.int .i64 (⟨x.toArray⟩ : ByteArray).size, .nilIface]) ∧ Lib.BuilderAt 159 5 w.heap.size w.heap.size (.pointer (some ⟨w.heap.size, 0, none⟩)) (Lib.byteCells (x0 ++ tailSp l (j + 1))) w' ∧ Below w.heap.size W w') := Lib.hid (fun W hW hb => by
      refine (bld_str w.heap.size w.heap.size _ ⟨x.toArray⟩ W (.inr hW) (by rw [List.length_append, Lib.byteCells_length, Lib.strCells_length]; have := HLN.out; show _ + 1 + x.length ≤ _; omega) hb.size).mono ?_
      rintro e w' ⟨rfl, h1, h2, _⟩
      refine ⟨rfl, ?_, h2⟩
      have e : Lib.byteCells (x0 ++ tailSp l (j + 1)) = Lib.byteCells (x0 ++ tailSp l j) ++ Lib.strCells ⟨#[32]⟩ ++ Lib.strCells ⟨x.toArray⟩ := by
       rw [HT.out]
       show List.map _ _ = List.map _ _ ++ List.map _ [32] ++ List.map _ x
       simp
      rw [e]
      exact h1)
     have hj1 : (j : Int) < (k : Int) - 1 := by omega
     have hj2 : j < k - 1 := by omega
     generalize (⟨x.toArray⟩ : ByteArray) = bx at *
     clear hx hx1 hnl
     go_wp2_with fail
     refine HW1.out.mono ?_
     rintro e w5 ⟨rfl, hd5, hb5, _⟩
     have HB5 := Lib.hid (HB.out.trans hb5)
     have HD5 := Lib.hid hd5
     clear hd5 hb5
     go_wp2_with fail
     refine (HBX2.out _ HD5.out HB5.out).mono ?_
     rintro e w6 ⟨rfl, hd6, hb6⟩
     have HB6 := Lib.hid (HB5.out.trans hb6)
     have HD6 := Lib.hid hd6
     clear hd6 hb6
     go_wp2_with fail
     exact ⟨⟨j + 1, by omega, rfl, HD6, HB6⟩, (by simp [intOf]; omega)⟩
    ·obtain rfl : j = l.length := by omega
     have HST := Lib.hid (Tryz.Builder_String_any w.heap.size w.heap.size (x0 ++ tailSp l l.length) wr (.inr HD.out) HB.out.size)
     have HE : Hid (joinSp (x0 :: l) = x0 ++ tailSp l l.length) := Lib.hid (by unfold tailSp; rw [List.take_length]; rfl)
     have hj1 : ((l.length : Nat) : Int) = (k : Int) - 1 := by omega
     clear hnl
     go_wp2_with fail
     refine HST.out.mono ?_
     rintro e w5 ⟨rfl, hb5⟩
     have HB5 := Lib.hid (HB.out.trans hb5)
     clear hb5
     go_wp2_with fail
     go_ret
     exact ⟨by rw [HE.out]; rfl, HB5.out⟩
def rlText (r : RuleT) : List UInt8 := (r.1.flatMap fun t => t ++ [32]) ++ [58] ++ r.2.flatMap fun n => 32 :: n
theorem flat_shift : ∀ (x : List UInt8) (l : List (List UInt8)), x ++ (l.flatMap fun s => 32 :: s) ++ [32] = (x :: l).flatMap fun t => t ++ [32]
 | x, [] => by simp
 | x, y :: l => by
   have ih := flat_shift y l
   show x ++ (32 :: y ++ l.flatMap _) ++ [32] = (x ++ [32]) ++ ((y :: l).flatMap fun t => t ++ [32])
   rw [← ih]
   simp
theorem join_text {r : RuleT} (h : 0 < r.1.length) : joinSp (r.1 ++ [58] :: r.2) = rlText r := by
 obtain ⟨ts, ns⟩ := r
 cases ts with
 | nil => simp at h
 | cons x l =>
   show x ++ ((l ++ [58] :: ns).flatMap fun s => 32 :: s) = _
   unfold rlText
   rw [← flat_shift, List.flatMap_append, List.flatMap_cons]
   simp
section
variable {A1 A2 : Option Addr} {n1 c1 n2 c2 : Nat} {r : RuleT} (w : World) (hr : RlIn A1 n1 c1 A2 n2 c2 r w)
include hr
end
end Go.Proofs.YtoandhhkmkgmaaaGreatDoor
