/- Contract: strings.Join of two or more texts by a blank. At most 1000 texts, of at most 2^40 bytes together. -/
import Derived.Test.YtbgcbigplegpmaaDoorRl2
import Derived.Test.YtbgcbigplegpmaaDoorLnBld
import Derived.Test.YtbgcbigplegpmaaDoorShelf5
namespace Go.Proofs.YtbgcbigplegpmaaDoor
open Go.RowKit

/-- Texts, one behind the other, a blank between two. -/
def joinSp : List (List UInt8) → List UInt8
  | [] => []
  | x :: xs => x ++ xs.flatMap fun s => 32 :: s
def lens (l : List (List UInt8)) (k : Nat) : Nat := ((l.take k).map List.length).sum
theorem lens_succ {l : List (List UInt8)} {k : Nat} {x : List UInt8} (h : l[k]? = some x) : lens l (k + 1) = lens l k + x.length := by unfold lens; rw [take_snocS h]; simp
def tailSp (l : List (List UInt8)) (k : Nat) : List UInt8 := (l.take k).flatMap fun s => 32 :: s
theorem tailSp_succ {l : List (List UInt8)} {k : Nat} {x : List UInt8} (h : l[k]? = some x) : tailSp l (k + 1) = tailSp l k ++ [32] ++ x := by unfold tailSp; rw [take_snocS h]; simp
theorem tailSp_len (l : List (List UInt8)) (k : Nat) : (tailSp l k).length = lens l k + (l.take k).length := by
  unfold tailSp lens
  induction l.take k with
  | nil => rfl
  | cons x l ih => simp only [List.flatMap_cons, List.length_append, List.length_cons, List.map_cons, List.sum_cons, ih]; omega
theorem lens_le (l : List (List UInt8)) (k : Nat) : lens l k ≤ lens l l.length := by
  unfold lens
  rw [List.take_length]
  conv => rhs; rw [← List.take_append_drop k l]
  rw [List.map_append, List.sum_append]
  omega
set_option maxRecDepth 100000 in
set_option maxHeartbeats 4000000 in
theorem joinSp_any {A : Option Addr} {n c : Nat} (x0 : List UInt8) (l : List (List UInt8)) (w : World) (hr : Rd w A ((x0 :: l).map sv)) (hn : l.length + 1 = n) (h2 : 2 ≤ n) (hb : n ≤ 1000) (hnc : n ≤ c) (hs : lens (x0 :: l) n ≤ 1099511627776) :
    Calls Tryd.prog 13 #[.slice A n c, .string ⟨#[32]⟩] w fun e w' => e = .returned (.string ⟨(joinSp (x0 :: l)).toArray⟩) ∧ Below w.heap.size w w' := by
  have HR := Lib.hid hr
  have HN := Lib.hid hn
  have HS := Lib.hid hs
  have HLE := Lib.hid (lens_le (x0 :: l))
  rw [show (x0 :: l).length = n by rw [List.length_cons]; exact hn] at HLE
  clear hr hn hs
  obtain ⟨b, off, rfl, hc0⟩ := HR.out.scell (k := 0) rfl
  have HC0 := Lib.hid hc0
  clear hc0
  have k1 : ((n : Int) == 0) = false := by simp; omega
  have k3 : decide (9223372036854775807 / ((n : Int) - 1) ≤ 1) = false := by
    have h := (Int.le_ediv_iff_mul_le (a := 2) (b := 9223372036854775807) (c := (n : Int) - 1) (by omega)).2 (by omega)
    simp
    omega
  have k2 : ((n : Int) == 1) = false := by simp; omega
  go_enter Tryd.func13, Tryd.ntmps13
  go_wp2_with fail
  go_loop [5, 7, 41] (fun x _ i => ∃ k : Nat, k ≤ n ∧ i = .int .i64 (k : Int) ∧ x = .int .i64 ((n : Int) - 1 + (lens (x0 :: l) k : Int))) (fun _ _ i => n - (intOf i).toNat)
  case atStart => exact ⟨0, by omega, rfl, by simp [lens]⟩
  case round =>
    obtain ⟨k, hk, rfl, rfl⟩ := hrel
    by_cases hlt : k < n
    · obtain ⟨x, hx⟩ : ∃ x, (x0 :: l)[k]? = some x := ⟨_, List.getElem?_eq_getElem (by rw [List.length_cons, HN.out]; exact hlt)⟩
      obtain ⟨b', off', he, hc⟩ := HR.out.scell hx
      injection he with he
      injection he with he1 he2 _
      subst he1 he2
      have hsum := lens_succ hx
      have h1 := HLE.out (k + 1)
      have h2' := HS.out
      have HSUM : Hid ((n : Int) - 1 + (lens (x0 :: l) (k + 1) : Int) = (n : Int) - 1 + (lens (x0 :: l) k : Int) + (x.length : Int)) := Lib.hid (by rw [hsum]; omega)
      have hm : lens (x0 :: l) k + x.length ≤ 1099511627776 := by omega
      have hsz : (⟨x.toArray⟩ : ByteArray).size = x.length := rfl
      generalize (⟨x.toArray⟩ : ByteArray) = bx at *
      clear hx hsum h1 h2'
      generalize lens (x0 :: l) k = m at *
      have hk1 : (k : Int) < (n : Int) := by omega
      have hov : decide (9223372036854775807 - ((n : Int) - 1 + (m : Int)) < (bx.size : Int)) = false := by simp; omega
      rw [← hsz] at HSUM hm
      clear hsz
      go_wp2_with fail
      go_round
      case rel => exact ⟨k + 1, by omega, by go_num, congrArg (Value.int .i64) HSUM.out.symm⟩
      case measure => simp [intOf]; omega
    · obtain rfl : k = n := by omega
      obtain ⟨N, hN⟩ : ∃ N : Nat, (k : Int) - 1 + (lens (x0 :: l) k : Int) = (N : Int) := ⟨k - 1 + lens (x0 :: l) k, by omega⟩
      have hNB : N ≤ 281474976710656 := by have := HS.out; omega
      rw [hN]
      have HG := Lib.hid (Tryd.Builder_Grow_fresh w.heap.size w.heap.size N (w.alloc (.cells #[.pointer none, .slice none 0 0] 57)) (Nat.le_refl _) (heap_alloc_new _ _) (by simp) hNB)
      have HA0 : Hid (Below w.heap.size w (w.alloc (.cells #[.pointer none, .slice none 0 0] 57))) := Lib.hid (below_new (Below.refl _ _) _)
      clear hNB hN
      go_wp2_with fail
      refine HG.out.mono ?_
      rintro e w1 ⟨rfl, hbd, hb1⟩
      have HB1 := Lib.hid (HA0.out.trans hb1)
      have HD1 := Lib.hid hbd
      have hc1 : w1.cell? ⟨b, off, none⟩ = some (.string ⟨x0.toArray⟩) := cell_kept HC0.out HB1.out
      have HX0 : Hid (x0.length ≤ 1099511627776) := Lib.hid (by
        have h := HLE.out 1
        rw [show lens (x0 :: l) 1 = x0.length by simp [lens]] at h
        have := HS.out
        omega)
      have HW := Lib.hid (bld_str w.heap.size w.heap.size [] ⟨x0.toArray⟩ w1 (.inr HD1.out) (by have := HX0.out; show 0 + x0.length ≤ _; omega) HB1.out.size)
      generalize hbx : (⟨x0.toArray⟩ : ByteArray) = bx0 at *
      have HBX := Lib.hid hbx
      clear hbd hb1 hbx
      go_wp2_with fail
      refine HW.out.mono ?_
      rintro e w2 ⟨rfl, hd2, hb2, _⟩
      have HB2 := Lib.hid (HB1.out.trans hb2)
      have HD2 : Hid (Lib.BuilderAt 57 5 w.heap.size w.heap.size (.pointer (some ⟨w.heap.size, 0, none⟩)) (Lib.byteCells (x0 ++ tailSp l 0)) w2) := Lib.hid (by
        have h := hd2
        rw [← HBX.out] at h
        have e : Lib.byteCells (x0 ++ tailSp l 0) = [] ++ Lib.strCells ⟨x0.toArray⟩ := by
          rw [List.nil_append, show tailSp l 0 = [] from rfl, List.append_nil]
          rfl
        rw [e]
        exact h)
      clear hd2 hb2 hc1
      go_wp2_with fail
      go_loopw [10, 65] (fun _ y wr => ∃ j : Nat, j ≤ l.length ∧ y = .int .i64 (j : Int) ∧ Hid (Lib.BuilderAt 57 5 w.heap.size w.heap.size (.pointer (some ⟨w.heap.size, 0, none⟩)) (Lib.byteCells (x0 ++ tailSp l j)) wr) ∧ Hid (Below w.heap.size w wr)) (fun _ y _ => l.length - (intOf y).toNat)
      case atStart => exact ⟨0, Nat.zero_le _, rfl, HD2, HB2⟩
      case round =>
        obtain ⟨j, hj, rfl, HD, HB⟩ := hrel
        have hnl := HN.out
        by_cases hlt : j < l.length
        · obtain ⟨x, hx⟩ : ∃ x, l[j]? = some x := ⟨_, List.getElem?_eq_getElem hlt⟩
          have hx1 : (x0 :: l)[j + 1]? = some x := by simpa using hx
          obtain ⟨b', off', he, hc⟩ := (HR.out.below HB.out).scell hx1
          injection he with he
          injection he with he1 he2 _
          subst he1 he2
          have hc : wr.cell? ⟨b, off + 1 + j, none⟩ = some (.string ⟨x.toArray⟩) := by rw [show off + 1 + j = off + (j + 1) by omega]; exact hc
          have HT := Lib.hid (tailSp_succ hx)
          have HLN : Hid ((x0 ++ tailSp l j).length + 1 + x.length ≤ 2000000000000) := Lib.hid (by
            have h1 := tailSp_len l (j + 1)
            have h2 := tailSp_succ hx
            rw [h2] at h1
            simp only [List.length_append, List.length_singleton, List.length_take] at h1
            have h3 : x0.length + lens l (j + 1) ≤ 1099511627776 := by
              have h := HLE.out (j + 2)
              have h4 := HS.out
              have e : lens (x0 :: l) (j + 2) = x0.length + lens l (j + 1) := by simp [lens]
              omega
            rw [List.length_append]
            omega)
          have HW1 := Lib.hid (bld_str w.heap.size w.heap.size (Lib.byteCells (x0 ++ tailSp l j)) ⟨#[32]⟩ wr (.inr HD.out) (by rw [Lib.byteCells_length]; have := HLN.out; show _ + 1 ≤ _; omega) HB.out.size)
          have HBX2 : Hid (∀ W, Lib.BuilderAt 57 5 w.heap.size w.heap.size (.pointer (some ⟨w.heap.size, 0, none⟩)) (Lib.byteCells (x0 ++ tailSp l j) ++ Lib.strCells ⟨#[32]⟩) W → Below w.heap.size w W →
              Calls Tryd.prog 30 #[.pointer (some ⟨w.heap.size, 0, none⟩), .string ⟨x.toArray⟩] W fun e w' => e = .returned (.tuple #[.int .i64 (⟨x.toArray⟩ : ByteArray).size, .nilIface]) ∧ Lib.BuilderAt 57 5 w.heap.size w.heap.size (.pointer (some ⟨w.heap.size, 0, none⟩)) (Lib.byteCells (x0 ++ tailSp l (j + 1))) w' ∧ Below w.heap.size W w') := Lib.hid (fun W hW hb => by
            refine (bld_str w.heap.size w.heap.size _ ⟨x.toArray⟩ W (.inr hW) (by rw [List.length_append, Lib.byteCells_length, Lib.strCells_length]; have := HLN.out; show _ + 1 + x.length ≤ _; omega) hb.size).mono ?_
            rintro e w' ⟨rfl, h1, h2, _⟩
            refine ⟨rfl, ?_, h2⟩
            have e : Lib.byteCells (x0 ++ tailSp l (j + 1)) = Lib.byteCells (x0 ++ tailSp l j) ++ Lib.strCells ⟨#[32]⟩ ++ Lib.strCells ⟨x.toArray⟩ := by
              rw [HT.out]
              show List.map _ _ = List.map _ _ ++ List.map _ [32] ++ List.map _ x
              simp
            rw [e]
            exact h1)
          have hj1 : (j : Int) < (k : Int) - 1 := by omega
          have hj2 : j < k - 1 := by omega
          generalize (⟨x.toArray⟩ : ByteArray) = bx at *
          clear hx hx1 hnl
          go_wp2_with fail
          refine HW1.out.mono ?_
          rintro e w5 ⟨rfl, hd5, hb5, _⟩
          have HB5 := Lib.hid (HB.out.trans hb5)
          have HD5 := Lib.hid hd5
          clear hd5 hb5
          go_wp2_with fail
          refine (HBX2.out _ HD5.out HB5.out).mono ?_
          rintro e w6 ⟨rfl, hd6, hb6⟩
          have HB6 := Lib.hid (HB5.out.trans hb6)
          have HD6 := Lib.hid hd6
          clear hd6 hb6
          go_wp2_with fail
          exact ⟨⟨j + 1, by omega, rfl, HD6, HB6⟩, (by simp [intOf]; omega)⟩
        · obtain rfl : j = l.length := by omega
          have HST := Lib.hid (Tryd.Builder_String_any w.heap.size w.heap.size (x0 ++ tailSp l l.length) wr (.inr HD.out) HB.out.size)
          have HE : Hid (joinSp (x0 :: l) = x0 ++ tailSp l l.length) := Lib.hid (by unfold tailSp; rw [List.take_length]; rfl)
          have hj1 : ((l.length : Nat) : Int) = (k : Int) - 1 := by omega
          clear hnl
          go_wp2_with fail
          refine HST.out.mono ?_
          rintro e w5 ⟨rfl, hb5⟩
          have HB5 := Lib.hid (HB.out.trans hb5)
          clear hb5
          go_wp2_with fail
          go_ret
          exact ⟨by rw [HE.out]; rfl, HB5.out⟩
/-! ### A rule's text -/
def rlText (r : RuleT) : List UInt8 := (r.1.flatMap fun t => t ++ [32]) ++ [58] ++ r.2.flatMap fun n => 32 :: n
theorem flat_shift : ∀ (x : List UInt8) (l : List (List UInt8)), x ++ (l.flatMap fun s => 32 :: s) ++ [32] = (x :: l).flatMap fun t => t ++ [32]
  | x, [] => by simp
  | x, y :: l => by
    have ih := flat_shift y l
    show x ++ (32 :: y ++ l.flatMap _) ++ [32] = (x ++ [32]) ++ ((y :: l).flatMap fun t => t ++ [32])
    rw [← ih]
    simp
theorem join_text {r : RuleT} (h : 0 < r.1.length) : joinSp (r.1 ++ [58] :: r.2) = rlText r := by
  obtain ⟨ts, ns⟩ := r
  cases ts with
  | nil => simp at h
  | cons x l =>
    show x ++ ((l ++ [58] :: ns).flatMap fun s => 32 :: s) = _
    unfold rlText
    rw [← flat_shift, List.flatMap_append, List.flatMap_cons]
    simp
def PrPost (r : RuleT) (w : World) (e : Ending) (w' : World) : Prop :=
  e = .returned (.tuple #[.string ⟨(if rlE r = 0 then rlText r else []).toArray⟩, .int .i64 (rlE r : Nat)]) ∧ Below w.heap.size w w'
theorem lens_good {l : List (List UInt8)} (h : ∀ s ∈ l, s.length ≤ 40) : ∀ k, lens l k ≤ 40 * k
  | 0 => by simp [lens]
  | k + 1 => by
    have ih := lens_good h k
    by_cases hk : k < l.length
    · have h1 := lens_succ (List.getElem?_eq_getElem hk)
      have h2 := h _ (List.getElem_mem hk)
      omega
    · have h1 : lens l (k + 1) = lens l k := by unfold lens; rw [List.take_of_length_le (by omega), List.take_of_length_le (by omega)]
      omega
section
variable {A1 A2 : Option Addr} {n1 c1 n2 c2 : Nat} {r : RuleT} (w : World) (hr : RlIn A1 n1 c1 A2 n2 c2 r w)
include hr
set_option maxRecDepth 100000 in
set_option maxHeartbeats 4000000 in
theorem rlPrint_any : Calls Tryd.prog 4 #[rlV A1 n1 c1 A2 n2 c2] w (PrPost r w) := by
  have HR := Lib.hid hr
  obtain ⟨x, y⟩ := box_two w (.slice A1 n1 c1) (.slice A2 n2 c2) 24
  have X := Lib.hid x
  have Y := Lib.hid y
  have HCK := Lib.hid (rlCheck_any _ (hr.below y))
  clear hr y
  unfold rlV at *
  go_enter Tryd.func4, Tryd.ntmps4
  go_upto_region 1 with fail
  generalize w.alloc (.cells #[.slice A1 n1 c1, .slice A2 n2 c2] 24) = wb at *
  obtain ⟨x1, x2⟩ := x
  go_wp2_with fail
  refine HCK.out.mono ?_
  rintro e w1 ⟨rfl, hb1⟩
  have X1 := Lib.hid (X.out.below hb1)
  have Y1 := Lib.hid (below_then Y.out hb1)
  clear hb1 x1 x2
  by_cases h0 : rlE r = 0
  · have HV : Hid (Ending.returned (.tuple #[.string ⟨(rlText r).toArray⟩, .int .i64 0]) = .returned (.tuple #[.string ⟨(if rlE r = 0 then rlText r else []).toArray⟩, .int .i64 (rlE r : Nat)])) := Lib.hid (by rw [if_pos h0, h0]; rfl)
    rw [h0]
    obtain ⟨g1, g2, g3, g4, g5, _, _⟩ := rlE_ok h0
    have HT := Lib.hid (join_text g3)
    rw [HR.out.tl] at g1 g3
    rw [HR.out.nl] at g2
    have HL40 : Hid (∀ s ∈ r.1 ++ [58] :: r.2, s.length ≤ 40) := Lib.hid (fun s hs => by
      rcases List.mem_append.1 hs with h | h
      · exact good_len (List.all_eq_true.1 g4 s h)
      · rcases List.mem_cons.1 h with rfl | h
        · decide
        · exact good_len (List.all_eq_true.1 g5 s h))
    clear g4 g5 h0
    obtain ⟨x1, x2⟩ := X1.out
    -- the colon, and the three lists
    have hnew : (w1.alloc (.cells #[.string ⟨#[58]⟩] 9)).cell? ⟨w1.heap.size, 0, none⟩ = some (.string ⟨#[58]⟩) := by rw [World.cell?_alloc_at _ _ _ _ rfl]; rfl
    have hba : Below w1.heap.size w1 (w1.alloc (.cells #[.string ⟨#[58]⟩] 9)) := below_new (Below.refl _ _) _
    have hbb : Below (w1.alloc (.cells #[.string ⟨#[58]⟩] 9)).heap.size (w1.alloc (.cells #[.string ⟨#[58]⟩] 9)) ((w1.alloc (.cells #[.string ⟨#[58]⟩] 9)).alloc (.cells #[.slice A1 n1 c1, .slice (some ⟨w1.heap.size, 0, none⟩) 1 1, .slice A2 n2 c2] 22)) := below_new (Below.refl _ _) _
    have HBB := Lib.hid (below_then hba hbb)
    obtain ⟨y1, y2⟩ := X1.out.below hba
    have HCL : Hid (Rd ((w1.alloc (.cells #[.string ⟨#[58]⟩] 9)).alloc (.cells #[.slice A1 n1 c1, .slice (some ⟨w1.heap.size, 0, none⟩) 1 1, .slice A2 n2 c2] 22)) (some ⟨w1.heap.size, 0, none⟩) ([[58]].map sv)) := Lib.hid (by
      refine (show Rd (w1.alloc (.cells #[.string ⟨#[58]⟩] 9)) (some ⟨w1.heap.size, 0, none⟩) ([[58]].map sv) from rd_lit w1 _ #[.string ⟨#[58]⟩] 9 _ rfl rfl).below hbb)
    have HCAT : Hid (catP [(A1, c1, r.1), (some ⟨w1.heap.size, 0, none⟩, 1, [[58]]), (A2, c2, r.2)] = r.1 ++ [58] :: r.2) := Lib.hid (by simp [catP])
    have HLEN : Hid ((r.1 ++ [58] :: r.2).length = n1 + n2 + 1) := Lib.hid (by rw [List.length_append, List.length_cons, HR.out.tl, HR.out.nl]; omega)
    have HC := Lib.hid (concatN_any (n := 3) (c := 3) (b := w1.heap.size + 1) [(A1, c1, r.1), (some ⟨w1.heap.size, 0, none⟩, 1, [[58]]), (A2, c2, r.2)] ((w1.alloc (.cells #[.string ⟨#[58]⟩] 9)).alloc (.cells #[.slice A1 n1 c1, .slice (some ⟨w1.heap.size, 0, none⟩) 1 1, .slice A2 n2 c2] 22)) (by simp) rfl (by decide)
      (fun j x hx => by
        have hj := (List.getElem?_eq_some_iff.1 hx).1
        simp only [List.length_cons, List.length_nil] at hj
        rcases (by omega : j = 0 ∨ j = 1 ∨ j = 2) with rfl | rfl | rfl
        · injection hx with hx; subst hx
          rw [World.cell?_alloc_at _ _ _ _ (by simp), partV, HR.out.tl]; rfl
        · injection hx with hx; subst hx
          rw [World.cell?_alloc_at _ _ _ _ (by simp), partV]; rfl
        · injection hx with hx; subst hx
          rw [World.cell?_alloc_at _ _ _ _ (by simp), partV, HR.out.nl]; rfl)
      (fun x hx => by
        rcases List.mem_cons.1 hx with rfl | hx
        · exact HR.out.t.below (below_then Y1.out HBB.out)
        · rcases List.mem_cons.1 hx with rfl | hx
          · exact HCL.out
          · rw [List.mem_singleton.1 hx]; exact HR.out.n.below (below_then Y1.out HBB.out))
      (by rw [HCAT.out, HLEN.out]; omega))
    rw [HCAT.out, HLEN.out] at HC
    have HBW := Lib.hid (below_then Y1.out HBB.out)
    clear hnew hba hbb HCL HCAT HBB
    go_wp2_with fail
    refine HC.out.mono ?_
    rintro e w3 ⟨A, c, rfl, hown, hb3⟩
    have HB3 := Lib.hid (below_then HBW.out hb3)
    have HRD := Lib.hid (Rd.of_own hown)
    have hnc := (own_more hown (by omega)).choose_spec.2
    obtain ⟨x0, l, hl⟩ : ∃ x0 l, r.1 ++ [58] :: r.2 = x0 :: l := by
      cases hq : r.1 ++ [58] :: r.2 with
      | nil => simp at hq
      | cons a b => exact ⟨a, b, rfl⟩
    rw [hl] at HRD HLEN HL40 HT
    have HJ := Lib.hid (joinSp_any (n := n1 + n2 + 1) (c := c) x0 l w3 HRD.out (by have := HLEN.out; rw [List.length_cons] at this; omega) (by omega) (by omega) hnc (by have := lens_good HL40.out (n1 + n2 + 1); omega))
    rw [HT.out] at HJ
    clear hown hb3 hnc hl
    generalize (⟨(rlText r).toArray⟩ : ByteArray) = bt at *
    go_wp2_with fail
    refine HJ.out.mono ?_
    rintro e w4 ⟨rfl, hb4⟩
    have HB4 := Lib.hid (below_then HB3.out hb4)
    clear hb4
    go_wp2_with fail
    go_ret2
    exact ⟨HV.out, HB4.out⟩
  · have HV : Hid (Ending.returned (.tuple #[.string ⟨#[]⟩, .int .i64 (rlE r : Nat)]) = .returned (.tuple #[.string ⟨(if rlE r = 0 then rlText r else []).toArray⟩, .int .i64 (rlE r : Nat)])) := Lib.hid (by rw [if_neg h0])
    have hn0 : (((rlE r : Nat) : Int) != 0) = true := by simp; omega
    clear h0
    go_wp2_with fail
    go_ret2
    exact ⟨HV.out, Y1.out⟩
end
end Go.Proofs.YtbgcbigplegpmaaDoor
