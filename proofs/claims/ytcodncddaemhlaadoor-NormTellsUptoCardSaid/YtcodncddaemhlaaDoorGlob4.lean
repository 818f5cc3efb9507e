/- Contract: glob.class. -/
import Derived.Test.YtcodncddaemhlaaDoorGlob2
namespace Go.Proofs.YtcodncddaemhlaaDoor
open Go.RowKit

def ClsPost (t : List UInt8) (w : World) (e : Ending) (w' : World) : Prop :=
  Below w.heap.size w w' ∧ ((clsP 0 noS (behB t) = none ∧ ∃ x0 x1 x2 x3, e = .returned (.tuple #[pcv false x0 x1 x2 x3, .string ⟨#[]⟩, .bool false])) ∨
    ∃ S r x0 x1 x2 x3, clsP 0 noS (behB t) = some (S, r) ∧ Wd [x0, x1, x2, x3] (setB t S) ∧ e = .returned (.tuple #[pcv false x0 x1 x2 x3, .string ⟨r.toArray⟩, .bool true]))
theorem trim_beh (t : List UInt8) : Lib.trimPrefix t [33] = behB t := by
  unfold behB negB
  cases t with
  | nil => rfl
  | cons a q =>
    by_cases h : a = 33
    · subst h; rfl
    · have h' : ¬ 33 = a := fun e => h e.symm
      simp [Lib.trimPrefix, Lib.hasPrefix, h, h']
theorem has_neg (t : List UInt8) : Lib.hasPrefix t [33] = negB t := by
  unfold negB
  cases t with
  | nil => rfl
  | cons a q =>
    by_cases h : a = 33
    · subst h; rfl
    · have h' : ¬ 33 = a := fun e => h e.symm
      simp [Lib.hasPrefix, List.isPrefixOf]
      exact (beq_eq_false_iff_ne.2 h').trans (beq_eq_false_iff_ne.2 h).symm
def put5 (w : World) (b : Nat) (v0 v1 v2 v3 v4 : Value) : World := ((((w.setCell ⟨b, 0, none⟩ v0).setCell ⟨b, 1, none⟩ v1).setCell ⟨b, 2, none⟩ v2).setCell ⟨b, 3, none⟩ v3).setCell ⟨b, 4, none⟩ v4
theorem Blk.put5 {w : World} {b : Nat} {t : TypeId} {x0 x1 x2 x3 x4 : Value} (h : Blk w b t [x0, x1, x2, x3, x4]) (v0 v1 v2 v3 v4 : Value) : Blk (put5 w b v0 v1 v2 v3 v4) b t [v0, v1, v2, v3, v4] := ((((h.same 0 v0).same 1 v1).same 2 v2).same 3 v3).same 4 v4
theorem below_put5 {B b : Nat} {w w' : World} (h : Below B w w') (hB : B ≤ b) (v0 v1 v2 v3 v4 : Value) : Below B w (put5 w' b v0 v1 v2 v3 v4) :=
  ((((h.setCell (p := ⟨b, 0, none⟩) hB v0).setCell (p := ⟨b, 1, none⟩) hB v1).setCell (p := ⟨b, 2, none⟩) hB v2).setCell (p := ⟨b, 3, none⟩) hB v3).setCell (p := ⟨b, 4, none⟩) hB v4
structure Cells5 (w : World) (b : Nat) (v0 v1 v2 v3 v4 : Value) : Prop where
  c0 : w.cell? ⟨b, 0, none⟩ = some v0
  c1 : w.cell? ⟨b, 1, none⟩ = some v1
  c2 : w.cell? ⟨b, 2, none⟩ = some v2
  c3 : w.cell? ⟨b, 3, none⟩ = some v3
  c4 : w.cell? ⟨b, 4, none⟩ = some v4
theorem Blk.cells5 {w : World} {b : Nat} {t : TypeId} {v0 v1 v2 v3 v4 : Value} (h : Blk w b t [v0, v1, v2, v3, v4]) : Cells5 w b v0 v1 v2 v3 v4 := ⟨h.cell rfl, h.cell rfl, h.cell rfl, h.cell rfl, h.cell rfl⟩
theorem ext_tail (a : UInt8) (t : List UInt8) : (⟨(a :: t).toArray⟩ : ByteArray).extract 1 (t.length + 1) = ⟨t.toArray⟩ := by
  have h := Lib.extract_data ⟨(a :: t).toArray⟩ 1 (t.length + 1)
  have h2 : ((⟨(a :: t).toArray⟩ : ByteArray).extract 1 (t.length + 1)).data.toList = t := by
    rw [h]
    simp
  calc (⟨(a :: t).toArray⟩ : ByteArray).extract 1 (t.length + 1) = ⟨((⟨(a :: t).toArray⟩ : ByteArray).extract 1 (t.length + 1)).data.toList.toArray⟩ := rfl
    _ = ⟨t.toArray⟩ := by rw [h2]
theorem ext_two (a b : UInt8) (t : List UInt8) : (⟨(a :: b :: t).toArray⟩ : ByteArray).extract 2 (t.length + 1 + 1) = ⟨t.toArray⟩ := by
  have h := Lib.extract_data ⟨(a :: b :: t).toArray⟩ 2 (t.length + 1 + 1)
  have h2 : ((⟨(a :: b :: t).toArray⟩ : ByteArray).extract 2 (t.length + 1 + 1)).data.toList = t := by
    rw [h]
    simp
  calc (⟨(a :: b :: t).toArray⟩ : ByteArray).extract 2 (t.length + 1 + 1) = ⟨((⟨(a :: b :: t).toArray⟩ : ByteArray).extract 2 (t.length + 1 + 1)).data.toList.toArray⟩ := rfl
    _ = ⟨t.toArray⟩ := by rw [h2]
theorem pcOdd_is (c : UInt8) (w : World) {v : Bool} (h : oddC c = v) : Calls Tryd.prog 106 #[.int .u8 (c.toNat : Int)] w fun e w' => e = .returned (.bool v) ∧ w = w' := by
  subst h
  exact pcOdd_any c w
theorem Blk.drw {w : World} {b : Nat} {t : TypeId} {vs : List Value} (h : Blk w b t vs) : Blk w.drew b t vs := h
theorem cls_step {many : Nat} {S : Nat → Bool} {a b : UInt8} {t r : List UInt8} (ha : a ≠ 93) (hit : itemG a t = (b, r)) : clsP many S (a :: t) = if oddC a || oddC b || decide (b < a) then none else clsP (many + 1) (addS S a b) r := by rw [clsP, if_neg ha, hit]
theorem four_of {vs : List Nat} (h : vs.length = 4) : ∃ x0 x1 x2 x3, vs = [x0, x1, x2, x3] := by
  match vs, h with
  | [x0, x1, x2, x3], _ => exact ⟨x0, x1, x2, x3, rfl⟩
def strLen (v : Value) : Nat := match v with | .string s => s.size | _ => 0
set_option maxRecDepth 100000 in
set_option maxHeartbeats 2000000 in
theorem pcClass_any (t : List UInt8) (ht : t.length ≤ 60) (w : World) : Calls Tryd.prog 101 #[.string ⟨t.toArray⟩] w (ClsPost t w) := by
  have HP := Lib.hid (fun W => Tryd.strings_CutPrefix ⟨t.toArray⟩ ⟨#[33]⟩ W)
  have HBK := Lib.hid (show Blk (w.alloc (.cells #[.bool false, .int .u64 0, .int .u64 0, .int .u64 0, .int .u64 0] 141)) w.heap.size 141 (pieceL false [0, 0, 0, 0]) from Blk.new w _ _)
  have HB := Lib.hid (below_new (Below.refl w.heap.size w) (.cells #[.bool false, .int .u64 0, .int .u64 0, .int .u64 0, .int .u64 0] 141))
  go_enter Tryd.func101, Tryd.ntmps101
  go_upto_region 1 with fail
  generalize w.alloc (.cells #[.bool false, .int .u64 0, .int .u64 0, .int .u64 0, .int .u64 0] 141) = w2 at *
  go_wp2_with fail
  refine (HP.out _).mono ?_
  rintro e w3 ⟨rfl, rfl⟩
  have HS0 : Hid (Lib.trimPrefix t [33] = behB t) := Lib.hid (trim_beh t)
  have HN0 : Hid (Lib.hasPrefix t [33] = negB t) := Lib.hid (has_neg t)
  generalize Lib.trimPrefix t [33] = tb at *
  generalize Lib.hasPrefix t [33] = ng at *
  go_wp2_with fail
  go_loopw [0, 6] (fun x y wr => ∃ (s : List UInt8) (many : Nat) (S : Nat → Bool) (vs : List Nat), x = .string ⟨s.toArray⟩ ∧ y = .int .i64 (many : Int) ∧ s.length ≤ 60 ∧ many + s.length ≤ 60 ∧ Hid (clsP 0 noS (behB t) = clsP many S s) ∧ Hid (Wd vs S) ∧ Hid (Blk wr w.heap.size 141 (pieceL false vs)) ∧ Hid (Below w.heap.size w wr)) (fun x _ _ => strLen x)
  case atStart => exact ⟨behB t, 0, noS, [0, 0, 0, 0], by rw [← HS0.out], rfl, Nat.le_trans (behB_len t) ht, by have := behB_len t; omega, Lib.hid rfl, Lib.hid wd_zero, HBK, HB⟩
  case round =>
    clear HBK HB HP
    obtain ⟨s, many, S, vs, rfl, rfl, h1, h2, HCL, HW, HBK, HBW⟩ := hrel
    obtain ⟨x0, x1, x2, x3, rfl⟩ := four_of HW.out.len
    obtain ⟨c0, c1, c2, c3, c4⟩ := Blk.cells5 HBK.out
    have f0 := HBK.out.free 0
    have f1 := HBK.out.free 1
    have f2 := HBK.out.free 2
    have f3 := HBK.out.free 3
    have f4 := HBK.out.free 4
    have HBK5 := Lib.hid (Blk.put5 HBK.out (.bool false) (.int .u64 (x0 : Int)) (.int .u64 (x1 : Int)) (.int .u64 (x2 : Int)) (.int .u64 (x3 : Int)))
    have HBW5 := Lib.hid (below_put5 HBW.out (Nat.le_refl _) (.bool false) (.int .u64 (x0 : Int)) (.int .u64 (x1 : Int)) (.int .u64 (x2 : Int)) (.int .u64 (x3 : Int)))
    cases s with
    | nil =>
      have HNO : Hid (clsP 0 noS (behB t) = none) := Lib.hid (by rw [HCL.out, clsP])
      go_wp2_with fail
      obtain ⟨q0, q1, q2, q3, q4⟩ := Blk.cells5 HBK5.out
      unfold put5 at q0 q1 q2 q3 q4
      refine bodyPost_ret (v := .tuple #[pcv false x0 x1 x2 x3, .string ⟨#[]⟩, .bool false]) (by simp [pcv, results, Tryd.results101, go_sem, q0, q1, q2, q3, q4]) rfl ?_
      exact ⟨HBW5.out, .inl ⟨HNO.out, x0, x1, x2, x3, rfl⟩⟩
    | cons a t' =>
      have g0 : ∀ h, (⟨(a :: t').toArray⟩ : ByteArray)[0]'h = a := fun _ => rfl
      by_cases ha : a = 93
      · subst ha
        have n0 : (((93 : UInt8).toNat : Int) != 93) = false := rfl
        by_cases hm : many = 0
        · subst hm
          have HNO : Hid (clsP 0 noS (behB t) = none) := Lib.hid (by rw [HCL.out, clsP, if_pos rfl, if_pos rfl])
          go_wp2_with fail
          obtain ⟨q0, q1, q2, q3, q4⟩ := Blk.cells5 HBK5.out
          unfold put5 at q0 q1 q2 q3 q4
          refine bodyPost_ret (v := .tuple #[pcv false x0 x1 x2 x3, .string ⟨#[]⟩, .bool false]) (by simp [pcv, results, Tryd.results101, go_sem, q0, q1, q2, q3, q4]) rfl ?_
          exact ⟨HBW5.out, .inl ⟨HNO.out, x0, x1, x2, x3, rfl⟩⟩
        · have n1 : ((many : Int) == 0) = false := by simp; omega
          have HYES : Hid (clsP 0 noS (behB t) = some (S, t')) := Lib.hid (by rw [HCL.out, clsP, if_pos rfl, if_neg hm])
          have hsl := ext_tail 93 t'
          clear hm
          cases ng with
          | true =>
            have HNG : Hid (setB t S = turnS S) := Lib.hid (by unfold setB; rw [← HN0.out]; rfl)
            go_wp2_with fail
            refine (pcTurn_any _ _ (Nat.le_refl _) false [x0, x1, x2, x3] S _ HBK.out HW.out).mono ?_
            rintro e wt ⟨rfl, hbt, vs', hkt, hwt⟩
            have HBT := Lib.hid (HBW.out.trans hbt)
            have HWT := Lib.hid hwt
            have HKT := Lib.hid hkt
            clear c0 c1 c2 c3 c4 f0 f1 f2 f3 f4 hbt hkt hwt HBK HBK5 HBW5 HBW HW
            obtain ⟨y0, y1, y2, y3, rfl⟩ := four_of HWT.out.len
            obtain ⟨c0, c1, c2, c3, c4⟩ := Blk.cells5 HKT.out
            have f0 := HKT.out.free 0
            have f1 := HKT.out.free 1
            have f2 := HKT.out.free 2
            have f3 := HKT.out.free 3
            have f4 := HKT.out.free 4
            have HBK5 := Lib.hid (Blk.put5 HKT.out (.bool false) (.int .u64 (y0 : Int)) (.int .u64 (y1 : Int)) (.int .u64 (y2 : Int)) (.int .u64 (y3 : Int)))
            have HBW5 := Lib.hid (below_put5 HBT.out (Nat.le_refl _) (.bool false) (.int .u64 (y0 : Int)) (.int .u64 (y1 : Int)) (.int .u64 (y2 : Int)) (.int .u64 (y3 : Int)))
            go_wp2_with fail
            go_region
            go_wp2_with fail
            obtain ⟨q0, q1, q2, q3, q4⟩ := Blk.cells5 HBK5.out
            unfold put5 at q0 q1 q2 q3 q4
            refine bodyPost_ret (v := .tuple #[pcv false y0 y1 y2 y3, .string ⟨t'.toArray⟩, .bool true]) (by simp [pcv, results, Tryd.results101, go_sem, q0, q1, q2, q3, q4]) rfl ?_
            exact ⟨Below.drew HBW5.out, .inr ⟨S, t', y0, y1, y2, y3, HYES.out, by rw [HNG.out]; exact HWT.out, rfl⟩⟩
          | false =>
            have HNG : Hid (setB t S = S) := Lib.hid (by unfold setB; rw [← HN0.out]; rfl)
            go_wp2_with fail
            go_region
            go_wp2_with fail
            obtain ⟨q0, q1, q2, q3, q4⟩ := Blk.cells5 HBK5.out
            unfold put5 at q0 q1 q2 q3 q4
            refine bodyPost_ret (v := .tuple #[pcv false x0 x1 x2 x3, .string ⟨t'.toArray⟩, .bool true]) (by simp [pcv, results, Tryd.results101, go_sem, q0, q1, q2, q3, q4]) rfl ?_
            exact ⟨Below.drew HBW5.out, .inr ⟨S, t', x0, x1, x2, x3, HYES.out, by rw [HNG.out]; exact HW.out, rfl⟩⟩
      · have n0 : ((a.toNat : Int) != 93) = true := by
          have : a.toNat ≠ 93 := fun e => ha (UInt8.toNat_inj.1 e)
          simp
          omega
        have i0 : (many : Int) + 1 ≤ 9223372036854775807 := by simp at h2; omega
        have i1 : -9223372036854775808 ≤ (many : Int) + 1 := by omega
        by_cases hd : ∃ y r, t' = 45 :: y :: r
        · obtain ⟨y, r, rfl⟩ := hd
          have HIT : Hid (itemG a (45 :: y :: r) = (y, r)) := Lib.hid rfl
          have g1 : ∀ h, (⟨(45 :: y :: r).toArray⟩ : ByteArray)[0]'h = 45 := fun _ => rfl
          have g2 : ∀ h, (⟨(45 :: y :: r).toArray⟩ : ByteArray)[1]'h = y := fun _ => rfl
          have hsl : (⟨(a :: 45 :: y :: r).toArray⟩ : ByteArray).extract 1 (r.length + 1 + 1 + 1) = ⟨(45 :: y :: r).toArray⟩ := ext_tail a (45 :: y :: r)
          have hsl2 : (⟨(45 :: y :: r).toArray⟩ : ByteArray).extract 2 (r.length + 1 + 1) = ⟨r.toArray⟩ := ext_two 45 y r
          have l2 : (2 : Int) ≤ (r.length : Int) + 1 + 1 := by omega
          have hlr : r.length ≤ 60 := by simp at h1; omega
          have hmr : many + 1 + r.length ≤ 60 := by simp at h2; omega
          have HMS : Hid (strLen (.string ⟨r.toArray⟩) < strLen (.string ⟨(a :: 45 :: y :: r).toArray⟩)) := Lib.hid (by show r.length < (a :: 45 :: y :: r).length; simp; omega)
          clear h1 h2
          go_wp2_with fail
          go_region
          go_upto_region 9 with fail
          clear g0 g1 g2 hsl hsl2
          cases hoa : oddC a with
          | true =>
            have HA := Lib.hid (fun W => pcOdd_is a W hoa)
            have HNO : Hid (clsP 0 noS (behB t) = none) := Lib.hid (by rw [HCL.out, cls_step ha HIT.out]; simp [hoa])
            clear ha hoa
            go_upto_region 10 with (go_at_call 106; (first | (refine (HA.out _).mono ?_) | (refine (HC.out _).mono ?_)); rintro e w' ⟨rfl, rfl⟩)
            go_wp2_with fail
            obtain ⟨q0, q1, q2, q3, q4⟩ := Blk.cells5 HBK5.out
            unfold put5 at q0 q1 q2 q3 q4
            refine bodyPost_ret (v := .tuple #[pcv false x0 x1 x2 x3, .string ⟨#[]⟩, .bool false]) (by simp [pcv, results, Tryd.results101, go_sem, q0, q1, q2, q3, q4]) rfl ?_
            exact ⟨Below.drew HBW5.out, .inl ⟨HNO.out, x0, x1, x2, x3, rfl⟩⟩
          | false =>
            have HA := Lib.hid (fun W => pcOdd_is a W hoa)
            cases hob : oddC y with
            | true =>
              have HC := Lib.hid (fun W => pcOdd_is y W hob)
              have HNO : Hid (clsP 0 noS (behB t) = none) := Lib.hid (by rw [HCL.out, cls_step ha HIT.out]; simp [hoa, hob])
              clear ha hoa hob
              go_upto_region 10 with (go_at_call 106; (first | (refine (HA.out _).mono ?_) | (refine (HC.out _).mono ?_)); rintro e w' ⟨rfl, rfl⟩)
              go_wp2_with fail
              obtain ⟨q0, q1, q2, q3, q4⟩ := Blk.cells5 HBK5.out
              unfold put5 at q0 q1 q2 q3 q4
              refine bodyPost_ret (v := .tuple #[pcv false x0 x1 x2 x3, .string ⟨#[]⟩, .bool false]) (by simp [pcv, results, Tryd.results101, go_sem, q0, q1, q2, q3, q4]) rfl ?_
              exact ⟨Below.drew HBW5.out, .inl ⟨HNO.out, x0, x1, x2, x3, rfl⟩⟩
            | false =>
              have HC := Lib.hid (fun W => pcOdd_is y W hob)
              by_cases hlt : y < a
              · have HNO : Hid (clsP 0 noS (behB t) = none) := Lib.hid (by rw [HCL.out, cls_step ha HIT.out, decide_eq_true hlt]; simp)
                have l0 : ((y.toNat : Nat) : Int) < ((a.toNat : Nat) : Int) := Int.ofNat_lt.2 hlt
                clear ha hoa hob hlt
                go_upto_region 10 with (go_at_call 106; (first | (refine (HA.out _).mono ?_) | (refine (HC.out _).mono ?_)); rintro e w' ⟨rfl, rfl⟩)
                go_wp2_with fail
                obtain ⟨q0, q1, q2, q3, q4⟩ := Blk.cells5 HBK5.out
                unfold put5 at q0 q1 q2 q3 q4
                refine bodyPost_ret (v := .tuple #[pcv false x0 x1 x2 x3, .string ⟨#[]⟩, .bool false]) (by simp [pcv, results, Tryd.results101, go_sem, q0, q1, q2, q3, q4]) rfl ?_
                exact ⟨Below.drew HBW5.out, .inl ⟨HNO.out, x0, x1, x2, x3, rfl⟩⟩
              · have HNX : Hid (clsP 0 noS (behB t) = clsP (many + 1) (addS S a y) r) := Lib.hid (by rw [HCL.out, cls_step ha HIT.out, decide_eq_false hlt]; simp [hoa, hob])
                have hle : a.toNat ≤ y.toNat := Nat.le_of_not_lt hlt
                have l0 : ¬ y.toNat < a.toNat := hlt
                have HLE := Lib.hid hle
                have HADD := Lib.hid (pcAdd_any w.heap.size w.heap.size (Nat.le_refl _) false [x0, x1, x2, x3] S a y hle wr.drew (Blk.drw HBK.out) HW.out)
                clear ha hoa hob hlt hle
                generalize a.toNat = na at *
                generalize y.toNat = nb at *
                go_upto_region 11 with (go_at_call 106; (first | (refine (HA.out _).mono ?_) | (refine (HC.out _).mono ?_)); rintro e w' ⟨rfl, rfl⟩)
                go_wp2_with fail
                refine HADD.out.mono ?_
                rintro e w5 ⟨rfl, hb5, vs', hk5, hw5⟩
                have HBN := Lib.hid ((Below.drew HBW.out).trans hb5)
                have HKN := Lib.hid hk5
                have HWN := Lib.hid hw5
                clear hb5 hk5 hw5 HBK HBK5 HBW5 HBW HW c0 c1 c2 c3 c4 f0 f1 f2 f3 f4
                go_wp2_with fail
                refine ⟨⟨r, many + 1, _, vs', rfl, rfl, hlr, hmr, HNX, HWN, HKN, HBN⟩, ?_⟩
                exact HMS.out
        · match t', hd with
          | [], hd =>
            have HIT : Hid (itemG a [] = (a, [])) := Lib.hid rfl
            have hsl : (⟨#[a]⟩ : ByteArray).extract 1 1 = ⟨#[]⟩ := ext_tail a []
            have hlr : ([] : List UInt8).length ≤ 60 := by simp
            have hmr : many + 1 + ([] : List UInt8).length ≤ 60 := by simp at h2 ⊢; omega
            have HMS : Hid (strLen (.string ⟨([] : List UInt8).toArray⟩) < strLen (.string ⟨[a].toArray⟩)) := Lib.hid (by show 0 < 1; omega)
            clear h1 h2
            go_wp2_with fail
            go_region
            cases hoa : oddC a with
            | true =>
              have HA := Lib.hid (fun W => pcOdd_is a W hoa)
              have HNO : Hid (clsP 0 noS (behB t) = none) := Lib.hid (by rw [HCL.out, cls_step ha HIT.out]; simp [hoa])
              clear ha hoa
              go_upto_region 10 with (go_at_call 106; (refine (HA.out _).mono ?_); rintro e w' ⟨rfl, rfl⟩)
              go_wp2_with fail
              obtain ⟨q0, q1, q2, q3, q4⟩ := Blk.cells5 HBK5.out
              unfold put5 at q0 q1 q2 q3 q4
              refine bodyPost_ret (v := .tuple #[pcv false x0 x1 x2 x3, .string ⟨#[]⟩, .bool false]) (by simp [pcv, results, Tryd.results101, go_sem, q0, q1, q2, q3, q4]) rfl ?_
              exact ⟨Below.drew HBW5.out, .inl ⟨HNO.out, x0, x1, x2, x3, rfl⟩⟩
            | false =>
              have HA := Lib.hid (fun W => pcOdd_is a W hoa)
              have HNX : Hid (clsP 0 noS (behB t) = clsP (many + 1) (addS S a a) []) := Lib.hid (by rw [HCL.out, cls_step ha HIT.out, decide_eq_false (show ¬ a < a from UInt8.lt_irrefl a)]; simp [hoa])
              have hle : a.toNat ≤ a.toNat := Nat.le_refl _
              have l0 : ¬ a.toNat < a.toNat := Nat.lt_irrefl _
              have HLE := Lib.hid hle
              have HADD := Lib.hid (pcAdd_any w.heap.size w.heap.size (Nat.le_refl _) false [x0, x1, x2, x3] S a a hle wr.drew (Blk.drw HBK.out) HW.out)
              clear ha hoa hle
              generalize a.toNat = na at *
              go_upto_region 11 with (go_at_call 106; (refine (HA.out _).mono ?_); rintro e w' ⟨rfl, rfl⟩)
              go_wp2_with fail
              refine HADD.out.mono ?_
              rintro e w5 ⟨rfl, hb5, vs', hk5, hw5⟩
              have HBN := Lib.hid ((Below.drew HBW.out).trans hb5)
              have HKN := Lib.hid hk5
              have HWN := Lib.hid hw5
              clear hb5 hk5 hw5 HBK HBK5 HBW5 HBW HW c0 c1 c2 c3 c4 f0 f1 f2 f3 f4
              go_wp2_with fail
              refine ⟨⟨[], many + 1, _, vs', rfl, rfl, hlr, hmr, HNX, HWN, HKN, HBN⟩, ?_⟩
              exact HMS.out
          | [x], hd =>
            have HIT : Hid (itemG a [x] = (a, [x])) := Lib.hid (itemG_one a x)
            have hsl : (⟨#[a, x]⟩ : ByteArray).extract 1 2 = ⟨#[x]⟩ := ext_tail a [x]
            have hlr : [x].length ≤ 60 := by simp
            have hmr : many + 1 + [x].length ≤ 60 := by simp at h2 ⊢; omega
            have HMS : Hid (strLen (.string ⟨[x].toArray⟩) < strLen (.string ⟨[a, x].toArray⟩)) := Lib.hid (by show 1 < 2; omega)
            clear h1 h2
            go_wp2_with fail
            go_region
            cases hoa : oddC a with
            | true =>
              have HA := Lib.hid (fun W => pcOdd_is a W hoa)
              have HNO : Hid (clsP 0 noS (behB t) = none) := Lib.hid (by rw [HCL.out, cls_step ha HIT.out]; simp [hoa])
              clear ha hoa
              go_upto_region 10 with (go_at_call 106; (refine (HA.out _).mono ?_); rintro e w' ⟨rfl, rfl⟩)
              go_wp2_with fail
              obtain ⟨q0, q1, q2, q3, q4⟩ := Blk.cells5 HBK5.out
              unfold put5 at q0 q1 q2 q3 q4
              refine bodyPost_ret (v := .tuple #[pcv false x0 x1 x2 x3, .string ⟨#[]⟩, .bool false]) (by simp [pcv, results, Tryd.results101, go_sem, q0, q1, q2, q3, q4]) rfl ?_
              exact ⟨Below.drew HBW5.out, .inl ⟨HNO.out, x0, x1, x2, x3, rfl⟩⟩
            | false =>
              have HA := Lib.hid (fun W => pcOdd_is a W hoa)
              have HNX : Hid (clsP 0 noS (behB t) = clsP (many + 1) (addS S a a) [x]) := Lib.hid (by rw [HCL.out, cls_step ha HIT.out, decide_eq_false (show ¬ a < a from UInt8.lt_irrefl a)]; simp [hoa])
              have hle : a.toNat ≤ a.toNat := Nat.le_refl _
              have l0 : ¬ a.toNat < a.toNat := Nat.lt_irrefl _
              have HLE := Lib.hid hle
              have HADD := Lib.hid (pcAdd_any w.heap.size w.heap.size (Nat.le_refl _) false [x0, x1, x2, x3] S a a hle wr.drew (Blk.drw HBK.out) HW.out)
              clear ha hoa hle
              generalize a.toNat = na at *
              go_upto_region 11 with (go_at_call 106; (refine (HA.out _).mono ?_); rintro e w' ⟨rfl, rfl⟩)
              go_wp2_with fail
              refine HADD.out.mono ?_
              rintro e w5 ⟨rfl, hb5, vs', hk5, hw5⟩
              have HBN := Lib.hid ((Below.drew HBW.out).trans hb5)
              have HKN := Lib.hid hk5
              have HWN := Lib.hid hw5
              clear hb5 hk5 hw5 HBK HBK5 HBW5 HBW HW c0 c1 c2 c3 c4 f0 f1 f2 f3 f4
              go_wp2_with fail
              refine ⟨⟨[x], many + 1, _, vs', rfl, rfl, hlr, hmr, HNX, HWN, HKN, HBN⟩, ?_⟩
              exact HMS.out
          | x :: y :: r, hd =>
            have hx : x ≠ 45 := fun e => hd ⟨y, r, by rw [e]⟩
            have HIT : Hid (itemG a (x :: y :: r) = (a, x :: y :: r)) := Lib.hid (itemG_other a x _ hx)
            have g1 : ∀ h, (⟨(x :: y :: r).toArray⟩ : ByteArray)[0]'h = x := fun _ => rfl
            have hsl : (⟨(a :: x :: y :: r).toArray⟩ : ByteArray).extract 1 (r.length + 1 + 1 + 1) = ⟨(x :: y :: r).toArray⟩ := ext_tail a (x :: y :: r)
            have l2 : (2 : Int) ≤ (r.length : Int) + 1 + 1 := by omega
            have l3 : ((x.toNat : Int) == 45) = false := by
              have : x.toNat ≠ 45 := fun e => hx (UInt8.toNat_inj.1 e)
              simp
              omega
            have hlr : (x :: y :: r).length ≤ 60 := by simp at h1 ⊢; omega
            have hmr : many + 1 + (x :: y :: r).length ≤ 60 := by simp at h2 ⊢; omega
            have HMS : Hid (strLen (.string ⟨(x :: y :: r).toArray⟩) < strLen (.string ⟨(a :: x :: y :: r).toArray⟩)) := Lib.hid (by show (x :: y :: r).length < (a :: x :: y :: r).length; simp)
            clear h1 h2 hx hd
            go_wp2_with fail
            go_region
            cases hoa : oddC a with
            | true =>
              have HA := Lib.hid (fun W => pcOdd_is a W hoa)
              have HNO : Hid (clsP 0 noS (behB t) = none) := Lib.hid (by rw [HCL.out, cls_step ha HIT.out]; simp [hoa])
              clear ha hoa
              go_upto_region 10 with (go_at_call 106; (refine (HA.out _).mono ?_); rintro e w' ⟨rfl, rfl⟩)
              go_wp2_with fail
              obtain ⟨q0, q1, q2, q3, q4⟩ := Blk.cells5 HBK5.out
              unfold put5 at q0 q1 q2 q3 q4
              refine bodyPost_ret (v := .tuple #[pcv false x0 x1 x2 x3, .string ⟨#[]⟩, .bool false]) (by simp [pcv, results, Tryd.results101, go_sem, q0, q1, q2, q3, q4]) rfl ?_
              exact ⟨Below.drew HBW5.out, .inl ⟨HNO.out, x0, x1, x2, x3, rfl⟩⟩
            | false =>
              have HA := Lib.hid (fun W => pcOdd_is a W hoa)
              have HNX : Hid (clsP 0 noS (behB t) = clsP (many + 1) (addS S a a) (x :: y :: r)) := Lib.hid (by rw [HCL.out, cls_step ha HIT.out, decide_eq_false (show ¬ a < a from UInt8.lt_irrefl a)]; simp [hoa])
              have hle : a.toNat ≤ a.toNat := Nat.le_refl _
              have l0 : ¬ a.toNat < a.toNat := Nat.lt_irrefl _
              have HLE := Lib.hid hle
              have HADD := Lib.hid (pcAdd_any w.heap.size w.heap.size (Nat.le_refl _) false [x0, x1, x2, x3] S a a hle wr.drew (Blk.drw HBK.out) HW.out)
              clear ha hoa hle
              generalize a.toNat = na at *
              go_upto_region 11 with (go_at_call 106; (refine (HA.out _).mono ?_); rintro e w' ⟨rfl, rfl⟩)
              go_wp2_with fail
              refine HADD.out.mono ?_
              rintro e w5 ⟨rfl, hb5, vs', hk5, hw5⟩
              have HBN := Lib.hid ((Below.drew HBW.out).trans hb5)
              have HKN := Lib.hid hk5
              have HWN := Lib.hid hw5
              clear hb5 hk5 hw5 HBK HBK5 HBW5 HBW HW c0 c1 c2 c3 c4 f0 f1 f2 f3 f4
              go_wp2_with fail
              refine ⟨⟨(x :: y :: r), many + 1, _, vs', rfl, rfl, hlr, hmr, HNX, HWN, HKN, HBN⟩, ?_⟩
              exact HMS.out
end Go.Proofs.YtcodncddaemhlaaDoor
