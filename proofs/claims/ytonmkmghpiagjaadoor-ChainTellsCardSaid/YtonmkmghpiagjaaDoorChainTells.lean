/- The law ChainTells: its walk: for every list of rows it returns true and leaves what was there. Conditions: rows below 2^64, a length below 2^63; the table of math/bits lies. -/
import Derived.Test.YtonmkmghpiagjaaDoorChainLaw
import Derived.Test.YtonmkmghpiagjaaDoorLev2
import Derived.Test.YtonmkmghpiagjaaDoorCf
import Derived.Test.YtonmkmghpiagjaaDoorEqNv
import Derived.Test.YtonmkmghpiagjaaDoorQuiet
import Derived.Deep.RegionHeld3
import Derived.Shelf.Abstract
namespace Go.Proofs.YtonmkmghpiagjaaDoor
open Go.RowKit

theorem cell_below {w w' : World} {B : Nat} {v : Value} (h : w.cell? ⟨B, 0, none⟩ = some v) (hb : Below w.heap.size w w') : w'.cell? ⟨B, 0, none⟩ = some v := (hb.cell (p := ⟨B, 0, none⟩) (lt_of_cell' h)).trans h
/-! ### good -/
theorem good_any {A : Option Addr} {n c : Nat} (xs : List Int) (w : World) (hx : Rd w A (xs.map (.int .i64))) (hn : xs.length = n) (hb : n ≤ 9223372036854775807) :
    Calls Tryd.prog 18 #[.slice A n c] w fun e w' => e = .returned (.bool (!xs.any fun x => x != 0)) ∧ Below w.heap.size w w' := by
  have eg : ∀ args w, (callFunc 70 args).run Tryd.prog w = .ok (.enter 70 args) w := fun args w => enters_of Tryd.func70 (by kernel_rfl) rfl args w
  have hp : ∀ x, x ∈ xs → ∀ W, Below w.heap.size w W → Calls Tryd.prog 70 (#[Value.int .i64 x] ++ #[]) W fun e w' => e = .returned (.bool (x != 0)) ∧ Below W.heap.size W w' := fun x _ W _ => by
    show Calls Tryd.prog 70 #[Value.int .i64 x] W _
    go_enter Tryd.func70, Tryd.ntmps70
    go_wp2_with fail
    go_ret
    exact ⟨rfl, Below.refl _ _⟩
  have H := Lib.hid (cf_Err (c := c) (Value.int .i64) (fun x => x != 0) 70 #[] eg xs w hx hn hb hp)
  clear hx hn hp eg
  generalize hr : xs.any (fun x => x != 0) = r at H ⊢
  clear hr
  go_enter Tryd.func18, Tryd.ntmps18
  go_wp2_with fail
  refine H.out.mono ?_
  rintro e w2 ⟨rfl, hb2⟩
  go_wp2_with fail
  go_ret
  exact ⟨rfl, hb2⟩
/-! ### The closures -/
theorem chBelow {A : Option Addr} {n c B : Nat} (l : List Nat) (k : Nat) (w : World) (hbx : w.cell? ⟨B, 0, none⟩ = some (.slice A n c)) (h1 : Rd w A (l.map uv)) (hl : l.length = n) (hg : Good l) (hk : k < n) :
    Calls Tryd.prog 28 #[.int .i64 (k : Int), .pointer (some ⟨B, 0, none⟩)] w fun e w' => e = .returned (.int .u64 (iterR l (rowAt l k) 65 : Nat)) ∧ Below w.heap.size w w' := by
  have hkl : k < l.length := by omega
  obtain ⟨b1, o1, rfl, x1⟩ := h1.set hkl
  have HIN : Hid (InRows l (rowAt l k)) := Lib.hid (fun j hj => hg.2 k j hj)
  have H1 := Lib.hid h1
  have HL := Lib.hid hl
  have HG := Lib.hid hg
  have k0 : (0 : Int) ≤ (k : Int) := by omega
  have k1 : (k : Int) < (n : Int) := by omega
  clear h1 hl hg hkl
  go_enter Tryd.func28, Tryd.ntmps28
  go_wp2
  go_quiet ((go_at_call 22; exact quiet_left (rSteps_any l (rowAt l k) (-1) _ (H1.out.drewN _) HL.out HG.out HIN.out (by decide) (by decide))))
  go_wp2
  go_ret
  exact ⟨rfl, below_of_drewN _ _⟩
theorem chEmpty (v : Value) {A : Option Addr} {n c : Nat} (hv : v = .slice A n c) (w : World) :
    Calls Tryd.prog 31 #[v] w fun e w' => e = .returned (.bool (sliceLen v == 0)) ∧ Below w.heap.size w w' := by
  subst hv
  show Calls Tryd.prog 31 #[.slice A n c] w fun e w' => e = .returned (.bool (n == 0)) ∧ Below w.heap.size w w'
  go_enter Tryd.func31, Tryd.ntmps31
  go_wp2_with fail
  go_ret
  exact ⟨ret_bool (by rw [Bool.eq_iff_iff]; simp), Below.refl _ _⟩
/-! ### Rows of numbers, to be read -/
def RdRows (w : World) (A : Option Addr) (cs : List (List Nat)) : Prop :=
  ∀ t ch, cs[t]? = some ch → ∃ b off At ct, A = some ⟨b, off, none⟩ ∧ b < w.heap.size ∧ w.cell? ⟨b, off + t, none⟩ = some (.slice At ch.length ct) ∧ Rd w At (ch.map nv)
theorem RdRows.below {w w' : World} {A : Option Addr} {cs : List (List Nat)} (h : RdRows w A cs) (hb : Below w.heap.size w w') : RdRows w' A cs := fun t ch hc => by
  obtain ⟨b, off, At, ct, h1, h2, h3, h4⟩ := h t ch hc
  exact ⟨b, off, At, ct, h1, Nat.lt_of_lt_of_le h2 hb.size, (hb.cell (p := ⟨b, off + t, none⟩) h2).trans h3, h4.below hb⟩
theorem RdRows.of_own {w : World} {B B' m c : Nat} {E e : TypeId} {ob : Option Nat} {A : Option Addr} {vs : List Value} {cs : List (List Nat)} (h : w.ownsRow B E 1 (.slice A m c) m vs) (hr : ChRows e w B' ob vs cs) : RdRows w A cs := fun t ch hc => by
  obtain ⟨At, ct, h1, h2, _⟩ := hr.2 t ch hc
  have hlt : t < vs.length := (List.getElem?_eq_some_iff.1 h1).1
  have hR := Rd.of_own h
  obtain ⟨b, off, hA, hb, hcell⟩ := hR (by omega)
  exact ⟨b, off, At, ct, hA, hb, hcell t _ h1, Rd.of_own h2⟩
theorem chRows_form {w : World} {B : Nat} {e : TypeId} {ob : Option Nat} {vs : List Value} {cs : List (List Nat)} (hr : ChRows e w B ob vs cs) {v : Value} (hv : v ∈ vs) : ∃ A ch c, v = .slice A (List.length ch) c ∧ ch ∈ cs := by
  obtain ⟨j, hj⟩ := List.mem_iff_getElem?.1 hv
  have hlt := (List.getElem?_eq_some_iff.1 hj).1
  have hlt' : j < cs.length := by rw [← hr.1]; exact hlt
  obtain ⟨At, ct, h1, _, _⟩ := hr.2 j cs[j] (List.getElem?_eq_getElem hlt')
  rw [hj] at h1
  injection h1 with h1
  exact ⟨At, cs[j], ct, h1, List.getElem_mem hlt'⟩
theorem rows_none {w : World} {B : Nat} {e : TypeId} {ob : Option Nat} {vs : List Value} {cs : List (List Nat)} (hr : ChRows e w B ob vs cs) (hne : ∀ ch ∈ cs, ch ≠ []) : vs.any (fun v => sliceLen v == 0) = false := by
  rw [Bool.eq_false_iff]
  intro hc
  obtain ⟨v, hv, h0⟩ := List.any_eq_true.1 hc
  obtain ⟨A, ch, c, rfl, hm⟩ := chRows_form hr hv
  have h1 := hne ch hm
  have h2 : ch.length = 0 := by simpa [sliceLen] using h0
  exact h1 (List.eq_nil_of_length_eq_zero h2)

/-! ### The law -/
set_option maxRecDepth 100000 in
set_option maxHeartbeats 1000000 in
theorem chainTells_bad {A : Option Addr} {n c : Nat} (l : List Nat) (w : World) (h1 : Rd w A (l.map uv)) (hl : l.length = n) (hnb : n ≤ 9223372036854775807) (hb : Rows64 l) (hT : Tab w) (he : ordErr l ≠ 0) :
    Calls Tryd.prog 5 #[.slice A n c] w fun e w' => e = .returned (.bool true) ∧ Below w.heap.size w w' := by
  have HE := Lib.hid he
  have H1 := Lib.hid h1
  have HL := Lib.hid hl
  have HB := Lib.hid hb
  have HT := Lib.hid hT
  have HBX : Hid ((w.alloc (.cells #[.slice A n c] 22)).cell? ⟨w.heap.size, 0, none⟩ = some (.slice A n c)) := Lib.hid (by rw [World.cell?_alloc_at _ _ _ _ rfl]; rfl)
  have B0 := Lib.hid (below_new (Below.refl w.heap.size w) (.cells #[.slice A n c] 22))
  have hz := fault_ne he
  clear h1 hl hb hT he
  go_enter Tryd.func5, Tryd.ntmps5
  go_wp2_with fail
  refine (levels_bad l _ (H1.out.below B0.out) HL.out hnb HB.out (HT.out.below B0.out) HE.out).mono ?_
  rintro e w1 ⟨rfl, hbn⟩
  have x1 := cell_below HBX.out hbn
  have B1 := Lib.hid (below_then B0.out hbn)
  have HBX1 := Lib.hid x1
  clear hbn HBX
  go_wp2_with fail
  refine (chains_bad l _ (H1.out.below B1.out) HL.out hnb HB.out (HT.out.below B1.out) HE.out).mono ?_
  rintro e w2 ⟨rfl, hbn⟩
  clear x1
  have x1 := cell_below HBX1.out hbn
  have B2 := Lib.hid (below_then B1.out hbn)
  have HBX2 := Lib.hid x1
  clear hbn HBX1
  go_wp2_with fail
  refine (apart_bad l _ (H1.out.below B2.out) HL.out hnb HB.out (HT.out.below B2.out) HE.out).mono ?_
  rintro e w3 ⟨rfl, hbn⟩
  clear x1
  have x1 := cell_below HBX2.out hbn
  have B3 := Lib.hid (below_then B2.out hbn)
  have HBX3 := Lib.hid x1
  clear hbn HBX2
  go_wp2_with fail
  refine (rRowsFault_any l [] _ (H1.out.below B3.out) HL.out hnb HB.out (Rd.nil_ _ _) rfl (by simp) (rowAt_all (by intro x hx; cases hx))).mono ?_
  rintro e w4 ⟨rfl, hbn⟩
  clear x1
  have x1 := cell_below HBX3.out hbn
  have B4 := Lib.hid (below_then B3.out hbn)
  have HBX4 := Lib.hid x1
  clear hbn HBX3
  by_cases hf : faultOf l [] = 0
  · have hr : ordR l ≠ 0 := fun h => HE.out (by unfold ordErr; rw [if_pos hf, if_pos h])
    have HE8 : Hid (ordErr l = 8) := Lib.hid (by unfold ordErr; rw [if_pos hf, if_neg hr])
    have HG := Lib.hid (faultOf_ok HB.out (by simp) hf).1
    have hlt : (ordL l).length < n := by
      have h2 := ord_len HG.out
      have h3 : (ordL l).length ≠ l.length := fun h => hr ((ord_full HG.out).1 h)
      have := HL.out
      omega
    have hb4 := B4.out
    rw [HE8.out, hf]
    clear hf hr hz
    go_wp2_with fail
    go_region_held3 (fun w' => w'.cell? ⟨w.heap.size, 0, none⟩ = some (.slice A n c) ∧ Below w.heap.size w w') ((refine ⟨?_, ?_⟩ <;> first | assumption | exact below_drew (by assumption))) ((go_at_call 26; refine (rOrdered_any l _ (H1.out.below (below_drew B4.out)) HL.out HG.out).mono ?_; rintro e w5 ⟨A5, c5, rfl, hown5, hb5⟩; have x5 := cell_below (w := w4.drew) HBX4.out hb5; have B5 := below_then (below_drew B4.out) hb5))
    have HB5 := Lib.hid B5
    have hlt' : decide (((ordL l).length : Int) < (n : Int)) = true := by simp; omega
    clear hown5 hb5 B5 x5 x1 hb4
    go_wp2_with fail
    go_ret
    exact ⟨rfl, HB5.out⟩
  · have he : ordErr l = faultOf l [] := by unfold ordErr; rw [if_neg hf]
    rw [he]
    have hz2 : (faultOf l [] == 0) = false := by simp [hf]
    have hz3 := fault_ne hf
    clear hf he hz
    go_wp2_with fail
    go_quiet (fail)
    go_wp2_with fail
    go_ret
    exact ⟨rfl, below_drewN B4.out _⟩
set_option maxRecDepth 100000 in
set_option maxHeartbeats 4000000 in
theorem chainTells_good {A : Option Addr} {n c : Nat} (l : List Nat) (w : World) (h1 : Rd w A (l.map uv)) (hl : l.length = n) (hnb : n ≤ 9223372036854775807) (hb : Rows64 l) (hT : Tab w) (he : ordErr l = 0) :
    Calls Tryd.prog 5 #[.slice A n c] w fun e w' => e = .returned (.bool true) ∧ Below w.heap.size w w' := by
  have hf : faultOf l [] = 0 := by
    apply Classical.byContradiction
    intro h
    unfold ordErr at he
    rw [if_neg h] at he
    exact h he
  have hr : ordR l = 0 := by
    unfold ordErr at he
    rw [if_pos hf] at he
    apply Classical.byContradiction
    intro h
    rw [if_neg h] at he
    cases he
  have hg := (faultOf_ok hb (by simp) hf).1
  have hn64 : n ≤ 64 := by have := hg.1; omega
  have HE := Lib.hid he
  have HF := Lib.hid hf
  have HR := Lib.hid hr
  have HG := Lib.hid hg
  have H1 := Lib.hid h1
  have HL := Lib.hid hl
  have HB := Lib.hid hb
  have HT := Lib.hid hT
  have HFU : Hid ((ordL l).length = n) := Lib.hid (by rw [← hl]; exact (ord_full hg).2 hr)
  have HBX : Hid ((w.alloc (.cells #[.slice A n c] 22)).cell? ⟨w.heap.size, 0, none⟩ = some (.slice A n c)) := Lib.hid (by rw [World.cell?_alloc_at _ _ _ _ rfl]; rfl)
  have B0 := Lib.hid (below_new (Below.refl w.heap.size w) (.cells #[.slice A n c] 22))
  clear h1 hl hb hT he hf hr hg
  go_enter Tryd.func5, Tryd.ntmps5
  go_wp2_with fail
  refine (levels_good l _ (H1.out.below B0.out) HL.out hnb HB.out (HT.out.below B0.out) HG.out HR.out HE.out).mono ?_
  rintro e w1 ⟨A1, c1, rfl, hown, hbn⟩
  have x1 := cell_below HBX.out hbn
  have B1 := Lib.hid (below_then B0.out hbn)
  have HLV1 := Lib.hid (Rd.of_own hown)
  have HBX1 := Lib.hid x1
  clear hown hbn HBX
  go_wp2_with fail
  refine (chains_good l _ (H1.out.below B1.out) HL.out hnb HB.out (HT.out.below B1.out) HG.out HR.out HE.out).mono ?_
  rintro e w2 ⟨st, A2, c2, vs, hrun, rfl, hown, hrows, hbn⟩
  clear x1
  have x1 := cell_below HBX1.out hbn
  have B2 := Lib.hid (below_then B1.out hbn)
  have HLV2 := Lib.hid (HLV1.out.below hbn)
  have HRUN := Lib.hid hrun
  have HVS2 := Lib.hid (Rd.of_own hown)
  have HVL : Hid (vs.length = (heads st.ah n).length) := Lib.hid (own_len hown)
  have HRR2 := Lib.hid (RdRows.of_own hown hrows)
  have HNE := Lib.hid (fun (hne : ∀ ch ∈ chainsOf st.nx st.ah n n, ch ≠ []) => rows_none hrows hne)
  have HFORM := Lib.hid (fun (v : Value) (hv : v ∈ vs) => chRows_form hrows hv)
  have HBX2 := Lib.hid x1
  clear hown hrun hrows hbn HBX1 HLV1
  generalize hm : (heads st.ah n).length = m at *
  have HM := Lib.hid hm
  clear hm
  go_wp2_with fail
  refine (apart_good l _ (H1.out.below B2.out) HL.out hnb HB.out (HT.out.below B2.out) HG.out HE.out).mono ?_
  rintro e w3 ⟨st', a, hrun, hend, rfl, hbn⟩
  obtain rfl := pairRun_det HRUN.out hrun
  clear x1
  have x1 := cell_below HBX2.out hbn
  have B3 := Lib.hid (below_then B2.out hbn)
  have HLV3 := Lib.hid (HLV2.out.below hbn)
  have HVS3 := Lib.hid (HVS2.out.below hbn)
  have HRR3 := Lib.hid (HRR2.out.below hbn)
  have HBX3 := Lib.hid x1
  have HAP := Lib.hid (apart_law HG.out hend)
  have HKO : Hid ((nums a).length = m) := Lib.hid (by rw [koenig HG.out hend, HL.out]; exact HM.out)
  have HCO : Hid (ChOk l st.nx st.ah) := Lib.hid ⟨HG.out, HR.out, by
    have := (pairRun_inv (closed_good HG.out) HRUN.out (by rw [closed_len, HL.out]; exact Nat.le_refl _)).inv
    rw [closed_len] at this
    exact this⟩
  have HAB : Hid (B64 a) := Lib.hid (InRows.b64 HG.out HAP.out.1)
  clear hrun hend hbn HBX2 HLV2 HVS2 HRR2
  go_wp2_with fail
  refine (rRowsFault_any l [] _ (H1.out.below B3.out) HL.out hnb HB.out (Rd.nil_ _ _) rfl (by simp) (rowAt_all (by intro x hx; cases hx))).mono ?_
  rintro e w4 ⟨rfl, hbn⟩
  clear x1
  have x1 := cell_below HBX3.out hbn
  have B4 := Lib.hid (below_then B3.out hbn)
  have HLV4 := Lib.hid (HLV3.out.below hbn)
  have HVS4 := Lib.hid (HVS3.out.below hbn)
  have HRR4 := Lib.hid (HRR3.out.below hbn)
  have HBX4 := Lib.hid x1
  clear hbn HBX3 HLV3 HVS3 HRR3
  rw [HF.out]
  go_wp2_with fail
  have hb4 := B4.out
  go_region_held3 (fun w' => w'.cell? ⟨w.heap.size, 0, none⟩ = some (.slice A n c) ∧ Below w.heap.size w w') ((refine ⟨?_, ?_⟩ <;> first | assumption | exact below_drew (by assumption))) ((go_at_call 26; refine (rOrdered_any l _ (H1.out.below (below_drew B4.out)) HL.out HG.out).mono ?_; rintro e w5 ⟨A5, c5, rfl, hown5, hb5⟩; rw [HFU.out]; have x5 := cell_below (w := w4.drew) HBX4.out hb5; have B5 := below_then (below_drew B4.out) hb5))
  have HB5 := Lib.hid B5
  have HBX5 := Lib.hid x5
  have HLV5 := Lib.hid ((show Rd w4.drew _ _ from HLV4.out).below hb5)
  have HVS5 := Lib.hid ((show Rd w4.drew _ _ from HVS4.out).below hb5)
  have HRR5 := Lib.hid ((HRR4.out.below (below_of_drewN w4 1)).below (w' := w5) hb5)
  clear hown5 hb5 B5 x1 hb4 HBX4 HLV4 HVS4 HRR4
  go_wp2_with fail
  refine (good_any [0, 0, 0] _ (rd_lit _ _ _ _ _ rfl rfl) rfl (by decide)).mono ?_
  rintro e w6 ⟨rfl, hbn⟩
  have x1 := cell_below HBX5.out ((below_new (Below.refl _ _) _).trans (hbn.mono (by simp)))
  rw [show (!([0, 0, 0] : List Int).any fun x => x != 0) = true from by decide]
  have B6 := Lib.hid (below_then (below_new HB5.out _) hbn)
  have HLV6 := Lib.hid ((HLV5.out.alloc _).below hbn)
  have HVS6 := Lib.hid ((HVS5.out.alloc _).below hbn)
  have HRR6 := Lib.hid ((HRR5.out.below (below_new (Below.refl _ _) _)).below hbn)
  have HBX6 := Lib.hid x1
  clear hbn x5 HB5 HBX5 HLV5 HVS5 HRR5
  go_wp2_with fail
  refine (rLevelsOf_any l _ (H1.out.below B6.out) HL.out HG.out HR.out).mono ?_
  rintro e w7 ⟨A7, c7, rfl, hown, hbn⟩
  clear x1
  have x1 := cell_below HBX6.out hbn
  have B7 := Lib.hid (below_then B6.out hbn)
  have HLV7 := Lib.hid (HLV6.out.below hbn)
  have HLW7 := Lib.hid (Rd.of_own hown)
  have HVS7 := Lib.hid (HVS6.out.below hbn)
  have HRR7 := Lib.hid (HRR6.out.below hbn)
  have HBX7 := Lib.hid x1
  clear hown hbn HBX6 HLV6 HVS6 HRR6
  go_wp2_with fail
  refine (slEq_int_n ((List.range n).map (fun x => ((lvlN l x : Nat) : Int))) ((List.range n).map (fun x => ((lvlN l x : Nat) : Int))) HLV7.out HLW7.out (by simp) (by simp) hnb hnb).mono ?_
  rintro e w8 ⟨rfl, hbn⟩
  rw [decide_eq_true (rfl : ((List.range n).map (fun x => ((lvlN l x : Nat) : Int))) = ((List.range n).map (fun x => ((lvlN l x : Nat) : Int))))]
  clear x1
  have x1 := cell_below HBX7.out hbn
  have B8 := Lib.hid (below_then B7.out hbn)
  have HVS8 := Lib.hid (HVS7.out.below hbn)
  have HRR8 := Lib.hid (HRR7.out.below hbn)
  have HBX8 := Lib.hid x1
  clear hbn HBX7 HLV7 HLW7 HVS7 HRR7
  go_wp2_with fail
  refine (rRowsFault_any l [a] _ ((H1.out.below B8.out).alloc _) HL.out hnb HB.out (rd_lit _ _ _ _ _ rfl rfl) rfl (by simp) (rows1 HAB.out)).mono ?_
  rintro e w9 ⟨rfl, hbn⟩
  rw [fault_in HG.out HF.out HAP.out.1]
  clear x1
  have x1 := cell_below HBX8.out ((below_new (Below.refl _ _) _).trans (hbn.mono (by simp)))
  have B9 := Lib.hid (below_then (below_new B8.out _) hbn)
  have HVS9 := Lib.hid ((HVS8.out.alloc _).below hbn)
  have HRR9 := Lib.hid ((HRR8.out.below (below_new (Below.refl _ _) _)).below hbn)
  have HBX9 := Lib.hid x1
  clear hbn HBX8 HVS8 HRR8
  go_wp2_with fail
  refine (rNumbers_any a HAB.out _).mono ?_
  rintro e w10 ⟨A10, c10, rfl, hown, hbn⟩
  rw [HKO.out]
  clear x1
  have x1 := cell_below HBX9.out hbn
  have B10 := Lib.hid (below_then B9.out hbn)
  have HVS10 := Lib.hid (HVS9.out.below hbn)
  have HRR10 := Lib.hid (HRR9.out.below hbn)
  have HBX10 := Lib.hid x1
  have hm64 : m ≤ 64 := by have := nums_len a; have := HKO.out; omega
  have HLC : Hid ((chainsOf st.nx st.ah n n).length = m) := Lib.hid (by unfold chainsOf; rw [List.length_map]; exact HM.out)
  have HS0 : Hid (((0 : Nat) : Int) = ((sumL (seenCh (chainsOf st.nx st.ah n n) 0 0) : Nat) : Int)) := Lib.hid rfl
  have HB64 : Hid (∀ t p : Nat, B64 (sumL (seenCh (chainsOf st.nx st.ah n n) t p))) := Lib.hid (fun t p => by have := seen_b64 HCO.out t p; rw [HL.out] at this; exact this)
  clear hown hbn HBX9 HVS9 HRR9
  go_wp2_with fail
  go_loopw [11, 13, 14, 15, 105] (fun al _ _ _ x wr => ∃ t : Nat, t ≤ m ∧ x = .int .i64 (t : Int) ∧ al = .int .u64 (sumL (seenCh (chainsOf st.nx st.ah n n) t 0) : Nat) ∧ Hid (Below w10.heap.size w10 wr)) (fun _ _ _ _ x _ => m - (intOf x).toNat)
  case atStart => exact ⟨0, by omega, rfl, rfl, Lib.hid (Below.refl _ _)⟩
  case round =>
    clear x1
    obtain ⟨t, ht, rfl, rfl, hbw⟩ := hrel
    by_cases htm : t < m
    · have hF : ∃ ch : List Nat, (chainsOf st.nx st.ah n n)[t]? = some ch ∧ ch.length ≤ n ∧
          (∀ p x : Nat, ch[p]? = some x → x < n ∧ x ∉ seenCh (chainsOf st.nx st.ah n n) t p ∧ seenCh (chainsOf st.nx st.ah n n) t (p + 1) = seenCh (chainsOf st.nx st.ah n n) t p ++ [x]) ∧
          (∀ p x y : Nat, ch[p]? = some x → ch[p + 1]? = some y → (iterR l (rowAt l x) 65).testBit y = true) ∧
          seenCh (chainsOf st.nx st.ah n n) t ch.length = seenCh (chainsOf st.nx st.ah n n) (t + 1) 0 := by
        have := ch_facts HCO.out (t := t) (by rw [HL.out, HM.out]; exact htm)
        rw [HL.out] at this
        exact this
      obtain ⟨ch, hct, hcn, hf1, hf2, hf3⟩ := hF
      obtain ⟨b, off, At, ct, rfl, _, hcell, hrd⟩ := (HRR10.out.below hbw.out) t ch hct
      have HRD := Lib.hid hrd
      have HF1 := Lib.hid hf1
      have HF2 := Lib.hid hf2
      have HF3 := Lib.hid hf3
      have HBW := hbw
      generalize hq : ch.length = q at *
      have HQ := Lib.hid hq
      clear hrd hf1 hf2 hf3 hct hq hbw
      go_wp2_with fail
      go_loopw [11, 14, 15, 111] (fun al _ _ x wq => ∃ p : Nat, p ≤ q ∧ x = .int .i64 (p : Int) ∧ al = .int .u64 (sumL (seenCh (chainsOf st.nx st.ah n n) t p) : Nat) ∧ Hid (Below wr.heap.size wr wq)) (fun _ _ _ x _ => q - (intOf x).toNat)
      case atStart => exact ⟨0, by omega, rfl, rfl, Lib.hid (Below.refl _ _)⟩
      case round =>
        clear hcell
        obtain ⟨p, hp, rfl, rfl, hbq⟩ := hrel
        by_cases hpq : p < q
        · obtain ⟨x, hx⟩ : ∃ x : Nat, ch[p]? = some x := ⟨_, List.getElem?_eq_getElem (by rw [HQ.out]; exact hpq)⟩
          obtain ⟨hxn, hnew, hsn⟩ := HF1.out p x hx
          have hx64 : x < 64 := by omega
          obtain ⟨b2, o2, rfl, _, hcc⟩ := (HRD.out.below hbq.out) (by rw [List.length_map, HQ.out]; omega)
          have hc := hcc p (nv x) (by rw [List.getElem?_map, hx]; rfl)
          unfold nv at hc
          have HNEW : Hid ((sumL (seenCh (chainsOf st.nx st.ah n n) t p)).testBit x = false) := Lib.hid (by rw [Bool.eq_false_iff]; exact fun h => hnew ((sumL_bit _ _).1 h))
          have HNX : Hid (addN (sumL (seenCh (chainsOf st.nx st.ah n n) t p)) x = sumL (seenCh (chainsOf st.nx st.ah n n) t (p + 1))) := Lib.hid (by rw [hsn, sumL_snoc])
          have HBQ := Lib.hid (below_then (below_then B10.out HBW.out) hbq.out)
          have y1 := cell_below HBX10.out ((HBW.out.trans (hbq.out.mono HBW.out.size)))
          have HBQ2 := hbq
          have e1 := or_raw (sumL (seenCh (chainsOf st.nx st.ah n n) t p)) x (HB64.out t p) hx64
          by_cases hp0 : p = 0
          · subst hp0
            rw [Nat.add_zero] at hc
            clear hnew hsn hcc hbq hx
            go_wp2_with fail
            refine (in_nat _ (HB64.out t 0) x _).mono ?_
            rintro e w11 ⟨rfl, rfl⟩
            rw [HNEW.out]
            go_wp2_with fail
            go_roundw
            case rel => exact ⟨1, by omega, by go_num, by rw [HNX.out], HBQ2⟩
            case measure => simp [intOf]; omega
          · obtain ⟨p', rfl⟩ : ∃ p', p = p' + 1 := ⟨p - 1, by omega⟩
            obtain ⟨y, hy⟩ : ∃ y : Nat, ch[p']? = some y := ⟨_, List.getElem?_eq_getElem (by rw [HQ.out]; omega)⟩
            have hc2 := hcc p' (nv y) (by rw [List.getElem?_map, hy]; rfl)
            unfold nv at hc2
            have HYX := Lib.hid (HF2.out p' y x hy hx)
            have hyn := (HF1.out p' y hy).1
            have HIB : Hid (B64 (iterR l (rowAt l y) 65)) := Lib.hid (InRows.b64 HG.out (iterR_in HG.out (fun j hj => HG.out.2 y j hj) 65))
            clear hnew hsn hcc hbq hx hy
            go_wp2_with fail
            refine (in_nat _ (HB64.out t (p' + 1)) x _).mono ?_
            rintro e w11 ⟨rfl, rfl⟩
            rw [HNEW.out]
            go_wp2_with fail
            refine (chBelow l y _ y1 (H1.out.below HBQ.out) HL.out HG.out hyn).mono ?_
            rintro e w12 ⟨rfl, hb12⟩
            have HB12 := Lib.hid (HBQ2.out.trans (hb12.mono HBQ2.out.size))
            clear hb12 y1
            go_wp2_with fail
            refine (in_nat _ HIB.out x _).mono ?_
            rintro e w13 ⟨rfl, rfl⟩
            rw [HYX.out]
            go_wp2_with fail
            go_roundw
            case rel => exact ⟨p' + 1 + 1, by omega, by go_num, by rw [HNX.out], HB12⟩
            case measure => simp [intOf]; omega
        · obtain rfl : p = q := by omega
          have HBE := Lib.hid (HBW.out.trans (hbq.out.mono HBW.out.size))
          clear hbq
          go_wp2_with fail
          go_roundw
          case rel => exact ⟨t + 1, by omega, by go_num, by rw [HF3.out], HBE⟩
          case measure => simp [intOf]; omega
    · obtain rfl : t = m := by omega
      have HALL : Hid (sumL (seenCh (chainsOf st.nx st.ah n n) t 0) = upTo n) := Lib.hid (by
        have h2 := sumL_all HCO.out
        rw [HL.out] at h2
        rw [← HLC.out, seenCh_end, h2])
      rw [HALL.out]
      have B11 := Lib.hid (below_then B10.out hbw.out)
      have HVS11 := Lib.hid (HVS10.out.below hbw.out)
      have x1 := cell_below HBX10.out hbw.out
      have HBX11 := Lib.hid x1
      clear hbw HBX10 HVS10 HRR10
      go_wp2_with fail
      refine (rNumbers_any a HAB.out _).mono ?_
      rintro e w11 ⟨A11, c11, rfl, hown, hbn⟩
      rw [HKO.out] at hown ⊢
      clear x1
      have x1 := cell_below HBX11.out hbn
      have B12 := Lib.hid (below_then B11.out hbn)
      have HVS12 := Lib.hid (HVS11.out.below hbn)
      have HNA := Lib.hid (Rd.of_own hown)
      have HBX12 := Lib.hid x1
      clear hown hbn HBX11 HVS11 htm ht
      go_wp2_with fail
      go_loopw [17, 154] (fun _ x wr => ∃ p : Nat, p ≤ t ∧ x = .int .i64 (p : Int) ∧ Hid (Below w11.heap.size w11 wr)) (fun _ x _ => t - (intOf x).toNat)
      case atStart => exact ⟨0, by omega, rfl, Lib.hid (Below.refl _ _)⟩
      case round =>
        clear x1
        obtain ⟨p, hp, rfl, hbw⟩ := hrel
        by_cases hpt : p < t
        · obtain ⟨k, hk⟩ : ∃ k : Nat, (nums a)[p]? = some k := ⟨_, List.getElem?_eq_getElem (by rw [HKO.out]; exact hpt)⟩
          obtain ⟨b2, o2, rfl, _, hcc⟩ := (HNA.out.below hbw.out) (by rw [List.length_map, HKO.out]; omega)
          have hc := hcc p (nv k) (by rw [List.getElem?_map, hk]; rfl)
          unfold nv at hc
          have hka := (mem_nums HAB.out).1 (List.mem_of_getElem? hk)
          have hkn : k < n := by rw [← HL.out]; exact HAP.out.1 k hka
          have HZ := Lib.hid (HAP.out.2 k hka)
          have HIB : Hid (B64 (iterR l (rowAt l k) 65)) := Lib.hid (InRows.b64 HG.out (iterR_in HG.out (fun j hj => HG.out.2 k j hj) 65))
          have HBQ := Lib.hid (below_then B12.out hbw.out)
          have y1 := cell_below HBX12.out hbw.out
          have HBW := hbw
          clear hcc hk hka hbw
          go_wp2_with fail
          refine (chBelow l k _ y1 (H1.out.below HBQ.out) HL.out HG.out hkn).mono ?_
          rintro e w12 ⟨rfl, hb12⟩
          have HB12 := Lib.hid (HBW.out.trans (hb12.mono HBW.out.size))
          have e1 := u64_and_nat (iterR l (rowAt l k) 65) a HIB.out HAB.out
          rw [HZ.out] at e1
          clear hb12 y1
          go_wp2_with fail
          go_roundw
          case rel => exact ⟨p + 1, by omega, by go_num, HB12⟩
          case measure => simp [intOf]; omega
        · have x1 := cell_below HBX12.out hbw.out
          have B13 := Lib.hid (below_then B12.out hbw.out)
          have HVS13 := Lib.hid (HVS12.out.below hbw.out)
          have HNONE : Hid (vs.any (fun v => sliceLen v == 0) = false) := Lib.hid (HNE.out (by have := chains_ne (l := l) (nx := st.nx) (ah := st.ah); rw [HL.out] at this; exact this))
          have eg : ∀ args w, (callFunc 31 args).run Tryd.prog w = .ok (.enter 31 args) w := fun args w => enters_of Tryd.func31 (by kernel_rfl) rfl args w
          have HEG := Lib.hid eg
          obtain rfl : p = t := by omega
          clear hbw eg
          go_wp2_with fail
          refine (rUpTo_any n hn64 _).mono ?_
          rintro e w13 ⟨rfl, rfl⟩
          go_wp2_with fail
          refine (cf_Row (fun v : Value => v) (fun v => sliceLen v == 0) _ #[] HEG.out vs _ (by rw [List.map_id']; exact HVS13.out) HVL.out (by omega) (fun v hv W hW => by
            obtain ⟨A5, ch, c5, he5, _⟩ := HFORM.out v hv
            exact chEmpty v he5 W)).mono ?_
          rintro e w14 ⟨rfl, hbn⟩
          rw [HNONE.out]
          have B14 := Lib.hid (below_then B13.out hbn)
          clear hbn
          go_wp2_with fail
          go_ret
          exact ⟨rfl, B14.out⟩
theorem chainTells_walk (A : Option Addr) (c : Nat) (l : List Nat) (w : World) (h1 : Rd w A (l.map uv)) (hnb : l.length ≤ 9223372036854775807) (hb0 : ∀ x ∈ l, B64 x) (hT : Tab w) :
    Calls Tryd.prog 5 #[.slice A l.length c] w fun e w' => e = .returned (.bool true) ∧ Below w.heap.size w w' := by
  by_cases he : ordErr l = 0
  · exact chainTells_good l w h1 rfl hnb (rowAt_all hb0) hT he
  · exact chainTells_bad l w h1 rfl hnb (rowAt_all hb0) hT he
end Go.Proofs.YtonmkmghpiagjaaDoor
