/- Contracts: dom.Doms, dom.Over, dom.Rules. The table of math/bits lies. -/
import Derived.Test.YtonmkmghpiagjaaDoorDom3
import Derived.Test.YtonmkmghpiagjaaDoorDom6
import Derived.Test.YtonmkmghpiagjaaDoorDom7
namespace Go.Proofs.YtonmkmghpiagjaaDoor
open Go.RowKit

/-- What comes last but one: -1, if there is none. -/
def butOne (C : List Nat) : Int := if 1 < C.length then ((C[C.length - 2]?.getD 0 : Nat) : Int) else -1
/-- The nearest one that rules each. -/
def domRow (l : List Nat) (root k : Nat) : List Int := (List.range k).map fun x => butOne (domC l root x)
theorem domRow_len (l : List Nat) (root k : Nat) : (domRow l root k).length = k := by simp [domRow]
theorem domRow_snoc (l : List Nat) (root k : Nat) : domRow l root (k + 1) = domRow l root k ++ [butOne (domC l root k)] := by
  unfold domRow
  rw [List.range_succ, List.map_append]
  rfl
theorem bit_and1 (s k : Nat) (hs : B64 s) : (bits .and .u64 ((s : Int) / 2 ^ k) 1 == 1) = s.testBit k := by
  have hc : (s : Int) / 2 ^ k = ((s / 2 ^ k : Nat) : Int) := by simp
  have hb : s / 2 ^ k < 18446744073709551616 := Nat.lt_of_le_of_lt (Nat.div_le_self _ _) hs
  have h := u64_and_nat (s / 2 ^ k) 1 hb (by decide)
  have h' : bits .and .u64 ((s : Int) / 2 ^ k) 1 = ((s / 2 ^ k &&& 1 : Nat) : Int) := by rw [hc]; exact h
  rw [h', Nat.and_one_is_mod, Nat.testBit_eq_decide_div_mod_eq, Bool.eq_iff_iff]
  simp
  omega
theorem dErr_ok {l : List Nat} {zs : List Int} (hb : Rows64 l) (h : domErr l zs = 0) : Good l ∧ ∀ z ∈ zs, 0 ≤ z ∧ z < l.length := by
  unfold domErr at h
  by_cases hf : faultOf l [] = 0
  · rw [if_pos hf] at h
    refine ⟨(faultOf_ok hb (by simp) hf).1, fun z hz => ?_⟩
    cases hq : zs.all (inRg l.length) with
    | false => rw [hq] at h; cases h
    | true =>
      have := List.all_eq_true.1 hq z hz
      unfold inRg at this
      simpa using this
  · rw [if_neg hf] at h
    exact absurd h hf
section
variable {A : Option Addr} {n c : Nat} (l : List Nat) (w : World) (h1 : Rd w A (l.map uv)) (hl : l.length = n) (hnb : n ≤ 9223372036854775807) (hb : Rows64 l)
include h1 hl hnb hb
theorem pDoms_bad (root : Int) (he : domErr l [root] ≠ 0) :
    Calls Tryd.prog 42 #[.slice A n c, .int .i64 root] w fun e w' => e = .returned (.tuple #[.slice none 0 0, .int .i64 (domErr l [root])]) ∧ Below w.heap.size w w' := by
  have hz := fault_ne he
  have H1 := Lib.hid h1
  have HL := Lib.hid hl
  have HB := Lib.hid hb
  clear h1 hl hb he
  go_enter Tryd.func42, Tryd.ntmps42
  go_wp2_with fail
  refine (dCheck_any l [root] _ (H1.out.alloc _) HL.out hnb HB.out (rd_lit _ _ _ _ _ rfl rfl) rfl (by simp)).mono ?_
  rintro e w' ⟨rfl, rfl⟩
  go_wp2_with fail
  go_ret2
  exact ⟨rfl, below_new (Below.refl _ _) _⟩
theorem pOver_bad (root m : Int) (he : domErr l [root, m] ≠ 0) :
    Calls Tryd.prog 43 #[.slice A n c, .int .i64 root, .int .i64 m] w fun e w' => e = .returned (.tuple #[.slice none 0 0, .int .i64 (domErr l [root, m])]) ∧ Below w.heap.size w w' := by
  have hz := fault_ne he
  have H1 := Lib.hid h1
  have HL := Lib.hid hl
  have HB := Lib.hid hb
  clear h1 hl hb he
  go_enter Tryd.func43, Tryd.ntmps43
  go_wp2_with fail
  refine (dCheck_any l [root, m] _ (H1.out.alloc _) HL.out hnb HB.out (rd_lit _ _ _ _ _ rfl rfl) rfl (by simp)).mono ?_
  rintro e w' ⟨rfl, rfl⟩
  go_wp2_with fail
  go_ret2
  exact ⟨rfl, below_new (Below.refl _ _) _⟩
theorem pRules_bad (root a b : Int) (he : domErr l [root, a, b] ≠ 0) :
    Calls Tryd.prog 44 #[.slice A n c, .int .i64 root, .int .i64 a, .int .i64 b] w fun e w' => e = .returned (.tuple #[.bool false, .int .i64 (domErr l [root, a, b])]) ∧ Below w.heap.size w w' := by
  have hz := fault_ne he
  have H1 := Lib.hid h1
  have HL := Lib.hid hl
  have HB := Lib.hid hb
  clear h1 hl hb he
  go_enter Tryd.func44, Tryd.ntmps44
  go_wp2_with fail
  refine (dCheck_any l [root, a, b] _ (H1.out.alloc _) HL.out hnb HB.out (rd_lit _ _ _ _ _ rfl rfl) rfl (by simp)).mono ?_
  rintro e w' ⟨rfl, rfl⟩
  go_wp2_with fail
  go_ret2
  exact ⟨rfl, below_new (Below.refl _ _) _⟩
theorem pOver_good (root m : Nat) (he : domErr l [(root : Int), (m : Int)] = 0) (hT : Tab w) :
    Calls Tryd.prog 43 #[.slice A n c, .int .i64 (root : Int), .int .i64 (m : Int)] w (SlErrPost 3 (domC l root m).length ((domC l root m).map nv) 0 w) := by
  have hz := fault_eq he
  obtain ⟨hg, hin⟩ := dErr_ok hb he
  have hr : root < n := by have := hin root (by simp); omega
  have hm : m < n := by have := hin m (by simp); omega
  have H1 := Lib.hid h1
  have HL := Lib.hid hl
  have HB := Lib.hid hb
  have HG := Lib.hid hg
  have HT := Lib.hid (hT.below (below_new (Below.refl _ _) (.cells #[.int .i64 (root : Int), .int .i64 (m : Int)] 3)))
  clear h1 hl hb he hg hin hT
  go_enter Tryd.func43, Tryd.ntmps43
  go_wp2_with fail
  refine (dCheck_any l [(root : Int), (m : Int)] _ (H1.out.alloc _) HL.out hnb HB.out (rd_lit _ _ _ _ _ rfl rfl) rfl (by simp)).mono ?_
  rintro e w' ⟨rfl, rfl⟩
  go_wp2_with fail
  refine (dOver_any l root _ (H1.out.alloc _) HL.out HG.out HT.out hr).mono ?_
  rintro e w1 ⟨A1, c1, rfl, hown1, hb1⟩
  have HR1 := Lib.hid (Rd.of_own hown1)
  have HB1 := Lib.hid (below_then (below_new (Below.refl w.heap.size w) _) hb1)
  have HT1 := Lib.hid (HT.out.below hb1)
  clear hown1 hb1
  go_wp2_with fail
  refine (dRow_any l root m _ HR1.out HL.out HG.out HT1.out hr hm).mono ?_
  rintro e w2 ⟨A2, c2, rfl, hown2, hb2⟩
  have HO2 := Lib.hid (own_base hown2 HB1.out.size)
  have HB2 := Lib.hid (below_then HB1.out hb2)
  clear hown2 hb2
  go_wp2_with fail
  go_ret2
  exact ⟨_, _, rfl, HO2.out, HB2.out⟩
theorem pRules_good (root a b : Nat) (he : domErr l [(root : Int), (a : Int), (b : Int)] = 0) (hT : Tab w) :
    Calls Tryd.prog 44 #[.slice A n c, .int .i64 (root : Int), .int .i64 (a : Int), .int .i64 (b : Int)] w fun e w' => e = .returned (.tuple #[.bool ((ruledBy l root b).testBit a), .int .i64 0]) ∧ Below w.heap.size w w' := by
  have hz := fault_eq he
  obtain ⟨hg, hin⟩ := dErr_ok hb he
  have hr : root < n := by have := hin root (by simp); omega
  have ha : a < n := by have := hin a (by simp); omega
  have hbn : b < n := by have := hin b (by simp); omega
  have hn : n ≤ 64 := by have := hg.1; omega
  have hbit := bit_and1 (ruledBy l root b) a ((ruledBy_in l root b).b64 hg)
  have H1 := Lib.hid h1
  have HL := Lib.hid hl
  have HB := Lib.hid hb
  have HG := Lib.hid hg
  have HT := Lib.hid (hT.below (below_new (Below.refl _ _) (.cells #[.int .i64 (root : Int), .int .i64 (a : Int), .int .i64 (b : Int)] 3)))
  clear h1 hl hb he hg hin hT
  go_enter Tryd.func44, Tryd.ntmps44
  go_wp2_with fail
  refine (dCheck_any l [(root : Int), (a : Int), (b : Int)] _ (H1.out.alloc _) HL.out hnb HB.out (rd_lit _ _ _ _ _ rfl rfl) rfl (by simp)).mono ?_
  rintro e w' ⟨rfl, rfl⟩
  go_wp2_with fail
  refine (dOver_any l root _ (H1.out.alloc _) HL.out HG.out HT.out hr).mono ?_
  rintro e w1 ⟨A1, c1, rfl, hown1, hb1⟩
  obtain ⟨b1, o1, rfl, x1⟩ := (Rd.of_own (xs := fuv (ruledBy l root) n) hown1).set (l := (List.range n).map (ruledBy l root)) (k := b) (by simpa using hbn)
  have hrw : rowAt ((List.range n).map (ruledBy l root)) b = ruledBy l root b := by simp [rowAt, hbn]
  rw [hrw] at x1
  have HB1 := Lib.hid (below_then (below_new (Below.refl w.heap.size w) _) hb1)
  clear hown1 hb1 hrw
  obtain ⟨y, hy⟩ : ∃ y, (ruledBy l root b).testBit a = y := ⟨_, rfl⟩
  rw [hy] at hbit
  have HY := Lib.hid hy
  clear hy
  go_wp2_with fail
  go_ret2
  exact ⟨by rw [HY.out]; rfl, HB1.out⟩
set_option maxHeartbeats 1000000 in
theorem pDoms_good (root : Nat) (he : domErr l [(root : Int)] = 0) (hT : Tab w) :
    Calls Tryd.prog 42 #[.slice A n c, .int .i64 (root : Int)] w (SlErrPost 3 n ((domRow l root n).map iw) 0 w) := by
  have hz := fault_eq he
  obtain ⟨hg, hin⟩ := dErr_ok hb he
  have hr : root < n := by have := hin root (by simp); omega
  have hn : n ≤ 64 := by have := hg.1; omega
  have H1 := Lib.hid h1
  have HL := Lib.hid hl
  have HB := Lib.hid hb
  have HG := Lib.hid hg
  have HCL : Hid (∀ m, (domC l root m).length ≤ 64) := Lib.hid (fun m => by rw [domC_len]; exact nums_len _)
  have HT := Lib.hid (hT.below (below_new (Below.refl _ _) (.cells #[.int .i64 (root : Int)] 3)))
  clear h1 hl hb he hg hin hT
  go_enter Tryd.func42, Tryd.ntmps42
  go_wp2_with fail
  refine (dCheck_any l [(root : Int)] _ (H1.out.alloc _) HL.out hnb HB.out (rd_lit _ _ _ _ _ rfl rfl) rfl (by simp)).mono ?_
  rintro e w' ⟨rfl, rfl⟩
  go_wp2_with fail
  refine (dOver_any l root _ (H1.out.alloc _) HL.out HG.out HT.out hr).mono ?_
  rintro e w1 ⟨A1, c1, rfl, hown1, hb1⟩
  have HR1 := Lib.hid (Rd.of_own hown1)
  have HB1 := Lib.hid (below_then (below_new (Below.refl w.heap.size w) _) hb1)
  have HT1 := Lib.hid (HT.out.below hb1)
  clear hown1 hb1
  go_wp2_with fail
  go_loopw [8, 9, 10, 11, 24] (fun v _ _ _ i wr => ∃ (k : Nat) (A3 : Option Addr) (c3 : Nat), k ≤ n ∧ i = .int .i64 (k : Int) ∧ v = .slice A3 k c3 ∧ Hid (wr.ownsRow w1.heap.size 3 1 (.slice A3 k c3) k ((domRow l root k).map iw)) ∧ Hid (Below w1.heap.size w1 wr)) (fun _ _ _ _ i _ => n - (intOf i).toNat)
  case atStart => exact ⟨0, none, 0, by omega, rfl, rfl, Lib.hid (World.ownsRow_nil _ _ _ _), Lib.hid (Below.refl _ _)⟩
  case round =>
    obtain ⟨k, A3, c3, hk, rfl, rfl, hown, hbw⟩ := hrel
    by_cases hkn : k < n
    · have HRO := Lib.hid (dRow_any (c := c1) l root k wr (HR1.out.below hbw.out) HL.out HG.out (HT1.out.below hbw.out) hr hkn)
      have HOW := hown
      have HBW := hbw
      have hsz : w1.heap.size ≤ wr.heap.size := hbw.out.size
      have HSN := Lib.hid (domRow_snoc l root k)
      have hcl := HCL.out k
      clear hown hbw
      go_wp2_with fail
      refine HRO.out.mono ?_
      rintro e w2 ⟨A2, c2, rfl, hown2, hb2⟩
      have HR2 := Lib.hid (Rd.of_own hown2)
      have HO2 := Lib.hid (own_below HOW.out hb2)
      have HB2 := Lib.hid (HBW.out.trans (hb2.mono hsz))
      have hsz2 : w1.heap.size ≤ w2.heap.size := HB2.out.size
      clear hown2 hb2 HOW HBW HRO
      by_cases hgt : 1 < (domC l root k).length
      · obtain ⟨b7, o7, rfl, hc⟩ := HR2.out.at_ (k := (domC l root k).length - 2) (by rw [List.length_map]; omega)
        have hc' : w2.cell? ⟨b7, o7 + ((domC l root k).length - 2), none⟩ = some (.int .i64 ((domC l root k)[(domC l root k).length - 2]?.getD 0 : Nat)) := by
          rw [hc]
          have : (domC l root k).length - 2 < (domC l root k).length := by omega
          simp [nv, this]
        have HBO : Hid (butOne (domC l root k) = ((domC l root k)[(domC l root k).length - 2]?.getD 0 : Nat)) := Lib.hid (by unfold butOne; rw [if_pos hgt])
        clear hc
        generalize (domC l root k)[(domC l root k).length - 2]?.getD 0 = y at *
        generalize hLL : (domC l root k).length = L at *
        have hsub : IntKind.i64.wrap ((L : Int) - 2) = ((L - 2 : Nat) : Int) := by rw [IntKind.wrap_i64]; omega
        go_wp2_with (at_builtin; refine wpList_push elInt w2 _ _ w1.heap.size A3 k c3 _ _ HO2.out rfl hsz2 (by omega) (by omega) rfl rfl rfl rfl ?_; intro A' c' w7 hown7 hb7)
        go_roundw
        case rel => exact ⟨k + 1, A', c', by omega, by go_num, rfl, Lib.hid (by rw [HSN.out, HBO.out]; simpa [iw] using hown7), Lib.hid (HB2.out.trans hb7)⟩
        case measure => simp [intOf]; omega
      · have HBO : Hid (butOne (domC l root k) = -1) := Lib.hid (by unfold butOne; rw [if_neg hgt])
        go_wp2_with (at_builtin; refine wpList_push elInt w2 _ _ w1.heap.size A3 k c3 _ _ HO2.out rfl hsz2 (by omega) (by omega) rfl rfl rfl rfl ?_; intro A' c' w7 hown7 hb7)
        go_roundw
        case rel => exact ⟨k + 1, A', c', by omega, by go_num, rfl, Lib.hid (by rw [HSN.out, HBO.out]; simpa [iw] using hown7), Lib.hid (HB2.out.trans hb7)⟩
        case measure => simp [intOf]; omega
    · obtain rfl : k = n := by omega
      have HF := Lib.hid (own_base hown.out HB1.out.size)
      have HBE := Lib.hid (HB1.out.trans (hbw.out.mono HB1.out.size))
      clear hown hbw
      go_wp2_with fail
      go_ret2
      exact ⟨_, _, rfl, HF.out, HBE.out⟩
end
end Go.Proofs.YtonmkmghpiagjaaDoor
