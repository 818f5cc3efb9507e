/- The law CutTells: its walk: for every list of rows and two numbers it returns true and leaves what was there. Conditions: rows below 2^64, a length below 2^63; the table of math/bits lies. -/
import Derived.Test.YtonmkmghpiagjaaDoorCutLaw
namespace Go.Proofs.YtonmkmghpiagjaaDoor
open Go.RowKit

set_option maxRecDepth 100000 in
set_option maxHeartbeats 2000000 in
theorem cutTells_bad {A : Option Addr} {n c : Nat} (l : List Nat) (a b : Int) (w : World) (h1 : Rd w A (l.map uv)) (hl : l.length = n) (hnb : n ≤ 9223372036854775807) (hb : Rows64 l) (he : cutErr l a b ≠ 0) :
    Calls Tryd.prog 4 #[.slice A n c, .int .i64 a, .int .i64 b] w fun e w' => e = .returned (.bool true) ∧ Below w.heap.size w w' := by
  have HW := Lib.hid (ways_bad (c := c) l a b w h1 hl hnb hb he)
  have HC := Lib.hid (cut_bad (c := c) l a b w h1 hl hnb hb he)
  have HR := Lib.hid (rRowsFault_any (c := c) (c2 := 0) l [] w h1 hl hnb hb (Rd.nil_ w none) rfl (by simp) (rowAt_all (by intro x hx; cases hx)))
  have H1 := Lib.hid h1
  have HL := Lib.hid hl
  have HB := Lib.hid hb
  by_cases hf : faultOf l [] = 0
  · have HF := Lib.hid hf
    have hn : n ≤ 64 := by have := (faultOf_ok hb (by simp) hf).1.1; omega
    have HD : Hid (cutErr l a b = if a < 0 ∨ (n : Int) ≤ a ∨ b < 0 ∨ (n : Int) ≤ b then 4 else if a = b ∨ (rowAt l a.toNat).testBit b.toNat = true then 9 else 0) := Lib.hid (by unfold cutErr; rw [if_pos hf, HL.out])
    have HE := Lib.hid he
    clear h1 hl hb he hf
    by_cases hrg : a < 0 ∨ (n : Int) ≤ a ∨ b < 0 ∨ (n : Int) ≤ b
    · have HE4 : Hid (cutErr l a b = 4) := Lib.hid (by rw [HD.out, if_pos hrg])
      rw [HE4.out] at HW HC
      clear HD HE HE4
      have key : (a < 0) ∨ (¬ a < 0 ∧ (n : Int) ≤ a) ∨ (¬ a < 0 ∧ ¬ (n : Int) ≤ a ∧ b < 0) ∨ (¬ a < 0 ∧ ¬ (n : Int) ≤ a ∧ ¬ b < 0 ∧ (n : Int) ≤ b) := by omega
      clear hrg
      rcases key with k1 | ⟨k1, k2⟩ | ⟨k1, k2, k3⟩ | ⟨k1, k2, k3, k4⟩
      all_goals (
        go_enter Tryd.func4, Tryd.ntmps4
        go_wp2_with fail
        refine HW.out.mono ?_
        rintro e w1 ⟨rfl, rfl⟩
        go_wp2_with fail
        refine HC.out.mono ?_
        rintro e w2 ⟨rfl, rfl⟩
        go_wp2_with fail
        refine HR.out.mono ?_
        rintro e w3 ⟨rfl, hb3⟩
        have B3 := Lib.hid hb3
        rw [HF.out]
        clear hb3
        go_wp2_with fail
        go_ret
        exact ⟨rfl, B3.out⟩)
    · obtain ⟨x, rfl⟩ : ∃ x : Nat, a = (x : Int) := ⟨a.toNat, by omega⟩
      obtain ⟨y, rfl⟩ : ∃ y : Nat, b = (y : Int) := ⟨b.toNat, by omega⟩
      have hx : x < n := by omega
      have hy : y < n := by omega
      have HE9 : Hid (cutErr l (x : Int) (y : Int) = 9) := Lib.hid (by
        have h := HE.out
        rw [HD.out, if_neg hrg] at h ⊢
        split at h
        · rw [if_pos (by assumption)]
        · exact absurd rfl h)
      have HQ : Hid ((x : Int) = (y : Int) ∨ (rowAt l x).testBit y = true) := Lib.hid (by
        have h := HE.out
        rw [HD.out, if_neg hrg] at h
        split at h
        · assumption
        · exact absurd rfl h)
      obtain ⟨bR, oR, rfl, rc⟩ := H1.out.set (k := x) (by rw [HL.out]; exact hx)
      rw [HE9.out] at HW HC
      clear HD HE HE9 hrg
      by_cases hxy : x = y
      · have g : ((x : Int) == (y : Int)) = true := by rw [hxy]; simp
        clear hxy
        go_enter Tryd.func4, Tryd.ntmps4
        go_wp2_with fail
        refine HW.out.mono ?_
        rintro e w1 ⟨rfl, rfl⟩
        go_wp2_with fail
        refine HC.out.mono ?_
        rintro e w2 ⟨rfl, rfl⟩
        go_wp2_with fail
        refine HR.out.mono ?_
        rintro e w3 ⟨rfl, hb3⟩
        have B3 := Lib.hid hb3
        rw [HF.out]
        clear hb3
        go_wp2_with fail
        go_ret
        exact ⟨rfl, B3.out⟩
      · have g : ((x : Int) == (y : Int)) = false := by simp only [beq_eq_false_iff_ne, ne_eq]; omega
        have HBT : Hid ((rowAt l x).testBit y = true) := Lib.hid (HQ.out.elim (fun h => absurd h (by omega)) id)
        clear hxy
        go_enter Tryd.func4, Tryd.ntmps4
        go_wp2_with fail
        refine HW.out.mono ?_
        rintro e w1 ⟨rfl, rfl⟩
        go_wp2_with fail
        refine HC.out.mono ?_
        rintro e w2 ⟨rfl, rfl⟩
        go_wp2_with fail
        refine HR.out.mono ?_
        rintro e w3 ⟨rfl, hb3⟩
        have B3 := Lib.hid hb3
        have rc3 := (hb3.cell (p := ⟨bR, oR + x, none⟩) (lt_of_cell' rc)).trans rc
        rw [HF.out]
        clear hb3 rc
        go_wp2_with fail
        refine (in_nat (rowAt l x) (HB.out x) y w3).mono ?_
        rintro e w4 ⟨rfl, rfl⟩
        rw [HBT.out]
        go_wp2_with fail
        go_ret
        exact ⟨rfl, B3.out⟩
  · have HD : Hid (cutErr l a b = faultOf l []) := Lib.hid (by unfold cutErr; rw [if_neg hf])
    have hz := fault_ne hf
    have hz2 : (faultOf l [] == 0) = false := by simp [hf]
    rw [HD.out] at HW HC
    clear h1 hl hb he hf
    go_enter Tryd.func4, Tryd.ntmps4
    go_wp2_with fail
    refine HW.out.mono ?_
    rintro e w1 ⟨rfl, rfl⟩
    go_wp2_with fail
    refine HC.out.mono ?_
    rintro e w2 ⟨rfl, rfl⟩
    go_wp2_with fail
    refine HR.out.mono ?_
    rintro e w3 ⟨rfl, hb3⟩
    have B3 := Lib.hid hb3
    clear hb3
    go_wp2_with fail
    go_ret
    exact ⟨rfl, B3.out⟩
set_option maxRecDepth 100000 in
set_option maxHeartbeats 2000000 in
theorem cutTells_good {A : Option Addr} {n c a b : Nat} (l : List Nat) (w : World) (h1 : Rd w A (l.map uv)) (hl : l.length = n) (hnb : n ≤ 9223372036854775807) (hb : Rows64 l) (hT : Tab w) (hg : Good l) (hf : faultOf l [] = 0)
    (he : cutErr l (a : Int) (b : Int) = 0) (ha : a < n) (hbn : b < n) (hab : a ≠ b) (hed : ¬ Ed l a b) :
    Calls Tryd.prog 4 #[.slice A n c, .int .i64 (a : Int), .int .i64 (b : Int)] w fun e w' => e = .returned (.bool true) ∧ Below w.heap.size w w' := by
  have hn : n ≤ 64 := by have := hg.1; omega
  have HW := Lib.hid (ways_good (c := c) l w h1 hl hnb hb hT hg he ha hbn hab hed)
  have H1 := Lib.hid h1
  have HL := Lib.hid hl
  have HB := Lib.hid hb
  have HT := Lib.hid hT
  have HG := Lib.hid hg
  have HF := Lib.hid hf
  have HE := Lib.hid he
  have HAB := Lib.hid hab
  have HED := Lib.hid hed
  have HEB : Hid ((rowAt l a).testBit b = false) := Lib.hid (by rw [Bool.eq_false_iff]; exact hed)
  have g : ((a : Int) == (b : Int)) = false := by simp only [beq_eq_false_iff_ne, ne_eq]; omega
  clear h1 hl hb hT hg hf he hab hed
  go_enter Tryd.func4, Tryd.ntmps4
  go_wp2_with fail
  refine HW.out.mono ?_
  rintro e w1 ⟨st, R, A4, c4, vs, hfi, hsh, rfl, hown, hrows, hb1⟩
  have HFI := Lib.hid hfi
  have HSH := Lib.hid hsh
  have HRR := Lib.hid (RdRowsC.of_own hown hrows)
  have B1 := Lib.hid hb1
  have hfn : st.fs.length ≤ 64 := by have := fs_len HG.out hfi; have := HL.out; omega
  clear hfi hsh hown hrows hb1 HW
  go_wp2_with fail
  refine (cut_good (c := c) l w1 (H1.out.below B1.out) HL.out hnb HB.out (HT.out.below B1.out) HG.out HE.out ha hbn HAB.out HED.out).mono ?_
  rintro e w2 ⟨st2, R2, S, hfi2, hsh2, rfl, hS64, hS, hb2⟩
  obtain ⟨hin, hSa, hSb⟩ := cut_in HG.out hfi2 hsh2 hS
  have HIN := Lib.hid hin
  have HSA := Lib.hid hSa
  have HSB := Lib.hid hSb
  have HS64 := Lib.hid hS64
  have HSO : Hid (Rows64 [S]) := Lib.hid (rowAt_all (by intro x hx; rw [List.mem_singleton] at hx; rw [hx]; exact hS64))
  have HF1 : Hid (faultOf l [S] = 0) := Lib.hid (by
    rw [(faultOf_zero HF.out).1]
    have : [S].all (inU l.length) = true := by
      rw [List.all_eq_true]
      intro x hx
      rw [List.mem_singleton] at hx
      rw [hx]
      exact (inU_iff HG.out.1 hS64).2 hin
    rw [this]
    rfl)
  have HCN : Hid (st.fs.length = (nums S).length) := Lib.hid (ways_cut HG.out HFI.out HSH.out hfi2 hsh2 (nums_nodup S) (fun x => by rw [mem_nums hS64]; exact hS x))
  have HDN := Lib.hid (cut_done HG.out hfi2 hsh2 hS hS64)
  have C2 := Lib.hid hb2
  have g2 : ((st.fs.length : Int) != ((nums S).length : Int)) = false := by rw [HCN.out]; simp
  clear hin hSa hSb hS64 hS hfi2 hsh2 hb2
  go_wp2_with fail
  refine (rRowsFault_any l [] w2 (H1.out.below (below_then B1.out C2.out)) HL.out hnb HB.out (Rd.nil_ _ _) rfl (by simp) (rowAt_all (by intro x hx; cases hx))).mono ?_
  rintro e w3 ⟨rfl, hb3⟩
  have C3 := Lib.hid (below_then C2.out hb3)
  clear hb3 C2
  rw [HF.out]
  obtain ⟨bR, oR, rfl, rc⟩ := (H1.out.below (below_then B1.out C3.out)).set (k := a) (by rw [HL.out]; exact ha)
  go_wp2_with fail
  refine (in_nat (rowAt l a) (HB.out a) b w3).mono ?_
  rintro e w4 ⟨rfl, rfl⟩
  rw [HEB.out]
  clear rc
  go_wp2_with fail
  refine (good_anyC [0, 0] _ (rd_lit _ _ _ _ _ rfl rfl) rfl (by decide)).mono ?_
  rintro e w5 ⟨rfl, hb5⟩
  have C5 := Lib.hid (below_then (below_new C3.out _) hb5)
  clear hb5 C3
  rw [show (!([0, 0] : List Int).any fun x => x != 0) = true from rfl]
  go_wp2_with fail
  refine (rNumbers_any S HS64.out _).mono ?_
  rintro e w6 ⟨A6, c6, rfl, hown6, hb6⟩
  have C6 := Lib.hid (below_then C5.out hb6)
  clear hown6 hb6 C5
  go_wp2_with fail
  refine (rRowsFault_any l [S] _ (H1.out.below (below_then B1.out (below_new C6.out _))) HL.out hnb HB.out (rd_lit _ _ _ _ _ rfl rfl) rfl (by simp) HSO.out).mono ?_
  rintro e w7 ⟨rfl, hb7⟩
  have C7 := Lib.hid (below_then (below_new C6.out _) hb7)
  clear hb7 C6
  rw [HF1.out]
  go_wp2_with fail
  refine (in_nat S HS64.out a w7).mono ?_
  rintro e w8 ⟨rfl, rfl⟩
  rw [HSA.out]
  go_wp2_with fail
  refine (in_nat S HS64.out b w7).mono ?_
  rintro e w8 ⟨rfl, rfl⟩
  rw [HSB.out]
  go_wp2_with fail
  go_loopw [12, 14, 16, 123] (fun u _ _ x wr => ∃ (t U : Nat), t ≤ st.fs.length ∧ x = .int .i64 (t : Int) ∧ u = .int .u64 (U : Int) ∧ Hid (UsedC l a b st U t 0) ∧ Hid (Below w1.heap.size w1 wr)) (fun _ _ _ x _ => st.fs.length - (intOf x).toNat)
  case atStart => exact ⟨0, 0, Nat.zero_le _, rfl, rfl, Lib.hid used_start, C7⟩
  case round =>
    clear C7
    obtain ⟨t, U, ht, rfl, rfl, HU, HBW⟩ := hrel
    by_cases htn : t < st.fs.length
    · obtain ⟨k, hk⟩ : ∃ k, st.fs[t]? = some k := ⟨st.fs[t], List.getElem?_eq_getElem htn⟩
      have HK := Lib.hid hk
      have HGO := Lib.hid (mOf_goes HG.out HFI.out (List.mem_of_getElem? hk))
      obtain ⟨bO, oO, At, ct, rfl, _, y1, hrd, hct⟩ := (HRR.out.below HBW.out) t (wayC a st k (mOf l a b st k)) (by unfold waysL; rw [List.take_length, List.getElem?_map, hk]; rfl)
      have HRD := Lib.hid hrd
      have HWK := Lib.hid (walkOk_way HG.out HFI.out (by rw [HL.out]; exact ha) HGO.out)
      have HUN : Hid (∀ U, UsedC l a b st U t (mOf l a b st k) → UsedC l a b st U (t + 1) 0) := Lib.hid (fun U h => used_next hk h)
      obtain ⟨q, hq⟩ : ∃ q, (wayC a st k (mOf l a b st k)).length = q := ⟨_, rfl⟩
      have HQ := Lib.hid hq
      have hqm : q = mOf l a b st k + 2 := by rw [← hq, wayC_len]
      have hpos := HGO.out.pos
      have hle := HGO.out.le
      have HLE := HL.out
      rw [hq] at y1 hct
      obtain ⟨bW, oW, hAt, z1⟩ := rd_natC hrd (j := 0) (x := a) rfl
      obtain ⟨_, _, hAt2, z2⟩ := rd_natC hrd (j := q - 1) (x := b) (by rw [hqm]; show (wayC a st k _)[mOf l a b st k + 1]? = _; rw [wayC_at (Nat.le_refl _), HGO.out.en])
      subst hAt
      cases hAt2
      rw [Nat.add_zero] at z1
      have hq3 : 3 ≤ q := by omega
      have hq66 : q ≤ 66 := by omega
      have HMQ : Hid (mOf l a b st k = q - 2) := Lib.hid (by omega)
      clear hk hrd hq hqm hpos hle HLE
      go_wp2_with fail
      refine (rWalkC_any l (wayC a st k (mOf l a b st k)) wr (H1.out.below (below_then B1.out HBW.out)) HRD.out HL.out HQ.out (by omega) HG.out HWK.out).mono ?_
      rintro e w9 ⟨rfl, rfl⟩
      go_wp2_with fail
      go_loop [12, 16, 159] (fun u _ x => ∃ (j U : Nat), j ≤ q - 2 ∧ x = .int .i64 (j : Int) ∧ u = .int .u64 (U : Int) ∧ Hid (UsedC l a b st U t j)) (fun _ _ x => q - 2 - (intOf x).toNat)
      case atStart => exact ⟨0, U, Nat.zero_le _, rfl, rfl, HU⟩
      case round =>
        clear HU z1 z2 y1
        obtain ⟨j, U, hj, rfl, rfl, HU⟩ := hrel
        by_cases hlt : j < q - 2
        · obtain ⟨_, _, he, z3⟩ := rd_natC HRD.out (j := j + 1) (x := itF st k j) (wayC_at (by rw [HMQ.out]; omega))
          cases he
          have z4 : wr.cell? ⟨bW, oW + 1 + j, none⟩ = some (.int .i64 (itF st k j : Nat)) := by rw [← z3]; congr 2; omega
          have hin := HGO.out.inner HFI.out (i := j) (by rw [HMQ.out]; exact hlt)
          have g3 : (((itF st k j : Nat) : Int) == (a : Int)) = false := by simp only [beq_eq_false_iff_ne, ne_eq]; omega
          have g4 : (((itF st k j : Nat) : Int) == (b : Int)) = false := by simp only [beq_eq_false_iff_ne, ne_eq]; omega
          have HNO := Lib.hid (used_no HG.out HFI.out HK.out (i := j) (by rw [HMQ.out]; exact hlt) HU.out)
          have HADD := Lib.hid (used_add HG.out HFI.out HK.out (i := j) (by rw [HMQ.out]; exact hlt) HU.out)
          have hx64 : itF st k j < 64 := by have := HGO.out.lt HG.out HFI.out (i := j) (by rw [HMQ.out]; omega); have := HG.out.1; omega
          clear hin
          generalize itF st k j = x at z3 z4 g3 g4 HNO HADD hx64
          have hor := or_raw U x HU.out.1 hx64
          have hor2 : bits .or .u64 (U : Int) ((2 : Int) ^ x) = (addN U x : Nat) := by rw [shl_raw x hx64] at hor; simpa using hor
          have hsh := shl_raw x hx64
          go_wp2_with fail
          refine (in_nat U HU.out.1 x wr).mono ?_
          rintro e w9 ⟨rfl, rfl⟩
          rw [HNO.out]
          go_wp2_with fail
          exact ⟨⟨j + 1, addN U x, hlt, val_succ j, rfl, HADD⟩, meas_lt hlt⟩
        · obtain rfl : j = q - 2 := by omega
          have HU2 : Hid (UsedC l a b st U (t + 1) 0) := Lib.hid (HUN.out U (by rw [HMQ.out]; exact HU.out))
          go_wp2_with fail
          exact ⟨⟨t + 1, U, htn, val_succ t, rfl, HU2, HBW⟩, meas_lt htn⟩
    · obtain rfl : t = st.fs.length := by omega
      clear HU HRR
      go_wp2_with fail
      refine (rNumbers_any S HS64.out _).mono ?_
      rintro e w9 ⟨A9, c9, rfl, hown9, hb9⟩
      have HR9 := Lib.hid (Rd.of_own hown9)
      have C9 := Lib.hid (below_then HBW.out hb9)
      have HNI : Hid (∀ x ∈ nums S, x < l.length) := Lib.hid (fun x hx => HIN.out x ((mem_nums HS64.out).1 hx))
      clear hown9 hb9 HBW
      have hnl := nums_len S
      go_wp2_with fail
      go_loopw [0, 18, 185] (fun v _ x wq => ∃ (j : Nat) (A' : Option Addr) (c' : Nat), j ≤ (nums S).length ∧ x = .int .i64 (j : Int) ∧ v = .slice A' n c' ∧ Hid (Rd wq A' ((withoutC l ((nums S).take j)).map uv)) ∧ Hid (Below w9.heap.size w9 wq)) (fun _ _ x _ => (nums S).length - (intOf x).toNat)
      case atStart => exact ⟨0, _, c, Nat.zero_le _, rfl, rfl, Lib.hid (H1.out.below (below_then B1.out C9.out)), Lib.hid (Below.refl _ _)⟩
      case round =>
        obtain ⟨j, A', c', hj, rfl, rfl, HRW, HBQ⟩ := hrel
        have HIT : Hid (∀ x ∈ (nums S).take j, x < l.length) := Lib.hid (fun x hx => HNI.out x (List.mem_of_mem_take hx))
        have HWO := Lib.hid (withoutC_ok HG.out ((nums S).take j) HIT.out)
        have HWL : Hid ((withoutC l ((nums S).take j)).length = n) := Lib.hid (by rw [HWO.out.2]; exact HL.out)
        by_cases hlt : j < (nums S).length
        · obtain ⟨x, hx⟩ : ∃ x, (nums S)[j]? = some x := ⟨(nums S)[j], List.getElem?_eq_getElem hlt⟩
          have hxn : x < n := by rw [← HL.out]; exact HNI.out x (List.mem_of_getElem? hx)
          obtain ⟨bN, oN, rfl, z1⟩ := rd_natC (HR9.out.below HBQ.out) hx
          have HWS : Hid (withoutC l ((nums S).take (j + 1)) = withoutL (withoutC l ((nums S).take j)) x) := Lib.hid (by
            rw [List.take_add_one, hx]
            exact withoutC_snoc l _ x)
          clear hx
          go_wp2_with fail
          refine (rWithout_any (withoutC l ((nums S).take j)) x wr HRW.out HWL.out HWO.out.1 hxn).mono ?_
          rintro e w10 ⟨A10, c10, rfl, hown10, hb10⟩
          have HR10 := Lib.hid (Rd.of_own hown10)
          have HB10 := Lib.hid (below_then HBQ.out hb10)
          clear hown10 hb10 z1
          go_wp2_with fail
          exact ⟨⟨j + 1, A10, c10, hlt, val_succ j, rfl, Lib.hid (by rw [HWS.out]; exact HR10.out), HB10⟩, meas_lt hlt⟩
        · obtain rfl : j = (nums S).length := by omega
          rw [List.take_length] at HRW HWO HWL
          have hsh := shl_raw a (by omega)
          have HI2 : Hid (InRows (withoutC l (nums S)) (2 ^ a)) := Lib.hid (inRows_twoC (by rw [HWL.out]; exact ha))
          have HR64 : Hid (B64 (reachD (withoutC l (nums S)) (2 ^ a) (-1))) := Lib.hid ((show InRows (withoutC l (nums S)) (reachD (withoutC l (nums S)) (2 ^ a) (-1)) from iterR_in HWO.out.1 HI2.out 65).b64 HWO.out.1)
          go_wp2_with fail
          refine (rSteps_any (withoutC l (nums S)) (2 ^ a) (-1) wr HRW.out HWL.out HWO.out.1 HI2.out (by omega) (by omega)).mono ?_
          rintro e w10 ⟨rfl, rfl⟩
          go_wp2_with fail
          refine (in_nat _ HR64.out b wr).mono ?_
          rintro e w10 ⟨rfl, rfl⟩
          rw [HDN.out]
          go_wp2_with fail
          go_ret
          exact ⟨rfl, below_then (below_then B1.out C9.out) HBQ.out⟩
theorem cutTells_walk (A : Option Addr) (c : Nat) (l : List Nat) (a b : Int) (w : World) (h1 : Rd w A (l.map uv)) (hnb : l.length ≤ 9223372036854775807) (hb0 : ∀ x ∈ l, B64 x) (hT : Tab w) :
    Calls Tryd.prog 4 #[.slice A l.length c, .int .i64 a, .int .i64 b] w fun e w' => e = .returned (.bool true) ∧ Below w.heap.size w w' := by
  have hb := rowAt_all hb0
  by_cases he : cutErr l a b = 0
  · obtain ⟨hg, x, y, rfl, rfl, hx, hy, hxy, hed⟩ := cutErr_ok hb he
    have hf : faultOf l [] = 0 := by
      unfold cutErr at he
      by_cases hf : faultOf l [] = 0
      · exact hf
      · rw [if_neg hf] at he; exact absurd he hf
    exact cutTells_good l w h1 rfl hnb hb hT hg hf he hx hy hxy hed
  · exact cutTells_bad l a b w h1 rfl hnb hb he
end Go.Proofs.YtonmkmghpiagjaaDoor
