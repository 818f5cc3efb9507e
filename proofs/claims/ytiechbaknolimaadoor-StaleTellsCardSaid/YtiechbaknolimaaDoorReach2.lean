/- Contracts of package reach: step, from; of the reference: Steps, RowsFault. The rows are good; the table of math/bits lies. -/
import Derived.Test.YtiechbaknolimaaDoorReach1
namespace Go.Proofs.YtiechbaknolimaaDoor
open Go.RowKit

def stepMeas (n is : Value) : Nat := match is with
  | .bool true => 65 - (intOf n).toNat
  | _ => 0
/-- What step's loop holds: done so far, and the next number. -/
def StepSlots (l : List Nat) (s : Nat) (o n is : Value) : Prop :=
  ∃ out k : Nat, o = .int .u64 (out : Int) ∧ StepRel l s out k ∧ ((fromS s k = 0 ∧ is = .bool false) ∨ (fromS s k ≠ 0 ∧ n = .int .i64 (low (fromS s k) : Nat) ∧ is = .bool true))
theorem step_any {A : Option Addr} {n c : Nat} (l : List Nat) (s : Nat) (w : World) (h1 : Rd w A (l.map uv)) (hl : l.length = n) (hg : Good l) (hs : InRows l s) (ht : Tab w) :
    Calls Tryd.prog 104 #[.slice A n c, .int .u64 s] w fun e w' => e = .returned (.int .u64 (stepS l s : Nat)) ∧ w = w' := by
  have hB := hs.b64 hg
  have hn : n ≤ 64 := by have := hg.1; omega
  have HB := Lib.hid hB
  have HL := Lib.hid hl
  have HG := Lib.hid hg
  have HS := Lib.hid hs
  have HT := Lib.hid ht
  have H1 := Lib.hid h1
  have hst := stepRel_start l hB
  have HST := Lib.hid hst
  have HZ := Lib.hid (fromS_zero hB)
  clear hB hl hg hs ht h1 hst
  by_cases h0 : fromS s 0 = 0
  · have HE := Lib.hid (stepRel_end HST.out h0)
    go_enter Tryd.func104, Tryd.ntmps104
    go_wp2_with fail
    refine (next_no s 0 HB.out h0 _).mono ?_
    rintro e w' ⟨rfl, rfl⟩
    go_wp2_with fail
    refine wp_loop_rounds 1 ?_
    rw [rounds_succ]
    go_wp2_with fail
    go_ret
    exact ⟨ret_int (by rw [← HE.out]; rfl), rfl⟩
  · have H0 := Lib.hid h0
    clear h0
    go_enter Tryd.func104, Tryd.ntmps104
    go_wp2_with fail
    refine (next_yes s 0 HB.out H0.out _ HT.out).mono ?_
    rintro e w' ⟨rfl, rfl⟩
    go_wp2_with fail
    go_loop [5, 6, 7] (fun o n is => StepSlots l s o n is) (fun _ n is => stepMeas n is)
    case atStart => exact ⟨0, 0, rfl, HST.out, .inr ⟨H0.out, rfl, rfl⟩⟩
    case round =>
      obtain ⟨out, k, rfl, hr, hc⟩ := hrel
      have HR := Lib.hid hr
      rcases hc with ⟨hz, rfl⟩ | ⟨hz, rfl, rfl⟩
      · have HE := Lib.hid (stepRel_end hr hz)
        clear hr hz
        go_wp2
        go_ret
        exact ⟨ret_int (by rw [HE.out]), rfl⟩
      · have hlow := low_bit (fromS_b64 (n := (k : Int)) HB.out) hz
        rw [fromS_bit HB.out, Bool.and_eq_true] at hlow
        have hkl : low (fromS s k) < l.length := HS.out _ hlow.1
        have hkn : low (fromS s k) < n := by rw [← HL.out]; exact hkl
        have HN := Lib.hid (stepRel_next HG.out.b64 HB.out hr hz hkl)
        obtain ⟨b, o, rfl, e1⟩ := H1.out.set hkl
        have e2 := u64_or_nat out _ hr.1 (HG.out.b64 (low (fromS s k)))
        clear hr hlow hz hkl
        generalize low (fromS s k) = q at *
        by_cases hz2 : fromS s ((q : Int) + 1) = 0
        · go_wp2_with (go_at_call 105; refine (next_no s _ HB.out hz2 _).mono ?_; rintro e w' ⟨rfl, rfl⟩)
          go_round
          case rel => exact ⟨_, q + 1, rfl, HN.out, .inl ⟨hz2, rfl⟩⟩
          case measure => simp [stepMeas, intOf]; omega
        · have hl2 : q + 1 ≤ low (fromS s ((q : Int) + 1)) := by
            have := low_bit (fromS_b64 (n := (q : Int) + 1) HB.out) hz2
            rw [fromS_bit HB.out, Bool.and_eq_true] at this
            have := of_decide_eq_true this.2
            omega
          have HZ2 := Lib.hid hz2
          clear hz2
          go_wp2_with (go_at_call 105; refine (next_yes s _ HB.out HZ2.out _ HT.out).mono ?_; rintro e w' ⟨rfl, rfl⟩)
          go_round
          case rel => exact ⟨_, q + 1, rfl, HN.out, .inr ⟨HZ2.out, rfl, rfl⟩⟩
          case measure => simp [stepMeas, intOf]; omega

theorem from_any {A : Option Addr} {n c : Nat} (l : List Nat) (s : Nat) (d : Int) (w : World) (h1 : Rd w A (l.map uv)) (hl : l.length = n) (hg : Good l) (hs : InRows l s) (ht : Tab w)
    (hd : -1 ≤ d) (hd2 : d ≤ 9223372036854775807) :
    Calls Tryd.prog 77 #[.slice A n c, .int .u64 s, .int .i64 d] w fun e w' => e = .returned (.int .u64 (reachD l s d : Nat)) ∧ w = w' := by
  have HL := Lib.hid hl
  have HG := Lib.hid hg
  have HS := Lib.hid hs
  have HT := Lib.hid ht
  have H1 := Lib.hid h1
  have hlen := fun k => nums_len (iterR l s k)
  have HLEN := Lib.hid hlen
  clear hl hg hs ht h1 hlen
  go_enter Tryd.func77, Tryd.ntmps77
  go_wp2
  go_loop [1, 2, 7] (fun t q e => ∃ k : Nat, k ≤ 65 ∧ t = .int .u64 (iterR l s k : Nat) ∧ q = .int .i64 (d - k) ∧ e = .int .u64 (edgeR l s k : Nat) ∧ (d < 0 ∨ (k : Int) ≤ d) ∧ (edgeR l s k = 0 ∨ k ≤ (nums (iterR l s k)).length)) (fun _ q _ => (65 - (d - intOf q)).toNat)
  case atStart => exact ⟨0, by omega, rfl, by simp, rfl, by omega, .inr (by omega)⟩
  case round =>
    obtain ⟨k, hk, rfl, rfl, rfl, hkd, hgr⟩ := hrel
    by_cases he : edgeR l s k = 0
    · have HE := Lib.hid (reachD_stop (d := d) (edge_zero HG.out HS.out he) hk hkd)
      have he' : (((edgeR l s k : Nat) : Int) != 0) = false := by rw [he]; rfl
      clear he hgr
      go_wp2
      go_ret
      exact ⟨ret_int (by rw [HE.out]), rfl⟩
    · have he' : (((edgeR l s k : Nat) : Int) != 0) = true := by simp; omega
      by_cases hdk : d = k
      · have HE : Hid (reachD l s d = iterR l s k) := Lib.hid (by rw [hdk]; exact reachD_all hk)
        have hz : d - (k : Int) = 0 := by omega
        clear he hgr hdk
        go_wp2
        go_ret
        exact ⟨ret_int (by rw [HE.out]), rfl⟩
      · have hz : ((d - (k : Int)) != 0) = true := by simp; omega
        have hk64 : k ≤ 64 := by
          have := HLEN.out k
          rcases hgr with h | h
          · exact absurd h he
          · omega
        have HGR : Hid (edgeR l s (k + 1) = 0 ∨ k + 1 ≤ (nums (iterR l s (k + 1))).length) := Lib.hid (by
          by_cases h : edgeR l s (k + 1) = 0
          · exact .inl h
          · have := edge_grows HG.out HS.out h
            rcases hgr with h2 | h2
            · exact absurd h2 he
            · exact .inr (by omega))
        have e1 := minus_raw (stepS l (edgeR l s k)) (iterR l s k) (stepS_b64 HG.out.b64) ((iterR_in HG.out HS.out k).b64 HG.out)
        have e2 := u64_or_nat (iterR l s k) (edgeR l s (k + 1)) ((iterR_in HG.out HS.out k).b64 HG.out) (edgeR_b64 HG.out.b64 (HS.out.b64 HG.out) (k + 1))
        rw [edge_next HG.out HS.out k] at e2
        have e1' : bits .andNot .u64 ((stepS l (edgeR l s k) : Nat) : Int) ((iterR l s k : Nat) : Int) = (edgeR l s (k + 1) : Nat) := e1
        have HIN := Lib.hid (edge_in HG.out HS.out k)
        clear he hgr e1
        go_wp2_with (go_at_call 104; refine (step_any l _ _ H1.out HL.out HG.out HIN.out HT.out).mono ?_; rintro e w' ⟨rfl, rfl⟩)
        go_round
        case rel => exact ⟨k + 1, by omega, rfl, by go_num, rfl, by omega, HGR.out⟩
        case measure => simp [intOf]; omega
end Go.Proofs.YtiechbaknolimaaDoor
