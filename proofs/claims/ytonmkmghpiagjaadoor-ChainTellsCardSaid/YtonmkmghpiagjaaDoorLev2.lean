/- Contract: LevelsOf of the reference, at rows without a knot. -/
import Derived.Test.YtonmkmghpiagjaaDoorLev
namespace Go.Proofs.YtonmkmghpiagjaaDoor
open Go.RowKit

set_option maxHeartbeats 1000000 in
theorem rLevelsOf_any {A : Option Addr} {n c : Nat} (l : List Nat) (w : World) (h1 : Rd w A (l.map uv)) (hl : l.length = n) (hg : Good l) (hr : ordR l = 0) :
    Calls Tryd.prog 27 #[.slice A n c] w (OwnPost 3 n (niv (lvlN l) n) w) := by
  have hn : n ≤ 64 := by have := hg.1; omega
  have H1 := Lib.hid h1
  have HL := Lib.hid hl
  have HG := Lib.hid hg
  have HR := Lib.hid hr
  clear h1 hl hg hr
  go_enter Tryd.func27, Tryd.ntmps27
  go_wp2_with (at_make; refine wpList_new elInt rfl w _ w.heap.size n .i64 (by omega) (by omega) (Nat.le_refl _) rfl rfl rfl ?_)
  intro w0 hown0 hb0 hlt0
  rw [niv_zero n] at hown0
  have HO0 := Lib.hid hown0
  have HB0 := Lib.hid hb0
  have HLT0 := Lib.hid hlt0
  clear hown0 hb0 hlt0
  go_wp2
  go_loopw [4, 6, 12, 16, 25] (fun _ _ y _ _ wr => ∃ (t : Nat) (f : Nat → Nat), t ≤ n ∧ y = .int .i64 (t : Int) ∧ Hid (LevIn l t 0 f) ∧ Hid (w.heap.size < wr.heap.size) ∧ Hid (wr.ownsRow w.heap.size 3 1 (.slice (some ⟨w.heap.size, 0, none⟩) n n) n (niv f n)) ∧ Hid (Below w.heap.size w wr)) (fun _ _ y _ _ _ => n - (intOf y).toNat)
  case atStart => exact ⟨0, fun _ => 0, by omega, rfl, Lib.hid (levIn_start l), HLT0, HO0, HB0⟩
  case round =>
    obtain ⟨t, f, ht, rfl, hf, hlt1, hown, hbw⟩ := hrel
    by_cases htn : t < n
    · go_wp2
      go_loopw [4, 6, 16, 25] (fun _ _ y _ wr => ∃ (i : Nat) (f : Nat → Nat), i ≤ n ∧ y = .int .i64 (i : Int) ∧ Hid (LevIn l t i f) ∧ Hid (w.heap.size < wr.heap.size) ∧ Hid (wr.ownsRow w.heap.size 3 1 (.slice (some ⟨w.heap.size, 0, none⟩) n n) n (niv f n)) ∧ Hid (Below w.heap.size w wr)) (fun _ _ y _ _ => n - (intOf y).toNat)
      case atStart => exact ⟨0, f, by omega, rfl, hf, hlt1, hown, hbw⟩
      case round =>
        clear hf hlt1 hown hbw
        clear f
        obtain ⟨i, f, hi, rfl, hf, hlt1, hown, hbw⟩ := hrel
        by_cases hin : i < n
        · have hil : i < l.length := by rw [HL.out]; exact hin
          have HIL := Lib.hid hil
          have HXB := Lib.hid (HG.out.b64 i)
          obtain ⟨b1, o1, rfl, x1⟩ := (H1.out.below hbw.out).set hil
          have hsz := hbw.out.size
          have HOW := hown
          clear hil hown
          go_wp2_with fail
          refine (rNumbers_any _ HXB.out _).mono ?_
          rintro e w2 ⟨A3, c3, rfl, hown3, hb3⟩
          have hlen := nums_len (rowAt l i)
          have hwr : w.heap.size < wr.heap.size := hlt1.out
          have HR3 := Lib.hid hown3
          have HO2 := Lib.hid (own_below HOW.out hb3)
          have HBE := Lib.hid (hbw.out.trans (hb3.mono hbw.out.size))
          have HSZ : Hid (w.heap.size < w2.heap.size) := Lib.hid (Nat.lt_of_lt_of_le hlt1.out hb3.size)
          have HF0 := Lib.hid (levAt_nil hf.out)
          clear hown3 hb3 HOW x1 hf
          go_wp2_with fail
          go_loopw [6, 25] (fun _ x wq => ∃ (k : Nat) (f : Nat → Nat), k ≤ (nums (rowAt l i)).length ∧ x = .int .i64 (k : Int) ∧ Hid (LevAt l t i ((nums (rowAt l i)).take k) f) ∧ Hid (w.heap.size < wq.heap.size) ∧ Hid (wq.ownsRow w.heap.size 3 1 (.slice (some ⟨w.heap.size, 0, none⟩) n n) n (niv f n)) ∧ Hid (Below w.heap.size w wq) ∧ Hid (wq.ownsRow wr.heap.size 3 1 (.slice A3 (nums (rowAt l i)).length c3) (nums (rowAt l i)).length ((nums (rowAt l i)).map nv))) (fun _ x _ => (nums (rowAt l i)).length - (intOf x).toNat)
          case atStart => exact ⟨0, f, by omega, rfl, HF0, HSZ, HO2, HBE, HR3⟩
          case round =>
            clear HSZ HO2 HBE HR3 HF0 hlt1 hbw
            clear f
            obtain ⟨k, f, hk, rfl, hf, hlt1, hown, hbw, hr3⟩ := hrel
            by_cases hkl : k < (nums (rowAt l i)).length
            · obtain ⟨b2, o2, rfl, hc⟩ := (Rd.of_own hr3.out).at_ (k := k) (by simpa using hkl)
              have hc' : wr.cell? ⟨b2, o2 + k, none⟩ = some (.int .i64 ((nums (rowAt l i))[k]?.getD 0 : Nat)) := by rw [hc]; simp [nv, hkl]
              have hqm : (nums (rowAt l i))[k]?.getD 0 ∈ nums (rowAt l i) := by simp [hkl]
              have HTK := Lib.hid (take_snoc (nums (rowAt l i)) 0 k hkl)
              clear hc
              generalize (nums (rowAt l i))[k]?.getD 0 = q at *
              have hbit := (mem_nums HXB.out).1 hqm
              have hql : q < l.length := HG.out.2 i q hbit
              have hqn : q < n := by rw [← HL.out]; exact hql
              have hci := niv_cell hown.out hin
              have hcq := niv_cell hown.out hqn
              have hfi := hown.out.frozenAt i
              have HNX := Lib.hid (levAt_step HG.out HR.out HIL.out hf.out hbit)
              have hQn : f q ≤ n := by
                have h2 := (hf.out.1 q hql).1
                have h3 := lvl_len l l.length q
                unfold lvlN at h2
                rw [HL.out] at h2 h3
                omega
              have HROW := Lib.hid (fun (v : Int) (m : Nat) (h : v = (m : Int)) => niv_set' (q := i) h hown.out)
              have HV := Lib.hid (HROW.out _ _ (mxI_nat (f i) (f q)))
              have HBS := Lib.hid (hbw.out.setCell (p := ⟨w.heap.size, i, none⟩) (Nat.le_refl _) (.int .i64 (mxI (f i : Nat) ((f q : Nat) + 1))))
              have HRS := Lib.hid (own_far hr3.out HV.out.2 hwr)
              clear hown hbw hr3 hbit hqm hql hf
              go_wp2
              go_region
              go_wp2
              go_roundw
              case rel => exact ⟨k + 1, _, by omega, by go_num, Lib.hid (by rw [HTK.out]; exact HNX.out), Lib.hid (by simpa [World.setCell] using hlt1.out), Lib.hid HV.out.1, Lib.hid (below_drew HBS.out), Lib.hid HRS.out⟩
              case measure => simp [intOf]; omega
            · obtain rfl : k = (nums (rowAt l i)).length := by omega
              have hfin := hf.out
              rw [List.take_of_length_le (Nat.le_refl _)] at hfin
              have HFIN := Lib.hid (levAt_done hfin)
              clear hfin hf
              go_wp2
              go_roundw
              case rel => exact ⟨i + 1, f, by omega, by go_num, HFIN, hlt1, hown, hbw⟩
              case measure => simp [intOf]; omega
        · obtain rfl : i = n := by omega
          have HNX : Hid (LevIn l (t + 1) 0 f) := Lib.hid (levIn_round (by rw [HL.out]; exact hf.out))
          clear hf
          go_wp2
          go_roundw
          case rel => exact ⟨t + 1, f, by omega, by go_num, HNX, hlt1, hown, hbw⟩
          case measure => simp [intOf]; omega
    · obtain rfl : t = n := by omega
      have hst := hown.out
      rw [niv_congr (g := lvlN l) (fun x hx => levIn_end (by rw [HL.out]; exact hf.out) (by rw [HL.out]; exact hx))] at hst
      have HST := Lib.hid hst
      clear hst hown hf
      go_wp2
      go_ret
      exact ⟨_, _, rfl, HST.out, hbw.out⟩
end Go.Proofs.YtonmkmghpiagjaaDoor
