/- Contracts: chain.Levels, LevelsOf of the reference. The table of math/bits lies. -/
import Derived.Test.YtonmkmghpiagjaaDoorLevPlain
import Derived.Test.YtonmkmghpiagjaaDoorChain1
import Derived.Test.YtonmkmghpiagjaaDoorWay3
import Derived.Test.YtonmkmghpiagjaaDoorPair2
namespace Go.Proofs.YtonmkmghpiagjaaDoor
open Go.RowKit

def niv (f : Nat → Nat) (n : Nat) : List Value := ((List.range n).map (fun x => ((f x : Nat) : Int))).map iv
theorem niv_zero (n : Nat) : List.replicate n (Value.int .i64 0) = niv (fun _ => 0) n := by
  apply List.ext_getElem?
  intro i
  unfold niv
  rw [List.getElem?_map, List.getElem?_map, List.getElem?_replicate]
  by_cases hi : i < n <;> simp [hi, iv]
theorem niv_congr {f g : Nat → Nat} {n : Nat} (h : ∀ x, x < n → f x = g x) : niv f n = niv g n := by
  unfold niv
  congr 1
  exact List.map_congr_left fun x hx => by rw [h x (List.mem_range.1 hx)]
theorem niv_set {w : World} {B g E n c q : Nat} {f : Nat → Nat} {v : Nat} (h : w.ownsRow B E 1 (.slice (some ⟨g, 0, none⟩) n c) n (niv f n)) :
    (w.setCell ⟨g, q, none⟩ (.int .i64 (v : Nat))).ownsRow B E 1 (.slice (some ⟨g, 0, none⟩) n c) n (niv (fun x => if x = q then v else f x) n) ∧ w.grownBy (w.setCell ⟨g, q, none⟩ (.int .i64 (v : Nat))) (some g) := by
  have h1 := own_row_set (q := q) (v := (v : Int)) h
  refine ⟨?_, h1.2⟩
  have e : niv (fun x => if x = q then v else f x) n = ((List.range n).map (fun x => if x = q then (v : Int) else ((f x : Nat) : Int))).map iv := by
    unfold niv
    congr 1
    exact List.map_congr_left fun x _ => by by_cases h : x = q <;> simp [h]
  rw [e]
  exact h1.1
theorem niv_set' {w : World} {B g E n c q : Nat} {f : Nat → Nat} {v : Int} {m : Nat} (hv : v = (m : Int)) (h : w.ownsRow B E 1 (.slice (some ⟨g, 0, none⟩) n c) n (niv f n)) :
    (w.setCell ⟨g, q, none⟩ (.int .i64 v)).ownsRow B E 1 (.slice (some ⟨g, 0, none⟩) n c) n (niv (fun x => if x = q then m else f x) n) ∧ w.grownBy (w.setCell ⟨g, q, none⟩ (.int .i64 v)) (some g) := by
  subst hv
  exact niv_set h
/-- The greater of two, as the builtin says it. -/
def mxI (a b : Int) : Int := if a < b then b else a
theorem mxI_nat (a b : Nat) : mxI a ((b : Int) + 1) = ((max a (b + 1) : Nat) : Int) := by unfold mxI; split <;> omega
theorem niv_cell {w : World} {B g E n c q : Nat} {f : Nat → Nat} (h : w.ownsRow B E 1 (.slice (some ⟨g, 0, none⟩) n c) n (niv f n)) (hq : q < n) :
    w.cell? ⟨g, q, none⟩ = some (.int .i64 (f q : Nat)) := own_row_cell h hq
theorem levels_bad {A : Option Addr} {n c : Nat} (l : List Nat) (w : World) (h1 : Rd w A (l.map uv)) (hl : l.length = n) (hnb : n ≤ 9223372036854775807) (hb : Rows64 l) (hT : Tab w) (he : ordErr l ≠ 0) :
    Calls Tryd.prog 23 #[.slice A n c] w fun e w' => e = .returned (.tuple #[.slice none 0 0, .int .i64 (ordErr l)]) ∧ Below w.heap.size w w' := by
  have H := Lib.hid (below_bad (c := c) l w h1 hl hnb hb hT he)
  have he' : (ordErr l != 0) = true := by simp [he]
  clear h1 hl hb hT he
  go_enter Tryd.func23, Tryd.ntmps23
  go_wp2_with fail
  refine H.out.mono ?_
  rintro e w1 ⟨rfl, hb1⟩
  go_wp2_with fail
  go_ret2
  exact ⟨rfl, hb1⟩
set_option maxHeartbeats 1000000 in
theorem levels_good {A : Option Addr} {n c : Nat} (l : List Nat) (w : World) (h1 : Rd w A (l.map uv)) (hl : l.length = n) (hnb : n ≤ 9223372036854775807) (hb : Rows64 l) (hT : Tab w) (hg : Good l) (hr : ordR l = 0) (he : ordErr l = 0) :
    Calls Tryd.prog 23 #[.slice A n c] w (SlErrPost 3 n (niv (lvlN l) n) 0 w) := by
  have hn : n ≤ 64 := by have := hg.1; omega
  have H := Lib.hid (below_good (c := c) l w h1 hl hnb hb hT he)
  have H1 := Lib.hid h1
  have HL := Lib.hid hl
  have HG := Lib.hid hg
  have HT := Lib.hid hT
  have HR := Lib.hid hr
  have HFU : Hid ((ordL l).length = n) := Lib.hid (by rw [← hl]; exact (ord_full hg).2 hr)
  have hmk := make_ints n hn
  clear h1 hl hb hT hg hr he
  go_enter Tryd.func23, Tryd.ntmps23
  go_wp2_with fail
  refine H.out.mono ?_
  rintro e w1 ⟨A1, c1, A2, c2, rfl, hown1, hown2, hb1⟩
  have HO := Lib.hid (Rd.of_own hown2)
  have HB1 := Lib.hid hb1
  have hsz1 : w.heap.size ≤ w1.heap.size := hb1.size
  clear hown1 hown2 hb1 H hmk
  go_wp2_with (at_make; refine wpList_new elInt rfl w1 _ w1.heap.size n .i64 (by omega) (by omega) (Nat.le_refl _) rfl rfl rfl ?_)
  intro w0 hown0 hb0 hlt0
  rw [niv_zero n] at hown0
  have HO0 := Lib.hid hown0
  have HB0 := Lib.hid hb0
  have HLT0 := Lib.hid hlt0
  clear hown0 hb0 hlt0
  go_wp2
  go_loopw [9, 11, 26, 36] (fun _ _ x _ wr => ∃ t : Nat, t ≤ n ∧ x = .int .i64 (t : Int) ∧ Hid (w1.heap.size < wr.heap.size) ∧ Hid (wr.ownsRow w1.heap.size 3 1 (.slice (some ⟨w1.heap.size, 0, none⟩) n n) n (niv (levO l t) n)) ∧ Hid (Below w1.heap.size w1 wr)) (fun _ _ x _ _ => n - (intOf x).toNat)
  case atStart => exact ⟨0, by omega, rfl, HLT0, Lib.hid (by rw [niv_congr (g := fun _ => 0) (fun x _ => by unfold levO; simp)]; exact HO0.out), HB0⟩
  case round =>
    obtain ⟨t, ht, rfl, hlt1, hown, hbw⟩ := hrel
    by_cases htn : t < n
    · obtain ⟨bO, oO, rfl, xO⟩ := (HO.out.below hbw.out).at_ (k := t) (by simpa using (by rw [HFU.out]; exact htn))
      have htl : t < (ordL l).length := by rw [HFU.out]; exact htn
      have hc' : wr.cell? ⟨bO, oO + t, none⟩ = some (.int .i64 ((ordL l)[t]?.getD 0 : Nat)) := by rw [xO]; simp [nv, htl]
      have hie : (ordL l)[t]? = some ((ordL l)[t]?.getD 0) := by simp [htl]
      clear xO htl
      generalize (ordL l)[t]?.getD 0 = i at *
      have HIE := Lib.hid hie
      have hil : i < l.length := by
        obtain ⟨h2, h3⟩ := List.getElem?_eq_some_iff.1 hie
        exact (ord_mem HG.out HR.out i).1 (by rw [← h3]; exact List.getElem_mem h2)
      have hin : i < n := by rw [← HL.out]; exact hil
      have HXB := Lib.hid (HG.out.b64 i)
      obtain ⟨b1, o1, rfl, x1⟩ := ((H1.out.below HB1.out).below hbw.out).set hil
      have HTW := Lib.hid ((HT.out.below HB1.out).below hbw.out)
      have hsz := hbw.out.size
      have HOW := hown
      clear hie hil hown
      go_wp2_with fail
      refine (list_any _ HXB.out _ HTW.out).mono ?_
      rintro e w2 ⟨A3, c3, rfl, hown3, hb3⟩
      have hlen := nums_len (rowAt l i)
      have hwr : w1.heap.size < wr.heap.size := hlt1.out
      have HR3 := Lib.hid hown3
      have HO2 : Hid (w2.ownsRow w1.heap.size 3 1 (.slice (some ⟨w1.heap.size, 0, none⟩) n n) n (niv (levP l t i []) n)) := Lib.hid (by
        rw [niv_congr (fun x _ => levP_nil HG.out HIE.out x)]
        exact own_below HOW.out hb3)
      have HBE := Lib.hid (hbw.out.trans (hb3.mono hbw.out.size))
      have HSZ : Hid (w1.heap.size < w2.heap.size) := Lib.hid (Nat.lt_of_lt_of_le hlt1.out hb3.size)
      clear hown3 hb3 HOW hc' x1
      go_wp2_with fail
      go_loopw [11, 36] (fun _ x wq => ∃ k : Nat, k ≤ (nums (rowAt l i)).length ∧ x = .int .i64 (k : Int) ∧ Hid (w1.heap.size < wq.heap.size) ∧ Hid (wq.ownsRow w1.heap.size 3 1 (.slice (some ⟨w1.heap.size, 0, none⟩) n n) n (niv (levP l t i ((nums (rowAt l i)).take k)) n)) ∧ Hid (Below w1.heap.size w1 wq) ∧ Hid (wq.ownsRow wr.heap.size 3 1 (.slice A3 (nums (rowAt l i)).length c3) (nums (rowAt l i)).length ((nums (rowAt l i)).map nv))) (fun _ x _ => (nums (rowAt l i)).length - (intOf x).toNat)
      case atStart => exact ⟨0, by omega, rfl, HSZ, HO2, HBE, HR3⟩
      case round =>
        clear HSZ HO2 HBE HR3 hlt1 hbw
        obtain ⟨k, hk, rfl, hlt1, hown, hbw, hr3⟩ := hrel
        by_cases hkl : k < (nums (rowAt l i)).length
        · obtain ⟨b2, o2, rfl, hc⟩ := (Rd.of_own hr3.out).at_ (k := k) (by simpa using hkl)
          have hc' : wr.cell? ⟨b2, o2 + k, none⟩ = some (.int .i64 ((nums (rowAt l i))[k]?.getD 0 : Nat)) := by rw [hc]; simp [nv, hkl]
          have hqm : (nums (rowAt l i))[k]?.getD 0 ∈ nums (rowAt l i) := by simp [hkl]
          have HTK := Lib.hid (take_snoc (nums (rowAt l i)) 0 k hkl)
          clear hc
          generalize (nums (rowAt l i))[k]?.getD 0 = q at *
          have hbit := (mem_nums HXB.out).1 hqm
          have hqn : q < n := by rw [← HL.out]; exact HG.out.2 i q hbit
          have hci := niv_cell hown.out hin
          have hcq := niv_cell hown.out hqn
          have hfi := hown.out.frozenAt i
          have HM : Hid (levP l t i ((nums (rowAt l i)).take k) i = upOver (lvlN l) 0 ((nums (rowAt l i)).take k)) := Lib.hid (by unfold levP; rw [if_pos rfl])
          have HQ : Hid (levP l t i ((nums (rowAt l i)).take k) q = lvlN l q) := Lib.hid (levP_other HG.out HIE.out _ hbit)
          rw [HM.out] at hci
          rw [HQ.out] at hcq
          have HSET := Lib.hid (levP_set l t i ((nums (rowAt l i)).take k) q)
          have HROW := Lib.hid (fun (v : Int) (m : Nat) (h : v = (m : Int)) => niv_set' (q := i) h hown.out)
          have hMn : upOver (lvlN l) 0 ((nums (rowAt l i)).take k) ≤ n := upOver_le _ _ _ _ (Nat.zero_le _) (fun x hx => by
            have h2 := lvlN_eq HG.out HR.out (by rw [HL.out]; exact hin : i < l.length)
            have h3 := upOver_mem (lvlN l) (nums (rowAt l i)) 0 x (List.mem_of_mem_take hx)
            have h4 := lvl_len l l.length i
            rw [HL.out] at h4
            unfold lvlN at h2 h3 ⊢
            rw [HL.out] at h2 h3 ⊢
            omega)
          have hQn : lvlN l q ≤ n := by have := lvl_len l l.length q; rw [HL.out] at this; unfold lvlN; rw [HL.out]; exact this
          generalize upOver (lvlN l) 0 ((nums (rowAt l i)).take k) = M at *
          generalize lvlN l q = Q at *
          have HV := Lib.hid (HROW.out _ _ (mxI_nat M Q))
          have HBS := Lib.hid (hbw.out.setCell (p := ⟨w1.heap.size, i, none⟩) (Nat.le_refl _) (.int .i64 (mxI M ((Q : Int) + 1))))
          have HRS := Lib.hid (own_far hr3.out HV.out.2 hwr)
          clear hown hbw hr3 hbit hqm
          go_wp2
          go_region
          go_wp2
          go_roundw
          case rel => exact ⟨k + 1, by omega, by go_num, Lib.hid (by simpa [World.setCell] using hlt1.out), Lib.hid (by rw [HTK.out, ← niv_congr (fun x _ => HSET.out x)]; exact HV.out.1), Lib.hid (below_drew HBS.out), Lib.hid HRS.out⟩
          case measure => simp [intOf]; omega
        · obtain rfl : k = (nums (rowAt l i)).length := by omega
          have hfin := hown.out
          rw [List.take_of_length_le (Nat.le_refl _), niv_congr (fun x _ => levP_end HG.out HR.out HIE.out x)] at hfin
          have HFIN := Lib.hid hfin
          clear hfin hown
          go_wp2
          go_roundw
          case rel => exact ⟨t + 1, by omega, by go_num, hlt1, HFIN, hbw⟩
          case measure => simp [intOf]; omega
    · obtain rfl : t = n := by omega
      have hst := hown.out
      rw [niv_congr (g := lvlN l) (fun x hx => by rw [← HL.out]; exact levO_end HG.out HR.out (by rw [HL.out]; exact hx))] at hst
      have HST := Lib.hid (own_base hst hsz1)
      have HBE := Lib.hid (below_then HB1.out hbw.out)
      clear hst hown
      go_wp2
      go_ret2
      exact ⟨_, _, rfl, HST.out, HBE.out⟩
end Go.Proofs.YtonmkmghpiagjaaDoor
