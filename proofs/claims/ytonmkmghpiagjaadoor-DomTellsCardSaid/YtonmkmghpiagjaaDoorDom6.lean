/- Contract: dom.over. The rows are good; the table of math/bits lies. -/
import Derived.Test.YtonmkmghpiagjaaDoorDom5
namespace Go.Proofs.YtonmkmghpiagjaaDoor
open Go.RowKit

set_option maxHeartbeats 4000000 in
set_option maxRecDepth 100000 in
theorem dOver_any {A : Option Addr} {n c : Nat} (l : List Nat) (root : Nat) (w : World) (h1 : Rd w A (l.map uv)) (hl : l.length = n) (hg : Good l) (hT : Tab w) (hr : root < n) :
    Calls Tryd.prog 87 #[.slice A n c, .int .i64 (root : Int)] w (OwnPost 23 n (fuv (ruledBy l root) n) w) := by
  have hn : n ≤ 64 := by have := hg.1; omega
  have hrl : root < l.length := by rw [hl]; exact hr
  have HF0 := Lib.hid (fault_none (sets := []) hg (by intro s hs; simp at hs))
  have HFR := Lib.hid (fun W (hW : Below w.heap.size w W) => pFrom_good (c := c) l (2 ^ root) W (h1.below hW) hl (by omega) hg.b64 (B64.two (by omega)) (fault_none hg (by
    intro s hs
    rw [List.mem_singleton] at hs
    rw [hs]
    intro j hj
    rw [Nat.testBit_two_pow] at hj
    have : root = j := of_decide_eq_true hj
    omega)) (hT.below hW))
  have HBK := Lib.hid (fun W (hW : Below w.heap.size w W) => pBack_good (c := c) l W (h1.below hW) hl (by omega) hg.b64 HF0.out (hT.below hW))
  have HIN := Lib.hid (come_in hg hrl)
  have HCB := Lib.hid ((come_in hg hrl).b64 hg)
  have HCT := Lib.hid (come_but hg hrl)
  have HLB := Lib.hid (lead_b64 hg hrl)
  have HST := Lib.hid (domInv_start hg hrl)
  have HME := Lib.hid (midC_end hg hrl)
  have HEN := Lib.hid (fun f h hs b => domInv_end hg hrl (f := f) h hs b)
  have HDB := Lib.hid (fun f h m => domInv_b64 hg hrl (f := f) h m)
  have HTN := Lib.hid (fun f F done b m h1 h2 h3 h4 => domPass_turn (f := f) (F := F) (done := done) (b := b) (m := m) hg hl hr h1 h2 h3 h4)
  have HLE := Lib.hid (fun m (hm : m < l.length) => lead_bit hg hrl hm)
  have hsh := shl_raw root (by omega)
  have HTL : Hid ((turned l).length = n) := Lib.hid (by rw [turned_len, hl])
  have HTG := Lib.hid (turned_good hg)
  have HL := Lib.hid hl
  have HT := Lib.hid hT
  clear h1 hl hg hT hrl
  go_enter Tryd.func87, Tryd.ntmps87
  go_wp2_with fail
  refine (HFR.out w (Below.refl _ _)).mono ?_
  rintro e w1 ⟨rfl, hb1⟩
  rw [show reachD l (2 ^ root) (-1) = comeS l root from rfl]
  have HB1 := Lib.hid hb1
  clear hb1
  go_wp2_with fail
  refine (HBK.out w1 HB1.out).mono ?_
  rintro e w2 ⟨A2, c2, rfl, hown2, hb2⟩
  have HR2 := Lib.hid (Rd.of_own hown2)
  have HB2 := Lib.hid (below_then HB1.out hb2)
  clear hown2 hb2 HFR HBK
  go_wp2_with (at_make; refine wpList_new elU64 rfl w2 _ w2.heap.size n .i64 (by omega) (by omega) (Nat.le_refl _) rfl rfl rfl ?_)
  intro w3 hown3 hb3 hlt3
  rw [fuv_zero n, fuv_congr (g := midC l root 0) (fun x _ => (midC_start l root x).symm)] at hown3
  have HO3 := Lib.hid hown3
  have HB3 := Lib.hid hb3
  have HLT3 := Lib.hid hlt3
  have HT3 := Lib.hid (HT.out.below (below_then HB2.out hb3))
  clear hown3 hb3 hlt3
  go_wp2_with fail
  refine (list_any (comeS l root) HCB.out _ HT3.out).mono ?_
  rintro e w4 ⟨A4, c4, rfl, hown4, hb4⟩
  have hlen4 := nums_len (comeS l root)
  have HR4 := Lib.hid hown4
  have HO4 := Lib.hid (own_below HO3.out hb4)
  have HLT4 : Hid (w2.heap.size < w4.heap.size) := Lib.hid (Nat.lt_of_lt_of_le HLT3.out hb4.size)
  have hw3 : w2.heap.size < w3.heap.size := HLT3.out
  have HB4 := Lib.hid (HB3.out.trans (hb4.mono HB3.out.size))
  clear hown4 hb4 HO3 HB3 HT3
  go_wp2_with fail
  go_loopw [11, 36] (fun _ i wr => ∃ k : Nat, k ≤ (nums (comeS l root)).length ∧ i = .int .i64 k ∧ Hid (w2.heap.size < wr.heap.size) ∧ Hid (wr.ownsRow w2.heap.size 23 1 (.slice (some ⟨w2.heap.size, 0, none⟩) n n) n (fuv (midC l root k) n)) ∧ Hid (Below w2.heap.size w2 wr) ∧ Hid (wr.ownsRow w3.heap.size 3 1 (.slice A4 (nums (comeS l root)).length c4) (nums (comeS l root)).length ((nums (comeS l root)).map nv))) (fun _ i _ => (nums (comeS l root)).length - (intOf i).toNat)
  case atStart => exact ⟨0, by omega, rfl, HLT4, HO4, HB4, HR4⟩
  case round =>
    clear HLT4 HO4 HB4 HR4
    obtain ⟨k, hk, rfl, hlt, hown, hbw, hr4⟩ := hrel
    by_cases hkl : k < (nums (comeS l root)).length
    · obtain ⟨b2, o2, rfl, hc⟩ := (Rd.of_own hr4.out).at_ (k := k) (by simpa using hkl)
      have hc' : wr.cell? ⟨b2, o2 + k, none⟩ = some (.int .i64 ((nums (comeS l root))[k]?.getD 0 : Nat)) := by rw [hc]; simp [nv, hkl]
      have hqm : (nums (comeS l root))[k]?.getD 0 ∈ nums (comeS l root) := by simp [hkl]
      have HSET := Lib.hid (midC_set l root k hkl)
      clear hc
      generalize (nums (comeS l root))[k]?.getD 0 = q at *
      have hqn : q < n := by rw [← HL.out]; exact HIN.out q ((mem_nums HCB.out).1 hqm)
      have hcq := fuv_cell hown.out hqn
      have hfq := hown.out.frozenAt q
      generalize midC l root k q = u0 at hcq
      have HV := Lib.hid (fuv_set (q := q) (v := comeS l root) hown.out)
      have HBS := Lib.hid (hbw.out.setCell (p := ⟨w2.heap.size, q, none⟩) (Nat.le_refl _) (.int .u64 (comeS l root : Nat)))
      have HRS := Lib.hid (own_far hr4.out HV.out.2 hw3)
      clear hown hbw hr4 hqm
      go_wp2
      go_roundw
      case rel => exact ⟨k + 1, by omega, by go_num, Lib.hid (by simpa [World.setCell] using hlt.out), Lib.hid (by rw [← fuv_congr (fun x _ => HSET.out x)]; exact HV.out.1), HBS, HRS⟩
      case measure => simp [intOf]; omega
    · obtain rfl : k = (nums (comeS l root)).length := by omega
      have hcq := fuv_cell hown.out hr
      have hfq := hown.out.frozenAt root
      generalize midC l root (nums (comeS l root)).length root = u0 at hcq
      have HV := Lib.hid (fuv_set (q := root) (v := 2 ^ root) hown.out)
      have HBS := Lib.hid (hbw.out.setCell (p := ⟨w2.heap.size, root, none⟩) (Nat.le_refl _) (.int .u64 (2 ^ root : Nat)))
      have HV1 : Hid ((wr.setCell ⟨w2.heap.size, root, none⟩ (.int .u64 (2 ^ root : Nat))).ownsRow w2.heap.size 23 1 (.slice (some ⟨w2.heap.size, 0, none⟩) n n) n (fuv (domF0 l root) n)) := Lib.hid (by rw [← fuv_congr (fun x _ => HME.out x)]; exact HV.out.1)
      clear hown hbw hr4 HME HV
      generalize hws : wr.setCell ⟨w2.heap.size, root, none⟩ (.int .u64 (2 ^ root : Nat)) = ws at HV1 HBS
      have HWS := Lib.hid hws
      clear hws
      have HLTS : Hid (w2.heap.size < ws.heap.size) := Lib.hid (by rw [← HWS.out]; simpa [World.setCell] using hlt.out)
      clear hlt
      go_wp2
      rw [show ((2 : Int) ^ root) = ((2 ^ root : Nat) : Int) from by simp, HWS.out]
      go_loopw [12, 14, 15, 17, 57, 70] (fun ag _ _ _ _ _ wr => ∃ (f : Nat → Nat) (bb : Bool), ag = .bool bb ∧ Hid (DomInv l root f) ∧ Hid (bb = false → ∀ m, (comeS l root).testBit m = true → m ≠ root → newS l root f m = f m) ∧ Hid (w2.heap.size < wr.heap.size) ∧ Hid (wr.ownsRow w2.heap.size 23 1 (.slice (some ⟨w2.heap.size, 0, none⟩) n n) n (fuv f n)) ∧ Hid (Below w2.heap.size w2 wr)) (fun ag _ _ _ _ _ wr => 2 * cellTot wr w2.heap.size n + boolN ag)
      case atStart => exact ⟨domF0 l root, true, rfl, HST, Lib.hid (fun h => by cases h), HLTS, HV1, HBS⟩
      case round =>
        clear HST HV1 HBS HLTS HWS
        clear ws
        obtain ⟨f, bb, rfl, hinv, hsame, hlt, hown, hbw⟩ := hrel
        cases bb with
        | false =>
          have HE := Lib.hid (fun x => HEN.out f hinv.out (hsame.out rfl) x)
          have HOE : Hid (wr.ownsRow w.heap.size 23 1 (.slice (some ⟨w2.heap.size, 0, none⟩) n n) n (fuv (ruledBy l root) n)) := Lib.hid (by rw [← fuv_congr (fun x _ => HE.out x)]; exact own_base hown.out HB2.out.size)
          have HBE := Lib.hid (below_then HB2.out hbw.out)
          clear hown hbw hinv hsame hlt
          go_wp2
          go_ret
          exact ⟨_, _, rfl, HOE.out, HBE.out⟩
        | true =>
          have HTW := Lib.hid (HT.out.below (below_then HB2.out hbw.out))
          have er : bits .andNot .u64 (comeS l root : Int) ((2 : Int) ^ root) = (minus (comeS l root) (2 ^ root) : Nat) := by simpa using minus_raw (comeS l root) (2 ^ root) HCB.out (B64.two (by omega))
          have HMB : Hid (B64 (minus (comeS l root) (2 ^ root))) := Lib.hid (minus_b64 HCB.out)
          have HTOT := Lib.hid (cellTot_eq hown.out n (Nat.le_refl _))
          have HP0 : Hid (DomPass l root n f ((nums (minus (comeS l root) (2 ^ root))).take 0) f false) := Lib.hid (domPass_start hinv.out)
          have HOW := hown
          have HBW := hbw
          have HLT := hlt
          have hszr : w2.heap.size ≤ wr.heap.size := hbw.out.size
          clear hown hbw hlt hsame hinv
          go_wp2_with fail
          refine (list_any _ HMB.out _ HTW.out).mono ?_
          rintro e w5 ⟨A5, c5, rfl, hown5, hb5⟩
          have hlen5 := nums_len (minus (comeS l root) (2 ^ root))
          have HR5 := Lib.hid hown5
          have HO5 := Lib.hid (own_below HOW.out hb5)
          have HLT5 : Hid (w2.heap.size < w5.heap.size) := Lib.hid (Nat.lt_of_lt_of_le HLT.out hb5.size)
          have hwr : w2.heap.size < wr.heap.size := HLT.out
          have HB5 := Lib.hid (HBW.out.trans (hb5.mono hszr))
          clear hown5 hb5 HTW HOW HBW HLT er
          go_wp2_with fail
          go_loopw [12, 14, 15, 17, 57, 70] (fun ag _ _ _ i _ wq => ∃ (q : Nat) (F : Nat → Nat) (b1 : Bool), q ≤ (nums (minus (comeS l root) (2 ^ root))).length ∧ i = .int .i64 (q : Int) ∧ ag = .bool b1 ∧ Hid (DomPass l root n f ((nums (minus (comeS l root) (2 ^ root))).take q) F b1) ∧ Hid (w2.heap.size < wq.heap.size) ∧ Hid (wq.ownsRow w2.heap.size 23 1 (.slice (some ⟨w2.heap.size, 0, none⟩) n n) n (fuv F n)) ∧ Hid (Below w2.heap.size w2 wq) ∧ Hid (wq.ownsRow wr.heap.size 3 1 (.slice A5 (nums (minus (comeS l root) (2 ^ root))).length c5) (nums (minus (comeS l root) (2 ^ root))).length ((nums (minus (comeS l root) (2 ^ root))).map nv))) (fun _ _ _ _ i _ _ => (nums (minus (comeS l root) (2 ^ root))).length - (intOf i).toNat)
          case atStart => exact ⟨0, f, false, by omega, rfl, rfl, HP0, HLT5, HO5, HB5, HR5⟩
          case round =>
            clear HP0 HLT5 HO5 HB5 HR5
            obtain ⟨q, F, b1, hq, rfl, rfl, hps, hlt, hown, hbw, hr5⟩ := hrel
            by_cases hql : q < (nums (minus (comeS l root) (2 ^ root))).length
            · obtain ⟨b7, o7, rfl, hc⟩ := (Rd.of_own hr5.out).at_ (k := q) (by simpa using hql)
              have hc' : wr.cell? ⟨b7, o7 + q, none⟩ = some (.int .i64 ((nums (minus (comeS l root) (2 ^ root)))[q]?.getD 0 : Nat)) := by rw [hc]; simp [nv, hql]
              have hqm : (nums (minus (comeS l root) (2 ^ root)))[q]?.getD 0 ∈ nums (minus (comeS l root) (2 ^ root)) := by simp [hql]
              have HTK := Lib.hid (take_snoc (nums (minus (comeS l root) (2 ^ root))) 0 q hql)
              clear hc
              generalize (nums (minus (comeS l root) (2 ^ root)))[q]?.getD 0 = m at *
              have HM := Lib.hid ((HCT.out m).1 hqm)
              have hml : m < l.length := HIN.out m HM.out.1
              have hmn : m < n := by rw [← HL.out]; exact hml
              have hm64 : m < 64 := by omega
              obtain ⟨b6, o6, rfl, x6⟩ := (HR2.out.below hbw.out).set (k := m) (by rw [HTL.out]; exact hmn)
              have er := u64_and_nat (rowAt (turned l) m) (comeS l root) (HTG.out.b64 m) HCB.out
              rw [show rowAt (turned l) m &&& comeS l root = leadS l root m from rfl] at er
              have HTW := Lib.hid (HT.out.below (below_then HB2.out hbw.out))
              have HOW := hown
              have HBW := hbw
              have HLT := hlt
              have HRW := hr5
              clear hown hbw hlt hr5 hqm
              go_wp2_with fail
              refine (list_any _ (HLB.out m) _ HTW.out).mono ?_
              rintro e w6 ⟨A6, c6, rfl, hown6, hb6⟩
              have hlen6 := nums_len (leadS l root m)
              have hszw : w2.heap.size ≤ wr.heap.size := HBW.out.size
              have HR6 := Lib.hid (Rd.of_own hown6)
              have HO6 := Lib.hid (own_below HOW.out hb6)
              have HR56 := Lib.hid (own_below HRW.out hb6)
              have HLT6 : Hid (w2.heap.size < w6.heap.size) := Lib.hid (Nat.lt_of_lt_of_le HLT.out hb6.size)
              have HB6 := Lib.hid (HBW.out.trans (hb6.mono hszw))
              clear hown6 hb6 HTW HOW HBW HLT HRW er x6 hc'
              go_wp2_with fail
              go_loop [15, 17, 70] (fun s _ x => ∃ p : Nat, p ≤ (nums (leadS l root m)).length ∧ x = .int .i64 (p : Int) ∧ s = .int .u64 (meetF F (comeS l root) ((nums (leadS l root m)).take p) : Nat)) (fun _ _ x => (nums (leadS l root m)).length - (intOf x).toNat)
              case atStart => exact ⟨0, by omega, rfl, rfl⟩
              case round =>
                obtain ⟨p, hp, rfl, rfl⟩ := hrel
                by_cases hpl : p < (nums (leadS l root m)).length
                · obtain ⟨b8, o8, rfl, hc⟩ := HR6.out.at_ (k := p) (by simpa using hpl)
                  have hc' : w6.cell? ⟨b8, o8 + p, none⟩ = some (.int .i64 ((nums (leadS l root m))[p]?.getD 0 : Nat)) := by rw [hc]; simp [nv, hpl]
                  have hpm : (nums (leadS l root m))[p]?.getD 0 ∈ nums (leadS l root m) := by simp [hpl]
                  have HTP := Lib.hid (take_snoc (nums (leadS l root m)) 0 p hpl)
                  clear hc
                  generalize (nums (leadS l root m))[p]?.getD 0 = y at *
                  have hyn : y < n := by rw [← HL.out]; exact HIN.out y ((HLE.out m hml y).1 hpm).2
                  have hcy := fuv_cell HO6.out hyn
                  have er := u64_and_nat (meetF F (comeS l root) ((nums (leadS l root m)).take p)) (F y) (meetF_b64 HCB.out _) (HDB.out F hps.out.inv y)
                  have HSN := Lib.hid (meetF_snoc F ((nums (leadS l root m)).take p) y (comeS l root))
                  clear hpm
                  go_wp2_with fail
                  go_round
                  case rel => exact ⟨p + 1, by omega, by go_num, by rw [HTP.out, HSN.out]⟩
                  case measure => simp [intOf]; omega
                · obtain rfl : p = (nums (leadS l root m)).length := by omega
                  rw [List.take_of_length_le (Nat.le_refl _)]
                  have er := or_raw (meetF F (comeS l root) (nums (leadS l root m))) m (meetF_b64 HCB.out _) hm64
                  rw [show addN (meetF F (comeS l root) (nums (leadS l root m))) m = newS l root F m from rfl] at er
                  have hcm := fuv_cell HO6.out hmn
                  have hfm := HO6.out.frozenAt m
                  by_cases he : newS l root F m = F m
                  · have HNX := Lib.hid (domPass_keep hps.out he)
                    have hz : (((newS l root F m : Nat) : Int) != ((F m : Nat) : Int)) = false := by simp [he]
                    have HE := Lib.hid he
                    clear he hps
                    go_wp2_with fail
                    go_roundw
                    case rel => exact ⟨q + 1, F, b1, by omega, by go_num, rfl, Lib.hid (by rw [HTK.out]; exact HNX.out), HLT6, HO6, HB6, HR56⟩
                    case measure => simp [intOf]; omega
                  · have HNX := Lib.hid (HTN.out f F _ b1 m hps.out HM.out.1 HM.out.2 he)
                    have hz : (((newS l root F m : Nat) : Int) != ((F m : Nat) : Int)) = true := by simp; omega
                    have HV := Lib.hid (fuv_set (q := m) (v := newS l root F m) HO6.out)
                    have HBS := Lib.hid (HB6.out.setCell (p := ⟨w2.heap.size, m, none⟩) (Nat.le_refl _) (.int .u64 (newS l root F m : Nat)))
                    have HRS := Lib.hid (own_far HR56.out HV.out.2 hwr)
                    have HE := Lib.hid he
                    clear he hps
                    go_wp2_with fail
                    go_roundw
                    case rel => exact ⟨q + 1, _, true, by omega, by go_num, rfl, Lib.hid (by rw [HTK.out]; exact HNX.out), Lib.hid (by simpa [World.setCell] using HLT6.out), Lib.hid HV.out.1, HBS, HRS⟩
                    case measure => simp [intOf]; omega
            · have hfin := hps.out
              rw [List.take_of_length_le (by omega)] at hfin
              have HFI := Lib.hid hfin.inv
              have HSA : Hid (b1 = false → ∀ m, (comeS l root).testBit m = true → m ≠ root → newS l root F m = F m) := Lib.hid (fun hb => by
                subst hb
                exact domPass_end hfin (fun m h1 h2 => (HCT.out m).2 ⟨h1, h2⟩))
              have HTF := Lib.hid (cellTot_eq hown.out n (Nat.le_refl _))
              have HLS := Lib.hid hfin.less
              clear hfin hps
              go_wp2_with fail
              refine ⟨?_, ?measure⟩
              · repeat apply Exists.intro
                refine ⟨?rel, rfl⟩
                exact ⟨F, b1, rfl, HFI, HSA, hlt, hown, hbw⟩
              · have h5 := HLS.out
                have h6 := HTF.out
                have h7 := HTOT.out
                rw [h6, h7]
                cases b1 with
                | true => simp [boolN] at h5 ⊢; omega
                | false => simp [boolN] at h5 ⊢; omega
end Go.Proofs.YtonmkmghpiagjaaDoor
