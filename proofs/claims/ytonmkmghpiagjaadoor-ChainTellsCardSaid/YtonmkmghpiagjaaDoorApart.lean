/- Contract: chain.Apart. The table of math/bits lies. -/
import Derived.Test.YtonmkmghpiagjaaDoorApartPlain
import Derived.Test.YtonmkmghpiagjaaDoorChains
namespace Go.Proofs.YtonmkmghpiagjaaDoor
open Go.RowKit

def bv : Value → Nat
  | .bool true => 1
  | _ => 0
theorem apart_bad {A : Option Addr} {n c : Nat} (l : List Nat) (w : World) (h1 : Rd w A (l.map uv)) (hl : l.length = n) (hnb : n ≤ 9223372036854775807) (hb : Rows64 l) (hT : Tab w) (he : ordErr l ≠ 0) :
    Calls Tryd.prog 25 #[.slice A n c] w fun e w' => e = .returned (.tuple #[.int .u64 0, .int .i64 (ordErr l)]) ∧ Below w.heap.size w w' := by
  have H := Lib.hid (below_bad (c := c) l w h1 hl hnb hb hT he)
  have he' : (ordErr l != 0) = true := by simp [he]
  clear h1 hl hb hT he
  go_enter Tryd.func25, Tryd.ntmps25
  go_wp2_with fail
  refine H.out.mono ?_
  rintro e w1 ⟨rfl, hb1⟩
  go_wp2_with fail
  go_ret2
  exact ⟨rfl, hb1⟩
/-- What Apart ends with. -/
def ApEnd (R : List Nat) (st : PSt) (a : Nat) : Prop :=
  ∃ S T L, Stuck R st S ∧ ApOk R st S T L ∧ (∀ i, T.testBit i = true → ∀ q, (rowAt R i).testBit q = true → L.testBit q = true) ∧ a = minus T L
/-- A pass over the tops T, L the lows ahead of it. -/
structure Pass (R : List Nat) (st : PSt) (S T L : Nat) (done : List Nat) (T' L' : Nat) (b : Bool) : Prop where
  ok : ApOk R st S T' L'
  up : ∀ j, T.testBit j = true → T'.testBit j = true
  same : b = false → T' = T ∧ L' = L ∧ ∀ i ∈ done, ∀ q, (rowAt R i).testBit q = true → L.testBit q = true
  more : b = true → (nums L).length < (nums L').length
/-- Within: a row's new ones. -/
structure Row (R : List Nat) (st : PSt) (S T' L' : Nat) (b : Bool) (p : Nat) (T'' L'' : Nat) (b'' : Bool) : Prop where
  ok : ApOk R st S T'' L''
  up : ∀ j, T'.testBit j = true → T''.testBit j = true
  none : p = 0 → T'' = T' ∧ L'' = L' ∧ b'' = b
  some : 0 < p → b'' = true ∧ (nums L').length < (nums L'').length
theorem row_start {R : List Nat} {st : PSt} {S T L : Nat} {b : Bool} (h : ApOk R st S T L) : Row R st S T L b 0 T L b := ⟨h, fun _ hj => hj, fun _ => ⟨rfl, rfl, rfl⟩, fun h => absurd h (by decide)⟩
theorem apOk_b64 {R : List Nat} (hg : Good R) {st : PSt} {S T L : Nat} (h : ApOk R st S T L) : B64 T ∧ B64 L :=
  ⟨B64.of_bits fun j hj => Nat.lt_of_lt_of_le (h.tin j hj).1 hg.1, B64.of_bits fun j hj => Nat.lt_of_lt_of_le (h.lin j hj).1 hg.1⟩
theorem row_step {R : List Nat} (hg : Good R) {st : PSt} {S T' L' T'' L'' i k p : Nat} {b b'' : Bool} (hs : Stuck R st S) (h : Row R st S T' L' b p T'' L'' b'') (hi : T'.testBit i = true) (hk : (rowAt R i).testBit k = true) (hkL : L'.testBit k = false) :
    ∃ j : Nat, st.ah k = (j : Int) ∧ j < R.length ∧ Row R st S T' L' b (p + 1) (addN T'' j) (addN L'' k) true := by
  obtain ⟨j, h1, h2, h3⟩ := apOk_step hs h.ok (h.up i hi) hk
  have hb := (apOk_b64 hg h.ok).2
  have hk64 : k < 64 := (hg.b64 i).bit hk
  refine ⟨j, h1, h2, h3, fun x hx => by rw [addN_bit, h.up x hx]; rfl, fun h => by omega, fun _ => ⟨rfl, ?_⟩⟩
  have hsub : (nums L'').length ≤ (nums (addN L'' k)).length := nums_sub fun x hx => by rw [addN_bit, hx]; rfl
  rcases Nat.eq_zero_or_pos p with hp | hp
  · obtain ⟨_, e, _⟩ := h.none hp
    subst e
    have hb2 : B64 (addN L'' k) := addN_b64 hb hk64
    have hdrop := drop_len hb2 (i := k) (by rw [addN_bit]; simp)
    have : (nums L'').length ≤ (nums (drop (addN L'' k) k)).length := nums_sub fun x hx => by
      rw [drop_bit hb2 hk64, addN_bit, hx]
      have : x ≠ k := fun e => by subst e; rw [hkL] at hx; cases hx
      simp [this]
    omega
  · have := (h.some hp).2
    omega
theorem pass_next {R : List Nat} (hg : Good R) {st : PSt} {S T L T' L' T'' L'' i p : Nat} {done : List Nat} {b b'' : Bool} (h : Pass R st S T L done T' L' b) (hr : Row R st S T' L' b p T'' L'' b'') (hp : p = (nums (minus (rowAt R i) L')).length) :
    Pass R st S T L (done ++ [i]) T'' L'' b'' := by
  have hb := (apOk_b64 hg h.ok).2
  rcases Nat.eq_zero_or_pos p with hz | hz
  · obtain ⟨rfl, rfl, rfl⟩ := hr.none hz
    refine ⟨h.ok, h.up, fun hf => ?_, h.more⟩
    obtain ⟨h1, h2, h3⟩ := h.same hf
    refine ⟨h1, h2, fun x hx => ?_⟩
    rcases List.mem_append.1 hx with hx | hx
    · exact h3 x hx
    · rw [List.mem_singleton] at hx
      subst hx
      intro q hq
      have hm : B64 (minus (rowAt R x) L'') := minus_b64 (hg.b64 x)
      have h0 : minus (rowAt R x) L'' = 0 := by
        apply Classical.byContradiction
        intro hne
        exact nums_ne hm hne (List.eq_nil_of_length_eq_zero (by omega))
      have := minus_bit (hg.b64 x) hb q
      rw [h0, hq] at this
      rw [← h2]
      simpa using this
  · obtain ⟨h1, h2⟩ := hr.some hz
    refine ⟨hr.ok, fun j hj => hr.up j (h.up j hj), fun hf => by (rw [h1] at hf; cases hf), fun _ => ?_⟩
    cases hb' : b with
    | false =>
      obtain ⟨_, e, _⟩ := h.same hb'
      rw [← e]; exact h2
    | true => exact Nat.lt_trans (h.more hb') h2
def ApartPost (l : List Nat) (n : Nat) (w : World) (e : Ending) (w' : World) : Prop :=
  ∃ (st : PSt) (a : Nat), PairRun (closed l) n st ∧ ApEnd (closed l) st a ∧ e = .returned (.tuple #[.int .u64 (a : Nat), .int .i64 0]) ∧ Below w.heap.size w w'
set_option maxHeartbeats 2000000 in
theorem apart_good {A : Option Addr} {n c : Nat} (l : List Nat) (w : World) (h1 : Rd w A (l.map uv)) (hl : l.length = n) (hnb : n ≤ 9223372036854775807) (hb : Rows64 l) (hT : Tab w) (hg : Good l) (he : ordErr l = 0) :
    Calls Tryd.prog 25 #[.slice A n c] w (ApartPost l n w) := by
  have hn : n ≤ 64 := by have := hg.1; omega
  have H := Lib.hid (below_good (c := c) l w h1 hl hnb hb hT he)
  have HCL : Hid ((closed l).length = n) := Lib.hid (by rw [closed_len]; exact hl)
  have HG := Lib.hid (closed_good hg)
  have HT := Lib.hid hT
  clear h1 hl hb hT hg he
  go_enter Tryd.func25, Tryd.ntmps25
  go_wp2_with fail
  refine H.out.mono ?_
  rintro e w1 ⟨A1, c1, A2, c2, rfl, hown1, hown2, hb1⟩
  have HO := Lib.hid (Rd.of_own hown1)
  have HB1 := Lib.hid hb1
  clear hown1 hown2 hb1 H
  go_wp2_with fail
  refine (pair_any (closed l) _ HO.out HCL.out HG.out (HT.out.below HB1.out)).mono ?_
  rintro e w2 ⟨P, G1, G2, st, rfl, hrun, hm, hb2⟩
  obtain ⟨S, hst⟩ := stuck_of (st := st) HG.out (by rw [HCL.out]; exact hrun)
  have HRUN := Lib.hid hrun
  have HSTK := Lib.hid hst
  have HPR := Lib.hid hm.prd
  have HO2 := Lib.hid (HO.out.below hb2)
  have HB2 := Lib.hid (below_then HB1.out hb2)
  have HT2 := Lib.hid (HT.out.below HB2.out)
  have HTB := Lib.hid (fun k (hk : k ≤ n) => (B64.of_bits fun j hj => by
    rw [topsUp_bit] at hj
    simp at hj
    omega : B64 (topsUp st.nx k)))
  clear hrun hm hb2 hst
  go_wp2_with fail
  go_loop [8, 10, 29] (fun t _ x => ∃ k : Nat, k ≤ n ∧ x = .int .i64 (k : Int) ∧ t = .int .u64 (topsUp st.nx k : Nat)) (fun _ _ x => n - (intOf x).toNat)
  case atStart => exact ⟨0, by omega, rfl, rfl⟩
  case round =>
    obtain ⟨k, hk, rfl, rfl⟩ := hrel
    by_cases hkn : k < n
    · have y1 := HPR.out.next
      have y2 := HPR.out.nx k hkn
      have hk64 : k < 64 := by omega
      have e1 := or_raw (topsUp st.nx k) k (HTB.out k hk) hk64
      by_cases hneg : st.nx k < 0
      · have HN : Hid (addN (topsUp st.nx k) k = topsUp st.nx (k + 1)) := Lib.hid (by show _ = if st.nx k < 0 then _ else _; rw [if_pos hneg])
        go_wp2_with fail
        go_round
        case rel => exact ⟨k + 1, by omega, by go_num, by rw [HN.out]⟩
        case measure => simp [intOf]; omega
      · have HN : Hid (topsUp st.nx k = topsUp st.nx (k + 1)) := Lib.hid (by show _ = if st.nx k < 0 then _ else _; rw [if_neg hneg])
        go_wp2_with fail
        go_round
        case rel => exact ⟨k + 1, by omega, by go_num, by rw [← HN.out]⟩
        case measure => simp [intOf]; omega
    · obtain rfl : k = n := by omega
      have HAP : Hid (ApOk (closed l) st S (topsUp st.nx k) 0) := Lib.hid (by
        have := apOk_start HSTK.out
        rw [HCL.out] at this
        exact this)
      go_wp2_with fail
      go_loopw [8, 9, 11, 13, 15, 49, 61] (fun t v b _ _ _ _ wr => ∃ (T L : Nat) (bb : Bool), t = .int .u64 (T : Nat) ∧ v = .int .u64 (L : Nat) ∧ b = .bool bb ∧ Hid (ApOk (closed l) st S T L) ∧ Hid (bb = false → ∀ i, T.testBit i = true → ∀ q, (rowAt (closed l) i).testBit q = true → L.testBit q = true) ∧ Hid (Below w2.heap.size w2 wr)) (fun _ v b _ _ _ _ _ => 2 * (64 - setLen v) + bv b)
      case atStart => exact ⟨topsUp st.nx k, 0, true, rfl, rfl, rfl, HAP, Lib.hid (fun h => by cases h), Lib.hid (Below.refl _ _)⟩
      case round =>
        clear HAP
        obtain ⟨T, L, bb, rfl, rfl, rfl, hap, hcl, hbw⟩ := hrel
        have HB64 := Lib.hid (apOk_b64 HG.out hap.out)
        cases bb with
        | false =>
          have e1 := minus_raw T L HB64.out.1 HB64.out.2
          have HEND : Hid (ApEnd (closed l) st (minus T L)) := Lib.hid ⟨S, T, L, HSTK.out, hap.out, hcl.out rfl, rfl⟩
          have HBE := Lib.hid (below_then HB2.out hbw.out)
          go_wp2_with fail
          go_ret2
          exact ⟨st, minus T L, HRUN.out, HEND.out, rfl, HBE.out⟩
        | true =>
          have HTW := Lib.hid (HT2.out.below hbw.out)
          have hszo : w2.heap.size ≤ wr.heap.size := hbw.out.size
          have HTL := HB64.out.1
          have HBW := hbw
          clear hcl hbw
          go_wp2_with fail
          refine (list_any T HTL _ HTW.out).mono ?_
          rintro e w3 ⟨A3, c3, rfl, hown3, hb3⟩
          have HR3 := Lib.hid (Rd.of_own hown3)
          have HB3 := Lib.hid (HBW.out.trans (hb3.mono hszo))
          have hlen := nums_len T
          clear hown3 hb3 HTW HBW HTL
          have HP0 : Hid (Pass (closed l) st S T L ((nums T).take 0) T L false) := Lib.hid ⟨hap.out, fun _ h => h, fun _ => ⟨rfl, rfl, fun i hi => by simp at hi⟩, fun h => by cases h⟩
          go_wp2_with fail
          go_loopw [8, 9, 11, 13, 15, 49, 61] (fun t v b _ _ x _ wq => ∃ (q T1 L1 : Nat) (b1 : Bool), q ≤ (nums T).length ∧ x = .int .i64 (q : Int) ∧ t = .int .u64 (T1 : Nat) ∧ v = .int .u64 (L1 : Nat) ∧ b = .bool b1 ∧ Hid (Pass (closed l) st S T L ((nums T).take q) T1 L1 b1) ∧ Hid (Below w3.heap.size w3 wq)) (fun _ _ _ _ _ x _ _ => (nums T).length - (intOf x).toNat)
          case atStart => exact ⟨0, T, L, false, by omega, rfl, rfl, rfl, rfl, HP0, Lib.hid (Below.refl _ _)⟩
          case round =>
            clear HP0
            obtain ⟨q, T1, L1, b1, hq, rfl, rfl, rfl, rfl, hps, hbq⟩ := hrel
            have HB1 := Lib.hid (apOk_b64 HG.out hps.out.ok)
            by_cases hql : q < (nums T).length
            · obtain ⟨b5, o5, rfl, hc⟩ := (HR3.out.below hbq.out).at_ (k := q) (by simpa using hql)
              have hc' : wr.cell? ⟨b5, o5 + q, none⟩ = some (.int .i64 ((nums T)[q]?.getD 0 : Nat)) := by rw [hc]; simp [nv, hql]
              have him : (nums T)[q]?.getD 0 ∈ nums T := by simp [hql]
              have HTK := Lib.hid (take_snoc (nums T) 0 q hql)
              clear hc
              generalize (nums T)[q]?.getD 0 = i at *
              have HBI := Lib.hid ((mem_nums HB64.out.1).1 him)
              have HI1 := Lib.hid (hps.out.up i HBI.out)
              have hil : i < (closed l).length := (hps.out.ok.tin i HI1.out).1
              have hin : i < k := by rw [← HCL.out]; exact hil
              have hszq : w2.heap.size ≤ w3.heap.size := HB3.out.size
              have HBW := Lib.hid (HB3.out.trans (hbq.out.mono hszq))
              obtain ⟨b6, o6, rfl, x6⟩ := (HO2.out.below HBW.out).set (k := i) hil
              have e1 := minus_raw (rowAt (closed l) i) L1 (HG.out.b64 i) HB1.out.2
              have HMB : Hid (B64 (minus (rowAt (closed l) i) L1)) := Lib.hid (minus_b64 (HG.out.b64 i))
              have HTW := Lib.hid (HT2.out.below HBW.out)
              have hszw : w3.heap.size ≤ wr.heap.size := hbq.out.size
              have HBQ := hbq
              clear him hil hbq
              go_wp2_with fail
              refine (list_any _ HMB.out _ HTW.out).mono ?_
              rintro e w4 ⟨A4, c4, rfl, hown4, hb4⟩
              have HR4 := Lib.hid (Rd.of_own hown4)
              have HB4 := Lib.hid (HBQ.out.trans (hb4.mono hszw))
              have hlen4 := nums_len (minus (rowAt (closed l) i) L1)
              clear hown4 hb4 HTW HBW HBQ x6 hc' e1
              have HROW0 := Lib.hid (row_start (b := b1) hps.out.ok)
              have HP4 := Lib.hid (HPR.out.below (HB3.out.trans (HB4.out.mono hszq)))
              go_wp2_with fail
              go_loop [8, 9, 11, 15, 61] (fun t v b _ x => ∃ (p T2 L2 : Nat) (b2 : Bool), p ≤ (nums (minus (rowAt (closed l) i) L1)).length ∧ x = .int .i64 (p : Int) ∧ t = .int .u64 (T2 : Nat) ∧ v = .int .u64 (L2 : Nat) ∧ b = .bool b2 ∧ Hid (Row (closed l) st S T1 L1 b1 p T2 L2 b2)) (fun _ _ _ _ x => (nums (minus (rowAt (closed l) i) L1)).length - (intOf x).toNat)
              case atStart => exact ⟨0, T1, L1, b1, by omega, rfl, rfl, rfl, rfl, HROW0⟩
              case round =>
                clear HROW0
                obtain ⟨p, T2, L2, b2, hp, rfl, rfl, rfl, rfl, hrow⟩ := hrel
                have HB2' := Lib.hid (apOk_b64 HG.out hrow.out.ok)
                by_cases hpl : p < (nums (minus (rowAt (closed l) i) L1)).length
                · obtain ⟨b7, o7, rfl, hc⟩ := HR4.out.at_ (k := p) (by simpa using hpl)
                  have hc' : w4.cell? ⟨b7, o7 + p, none⟩ = some (.int .i64 ((nums (minus (rowAt (closed l) i) L1))[p]?.getD 0 : Nat)) := by rw [hc]; simp [nv, hpl]
                  have hkm : (nums (minus (rowAt (closed l) i) L1))[p]?.getD 0 ∈ nums (minus (rowAt (closed l) i) L1) := by simp [hpl]
                  clear hc
                  generalize (nums (minus (rowAt (closed l) i) L1))[p]?.getD 0 = x at *
                  have hkb := (mem_nums HMB.out).1 hkm
                  rw [minus_bit (HG.out.b64 i) HB1.out.2] at hkb
                  simp only [Bool.and_eq_true, Bool.not_eq_true'] at hkb
                  obtain ⟨j, hj1, hj2, hj3⟩ := row_step HG.out HSTK.out hrow.out HI1.out hkb.1 hkb.2
                  have HJ := Lib.hid hj3
                  have hx64 : x < 64 := (HG.out.b64 i).bit hkb.1
                  have hxn : x < k := by have := HG.out.2 i x hkb.1; rw [HCL.out] at this; exact this
                  have hj64 : j < 64 := Nat.lt_of_lt_of_le hj2 HG.out.1
                  have y1 := HP4.out.ahead
                  have y2 := HP4.out.ah x hxn
                  rw [hj1] at y2
                  have e1 := or_raw L2 x HB2'.out.2 hx64
                  have e2 := or_raw T2 j HB2'.out.1 hj64
                  clear hkm hkb hj1 hj2 hj3 hrow
                  go_wp2_with fail
                  go_round
                  case rel => exact ⟨p + 1, addN T2 j, addN L2 x, true, by omega, by go_num, rfl, rfl, rfl, HJ⟩
                  case measure => simp [intOf]; omega
                · have HNX : Hid (Pass (closed l) st S T L ((nums T).take (q + 1)) T2 L2 b2) := Lib.hid (by
                    rw [HTK.out]
                    exact pass_next HG.out hps.out hrow.out (by omega))
                  go_wp2_with fail
                  go_roundw
                  case rel => exact ⟨q + 1, T2, L2, b2, by omega, by go_num, rfl, rfl, rfl, HNX, HB4⟩
                  case measure => simp [intOf]; omega
            · have hfin := hps.out
              rw [List.take_of_length_le (by omega)] at hfin
              have HOK := Lib.hid hfin.ok
              have HCLO : Hid (b1 = false → ∀ i, T1.testBit i = true → ∀ q, (rowAt (closed l) i).testBit q = true → L1.testBit q = true) := Lib.hid (fun hf => by
                obtain ⟨rfl, rfl, h3⟩ := hfin.same hf
                exact fun i hi => h3 i ((mem_nums HB64.out.1).2 hi))
              have hszq : w2.heap.size ≤ w3.heap.size := HB3.out.size
              have HBN := Lib.hid (HB3.out.trans (hbq.out.mono hszq))
              have hMS : (b1 = true → (nums L).length < (nums L1).length) ∧ (nums L1).length ≤ 64 ∧ (b1 = false → L1 = L) := ⟨hfin.more, nums_len L1, fun h => (hfin.same h).2.1⟩
              have HMS := Lib.hid hMS
              clear hfin hMS hps
              go_wp2_with fail
              go_roundw
              case rel => exact ⟨T1, L1, b1, rfl, rfl, rfl, HOK, HCLO, HBN⟩
              case measure =>
                have h5 := HMS.out
                cases b1 with
                | true =>
                  have := h5.1 rfl
                  simp only [setLen, bv, Int.toNat_natCast]
                  omega
                | false =>
                  have := h5.2.2 rfl
                  subst this
                  simp only [setLen, bv, Int.toNat_natCast]
                  omega
end Go.Proofs.YtonmkmghpiagjaaDoor
