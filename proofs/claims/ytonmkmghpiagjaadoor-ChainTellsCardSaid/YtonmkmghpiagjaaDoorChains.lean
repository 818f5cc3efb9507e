/- Contract: chain.Chains. The table of math/bits lies. -/
import Derived.Test.YtonmkmghpiagjaaDoorChainPlain
import Derived.Test.YtonmkmghpiagjaaDoorPair2
import Derived.Test.YtonmkmghpiagjaaDoorChain1
import Derived.Test.YtonmkmghpiagjaaDoorOwn3
namespace Go.Proofs.YtonmkmghpiagjaaDoor
open Go.RowKit

theorem elRow : ElT Tryd.prog 35 24 (.slice none 0 0) 24 := ElT.mk' Tryd.underlying35 (by kernel_rfl) rfl
/-- The pairing, to be read. -/
structure PRd (w : World) (P G1 G2 : Nat) (n : Nat) (st : PSt) : Prop where
  next : w.cell? ⟨P, 1, none⟩ = some (.slice (some ⟨G1, 0, none⟩) n n)
  ahead : w.cell? ⟨P, 2, none⟩ = some (.slice (some ⟨G2, 0, none⟩) n n)
  nx : ∀ j : Nat, j < n → w.cell? ⟨G1, j, none⟩ = some (.int .i64 (st.nx j))
  ah : ∀ j : Nat, j < n → w.cell? ⟨G2, j, none⟩ = some (.int .i64 (st.ah j))
theorem PMem.prd {w : World} {P G1 G2 : Nat} {A : Option Addr} {n c : Nat} {st : PSt} (h : PMem w P G1 G2 A n c st) : PRd w P G1 G2 n st := ⟨h.next, h.ahead, h.nx, h.ah⟩
theorem PRd.below {w w' : World} {P G1 G2 : Nat} {n : Nat} {st : PSt} (h : PRd w P G1 G2 n st) (hb : Below w.heap.size w w') : PRd w' P G1 G2 n st := by
  have key : ∀ {b o : Nat} {v : Value}, w.cell? ⟨b, o, none⟩ = some v → w'.cell? ⟨b, o, none⟩ = some v := fun {b o v} h => (hb.cell (p := ⟨b, o, none⟩) (lt_of_cell' h)).trans h
  exact ⟨key h.next, key h.ahead, fun j hj => key (h.nx j hj), fun j hj => key (h.ah j hj)⟩
theorem chains_bad {A : Option Addr} {n c : Nat} (l : List Nat) (w : World) (h1 : Rd w A (l.map uv)) (hl : l.length = n) (hnb : n ≤ 9223372036854775807) (hb : Rows64 l) (hT : Tab w) (he : ordErr l ≠ 0) :
    Calls Tryd.prog 24 #[.slice A n c] w fun e w' => e = .returned (.tuple #[.slice none 0 0, .int .i64 (ordErr l)]) ∧ Below w.heap.size w w' := by
  have H := Lib.hid (below_bad (c := c) l w h1 hl hnb hb hT he)
  have he' : (ordErr l != 0) = true := by simp [he]
  clear h1 hl hb hT he
  go_enter Tryd.func24, Tryd.ntmps24
  go_wp2_with fail
  refine H.out.mono ?_
  rintro e w1 ⟨rfl, hb1⟩
  go_wp2_with fail
  go_ret2
  exact ⟨rfl, hb1⟩
def ChainsPost (l : List Nat) (n : Nat) (w : World) (e : Ending) (w' : World) : Prop :=
  ∃ (st : PSt) (A : Option Addr) (c : Nat) (vs : List Value), PairRun (closed l) n st ∧ e = .returned (.tuple #[.slice A (heads st.ah n).length c, .int .i64 0]) ∧
    w'.ownsRow w.heap.size 24 1 (.slice A (heads st.ah n).length c) (heads st.ah n).length vs ∧ ChRows 3 w' w.heap.size (Value.slice A (heads st.ah n).length c).ownBlock vs (chainsOf st.nx st.ah n n) ∧ Below w.heap.size w w'
theorem chainsOf_snoc (nx ah : Nat → Int) (n k : Nat) : chainsOf nx ah n (k + 1) = chainsOf nx ah n k ++ if ah k < 0 then [chainF nx n (k : Int)] else [] := by
  unfold chainsOf
  rw [heads_snoc, List.map_append]
  congr 1
  split <;> rfl
set_option maxHeartbeats 1000000 in
theorem chains_good {A : Option Addr} {n c : Nat} (l : List Nat) (w : World) (h1 : Rd w A (l.map uv)) (hl : l.length = n) (hnb : n ≤ 9223372036854775807) (hb : Rows64 l) (hT : Tab w) (hg : Good l) (hr : ordR l = 0) (he : ordErr l = 0) :
    Calls Tryd.prog 24 #[.slice A n c] w (ChainsPost l n w) := by
  have hn : n ≤ 64 := by have := hg.1; omega
  have H := Lib.hid (below_good (c := c) l w h1 hl hnb hb hT he)
  have HL := Lib.hid hl
  have HG := Lib.hid hg
  have HT := Lib.hid hT
  have HR := Lib.hid hr
  clear h1 hl hb hT hg hr he
  go_enter Tryd.func24, Tryd.ntmps24
  go_wp2_with fail
  refine H.out.mono ?_
  rintro e w1 ⟨A1, c1, A2, c2, rfl, hown1, hown2, hb1⟩
  have HO := Lib.hid (Rd.of_own hown1)
  have HB1 := Lib.hid hb1
  clear hown1 hown2 hb1 H
  go_wp2_with fail
  refine (pair_any (closed l) _ HO.out (by rw [closed_len, HL.out]) (closed_good HG.out) (HT.out.below HB1.out)).mono ?_
  rintro e w2 ⟨P, G1, G2, st, rfl, hrun, hm, hb2⟩
  have HRUN := Lib.hid hrun
  have HPR := Lib.hid hm.prd
  have HB2 := Lib.hid (below_then HB1.out hb2)
  have HPI : Hid (PInv (closed l) l.length st.nx st.ah (-1)) := Lib.hid (by
    have := (pairRun_inv (closed_good HG.out) hrun (by rw [closed_len, HL.out]; exact Nat.le_refl _)).inv
    rw [closed_len] at this
    exact this)
  have hsz2 : w.heap.size ≤ w2.heap.size := HB2.out.size
  clear hrun hm hb2
  go_wp2_with fail
  go_loopw [8, 9, 10, 11, 25] (fun v _ _ _ x wr => ∃ (t k2 : Nat) (A4 : Option Addr) (c4 : Nat) (vs : List Value), t ≤ n ∧ k2 ≤ t ∧ x = .int .i64 (t : Int) ∧ v = .slice A4 k2 c4 ∧ Hid (k2 = (heads st.ah t).length) ∧ Hid (wr.ownsRow w2.heap.size 24 1 (.slice A4 k2 c4) k2 vs) ∧ Hid (ChRows 3 wr w2.heap.size (Value.slice A4 k2 c4).ownBlock vs (chainsOf st.nx st.ah n t)) ∧ Hid (Below w2.heap.size w2 wr)) (fun _ _ _ _ x _ => n - (intOf x).toNat)
  case atStart => exact ⟨0, 0, none, 0, [], by omega, by omega, rfl, rfl, Lib.hid rfl, Lib.hid (World.ownsRow_nil _ _ _ _), Lib.hid (chRows_nil _ _ _ _), Lib.hid (Below.refl _ _)⟩
  case round =>
    obtain ⟨t, k2, A4, c4, vs, ht, hk2, rfl, rfl, hlen, hown, hrows, hbw⟩ := hrel
    by_cases htn : t < n
    · have hpr := HPR.out.below hbw.out
      have y1 := hpr.ahead
      have y2 := hpr.ah t htn
      have HHS := Lib.hid (heads_snoc st.ah t)
      have HCS := Lib.hid (chainsOf_snoc st.nx st.ah n t)
      clear hpr
      by_cases hneg : st.ah t < 0
      · have HNEG := Lib.hid hneg
        have HCR : Hid (ChainRel l st.nx n t [] (t : Int) n) := Lib.hid (by
          have := chainRel_start HG.out HR.out (nx := st.nx) (i := t) (by rw [HL.out]; exact htn)
          rw [HL.out] at this
          exact this)
        have hszq : w2.heap.size ≤ wr.heap.size := hbw.out.size
        have HPW := Lib.hid (HPR.out.below hbw.out)
        go_wp2_with fail
        go_loopw [10, 11] (fun v x wq => ∃ (cur : Int) (f m : Nat) (done : List Nat) (A3 : Option Addr) (c3 : Nat), m ≤ n ∧ x = .int .i64 cur ∧ v = .slice A3 m c3 ∧ Hid (done.length = m) ∧ Hid (ChainRel l st.nx n t done cur f) ∧ Hid (wq.ownsRow wr.heap.size 3 1 (.slice A3 m c3) m (done.map nv)) ∧ Hid (Below wr.heap.size wr wq)) (fun v _ _ => 65 - sliceLen v)
        case atStart => exact ⟨(t : Int), n, 0, [], none, 0, by omega, rfl, rfl, Lib.hid rfl, HCR, Lib.hid (World.ownsRow_nil _ _ _ _), Lib.hid (Below.refl _ _)⟩
        case round =>
          clear HCR
          obtain ⟨cur, f, m, done, A3, c3, hm, rfl, rfl, hdl, hcr, hown3, hbq⟩ := hrel
          by_cases hc : cur < 0
          · have HE := Lib.hid (chainRel_end hcr.out hc)
            have HO4 := Lib.hid (own_below hown.out hbq.out)
            have HR4 := Lib.hid (chRows_below hrows.out hbq.out)
            have hne : (Value.slice A3 m c3).ownBlock = none ∨ (Value.slice A3 m c3).ownBlock ≠ (Value.slice A4 k2 c4).ownBlock := by
              cases h : (Value.slice A3 m c3).ownBlock with
              | none => exact .inl rfl
              | some g =>
                refine .inr fun he => ?_
                have h2 := (hown3.out.lt g h).1
                have h3 := (hown.out.lt g he.symm).2
                omega
            have HNE := Lib.hid hne
            have HB4 := Lib.hid (hbw.out.trans (hbq.out.mono hszq))
            have hszq2 : w2.heap.size ≤ wr.heap.size := HB4.out.size
            have HO3 := Lib.hid (own_base hown3.out hszq)
            have HLS : Hid (m = (chainF st.nx n (t : Int)).length) := Lib.hid (by rw [← HE.out]; exact hdl.out.symm)
            clear hne hown3 hbq hown hbw hrows
            go_wp2_with (at_builtin; refine wpList_push_at elRow wr _ _ w2.heap.size A4 k2 c4 vs (.slice A3 m c3) HO4.out rfl hszq2 (by omega) (by omega) rfl rfl rfl rfl ?_; intro A' c' w5 hown5 hb5 hg5 hat5)
            go_roundw
            case rel =>
              refine ⟨t + 1, k2 + 1, A', c', vs ++ [.slice A3 m c3], by omega, by omega, by go_num, rfl, Lib.hid ?_, Lib.hid hown5, Lib.hid ?_, Lib.hid (HB4.out.trans hb5)⟩
              · rw [HHS.out, if_pos HNEG.out, List.length_append, ← hlen.out]; rfl
              · rw [HCS.out, if_pos HNEG.out]
                refine chRows_snoc _ HR4.out (by rw [HLS.out]) (A := A3) (c := c3) ?_ ?_ hg5 hat5
                · rw [← HLS.out, ← HE.out]; exact HO3.out
                · rw [← HLS.out]; exact HNE.out
            case measure => simp [intOf]; omega
          · obtain ⟨k, rfl⟩ : ∃ k : Nat, cur = (k : Int) := ⟨cur.toNat, by omega⟩
            have HNXT : Hid (∃ f', f = f' + 1 ∧ ChainRel l st.nx n t (done ++ [k]) (st.nx k) f') := Lib.hid (by
              have h2 := hcr.out
              have h3 := HPI.out
              rw [← HL.out] at h2 ⊢
              exact chainRel_next HG.out h3 h2)
            have hkn : k < n := by rw [← HL.out]; exact (hcr.out.2.2.2 k rfl).1
            have hmn : m + 1 ≤ n := by
              obtain ⟨f', hf1, hf2⟩ := HNXT.out
              have h4 := hf2.2.1
              have h5 := hdl.out
              simp at h4
              omega
            have hszq2 := hbq.out.size
            have HPQ := Lib.hid (HPW.out.below hbq.out)
            have HBQ := hbq
            clear hbq hc
            go_wp2_with (at_builtin; refine wpList_push elInt wr _ _ _ A3 m c3 _ (nv k) hown3.out rfl hszq2 (by omega) (by omega) rfl rfl rfl rfl ?_; intro A' c' w5 hown5 hb5; have z1 := (HPW.out.below (HBQ.out.trans hb5)).next; have z2 := (HPW.out.below (HBQ.out.trans hb5)).nx k hkn)
            go_roundw
            case rel =>
              obtain ⟨f', hf1, hf2⟩ := HNXT.out
              exact ⟨st.nx k, f', m + 1, done ++ [k], A', c', hmn, rfl, rfl, Lib.hid (by rw [List.length_append, hdl.out]; rfl), Lib.hid hf2, Lib.hid (by rw [List.map_append]; exact hown5), Lib.hid (HBQ.out.trans hb5)⟩
            case measure => simp [sliceLen]; omega
      · have HNEG := Lib.hid hneg
        go_wp2_with fail
        go_roundw
        case rel => exact ⟨t + 1, k2, A4, c4, vs, by omega, by omega, by go_num, rfl, Lib.hid (by rw [HHS.out, if_neg HNEG.out, List.append_nil]; exact hlen.out), hown, Lib.hid (by rw [HCS.out, if_neg HNEG.out, List.append_nil]; exact hrows.out), hbw⟩
        case measure => simp [intOf]; omega
    · obtain rfl : t = n := by omega
      have hl2 := hlen.out
      have HOW := Lib.hid (own_base hown.out hsz2)
      have HRW := Lib.hid (chRows_base hrows.out hsz2)
      have HBE := Lib.hid (below_then HB2.out hbw.out)
      clear hown hrows hbw
      go_wp2_with fail
      go_ret2
      subst hl2
      exact ⟨st, A4, c4, vs, HRUN.out, rfl, HOW.out, HRW.out, HBE.out⟩
end Go.Proofs.YtonmkmghpiagjaaDoor
