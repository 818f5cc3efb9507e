/- Contracts: find and pair of package chain. Rows are good; the table of math/bits lies. -/
import Derived.Test.YtonmkmghpiagjaaDoorPairPlain
import Derived.Test.YtonmkmghpiagjaaDoorOrd
namespace Go.Proofs.YtonmkmghpiagjaaDoor
open Go.RowKit

/-- The pairing as it lies in memory. -/
structure PMem (w : World) (P G1 G2 : Nat) (A : Option Addr) (n c : Nat) (st : PSt) : Prop where
  rows : w.cell? ⟨P, 0, none⟩ = some (.slice A n c)
  next : w.cell? ⟨P, 1, none⟩ = some (.slice (some ⟨G1, 0, none⟩) n n)
  ahead : w.cell? ⟨P, 2, none⟩ = some (.slice (some ⟨G2, 0, none⟩) n n)
  seen : w.cell? ⟨P, 3, none⟩ = some (.int .u64 (st.seen : Nat))
  nx : ∀ j : Nat, j < n → w.cell? ⟨G1, j, none⟩ = some (.int .i64 (st.nx j))
  ah : ∀ j : Nat, j < n → w.cell? ⟨G2, j, none⟩ = some (.int .i64 (st.ah j))
  fP : ∀ o, w.frozen? ⟨P, o, none⟩ = false
  f1 : ∀ o, w.frozen? ⟨G1, o, none⟩ = false
  f2 : ∀ o, w.frozen? ⟨G2, o, none⟩ = false
  n1 : P ≠ G1
  n2 : P ≠ G2
  n3 : G1 ≠ G2
theorem addr_ne {b b' o o' : Nat} (h : b ≠ b') : (⟨b, o, none⟩ : Addr) ≠ ⟨b', o', none⟩ := fun e => h (by injection e)
theorem addr_ne' {b o o' : Nat} (h : o ≠ o') : (⟨b, o, none⟩ : Addr) ≠ ⟨b, o', none⟩ := fun e => h (by injection e)
theorem cell_other {w : World} {a b : Addr} {v : Value} (h : a ≠ b) : (w.setCell a v).cell? b = w.cell? b := by
  exact World.cell?_setCell_other _ _ _ _ h
theorem cell_same {w : World} {a : Addr} {u v : Value} (h : w.cell? a = some u) : (w.setCell a v).cell? a = some v := by
  exact World.cell?_setCell_same _ _ _ h
theorem PMem.setSeen {w : World} {P G1 G2 : Nat} {A : Option Addr} {n c : Nat} {st : PSt} (h : PMem w P G1 G2 A n c st) (s : Nat) :
    PMem (w.setCell ⟨P, 3, none⟩ (.int .u64 (s : Nat))) P G1 G2 A n c ⟨st.nx, st.ah, s⟩ where
  rows := by rw [cell_other (addr_ne' (by decide))]; exact h.rows
  next := by rw [cell_other (addr_ne' (by decide))]; exact h.next
  ahead := by rw [cell_other (addr_ne' (by decide))]; exact h.ahead
  seen := cell_same h.seen
  nx := fun j hj => by rw [cell_other (addr_ne h.n1)]; exact h.nx j hj
  ah := fun j hj => by rw [cell_other (addr_ne h.n2)]; exact h.ah j hj
  fP := fun o => by rw [World.frozen?_setCell]; exact h.fP o
  f1 := fun o => by rw [World.frozen?_setCell]; exact h.f1 o
  f2 := fun o => by rw [World.frozen?_setCell]; exact h.f2 o
  n1 := h.n1
  n2 := h.n2
  n3 := h.n3
theorem PMem.setNx {w : World} {P G1 G2 : Nat} {A : Option Addr} {n c : Nat} {st : PSt} (h : PMem w P G1 G2 A n c st) {i : Nat} (hi : i < n) (v : Int) :
    PMem (w.setCell ⟨G1, i, none⟩ (.int .i64 v)) P G1 G2 A n c ⟨setF st.nx i v, st.ah, st.seen⟩ where
  rows := by rw [cell_other (addr_ne (fun e => h.n1 e.symm))]; exact h.rows
  next := by rw [cell_other (addr_ne (fun e => h.n1 e.symm))]; exact h.next
  ahead := by rw [cell_other (addr_ne (fun e => h.n1 e.symm))]; exact h.ahead
  seen := by rw [cell_other (addr_ne (fun e => h.n1 e.symm))]; exact h.seen
  nx := fun j hj => by
    by_cases hji : j = i
    · subst hji
      rw [cell_same (h.nx j hj)]
      show _ = some (Value.int .i64 (setF st.nx j v j))
      rw [setF_self]
    · rw [cell_other (addr_ne' (fun e => hji e.symm))]
      show _ = some (Value.int .i64 (setF st.nx i v j))
      rw [setF_other hji]; exact h.nx j hj
  ah := fun j hj => by rw [cell_other (addr_ne h.n3)]; exact h.ah j hj
  fP := fun o => by rw [World.frozen?_setCell]; exact h.fP o
  f1 := fun o => by rw [World.frozen?_setCell]; exact h.f1 o
  f2 := fun o => by rw [World.frozen?_setCell]; exact h.f2 o
  n1 := h.n1
  n2 := h.n2
  n3 := h.n3
theorem PMem.setAh {w : World} {P G1 G2 : Nat} {A : Option Addr} {n c : Nat} {st : PSt} (h : PMem w P G1 G2 A n c st) {i : Nat} (hi : i < n) (v : Int) :
    PMem (w.setCell ⟨G2, i, none⟩ (.int .i64 v)) P G1 G2 A n c ⟨st.nx, setF st.ah i v, st.seen⟩ where
  rows := by rw [cell_other (addr_ne (fun e => h.n2 e.symm))]; exact h.rows
  next := by rw [cell_other (addr_ne (fun e => h.n2 e.symm))]; exact h.next
  ahead := by rw [cell_other (addr_ne (fun e => h.n2 e.symm))]; exact h.ahead
  seen := by rw [cell_other (addr_ne (fun e => h.n2 e.symm))]; exact h.seen
  nx := fun j hj => by rw [cell_other (addr_ne (fun e => h.n3 e.symm))]; exact h.nx j hj
  ah := fun j hj => by
    by_cases hji : j = i
    · subst hji
      rw [cell_same (h.ah j hj)]
      show _ = some (Value.int .i64 (setF st.ah j v j))
      rw [setF_self]
    · rw [cell_other (addr_ne' (fun e => hji e.symm))]
      show _ = some (Value.int .i64 (setF st.ah i v j))
      rw [setF_other hji]; exact h.ah j hj
  fP := fun o => by rw [World.frozen?_setCell]; exact h.fP o
  f1 := fun o => by rw [World.frozen?_setCell]; exact h.f1 o
  f2 := fun o => by rw [World.frozen?_setCell]; exact h.f2 o
  n1 := h.n1
  n2 := h.n2
  n3 := h.n3
theorem PMem.drewN {w : World} {P G1 G2 : Nat} {A : Option Addr} {n c : Nat} {st : PSt} (h : PMem w P G1 G2 A n c st) (m : Nat) : PMem (w.drewN m) P G1 G2 A n c st :=
  ⟨h.rows, h.next, h.ahead, h.seen, h.nx, h.ah, h.fP, h.f1, h.f2, h.n1, h.n2, h.n3⟩

theorem PMem.drew {w : World} {P G1 G2 : Nat} {A : Option Addr} {n c : Nat} {st : PSt} (h : PMem w P G1 G2 A n c st) : PMem w.drew P G1 G2 A n c st :=
  ⟨h.rows, h.next, h.ahead, h.seen, h.nx, h.ah, h.fP, h.f1, h.f2, h.n1, h.n2, h.n3⟩

theorem below_drew {B : Nat} {a w : World} (h : Below B a w) : Below B a w.drew := ⟨h.os, h.tape, h.output, h.size, h.block⟩
/-- How many numbers a set has, as a value. -/
def setLen : Value → Nat
  | .int _ x => (nums x.toNat).length
  | _ => 0
/-- How many of n have not been seen. -/
def unseen (n s : Nat) : Nat := (nums (minus (upTo n) s)).length
theorem unseen_add {n s k : Nat} (hn : n ≤ 64) (hs : B64 s) (hk : k < n) (h : s.testBit k = false) : unseen n s = unseen n (addN s k) + 1 := by
  unfold unseen nums
  have hb : B64 (addN s k) := addN_b64 hs (by omega)
  refine count_one (i := k) ?_ ?_ (fun j hj => ?_) (List.range 64) (List.mem_range.2 (by omega)) List.nodup_range
  · rw [minus_bit (upTo_b64 hn) hs, upTo_bit, h]; simp [hk]
  · rw [minus_bit (upTo_b64 hn) hb, addN_bit]; simp
  · rw [minus_bit (upTo_b64 hn) hs, minus_bit (upTo_b64 hn) hb, addN_bit]
    have hj' : ¬ k = j := fun e => hj e.symm
    simp [hj']
theorem toSee_less {R : List Nat} (hg : Good R) {i s t k : Nat} (hs : B64 s) (ht : B64 t) (hst : ∀ q, s.testBit q = true → t.testBit q = true) (h1 : (rowAt R i).testBit k = true) (h2 : s.testBit k = false) (h3 : t.testBit k = true) :
    (nums (toSee R i t)).length < (nums (toSee R i s)).length := by
  have hb : B64 (toSee R i s) := minus_b64 (hg.b64 i)
  have hk : (toSee R i s).testBit k = true := by unfold toSee; rw [minus_bit (hg.b64 i) hs, h1, h2]; rfl
  rw [drop_len hb hk]
  refine Nat.lt_succ_of_le (nums_sub fun q hq => ?_)
  unfold toSee at hq
  rw [minus_bit (hg.b64 i) ht] at hq
  simp only [Bool.and_eq_true, Bool.not_eq_true'] at hq
  rw [drop_bit hb (hb.bit hk)]
  unfold toSee
  rw [minus_bit (hg.b64 i) hs, hq.1]
  have hqk : q ≠ k := fun e => by subst e; rw [h3] at hq; cases hq.2
  have hsq : s.testBit q = false := by
    cases hsq : s.testBit q with
    | false => rfl
    | true => rw [hst q hsq] at hq; cases hq.2
  simp [hqk, hsq]
/-- What find leaves. -/
def FindEnd (W0 : World) (R : List Nat) (P G1 G2 : Nat) (A : Option Addr) (n c i : Nat) (st : PSt) (e : Ending) (w' : World) : Prop :=
  ∃ b st', e = .returned (.bool b) ∧ Find R i st b st' ∧ PMem w' P G1 G2 A n c st' ∧ Below W0.heap.size W0 w'
set_option maxHeartbeats 1000000 in
theorem find_any {A : Option Addr} {n c : Nat} (R : List Nat) (W0 : World) (P G1 G2 : Nat) (hR : Rd W0 A (R.map uv)) (hl : R.length = n) (hg : Good R) (hT : Tab W0) (hP : W0.heap.size ≤ P) (hG1 : W0.heap.size ≤ G1) (hG2 : W0.heap.size ≤ G2) :
    ∀ (q i : Nat) (st : PSt) (w : World), unseen n st.seen ≤ q → i < n → (∀ k, st.seen.testBit k = true → k < n) → PInv R n st.nx st.ah (-1) → Calm st.nx st.seen i →
      PMem w P G1 G2 A n c st → Below W0.heap.size W0 w →
      Calls Tryd.prog 108 #[.pointer (some ⟨P, 0, none⟩), .int .i64 (i : Nat)] w (FindEnd W0 R P G1 G2 A n c i st) := by
  have hn : n ≤ 64 := by have := hg.1; omega
  have H1 := Lib.hid hR
  have HL := Lib.hid hl
  have HG := Lib.hid hg
  have HT := Lib.hid hT
  clear hR hl hg hT
  intro q
  induction q using Nat.strongRecOn with
  | _ q ih =>
    intro i st w hq hi hs hp hc hm hb
    have IH := Lib.hid ih
    have HS := Lib.hid hs
    have HP := Lib.hid hp
    have HC := Lib.hid hc
    have HM := Lib.hid hm
    have HB := Lib.hid hb
    have HQ := Lib.hid hq
    have HSB : Hid (B64 st.seen) := Lib.hid (B64.of_bits fun j hj => Nat.lt_of_lt_of_le (hs j hj) hn)
    have x0 := hm.rows
    have x3 := hm.seen
    obtain ⟨b1, o1, rfl, x5⟩ := (H1.out.below hb).set (k := i) (by rw [HL.out]; exact hi)
    have e1 := minus_raw (rowAt R i) st.seen (HG.out.b64 i) HSB.out
    clear ih hs hp hc hm hb hq
    go_enter Tryd.func108, Tryd.ntmps108
    go_wp2
    go_quiet (fail)
    go_wp2
    clear x0 x3 x5
    go_loopw [5, 6, 7] (fun s _ _ wr => ∃ st1 : PSt, s = .int .u64 (toSee R i st1.seen : Nat) ∧ Hid (PMem wr P G1 G2 (some ⟨b1, o1, none⟩) n c st1) ∧ Hid (∀ b st', Find R i st1 b st' → Find R i st b st') ∧ Hid (∀ k, st1.seen.testBit k = true → k < n) ∧ Hid (PInv R n st1.nx st1.ah (-1)) ∧ Hid (Calm st1.nx st1.seen i) ∧ Hid (unseen n st1.seen ≤ q) ∧ Hid (Below W0.heap.size W0 wr)) (fun s _ _ _ => setLen s)
    case atStart => exact ⟨st, rfl, Lib.hid (HM.out.drewN _), Lib.hid (fun b st' h => h), HS, HP, HC, HQ, Lib.hid (below_drewN HB.out _)⟩
    case round =>
      clear HM HS HP HC HQ HB HSB
      obtain ⟨st1, rfl, hm, hf, hs, hp, hc, hq, hb⟩ := hrel
      have HSB : Hid (B64 st1.seen) := Lib.hid (B64.of_bits fun j hj => Nat.lt_of_lt_of_le (hs.out j hj) hn)
      by_cases h0 : toSee R i st1.seen = 0
      · have HF := Lib.hid (hf.out false st1 (Find.done h0))
        have h0' : (((toSee R i st1.seen : Nat) : Int) != 0) = false := by simp [h0]
        clear h0
        go_wp2
        go_ret
        exact ⟨false, st1, rfl, HF.out, hm.out, hb.out⟩
      · have h0' : (((toSee R i st1.seen : Nat) : Int) != 0) = true := by simp; omega
        have HTB : Hid (B64 (toSee R i st1.seen)) := Lib.hid (minus_b64 (HG.out.b64 i))
        have HLOW := Lib.hid (toSee_low HG.out HSB.out h0)
        have hkn : low (toSee R i st1.seen) < n := by rw [← HL.out]; exact HLOW.out.2.2
        have HFZ : Hid (fromS (toSee R i st1.seen) 0 = toSee R i st1.seen) := Lib.hid (fromS_zero HTB.out)
        have HNZ := Lib.hid h0
        have x3 := hm.out.seen
        clear h0
        go_wp2_with fail
        refine (next_yes _ 0 HTB.out (by rw [HFZ.out]; exact HNZ.out) _ ((HT.out.below hb.out))).mono ?_
        rintro e w' ⟨rfl, rfl⟩
        rw [HFZ.out]
        have HFREE := Lib.hid (fun h1 => hf.out _ _ (Find.free HNZ.out h1))
        have HVIA := Lib.hid (fun (j : Nat) (st2 : PSt) h1 h2 => hf.out _ _ (Find.via (j := j) (st1 := st2) HNZ.out h1 h2))
        have HSKIP := Lib.hid (fun (j : Nat) (st2 st3 : PSt) (b : Bool) h1 h2 h3 => hf.out _ _ (Find.skip (j := j) (st1 := st2) (st2 := st3) (b := b) HNZ.out h1 h2 h3))
        generalize hk : low (toSee R i st1.seen) = k at *
        have e2 := or_raw st1.seen k HSB.out (by omega)
        have HUN := Lib.hid (unseen_add hn HSB.out hkn HLOW.out.2.1)
        have HM2 := Lib.hid (hm.out.setSeen (addN st1.seen k))
        have f3 := hm.out.fP 3
        have y2 := HM2.out.ahead
        have y3 := HM2.out.ah k hkn
        clear hk
        by_cases hneg : st1.ah k < 0
        · have HEND := Lib.hid (HFREE.out hneg)
          have y1 := HM2.out.next
          have HM3 := Lib.hid (HM2.out.setNx hi (k : Nat))
          have HM4 := Lib.hid (HM3.out.setAh hkn (i : Nat))
          have z1 := HM2.out.nx i hi
          have z2 := HM3.out.ah k hkn
          have z3 := HM2.out.f1 i
          have z4 := HM3.out.f2 k
          have y3' : (wr.setCell ⟨P, 3, none⟩ (.int .u64 (addN st1.seen k : Nat))).cell? ⟨G2, k, none⟩ = some (.int .i64 (st1.ah k)) := y3
          go_wp2_with fail
          go_region
          go_wp2_with fail
          go_region
          go_wp2_with fail
          go_ret
          have hb2 := ((hb.out.setCell (p := ⟨P, 3, none⟩) hP (.int .u64 (addN st1.seen k : Nat))).setCell (p := ⟨G1, i, none⟩) hG1 (.int .i64 (k : Nat))).setCell (p := ⟨G2, k, none⟩) hG2 (.int .i64 (i : Nat))
          exact ⟨true, _, rfl, HEND.out, HM4.out.drew.drew, below_drew (below_drew hb2)⟩
        · obtain ⟨j, hj⟩ : ∃ j : Nat, st1.ah k = (j : Int) := ⟨(st1.ah k).toNat, by omega⟩
          have HJ := Lib.hid hj
          have HAH := Lib.hid (hp.out.ah_ok k j hkn hj)
          have hjn : j < n := HAH.out.1
          have hjneg : ¬ ((j : Int) < 0) := by omega
          rw [hj] at y3
          have HADD : Hid (∀ q, (addN st1.seen k).testBit q = true → q < n) := Lib.hid (fun q hq => by
            rw [addN_bit] at hq
            simp only [Bool.or_eq_true, decide_eq_true_eq] at hq
            rcases hq with h | h
            · exact hs.out q h
            · omega)
          have HCJ : Hid (Calm st1.nx (addN st1.seen k) j) := Lib.hid (fun q hq => by
            have h2 : st1.nx j = (k : Int) := by
              rcases HAH.out.2 with a | a
              · exact a
              · omega
            have : q = k := by omega
            subst this
            rw [addN_bit]; simp)
          have HBW := Lib.hid (hb.out.setCell (p := ⟨P, 3, none⟩) hP (.int .u64 (addN st1.seen k : Nat)))
          have hfuel : unseen n (addN st1.seen k) < q := by have := hq.out; have := HUN.out; omega
          clear hj hneg
          go_wp2_with fail
          go_region
          go_wp2_with fail
          refine (IH.out _ hfuel j ⟨st1.nx, st1.ah, addN st1.seen k⟩ _ (Nat.le_refl _) hjn HADD.out hp.out HCJ.out HM2.out.drew (below_drew HBW.out)).mono ?_
          rintro e w2 ⟨b, st2, rfl, hfj, hm2, hb2⟩
          have HB2 := Lib.hid hb2
          have HM5 := Lib.hid hm2
          have HFJ := Lib.hid hfj
          clear hb2 y2 y3 x3 f3
          cases b with
          | true =>
            have HEND := Lib.hid (HVIA.out j st2 HJ.out hfj)
            have y1 := hm2.next
            have y2 := hm2.ahead
            have HM3 := Lib.hid (hm2.setNx hi (k : Nat))
            have HM4 := Lib.hid (HM3.out.setAh hkn (i : Nat))
            have z1 := hm2.nx i hi
            have z2 := HM3.out.ah k hkn
            have z3 := hm2.f1 i
            have z4 := HM3.out.f2 k
            have HBE := Lib.hid ((HB2.out.setCell (p := ⟨G1, i, none⟩) hG1 (.int .i64 (k : Nat))).setCell (p := ⟨G2, k, none⟩) hG2 (.int .i64 (i : Nat)))
            clear hm2 hfj
            go_wp2_with fail
            go_region
            go_wp2_with fail
            go_ret
            exact ⟨true, _, rfl, HEND.out, HM4.out.drew, below_drew HBE.out⟩
          | false =>
            have hfp := find_post HG.out hfj (by rw [HL.out]; exact hjn) (by rw [HL.out]; exact HADD.out) (by rw [HL.out]; exact hp.out) HCJ.out
            have HNX : Hid (st2.nx = st1.nx) := Lib.hid (hfp.no rfl).1
            have HAH2 : Hid (st2.ah = st1.ah) := Lib.hid (hfp.no rfl).2.1
            have HGR : Hid (∀ q, (addN st1.seen k).testBit q = true → st2.seen.testBit q = true) := Lib.hid hfp.grows
            have HIN : Hid (∀ q, st2.seen.testBit q = true → q < n) := Lib.hid (by rw [← HL.out]; exact hfp.inside)
            have HUP : Hid (∀ q, st1.seen.testBit q = true → st2.seen.testBit q = true) := Lib.hid (fun q hq => HGR.out q (by rw [addN_bit, hq]; rfl))
            have HS2 : Hid (B64 st2.seen) := Lib.hid (B64.of_bits fun j hj => Nat.lt_of_lt_of_le (HIN.out j hj) hn)
            have HLESS := Lib.hid (toSee_less (t := st2.seen) HG.out HSB.out HS2.out HUP.out HLOW.out.1 HLOW.out.2.1 (HGR.out k (by rw [addN_bit]; simp)))
            have HUL : Hid (unseen n st2.seen ≤ q) := Lib.hid (by
              have : unseen n st2.seen ≤ unseen n st1.seen := nums_sub fun x hx => by
                rw [minus_bit (upTo_b64 hn) HS2.out, Bool.and_eq_true] at hx
                rw [minus_bit (upTo_b64 hn) HSB.out, hx.1]
                cases h : st1.seen.testBit x with
                | false => rfl
                | true => rw [HUP.out x h] at hx; cases hx.2
              have := hq.out
              omega)
            have HCALM : Hid (Calm st2.nx st2.seen i) := Lib.hid (fun x hx => HUP.out x (hc.out x (by rw [← HNX.out]; exact hx)))
            have HPI : Hid (PInv R n st2.nx st2.ah (-1)) := Lib.hid (by rw [HNX.out, HAH2.out]; exact hp.out)
            have e3 := minus_raw (rowAt R i) st2.seen (HG.out.b64 i) HS2.out
            have y0 := hm2.rows
            have y3 := hm2.seen
            obtain ⟨b3, o3, he, x5⟩ := (H1.out.below HB2.out).set (k := i) (by rw [HL.out]; exact hi)
            cases he
            clear hm2 hfj hfp
            go_wp2_with fail
            go_quiet (fail)
            go_wp2
            go_roundw
            case rel => exact ⟨st2, rfl, Lib.hid (HM5.out.drewN _), Lib.hid (fun b st' h => HSKIP.out j st2 st' b HJ.out HFJ.out h), HIN, HPI, HCALM, HUL, Lib.hid (below_drewN HB2.out _)⟩
            case measure => exact HLESS.out
end Go.Proofs.YtonmkmghpiagjaaDoor
