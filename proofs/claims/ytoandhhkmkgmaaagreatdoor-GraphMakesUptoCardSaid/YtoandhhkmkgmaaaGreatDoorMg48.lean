/- Contract: the reference's MacroFault. Values of at most 2^20 bytes. -/
import Derived.Test.YtoandhhkmkgmaaaGreatDoorMg26
import Derived.Test.YtoandhhkmkgmaaaGreatDoorMg2
import Derived.Test.YtoandhhkmkgmaaaGreatDoorMg41
import Derived.Deep.RegionHeld3
namespace Go.Proofs.YtoandhhkmkgmaaaGreatDoor
open Go.RowKit

theorem own_capM {w : World} {B : Nat} {e : TypeId} {sz : Nat} {A : Option Addr} {n c : Nat} {xs : List Value} (h : w.ownsRow B e sz (.slice A n c) n xs) : n ≤ c := by
 rcases h.2 with ⟨hv, h0⟩ | ⟨g, cap, cur, hv, _, _, hc, _⟩
 ·injection hv with _ h1 h2
  omega
 ·injection hv with _ _ h2
  omega
/-- A row: the numbers of names. -/
def rowOfM (N us : List (List UInt8)) : Nat := us.foldl (fun s u => addN s (placeOf N u).toNat) 0
theorem rowOfM_snoc (N us : List (List UInt8)) (u : List UInt8) : rowOfM N (us ++ [u]) = addN (rowOfM N us) (placeOf N u).toNat := by unfold rowOfM; rw [List.foldl_append]; rfl
theorem rowF_bit (N : List (List UInt8)) (k : Nat) : ∀ (us : List (List UInt8)) (s : Nat), (us.foldl (fun s u => addN s (placeOf N u).toNat) s).testBit k = true ↔ s.testBit k = true ∨ ∃ u ∈ us, (placeOf N u).toNat = k
 | [], s => by simp
 | u :: us, s => by
   rw [List.foldl_cons, rowF_bit N k us]
   unfold addN
   rw [or_bit]
   simp only [Bool.or_eq_true, decide_eq_true_eq, List.mem_cons, exists_eq_or_imp]
   rw [or_assoc]
theorem rowOfM_bit (N us : List (List UInt8)) (k : Nat) : (rowOfM N us).testBit k = true ↔ ∃ u ∈ us, (placeOf N u).toNat = k := by
 unfold rowOfM
 rw [rowF_bit]
 simp
theorem rowOfM_b64 {N us : List (List UInt8)} (hN : N.length ≤ 64) (h : ∀ u ∈ us, u ∈ N) : B64 (rowOfM N us) := B64.of_bits fun k hk => by
 obtain ⟨u, hu, hk⟩ := (rowOfM_bit N us k).1 hk
 obtain ⟨j, h1, h2⟩ := placeOf_in (h u hu)
 have := (List.getElem?_eq_some_iff.1 h2).1
 rw [h1] at hk
 omega
/-- The rows, of which q are whole, and p in the one behind. -/
structure RowsAtM (l : List MacT) (q p : Nat) (rr : List Nat) : Prop where
 len : rr.length = l.length
 done : ∀ i n v, i < q → l[i]? = some (n, v) → rowAt rr i = rowOfM (namesL l) (usesOf v)
 cur : q < l.length → rowAt rr q = p
 rest : ∀ i, q < i → rowAt rr i = 0
theorem mRowAt_set {rr : List Nat} {q : Nat} (hq : q < rr.length) (x i : Nat) : rowAt (rr.set q x) i = if i = q then x else rowAt rr i := by
 unfold rowAt
 by_cases h : i = q
 ·subst h
  rw [if_pos rfl, List.getElem?_set_self hq]
  rfl
 ·rw [if_neg h, List.getElem?_set_ne (fun e => h e.symm)]
theorem RowsAtM.start (l : List MacT) : RowsAtM l 0 0 (List.replicate l.length 0) := by
 have h0 : ∀ i, rowAt (List.replicate l.length 0) i = 0 := fun i => by
  unfold rowAt
  rw [List.getElem?_replicate]
  split <;> rfl
 exact ⟨by simp, fun i _ _ h _ => absurd h (Nat.not_lt_zero _), fun _ => h0 0, fun i _ => h0 i⟩
theorem RowsAtM.put {l : List MacT} {q p : Nat} {rr : List Nat} (h : RowsAtM l q p rr) (hq : q < l.length) (x : Nat) : RowsAtM l q x (rr.set q x) := by
 have hl : q < rr.length := by rw [h.len]; exact hq
 refine ⟨by rw [List.length_set]; exact h.len, fun i n v hi hm => ?_, fun _ => ?_, fun i hi => ?_⟩
 ·rw [mRowAt_set hl, if_neg (by omega)]; exact h.done i n v hi hm
 ·rw [mRowAt_set hl, if_pos rfl]
 ·rw [mRowAt_set hl, if_neg (by omega)]; exact h.rest i hi
theorem RowsAtM.next {l : List MacT} {q : Nat} {n v : List UInt8} {rr : List Nat} (h : RowsAtM l q (rowOfM (namesL l) (usesOf v)) rr) (hq : l[q]? = some (n, v)) : RowsAtM l (q + 1) 0 rr := by
 refine ⟨h.len, fun i n' v' hi hm => ?_, fun _ => h.rest _ (by omega), fun i hi => h.rest i (by omega)⟩
 rcases Nat.lt_or_ge i q with h1 | h1
 ·exact h.done i n' v' h1 hm
 ·obtain rfl : i = q := by omega
  rw [hq] at hm
  injection hm with hm
  injection hm with _ hm
  rw [← hm]
  exact h.cur (List.getElem?_eq_some_iff.1 hq).1
theorem RowsAtM.rows {l : List MacT} {p : Nat} {rr : List Nat} (h : RowsAtM l l.length p rr) (hn : (namesL l).Nodup) (hin : ∀ x ∈ l, ∀ u ∈ usesOf x.2, u ∈ namesL l) : RowsM l rr := by
 refine ⟨h.len, fun i n v hm k => ?_⟩
 rw [h.done i n v (List.getElem?_eq_some_iff.1 hm).1 hm, rowOfM_bit]
 constructor
 ·rintro ⟨u, hu, hk⟩
  obtain ⟨j, h1, h2⟩ := placeOf_in (hin _ (List.mem_of_getElem? hm) u hu)
  rw [h1] at hk
  have : j = k := by omega
  subst this
  exact ⟨u, h2, hu⟩
 ·rintro ⟨u, hk, hu⟩
  obtain ⟨j, h1, h2⟩ := placeOf_in (List.mem_of_getElem? hk)
  refine ⟨u, hu, ?_⟩
  rw [h1]
  have := names_once hn h2 hk
  omega
theorem names_take (l : List MacT) (q : Nat) : (namesL l).take q = namesL (l.take q) := by unfold namesL; rw [List.map_take]
theorem rd_ownM {w : World} {B : Nat} {e : TypeId} {size : Nat} {A : Option Addr} {n c : Nat} {xs : List Value} (h : w.ownsRow B e size (.slice A n c) n xs) : Rd w A xs := rd_of_ownK h
theorem Rd.but {E : Nat → Prop} {w w' : World} {A : Option Addr} {xs : List Value} (h : Rd w A xs) (hb : ButE E w w') (hne : ∀ g o f, A = some ⟨g, o, f⟩ → 0 < xs.length → ¬ E g) : Rd w' A xs := fun hn => by
 obtain ⟨b, off, h1, h2, h3⟩ := h hn
 refine ⟨b, off, h1, Nat.lt_of_lt_of_le h2 hb.size, fun j u hj => ?_⟩
 have h4 := h3 j u hj
 unfold World.cell? at h4 ⊢
 rw [hb.block b h2 (hne b off none h1 hn)]
 exact h4
theorem own_farM {w : World} {B : Nat} {e : TypeId} {sz : Nat} {A : Option Addr} {n c : Nat} {xs : List Value} (h : w.ownsRow B e sz (.slice A n c) n xs) : ∀ g o f, A = some ⟨g, o, f⟩ → B ≤ g := fun g o f hA => by
 subst hA
 exact (h.lt g rfl).1
theorem zeros_rows (n : Nat) : List.replicate n (Value.int .u64 0) = (List.replicate n 0).map uv := by rw [List.map_replicate]; rfl
set_option maxRecDepth 100000 in
set_option maxHeartbeats 8000000 in
theorem rFault_anyM {A : Option Addr} {n c : Nat} (l : List MacT) (w : World) (hr : Rd w A (macV l)) (hn : l.length = n) (hb : n ≤ 9223372036854775807) (hs : ∀ x ∈ l, x.1.length ≤ 9223372036854775807 ∧ x.2.length ≤ 1048640) :
 Calls Tryz.prog 88 #[.slice A n c] w fun e w' => e = .returned (.int .i64 (macE l : Nat)) ∧ Below w.heap.size w w' := by
 have HR := Lib.hid hr
 have HN := Lib.hid hn
 have HS := Lib.hid hs
 clear hr hn hs
 go_enter Tryz.func88, Tryz.ntmps88
 by_cases hbig : 40 < n
 ·have HE := Lib.hid (macE_big (l := l) (by rw [HN.out]; exact hbig))
  have hb1 : (40 : Int) < (n : Int) := by omega
  clear hbig
  go_wp2_with fail
  go_ret
  exact ⟨by rw [HE.out]; rfl, Below.refl _ _⟩
 ·have HSM := Lib.hid hbig
  have hb1 : ¬ (40 : Int) < (n : Int) := by omega
  have hn40 : n ≤ 40 := by omega
  clear hbig hb
  have HNF := Lib.hid (rNames_any (c := c) l w HR.out HN.out (by omega))
  go_wp2_with fail
  refine HNF.out.mono ?_
  rintro e w1 ⟨A1, c1, rfl, hown1, hb1'⟩
  have hnl : (namesL l).length = n := by rw [names_len]; exact HN.out
  rw [hnl] at hown1
  have HRN := Lib.hid (rd_ownM hown1)
  have hcap := own_capM hown1
  have HB1 := Lib.hid hb1'
  have HNL := Lib.hid hnl
  rw [hnl]
  clear hown1 hb1' HNF hnl
  go_wp2_with fail
  go_loopw [4, 5, 6, 7, 23] (fun _ _ _ _ i wr => ∃ (q : Nat), i = .int .i64 (q : Int) ∧ q ≤ n ∧ Hid (faultF [] (l.take q) = 0) ∧ Hid (Below w1.heap.size w1 wr)) (fun _ _ _ _ i _ => n - (intOf i).toNat)
  case atStart => exact ⟨0, rfl, by omega, Lib.hid rfl, Lib.hid (Below.refl _ _)⟩
  case round =>
   obtain ⟨q, rfl, hq, HF, HB⟩ := hrel
   by_cases hlt : q < n
   ·obtain ⟨x, hx⟩ : ∃ x, l[q]? = some x := ⟨_, List.getElem?_eq_getElem (by rw [HN.out]; exact hlt)⟩
    obtain ⟨b, off, rfl, c0, cv⟩ := ((HR.out.below HB1.out).below HB.out).macs hx
    have HX := Lib.hid hx
    have HXS := Lib.hid (HS.out x (List.mem_of_getElem? hx))
    have hF : ∀ k : Nat, faultM (namesL (l.take q)) x = k → k ≠ 0 → macE l = k := fun k h1 h2 => by
     have hf := faultF_at hx HF.out (by rw [List.nil_append, h1]; exact h2)
     rw [List.nil_append, h1] at hf
     rw [macE_bad (by rw [HN.out]; exact HSM.out) (by rw [hf]; exact h2), hf]
    have HFA := Lib.hid hF
    have HFT := Lib.hid (fun h => faultF_take hx HF.out h)
    obtain ⟨xn, xv⟩ := x
    simp only [] at c0 cv HXS
    obtain ⟨bn, hbn⟩ : ∃ bn, sv xn = .string bn := ⟨_, rfl⟩
    obtain ⟨bv, hbv⟩ : ∃ bv, sv xv = .string bv := ⟨_, rfl⟩
    rw [hbn] at c0
    rw [hbv] at cv
    have HB2 := Lib.hid (HB.out.alloc HB.out.size (.cells #[.string bn, .string bv] 71))
    have HBK := Lib.hid (Blk.new wr #[.string bn, .string bv] 71)
    have yb0 := HBK.out.cell (j := 0) rfl
    have yb1 := HBK.out.cell (j := 1) rfl
    have HCL := Lib.hid (fun W => rCalls_any xv W HXS.out.2)
    rw [hbv] at HCL
    have HGN : Hid (∀ W, Calls Tryz.prog 66 #[.string bn] W fun e' w' => e' = .returned (.bool (goodName xn)) ∧ W = w') := Lib.hid (fun W => by rw [← hbn]; exact goodName_any _ W HXS.out.1)
    have HBN := Lib.hid hbn
    clear hx hF hbn hbv
    go_upto_region 7 with fail
    generalize hw3 : wr.alloc (.cells #[.string bn, .string bv] 71) = w3 at *
    clear hw3
    go_wp2_with fail
    refine (HCL.out w3).mono ?_
    rintro e w4 ⟨hb4, hres⟩
    have HB4 := Lib.hid (HB2.out.trans (hb4.mono HB2.out.size))
    have HBK4 := Lib.hid (HBK.out.below hb4 HBK.out.lt)
    have z0 := HBK4.out.cell (j := 0) rfl
    clear hb4 yb0 yb1
    cases hcr : callsR xv with
    | none =>
      rw [hcr] at hres
      simp only [] at hres
      subst hres
      have HE := Lib.hid (HFA.out 3 (by unfold faultM; rw [if_pos (.inr (calls_none.1 hcr))]) (by decide))
      clear hcr
      go_wp2_with fail
      go_ret
      exact ⟨by rw [HE.out]; rfl, below_then HB1.out (HB4.out)⟩
    | some cs =>
      rw [hcr] at hres
      simp only [] at hres
      obtain ⟨A4, c4, rfl, hown4, _⟩ := hres
      have HP : Hid ((parseM xv).2 = true) := Lib.hid (calls_some hcr).1
      clear hcr hown4
      generalize cs.length = ncs at *
      cases hg : goodName xn with
      | false =>
        have HE := Lib.hid (HFA.out 3 (by unfold faultM; rw [if_pos (.inl hg)]) (by decide))
        rw [hg] at HGN
        clear hg
        go_wp2_with fail
        refine (HGN.out _).mono ?_
        rintro e w5 ⟨rfl, rfl⟩
        go_wp2_with fail
        go_ret
        exact ⟨by rw [HE.out]; rfl, below_then HB1.out HB4.out⟩
      | true =>
        have HG := Lib.hid hg
        rw [hg] at HGN
        clear hg
        have HPL := Lib.hid (fun W (hW : Below w4.heap.size w4 W) => placeF_any (A := A1) (n := q) (c := c1) ((namesL l).take q) xn W (((HRN.out.below (HB4.out)).below hW).takeS q) (by rw [List.length_take, HNL.out]; omega) (by omega))
        rw [HBN.out] at HPL
        rw [names_take] at HPL
        by_cases hin : xn ∈ namesL (l.take q)
        ·have HE := Lib.hid (HFA.out 6 (by unfold faultM inL; rw [if_neg (by rw [HG.out, HP.out]; decide), if_pos (by simpa using hin)]) (by decide))
         obtain ⟨j, hj, _⟩ := placeOf_in hin
         rw [hj] at HPL
         clear hin hj
         have h0q : (0 : Int) ≤ (q : Int) := by omega
         have hqc : (q : Int) ≤ (c1 : Int) := by omega
         have hqn : (q : Int) ≤ (n : Int) := by omega
         go_wp2_with fail
         refine (HGN.out _).mono ?_
         rintro e w5 ⟨rfl, rfl⟩
         go_wp2_with fail
         go_region_held3 (fun W => W.cell? ⟨wr.heap.size, 0, none⟩ = some (.string bn) ∧ Below w4.heap.size w4 W) ((refine ⟨?_, ?_⟩ <;> first | assumption | exact below_drewN (Below.refl _ _) 1 | exact Below.refl _ _)) ((go_at_call 43; refine (HPL.out _ (by first | assumption | exact below_drewN (Below.refl _ _) 1)).mono ?_; rintro e w6 ⟨rfl, rfl⟩))
         go_wp2_with fail
         go_ret
         exact ⟨by rw [HE.out]; rfl, below_then HB1.out (below_drewN HB4.out 1)⟩
        ·have HF1 := Lib.hid (HFT.out (by rw [List.nil_append]; exact faultM_zero.2 ⟨HG.out, HP.out, hin⟩))
         rw [placeOf_out hin] at HPL
         clear hin
         have h0q : (0 : Int) ≤ (q : Int) := by omega
         have hqc : (q : Int) ≤ (c1 : Int) := by omega
         have hqn : (q : Int) ≤ (n : Int) := by omega
         go_wp2_with fail
         refine (HGN.out _).mono ?_
         rintro e w5 ⟨rfl, rfl⟩
         go_wp2_with fail
         go_region_held3 (fun W => W.cell? ⟨wr.heap.size, 0, none⟩ = some (.string bn) ∧ Below w4.heap.size w4 W) ((refine ⟨?_, ?_⟩ <;> first | assumption | exact below_drewN (Below.refl _ _) 1 | exact Below.refl _ _)) ((go_at_call 43; refine (HPL.out _ (by first | assumption | exact below_drewN (Below.refl _ _) 1)).mono ?_; rintro e w6 ⟨rfl, rfl⟩))
         go_wp2_with fail
         exact ⟨⟨q + 1, by go_num, by omega, HF1, Lib.hid (below_drewN HB4.out 1)⟩, by simp [intOf]; omega⟩
   ·obtain rfl : q = n := by omega
    have HF0 : Hid (faultF [] l = 0) := Lib.hid (by have := HF.out; rwa [← HN.out, List.take_length] at this)
    have HND : Hid ((namesL l).Nodup) := Lib.hid (by have := (faultF_zero HF0.out List.nodup_nil).1; rwa [List.nil_append] at this)
    have HOK : Hid (∀ x ∈ l, (parseM x.2).2 = true) := Lib.hid (fun x hx => ((faultF_zero HF0.out List.nodup_nil).2 x hx).2)
    obtain ⟨wz, hwz⟩ : ∃ wz, wz = wr := ⟨_, rfl⟩
    subst hwz
    go_wp2_with (at_make; refine wpList_new elU64 rfl wz _ wz.heap.size q .i64 (by omega) (by omega) (Nat.le_refl _) rfl rfl rfl ?_)
    intro w3 hown3 hb3 hlt3
    rw [zeros_rows] at hown3
    have hst := RowsAtM.start l
    rw [HN.out] at hst
    have HST := Lib.hid hst
    have HO3 := Lib.hid hown3
    have HB3 := Lib.hid hb3
    have HLT3 := Lib.hid hlt3
    have HBZ := Lib.hid (below_then HB1.out HB.out)
    clear hown3 hb3 hlt3 hst
    go_wp2
    go_loopw [9, 10, 11, 12, 14, 15, 55] (fun _ _ _ _ _ _ i wr => ∃ (q2 : Nat) (rr : List Nat), i = .int .i64 (q2 : Int) ∧ q2 ≤ q ∧ Hid (RowsAtM l q2 0 rr) ∧ Hid (wr.ownsRow wz.heap.size 41 1 (.slice (some ⟨wz.heap.size, 0, none⟩) q q) q (rr.map uv)) ∧ Hid (Below wz.heap.size wz wr) ∧ Hid (∀ x ∈ l.take q2, ∀ u ∈ usesOf x.2, u ∈ namesL l)) (fun _ _ _ _ _ _ i _ => q - (intOf i).toNat)
    case atStart => exact ⟨0, _, rfl, by omega, HST, HO3, HB3, Lib.hid (by simp)⟩
    case round =>
     obtain ⟨q2, rr, rfl, hq2, HRR, HO, HBW, HALL⟩ := hrel
     by_cases hlt : q2 < q
     ·obtain ⟨x, hx⟩ : ∃ x, l[q2]? = some x := ⟨_, List.getElem?_eq_getElem (by rw [HN.out]; exact hlt)⟩
      obtain ⟨b, off, rfl, c0, cv⟩ := ((HR.out.below HBZ.out).below HBW.out).macs hx
      have HX := Lib.hid hx
      have HXS := Lib.hid (HS.out x (List.mem_of_getElem? hx))
      have HXP := Lib.hid (HOK.out x (List.mem_of_getElem? hx))
      obtain ⟨xn, xv⟩ := x
      simp only [] at c0 cv HXS HXP
      obtain ⟨bn, hbn⟩ : ∃ bn, sv xn = .string bn := ⟨_, rfl⟩
      obtain ⟨bv, hbv⟩ : ∃ bv, sv xv = .string bv := ⟨_, rfl⟩
      rw [hbn] at c0
      rw [hbv] at cv
      have HB2 := Lib.hid (HBW.out.alloc HBW.out.size (.cells #[.string bn, .string bv] 71))
      have HBK := Lib.hid (Blk.new wr #[.string bn, .string bv] 71)
      have yb1 := HBK.out.cell (j := 1) rfl
      have HO2 := Lib.hid (HO.out.alloc (.cells #[.string bn, .string bv] 71))
      have HCL := Lib.hid (fun W => rCalls_any xv W HXS.out.2)
      rw [hbv] at HCL
      clear hx hbn hbv
      go_upto_region 17 with fail
      generalize hw3 : wr.alloc (.cells #[.string bn, .string bv] 71) = w4 at *
      clear hw3
      go_wp2_with fail
      refine (HCL.out w4).mono ?_
      rintro e w5 ⟨hb5, hres⟩
      obtain ⟨cs, hcr⟩ : ∃ cs, callsR xv = some cs := by
       cases hcr : callsR xv with
       | none => have := calls_none.1 hcr; rw [HXP.out] at this; cases this
       | some cs => exact ⟨cs, rfl⟩
      rw [hcr] at hres
      simp only [] at hres
      obtain ⟨A5, c5, rfl, hown5, hcl⟩ := hres
      have HUS : Hid (usesP cs = usesOf xv) := Lib.hid (uses_same (calls_some hcr).2)
      have HCD := Lib.hid (rCalled_any (c := c5) cs w5 (rd_ownM hown5) rfl (by have := HXS.out.2; omega))
      rw [HUS.out] at HCD
      have HB5 := Lib.hid (HB2.out.trans (hb5.mono HB2.out.size))
      have HO5 := Lib.hid (own_belowK HO2.out hb5)
      clear hb5 hown5 hcl hcr yb1
      generalize cs.length = ncs at *
      go_wp2_with fail
      refine HCD.out.mono ?_
      rintro e w6 ⟨A6, c6, rfl, hown6, hb6⟩
      have HRU := Lib.hid (rd_ownM hown6)
      have HFAR := Lib.hid (own_farM hown6)
      have HB6 := Lib.hid (HB5.out.trans (hb6.mono HB5.out.size))
      have HO6 := Lib.hid (own_belowK HO5.out hb6)
      have HGT : Hid (wz.heap.size < w5.heap.size) := Lib.hid (by have := (HO5.out.lt wz.heap.size rfl).2; exact this)
      have hul : (usesOf xv).length ≤ 2097409 := by have := usesOf_len xv; have := HXS.out.2; omega
      have HUL : Hid ((usesOf xv).length = (usesOf xv).length) := Lib.hid rfl
      have HNX := Lib.hid (fun (rr2 : List Nat) (h : RowsAtM l q2 (rowOfM (namesL l) (usesOf xv)) rr2) => h.next HX.out)
      generalize hus : usesOf xv = us at *
      have HUSE := Lib.hid hus
      clear hown6 hb6 hus HUL
      go_wp2_with fail
      have HBW6 : Hid (ButE (fun k => k = wz.heap.size) w6 w6) := Lib.hid (ButE.refl _ _)
      clear HO HBW HO2 HB2 HO5 HB5
      go_loopw [14, 15, 69] (fun _ _ i wr => ∃ (j : Nat) (rr2 : List Nat), i = .int .i64 (j : Int) ∧ j ≤ us.length ∧ Hid (RowsAtM l q2 (rowOfM (namesL l) (us.take j)) rr2) ∧ Hid (wr.ownsRow wz.heap.size 41 1 (.slice (some ⟨wz.heap.size, 0, none⟩) q q) q (rr2.map uv)) ∧ Hid (ButE (fun k => k = wz.heap.size) w6 wr) ∧ Hid (∀ u ∈ us.take j, u ∈ namesL l)) (fun _ _ i _ => us.length - (intOf i).toNat)
      case atStart => exact ⟨0, rr, rfl, by omega, Lib.hid (by have h := HRR.out; exact h), HO6, HBW6, Lib.hid (by simp)⟩
      case round =>
       obtain ⟨j, rr2, rfl, hj, HR2, HOJ, HBJ, HIJ⟩ := hrel
       have HBWJ := Lib.hid (HB6.out.trans (HBJ.out.below (B := wz.heap.size) (fun k hk => by have : k = wz.heap.size := hk; omega) HB6.out.size))
       have HRNJ := Lib.hid ((HRN.out.below HB.out).below HBWJ.out)
       by_cases hlj : j < us.length
       ·obtain ⟨u, hu⟩ : ∃ u, us[j]? = some u := ⟨_, List.getElem?_eq_getElem hlj⟩
        obtain ⟨b0, o0, rfl, cu⟩ := (HRU.out.but HBJ.out (fun g o f hA _ hg => by have := HFAR.out g o f hA; have := HGT.out; omega)).scell hu
        obtain ⟨bu, hbu⟩ : ∃ bu, sv u = .string bu := ⟨_, rfl⟩
        have cu' : wr.cell? ⟨b0, o0 + j, none⟩ = some (.string bu) := by rw [← hbu]; exact cu
        have HPL := Lib.hid (placeF_any (n := q) (c := c1) (namesL l) u wr HRNJ.out HNL.out (by omega))
        rw [hbu] at HPL
        have HU := Lib.hid hu
        by_cases hin : u ∈ namesL l
        ·obtain ⟨kk, hk1, hk2⟩ := placeOf_in hin
         have hkq : kk < q := by have := (List.getElem?_eq_some_iff.1 hk2).1; rw [HNL.out] at this; exact this
         rw [hk1] at HPL
         have HTK : Hid (rowOfM (namesL l) (us.take (j + 1)) = addN (rowOfM (namesL l) (us.take j)) kk) := Lib.hid (by rw [takeS_M hu, rowOfM_snoc, hk1]; rfl)
         have HLEN : Hid (rr2.length = q) := Lib.hid (by rw [HR2.out.len]; exact HN.out)
         have HCUR : Hid (rowAt rr2 q2 = rowOfM (namesL l) (us.take j)) := Lib.hid (HR2.out.cur (by rw [HN.out]; exact hlt))
         have HB64 : Hid (B64 (rowOfM (namesL l) (us.take j))) := Lib.hid (rowOfM_b64 (by rw [HNL.out]; omega) HIJ.out)
         have hcq : wr.cell? ⟨wz.heap.size, q2, none⟩ = some (.int .u64 (rowOfM (namesL l) (us.take j) : Nat)) := by
          rw [HOJ.out.cellAt q2 (by omega)]
          have h := HCUR.out
          unfold rowAt at h
          rw [List.getElem?_map]
          cases hg : rr2[q2]? with
          | none => have := List.getElem?_eq_none_iff.1 hg; have := HLEN.out; omega
          | some y => rw [hg] at h; simp at h; simp [uv, h]
         have hfq := HOJ.out.frozenAt q2
         have her := or_raw (rowOfM (namesL l) (us.take j)) kk HB64.out (by omega)
         have HPUT := Lib.hid (HR2.out.put (by rw [HN.out]; exact hlt) (addN (rowOfM (namesL l) (us.take j)) kk))
         rw [← HTK.out] at HPUT
         have HROW := Lib.hid (HOJ.out.stored q2 (.int .u64 ((addN (rowOfM (namesL l) (us.take j)) kk : Nat) : Int))).1
         have HBS := Lib.hid (HBJ.out.setCell (p := ⟨wz.heap.size, q2, none⟩) rfl (.int .u64 ((addN (rowOfM (namesL l) (us.take j)) kk : Nat) : Int)))
         have HIN := Lib.hid hin
         rw [HTK.out] at HPUT
         generalize hR : rowOfM (namesL l) (us.take j) = R at *
         clear hin hk1 hk2 hu cu hbu hR HB64
         go_wp2_with fail
         refine HPL.out.mono ?_
         rintro e w7 ⟨rfl, rfl⟩
         go_wp2_with fail
         have HOR : Hid ((wr.setCell ⟨wz.heap.size, q2, none⟩ (.int .u64 ((addN R kk : Nat) : Int))).ownsRow wz.heap.size 41 1 (.slice (some ⟨wz.heap.size, 0, none⟩) q q) q ((rr2.set q2 (addN R kk)).map uv)) := Lib.hid (by
          have := HROW.out
          rw [show (Value.int .u64 ((addN R kk : Nat) : Int)) = uv (addN R kk) from rfl, ← List.map_set] at this
          exact this)
         have HBD : Hid (ButE (fun k => k = wz.heap.size) w6 (wr.setCell ⟨wz.heap.size, q2, none⟩ (.int .u64 ((addN R kk : Nat) : Int))).drew) := Lib.hid ⟨HBS.out.os, HBS.out.tape, HBS.out.output, HBS.out.size, HBS.out.block⟩
         go_region
         go_wp2_with fail
         exact ⟨⟨j + 1, rr2.set q2 (addN R kk), by go_num, by omega, Lib.hid (by rw [HTK.out]; exact HPUT.out), Lib.hid HOR.out, HBD, Lib.hid (fun v hv => by
          rw [takeS_M HU.out] at hv
          rcases List.mem_append.1 hv with hv | hv
          ·exact HIJ.out v hv
          ·rw [List.mem_singleton.1 hv]; exact HIN.out)⟩, by simp [intOf]; omega⟩
        ·have HE : Hid (macE l = 5) := Lib.hid (macE_none (by rw [HN.out]; exact HSM.out) HF0.out (noneL_true (List.mem_of_getElem? HX.out) (u := u) (by rw [HUSE.out]; exact List.mem_of_getElem? HU.out) hin))
         rw [placeOf_out hin] at HPL
         clear hin hu cu hbu
         go_wp2_with fail
         refine HPL.out.mono ?_
         rintro e w7 ⟨rfl, rfl⟩
         go_wp2_with fail
         go_ret
         exact ⟨by rw [HE.out]; rfl, below_then HBZ.out HBWJ.out⟩
       ·obtain rfl : j = us.length := by omega
        have HRN2 := Lib.hid (HNX.out rr2 (by have h := HR2.out; rwa [List.take_length] at h))
        have HALL2 : Hid (∀ x ∈ l.take (q2 + 1), ∀ u ∈ usesOf x.2, u ∈ namesL l) := Lib.hid (fun x hx u hu => by
         rw [takeS_any HX.out] at hx
         rcases List.mem_append.1 hx with hx | hx
         ·exact HALL.out x hx u hu
         ·rw [List.mem_singleton.1 hx] at hu
          simp only [] at hu
          rw [HUSE.out] at hu
          exact HIJ.out u (by rw [List.take_length]; exact hu))
        go_wp2_with fail
        exact ⟨⟨q2 + 1, rr2, by go_num, by omega, HRN2, HOJ, HBWJ, HALL2⟩, by simp [intOf]; omega⟩
     ·obtain rfl : q2 = q := by omega
      have HINN : Hid (∀ x ∈ l, ∀ u ∈ usesOf x.2, u ∈ namesL l) := Lib.hid (fun x hx => HALL.out x (by rw [← HN.out, List.take_length]; exact hx))
      have HNO : Hid (noneL l = false) := Lib.hid (noneL_no HINN.out)
      have HRM : Hid (RowsM l rr) := Lib.hid ((show RowsAtM l l.length 0 rr by have := HRR.out; rwa [← HN.out] at this).rows HND.out HINN.out)
      have HGD := Lib.hid (HRM.out.good (by rw [HN.out]; omega))
      have HRL : Hid (rr.length = q2) := Lib.hid (by rw [HRM.out.len]; exact HN.out)
      have HOD := Lib.hid (rOrdered_any (c := q2) rr wr (rd_ownM HO.out) HRL.out HGD.out)
      have HTO := Lib.hid (tidy_order HRM.out (by rw [HN.out]; omega) HND.out HNO.out)
      have HOLE := Lib.hid (ord_len HGD.out)
      go_wp2_with fail
      refine HOD.out.mono ?_
      rintro e w7 ⟨A7, c7, rfl, _, hb7⟩
      have HB7 := Lib.hid (below_then HBZ.out (HBW.out.trans (hb7.mono HBW.out.size)))
      clear hb7
      generalize (ordL rr).length = ol at *
      by_cases hol : ol < q2
      ·have HE : Hid (macE l = 8) := Lib.hid (macE_cyc (by rw [HN.out]; exact HSM.out) HF0.out HNO.out (fun h => by have := HTO.out.1 h; have := HN.out; omega))
       have hoi : (ol : Int) < (q2 : Int) := by omega
       clear hol
       go_wp2_with fail
       go_ret
       exact ⟨by rw [HE.out]; rfl, HB7.out⟩
      ·have HE : Hid (macE l = 0) := Lib.hid (macE_ok (by rw [HN.out]; exact HSM.out) HF0.out HNO.out (HTO.out.2 (by have := HN.out; have := HOLE.out; have := HRL.out; omega)))
       have hoi : ¬ (ol : Int) < (q2 : Int) := by omega
       clear hol
       go_wp2_with fail
       go_ret
       exact ⟨by rw [HE.out]; rfl, HB7.out⟩
end Go.Proofs.YtoandhhkmkgmaaaGreatDoor
