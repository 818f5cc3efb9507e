/- Contract: the reference's RulesJoined. A slice of rules as it lies; lists and texts below 2^63. -/
import Derived.Test.YtbgcbigplegpmaaDoorRl8
namespace Go.Proofs.YtbgcbigplegpmaaDoor
open Go.RowKit

def JPost (l : List RuleT) (w : World) (e : Ending) (w' : World) : Prop :=
  ∃ A c L, e = .returned (.tuple #[.slice A L.length c, .int .i64 (joinE l : Nat)]) ∧ RsAll A L w' ∧ rulesOf L = joinR l ∧ Below w.heap.size w w'
theorem jPost_no {l : List RuleT} {w w' : World} {v : Int} (h : joinE l ≠ 0) (hv : v = (joinE l : Nat)) (hb : Below w.heap.size w w') : JPost l w (.returned (.tuple #[.slice none 0 0, .int .i64 v])) w' :=
  ⟨none, 0, [], by rw [hv]; rfl, RsAll.nil _ _, by rw [joinR_no h]; rfl, hb⟩
theorem farS_new {w0 : World} {B n c : Nat} {A : Option Addr} {L : List RSlot} (hO : OutInv w0 B A n c L) {x : RSlot} (h1 : ∀ g off, x.1.1 = some ⟨g, off, none⟩ → 0 < (x.2.2.1.map sv).length → w0.heap.size ≤ g ∨ g < B) (h2 : ∀ g off, x.2.1.1 = some ⟨g, off, none⟩ → 0 < (x.2.2.2.map sv).length → w0.heap.size ≤ g ∨ g < B) : farS x (Value.slice A n c).ownBlock := by
  refine ⟨fun g off hA hp e => ?_, fun g off hA hp e => ?_⟩
  · have h3 := hO.own.lt g e.symm
    have := h1 g off hA hp
    omega
  · have h3 := hO.own.lt g e.symm
    have := h2 g off hA hp
    omega
theorem own_ge {w : World} {B n c : Nat} {A : Option Addr} {xs : List Value} {e : TypeId} (h : w.ownsRow B e 1 (.slice A n c) n xs) : ∀ g off, A = some ⟨g, off, none⟩ → B ≤ g := fun g off hA => by
  rcases h.2 with ⟨hv, _⟩ | ⟨g', cap, cur, hv, hg, _⟩
  · injection hv with hv _ _; rw [hA] at hv; cases hv
  · injection hv with hv _ _
    rw [hA] at hv
    injection hv with hv
    injection hv with hv _ _
    omega
theorem rsIn_one {w : World} {b : Nat} {A : Option Addr} {c : Nat} {t : KeyT} {ns : List KeyT} (h1 : Rd w (some ⟨b, 0, none⟩) ([t].map sv)) (h2 : Rd w A (ns.map sv)) (hc : ns.length ≤ c) (ht : t.length ≤ 40) (hn : ∀ s ∈ ns, s.length ≤ 40) (hl : ns.length ≤ 4000) : RsIn ((some ⟨b, 0, none⟩, 1), (A, c), ([t], ns)) w :=
  ⟨h1, h2, rfl, rfl, by simp, by simp only []; omega, Nat.le_refl _, hc, fun s hs => by rw [List.mem_singleton.1 hs]; omega, fun s hs => by have := hn s hs; omega⟩
theorem tgts_good {l : List RuleT} (h : ∀ r ∈ l, rlE r = 0) : ∀ t ∈ tgtsR l, t.length ≤ 40 := fun t ht => by
  unfold tgtsR at ht
  rw [mem_rising] at ht
  obtain ⟨r, hr, htr⟩ := List.mem_flatMap.1 ht
  obtain ⟨_, _, _, g, _, _, _⟩ := rlE_ok (h r hr)
  have := List.all_eq_true.1 g t htr
  unfold goodName at this
  simp at this
  exact this.2.2
theorem needs_good {l : List RuleT} (h : ∀ r ∈ l, rlE r = 0) (t : KeyT) : ∀ s ∈ needsR l t, s.length ≤ 40 :=
  needsR_each (fun r hr x hx => by
    obtain ⟨_, _, _, _, g, _, _⟩ := rlE_ok (h r hr)
    have := List.all_eq_true.1 g x hx
    unfold goodName at this
    simp at this
    exact this.2.2) t
set_option maxRecDepth 100000 in
set_option maxHeartbeats 4000000 in
theorem rJoined_any {A : Option Addr} {n c : Nat} (L : List RSlot) (w : World) (hA : RsAll A L w) (hn : L.length = n) (hb : n ≤ 9223372036854775807) :
    Calls Tryd.prog 8 #[.slice A n c] w (JPost (rulesOf L) w) := by
  have HA := Lib.hid hA
  have HN := Lib.hid hn
  have HRL : Hid ((rulesOf L).length = n) := Lib.hid (by unfold rulesOf; rw [List.length_map, hn])
  clear hA hn
  go_enter Tryd.func8, Tryd.ntmps8
  by_cases h100 : 100 < n
  · have HE : Hid (joinE (rulesOf L) = 2) := Lib.hid (joinE_big (by rw [HRL.out]; exact h100))
    have h1 : (100 : Int) < (n : Int) := by omega
    clear h100
    go_wp2_with fail
    go_ret2
    exact jPost_no (by rw [HE.out]; decide) (by rw [HE.out]; rfl) (Below.refl _ _)
  have h1 : ¬ (100 : Int) < (n : Int) := by omega
  have H100 : Hid (¬ 100 < (rulesOf L).length) := Lib.hid (by rw [HRL.out]; exact h100)
  go_wp2_with fail
  go_loopw [4, 6, 7, 17] (fun v _ _ i wr => ∃ (k : Nat) (A' : Option Addr) (c' : Nat) (zs : List KeyT), i = .int .i64 (k : Int) ∧ k ≤ n ∧ v = .slice A' zs.length c' ∧ zs.length ≤ 20 * k ∧ Hid (zs = ((rulesOf L).take k).flatMap (·.1)) ∧ Hid (∀ q ∈ (rulesOf L).take k, rlE q = 0) ∧ Hid (wr.ownsRow w.heap.size 9 1 (.slice A' zs.length c') zs.length (zs.map sv)) ∧ Hid (Below w.heap.size w wr)) (fun _ _ _ i _ => n - (intOf i).toNat)
  case atStart => exact ⟨0, none, 0, [], rfl, by omega, rfl, by simp, Lib.hid rfl, Lib.hid (by simp), Lib.hid (World.ownsRow_nil _ _ _ _), Lib.hid (Below.refl _ _)⟩
  case round =>
    obtain ⟨k, A', c', zs, rfl, hk, rfl, hzl, HZ, HOK, HO, HB⟩ := hrel
    by_cases hlt : k < n
    · obtain ⟨x, hx⟩ : ∃ x, L[k]? = some x := ⟨_, List.getElem?_eq_getElem (by rw [HN.out]; exact hlt)⟩
      have HX := Lib.hid (HA.out.each x (List.mem_of_getElem? hx))
      have HR := Lib.hid (rulesOf_at hx)
      obtain ⟨b1, o1, rfl, a1, a2⟩ := (HA.out.rd.below HB.out).two hx
      obtain ⟨⟨X1, xc1⟩, ⟨X2, xc2⟩, r⟩ := x
      have hcap : 2 * k = k * 2 := by omega
      rw [hcap] at a1 a2
      unfold RsIn at HX
      simp only [rsT, rsN] at a1 a2 HX HR
      obtain ⟨y, hy⟩ := box_two wr (.slice X1 r.1.length xc1) (.slice X2 r.2.length xc2) 24
      have Y := Lib.hid y
      have HY := Lib.hid (below_newL HB.out hy)
      have HO1 := Lib.hid (own_below HO.out hy)
      have hk1 : (k : Int) < (n : Int) := by omega
      clear hx hcap y hy
      have CF := Lib.hid (rFault_any (wr.alloc (.cells #[.slice X1 r.1.length xc1, .slice X2 r.2.length xc2] 24)) (HX.out.below HY.out))
      unfold rlV at CF
      go_upto_region 7 with fail
      generalize wr.alloc (.cells #[.slice X1 r.1.length xc1, .slice X2 r.2.length xc2] 24) = w1 at *
      obtain ⟨y1, y2⟩ := Y.out
      go_wp2_with fail
      refine CF.out.mono ?_
      rintro e w2 ⟨rfl, hb2⟩
      have HB2 := Lib.hid (below_newL HY.out hb2)
      have HO2 := Lib.hid (own_below HO1.out hb2)
      have HY2 := Lib.hid (Y.out.below hb2)
      clear hb2 y1 y2
      obtain ⟨y1, y2⟩ := HY2.out
      by_cases h0 : rlE r = 0
      · have HOK2 : Hid (∀ q ∈ (rulesOf L).take (k + 1), rlE q = 0) := Lib.hid (fun q hq => by
          rw [take_snocS HR.out] at hq
          rcases List.mem_append.1 hq with hq | hq
          · exact HOK.out q hq
          · rw [List.mem_singleton.1 hq]; exact h0)
        have h20 := (rlE_ok h0).1
        have HZ2 : Hid (zs ++ r.1 = ((rulesOf L).take (k + 1)).flatMap (·.1)) := Lib.hid (by rw [take_snocS HR.out, List.flatMap_append, HZ.out]; simp)
        have HRD := Lib.hid (HX.out.t.below HB2.out)
        have hszq := HB2.out.size
        rw [h0]
        have hm : (r.1.map sv).length = r.1.length := List.length_map _
        have HM := Lib.hid hm
        have HLZ : Hid ((zs ++ r.1).length = zs.length + r.1.length) := Lib.hid List.length_append
        clear h0 hm
        generalize r.1.length = rn at *
        generalize zs.length = zn at *
        go_wp2_with (at_builtin; refine wpList_cat elStr w2 _ _ w.heap.size A' zn c' (zs.map sv) X1 rn xc1 (r.1.map sv) HO2.out HRD.out HM.out (sv_one r.1) hszq (by omega) (by omega) rfl rfl rfl rfl ?_; intro A5 c5 w5 hown5 hb5)
        rw [← List.map_append] at hown5
        have HO5 := Lib.hid hown5
        have HB5 := Lib.hid (HB2.out.trans hb5)
        clear hown5 hb5
        exact ⟨⟨k + 1, A5, c5, zs ++ r.1, rfl, by omega, by rw [HLZ.out], by rw [HLZ.out]; omega, HZ2, HOK2, Lib.hid (by rw [HLZ.out]; exact HO5.out), HB5⟩, measL hlt⟩
      · have HE1 := Lib.hid (firstE_at HR.out HOK.out h0)
        have HE : Hid (joinE (rulesOf L) = rlE r) := Lib.hid (by rw [joinE_bad H100.out (by rw [HE1.out]; exact h0), HE1.out])
        have HE0 := Lib.hid h0
        have hn0 : (((rlE r : Nat) : Int) != 0) = true := by simp; omega
        clear h0
        go_wp2_with fail
        go_ret2
        exact jPost_no (by rw [HE.out]; exact HE0.out) (by rw [HE.out]) HB2.out
    · obtain rfl : k = n := by omega
      have HT : Hid ((rulesOf L).take k = rulesOf L) := Lib.hid (List.take_of_length_le (by rw [HRL.out]; exact Nat.le_refl _))
      rw [HT.out] at HZ HOK
      have HF0 := Lib.hid (firstE_no HOK.out)
      have CR := Lib.hid (rRising_any (c := c') zs wr (Rd.of_own HO.out) rfl (by omega))
      have HTG : Hid (rising zs = tgtsR (rulesOf L)) := Lib.hid (by rw [HZ.out]; rfl)
      unfold RisPost at CR
      rw [HTG.out] at CR
      clear h100
      go_wp2_with fail
      refine CR.out.mono ?_
      rintro e w6 ⟨AT, cT, rfl, hrd, hb6⟩
      have HRT := Lib.hid hrd
      have HB6 := Lib.hid (below_newL HB.out hb6)
      clear hrd hb6
      have HMY := Lib.hid (joinE_many H100.out HF0.out)
      generalize hTT : tgtsR (rulesOf L) = TT at *
      have HTT := Lib.hid hTT
      clear hTT
      by_cases h64 : 64 < TT.length
      · have HE : Hid (joinE (rulesOf L) = 2) := Lib.hid (HMY.out (.inl h64))
        have h2 : (64 : Int) < (TT.length : Int) := by omega
        clear h64
        go_wp2_with fail
        go_ret2
        exact jPost_no (by rw [HE.out]; decide) (by rw [HE.out]; rfl) HB6.out
      have h2 : ¬ (64 : Int) < (TT.length : Int) := by omega
      have H64 := Lib.hid h64
      have ht64 : TT.length ≤ 64 := by omega
      have HTN := Lib.hid (show TT.length = TT.length from rfl)
      clear h64
      go_wp2_with fail
      go_loopw [8, 10, 11, 38] (fun v _ _ i wq => ∃ (j : Nat) (AO : Option Addr) (cO : Nat) (LO : List RSlot), i = .int .i64 (j : Int) ∧ j ≤ TT.length ∧ v = .slice AO j cO ∧ Hid (rulesOf LO = (TT.take j).map fun t => ([t], needsR (rulesOf L) t)) ∧ Hid (∀ t ∈ TT.take j, (needsR (rulesOf L) t).length ≤ 64) ∧ Hid (OutInv wq w6.heap.size AO j cO LO) ∧ Hid (Below w6.heap.size w6 wq)) (fun _ _ _ i _ => TT.length - (intOf i).toNat)
      case atStart => exact ⟨0, none, 0, [], rfl, by omega, rfl, Lib.hid rfl, Lib.hid (by simp), Lib.hid (OutInv.start _ _), Lib.hid (Below.refl _ _)⟩
      case round =>
        obtain ⟨j, AO, cO, LO, rfl, hj, rfl, HRO, HW, HOI, HBQ⟩ := hrel
        by_cases hlt : j < TT.length
        · obtain ⟨t, ht⟩ : ∃ t, TT[j]? = some t := ⟨_, List.getElem?_eq_getElem hlt⟩
          obtain ⟨b3, o3, rfl, ec⟩ := (HRT.out.below HBQ.out).scell ht
          have HTJ := Lib.hid ht
          have HT40 : Hid (t.length ≤ 40) := Lib.hid (tgts_good HOK.out t (by rw [HTT.out]; exact List.mem_of_getElem? ht))
          have HN40 := Lib.hid (needs_good HOK.out t)
          have CN := Lib.hid (needsOf_any (c := c) L t wr (HA.out.below (below_newL HB6.out HBQ.out)) HN.out (by omega) (fun r hr => (rlE_ok (HOK.out r hr)).2.1))
          have HSV : Hid (sv t = .string ⟨t.toArray⟩) := Lib.hid rfl
          have HNL : Hid ((needsR (rulesOf L) t).length ≤ 2000) := Lib.hid (by
            have h := needsR_len (l := rulesOf L) (fun r hr => (rlE_ok (HOK.out r hr)).2.1) t (rulesOf L).length
            rw [List.take_length, HRL.out] at h
            omega)
          have hj1 : (j : Int) < (TT.length : Int) := by omega
          generalize hbt : (⟨t.toArray⟩ : ByteArray) = bt at *
          have HBT := Lib.hid hbt
          unfold NdPost at CN
          clear ht hbt
          go_wp2_with fail
          refine CN.out.mono ?_
          rintro e w7 ⟨AN, cN, rfl, hown7, hb7⟩
          have HB7 := Lib.hid (below_newL HBQ.out hb7)
          have HO7 := Lib.hid hown7
          have HS7 : Hid (wr.heap.size ≤ w7.heap.size) := Lib.hid hb7.size
          have HOI7 := Lib.hid (HOI.out.below hb7)
          clear hown7 hb7
          by_cases hw : 64 < (needsR (rulesOf L) t).length
          · have HE : Hid (joinE (rulesOf L) = 2) := Lib.hid (HMY.out (.inr (wide_at (by rw [HTT.out]; exact HTJ.out) hw)))
            have hw1 : (64 : Int) < ((needsR (rulesOf L) t).length : Int) := by omega
            clear hw
            generalize (needsR (rulesOf L) t).length = nl at *
            go_wp2_with fail
            go_ret2
            exact jPost_no (by rw [HE.out]; decide) (by rw [HE.out]; rfl) (below_newL HB6.out HB7.out)
          · have hw1 : ¬ (64 : Int) < ((needsR (rulesOf L) t).length : Int) := by omega
            have HWL := Lib.hid hw
            have hba := below_new (Below.refl w7.heap.size w7) (.cells #[.string bt] 9)
            have HB8 := Lib.hid (below_newL HB7.out hba)
            have HOI8 := Lib.hid (HOI7.out.below hba)
            have HP : Hid (RsIn ((some ⟨w7.heap.size, 0, none⟩, 1), (AN, cN), ([t], needsR (rulesOf L) t)) (w7.alloc (.cells #[.string bt] 9))) := Lib.hid (rsIn_one (rd_lit w7 _ #[.string bt] 9 _ rfl (by rw [← HBT.out]; rfl)) ((Rd.of_own HO7.out).below hba) (own_cap HO7.out) HT40.out HN40.out (by have := HNL.out; omega))
            have HFP : Hid (farS ((some ⟨w7.heap.size, 0, none⟩, 1), (AN, cN), ([t], needsR (rulesOf L) t)) (Value.slice AO j cO).ownBlock) := Lib.hid (farS_new HOI.out (fun g off hA _ => by
              injection hA with hA; injection hA with hA _ _
              left
              have h3 := HS7.out
              omega) (fun g off hA _ => .inl (own_ge HO7.out g off hA)))
            have HRO2 : Hid (rulesOf (LO ++ [((some ⟨w7.heap.size, 0, none⟩, 1), (AN, cN), ([t], needsR (rulesOf L) t))]) = (TT.take (j + 1)).map fun t => ([t], needsR (rulesOf L) t)) := Lib.hid (by
              rw [take_snocS HTJ.out, List.map_append, ← HRO.out]
              unfold rulesOf
              rw [List.map_append]
              rfl)
            have HW2 : Hid (∀ t ∈ TT.take (j + 1), (needsR (rulesOf L) t).length ≤ 64) := Lib.hid (fun q hq => by
              rw [take_snocS HTJ.out] at hq
              rcases List.mem_append.1 hq with hq | hq
              · exact HW.out q hq
              · rw [List.mem_singleton.1 hq]; have := HWL.out; omega)
            have HV1 : Hid (Value.slice (some ⟨w7.heap.size, 0, none⟩) 1 1 = rsT ((some ⟨w7.heap.size, 0, none⟩, 1), (AN, cN), ([t], needsR (rulesOf L) t))) := Lib.hid rfl
            have HV2 : Hid (Value.slice AN (needsR (rulesOf L) t).length cN = rsN ((some ⟨w7.heap.size, 0, none⟩, 1), (AN, cN), ([t], needsR (rulesOf L) t))) := Lib.hid rfl
            have HSZ := HB8.out.size
            have HSZ2 := Lib.hid HSZ
            clear hw hba HSZ
            generalize (needsR (rulesOf L) t).length = nl at *
            go_wp2_with (at_builtin; refine wpList_pushRl (w7.alloc (.cells #[.string bt] 9)) _ _ w6.heap.size AO j cO LO ((some ⟨w7.heap.size, 0, none⟩, 1), (AN, cN), ([t], needsR (rulesOf L) t)) _ _ HV1.out HV2.out HOI8.out HSZ2.out (by omega) HP.out HFP.out rfl rfl rfl (by simp [go_sem]) ?_; intro g9 c9 w9 hoi9 hb9)
            exact ⟨⟨j + 1, _, c9, _, rfl, by omega, rfl, HRO2, HW2, Lib.hid hoi9, Lib.hid (HB8.out.trans hb9)⟩, measL hlt⟩
        · obtain rfl : j = TT.length := by omega
          have HWN : Hid (wideB (rulesOf L) = false) := Lib.hid (wide_no (fun t ht => HW.out t (by rw [List.take_length, ← HTT.out]; exact ht)))
          have HE : Hid (joinE (rulesOf L) = 0) := Lib.hid (joinE_ok H100.out HF0.out (by rw [HTT.out]; exact H64.out) HWN.out)
          have HRR : Hid (rulesOf LO = joinR (rulesOf L)) := Lib.hid (by rw [joinR_ok HE.out, HRO.out, List.take_length, HTT.out])
          go_wp2_with fail
          go_ret2
          exact ⟨AO, cO, LO, by rw [HE.out, HOI.out.len]; rfl, HOI.out.all, HRR.out, below_newL HB6.out HBQ.out⟩
end Go.Proofs.YtbgcbigplegpmaaDoor
