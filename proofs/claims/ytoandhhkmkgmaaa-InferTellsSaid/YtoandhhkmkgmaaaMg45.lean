/- Some of the proof's texts, merged; each one's own words stand ahead of it. -/
import Derived.Test.YtoandhhkmkgmaaaMg42
import Derived.Test.YtoandhhkmkgmaaaMg44
import Derived.Test.YtoandhhkmkgmaaaMg39
/- Contract: the reference's RulesFilled. Fewer than 2^22 - 5000 names that are there. -/
namespace Go.Proofs.Ytoandhhkmkgmaaa
open Go.RowKit

def hdAny (all : List RuleT) (s : KeyT) : Bool := all.any fun x => decide (x.1.headD [] = s)
theorem hdAny_snoc (l : List RuleT) (r : RuleT) (s : KeyT) : hdAny (l ++ [r]) s = (hdAny l s || decide (r.1.headD [] = s)) := by unfold hdAny; rw [List.any_append]; simp
theorem isF_eq (l : List SufT) (all : List RuleT) (known : List KeyT) (s : KeyT) : isF l all known s = (hdAny all s || (decide (needsR all s = []) && (ofP l known s).isSome)) := rfl
theorem filter_snocT {p : KeyT → Bool} {l : List KeyT} {x : KeyT} (h : p x = true) : (l ++ [x]).filter p = l.filter p ++ [x] := by rw [List.filter_append]; simp [h]
theorem filter_snocF {p : KeyT → Bool} {l : List KeyT} {x : KeyT} (h : p x = false) : (l ++ [x]).filter p = l.filter p := by rw [List.filter_append]; simp [h]
theorem rising_le (l : List KeyT) : (rising l).length ≤ l.length := by
  rw [← compact_sorted]
  exact Nat.le_trans (Lib.compact_length_le _) (by simp)
theorem own_ne_blk2 {w : World} {B CB n : Nat} {v : Value} {xs : List Value} {vs : List Value} (h : w.ownsRow B 9 1 v n xs) (hb : Blk w CB 82 vs) : v.ownBlock ≠ some CB := fun e => by
  rcases h.2 with ⟨hv, _⟩ | ⟨g, cap, cur, hv, _, hg, _⟩
  · rw [hv] at e; cases e
  · rw [hv] at e
    simp [Value.ownBlock] at e
    subst e
    unfold Blk at hb
    rw [hb] at hg
    injection hg with hg
    injection hg with _ hg _
    exact absurd hg (by decide)
theorem blk_gb {w w' : World} {CB : Nat} {t : TypeId} {vs : List Value} {r : Option Nat} (h : Blk w CB t vs) (hg : w.grownBy w' r) (hn : r ≠ some CB) : Blk w' CB t vs := by
  unfold Blk at *
  rw [hg.block CB (lt_of_blockG h) (fun e => hn e.symm)]
  exact h
set_option maxRecDepth 100000 in
set_option maxHeartbeats 8000000 in
theorem rFilled_any {A B C : Option Addr} {n c m d k e : Nat} (L0 : List RSlot) (l : List SufT) (there : List KeyT) (w : World) (hA : RsAll A L0 w) (hn : L0.length = n) (hb : n ≤ 9223372036854775807)
    (hl : Rd w B (macV l)) (hm : l.length = m) (hmb : m ≤ 9223372036854775807) (hmc : m ≤ d) (hls : ∀ x ∈ l, x.1.length ≤ 9223372036854775807 ∧ x.2.length ≤ 9223372036854775807)
    (ht : Rd w C (there.map sv)) (hk : there.length = k) (hkb : k ≤ 8799999990000) (hts : StrsOk there) :
    Calls Try.prog 20 #[.slice A n c, .slice B m d, .slice C k e] w (FillPost (rulesOf L0) l there w) := by
  have HJ := Lib.hid (rJoined_any (c := c) L0 w hA hn hb)
  have HCK := Lib.hid (fun W (hW : Below w.heap.size w W) => rInfFault_any l W (hl.below hW) hm hmb hmc hls)
  have HNM := Lib.hid (fun W (hW : Below w.heap.size w W) => goodNames_any (c := e) there W (ht.below hW) hk (by omega) hts)
  have HRL := Lib.hid hl
  have HML := Lib.hid hm
  have HMB := Lib.hid hmb
  have HT := Lib.hid ht
  have HK := Lib.hid hk
  generalize rulesOf L0 = R0 at *
  clear hA hn hl hm hmb hmc hls ht hk hts
  go_enter Try.func20, Try.ntmps20
  go_wp2_with fail
  refine HJ.out.mono ?_
  rintro e w1 ⟨A1, c1, L, rfl, hrs, hrl, hb1⟩
  have HRS := Lib.hid hrs
  have HRR := Lib.hid hrl
  have HB1 := Lib.hid hb1
  clear hrs hrl hb1
  by_cases hj : joinE R0 = 0
  · have HJ0 := Lib.hid hj
    have HJF := Lib.hid (joinR_facts hj)
    rw [hj]
    clear hj
    go_wp2_with fail
    refine (HCK.out _ HB1.out).mono ?_
    rintro e w2 ⟨rfl, hb2⟩
    have HB2 := Lib.hid (below_newL HB1.out hb2)
    have HRS2 := Lib.hid (HRS.out.below hb2)
    clear hb2
    by_cases hi : infE l = 0
    · have HI0 := Lib.hid hi
      rw [hi]
      clear hi
      go_wp2_with fail
      refine (HNM.out _ HB2.out).mono ?_
      rintro e w3 ⟨rfl, rfl⟩
      cases hg : there.all goodName with
      | false =>
        have HE := Lib.hid (fillE_name HJ0.out HI0.out hg)
        clear hg
        go_wp2_with fail
        go_ret2
        exact fillPost_no (by rw [HE.out]; decide) (by rw [HE.out]; rfl) HB2.out
      | true =>
        have HG := Lib.hid hg
        clear hg
        have HLN : Hid (L.length ≤ 64) := Lib.hid (by have h := HJF.out.len; rw [← HRR.out] at h; unfold rulesOf at h; rw [List.length_map] at h; exact h)
        obtain ⟨nl, hnl⟩ : ∃ nl, L.length = nl := ⟨_, rfl⟩
        have hnl64 : nl ≤ 64 := by rw [← hnl]; exact HLN.out
        have HNL := Lib.hid hnl
        rw [hnl]
        clear hnl
        rw [← HRR.out] at HJF
        have HAL := Lib.hid (asked_len HJF.out.sum)
        have HBBW := Lib.hid (fun W (hW : Below w2.heap.size w2 W) => (below_newL HB2.out hW : Below w.heap.size w W))
        have HRSB := Lib.hid (fun W (hW : Below w2.heap.size w2 W) => HRS2.out.below hW)
        clear HB1 HRS HCK HNM HJ
        go_wp2_with fail
        go_loopw [11, 13, 42] (fun v _ i wq => ∃ (q : Nat) (AZ : Option Addr) (cz mz : Nat) (zs : List KeyT), i = .int .i64 (q : Int) ∧ q ≤ nl ∧ v = .slice AZ mz cz ∧ mz ≤ 65 * q ∧ Hid (zs.length = mz) ∧ Hid (zs = askedP ((rulesOf L).take q)) ∧ Hid (wq.ownsRow w2.heap.size 9 1 (.slice AZ mz cz) mz (zs.map sv)) ∧ Hid (Below w2.heap.size w2 wq)) (fun _ _ i _ => nl - (intOf i).toNat)
        case atStart => exact ⟨0, none, 0, 0, [], rfl, by omega, rfl, by omega, Lib.hid rfl, Lib.hid rfl, Lib.hid (World.ownsRow_nil _ _ _ _), Lib.hid (Below.refl _ _)⟩
        case round =>
          obtain ⟨q, AZ, cz, mz, zs, rfl, hq, rfl, hmz, HZL, HZS, HO, HBQ⟩ := hrel
          have HRW := Lib.hid (HRSB.out _ HBQ.out)
          by_cases hltq : q < nl
          · obtain ⟨x, hx⟩ : ∃ x, L[q]? = some x := ⟨_, List.getElem?_eq_getElem (by rw [HNL.out]; exact hltq)⟩
            have HR := Lib.hid (rulesOf_at hx)
            have HX := Lib.hid (HRW.out.each x (List.mem_of_getElem? hx))
            have HT1 := Lib.hid (HJF.out.tgt _ (List.mem_of_getElem? HR.out))
            have HT2 := Lib.hid (HJF.out.many _ (List.mem_of_getElem? HR.out))
            have HX2 := Lib.hid ((HRS2.out.each x (List.mem_of_getElem? hx)))
            obtain ⟨b1, o1, rfl, a1, a2⟩ := HRW.out.rd.two hx
            obtain ⟨⟨X1, xc1⟩, ⟨X2, xc2⟩, r⟩ := x
            unfold RsIn at HX HX2
            simp only [rsT, rsN] at a1 a2 HX HX2 HR HT1 HT2
            have hcap : 2 * q = q * 2 := by omega
            rw [hcap] at a1 a2
            rw [HT1.out] at a1
            have HBN := Lib.hid (below_new (Below.refl wr.heap.size wr) (.cells #[.slice X1 1 xc1, .slice X2 r.2.length xc2] 82))
            have HKX := Lib.hid (Blk.new wr #[.slice X1 1 xc1, .slice X2 r.2.length xc2] 82)
            have HO1 := Lib.hid (own_below HO.out HBN.out)
            have HB1 := Lib.hid (below_newL HBQ.out HBN.out)
            have HNB : Hid ((Value.slice AZ mz cz).ownBlock ≠ some wr.heap.size) := Lib.hid (fun e => by have := (HO.out.lt _ e).2; omega)
            have hk1 : (q : Int) < (nl : Int) := by omega
            have hn2 : r.2.length ≤ 64 := HT2.out
            clear hx hcap HX
            generalize hn2e : r.2.length = n2 at *
            have HN2E := Lib.hid hn2e
            clear hn2e
            go_upto_region 13 with fail
            generalize wr.alloc (.cells #[.slice X1 1 xc1, .slice X2 n2 xc2] 82) = w5 at *
            generalize wr.heap.size = CB at *
            have HCBL := Lib.hid HKX.out.lt
            have HSS : Hid (w5.drew.cell? ⟨CB, 0, none⟩ = some (.slice X1 1 xc1) ∧ w5.drew.cell? ⟨CB, 1, none⟩ = some (.slice X2 n2 xc2)) := Lib.hid ⟨HKX.out.cell (j := 0) rfl, HKX.out.cell (j := 1) rfl⟩
            clear a1 a2
            refine wp_region_x (fun W => W.cell? ⟨CB, 0, none⟩ = some (.slice X1 1 xc1) ∧ W.cell? ⟨CB, 1, none⟩ = some (.slice X2 n2 xc2)) 7 (by kernel_rfl) ?_
            refine wpAnyX_take (i := 0) (v := ?v0) rfl (by kernel_rfl) (by kernel_rfl) (by kernel_rfl) (by kernel_rfl) (fun _ _ _ h => h) (Or.inl ⟨by rfl, ?hy0⟩) HSS.out ?rest0
            case hy0 => (intro W hSw; (try dsimp only at hSw); obtain ⟨hS1, hS2⟩ := hSw; go_simp; try with_reducible rfl)
            refine wpAnyX_take (i := 1) (v := ?v1) rfl (by kernel_rfl) (by kernel_rfl) (by kernel_rfl) (by kernel_rfl) (fun _ _ _ h => h) (Or.inl ⟨by rfl, ?hy1⟩) HSS.out ?rest1
            case hy1 => (intro W hSw; (try dsimp only at hSw); obtain ⟨hS1, hS2⟩ := hSw; go_simp; try with_reducible rfl)
            refine wpAnyX_take (i := 2) (v := ?v2) rfl (by kernel_rfl) (by kernel_rfl) (by kernel_rfl) (by kernel_rfl) (fun _ _ _ h => h) (Or.inl ⟨by rfl, ?hy2⟩) HSS.out ?rest2
            case hy2 => (intro W hSw; (try dsimp only at hSw); obtain ⟨hS1, hS2⟩ := hSw; go_simp; try with_reducible rfl)
            refine wpAnyX_take (i := 4) (v := ?v4) rfl (by kernel_rfl) (by kernel_rfl) (by kernel_rfl) (by kernel_rfl) (fun _ _ _ h => h) (Or.inl ⟨by rfl, ?hy4⟩) HSS.out ?rest4
            case hy4 => (intro W hSw; (try dsimp only at hSw); obtain ⟨hS1, hS2⟩ := hSw; go_simp; try with_reducible rfl)
            refine wpAnyX_take (i := 5) (v := ?v5) rfl (by kernel_rfl) (by kernel_rfl) (by kernel_rfl) (by kernel_rfl) (fun _ _ _ h => h) (Or.inl ⟨by rfl, ?hy5⟩) HSS.out ?rest5
            case hy5 => (intro W hSw; (try dsimp only at hSw); obtain ⟨hS1, hS2⟩ := hSw; go_simp; try with_reducible rfl)
            refine wpAnyX_one (i := 3) (by kernel_rfl) rfl (fun K hK => ?_)
            have HXT : Hid (Rd w5.drew X1 (r.1.map sv)) := Lib.hid ((HX2.out.t.below HB1.out).drewN 1)
            have HXN : Hid (Rd w5.drew X2 (r.2.map sv)) := Lib.hid ((HX2.out.n.below HB1.out).drewN 1)
            have HSZ : Hid (w2.heap.size ≤ w5.drew.heap.size) := Lib.hid HB1.out.size
            refine step_catN w5.drew (.tmp 46) (.tmp 48) w2.heap.size AZ mz cz (zs.map sv) X1 1 xc1 (r.1.map sv) HO1.out HXT.out (by rw [List.length_map]; exact HT1.out) (sv_one _) HSZ.out (by omega) rfl rfl (by go_simp) (by go_simp) ?_
            intro A6 c6 w6 hown6 hg6
            have HO6 := Lib.hid hown6
            have HG6 := Lib.hid hg6
            have HK6 := Lib.hid (blk_gb (HKX.out.below (Below.drew (Below.refl _ _)) HCBL.out) hg6 HNB.out)
            have HS6 : Hid (w6.cell? ⟨CB, 0, none⟩ = some (.slice X1 1 xc1) ∧ w6.cell? ⟨CB, 1, none⟩ = some (.slice X2 n2 xc2)) := Lib.hid ⟨HK6.out.cell (j := 0) rfl, HK6.out.cell (j := 1) rfl⟩
            have HB6 : Hid (Below w2.heap.size w5.drew w6) := Lib.hid (below_gb2 hg6 (fun k hk => (HO1.out.lt k hk).1) HSZ.out)
            have HXN6 : Hid (Rd w6 X2 (r.2.map sv)) := Lib.hid (HX2.out.n.below ((HB1.out.trans (Below.drew (Below.refl _ _))).trans HB6.out))
            have HSZ6 : Hid (w2.heap.size ≤ w6.heap.size) := Lib.hid (Nat.le_trans HSZ.out HB6.out.size)
            clear hown6 hg6
            refine hK _ _ (fun _ => HS6.out) ?_
            clear hK K
            refine wpAnyX_one (i := 6) (by kernel_rfl) rfl (fun K hK => ?_)
            refine step_catN w6 (.tmp 49) (.tmp 51) w2.heap.size A6 (mz + 1) c6 (zs.map sv ++ r.1.map sv) X2 n2 xc2 (r.2.map sv) HO6.out HXN6.out (by rw [List.length_map]; exact HN2E.out) (sv_one _) HSZ6.out (by omega) rfl rfl (by go_simp) (by go_simp) ?_
            intro A7 c7 w7 hown7 hg7
            have HK7 := Lib.hid (blk_gb HK6.out hg7 (own_ne_blk2 HO6.out HK6.out))
            have HS7 : Hid (w7.cell? ⟨CB, 0, none⟩ = some (.slice X1 1 xc1) ∧ w7.cell? ⟨CB, 1, none⟩ = some (.slice X2 n2 xc2)) := Lib.hid ⟨HK7.out.cell (j := 0) rfl, HK7.out.cell (j := 1) rfl⟩
            have HB7 := Lib.hid (((HB1.out.trans (Below.drew (Below.refl _ _))).trans HB6.out).trans (below_gb2 hg7 (fun k hk => (HO6.out.lt k hk).1) HSZ6.out))
            have HO7 : Hid (w7.ownsRow w2.heap.size 9 1 (.slice A7 (mz + 1 + n2) c7) (mz + 1 + n2) ((zs ++ (r.1 ++ r.2)).map sv)) := Lib.hid (by rw [List.map_append, List.map_append, ← List.append_assoc]; exact hown7)
            clear hown7 hg7
            refine hK _ _ (fun _ => HS7.out) ?_
            clear hK K
            refine wpAnyX_one (i := 7) (by kernel_rfl) rfl (fun K hK => ?_)
            rw [if_pos (by rfl)]
            go_simp
            refine hK _ _ (fun h => absurd rfl h) ?_
            clear hK K
            refine wpAnyX_done (by kernel_rfl) ?_ _
            have HZ2 : Hid (zs ++ (r.1 ++ r.2) = askedP ((rulesOf L).take (q + 1))) := Lib.hid (by rw [asked_take HR.out, HZS.out])
            have HM2 : Hid ((zs ++ (r.1 ++ r.2)).length = mz + 1 + n2) := Lib.hid (by rw [List.length_append, List.length_append, HZL.out, HT1.out, HN2E.out]; omega)
            obtain ⟨m2, hm2⟩ : ∃ m2, m2 = mz + 1 + n2 := ⟨_, rfl⟩
            rw [← hm2] at HM2 HO7
            simp only [← hm2]
            have hm3 : m2 ≤ 65 * (q + 1) := by omega
            clear hm2
            go_wp2_with fail
            exact ⟨⟨q + 1, A7, c7, m2, _, rfl, by omega, rfl, hm3, HM2, HZ2, HO7, HB7⟩, measL hltq⟩
          · obtain rfl : q = nl := by omega
            have HTK : Hid ((rulesOf L).take q = rulesOf L) := Lib.hid (List.take_of_length_le (by unfold rulesOf; rw [List.length_map, HNL.out]; exact Nat.le_refl _))
            rw [HTK.out] at HZS
            have HRIS := Lib.hid (rRising_any (c := cz) zs wr (Rd.of_own HO.out) HZL.out (by omega))
            have HR64 : Hid ((rising zs).length ≤ 4160) := Lib.hid (by have := rising_le zs; have := HZL.out; omega)
            unfold RisPost at HRIS
            clear HO
            go_wp2_with fail
            refine HRIS.out.mono ?_
            rintro e w5 ⟨AR, cR, rfl, hr5, hb5⟩
            have HR5 := Lib.hid hr5
            have HB5 := Lib.hid (below_newL HBQ.out hb5)
            have HRAE : Hid (rising zs = rising (askedP (rulesOf L))) := Lib.hid (by rw [HZS.out])
            have HAGD : Hid (∀ s ∈ rising zs, goodName s = true) := Lib.hid (fun s hs => by
              rw [mem_rising, HZS.out] at hs
              exact HJF.out.asked_good s hs)
            have HKS : Hid (rising (rising zs ++ there) = saidP (rulesOf L) there) := Lib.hid (by rw [HZS.out]; exact said_swap _ _)
            clear hr5 hb5 HRIS
            generalize rising zs = RA at *
            generalize hra : RA.length = nr at *
            have HRL2 := Lib.hid hra
            have hnr := HR64.out
            have HTW := Lib.hid (fun W (hW : Below w2.heap.size w2 W) => HT.out.below (HBBW.out W hW))
            clear hra
            go_wp2_with (first
              | (at_builtin; refine wpList_catW elStr (by decide) (by decide) w5 (.const (.slice none 0 0)) _ w5.heap.size none 0 0 [] AR nr cR (RA.map sv) (World.ownsRow_nil _ _ _ _) HR5.out (by rw [List.length_map]; exact HRL2.out) (sv_one _) (Nat.le_refl _) (by omega) rfl rfl rfl rfl ?_; intro A6 c6 w6 hown6 hb6; have HO6 := Lib.hid hown6; rw [Nat.zero_add] at HO6; have HB6 := Lib.hid hb6; have HSZ6 := Lib.hid hb6.size; clear hown6 hb6)
              | (at_builtin; refine wpList_catW elStr (by decide) (by decide) w6 _ _ w5.heap.size A6 nr c6 ([] ++ RA.map sv) C k e (there.map sv) HO6.out (HTW.out _ (below_newL HB5.out HB6.out)) (by rw [List.length_map]; exact HK.out) (sv_one _) HSZ6.out (by omega) rfl rfl rfl rfl ?_; intro A7 c7 w7 hown7 hb7; have HO7 := Lib.hid hown7; have HB7 := Lib.hid (HB6.out.trans hb7); clear hown7 hb7))
            have HRK0 : Hid (Rd w7 A7 ((RA ++ there).map sv)) := Lib.hid (by have h := Rd.of_own HO7.out; rw [List.nil_append, ← List.map_append] at h; exact h)
            have HRIS := Lib.hid (rRising_any (c := c7) (n := nr + k) (RA ++ there) w7 HRK0.out (by rw [List.length_append, HRL2.out, HK.out]) (by omega))
            unfold RisPost at HRIS
            rw [HKS.out] at HRIS
            clear HO7 HO6 HSZ6 HRK0
            refine HRIS.out.mono ?_
            rintro e w8 ⟨AK, cK, rfl, hr8, hb8⟩
            have HRK := Lib.hid hr8
            have HB58 := Lib.hid (below_newL HB7.out hb8)
            have HB8w := Lib.hid (below_newL HB5.out HB58.out)
            have HR8 := Lib.hid (HR5.out.below HB58.out)
            have HEW := Lib.hid (fun h => fillE_wide (r := R0) (l := l) (there := there) HJ0.out HI0.out HG.out h)
            have HEO := Lib.hid (fun h => fillE_ok (r := R0) (l := l) (there := there) HJ0.out HI0.out HG.out h)
            have HFO := Lib.hid (fun h => fillR_ok (r := R0) (l := l) (there := there) h)
            have HKG : Hid (∀ s ∈ saidP (rulesOf L) there, goodName s = true) := Lib.hid (fun s hs => by
              unfold saidP at hs
              rw [mem_rising] at hs
              exact List.all_eq_true.1 (HJF.out.said_good HG.out) s hs)
            rw [← HRR.out] at HEW HEO HFO
            clear hr8 hb8 HRIS HR5 HB6 HB7
            generalize saidP (rulesOf L) there = K at *
            by_cases h64 : 64 < K.length
            · have HE := Lib.hid (HEW.out h64)
              have h65 : (64 : Int) < (K.length : Int) := by omega
              clear h64
              go_wp2_with fail
              go_ret2
              exact fillPost_no (by rw [HE.out]; decide) (by rw [HE.out]; rfl) (HBBW.out _ HB8w.out)
            · have HE := Lib.hid (HEO.out h64)
              have h65 : ¬ (64 : Int) < (K.length : Int) := by omega
              have HRW8 := Lib.hid (HRSB.out _ HB8w.out)
              have HRL8 : Hid (Rd w8 B (macV l)) := Lib.hid (HRL.out.below (HBBW.out _ HB8w.out))
              have HLS := Lib.hid (fun x (hx : x ∈ l) => Nat.le_trans (sufB_len ((infE_ok HI0.out).2 x hx).1) (by decide : 10 ≤ 1099511627776))
              clear h64
              generalize hkl : K.length = kl at *
              have HKL := Lib.hid hkl
              have hkl64 : kl ≤ 64 := by omega
              clear hkl HTW
              go_wp2_with fail
              go_loopw [15, 17, 18, 19, 21, 22, 23, 66] (fun v _ _ _ _ _ _ i wq => ∃ (z z2 : Nat) (AO : Option Addr) (cO : Nat) (LO : List RSlot), i = .int .i64 (z : Int) ∧ z ≤ nr ∧ z2 ≤ z ∧ v = .slice AO z2 cO ∧ Hid (rulesOf LO = ((RA.take z).filter (isF l (rulesOf L) K)).map fun s => ([s], needF l (rulesOf L) K s)) ∧ Hid (OutInv wq w8.heap.size AO z2 cO LO) ∧ Hid (Below w8.heap.size w8 wq)) (fun _ _ _ _ _ _ _ i _ => nr - (intOf i).toNat)
              case atStart => exact ⟨0, 0, none, 0, [], rfl, by omega, by omega, rfl, Lib.hid rfl, Lib.hid (OutInv.start _ _), Lib.hid (Below.refl _ _)⟩
              case round =>
                obtain ⟨z, z2, AO, cO, LO, rfl, hz, hz2, rfl, HRO, HOI, HBZ⟩ := hrel
                by_cases hltz : z < nr
                · obtain ⟨t, htz⟩ : ∃ t, RA[z]? = some t := ⟨_, List.getElem?_eq_getElem (by rw [HRL2.out]; exact hltz)⟩
                  obtain ⟨b3, o3, rfl, ec⟩ := (HR8.out.below HBZ.out).scell htz
                  have HTZ := Lib.hid htz
                  have HTK2 : Hid (RA.take (z + 1) = RA.take z ++ [t]) := Lib.hid (take_snocS htz)
                  have HTG := Lib.hid (HAGD.out t (List.mem_of_getElem? htz))
                  have HT40 := Lib.hid (good_len HTG.out)
                  have HNG := Lib.hid (needF_good (l := l) HJF.out HKG.out t)
                  have HNL2 := Lib.hid (needF_len (l := l) (known := K) HJF.out t)
                  have CN := Lib.hid (needsOf_any (c := c1) L t wr (HRW8.out.below HBZ.out) HNL.out (by omega) HJF.out.many)
                  have HBS : Hid (sv t = .string ⟨t.toArray⟩) := Lib.hid rfl
                  have HEQ := Lib.hid (fun x => eq_sv x t)
                  have hz1 : (z : Int) < (nr : Int) := by omega
                  have CIN := Lib.hid (fun W (hW : Below w8.heap.size w8 W) => rInferred_any (c := d) (d := cK) l K t W (HRL8.out.below hW) HML.out HMB.out (HRK.out.below hW) HKL.out (by omega) (by have := HT40.out; omega) HLS.out)
                  unfold NdPost at CN
                  unfold sv at CIN
                  generalize hbs : (⟨t.toArray⟩ : ByteArray) = bs at *
                  clear htz hbs
                  go_wp2_with fail
                  refine CN.out.mono ?_
                  rintro e w9 ⟨AN, cN, rfl, hown9, hb9⟩
                  have HNO := Lib.hid hown9
                  have HB9 := Lib.hid (HBZ.out.trans (hb9.mono HBZ.out.size))
                  have HBR9 := Lib.hid hb9
                  have HOFF := Lib.hid (fun (h : t ∉ headsP (rulesOf L)) => needsR_off HJF.out.one h)
                  clear hown9 hb9
                  obtain ⟨nn, hnn⟩ : ∃ nn, (needsR (rulesOf L) t).length = nn := ⟨_, rfl⟩
                  have HNN0 := Lib.hid hnn
                  rw [hnn]
                  rw [hnn] at HNO
                  clear hnn
                  go_wp2_with fail
                  go_loopw [19, 21, 75] (fun b _ i wq => ∃ p : Nat, i = .int .i64 (p : Int) ∧ p ≤ q ∧ b = .bool (hdAny ((rulesOf L).take p) t) ∧ Hid (Below w9.heap.size w9 wq)) (fun _ _ i _ => q - (intOf i).toNat)
                  case atStart => exact ⟨0, rfl, by omega, rfl, Lib.hid (Below.refl _ _)⟩
                  case round =>
                    obtain ⟨p, rfl, hp, rfl, HBP⟩ := hrel
                    by_cases hltp : p < q
                    · obtain ⟨x, hx⟩ : ∃ x, L[p]? = some x := ⟨_, List.getElem?_eq_getElem (by rw [HNL.out]; exact hltp)⟩
                      have HRX := Lib.hid (rulesOf_at hx)
                      have HRWp := Lib.hid ((HRW8.out.below HB9.out).below HBP.out)
                      have HXX := Lib.hid (HRWp.out.each x (List.mem_of_getElem? hx))
                      have HT1 := Lib.hid (HJF.out.tgt _ (List.mem_of_getElem? HRX.out))
                      obtain ⟨b1, o1, rfl, a1, a2⟩ := HRWp.out.rd.two hx
                      obtain ⟨⟨X1, xc1⟩, ⟨X2, xc2⟩, r⟩ := x
                      unfold RsIn at HXX
                      simp only [rsT, rsN] at a1 a2 HXX HRX HT1
                      have hcap : 2 * p = p * 2 := by omega
                      rw [hcap] at a1 a2
                      rw [HT1.out] at a1
                      obtain ⟨t1, ht1⟩ : ∃ t1, r.1 = [t1] := List.length_eq_one_iff.1 HT1.out
                      have hxt := HXX.out.t
                      rw [ht1] at hxt
                      obtain ⟨tb, tq, rfl, et⟩ := rd_one_at hxt
                      have HBN := Lib.hid (below_new (Below.refl wr.heap.size wr) (.cells #[.slice (some ⟨tb, tq, none⟩) 1 xc1, .slice X2 r.2.length xc2] 82))
                      have HKX := Lib.hid (Blk.new wr #[.slice (some ⟨tb, tq, none⟩) 1 xc1, .slice X2 r.2.length xc2] 82)
                      have et2 := cell_kept et HBN.out
                      have HBP2 := Lib.hid (below_newL HBP.out HBN.out)
                      have HHD : Hid (hdAny ((rulesOf L).take (p + 1)) t = (hdAny ((rulesOf L).take p) t || decide (t1 = t))) := Lib.hid (by rw [take_snocS HRX.out, hdAny_snoc, ht1]; rfl)
                      have heq := HEQ.out t1
                      have hp1 : (p : Int) < (q : Int) := by omega
                      generalize r.2.length = n2 at *
                      clear hx hcap HXX ht1 hxt
                      generalize (⟨t1.toArray⟩ : ByteArray) = b1s at *
                      generalize hdAny ((rulesOf L).take p) t = HD at *
                      go_upto_region 28 with fail
                      generalize wr.alloc (.cells #[.slice (some ⟨tb, tq, none⟩) 1 xc1, .slice X2 n2 xc2] 82) = w10 at *
                      generalize wr.heap.size = CB at *
                      have d0 : w10.cell? ⟨CB, 0, none⟩ = some (.slice (some ⟨tb, tq, none⟩) 1 xc1) := HKX.out.cell (j := 0) rfl
                      clear a1 a2 et
                      cases HD with
                      | true =>
                        go_wp2_with fail
                        exact ⟨⟨p + 1, rfl, by omega, by rw [HHD.out]; rfl, HBP2⟩, measL hltp⟩
                      | false =>
                        rw [Bool.false_or] at HHD
                        rw [← HHD.out] at heq
                        clear HHD
                        obtain ⟨HD2, hhd2⟩ : ∃ b, hdAny ((rulesOf L).take (p + 1)) t = b := ⟨_, rfl⟩
                        have HHD2 := Lib.hid hhd2
                        rw [hhd2] at heq
                        clear hhd2
                        cases HD2 with
                        | true =>
                          go_wp2_with fail
                          exact ⟨⟨p + 1, rfl, by omega, by rw [HHD2.out], HBP2⟩, measL hltp⟩
                        | false =>
                          go_wp2_with fail
                          exact ⟨⟨p + 1, rfl, by omega, by rw [HHD2.out], HBP2⟩, measL hltp⟩
                    -- END
                    · obtain rfl : p = q := by omega
                      rw [HTK.out]
                      have HBR0 := Lib.hid (below_newL HBR9.out HBP.out)
                      have HBX0 := Lib.hid (HB9.out.trans (HBP.out.mono HB9.out.size))
                      obtain ⟨HD, hhd⟩ : ∃ b, hdAny (rulesOf L) t = b := ⟨_, rfl⟩
                      have HHD := Lib.hid hhd
                      rw [hhd]
                      clear hhd
                      by_cases hn0 : nn = 0
                      · have HN0 : Hid (needsR (rulesOf L) t = []) := Lib.hid (List.eq_nil_of_length_eq_zero (by rw [HNN0.out]; exact hn0))
                        subst hn0
                        cases ho : ofP l K t with
                        | none =>
                          have HNF := Lib.hid (needF_none HN0.out ho)
                          have HISF : Hid (isF l (rulesOf L) K t = HD) := Lib.hid (by rw [isF_eq, HHD.out, ho]; simp)
                          rw [ho] at CIN
                          clear ho
                          cases HD with
                          | true =>
                            go_wp2_with fail
                            refine (CIN.out _ HBX0.out).mono ?_
                            rintro e wX ⟨rfl, hbX⟩
                            have HBX := Lib.hid (HBX0.out.trans (hbX.mono HBX0.out.size))
                            have HBR := Lib.hid (below_newL HBR0.out hbX)
                            have HOIX := Lib.hid (HOI.out.below HBR.out)
                            have HNX : Hid (Rd wX AN ((needF l (rulesOf L) K t).map sv)) := Lib.hid (by rw [HNF.out]; exact Rd.nil_ _ _)
                            have HCX : Hid ((needF l (rulesOf L) K t).length ≤ cN) := Lib.hid (by rw [HNF.out]; simp)
                            have HNN : Hid ((needF l (rulesOf L) K t).length = 0) := Lib.hid (by rw [HNF.out]; rfl)
                            have HFARN : Hid (∀ g off, AN = some ⟨g, off, none⟩ → 0 < ((needF l (rulesOf L) K t).map sv).length → _ ≤ g) := Lib.hid (fun g off hA _ => own_ge HNO.out g off hA)
                            clear hbX ec
                            have HSVS : Hid (sv t = .string bs) := HBS
                            have hba := below_new (Below.refl wX.heap.size wX) (.cells #[.string bs] 9)
                            have HOI8 := Lib.hid (HOIX.out.below hba)
                            have HB8 := Lib.hid (below_newL HBX.out hba)
                            have HP : Hid (RsIn ((some ⟨wX.heap.size, 0, none⟩, 1), (AN, cN), ([t], needF l (rulesOf L) K t)) (wX.alloc (.cells #[.string bs] 9))) := Lib.hid (rsIn_one (rd_lit wX _ #[.string bs] 9 _ rfl (by simp only [List.map_cons, List.map_nil]; rw [HSVS.out])) (HNX.out.below hba) HCX.out HT40.out (fun s hs => good_len (HNG.out s hs)) (by have := HNL2.out; omega))
                            have HFP2 : Hid (farS ((some ⟨wX.heap.size, 0, none⟩, 1), (AN, cN), ([t], needF l (rulesOf L) K t)) (Value.slice AO z2 cO).ownBlock) := Lib.hid (farS_new HOI.out (fun g off hA _ => by
                              injection hA with hA; injection hA with hA _ _
                              have := HBR.out.size
                              left
                              omega) (fun g off hA hp => .inl (HFARN.out g off hA hp)))
                            have HRO2 : Hid (rulesOf (LO ++ [((some ⟨wX.heap.size, 0, none⟩, 1), (AN, cN), ([t], needF l (rulesOf L) K t))]) = ((RA.take (z + 1)).filter (isF l (rulesOf L) K)).map fun s => ([s], needF l (rulesOf L) K s)) := Lib.hid (by
                              rw [HTK2.out, filter_snocT HISF.out, List.map_append, ← HRO.out]
                              unfold rulesOf
                              rw [List.map_append]
                              rfl)
                            have HV1 : Hid (Value.slice (some ⟨wX.heap.size, 0, none⟩) 1 1 = rsT ((some ⟨wX.heap.size, 0, none⟩, 1), (AN, cN), ([t], needF l (rulesOf L) K t))) := Lib.hid rfl
                            have HV2 : Hid (Value.slice AN 0 cN = rsN ((some ⟨wX.heap.size, 0, none⟩, 1), (AN, cN), ([t], needF l (rulesOf L) K t))) := Lib.hid (by unfold rsN; simp only []; rw [HNN.out])
                            have HSZ2 := Lib.hid HB8.out.size
                            clear hba
                            go_wp2_with (at_builtin; refine wpList_pushRl (wX.alloc (.cells #[.string bs] 9)) _ _ w8.heap.size AO z2 cO LO ((some ⟨wX.heap.size, 0, none⟩, 1), (AN, cN), ([t], needF l (rulesOf L) K t)) _ _ HV1.out HV2.out HOI8.out HSZ2.out (by omega) HP.out HFP2.out rfl rfl rfl (by simp [go_sem]) ?_; intro g9 c9 w9' hoi9 hb9)
                            exact ⟨⟨z + 1, z2 + 1, _, c9, _, rfl, by omega, by omega, rfl, HRO2, Lib.hid hoi9, Lib.hid (HB8.out.trans hb9)⟩, measL hltz⟩
                          | false =>
                            go_wp2_with fail
                            refine (CIN.out _ HBX0.out).mono ?_
                            rintro e wX ⟨rfl, hbX⟩
                            have HBX := Lib.hid (HBX0.out.trans (hbX.mono HBX0.out.size))
                            have HOIX := Lib.hid (HOI.out.below (below_newL HBR0.out hbX))
                            have HRO2 : Hid (rulesOf LO = ((RA.take (z + 1)).filter (isF l (rulesOf L) K)).map fun s => ([s], needF l (rulesOf L) K s)) := Lib.hid (by rw [HTK2.out, filter_snocF HISF.out]; exact HRO.out)
                            clear hbX ec
                            go_wp2_with fail
                            exact ⟨⟨z + 1, z2, AO, cO, LO, rfl, by omega, by omega, rfl, HRO2, HOIX, HBX⟩, measL hltz⟩
                        | some f =>
                          have HNF := Lib.hid (needF_some HN0.out ho)
                          have HISF : Hid (isF l (rulesOf L) K t = true) := Lib.hid (by rw [isF_eq, HN0.out, ho]; simp)
                          rw [ho] at CIN
                          unfold ofV at CIN
                          simp only [Option.getD_some, Option.isSome_some] at CIN
                          have HBF : Hid (sv f = .string ⟨f.toArray⟩) := Lib.hid rfl
                          generalize (⟨f.toArray⟩ : ByteArray) = bf at *
                          clear ho
                          go_wp2_with fail
                          refine (CIN.out _ HBX0.out).mono ?_
                          rintro e w10 ⟨rfl, hbX⟩
                          have HBX1 := Lib.hid (HBX0.out.trans (hbX.mono HBX0.out.size))
                          have HBR1 := Lib.hid (below_newL HBR0.out hbX)
                          have HRDL := Lib.hid (rd_lit w10 _ #[.string bf] 9 ([f].map sv) rfl (by simp only [List.map_cons, List.map_nil]; rw [HBF.out]))
                          have HBN := Lib.hid (below_new (Below.refl w10.heap.size w10) (.cells #[.string bf] 9))
                          clear hbX ec
                          go_upto_region 35 with fail
                          generalize w10.alloc (.cells #[.string bf] 9) = wX at *
                          have HBX := Lib.hid (HBX1.out.trans (HBN.out.mono HBX1.out.size))
                          have HBR := Lib.hid (below_newL HBR1.out HBN.out)
                          have HOIX := Lib.hid (HOI.out.below HBR.out)
                          have HNX : Hid (Rd wX (some ⟨w10.heap.size, 0, none⟩) ((needF l (rulesOf L) K t).map sv)) := Lib.hid (by rw [HNF.out]; exact HRDL.out)
                          have HCX : Hid ((needF l (rulesOf L) K t).length ≤ 1) := Lib.hid (by rw [HNF.out]; exact Nat.le_refl _)
                          have HNN : Hid ((needF l (rulesOf L) K t).length = 1) := Lib.hid (by rw [HNF.out]; rfl)
                          have HFARN : Hid (∀ g off, some (⟨w10.heap.size, 0, none⟩ : Addr) = some ⟨g, off, none⟩ → 0 < ((needF l (rulesOf L) K t).map sv).length → _ ≤ g) := Lib.hid (fun g off hA _ => by
                            injection hA with hA; injection hA with hA _ _
                            rw [← hA]
                            exact HBR1.out.size)
                          generalize w10.heap.size = kX at *
                          have HSVS : Hid (sv t = .string bs) := HBS
                          have hba := below_new (Below.refl wX.heap.size wX) (.cells #[.string bs] 9)
                          have HOI8 := Lib.hid (HOIX.out.below hba)
                          have HB8 := Lib.hid (below_newL HBX.out hba)
                          have HP : Hid (RsIn ((some ⟨wX.heap.size, 0, none⟩, 1), (some ⟨kX, 0, none⟩, 1), ([t], needF l (rulesOf L) K t)) (wX.alloc (.cells #[.string bs] 9))) := Lib.hid (rsIn_one (rd_lit wX _ #[.string bs] 9 _ rfl (by simp only [List.map_cons, List.map_nil]; rw [HSVS.out])) (HNX.out.below hba) HCX.out HT40.out (fun s hs => good_len (HNG.out s hs)) (by have := HNL2.out; omega))
                          have HFP2 : Hid (farS ((some ⟨wX.heap.size, 0, none⟩, 1), (some ⟨kX, 0, none⟩, 1), ([t], needF l (rulesOf L) K t)) (Value.slice AO z2 cO).ownBlock) := Lib.hid (farS_new HOI.out (fun g off hA _ => by
                            injection hA with hA; injection hA with hA _ _
                            have := HBR.out.size
                            left
                            omega) (fun g off hA hp => .inl (HFARN.out g off hA hp)))
                          have HRO2 : Hid (rulesOf (LO ++ [((some ⟨wX.heap.size, 0, none⟩, 1), (some ⟨kX, 0, none⟩, 1), ([t], needF l (rulesOf L) K t))]) = ((RA.take (z + 1)).filter (isF l (rulesOf L) K)).map fun s => ([s], needF l (rulesOf L) K s)) := Lib.hid (by
                            rw [HTK2.out, filter_snocT HISF.out, List.map_append, ← HRO.out]
                            unfold rulesOf
                            rw [List.map_append]
                            rfl)
                          have HV1 : Hid (Value.slice (some ⟨wX.heap.size, 0, none⟩) 1 1 = rsT ((some ⟨wX.heap.size, 0, none⟩, 1), (some ⟨kX, 0, none⟩, 1), ([t], needF l (rulesOf L) K t))) := Lib.hid rfl
                          have HV2 : Hid (Value.slice (some ⟨kX, 0, none⟩) 1 1 = rsN ((some ⟨wX.heap.size, 0, none⟩, 1), (some ⟨kX, 0, none⟩, 1), ([t], needF l (rulesOf L) K t))) := Lib.hid (by unfold rsN; simp only []; rw [HNN.out])
                          have HSZ2 := Lib.hid HB8.out.size
                          clear hba
                          go_wp2_with (at_builtin; refine wpList_pushRl (wX.alloc (.cells #[.string bs] 9)) _ _ w8.heap.size AO z2 cO LO ((some ⟨wX.heap.size, 0, none⟩, 1), (some ⟨kX, 0, none⟩, 1), ([t], needF l (rulesOf L) K t)) _ _ HV1.out HV2.out HOI8.out HSZ2.out (by omega) HP.out HFP2.out rfl rfl rfl (by simp [go_sem]) ?_; intro g9 c9 w9' hoi9 hb9)
                          exact ⟨⟨z + 1, z2 + 1, _, c9, _, rfl, by omega, by omega, rfl, HRO2, Lib.hid hoi9, Lib.hid (HB8.out.trans hb9)⟩, measL hltz⟩
                      · have HNE : Hid (needsR (rulesOf L) t ≠ []) := Lib.hid (fun e => hn0 (by rw [← HNN0.out, e]; rfl))
                        have HNF := Lib.hid (needF_more (l := l) (known := K) HNE.out)
                        have hd1 : HD = true := by
                          by_cases hm : t ∈ headsP (rulesOf L)
                          · rw [← HHD.out]; exact heads_mem.1 hm
                          · exact absurd (HOFF.out hm) HNE.out
                        subst hd1
                        have HISF : Hid (isF l (rulesOf L) K t = true) := Lib.hid (by rw [isF_eq, HHD.out]; rfl)
                        have hnn1 : ((nn : Int) == 0) = false := by simp; omega
                        obtain ⟨wX, hwX⟩ : ∃ wX, wr = wX := ⟨_, rfl⟩
                        subst hwX
                        have HBX := HBX0
                        have HBR := HBR0
                        have HOIX := Lib.hid (HOI.out.below HBR.out)
                        have HNX : Hid (Rd wr AN ((needF l (rulesOf L) K t).map sv)) := Lib.hid (by rw [HNF.out]; exact (Rd.of_own HNO.out).below HBP.out)
                        have HCX : Hid ((needF l (rulesOf L) K t).length ≤ cN) := Lib.hid (by rw [HNF.out, HNN0.out]; exact own_cap HNO.out)
                        have HNN : Hid ((needF l (rulesOf L) K t).length = nn) := Lib.hid (by rw [HNF.out]; exact HNN0.out)
                        have HFARN : Hid (∀ g off, AN = some ⟨g, off, none⟩ → 0 < ((needF l (rulesOf L) K t).map sv).length → _ ≤ g) := Lib.hid (fun g off hA _ => own_ge HNO.out g off hA)
                        clear hn0 ec
                        have HSVS : Hid (sv t = .string bs) := HBS
                        have hba := below_new (Below.refl wr.heap.size wr) (.cells #[.string bs] 9)
                        have HOI8 := Lib.hid (HOIX.out.below hba)
                        have HB8 := Lib.hid (below_newL HBX.out hba)
                        have HP : Hid (RsIn ((some ⟨wr.heap.size, 0, none⟩, 1), (AN, cN), ([t], needF l (rulesOf L) K t)) (wr.alloc (.cells #[.string bs] 9))) := Lib.hid (rsIn_one (rd_lit wr _ #[.string bs] 9 _ rfl (by simp only [List.map_cons, List.map_nil]; rw [HSVS.out])) (HNX.out.below hba) HCX.out HT40.out (fun s hs => good_len (HNG.out s hs)) (by have := HNL2.out; omega))
                        have HFP2 : Hid (farS ((some ⟨wr.heap.size, 0, none⟩, 1), (AN, cN), ([t], needF l (rulesOf L) K t)) (Value.slice AO z2 cO).ownBlock) := Lib.hid (farS_new HOI.out (fun g off hA _ => by
                          injection hA with hA; injection hA with hA _ _
                          have := HBR.out.size
                          left
                          omega) (fun g off hA hp => .inl (HFARN.out g off hA hp)))
                        have HRO2 : Hid (rulesOf (LO ++ [((some ⟨wr.heap.size, 0, none⟩, 1), (AN, cN), ([t], needF l (rulesOf L) K t))]) = ((RA.take (z + 1)).filter (isF l (rulesOf L) K)).map fun s => ([s], needF l (rulesOf L) K s)) := Lib.hid (by
                          rw [HTK2.out, filter_snocT HISF.out, List.map_append, ← HRO.out]
                          unfold rulesOf
                          rw [List.map_append]
                          rfl)
                        have HV1 : Hid (Value.slice (some ⟨wr.heap.size, 0, none⟩) 1 1 = rsT ((some ⟨wr.heap.size, 0, none⟩, 1), (AN, cN), ([t], needF l (rulesOf L) K t))) := Lib.hid rfl
                        have HV2 : Hid (Value.slice AN nn cN = rsN ((some ⟨wr.heap.size, 0, none⟩, 1), (AN, cN), ([t], needF l (rulesOf L) K t))) := Lib.hid (by unfold rsN; simp only []; rw [HNN.out])
                        have HSZ2 := Lib.hid HB8.out.size
                        clear hba
                        go_wp2_with (at_builtin; refine wpList_pushRl (wr.alloc (.cells #[.string bs] 9)) _ _ w8.heap.size AO z2 cO LO ((some ⟨wr.heap.size, 0, none⟩, 1), (AN, cN), ([t], needF l (rulesOf L) K t)) _ _ HV1.out HV2.out HOI8.out HSZ2.out (by omega) HP.out HFP2.out rfl rfl rfl (by simp [go_sem]) ?_; intro g9 c9 w9' hoi9 hb9)
                        exact ⟨⟨z + 1, z2 + 1, _, c9, _, rfl, by omega, by omega, rfl, HRO2, Lib.hid hoi9, Lib.hid (HB8.out.trans hb9)⟩, measL hltz⟩
                · obtain rfl : z = nr := by omega
                  have HRR2 : Hid (rulesOf LO = fillR R0 l there) := Lib.hid (by
                    rw [HFO.out HE.out, HRO.out, List.take_of_length_le (by rw [HRL2.out]; exact Nat.le_refl _)]
                    unfold fillP
                    rw [HRAE.out])
                  go_wp2_with fail
                  go_ret2
                  exact ⟨AO, cO, LO, by rw [HE.out, HOI.out.len]; rfl, HOI.out.all, HRR2.out, HBBW.out _ (below_newL HB8w.out HBZ.out)⟩
                    -- END2
    · have HE := Lib.hid (fillE_inf (there := there) HJ0.out hi)
      have HI0 := Lib.hid hi
      have hn0 : (((infE l : Nat) : Int) != 0) = true := by simp; omega
      generalize hv : ((infE l : Nat) : Int) = V at *
      have HV := Lib.hid hv
      clear hi hv
      go_wp2_with fail
      go_ret2
      exact fillPost_no (by rw [HE.out]; exact HI0.out) (by rw [HE.out]; exact HV.out.symm) HB2.out
  · have HE := Lib.hid (fillE_join (l := l) (there := there) hj)
    have HJ0 := Lib.hid hj
    have hn0 : (((joinE R0 : Nat) : Int) != 0) = true := by simp; omega
    generalize hv : ((joinE R0 : Nat) : Int) = V at *
    have HV := Lib.hid hv
    clear hj hv
    go_wp2_with fail
    go_ret2
    exact fillPost_no (by rw [HE.out]; exact HJ0.out) (by rw [HE.out]; exact HV.out.symm) HB1.out
end Go.Proofs.Ytoandhhkmkgmaaa
/- The law InferTells holds of every list of rules, of pairs of suffixes, of names and every name that come in. Conditions: at most 8799999990000 names that are there. -/
namespace Go.Proofs.Ytoandhhkmkgmaaa
open Go.RowKit

theorem fillR_len (r : List RuleT) (l : List SufT) (there : List KeyT) : (fillR r l there).length ≤ 4160 := by
  by_cases h : fillE r l there = 0
  · have hj : joinE r = 0 := by
      by_cases hj : joinE r = 0
      · exact hj
      · rw [fillE_join hj] at h; exact absurd h hj
    have hJ := joinR_facts hj
    rw [fillR_ok h]
    unfold fillP
    rw [List.length_map]
    refine Nat.le_trans (List.length_filter_le _ _) ?_
    rw [← compact_sorted]
    refine Nat.le_trans (Lib.compact_length_le _) ?_
    simp only [List.length_mergeSort]
    exact askedP_len hJ.len hJ.sum
  · rw [fillR_no h]
    exact Nat.zero_le _
theorem int_self (V : Int) : (V == V) = true ∧ (V != V) = false := by simp
set_option maxRecDepth 100000 in
set_option maxHeartbeats 8000000 in
theorem inferTells_any {A B C : Option Addr} {n c m d k e : Nat} (L0 : List RSlot) (l : List SufT) (there : List KeyT) (s : KeyT) (w : World) (hA : RsAll A L0 w) (hn : L0.length = n) (hb : n ≤ 9223372036854775807)
    (hl : Rd w B (macV l)) (hm : l.length = m) (hmb : m ≤ 9223372036854775807) (hmc : m ≤ d) (hls : ∀ x ∈ l, x.1.length ≤ 9223372036854775807 ∧ x.2.length ≤ 9223372036854775807)
    (ht : Rd w C (there.map sv)) (hk : there.length = k) (hkb : k ≤ 8799999990000) (hts : StrsOk there) (hs : s.length ≤ 9223372036854775807) :
    Calls Try.prog 4 #[.slice A n c, .slice B m d, .slice C k e, sv s] w fun e w' => e = .returned (.bool true) ∧ Below w.heap.size w w' := by
  have HO := Lib.hid (iOf_any (c := d) (d := e) l there s w hl hm hmb hmc hls ht hk hkb hts hs)
  have HF := Lib.hid (fun W (hW : Below w.heap.size w W) => infFill_any (c := c) (e := e) L0 l there W (hA.below hW) hn hb (hl.below hW) hm hmb hmc hls (ht.below hW) hk hkb hts)
  have HR := Lib.hid (fun W (hW : Below w.heap.size w W) => rFilled_any (c := c) (e := e) L0 l there W (hA.below hW) hn hb (hl.below hW) hm hmb hmc hls (ht.below hW) hk hkb hts)
  have HI := Lib.hid (fun W (hW : Below w.heap.size w W) => rInfFault_any (c := d) l W (hl.below hW) hm hmb hmc hls)
  have HC := Lib.hid (fun W (hW : Below w.heap.size w W) => infCheck_any (c := d) l W (hl.below hW) hm hmb hmc hls)
  have HGN := Lib.hid (fun W (hW : Below w.heap.size w W) => goodNames_any (c := e) there W (ht.below hW) hk (by omega) hts)
  have HGS := Lib.hid (fun W => goodName_any s W hs)
  have HIN := Lib.hid (fun W (hW : Below w.heap.size w W) (h1 : s.length ≤ 1099511627776) (h2 : ∀ x ∈ l, x.1.length ≤ 1099511627776) => rInferred_any (c := d) (d := e) l there s W (hl.below hW) hm hmb (ht.below hW) hk (by omega) h1 h2)
  have HFL := Lib.hid (fillR_len (rulesOf L0) l there)
  have HS10 := Lib.hid (fun (h : infE l = 0) x (hx : x ∈ l) => (Nat.le_trans (sufB_len ((infE_ok h).2 x hx).1) (by decide) : x.1.length ≤ 1099511627776))
  unfold OfAllPost at HO
  unfold FillPost at HF HR
  unfold sv at HO HGS HIN ⊢
  generalize hbs : (⟨s.toArray⟩ : ByteArray) = bs at *
  generalize rulesOf L0 = R0 at *
  generalize hRR : fillR R0 l there = RR at *
  generalize hfe : ((fillE R0 l there : Nat) : Int) = FE at *
  clear hA hn hl hm hmc hls ht hk hts hs hbs hRR hfe
  go_enter Try.func4, Try.ntmps4
  go_wp2_with fail
  refine HO.out.mono ?_
  rintro e w1 ⟨rfl, hb1⟩
  have HB1 := Lib.hid hb1
  clear hb1
  generalize hX : (⟨(ofV (inR l there s)).toArray⟩ : ByteArray) = X at *
  generalize hIS : (inR l there s).isSome = IS at *
  generalize hV : ((inE l there s : Nat) : Int) = V at *
  have HX := Lib.hid hX
  have HIS := Lib.hid hIS
  have HV := Lib.hid hV
  clear hX hIS hV
  go_wp2_with fail
  refine (HF.out _ HB1.out).mono ?_
  rintro e w2 ⟨A1, c1, L1, rfl, ha1, hr1, hb2⟩
  have HB2 := Lib.hid (below_newL HB1.out hb2)
  have HA1 := Lib.hid ha1
  have HR1 := Lib.hid hr1
  clear ha1 hr1 hb2
  generalize hz : L1.length = z at *
  have HZ := Lib.hid hz
  clear hz
  go_wp2_with fail
  refine (HR.out _ HB2.out).mono ?_
  rintro e w3 ⟨A2, c2, L2, rfl, ha2, hr2, hb3⟩
  have HB3 := Lib.hid (below_newL HB2.out hb3)
  have HA12 := Lib.hid (HA1.out.below hb3)
  have HA2 := Lib.hid ha2
  have HR2 := Lib.hid hr2
  clear ha2 hr2 hb3
  have hz2 : L2.length = z := by
    have h1 := congrArg List.length HR1.out
    have h2 := congrArg List.length HR2.out
    unfold rulesOf at h1 h2
    rw [List.length_map] at h1 h2
    have := HZ.out
    omega
  have hz3 : z ≤ 9223372036854775807 := by
    have h1 := congrArg List.length HR1.out
    unfold rulesOf at h1
    rw [List.length_map] at h1
    have := HZ.out
    have := HFL.out
    omega
  rw [hz2]
  have HZ3 := Lib.hid hz3
  clear hz2 hz3
  go_wp2_with fail
  refine (HI.out _ HB3.out).mono ?_
  rintro e w4 ⟨rfl, hb4⟩
  have HB4 := Lib.hid (below_newL HB3.out hb4)
  have HA14 := Lib.hid (HA12.out.below hb4)
  have HA24 := Lib.hid (HA2.out.below hb4)
  clear hb4
  have HCC := Lib.hid (HC.out w4 HB4.out)
  generalize hU : ((infE l : Nat) : Int) = U at *
  have HU := Lib.hid hU
  clear hU
  have hu0 := (int_self U).2
  have hf0 := (int_self FE).2
  go_wp2_with fail
  refine HCC.out.mono ?_
  rintro e w5 ⟨rfl, hb5⟩
  have HB5 := Lib.hid (below_newL HB4.out hb5)
  have HSR := Lib.hid (sameRules_any (n := z) (c := c1) (d := c2) L1 L2 w5 (HA14.out.below hb5).two (HA24.out.below hb5).two (HR1.out.trans HR2.out.symm) HZ.out HZ3.out)
  clear hb5
  go_wp2_with fail
  refine HSR.out.mono ?_
  rintro e w6 ⟨rfl, hb6⟩
  have HB6 := Lib.hid (below_newL HB5.out hb6)
  clear hb6
  by_cases hi : infE l = 0
  · have HI0 := Lib.hid hi
    obtain rfl : U = 0 := by rw [← HU.out, hi]; rfl
    clear hi
    cases hg : there.all goodName with
    | false =>
      have HE := Lib.hid (inE_there (s := s) HI0.out hg)
      have HRN := Lib.hid (inR_no (l := l) (there := there) (s := s) (by rw [HE.out]; decide))
      have hGN := HGN.out w6 HB6.out
      rw [hg] at hGN
      obtain rfl : V = 3 := by rw [← HV.out, HE.out]; rfl
      obtain rfl : IS = false := by rw [← HIS.out, HRN.out]; rfl
      obtain rfl : X = ⟨#[]⟩ := by rw [← HX.out, HRN.out]; rfl
      have HGN2 := Lib.hid hGN
      clear hg hGN
      go_wp2_with fail
      refine HGN2.out.mono ?_
      rintro e w7 ⟨rfl, rfl⟩
      go_wp2_with fail
      go_ret
      exact ⟨rfl, HB6.out⟩
    | true =>
      have HG := Lib.hid hg
      have hGN := HGN.out w6 HB6.out
      rw [hg] at hGN
      have HGN2 := Lib.hid hGN
      clear hg hGN
      go_wp2_with fail
      refine HGN2.out.mono ?_
      rintro e w7 ⟨rfl, rfl⟩
      cases hq : goodName s with
      | false =>
        have HE := Lib.hid (inE_name HI0.out HG.out hq)
        have HRN := Lib.hid (inR_no (l := l) (there := there) (s := s) (by rw [HE.out]; decide))
        have hGS := HGS.out w6
        rw [hq] at hGS
        obtain rfl : V = 3 := by rw [← HV.out, HE.out]; rfl
        obtain rfl : IS = false := by rw [← HIS.out, HRN.out]; rfl
        obtain rfl : X = ⟨#[]⟩ := by rw [← HX.out, HRN.out]; rfl
        have HGS2 := Lib.hid hGS
        clear hq hGS
        go_wp2_with fail
        refine HGS2.out.mono ?_
        rintro e w8 ⟨rfl, rfl⟩
        go_wp2_with fail
        go_ret
        exact ⟨rfl, HB6.out⟩
      | true =>
        have HE := Lib.hid (inE_ok HI0.out HG.out hq)
        have HRY := Lib.hid (inR_ok HE.out)
        have hGS := HGS.out w6
        rw [hq] at hGS
        have hin := HIN.out w6 HB6.out (by have := good_len40 hq; omega) (HS10.out HI0.out)
        rw [← HRY.out, HX.out, HIS.out] at hin
        obtain rfl : V = 0 := by rw [← HV.out, HE.out]; rfl
        have HGS2 := Lib.hid hGS
        have HIN2 := Lib.hid hin
        clear hq hGS hin
        go_wp2_with fail
        refine HGS2.out.mono ?_
        rintro e w8 ⟨rfl, rfl⟩
        go_wp2_with fail
        refine HIN2.out.mono ?_
        rintro e w9 ⟨rfl, hb9⟩
        have HB9 := Lib.hid (below_newL HB6.out hb9)
        clear hb9
        cases IS with
        | false =>
          go_wp2_with fail
          go_ret
          exact ⟨by simp, HB9.out⟩
        | true =>
          go_wp2_with fail
          go_ret
          exact ⟨by simp, HB9.out⟩
  · have HE := Lib.hid (inE_inf (there := there) (s := s) hi)
    have HRN := Lib.hid (inR_no (l := l) (there := there) (s := s) (by rw [HE.out]; exact hi))
    have hu1 : (U == 0) = false := by rw [← HU.out]; simp; omega
    have hu2 : (U != 0) = true := by rw [← HU.out]; simp; omega
    obtain rfl : V = U := by rw [← HV.out, HE.out]; exact HU.out
    obtain rfl : IS = false := by rw [← HIS.out, HRN.out]; rfl
    obtain rfl : X = ⟨#[]⟩ := by rw [← HX.out, HRN.out]; rfl
    have hu3 := (int_self V).1
    clear hi
    go_wp2_with fail
    go_ret
    exact ⟨rfl, HB6.out⟩
end Go.Proofs.Ytoandhhkmkgmaaa
