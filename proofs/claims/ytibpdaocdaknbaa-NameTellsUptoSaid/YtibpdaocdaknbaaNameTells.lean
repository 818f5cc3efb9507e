/- The law NameTells: always true. Lengths of the lists together at most 4194304; texts shorter than 2^62. -/
import Derived.Test.YtibpdaocdaknbaaName4
import Derived.Test.YtibpdaocdaknbaaName9
import Derived.Test.YtibpdaocdaknbaaName11
import Derived.Test.YtibpdaocdaknbaaName12
namespace Go.Proofs.Ytibpdaocdaknbaa
open Go.RowKit

theorem cut_unique {s : List UInt8} {i j : Nat} (hi : Cut s i) (hj : Cut s j) : i = j := by
  rcases Nat.lt_trichotomy i j with h | h | h
  · exact absurd hj.2.1 (hi.2.2.1 j h).1
  · exact h
  · exact absurd hi.2.1 (hj.2.2.1 i h).1
theorem stem_both (s : List UInt8) (hl : s.length < 4611686018427387904) : ∃ pa pb : List UInt8,
    (∀ w : World, Calls Try.prog 6 #[sv s] w fun e w' => e = .returned (.tuple #[sv pa, sv pb]) ∧ Below w.heap.size w w') ∧
    (∀ w : World, Calls Try.prog 7 #[sv s] w fun e w' => e = .returned (.tuple #[sv pa, sv pb]) ∧ Below w.heap.size w w') := by
  by_cases h : ∃ i, Cut s i
  · obtain ⟨i, hi⟩ := h
    refine ⟨s.take i, s.drop i, fun w => stem_cut s w hl hi, fun w => (rStem_any s w hl).mono ?_⟩
    rintro e w' ⟨⟨j, hj, he⟩ | ⟨hn, _⟩, hb⟩
    · rw [cut_unique hi hj]
      exact ⟨he, hb⟩
    · exact absurd hi (hn i)
  · have hno : ∀ i, ¬ Cut s i := fun i hi => h ⟨i, hi⟩
    refine ⟨s, [], fun w => stem_no s w hl hno, fun w => (rStem_any s w hl).mono ?_⟩
    rintro e w' ⟨⟨j, hj, he⟩ | ⟨_, he⟩, hb⟩
    · exact absurd hj (hno j)
    · exact ⟨he, hb⟩
theorem nameErr_cases (s : List UInt8) : (goodName s = true ∧ nameErr s = 0) ∨ (goodName s = false ∧ nameErr s = 3) := by
  unfold nameErr
  cases h : goodName s with
  | true => exact .inl ⟨rfl, rfl⟩
  | false => exact .inr ⟨rfl, rfl⟩

set_option maxHeartbeats 8000000 in
theorem nameTells_any {A1 A2 : Option Addr} {n1 c1 n2 c2 : Nat} (s : List UInt8) (l1 l2 : List (List UInt8)) (w : World) (h1 : Rd w A1 (l1.map sv)) (h2 : Rd w A2 (l2.map sv)) (hn1 : l1.length = n1) (hn2 : l2.length = n2)
    (hN : n1 + n2 ≤ 4194304) (hs : s.length < 4611686018427387904) (ho : StrsOk (l1 ++ l2)) :
    Calls Try.prog 3 #[sv s, .slice A1 n1 c1, .slice A2 n2 c2] w fun e w' => e = .returned (.bool true) ∧ Below w.heap.size w w' := by
  obtain ⟨pa, pb, hS1, hS2⟩ := stem_both s hs
  have ho1 : StrsOk l1 := fun x hx => ho x (List.mem_append_left _ hx)
  have ho2 : StrsOk l2 := fun x hx => ho x (List.mem_append_right _ hx)
  have S1 := Lib.hid hS1
  have S2 := Lib.hid hS2
  have H1 := Lib.hid h1
  have H2 := Lib.hid h2
  have N1 := Lib.hid hn1
  have N2 := Lib.hid hn2
  have O := Lib.hid ho
  have O1 := Lib.hid ho1
  have O2 := Lib.hid ho2
  have G := Lib.hid (fun w => goodName_any s w (by omega))
  have CK := Lib.hid (fun w => check_any s w (by omega))
  have FD := Lib.hid (fun (A : Option Addr) (n c : Nat) (w : World) (hr : Rd w A ((rising l1).map sv)) (hn : (rising l1).length = n) (hb : n ≤ 1099511627776) => find_any (c := c) (rising l1) s w hr hn hb (rising_up l1))
  have PL := Lib.hid (fun (A : Option Addr) (n c : Nat) (w : World) (hr : Rd w A ((rising l1).map sv)) (hn : (rising l1).length = n) (hb : n ≤ 9223372036854775807) => place_any (c := c) (rising l1) s w hr hn hb)
  clear hS1 hS2 h1 h2 hn1 hn2 ho ho1 ho2 hs
  obtain ⟨va, eva⟩ : ∃ v : ByteArray, v = ⟨s.toArray⟩ := ⟨_, rfl⟩
  obtain ⟨vb, evb⟩ : ∃ v : ByteArray, v = ⟨pa.toArray⟩ := ⟨_, rfl⟩
  obtain ⟨vc, evc⟩ : ∃ v : ByteArray, v = ⟨pb.toArray⟩ := ⟨_, rfl⟩
  have q1 : sv s = .string va := by rw [eva]; rfl
  have q2 : sv pa = .string vb := by rw [evb]; rfl
  have q3 : sv pb = .string vc := by rw [evc]; rfl
  rw [q1] at S1 S2 G CK FD PL ⊢
  rw [q2, q3] at S1 S2
  clear q1 q2 q3 eva evb evc
  rcases nameErr_cases s with ⟨hgs, hzs⟩ | ⟨hgs, hzs⟩
  all_goals
    have GS := Lib.hid hgs
    have ZS := Lib.hid hzs
    clear hgs hzs
    go_enter Try.func3, Try.ntmps3
    go_wp2_with fail
    refine (nSort_any l1 w H1.out N1.out (by omega) O1.out).mono ?_
    rintro e w1 ⟨A7, c7, rfl, r7, b1⟩
    have R7 := Lib.hid r7
    have B1 := Lib.hid b1
    clear r7 b1
    generalize hk : (sortL l1).length = k7
    generalize he : namesErr l1 = e8
    have K7 := Lib.hid hk
    have E8 := Lib.hid he
    clear hk he
    go_wp2_with fail
    refine (nMerge_any l1 l2 w1 (H1.out.below B1.out) (H2.out.below B1.out) N1.out N2.out (by omega) O.out).mono ?_
    rintro e w2 ⟨A9, c9, rfl, r9, b2⟩
    have R9 := Lib.hid r9
    have B2 := Lib.hid (below_then B1.out b2)
    have R7' := Lib.hid (R7.out.below b2)
    clear r9 b2 R7
    generalize hk : (mergeL (l1 ++ l2)).length = k9
    generalize he : mergeErr (l1 ++ l2) = e10
    have K9 := Lib.hid hk
    have E10 := Lib.hid he
    clear hk he
    go_wp2_with fail
    refine (S1.out _).mono ?_
    rintro e w3 ⟨rfl, b3⟩
    have B3 := Lib.hid (below_then B2.out b3)
    have R93 := Lib.hid (R9.out.below b3)
    have R73 := Lib.hid (R7'.out.below b3)
    clear b3 R9 R7'
    go_wp2_with fail
    refine (S2.out _).mono ?_
    rintro e w4 ⟨rfl, b4⟩
    have B4 := Lib.hid (below_then B3.out b4)
    have R94 := Lib.hid (R93.out.below b4)
    have R74 := Lib.hid (R73.out.below b4)
    clear b4 R93 R73
    go_wp2_with fail
    refine (G.out _).mono ?_
    rintro e w' ⟨rfl, rfl⟩
    rw [GS.out]
    go_wp2_with fail
    refine (CK.out _).mono ?_
    rintro e w' ⟨rfl, rfl⟩
    rw [ZS.out]
    go_wp2_with fail
    refine (goodNames_any l1 _ (H1.out.below B4.out) N1.out (by omega) O1.out).mono ?_
    rintro e w' ⟨rfl, rfl⟩
    cases hg1 : l1.all goodName with
    | false =>
      have hs0 : sortL l1 = [] := by unfold sortL; rw [hg1]; rfl
      have hga : (l1 ++ l2).all goodName = false := by rw [List.all_append, hg1]; rfl
      have hs1 : sortL (l1 ++ l2) = [] := by unfold sortL; rw [hga]; rfl
      have hm : mergeL (l1 ++ l2) = [] := by unfold mergeL; rw [hs1]; rfl
      obtain rfl : k7 = 0 := by rw [← K7.out, hs0]; rfl
      obtain rfl : e8 = 3 := by rw [← E8.out]; unfold namesErr; rw [hg1]; rfl
      obtain rfl : k9 = 0 := by rw [← K9.out, hm]; rfl
      obtain rfl : e10 = 3 := by rw [← E10.out]; unfold mergeErr namesErr; rw [hs1, hga]; rfl
      clear hs0 hga hs1 hm hg1
      go_wp2_with fail
      go_ret
      exact ⟨by simp, B4.out⟩
    | true =>
      have hs0 : sortL l1 = rising l1 := by unfold sortL; rw [hg1]; rfl
      have HG1 := Lib.hid hg1
      have HS0 := Lib.hid hs0
      obtain rfl : e8 = 0 := by rw [← E8.out]; unfold namesErr; rw [hg1]; rfl
      clear hs0 hg1
      go_wp2_with fail
      refine (rRising_any l1 w4 (H1.out.below B4.out) N1.out (by omega)).mono ?_
      rintro e w5 ⟨A5, c5, rfl, r5, b5⟩
      have R5 := Lib.hid r5
      have B5 := Lib.hid (below_then B4.out b5)
      have R95 := Lib.hid (R94.out.below b5)
      have R75 := Lib.hid (R74.out.below b5)
      clear r5 b5 R94 R74
      have hk5 : (rising l1).length = k7 := by rw [← K7.out, HS0.out]
      have hk7 : k7 ≤ 1099511627776 := by
        rw [← hk5]
        have := (Lib.compact_length_le (ms l1))
        rw [show Lib.compact (ms l1) = rising l1 from compact_sorted l1, ms_len, N1.out] at this
        omega
      rw [hk5]
      have HK5 := Lib.hid hk5
      clear hk5
      go_wp2_with fail
      refine (FD.out _ _ _ _ R5.out HK5.out hk7).mono ?_
      rintro e w' ⟨rfl, rfl⟩
      go_wp2_with fail
      refine (PL.out _ _ _ _ R5.out HK5.out (by omega)).mono ?_
      rintro e w' ⟨i, rfl, rfl, hi⟩
      have hj : (i = -1 ∧ hasS (rising l1) s = false ∧ placeMax (rising l1) s = 0) ∨ (∃ k : Nat, i = (k : Int) ∧ hasS (rising l1) s = true ∧ placeMax (rising l1) s = (k : Int)) := by
        rcases hi with ⟨rfl, hno⟩ | ⟨k, rfl, hk⟩
        · exact .inl ⟨rfl, by unfold hasS; simp [hno], by unfold placeMax; rw [if_neg hno]⟩
        · exact .inr ⟨k, rfl, by unfold hasS; simp [List.mem_of_getElem? hk], placeMax_in (rising_up l1) (List.mem_of_getElem? hk) hk⟩
      clear hi
      rcases hj with ⟨rfl, hh, hp⟩ | ⟨kk, rfl, hh, hp⟩
      all_goals
        rw [hh, hp]
        clear hh hp
        go_wp2_with fail
        refine (slSelf_any (rising l1) w5 (by have := R75.out; rw [HS0.out] at this; exact this) R5.out HK5.out (by omega)).mono ?_
        rintro e w6 ⟨rfl, b6⟩
        have B6 := Lib.hid (below_then B5.out b6)
        have R96 := Lib.hid (R95.out.below b6)
        clear b6
        go_wp2_with fail
        refine (goodNames_any l2 _ (H2.out.below B6.out) N2.out (by omega) O2.out).mono ?_
        rintro e w' ⟨rfl, rfl⟩
        cases hg2 : l2.all goodName with
        | false =>
          have hga : (l1 ++ l2).all goodName = false := by rw [List.all_append, hg2]; simp
          have hs1 : sortL (l1 ++ l2) = [] := by unfold sortL; rw [hga]; rfl
          have hm : mergeL (l1 ++ l2) = [] := by unfold mergeL; rw [hs1]; rfl
          obtain rfl : k9 = 0 := by rw [← K9.out, hm]; rfl
          obtain rfl : e10 = 3 := by rw [← E10.out]; unfold mergeErr namesErr; rw [hs1, hga]; rfl
          clear hga hs1 hm hg2
          go_wp2_with fail
          go_ret
          exact ⟨by simp, B6.out⟩
        | true =>
          have hga : (l1 ++ l2).all goodName = true := by rw [List.all_append, hg2, HG1.out]; rfl
          have hs1 : sortL (l1 ++ l2) = rising (l1 ++ l2) := by unfold sortL; rw [hga]; rfl
          have HS1 := Lib.hid hs1
          have HGA := Lib.hid hga
          clear hga hs1 hg2
          go_wp2_with fail
          refine (sClone_any l1 w6 (H1.out.below B6.out) N1.out (by omega)).mono ?_
          rintro e w7 ⟨A8, c8, rfl, o8, b8⟩
          have O8 := Lib.hid o8
          have hsz := b8.size
          have B7 := Lib.hid (below_then B6.out b8)
          have R2 := Lib.hid (H2.out.below (below_then B6.out b8))
          have B8 := Lib.hid b8
          clear o8 b8
          go_wp2_with (at_builtin; refine wpList_cat elStr w7 _ _ w6.heap.size A8 n1 c8 (l1.map sv) A2 n2 c2 (l2.map sv) O8.out R2.out (by rw [List.length_map]; exact N2.out) (sv_one l2) hsz (by omega) (by omega) rfl rfl rfl rfl ?_; intro A' c' w8 hown5 hb5)
          rw [← List.map_append] at hown5
          have O9 := Lib.hid (Rd.of_own hown5)
          have B9 := Lib.hid (B8.out.trans hb5)
          clear hown5 hb5 hsz
          go_wp2_with fail
          refine (rRising_any (l1 ++ l2) w8 O9.out (by simp [N1.out, N2.out]) hN).mono ?_
          rintro e w9 ⟨A10, c10, rfl, r10, b10⟩
          have R10 := Lib.hid r10
          have B10 := Lib.hid (below_then (below_then B6.out B9.out) b10)
          have R910 := Lib.hid (R96.out.below (below_then B9.out b10))
          clear r10 b10
          have hk10 : (rising (l1 ++ l2)).length ≤ n1 + n2 := by
            have := (Lib.compact_length_le (ms (l1 ++ l2)))
            rw [show Lib.compact (ms (l1 ++ l2)) = rising (l1 ++ l2) from compact_sorted (l1 ++ l2), ms_len, List.length_append, N1.out, N2.out] at this
            exact this
          by_cases hle : (rising (l1 ++ l2)).length ≤ 64
          · have hm : mergeL (l1 ++ l2) = rising (l1 ++ l2) := by unfold mergeL; rw [HS1.out, if_pos hle]
            obtain rfl : e10 = 0 := by rw [← E10.out]; unfold mergeErr namesErr; rw [HS1.out, if_pos hle, HGA.out]; rfl
            have hk : (rising (l1 ++ l2)).length = k9 := by rw [← K9.out, hm]
            have HM := Lib.hid hm
            rw [hk] at hle hk10 ⊢
            have HK := Lib.hid hk
            clear hk hm
            go_wp2_with fail
            refine (slSelf_any (rising (l1 ++ l2)) w9 (by have := R910.out; rw [HM.out] at this; exact this) R10.out HK.out (by omega)).mono ?_
            rintro e w10 ⟨rfl, b11⟩
            have B11 := Lib.hid (below_then B10.out b11)
            clear b11
            go_wp2_with fail
            go_ret
            exact ⟨by simp, B11.out⟩
          · have hm : mergeL (l1 ++ l2) = [] := by unfold mergeL; rw [HS1.out, if_neg hle]
            obtain rfl : e10 = 2 := by rw [← E10.out]; unfold mergeErr; rw [HS1.out, if_neg hle]
            obtain rfl : k9 = 0 := by rw [← K9.out, hm]; rfl
            generalize (rising (l1 ++ l2)).length = k10 at hle hk10 ⊢
            clear hm
            go_wp2_with fail
            go_ret
            exact ⟨by simp, B10.out⟩

theorem nameTells_walk (s0 : List UInt8) (A1 : Option Addr) (c1 : Nat) (l1 : List (List UInt8)) (A2 : Option Addr) (c2 : Nat) (l2 : List (List UInt8)) (W : World) (hb0 : s0.length ≤ 140737488351232)
    (hl1 : Rd W A1 (l1.map sv)) (_hb1 : l1.length * 16 ≤ 140737488351232) (hs1 : ∀ x ∈ l1, x.length ≤ maxLen) (hl2 : Rd W A2 (l2.map sv)) (_hb2 : l2.length * 16 ≤ 140737488351232) (hs2 : ∀ x ∈ l2, x.length ≤ maxLen) (hu : l1.length + l2.length ≤ 1048576) :
    Calls Try.prog 3 #[sv s0, .slice A1 l1.length c1, .slice A2 l2.length c2] W fun e W' => e = .returned (.bool true) ∧ Below W.heap.size W W' := by
  have hm : maxLen = 9223372036854775807 := by unfold maxLen; rfl
  exact nameTells_any s0 l1 l2 W hl1 hl2 rfl rfl (by omega) (by omega) (fun x hx => by
    rcases List.mem_append.1 hx with h | h
    · have := hs1 x h; omega
    · have := hs2 x h; omega)
end Go.Proofs.Ytibpdaocdaknbaa
