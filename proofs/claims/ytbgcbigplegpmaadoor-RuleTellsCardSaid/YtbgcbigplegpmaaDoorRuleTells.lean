/- The law RuleTells, walked: for every rule, text and row of rules it returns true and only new blocks are made. Lists and texts below 2^63. -/
import Derived.Test.YtbgcbigplegpmaaDoorRl5
import Derived.Test.YtbgcbigplegpmaaDoorRl11
namespace Go.Proofs.YtbgcbigplegpmaaDoor
open Go.RowKit

theorem parse_small {s : List UInt8} (h : s.length ≤ 500) : (parseR s).2.1.length ≤ 9223372036854775807 ∧ (parseR s).2.2.length ≤ 9223372036854775807 := by
  have h1 : ∀ k, (wordsL (s.take k)).length ≤ 501 := fun k => by have := words_len (s.take k); have := take_le500 h k; omega
  have h2 : ∀ k, (wordsL (s.drop k)).length ≤ 501 := fun k => by have := words_len (s.drop k); have := drop_le500 h k; omega
  unfold parseR
  split
  · split
    · exact ⟨Nat.le_trans (h1 _) (by decide), Nat.le_trans (h2 _) (by decide)⟩
    · exact ⟨by simp, by simp⟩
  · exact ⟨by simp, by simp⟩
theorem rsRd_one {w : World} {b : Nat} {P1 P2 : Option Addr} {c1 c2 : Nat} {r : RuleT} (h : RdTwo ((P1, c1), (P2, c2), r) w) (hb : Below w.heap.size w (w.alloc (.cells #[.slice P1 r.1.length c1, .slice P2 r.2.length c2] 24))) (he : b = w.heap.size) :
    RsRd (some ⟨b, 0, none⟩) [((P1, c1), (P2, c2), r)] (w.alloc (.cells #[.slice P1 r.1.length c1, .slice P2 r.2.length c2] 24)) :=
  ⟨rd_lit w b _ _ _ he rfl, fun x hx => by rw [List.mem_singleton.1 hx]; exact h.below hb⟩
theorem RsRd.below {A : Option Addr} {L : List RSlot} {w w' : World} (h : RsRd A L w) (hb : Below w.heap.size w w') : RsRd A L w' := ⟨h.rd.below hb, fun x hx => (h.each x hx).below hb⟩
set_option maxRecDepth 100000 in
set_option maxHeartbeats 8000000 in
theorem ruleTells_walk {A1 A2 : Option Addr} {n1 c1 n2 c2 : Nat} {r : RuleT} (s : List UInt8) (A : Option Addr) (c : Nat) (L : List RSlot) (w : World) (hr : RlIn A1 n1 c1 A2 n2 c2 r w) (hs : s.length ≤ 9223372036854775807) (hA : RsAll A L w) (hL : L.length ≤ 9223372036854775807) :
    Calls Tryd.prog 3 #[rlV A1 n1 c1 A2 n2 c2, .string ⟨s.toArray⟩, .slice A L.length c] w fun e w' => e = .returned (.bool true) ∧ Below w.heap.size w w' := by
  have HR := Lib.hid hr
  have HA := Lib.hid hA
  have HL := Lib.hid hL
  generalize hn : L.length = n at *
  have HN := Lib.hid hn
  obtain ⟨x, y⟩ := box_two w (.slice A1 n1 c1) (.slice A2 n2 c2) 24
  have X := Lib.hid x
  have Y := Lib.hid y
  have hsz : (⟨s.toArray⟩ : ByteArray).size = s.length := rfl
  clear hr hA hn x y hL
  by_cases h5 : 500 < s.length
  · generalize (⟨s.toArray⟩ : ByteArray) = bs at *
    have h5i : (500 : Int) < (bs.size : Int) := by omega
    clear h5 hs hsz
    unfold rlV
    go_enter Tryd.func3, Tryd.ntmps3
    go_wp2_with fail
    go_ret
    exact ⟨rfl, Y.out⟩
  have h500 : s.length ≤ 500 := by omega
  have h5i : ¬ (500 : Int) < ((⟨s.toArray⟩ : ByteArray).size : Int) := by omega
  have CP := Lib.hid (fun W => rlParse_any s W h500)
  have CRR := Lib.hid (fun W => rRuleRead_any s W h500)
  have HPS := Lib.hid (parse_small h500)
  have CPR := Lib.hid (fun W (hW : Below w.heap.size w W) => rlPrint_any W (HR.out.below hW))
  have CCK := Lib.hid (fun W (hW : Below w.heap.size w W) => rlCheck_any W (HR.out.below hW))
  have CFT := Lib.hid (fun W (hW : Below w.heap.size w W) => rFault_any W (HR.out.below hW))
  have CTX := Lib.hid (fun W (hW : Below w.heap.size w W) h0 => rText_rl W (HR.out.below hW) h0)
  have CJ := Lib.hid (fun W (hW : Below w.heap.size w W) => rlJoin_any (c := c) L W (HA.out.below hW) HN.out HL.out)
  have CRJ := Lib.hid (fun W (hW : Below w.heap.size w W) => rJoined_any (c := c) L W (HA.out.below hW) HN.out HL.out)
  unfold rlV at CPR CCK CFT CTX
  unfold PrPost at CPR
  unfold PaPost rlV at CP CRR
  unfold rlV
  generalize hbs : (⟨s.toArray⟩ : ByteArray) = bs at *
  clear h5 hs hsz h500 hbs
  generalize hpr : parseR s = pr at *
  obtain ⟨pe, pt, pn⟩ := pr
  simp only [] at CP CRR HPS
  have hjl : Hid ((joinR (rulesOf L)).length ≤ 9223372036854775807) := Lib.hid (by
    by_cases hj : joinE (rulesOf L) = 0
    · rw [joinR_ok hj, List.length_map]
      have : ¬ 64 < (tgtsR (rulesOf L)).length := fun h => by
        unfold joinE at hj
        split at hj
        · cases hj
        split at hj
        · rename_i h2; exact h2 hj
        split at hj
        · cases hj
        · rename_i h3; exact h3 (.inl h)
      omega
    · rw [joinR_no hj]; simp)
  go_enter Tryd.func3, Tryd.ntmps3
  go_upto_region 1 with fail
  generalize w.alloc (.cells #[.slice A1 n1 c1, .slice A2 n2 c2] 24) = w0 at *
  obtain ⟨tb, htb⟩ : ∃ tb : ByteArray, (⟨(if rlE r = 0 then rlText r else []).toArray⟩ : ByteArray) = tb := ⟨_, rfl⟩
  rw [htb] at CPR
  have HTB := Lib.hid htb
  clear hpr htb
  obtain ⟨x1, x2⟩ := X.out
  go_wp2_with fail
  refine (CPR.out _ Y.out).mono ?_
  rintro e w1 ⟨rfl, hb1⟩
  have HB1 := Lib.hid (below_newL Y.out hb1)
  have X1 := Lib.hid (X.out.below hb1)
  clear hb1 x1 x2
  go_wp2_with fail
  refine (CP.out _).mono ?_
  rintro e w2 ⟨P1, p1, P2, p2, rfl, hp1, hp2, hb2⟩
  have hba2 := below_new (Below.refl w2.heap.size w2) (.cells #[.slice P1 pt.length p1, .slice P2 pn.length p2] 24)
  have HPA : Hid (RdTwo ((P1, p1), (P2, p2), (pt, pn)) (w2.alloc (.cells #[.slice P1 pt.length p1, .slice P2 pn.length p2] 24))) := Lib.hid (RdTwo.below ⟨hp1, hp2, HPS.out.1, HPS.out.2⟩ hba2)
  obtain ⟨bx2, _⟩ := box_two w2 (.slice P1 pt.length p1) (.slice P2 pn.length p2) 24
  have BXA := Lib.hid bx2
  have HB2 := Lib.hid (below_newL (below_newL HB1.out hb2) hba2)
  have X2 := Lib.hid ((X1.out.below hb2).below hba2)
  clear hp1 hp2 hb2 hba2 bx2
  go_upto_region 5 with fail
  generalize w2.alloc (.cells #[.slice P1 pt.length p1, .slice P2 pn.length p2] 24) = w3 at *
  generalize w2.heap.size = BA at *
  go_wp2_with fail
  refine (CJ.out _ HB2.out).mono ?_
  rintro e w4 ⟨AJ, cj, LJ, rfl, hrj, hej, hb4⟩
  have HRJ := Lib.hid hrj
  have HEJ := Lib.hid hej
  have HB4 := Lib.hid (below_newL HB2.out hb4)
  have X4 := Lib.hid (X2.out.below hb4)
  have BXA4 := Lib.hid (BXA.out.below hb4)
  have HPA4 := Lib.hid (HPA.out.below hb4)
  clear hrj hej hb4
  go_wp2_with fail
  refine (CRR.out _).mono ?_
  rintro e w5 ⟨Q1, q1, Q2, q2, rfl, hp1, hp2, hb5⟩
  have hba5 := below_new (Below.refl w5.heap.size w5) (.cells #[.slice Q1 pt.length q1, .slice Q2 pn.length q2] 24)
  have HPB : Hid (RdTwo ((Q1, q1), (Q2, q2), (pt, pn)) (w5.alloc (.cells #[.slice Q1 pt.length q1, .slice Q2 pn.length q2] 24))) := Lib.hid (RdTwo.below ⟨hp1, hp2, HPS.out.1, HPS.out.2⟩ hba5)
  obtain ⟨bx5, _⟩ := box_two w5 (.slice Q1 pt.length q1) (.slice Q2 pn.length q2) 24
  have BXB := Lib.hid bx5
  have HB5 := Lib.hid (below_newL (below_newL HB4.out hb5) hba5)
  have X5 := Lib.hid ((X4.out.below hb5).below hba5)
  have BXA5 := Lib.hid ((BXA4.out.below hb5).below hba5)
  have HPA5 := Lib.hid ((HPA4.out.below hb5).below hba5)
  have HRJ5 := Lib.hid ((HRJ.out.below hb5).below hba5)
  clear hp1 hp2 hb5 hba5 bx5
  go_upto_region 7 with fail
  generalize w5.alloc (.cells #[.slice Q1 pt.length q1, .slice Q2 pn.length q2] 24) = w6 at *
  generalize w5.heap.size = BB at *
  go_wp2_with fail
  refine (CRJ.out _ HB5.out).mono ?_
  rintro e w7 ⟨AK, ck, LK, rfl, hrk, hek, hb7⟩
  have HRK := Lib.hid hrk
  have HEK := Lib.hid hek
  have hkl : LK.length = LJ.length := by
    have h := congrArg List.length (hek.trans HEJ.out.symm)
    unfold rulesOf at h
    simpa using h
  rw [hkl]
  have HB7 := Lib.hid (below_newL HB5.out hb7)
  have X7 := Lib.hid (X5.out.below hb7)
  have BXA7 := Lib.hid (BXA5.out.below hb7)
  have BXB7 := Lib.hid (BXB.out.below hb7)
  have HPA7 := Lib.hid (HPA5.out.below hb7)
  have HPB7 := Lib.hid (HPB.out.below hb7)
  have HRJ7 := Lib.hid (HRJ5.out.below hb7)
  clear hrk hek hb7 hkl
  obtain ⟨x1, x2⟩ := X7.out
  go_wp2_with fail
  refine (CFT.out _ HB7.out).mono ?_
  rintro e w8 ⟨rfl, hb8⟩
  have HB8 := Lib.hid (below_newL HB7.out hb8)
  have X8 := Lib.hid (X7.out.below hb8)
  have BXA8 := Lib.hid (BXA7.out.below hb8)
  have BXB8 := Lib.hid (BXB7.out.below hb8)
  have HPA8 := Lib.hid (HPA7.out.below hb8)
  have HPB8 := Lib.hid (HPB7.out.below hb8)
  have HRJ8 := Lib.hid (HRJ7.out.below hb8)
  have HRK8 := Lib.hid (HRK.out.below hb8)
  clear hb8 x1 x2
  obtain ⟨x1, x2⟩ := X8.out
  go_wp2_with fail
  refine (CCK.out _ HB8.out).mono ?_
  rintro e w9 ⟨rfl, hb9⟩
  have HB9 := Lib.hid (below_newL HB8.out hb9)
  have X9 := Lib.hid (X8.out.below hb9)
  have BXA9 := Lib.hid (BXA8.out.below hb9)
  have BXB9 := Lib.hid (BXB8.out.below hb9)
  have HPA9 := Lib.hid (HPA8.out.below hb9)
  have HPB9 := Lib.hid (HPB8.out.below hb9)
  have HRJ9 := Lib.hid (HRJ8.out.below hb9)
  have HRK9 := Lib.hid (HRK8.out.below hb9)
  clear hb9 x1 x2
  obtain ⟨x1, x2⟩ := X9.out
  have HLJ : Hid (LJ.length ≤ 9223372036854775807) := Lib.hid (by have h := hjl.out; rw [← HEJ.out] at h; unfold rulesOf at h; rwa [List.length_map] at h)
  clear X X1 X2 X4 X5 X7 X8 BXA BXA4 BXA5 BXA7 BXA8 BXB BXB7 BXB8 HPA HPA4 HPA5 HPA7 HPA8 HPB HPB7 HPB8 HRJ HRJ5 HRJ7 HRJ8 HRK HRK8 HB1 HB2 HB4 HB5 HB7 HB8 CP CRR CPR CCK CFT CJ CRJ
  by_cases h0 : rlE r = 0
  · have HX := Lib.hid (fun W hW => CTX.out W hW h0)
    have HTE : Hid ((⟨(rlText r).toArray⟩ : ByteArray) = tb) := Lib.hid (by rw [← HTB.out, if_pos h0])
    rw [HTE.out] at HX
    rw [h0]
    clear h0 CTX HTB
    go_wp2_with fail
    refine (HX.out _ HB9.out).mono ?_
    rintro e wt ⟨rfl, hbt⟩
    have HBz := Lib.hid (below_newL HB9.out hbt)
    have BXAz := Lib.hid (BXA9.out.below hbt)
    have BXBz := Lib.hid (BXB9.out.below hbt)
    have HPAz := Lib.hid (HPA9.out.below hbt)
    have HPBz := Lib.hid (HPB9.out.below hbt)
    have HRJz := Lib.hid (HRJ9.out.below hbt)
    have HRKz := Lib.hid (HRK9.out.below hbt)
    clear hbt x1 x2
    obtain ⟨ya1, ya2⟩ := BXAz.out
    have hbA := below_new (Below.refl wt.heap.size wt) (.cells #[.slice P1 pt.length p1, .slice P2 pn.length p2] 24)
    obtain ⟨yb1, yb2⟩ := BXBz.out.below hbA
    have hbB := below_new (Below.refl (wt.alloc (.cells #[.slice P1 pt.length p1, .slice P2 pn.length p2] 24)).heap.size (wt.alloc (.cells #[.slice P1 pt.length p1, .slice P2 pn.length p2] 24))) (.cells #[.slice Q1 pt.length q1, .slice Q2 pn.length q2] 24)
    have CS1 := Lib.hid (sameRules_any (n := 1) (c := 1) (d := 1) [((P1, p1), (P2, p2), (pt, pn))] [((Q1, q1), (Q2, q2), (pt, pn))] ((wt.alloc (.cells #[.slice P1 pt.length p1, .slice P2 pn.length p2] 24)).alloc (.cells #[.slice Q1 pt.length q1, .slice Q2 pn.length q2] 24)) ((rsRd_one (b := wt.heap.size) HPAz.out hbA rfl).below hbB) (rsRd_one (b := wt.heap.size + 1) (HPBz.out.below hbA) hbB (by simp)) rfl rfl (by decide))
    have HBz2 := Lib.hid (below_newL (below_newL HBz.out hbA) hbB)
    have CS2 := Lib.hid (fun W (hW : Below ((wt.alloc (.cells #[.slice P1 pt.length p1, .slice P2 pn.length p2] 24)).alloc (.cells #[.slice Q1 pt.length q1, .slice Q2 pn.length q2] 24)).heap.size ((wt.alloc (.cells #[.slice P1 pt.length p1, .slice P2 pn.length p2] 24)).alloc (.cells #[.slice Q1 pt.length q1, .slice Q2 pn.length q2] 24)) W) => sameRules_any (n := LJ.length) (c := cj) (d := ck) LJ LK W (((HRJz.out.below hbA).below hbB).below hW).two (((HRKz.out.below hbA).below hbB).below hW).two (HEJ.out.trans HEK.out.symm) rfl HLJ.out)
    clear hbA hbB
    go_wp2_with fail
    refine CS1.out.mono ?_
    rintro e u1 ⟨rfl, hu1⟩
    have HU1 := Lib.hid (below_newL HBz2.out hu1)
    have CS3 := Lib.hid (CS2.out u1 hu1)
    clear hu1 ya1 ya2 yb1 yb2
    go_wp2_with fail
    refine CS3.out.mono ?_
    rintro e u2 ⟨rfl, hu2⟩
    have HU2 := Lib.hid (below_newL HU1.out hu2)
    clear hu2
    go_wp2_with fail
    go_ret
    exact ⟨rfl, HU2.out⟩
  · have HTE : Hid (tb = ⟨#[]⟩) := Lib.hid (by rw [← HTB.out, if_neg h0])
    have hn0 : (((rlE r : Nat) : Int) != 0) = true := by simp; omega
    have hn1 : (((rlE r : Nat) : Int) == 0) = false := by simp; omega
    have htb := HTE.out
    subst htb
    generalize ((rlE r : Nat) : Int) = ev at *
    clear h0 CTX HTB HTE
    obtain ⟨ya1, ya2⟩ := BXA9.out
    have hbA := below_new (Below.refl w9.heap.size w9) (.cells #[.slice P1 pt.length p1, .slice P2 pn.length p2] 24)
    obtain ⟨yb1, yb2⟩ := BXB9.out.below hbA
    have hbB := below_new (Below.refl (w9.alloc (.cells #[.slice P1 pt.length p1, .slice P2 pn.length p2] 24)).heap.size (w9.alloc (.cells #[.slice P1 pt.length p1, .slice P2 pn.length p2] 24))) (.cells #[.slice Q1 pt.length q1, .slice Q2 pn.length q2] 24)
    have CS1 := Lib.hid (sameRules_any (n := 1) (c := 1) (d := 1) [((P1, p1), (P2, p2), (pt, pn))] [((Q1, q1), (Q2, q2), (pt, pn))] ((w9.alloc (.cells #[.slice P1 pt.length p1, .slice P2 pn.length p2] 24)).alloc (.cells #[.slice Q1 pt.length q1, .slice Q2 pn.length q2] 24)) ((rsRd_one (b := w9.heap.size) HPA9.out hbA rfl).below hbB) (rsRd_one (b := w9.heap.size + 1) (HPB9.out.below hbA) hbB (by simp)) rfl rfl (by decide))
    have HBz2 := Lib.hid (below_newL (below_newL HB9.out hbA) hbB)
    have CS2 := Lib.hid (fun W (hW : Below ((w9.alloc (.cells #[.slice P1 pt.length p1, .slice P2 pn.length p2] 24)).alloc (.cells #[.slice Q1 pt.length q1, .slice Q2 pn.length q2] 24)).heap.size ((w9.alloc (.cells #[.slice P1 pt.length p1, .slice P2 pn.length p2] 24)).alloc (.cells #[.slice Q1 pt.length q1, .slice Q2 pn.length q2] 24)) W) => sameRules_any (n := LJ.length) (c := cj) (d := ck) LJ LK W (((HRJ9.out.below hbA).below hbB).below hW).two (((HRK9.out.below hbA).below hbB).below hW).two (HEJ.out.trans HEK.out.symm) rfl HLJ.out)
    clear hbA hbB
    go_wp2_with fail
    refine CS1.out.mono ?_
    rintro e u1 ⟨rfl, hu1⟩
    have HU1 := Lib.hid (below_newL HBz2.out hu1)
    have CS3 := Lib.hid (CS2.out u1 hu1)
    clear hu1 ya1 ya2 yb1 yb2
    go_wp2_with fail
    refine CS3.out.mono ?_
    rintro e u2 ⟨rfl, hu2⟩
    have HU2 := Lib.hid (below_newL HU1.out hu2)
    clear hu2
    go_wp2_with fail
    go_ret
    exact ⟨rfl, HU2.out⟩
end Go.Proofs.YtbgcbigplegpmaaDoor
