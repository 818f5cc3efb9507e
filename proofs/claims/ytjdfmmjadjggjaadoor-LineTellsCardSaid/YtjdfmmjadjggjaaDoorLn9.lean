/- Contract: line.join. -/
import Derived.Test.YtjdfmmjadjggjaaDoorLn8
namespace Go.Proofs.YtjdfmmjadjggjaaDoor
open Go.RowKit

theorem sCut_any (s : List UInt8) (m : Int) (w : World) (hl : s.length ≤ 1048576) (hm : w.cell? ⟨0, 0, none⟩ = some (.int .i64 m)) :
    Calls Tryd.prog 30 #[.string ⟨s.toArray⟩, .string ⟨#[10]⟩] w fun e w' => ∃ x, e = .returned (.tuple #[.string ⟨(frontN s).toArray⟩, .string ⟨(backN s).toArray⟩, .bool x]) ∧ Below w.heap.size w w' := by
  obtain ⟨x, hx⟩ := cut_nl s
  refine (Tryd.strings_Cut ⟨s.toArray⟩ ⟨#[10]⟩ m w (show s.length < _ by omega) hm).mono ?_
  rintro e w' ⟨rfl, n, rfl⟩
  refine ⟨x, ?_, below_of_drewN _ _⟩
  rw [show (⟨s.toArray⟩ : ByteArray).data.toList = s from rfl, show (⟨#[10]⟩ : ByteArray).data.toList = [10] from rfl, hx]
theorem sCutB_any (s : List UInt8) (w : World) (hl : s.length ≤ 1048576) :
    Calls Tryd.prog 32 #[.string ⟨s.toArray⟩, .string ⟨#[92]⟩] w fun e w' => e = .returned (.tuple #[.string ⟨(if endsB s then s.dropLast else s).toArray⟩, .bool (endsB s)]) ∧ w' = w := by
  obtain ⟨h1, h2⟩ := suffix_B s
  have h := Tryd.strings_CutSuffix ⟨s.toArray⟩ ⟨#[92]⟩ w (show s.length ≤ _ by omega)
  rw [show (⟨s.toArray⟩ : ByteArray).data.toList = s from rfl, show (⟨#[92]⟩ : ByteArray).data.toList = [92] from rfl, h1, h2] at h
  exact h
theorem trimLL_le (s : List UInt8) : (trimLL s).length ≤ s.length := by unfold trimLL; exact (List.dropWhile_sublist _).length_le
theorem front_back (s : List UInt8) : (frontN s).length + (backN s).length ≤ s.length := by
  rcases index_nl s with ⟨_, h2, h3⟩ | ⟨i, h1, h2, h3⟩
  · rw [h2, h3]; simp
  · rw [h2, h3, List.length_take, List.length_drop]; omega
theorem pc_keepL {w w' : World} {b o : Nat} {v : Value} (h : w.cell? ⟨b, o, none⟩ = some v) (hb : Below w.heap.size w w') : w'.cell? ⟨b, o, none⟩ = some v := (hb.cell (p := ⟨b, o, none⟩) (lt_of_cell' h)).trans h
def JnPost (s : List UInt8) (w : World) (e : Ending) (w' : World) : Prop :=
  ∃ A c, e = .returned (.slice A (joinL 0 (linesN s)).length c) ∧ w'.ownsRow w.heap.size 34 2 (.slice A (joinL 0 (linesN s)).length c) (joinL 0 (linesN s)).length (lnV (joinL 0 (linesN s))) ∧ Below w.heap.size w w'
set_option maxRecDepth 100000 in
set_option maxHeartbeats 4000000 in
theorem lnJoin_any (s : List UInt8) (m : Int) (w : World) (hl : s.length ≤ 20000) (hm : w.cell? ⟨0, 0, none⟩ = some (.int .i64 m)) :
    Calls Tryd.prog 15 #[.string ⟨s.toArray⟩] w (JnPost s w) := by
  have HM := Lib.hid hm
  have HML := Lib.hid (lt_of_cell' hm)
  clear hm
  go_enter Tryd.func15, Tryd.ntmps15
  go_wp2_with fail
  go_loopw [0, 3, 4] (fun x y z wr => ∃ (s1 : List UInt8) (L : List (Nat × List UInt8)) (A : Option Addr) (n c at_ : Nat), x = .string ⟨s1.toArray⟩ ∧ y = .slice A n c ∧ z = .int .i64 (at_ : Int) ∧ s1.length + at_ ≤ 20000 ∧ n ≤ at_ ∧ Hid (L.length = n) ∧ Hid (joinL 0 (linesN s) = L ++ joinL at_ (linesN s1)) ∧ Hid (wr.ownsRow w.heap.size 34 2 (.slice A n c) n (lnV L)) ∧ Hid (Below w.heap.size w wr)) (fun x _ _ _ => strLenL x)
  case atStart => exact ⟨s, [], none, 0, 0, 0, rfl, rfl, rfl, by omega, by omega, Lib.hid rfl, Lib.hid rfl, Lib.hid (World.ownsRow_nil _ _ _ _), Lib.hid (Below.refl _ _)⟩
  case round =>
    obtain ⟨s1, L, A, n, c, at_, rfl, rfl, rfl, hsa, hna, HL, HJ, HO, HB⟩ := hrel
    by_cases h0 : s1 = []
    · subst h0
      have HE : Hid (joinL 0 (linesN s) = L) := Lib.hid (by rw [HJ.out, linesN_nil, joinL_nil, List.append_nil])
      go_wp2_with fail
      go_ret
      refine ⟨A, c, by rw [HE.out, HL.out]; rfl, ?_, HB.out⟩
      rw [HE.out, HL.out]
      exact HO.out
    · have hs1p : 0 < s1.length := List.length_pos_iff.2 h0
      have HNE : Hid (s1 ≠ []) := Lib.hid h0
      have hemp : s1.isEmpty = false := by cases s1 with
        | nil => exact absurd rfl h0
        | cons a l => rfl
      have HBK0 := Lib.hid (show Blk (wr.alloc (.cells #[.int .i64 ((at_ : Int) + 1), .string ⟨#[]⟩] 34)) wr.heap.size 34 [.int .i64 ((at_ : Int) + 1), .string ⟨#[]⟩] from Blk.new wr _ _)
      have HB0 := Lib.hid (below_newL (Below.refl wr.heap.size wr) (Below.alloc (Below.refl _ _) (Nat.le_refl _) (.cells #[.int .i64 ((at_ : Int) + 1), .string ⟨#[]⟩] 34)))
      clear h0
      go_upto_region 6 with fail
      generalize wr.alloc (.cells #[.int .i64 ((at_ : Int) + 1), .string ⟨#[]⟩] 34) = w1 at *
      obtain ⟨wo, hwo⟩ : ∃ wo : World, wo = wr := ⟨_, rfl⟩
      subst hwo
      go_wp2_with fail
      go_loopw [0, 4, 6] (fun x y z wi => ∃ (T s2 : List UInt8) (k : Nat) (mo : Bool), x = .string ⟨s2.toArray⟩ ∧ y = .int .i64 (k : Int) ∧ z = .bool mo ∧ T.length + s2.length ≤ 20000 ∧ k + s2.length ≤ 20001 ∧ s2.length ≤ s1.length ∧ Hid (Blk wi wo.heap.size 34 [.int .i64 ((at_ : Int) + 1), .string ⟨T.toArray⟩]) ∧ Hid (Below wo.heap.size wo wi) ∧ Hid (if mo = true then (s2 ≠ [] ∧ (T = [] ∨ ∃ U, T = U ++ [32]) ∧ contL (frontN s1) (linesN (backN s1)) = contL (T ++ oneL T s2) (linesN (backN s2)) ∧ (k = at_ + 1 + ((linesN (backN s1)).length - (linesN (backN s2)).length) ∧ (linesN (backN s2)).length ≤ (linesN (backN s1)).length)) else (contL (frontN s1) (linesN (backN s1)) = (T, linesN s2) ∧ k = at_ + 1 + ((linesN (backN s1)).length - (linesN s2).length) ∧ k + s2.length ≤ 20000 ∧ s2.length < s1.length))) (fun x _ _ _ => strLenL x)
      case atStart => exact ⟨[], s1, at_ + 1, true, rfl, rfl, rfl, by simp; omega, by omega, Nat.le_refl _, HBK0, HB0, Lib.hid (by rw [if_pos rfl]; exact ⟨HNE.out, .inl rfl, rfl, by omega, Nat.le_refl _⟩)⟩
      case round =>
        obtain ⟨T, s2, k, mo, rfl, rfl, rfl, hts, hks, hss, HBK, HBW, HQ⟩ := hrel
        cases mo with
        | true =>
          have hq := HQ.out
          rw [if_pos rfl] at hq
          obtain ⟨hne2, hTT, hCT, hKL⟩ := hq
          have HTT := Lib.hid hTT
          have HCT := Lib.hid hCT
          have HKL := Lib.hid hKL
          have HBL := Lib.hid (backN_len s2 hne2)
          have hfb := front_back s2
          have hbl := backN_len s2 hne2
          have HSC := Lib.hid (sCut_any s2 m wr (by omega) (pc_keepL (pc_keepL HM.out HB.out) HBW.out))
          have HTL := Lib.hid (fun W => sTrimL_any (frontN s2) W)
          have HMS : Hid (strLenL (.string ⟨(backN s2).toArray⟩) < strLenL (.string ⟨s2.toArray⟩)) := Lib.hid hbl
          clear HQ hne2 hTT hCT hKL
          go_wp2_with fail
          refine HSC.out.mono ?_
          rintro e w5 ⟨xb, rfl, hb5⟩
          have HBK5 := Lib.hid (HBK.out.below hb5 HBK.out.lt)
          have HBW5 := Lib.hid (below_newL HBW.out hb5)
          have hd0 := HBK5.out.cell (j := 0) rfl
          have hd1 := HBK5.out.cell (j := 1) rfl
          clear hb5
          by_cases hT : T = []
          · have HONE : oneL T s2 = frontN s2 := if_pos hT
            rw [HONE] at HCT
            have hte : T.isEmpty = true := by rw [hT]; rfl
            clear hT
            go_upto_region 12 with fail
            clear hd0 hd1
            have HBK6 := HBK5
            have HBW6 := HBW5
            have hol : (frontN s2).length ≤ (frontN s2).length := Nat.le_refl _
            have HSB := Lib.hid (sCutB_any (frontN s2) w5 (by have := frontN_le s2; omega))
            have HBT : Hid ((T = [] ∨ ∃ U, T = U ++ [32])) := HTT
            have hc0 := HBK6.out.cell (j := 0) rfl
            have hc1 := HBK6.out.cell (j := 1) rfl
            have hf1 := HBK6.out.free 1
            have htl : (⟨T.toArray⟩ : ByteArray).size = T.length := rfl
            cases he : endsB (frontN s2) with
            | false =>
              rw [he] at HSB
              simp only [Bool.false_eq_true, if_false] at HSB
              have HCA := Lib.hid (cat_bytesL T (frontN s2))
              have hosz : (⟨(frontN s2).toArray⟩ : ByteArray).size = (frontN s2).length := rfl
              have HC2 : Hid (contL (frontN s1) (linesN (backN s1)) = (T ++ (frontN s2), linesN (backN s2))) := Lib.hid (by rw [HCT.out, contL_end (by rw [endsB_app HBT.out]; exact he)])
              have HKL2 := HKL
              clear he
              generalize hbo : (⟨(frontN s2).toArray⟩ : ByteArray) = bo at *
              generalize hbT : (⟨T.toArray⟩ : ByteArray) = bT at *
              have hsum : bT.size + bo.size ≤ 40000 := by omega
              go_wp2_with fail
              refine HSB.out.mono ?_
              rintro e w7 ⟨rfl, rfl⟩
              have HK8 := Lib.hid (HBK6.out.same 1 (.string (bT ++ bo)))
              have HB8 := Lib.hid (HBW6.out.setCell (p := ⟨wo.heap.size, 1, none⟩) (Nat.le_refl _) (.string (bT ++ bo)))
              clear hbo hbT
              go_upto_region 14 with fail
              generalize hw8 : w7.setCell ⟨wo.heap.size, 1, none⟩ (.string (bT ++ bo)) = w8 at *
              clear hw8 hc0 hc1 hf1
              rw [HCA.out] at HK8
              go_wp2_with fail
              exact ⟨⟨T ++ (frontN s2), backN s2, k, false, rfl, rfl, rfl, by rw [List.length_append]; omega, by omega, by omega, HK8, HB8, Lib.hid ⟨HC2.out, HKL2.out.1, by omega, by omega⟩⟩, HMS.out⟩
            | true =>
              rw [he] at HSB
              simp only [if_true] at HSB
              have HCA := Lib.hid (cat_bytesL T (frontN s2).dropLast)
              have hdl : (frontN s2).dropLast.length ≤ (frontN s2).length := by rw [List.length_dropLast]; omega
              have hone : (frontN s2) ≠ [] := fun e => by rw [e] at he; cases he
              have hdl2 : (frontN s2).dropLast.length + 1 ≤ (frontN s2).length := by have := List.length_pos_iff.2 hone; rw [List.length_dropLast]; omega
              have hosz : (⟨(frontN s2).dropLast.toArray⟩ : ByteArray).size = (frontN s2).dropLast.length := rfl
              have HEB : Hid (endsB (T ++ (frontN s2)) = true) := Lib.hid (by rw [endsB_app HBT.out]; exact he)
              have HDL : Hid ((T ++ (frontN s2)).dropLast = T ++ (frontN s2).dropLast) := Lib.hid (dropLast_app he)
              clear he hone
              generalize hbo : (⟨(frontN s2).dropLast.toArray⟩ : ByteArray) = bo at *
              generalize hbT : (⟨T.toArray⟩ : ByteArray) = bT at *
              have hsum : bT.size + bo.size ≤ 40000 := by omega
              go_wp2_with fail
              refine HSB.out.mono ?_
              rintro e w7 ⟨rfl, rfl⟩
              have HK8 := Lib.hid (HBK6.out.same 1 (.string (bT ++ bo)))
              have HB8 := Lib.hid (HBW6.out.setCell (p := ⟨wo.heap.size, 1, none⟩) (Nat.le_refl _) (.string (bT ++ bo)))
              clear hbo hbT
              go_upto_region 14 with fail
              generalize hw8 : w7.setCell ⟨wo.heap.size, 1, none⟩ (.string (bT ++ bo)) = w8 at *
              clear hw8 hc0 hc1 hf1
              rw [HCA.out] at HK8
              by_cases hbe : backN s2 = []
              · have hbe2 : (backN s2).isEmpty = true := by rw [hbe]; rfl
                have HC2 : Hid (contL (frontN s1) (linesN (backN s1)) = (T ++ (frontN s2).dropLast, linesN (backN s2))) := Lib.hid (by rw [HCT.out, hbe, linesN_nil, contL, HEB.out, if_pos rfl, HDL.out])
                clear hbe
                go_wp2_with fail
                exact ⟨⟨T ++ (frontN s2).dropLast, backN s2, k, false, rfl, rfl, rfl, by rw [List.length_append]; omega, by omega, by omega, HK8, HB8, Lib.hid ⟨HC2.out, HKL.out.1, by omega, by omega⟩⟩, HMS.out⟩
              · have hbe2 : (backN s2).isEmpty = false := by cases hq : backN s2 with
                  | nil => exact absurd hq hbe
                  | cons a l => rfl
                have HLC : Hid (linesN (backN s2) = frontN (backN s2) :: linesN (backN (backN s2))) := Lib.hid (linesN_cons hbe)
                have HNE3 : Hid (backN s2 ≠ []) := Lib.hid hbe
                have HC2 : Hid (contL (frontN s1) (linesN (backN s1)) = contL ((T ++ (frontN s2).dropLast ++ [32]) ++ oneL (T ++ (frontN s2).dropLast ++ [32]) (backN s2)) (linesN (backN (backN s2)))) := Lib.hid (by
                  rw [HCT.out, HLC.out, contL, HEB.out, if_pos rfl, HDL.out]
                  unfold oneL
                  rw [if_neg (by simp)])
                have HK2 : Hid (k + 1 = at_ + 1 + ((linesN (backN s1)).length - (linesN (backN (backN s2))).length) ∧ (linesN (backN (backN s2))).length ≤ (linesN (backN s1)).length) := Lib.hid (by
                  have h1 := HKL.out
                  rw [HLC.out, List.length_cons] at h1
                  omega)
                have hc0 := HK8.out.cell (j := 0) rfl
                have hc1 := HK8.out.cell (j := 1) rfl
                have hf1 := HK8.out.free 1
                have HCA2 := Lib.hid (cat_bytesL (T ++ (frontN s2).dropLast) [32])
                have hts : (⟨(T ++ (frontN s2).dropLast).toArray⟩ : ByteArray).size ≤ 40000 := by show (T ++ (frontN s2).dropLast).length ≤ _; rw [List.length_append]; omega
                clear hbe
                generalize hb9 : (⟨(T ++ (frontN s2).dropLast).toArray⟩ : ByteArray) = b9 at *
                have HK9 := Lib.hid (HK8.out.same 1 (.string (b9 ++ ⟨#[32]⟩)))
                have HCA3 : Hid (b9 ++ ⟨#[32]⟩ = (⟨(T ++ (frontN s2).dropLast ++ [32]).toArray⟩ : ByteArray)) := Lib.hid HCA2.out
                have HB9 := Lib.hid (HB8.out.setCell (p := ⟨wo.heap.size, 1, none⟩) (Nat.le_refl _) (.string (b9 ++ ⟨#[32]⟩)))
                have HK10 : Hid (Blk (w8.setCell ⟨wo.heap.size, 1, none⟩ (.string (b9 ++ ⟨#[32]⟩))) wo.heap.size 34 [.int .i64 ((at_ : Int) + 1), .string ⟨(T ++ (frontN s2).dropLast ++ [32]).toArray⟩]) := Lib.hid (by
                  have h := HK9.out
                  generalize w8.setCell ⟨wo.heap.size, 1, none⟩ (.string (b9 ++ ⟨#[32]⟩)) = wz at h ⊢
                  rw [HCA3.out] at h
                  exact h)
                have hfl : (frontN s2).length + (backN s2).length ≤ s2.length := front_back s2
                have hbl2 : (backN s2).length < s2.length := HBL.out
                clear hb9
                go_wp2_with fail
                exact ⟨⟨T ++ (frontN s2).dropLast ++ [32], backN s2, k + 1, true, rfl, rfl, rfl, by rw [List.length_append, List.length_append]; simp only [List.length_cons, List.length_nil]; omega, by omega, by omega, HK10, HB9, Lib.hid ⟨HNE3.out, .inr ⟨_, rfl⟩, HC2.out, HK2.out⟩⟩, HMS.out⟩
          · have HONE : oneL T s2 = trimLL (frontN s2) := if_neg hT
            rw [HONE] at HCT
            have hte : T.isEmpty = false := by cases hq : T with
              | nil => exact absurd hq hT
              | cons a l => rfl
            clear hT
            go_wp2_with fail
            refine (HTL.out _).mono ?_
            rintro e w6 ⟨rfl, hb6⟩
            have HBK6 := Lib.hid (HBK5.out.below hb6 HBK5.out.lt)
            have HBW6 := Lib.hid (below_newL HBW5.out hb6)
            clear hb6 hd0 hd1
            go_upto_region 12 with fail
            have hol : (trimLL (frontN s2)).length ≤ (frontN s2).length := trimLL_le _
            have HSB := Lib.hid (sCutB_any (trimLL (frontN s2)) w6 (by have := frontN_le s2; omega))
            have HBT : Hid ((T = [] ∨ ∃ U, T = U ++ [32])) := HTT
            have hc0 := HBK6.out.cell (j := 0) rfl
            have hc1 := HBK6.out.cell (j := 1) rfl
            have hf1 := HBK6.out.free 1
            have htl : (⟨T.toArray⟩ : ByteArray).size = T.length := rfl
            cases he : endsB (trimLL (frontN s2)) with
            | false =>
              rw [he] at HSB
              simp only [Bool.false_eq_true, if_false] at HSB
              have HCA := Lib.hid (cat_bytesL T (trimLL (frontN s2)))
              have hosz : (⟨(trimLL (frontN s2)).toArray⟩ : ByteArray).size = (trimLL (frontN s2)).length := rfl
              have HC2 : Hid (contL (frontN s1) (linesN (backN s1)) = (T ++ (trimLL (frontN s2)), linesN (backN s2))) := Lib.hid (by rw [HCT.out, contL_end (by rw [endsB_app HBT.out]; exact he)])
              have HKL2 := HKL
              clear he
              generalize hbo : (⟨(trimLL (frontN s2)).toArray⟩ : ByteArray) = bo at *
              generalize hbT : (⟨T.toArray⟩ : ByteArray) = bT at *
              have hsum : bT.size + bo.size ≤ 40000 := by omega
              go_wp2_with fail
              refine HSB.out.mono ?_
              rintro e w7 ⟨rfl, rfl⟩
              have HK8 := Lib.hid (HBK6.out.same 1 (.string (bT ++ bo)))
              have HB8 := Lib.hid (HBW6.out.setCell (p := ⟨wo.heap.size, 1, none⟩) (Nat.le_refl _) (.string (bT ++ bo)))
              clear hbo hbT
              go_upto_region 14 with fail
              generalize hw8 : w7.setCell ⟨wo.heap.size, 1, none⟩ (.string (bT ++ bo)) = w8 at *
              clear hw8 hc0 hc1 hf1
              rw [HCA.out] at HK8
              go_wp2_with fail
              exact ⟨⟨T ++ (trimLL (frontN s2)), backN s2, k, false, rfl, rfl, rfl, by rw [List.length_append]; omega, by omega, by omega, HK8, HB8, Lib.hid ⟨HC2.out, HKL2.out.1, by omega, by omega⟩⟩, HMS.out⟩
            | true =>
              rw [he] at HSB
              simp only [if_true] at HSB
              have HCA := Lib.hid (cat_bytesL T (trimLL (frontN s2)).dropLast)
              have hdl : (trimLL (frontN s2)).dropLast.length ≤ (trimLL (frontN s2)).length := by rw [List.length_dropLast]; omega
              have hone : (trimLL (frontN s2)) ≠ [] := fun e => by rw [e] at he; cases he
              have hdl2 : (trimLL (frontN s2)).dropLast.length + 1 ≤ (trimLL (frontN s2)).length := by have := List.length_pos_iff.2 hone; rw [List.length_dropLast]; omega
              have hosz : (⟨(trimLL (frontN s2)).dropLast.toArray⟩ : ByteArray).size = (trimLL (frontN s2)).dropLast.length := rfl
              have HEB : Hid (endsB (T ++ (trimLL (frontN s2))) = true) := Lib.hid (by rw [endsB_app HBT.out]; exact he)
              have HDL : Hid ((T ++ (trimLL (frontN s2))).dropLast = T ++ (trimLL (frontN s2)).dropLast) := Lib.hid (dropLast_app he)
              clear he hone
              generalize hbo : (⟨(trimLL (frontN s2)).dropLast.toArray⟩ : ByteArray) = bo at *
              generalize hbT : (⟨T.toArray⟩ : ByteArray) = bT at *
              have hsum : bT.size + bo.size ≤ 40000 := by omega
              go_wp2_with fail
              refine HSB.out.mono ?_
              rintro e w7 ⟨rfl, rfl⟩
              have HK8 := Lib.hid (HBK6.out.same 1 (.string (bT ++ bo)))
              have HB8 := Lib.hid (HBW6.out.setCell (p := ⟨wo.heap.size, 1, none⟩) (Nat.le_refl _) (.string (bT ++ bo)))
              clear hbo hbT
              go_upto_region 14 with fail
              generalize hw8 : w7.setCell ⟨wo.heap.size, 1, none⟩ (.string (bT ++ bo)) = w8 at *
              clear hw8 hc0 hc1 hf1
              rw [HCA.out] at HK8
              by_cases hbe : backN s2 = []
              · have hbe2 : (backN s2).isEmpty = true := by rw [hbe]; rfl
                have HC2 : Hid (contL (frontN s1) (linesN (backN s1)) = (T ++ (trimLL (frontN s2)).dropLast, linesN (backN s2))) := Lib.hid (by rw [HCT.out, hbe, linesN_nil, contL, HEB.out, if_pos rfl, HDL.out])
                clear hbe
                go_wp2_with fail
                exact ⟨⟨T ++ (trimLL (frontN s2)).dropLast, backN s2, k, false, rfl, rfl, rfl, by rw [List.length_append]; omega, by omega, by omega, HK8, HB8, Lib.hid ⟨HC2.out, HKL.out.1, by omega, by omega⟩⟩, HMS.out⟩
              · have hbe2 : (backN s2).isEmpty = false := by cases hq : backN s2 with
                  | nil => exact absurd hq hbe
                  | cons a l => rfl
                have HLC : Hid (linesN (backN s2) = frontN (backN s2) :: linesN (backN (backN s2))) := Lib.hid (linesN_cons hbe)
                have HNE3 : Hid (backN s2 ≠ []) := Lib.hid hbe
                have HC2 : Hid (contL (frontN s1) (linesN (backN s1)) = contL ((T ++ (trimLL (frontN s2)).dropLast ++ [32]) ++ oneL (T ++ (trimLL (frontN s2)).dropLast ++ [32]) (backN s2)) (linesN (backN (backN s2)))) := Lib.hid (by
                  rw [HCT.out, HLC.out, contL, HEB.out, if_pos rfl, HDL.out]
                  unfold oneL
                  rw [if_neg (by simp)])
                have HK2 : Hid (k + 1 = at_ + 1 + ((linesN (backN s1)).length - (linesN (backN (backN s2))).length) ∧ (linesN (backN (backN s2))).length ≤ (linesN (backN s1)).length) := Lib.hid (by
                  have h1 := HKL.out
                  rw [HLC.out, List.length_cons] at h1
                  omega)
                have hc0 := HK8.out.cell (j := 0) rfl
                have hc1 := HK8.out.cell (j := 1) rfl
                have hf1 := HK8.out.free 1
                have HCA2 := Lib.hid (cat_bytesL (T ++ (trimLL (frontN s2)).dropLast) [32])
                have hts : (⟨(T ++ (trimLL (frontN s2)).dropLast).toArray⟩ : ByteArray).size ≤ 40000 := by show (T ++ (trimLL (frontN s2)).dropLast).length ≤ _; rw [List.length_append]; omega
                clear hbe
                generalize hb9 : (⟨(T ++ (trimLL (frontN s2)).dropLast).toArray⟩ : ByteArray) = b9 at *
                have HK9 := Lib.hid (HK8.out.same 1 (.string (b9 ++ ⟨#[32]⟩)))
                have HCA3 : Hid (b9 ++ ⟨#[32]⟩ = (⟨(T ++ (trimLL (frontN s2)).dropLast ++ [32]).toArray⟩ : ByteArray)) := Lib.hid HCA2.out
                have HB9 := Lib.hid (HB8.out.setCell (p := ⟨wo.heap.size, 1, none⟩) (Nat.le_refl _) (.string (b9 ++ ⟨#[32]⟩)))
                have HK10 : Hid (Blk (w8.setCell ⟨wo.heap.size, 1, none⟩ (.string (b9 ++ ⟨#[32]⟩))) wo.heap.size 34 [.int .i64 ((at_ : Int) + 1), .string ⟨(T ++ (trimLL (frontN s2)).dropLast ++ [32]).toArray⟩]) := Lib.hid (by
                  have h := HK9.out
                  generalize w8.setCell ⟨wo.heap.size, 1, none⟩ (.string (b9 ++ ⟨#[32]⟩)) = wz at h ⊢
                  rw [HCA3.out] at h
                  exact h)
                have hfl : (frontN s2).length + (backN s2).length ≤ s2.length := front_back s2
                have hbl2 : (backN s2).length < s2.length := HBL.out
                clear hb9
                go_wp2_with fail
                exact ⟨⟨T ++ (trimLL (frontN s2)).dropLast ++ [32], backN s2, k + 1, true, rfl, rfl, rfl, by rw [List.length_append, List.length_append]; simp only [List.length_cons, List.length_nil]; omega, by omega, by omega, HK10, HB9, Lib.hid ⟨HNE3.out, .inr ⟨_, rfl⟩, HC2.out, HK2.out⟩⟩, HMS.out⟩
        | false =>
          have hq := HQ.out
          rw [if_neg (by decide)] at hq
          obtain ⟨hC, hK, hk2, hs2⟩ := hq
          have HMS : Hid (strLenL (.string ⟨s2.toArray⟩) < strLenL (.string ⟨s1.toArray⟩)) := Lib.hid hs2
          have HJ2 : Hid (joinL 0 (linesN s) = L ++ ((if asideL T = [] then [] else [(at_ + 1, asideL T)]) ++ joinL k (linesN s2))) := Lib.hid (by
            rw [HJ.out, linesN_cons HNE.out, joinL_cons, hC, ← hK])
          have hak : at_ + 1 ≤ k := by omega
          have HSC := Lib.hid (lnCut_any T m wr (by omega) (pc_keepL (pc_keepL HM.out HB.out) HBW.out))
          have hc0 := HBK.out.cell (j := 0) rfl
          have hc1 := HBK.out.cell (j := 1) rfl
          clear HQ hC hK
          go_wp2_with fail
          refine HSC.out.mono ?_
          rintro e w9 ⟨rfl, hb9⟩
          have HBK9 := Lib.hid (HBK.out.below hb9 HBK.out.lt)
          have HBW9 := Lib.hid (below_newL HBW.out hb9)
          clear hb9 hc0 hc1
          have hc0 := HBK9.out.cell (j := 0) rfl
          have hc1 := HBK9.out.cell (j := 1) rfl
          have hf1 := HBK9.out.free 1
          have HK10 := Lib.hid (HBK9.out.same 1 (.string ⟨(asideL T).toArray⟩))
          have HB10 := Lib.hid (HBW9.out.setCell (p := ⟨wo.heap.size, 1, none⟩) (Nat.le_refl _) (.string ⟨(asideL T).toArray⟩))
          go_upto_region 19 with fail
          generalize w9.setCell ⟨wo.heap.size, 1, none⟩ (.string ⟨(asideL T).toArray⟩) = w10 at *
          clear hc0 hc1 hf1
          have HO10 := Lib.hid (own_belowL HO.out HB10.out)
          have HBB := Lib.hid (below_newL HB.out HB10.out)
          have hzz := HBB.out.size
          have hc0 := HK10.out.cell (j := 0) rfl
          have hc1 := HK10.out.cell (j := 1) rfl
          by_cases ha : asideL T = []
          · have hae : (asideL T).isEmpty = true := by rw [ha]; rfl
            have HJ3 : Hid (joinL 0 (linesN s) = L ++ joinL k (linesN s2)) := Lib.hid (by rw [HJ2.out, if_pos ha]; rfl)
            clear ha
            go_wp2_with fail
            exact ⟨⟨s2, L, A, n, c, k, rfl, rfl, rfl, by omega, by omega, HL, HJ3, HO10, HBB⟩, HMS.out⟩
          · have hae : (asideL T).isEmpty = false := by cases hq : asideL T with
              | nil => exact absurd hq ha
              | cons a l => rfl
            have HJ3 : Hid (joinL 0 (linesN s) = (L ++ [(at_ + 1, asideL T)]) ++ joinL k (linesN s2)) := Lib.hid (by rw [HJ2.out, if_neg ha, List.append_assoc])
            have hn24 : (n + 1) * 24 ≤ 140737488355328 := by omega
            clear ha
            go_wp2_with (at_builtin; refine wpList_pushLn w10 _ _ w.heap.size A n c L (at_ + 1, asideL T) _ rfl HO10.out hzz hn24 rfl rfl rfl rfl ?_; intro g5 c5 w5 hown5 hb5)
            exact ⟨⟨s2, L ++ [(at_ + 1, asideL T)], some ⟨g5, 0, none⟩, n + 1, c5, k, rfl, rfl, rfl, by omega, by omega, Lib.hid (by simp [HL.out]), HJ3, Lib.hid hown5, Lib.hid (HBB.out.trans hb5)⟩, HMS.out⟩
end Go.Proofs.YtjdfmmjadjggjaaDoor
