/- The text of lines, in plain Lean. Contract: the reference's LinesText. -/
import Derived.Test.YtjdfmmjadjggjaaDoorLn12
import Derived.Test.YtjdfmmjadjggjaaDoorLn13
import Derived.BigQuiet
import Derived.Deep.QuietTactic
namespace Go.Proofs.YtjdfmmjadjggjaaDoor
open Go.RowKit

def okZ (last : Int) : List (Int × List UInt8) → Bool
  | [] => true
  | x :: l => decide (last < x.1) && plainL x.2 && okZ x.1 l
def lastZ (last : Int) : List (Int × List UInt8) → Int
  | [] => last
  | x :: l => lastZ x.1 l
def printF (at_ : Int) : List (Int × List UInt8) → List UInt8
  | [] => []
  | x :: l => List.replicate (x.1 - at_ - 1).toNat 10 ++ shownL x.2 ++ [10] ++ printF x.1 l
theorem okZ_cons {last : Int} {x : Int × List UInt8} {l : List (Int × List UInt8)} (h : okZ last (x :: l) = true) : last < x.1 ∧ plainL x.2 = true ∧ okZ x.1 l = true := by
  rw [okZ] at h
  simp only [Bool.and_eq_true, decide_eq_true_eq] at h
  exact ⟨h.1.1, h.1.2, h.2⟩
theorem lastZ_ge : ∀ (l : List (Int × List UInt8)) (last : Int), okZ last l = true → last ≤ lastZ last l
  | [], last, _ => Int.le_refl _
  | x :: l, last, h => by
    obtain ⟨h1, _, h3⟩ := okZ_cons h
    have := lastZ_ge l x.1 h3
    rw [lastZ]
    omega
theorem printF_ge : ∀ (l : List (Int × List UInt8)) (last : Int), okZ last l = true → lastZ last l - last ≤ ((printF last l).length : Int)
  | [], last, _ => by rw [lastZ, printF]; simp
  | x :: l, last, h => by
    obtain ⟨h1, _, h3⟩ := okZ_cons h
    have h4 := printF_ge l x.1 h3
    rw [lastZ, printF]
    simp only [List.length_append, List.length_replicate, List.length_singleton]
    omega
theorem plain_len {s : List UInt8} (h : plainL s = true) : (shownL s).length ≤ 20000 := by
  unfold plainL at h
  split at h
  · rename_i h0
    unfold lnE at h0
    split at h0
    · cases h0
    · omega
  · cases h
/-- One line more of the text: the line's own, or an empty one. -/
theorem printF_hit {b : Int} {x : Int × List UInt8} {l : List (Int × List UInt8)} (h : x.1 = b + 1) : printF b (x :: l) = shownL x.2 ++ [10] ++ printF (b + 1) l := by
  rw [printF, h, show b + 1 - b - 1 = 0 by omega]
  simp
theorem printF_skip {b : Int} {x : Int × List UInt8} {l : List (Int × List UInt8)} (h : b + 1 < x.1) : printF b (x :: l) = [10] ++ printF (b + 1) (x :: l) := by
  rw [printF, printF, show (x.1 - b - 1).toNat = (x.1 - (b + 1) - 1).toNat + 1 by omega, List.replicate_succ]
  simp
theorem dropZ {L : List (Int × List UInt8)} {j : Nat} {l : Int × List UInt8} (h : L[j]? = some l) : L.drop j = l :: L.drop (j + 1) := by
  obtain ⟨hj, hx⟩ := List.getElem?_eq_some_iff.1 h
  rw [List.drop_eq_getElem_cons hj, hx]
/-- What a program that prints lines answers. -/
def ltE (L : List (Int × List UInt8)) : Nat := if okZ 0 L = false then 3 else if 20000 < (printF 0 L).length then 2 else 0
def LtPost (L : List (Int × List UInt8)) (w : World) (e : Ending) (w' : World) : Prop :=
  Below w.heap.size w w' ∧ e = .returned (.tuple #[.string ⟨(if ltE L = 0 then printF 0 L else []).toArray⟩, .int .i64 (ltE L : Int)])
theorem lastZ_snoc : ∀ (l : List (Int × List UInt8)) (last : Int) (x : Int × List UInt8), lastZ last (l ++ [x]) = x.1
  | [], last, x => rfl
  | y :: l, last, x => by rw [List.cons_append, lastZ, lastZ_snoc l y.1 x]
theorem okZ_app : ∀ (l m : List (Int × List UInt8)) (last : Int), okZ last (l ++ m) = (okZ last l && okZ (lastZ last l) m)
  | [], m, last => by simp [okZ, lastZ]
  | y :: l, m, last => by
    rw [List.cons_append, okZ, okZ, okZ_app l m y.1, lastZ, Bool.and_assoc]
    simp only [Bool.and_assoc]
theorem okZ_snoc {L : List (Int × List UInt8)} {i : Nat} {x : Int × List UInt8} (h : L[i]? = some x) : okZ 0 (L.take (i + 1)) = (okZ 0 (L.take i) && (decide (lastZ 0 (L.take i) < x.1) && plainL x.2)) ∧ lastZ 0 (L.take (i + 1)) = x.1 := by
  rw [take_snocL h, okZ_app, lastZ_snoc]
  refine ⟨?_, rfl⟩
  simp [okZ]
theorem okZ_fail {L : List (Int × List UInt8)} {i : Nat} {x : Int × List UInt8} (h : L[i]? = some x) (hf : (decide (lastZ 0 (L.take i) < x.1) && plainL x.2) = false) : ltE L = 3 := by
  have h1 : okZ 0 L = false := by
    rw [← List.take_append_drop (i + 1) L, okZ_app, (okZ_snoc h).1, hf]
    simp
  unfold ltE
  rw [if_pos h1]
theorem plain_no {s : List UInt8} (h : lnE (shownL s) ≠ 0) : plainL s = false := by unfold plainL; rw [if_neg h]
theorem plain_many {s : List UInt8} {n : Nat} (h : (joinL 0 (linesN (shownL s))).length = n) (hn : n ≠ 1) : plainL s = false := by
  unfold plainL
  split
  · split
    · rename_i x hx; rw [hx] at h; exact absurd h.symm hn
    · rfl
  · rfl
theorem plain_one {s : List UInt8} {x : Nat × List UInt8} (h0 : lnE (shownL s) = 0) (h : joinL 0 (linesN (shownL s)) = [x]) : plainL s = decide (x.2 = s) := by
  unfold plainL
  rw [if_pos h0, h]
set_option maxRecDepth 100000 in
set_option maxHeartbeats 4000000 in
theorem rText_any (L : List (Int × List UInt8)) (A : Option Addr) (c : Nat) (w : World) (hA : Rd w A (lnZ L)) (hL : L.length ≤ 9223372036854775807) (hT : ∀ x ∈ L, x.2.length ≤ 1048576) :
    Calls Tryd.prog 13 #[.slice A L.length c] w (LtPost L w) := by
  have HA := Lib.hid hA
  have HTX := Lib.hid hT
  clear hA hT
  generalize hn : L.length = n at *
  have HN := Lib.hid hn
  clear hn
  go_enter Tryd.func13, Tryd.ntmps13
  go_wp2_with fail
  go_loopw [4, 14] (fun x y wr => ∃ (i : Nat) (la : Int), x = .int .i64 la ∧ y = .int .i64 (i : Int) ∧ i ≤ n ∧ Hid (okZ 0 (L.take i) = true ∧ lastZ 0 (L.take i) = la) ∧ Hid (Below w.heap.size w wr)) (fun _ y _ => n - (intOf y).toNat)
  case atStart => exact ⟨0, 0, rfl, rfl, by omega, Lib.hid ⟨rfl, rfl⟩, Lib.hid (Below.refl _ _)⟩
  case round =>
    obtain ⟨i, la, rfl, rfl, hi, HK, HB⟩ := hrel
    by_cases hlt : i < n
    · obtain ⟨x, hx⟩ : ∃ x, L[i]? = some x := ⟨_, List.getElem?_eq_getElem (by rw [HN.out]; exact hlt)⟩
      obtain ⟨b1, o1, rfl, a1, a2⟩ := (HA.out.below HB.out).two hx
      have hltI : (i : Int) < (n : Int) := by omega
      have hcap : 2 * i = i * 2 := by omega
      rw [hcap] at a1 a2
      clear hcap
      obtain ⟨k, tx⟩ := x
      have HX := Lib.hid hx
      have HTL := Lib.hid (HTX.out _ (List.mem_of_getElem? hx))
      simp only [] at a1 a2
      clear hx
      have HBK0 := Lib.hid (show Blk (wr.alloc (.cells #[.int .i64 k, .string ⟨tx.toArray⟩] 34)) wr.heap.size 34 [.int .i64 k, .string ⟨tx.toArray⟩] from Blk.new wr _ _)
      have HB0 := Lib.hid (below_newL (Below.refl wr.heap.size wr) (Below.alloc (Below.refl _ _) (Nat.le_refl _) (.cells #[.int .i64 k, .string ⟨tx.toArray⟩] 34)))
      have HEQ := Lib.hid (fun x => eq_svL x tx)
      have HSH := Lib.hid (fun W => rShown_any tx HTL.out W)
      have hsl2 := shownL_len tx
      have HSL := Lib.hid (show (shownL tx).length ≤ 9223372036854775807 by have := HTL.out; simp only [] at this; omega)
      clear hsl2
      generalize (⟨tx.toArray⟩ : ByteArray) = bs at *
      go_upto_region 5 with fail
      generalize wr.alloc (.cells #[.int .i64 k, .string bs] 34) = w1 at *
      have hc0 := HBK0.out.cell (j := 0) rfl
      have hc1 := HBK0.out.cell (j := 1) rfl
      go_wp2_with fail
      refine (HSH.out _).mono ?_
      rintro e w2 ⟨rfl, rfl⟩
      go_wp2_with fail
      refine (rLinesOf_any (shownL tx) _ HSL.out).mono ?_
      rintro e w3 ⟨hb3, hc⟩
      have HB3 := Lib.hid (below_newL HB0.out hb3)
      have HBK3 := Lib.hid (HBK0.out.below hb3 HBK0.out.lt)
      clear hb3 hc0 hc1
      have hc0 := HBK3.out.cell (j := 0) rfl
      have hc1 := HBK3.out.cell (j := 1) rfl
      by_cases hk : k ≤ la
      · have HF : Hid (ltE L = 3) := Lib.hid (by
          refine okZ_fail HX.out ?_
          have h1 : ¬ la < k := by omega
          rw [HK.out.2]
          simp [h1])
        obtain ⟨A2, n2, c2, en, rfl⟩ : ∃ A2 n2 c2 en, e = .returned (.tuple #[.slice A2 n2 c2, .int .i64 en]) := by
          rcases hc with ⟨_, rfl⟩ | ⟨A, n, c, _, _, _, rfl⟩
          · exact ⟨_, _, _, _, rfl⟩
          · exact ⟨_, _, _, _, rfl⟩
        clear hc
        have hkd : decide (k ≤ la) = true := by simp [hk]
        go_wp2_with fail
        go_quiet (fail)
        go_wp2_with fail
        go_ret2
        exact ⟨below_newL HB.out (below_drewN HB3.out _), by rw [HF.out]; rfl⟩
      · have hk2 : la < k := by omega
        have hkd : decide (k ≤ la) = false := by simp [hk]
        have HFL : Hid (plainL tx = false → ltE L = 3) := Lib.hid (fun hp => by
          refine okZ_fail HX.out ?_
          simp [hp])
        rcases hc with ⟨hno, rfl⟩ | ⟨A2, n2, c2, h0, h1, h2, rfl⟩
        · have HF := Lib.hid (HFL.out (plain_no hno))
          have hn0 : ((lnE (shownL tx) : Int) == 0) = false := by simp; omega
          have hn1 : ((lnE (shownL tx) : Int) != 0) = true := by simp; omega
          clear hno
          go_wp2_with fail
          go_quiet (fail)
          go_wp2_with fail
          go_ret2
          exact ⟨below_newL HB.out (below_drewN HB3.out _), by rw [HF.out]; rfl⟩
        · have H0 := Lib.hid h0
          have H1 := Lib.hid h1
          have H2 := Lib.hid h2
          clear h0 h1 h2
          by_cases hn1 : n2 = 1
          · subst hn1
            obtain ⟨x, hx⟩ : ∃ x, joinL 0 (linesN (shownL tx)) = [x] := by
              have h := H1.out
              match joinL 0 (linesN (shownL tx)), h with
              | [x], _ => exact ⟨x, rfl⟩
            have HP := Lib.hid (plain_one H0.out hx)
            have h2 := H2.out
            rw [hx] at h2
            obtain ⟨g, rfl, _, hcc⟩ := lnV_at0 h2
            have HE2 := Lib.hid (HEQ.out x.2)
            clear hx h2 H2
            by_cases hxe : x.2 = tx
            · have HPT : Hid (plainL tx = true) := Lib.hid (by rw [HP.out]; simp [hxe])
              have hse : ((⟨x.2.toArray⟩ : ByteArray).toList == bs.toList) = true := by rw [HE2.out]; simp [hxe]
              have HK2 : Hid (okZ 0 (L.take (i + 1)) = true ∧ lastZ 0 (L.take (i + 1)) = k) := Lib.hid (by
                obtain ⟨h1, h2⟩ := okZ_snoc HX.out
                refine ⟨?_, h2⟩
                rw [h1, HK.out.1, HK.out.2, HPT.out]
                simp [hk2])
              clear hxe
              generalize (⟨x.2.toArray⟩ : ByteArray) = bx at *
              go_wp2_with fail
              go_quiet (fail)
              go_wp2_with fail
              exact ⟨⟨i + 1, k, rfl, rfl, by omega, HK2, Lib.hid (below_newL HB.out (below_drewN HB3.out _))⟩, measL hlt⟩
            · have HF : Hid (ltE L = 3) := Lib.hid (HFL.out (by rw [HP.out]; simp [hxe]))
              have hse : ((⟨x.2.toArray⟩ : ByteArray).toList == bs.toList) = false := by rw [HE2.out]; simp [hxe]
              clear hxe
              generalize (⟨x.2.toArray⟩ : ByteArray) = bx at *
              go_wp2_with fail
              go_quiet (fail)
              go_wp2_with fail
              go_ret2
              exact ⟨below_newL HB.out (below_drewN HB3.out _), by rw [HF.out]; rfl⟩
          · have HF := Lib.hid (HFL.out (plain_many H1.out hn1))
            have hk1 : ((n2 : Int) == 1) = false := by simp; omega
            have hk3 : ((n2 : Int) != 1) = true := by simp; omega
            clear hn1
            go_wp2_with fail
            go_quiet (fail)
            go_wp2_with fail
            go_ret2
            exact ⟨below_newL HB.out (below_drewN HB3.out _), by rw [HF.out]; rfl⟩
    · have hie : i = n := by omega
      subst hie
      have HKE : Hid (okZ 0 L = true ∧ lastZ 0 L = la) := Lib.hid (by
        have h := HK.out
        rw [List.take_of_length_le (by rw [HN.out]; exact Nat.le_refl _)] at h
        exact h)
      have hla : 0 ≤ la := by have h := lastZ_ge L 0 HKE.out.1; rw [HKE.out.2] at h; exact h
      obtain ⟨ln, hln⟩ : ∃ ln : Nat, la = (ln : Int) := ⟨la.toNat, by omega⟩
      subst hln
      by_cases hbig : 20000 < ln
      · have HF : Hid (ltE L = 2) := Lib.hid (by
          have h := printF_ge L 0 HKE.out.1
          rw [HKE.out.2] at h
          unfold ltE
          rw [HKE.out.1, if_neg (by decide), if_pos (by omega)])
        have hbI : 20000 < (ln : Int) := by omega
        clear hla
        go_wp2_with fail
        go_ret2
        exact ⟨HB.out, by rw [HF.out]; rfl⟩
      · have hbI : (ln : Int) ≤ 20000 := by omega
        clear hla
        go_wp2_with fail
        go_loop [9, 10, 11] (fun x y z => ∃ (O : List UInt8) (k b : Nat), x = .string ⟨O.toArray⟩ ∧ y = .int .i64 (k : Int) ∧ z = .int .i64 ((b : Int) + 1) ∧ b ≤ ln ∧ O.length ≤ b * 20001 ∧ Hid (printF 0 L = O ++ printF b (L.drop k) ∧ okZ b (L.drop k) = true ∧ lastZ b (L.drop k) = (ln : Int))) (fun _ _ z => 20002 - (intOf z).toNat)
        case atStart => exact ⟨[], 0, 0, rfl, rfl, rfl, by omega, by simp, Lib.hid ⟨rfl, HKE.out.1, HKE.out.2⟩⟩
        case round =>
          obtain ⟨O, k, b, rfl, rfl, rfl, hb, hO, HQ⟩ := hrel
          by_cases hlt : b < ln
          · have hltI : (b : Int) + 1 ≤ (ln : Int) := by omega
            have hkn : k < i := by
              rcases Nat.lt_or_ge k i with h | h
              · exact h
              · have h2 := HQ.out.2.2
                rw [List.drop_eq_nil_of_le (by rw [HN.out]; exact h), lastZ] at h2
                omega
            have hknI : (k : Int) < (i : Int) := by omega
            obtain ⟨x, hx⟩ : ∃ x, L[k]? = some x := ⟨_, List.getElem?_eq_getElem (by rw [HN.out]; exact hkn)⟩
            have HDZ := Lib.hid (dropZ hx)
            obtain ⟨b1, o1, rfl, a1, a2⟩ := (HA.out.below HB.out).two hx
            have hcap : 2 * k = k * 2 := by omega
            rw [hcap] at a1 a2
            clear hcap
            obtain ⟨xa, tx⟩ := x
            have HTL := Lib.hid (HTX.out _ (List.mem_of_getElem? hx))
            simp only [] at a1 a2
            clear hx
            obtain ⟨hx1, hx2, hx3⟩ := okZ_cons (by rw [← HDZ.out]; exact HQ.out.2.1)
            simp only [] at hx1
            have HPL : Hid ((shownL tx).length ≤ 20000) := Lib.hid (plain_len hx2)
            have HOK := Lib.hid hx3
            have HMS : Hid (20002 - (intOf (.int .i64 ((b : Int) + 1 + 1))).toNat < 20002 - (intOf (.int .i64 ((b : Int) + 1))).toNat) := Lib.hid (by
              have h1 : (intOf (.int .i64 ((b : Int) + 1 + 1))).toNat = b + 2 := by show ((b : Int) + 1 + 1).toNat = b + 2; omega
              have h2 : (intOf (.int .i64 ((b : Int) + 1))).toNat = b + 1 := by show ((b : Int) + 1).toNat = b + 1; omega
              rw [h1, h2]
              omega)
            clear hx2 hx3
            have hos : (⟨O.toArray⟩ : ByteArray).size ≤ 400020000 := by show O.length ≤ _; omega
            by_cases hxa : xa = (b : Int) + 1
            · have hxd : (xa == (b : Int) + 1) = true := by simp [hxa]
              have HSH := Lib.hid (fun W => rShown_any tx HTL.out W)
              have HC1 := Lib.hid (cat_bytesL O (shownL tx))
              have HC2 := Lib.hid (cat_bytesL (O ++ shownL tx) [10])
              have hss : (⟨(shownL tx).toArray⟩ : ByteArray).size ≤ 20000 := HPL.out
              have hos2 : (⟨(O ++ shownL tx).toArray⟩ : ByteArray).size ≤ 400040000 := by show (O ++ shownL tx).length ≤ _; rw [List.length_append]; have := HPL.out; omega
              have HQ2 : Hid (printF 0 L = (O ++ shownL tx ++ [10]) ++ printF ((b + 1 : Nat) : Int) (L.drop (k + 1)) ∧ okZ ((b + 1 : Nat) : Int) (L.drop (k + 1)) = true ∧ lastZ ((b + 1 : Nat) : Int) (L.drop (k + 1)) = (ln : Int)) := Lib.hid (by
                have e : ((b + 1 : Nat) : Int) = xa := by rw [hxa]; rfl
                obtain ⟨h1, h2, h3⟩ := HQ.out
                rw [HDZ.out] at h1 h3
                refine ⟨?_, by rw [e]; exact HOK.out, by rw [e]; exact h3⟩
                rw [h1, printF_hit hxa, e, ← hxa]
                simp)
              have HLO : Hid ((O ++ shownL tx ++ [10]).length ≤ (b + 1) * 20001) := Lib.hid (by have := HPL.out; rw [List.length_append, List.length_append]; simp only [List.length_singleton]; omega)
              have hsum3 : ¬ 9223372036854775807 < O.length + (shownL tx).length + 1 := by have := HPL.out; omega
              clear hxa
              go_wp2_with fail
              refine (HSH.out _).mono ?_
              rintro e w2 ⟨rfl, rfl⟩
              go_wp2_with fail
              exact ⟨⟨O ++ shownL tx ++ [10], k + 1, b + 1, congrArg Value.string ((congrArg (· ++ (⟨#[10]⟩ : ByteArray)) HC1.out).trans HC2.out), rfl, rfl, hlt, HLO.out, HQ2⟩, HMS.out⟩
            · have hxd : (xa == (b : Int) + 1) = false := by simp [hxa]
              have HC2 := Lib.hid (cat_bytesL O [10])
              have HQ2 : Hid (printF 0 L = (O ++ [10]) ++ printF ((b + 1 : Nat) : Int) (L.drop k) ∧ okZ ((b + 1 : Nat) : Int) (L.drop k) = true ∧ lastZ ((b + 1 : Nat) : Int) (L.drop k) = (ln : Int)) := Lib.hid (by
                obtain ⟨h1, h2, h3⟩ := HQ.out
                rw [HDZ.out] at h1 h2 h3 ⊢
                refine ⟨?_, ?_, h3⟩
                · rw [h1, printF_skip (show (b : Int) + 1 < ((xa, tx) : Int × List UInt8).1 by show (b : Int) + 1 < xa; omega), List.append_assoc]
                  rfl
                · rw [okZ] at h2 ⊢
                  simp only [Bool.and_eq_true, decide_eq_true_eq] at h2 ⊢
                  exact ⟨⟨by omega, h2.1.2⟩, h2.2⟩)
              have HLO : Hid ((O ++ [10]).length ≤ (b + 1) * 20001) := Lib.hid (by rw [List.length_append]; simp only [List.length_singleton]; omega)
              clear hxa
              go_wp2_with fail
              exact ⟨⟨O ++ [10], k, b + 1, congrArg Value.string HC2.out, rfl, rfl, hlt, HLO.out, HQ2⟩, HMS.out⟩
          · obtain rfl : b = ln := by omega
            have HE : Hid (printF 0 L = O) := Lib.hid (by
              obtain ⟨h1, h2, h3⟩ := HQ.out
              cases hq : L.drop k with
              | nil => rw [h1, hq, printF, List.append_nil]
              | cons x l =>
                rw [hq] at h2 h3
                obtain ⟨h4, _, h5⟩ := okZ_cons h2
                have h6 := lastZ_ge l x.1 h5
                rw [lastZ] at h3
                omega)
            have hosz : (⟨O.toArray⟩ : ByteArray).size = O.length := rfl
            by_cases hfl : 20000 < O.length
            · have HF : Hid (ltE L = 2) := Lib.hid (by unfold ltE; rw [HKE.out.1, if_neg (by decide), HE.out, if_pos hfl])
              generalize (⟨O.toArray⟩ : ByteArray) = bO at *
              have hfi : 20000 < (bO.size : Int) := by omega
              go_wp2_with fail
              go_ret2
              exact ⟨HB.out, by rw [HF.out]; rfl⟩
            · have HF : Hid (ltE L = 0) := Lib.hid (by unfold ltE; rw [HKE.out.1, if_neg (by decide), HE.out, if_neg hfl])
              have HV : Hid (Value.string ⟨(if ltE L = 0 then printF 0 L else []).toArray⟩ = .string ⟨O.toArray⟩) := Lib.hid (by rw [HF.out, if_pos rfl, HE.out])
              generalize (⟨O.toArray⟩ : ByteArray) = bO at *
              have hfi : (bO.size : Int) ≤ 20000 := by omega
              go_wp2_with fail
              go_ret2
              exact ⟨HB.out, by rw [HV.out, HF.out]; rfl⟩
end Go.Proofs.YtjdfmmjadjggjaaDoor
