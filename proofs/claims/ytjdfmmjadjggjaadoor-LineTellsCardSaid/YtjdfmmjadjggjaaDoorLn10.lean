/- Contracts: line.Join, line.plain. -/
import Derived.Test.YtjdfmmjadjggjaaDoorLn9
namespace Go.Proofs.YtjdfmmjadjggjaaDoor
open Go.RowKit

/-- The fault of a text of lines. -/
def lnE (s : List UInt8) : Nat := if 20000 < s.length then 2 else if s.any badB then 3 else 0
def JoPost (s : List UInt8) (w : World) (e : Ending) (w' : World) : Prop :=
  Below w.heap.size w w' ∧ ((lnE s ≠ 0 ∧ e = .returned (.tuple #[.slice none 0 0, .int .i64 (lnE s : Int)])) ∨
    ∃ A n c, lnE s = 0 ∧ (joinL 0 (linesN s)).length = n ∧ w'.ownsRow w.heap.size 34 2 (.slice A n c) n (lnV (joinL 0 (linesN s))) ∧ e = .returned (.tuple #[.slice A n c, .int .i64 0]))
set_option maxRecDepth 100000 in
set_option maxHeartbeats 1000000 in
theorem lnJoinC_any (s : List UInt8) (m : Int) (w : World) (hl : s.length ≤ 9223372036854775807) (hm : w.cell? ⟨0, 0, none⟩ = some (.int .i64 m)) :
    Calls Tryd.prog 4 #[.string ⟨s.toArray⟩] w (JoPost s w) := by
  have hsz : (⟨s.toArray⟩ : ByteArray).size = s.length := rfl
  by_cases hb : 20000 < s.length
  · have HE : Hid (lnE s = 2) := Lib.hid (by unfold lnE; rw [if_pos hb])
    generalize (⟨s.toArray⟩ : ByteArray) = b at *
    have h2 : 20000 < b.size := by omega
    clear hsz hb hl hm
    go_enter Tryd.func4, Tryd.ntmps4
    go_wp2_with fail
    go_ret2
    exact ⟨Below.refl _ _, .inl ⟨by rw [HE.out]; decide, by rw [HE.out]; rfl⟩⟩
  · have HBD := Lib.hid (lnBad_any s hl w)
    have HJN := Lib.hid (lnJoin_any s m w (by omega) hm)
    have HNB := Lib.hid hb
    generalize (⟨s.toArray⟩ : ByteArray) = b at *
    have h2 : b.size ≤ 20000 := by omega
    clear hsz hb hl hm
    cases hq : s.any badB with
    | true =>
      have HE : Hid (lnE s = 3) := Lib.hid (by unfold lnE; rw [if_neg HNB.out, hq]; rfl)
      rw [hq] at HBD
      clear hq
      go_enter Tryd.func4, Tryd.ntmps4
      go_wp2_with fail
      refine HBD.out.mono ?_
      rintro e w' ⟨rfl, rfl⟩
      go_wp2_with fail
      go_ret2
      exact ⟨Below.refl _ _, .inl ⟨by rw [HE.out]; decide, by rw [HE.out]; rfl⟩⟩
    | false =>
      have HE : Hid (lnE s = 0) := Lib.hid (by unfold lnE; rw [if_neg HNB.out, hq]; rfl)
      rw [hq] at HBD
      clear hq
      go_enter Tryd.func4, Tryd.ntmps4
      go_wp2_with fail
      refine HBD.out.mono ?_
      rintro e w' ⟨rfl, rfl⟩
      go_wp2_with fail
      refine HJN.out.mono ?_
      rintro e w2 ⟨A, c, rfl, hown, hb2⟩
      have HO := Lib.hid hown
      have HB := Lib.hid hb2
      clear hown hb2
      go_wp2_with fail
      go_ret2
      exact ⟨HB.out, .inr ⟨A, _, c, HE.out, rfl, HO.out, rfl⟩⟩
def plainL (s : List UInt8) : Bool := if lnE (shownL s) = 0 then (match joinL 0 (linesN (shownL s)) with | [x] => decide (x.2 = s) | _ => false) else false
theorem lnV_at0 {w : World} {B : Nat} {A : Option Addr} {c : Nat} {x : Nat × List UInt8} (h : w.ownsRow B 34 2 (.slice A 1 c) 1 (lnV [x])) : ∃ g, A = some ⟨g, 0, none⟩ ∧ w.cell? ⟨g, 0, none⟩ = some (.int .i64 (x.1 : Int)) ∧ w.cell? ⟨g, 1, none⟩ = some (.string ⟨x.2.toArray⟩) := by
  rcases h.2 with ⟨_, h0⟩ | ⟨g, cap, cur, hv, _, hh, _, _, _, _⟩
  · omega
  · injection hv with hA _ _
    subst hA
    have h0 := h.cells (g := g) rfl 0 (.int .i64 (x.1 : Int)) rfl
    have h1 := h.cells (g := g) rfl 1 (.string ⟨x.2.toArray⟩) rfl
    unfold Addr.add at h0 h1
    exact ⟨g, rfl, by simpa using h0, by simpa using h1⟩
theorem eq_svL (x y : List UInt8) : ((⟨x.toArray⟩ : ByteArray).toList == (⟨y.toArray⟩ : ByteArray).toList) = decide (x = y) := by
  rw [Lib.toList_data, Lib.toList_data, Bool.eq_iff_iff]; simp
set_option maxRecDepth 100000 in
set_option maxHeartbeats 1000000 in
theorem lnPlain_any (s : List UInt8) (m : Int) (w : World) (hl : s.length ≤ 1048576) (hm : w.cell? ⟨0, 0, none⟩ = some (.int .i64 m)) :
    Calls Tryd.prog 23 #[.string ⟨s.toArray⟩] w fun e w' => e = .returned (.bool (plainL s)) ∧ Below w.heap.size w w' := by
  have HM := Lib.hid hm
  have HSH := Lib.hid (lnShown_any s m w hl hm)
  have hsl := shownL_len s
  have HSL := Lib.hid (show (shownL s).length ≤ 9223372036854775807 by omega)
  have HEQ := Lib.hid (fun x => eq_svL x s)
  clear hsl hl hm
  generalize (⟨s.toArray⟩ : ByteArray) = b at *
  go_enter Tryd.func23, Tryd.ntmps23
  go_wp2_with fail
  refine HSH.out.mono ?_
  rintro e w1 ⟨rfl, hb1⟩
  have HB1 := Lib.hid hb1
  have HJ := Lib.hid (lnJoinC_any (shownL s) m w1 HSL.out (pc_keepL HM.out hb1))
  clear hb1
  go_wp2_with fail
  refine HJ.out.mono ?_
  rintro e w2 ⟨hb2, hc⟩
  have HB2 := Lib.hid (below_newL HB1.out hb2)
  clear hb2
  rcases hc with ⟨hno, rfl⟩ | ⟨A, n, c, h0, h1, h2, rfl⟩
  · have HP : Hid (plainL s = false) := Lib.hid (by unfold plainL; rw [if_neg hno])
    have hn0 : ((lnE (shownL s) : Int) == 0) = false := by simp; omega
    clear hno
    go_wp2_with fail
    go_ret
    exact ⟨by rw [HP.out]; rfl, HB2.out⟩
  · have H0 := Lib.hid h0
    have H2 := Lib.hid h2
    have H1 := Lib.hid h1
    clear h0 h1 h2
    by_cases hn1 : n = 1
    · subst hn1
      obtain ⟨x, hx⟩ : ∃ x, joinL 0 (linesN (shownL s)) = [x] := by
        have h := H1.out
        match joinL 0 (linesN (shownL s)), h with
        | [x], _ => exact ⟨x, rfl⟩
      have HP : Hid (plainL s = decide (x.2 = s)) := Lib.hid (by unfold plainL; rw [if_pos H0.out, hx])
      have h2 := H2.out
      rw [hx] at h2
      obtain ⟨g, rfl, _, hc1⟩ := lnV_at0 h2
      have HE2 := Lib.hid (HEQ.out x.2)
      clear hx h2 H2
      generalize (⟨x.2.toArray⟩ : ByteArray) = bx at *
      go_wp2_with fail
      go_ret
      exact ⟨by rw [HP.out, ← HE2.out]; rfl, HB2.out⟩
    · have HP : Hid (plainL s = false) := Lib.hid (by
        unfold plainL; rw [if_pos H0.out]
        have h := H1.out
        split
        · rename_i x hx; rw [hx] at h; exact absurd h.symm hn1
        · rfl)
      have hk1 : ((n : Int) == 1) = false := by simp; omega
      clear hn1
      go_wp2_with fail
      go_ret
      exact ⟨by rw [HP.out]; rfl, HB2.out⟩
end Go.Proofs.YtjdfmmjadjggjaaDoor
