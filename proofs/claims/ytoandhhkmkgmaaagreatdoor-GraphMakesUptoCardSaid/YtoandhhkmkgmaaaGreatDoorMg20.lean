/- file.defines: the macro of a line that defines one. -/
import Derived.Test.YtoandhhkmkgmaaaGreatDoorMg14
import Derived.Test.YtoandhhkmkgmaaaGreatDoorMg17
import Derived.Test.YtoandhhkmkgmaaaGreatDoorMg19
namespace Go.Proofs.YtoandhhkmkgmaaaGreatDoor
open Go.RowKit Go.Lib

/-- The macro of a line that defines one. -/
def definedP (s : List UInt8) : Option MacT := if 61 ∈ s ∧ 58 ∉ s.take (s.idxOf 61) then some (trimBL (s.take (s.idxOf 61)), trimBL (s.drop (s.idxOf 61 + 1))) else none
theorem sign_first (s : List UInt8) : (∀ x ∈ s, x ≠ 61 ∧ x ≠ 58) ∨ ∃ (k : Nat) (c : UInt8), s[k]? = some c ∧ (c = 61 ∨ c = 58) ∧ ∀ x ∈ s.take k, x ≠ 61 ∧ x ≠ 58 := by
 induction s with
 | nil => exact .inl (by simp)
 | cons b l ih =>
   by_cases hb : b = 61 ∨ b = 58
   ·exact .inr ⟨0, b, rfl, hb, by simp⟩
   ·have hb2 : b ≠ 61 ∧ b ≠ 58 := ⟨fun e => hb (.inl e), fun e => hb (.inr e)⟩
    rcases ih with h | ⟨k, c, h1, h2, h3⟩
    ·exact .inl (by intro x hx; rcases List.mem_cons.1 hx with rfl | hx; exact hb2; exact h x hx)
    ·exact .inr ⟨k + 1, c, by simpa using h1, h2, by intro x hx; rw [List.take_succ_cons] at hx; rcases List.mem_cons.1 hx with rfl | hx; exact hb2; exact h3 x hx⟩
theorem ixAny_cases (s : List UInt8) : (Lib.indexAny s [61, 58] = -1 ∧ definedP s = none) ∨ (∃ k : Nat, Lib.indexAny s [61, 58] = (k : Int) ∧ s[k]? = some 58 ∧ definedP s = none) ∨
 (∃ k : Nat, Lib.indexAny s [61, 58] = (k : Int) ∧ s[k]? = some 61 ∧ (61 : UInt8) ∉ s.take k ∧ definedP s = some (trimBL (s.take k), trimBL (s.drop (k + 1)))) := by
 rcases sign_first s with h | ⟨k, c, h1, h2, h3⟩
 ·refine .inl ⟨ixa_miss fun j x hx => h x (List.mem_of_getElem? hx), ?_⟩
  unfold definedP
  rw [if_neg fun e => (h 61 e.1).1 rfl]
 ·have hh := ixa_hit h1 h2 fun j x hj hx => h3 x (List.mem_of_getElem? (i := j) (by rw [List.getElem?_take, if_pos hj]; exact hx))
  rcases h2 with rfl | rfl
  ·have hn : (61 : UInt8) ∉ s.take k := fun e => (h3 61 e).1 rfl
   refine .inr (.inr ⟨k, hh, h1, hn, ?_⟩)
   unfold definedP
   rw [idx_at h1 hn, if_pos ⟨List.mem_of_getElem? h1, fun e => (h3 58 e).2 rfl⟩]
  ·refine .inr (.inl ⟨k, hh, h1, ?_⟩)
   unfold definedP
   rw [if_neg]
   rintro ⟨e1, e2⟩
   apply e2
   have hlt : s.idxOf 61 < s.length := List.idxOf_lt_length_of_mem e1
   have hat : s[s.idxOf 61]? = some 61 := by rw [List.getElem?_eq_getElem hlt, List.getElem_idxOf hlt]
   rcases Nat.lt_trichotomy (s.idxOf 61) k with h | h | h
   ·exact absurd rfl (h3 61 (List.mem_of_getElem? (i := s.idxOf 61) (by rw [List.getElem?_take, if_pos h]; exact hat))).1
   ·rw [h, h1] at hat; cases hat
   ·exact List.mem_of_getElem? (i := k) (by rw [List.getElem?_take, if_pos h]; exact h1)
/-- A macro as a value. -/
def macOf (o : Option MacT) : MacT := o.getD ([], [])
def DefPost (s : List UInt8) (w : World) (e : Ending) (w' : World) : Prop :=
 Below w.heap.size w w' ∧ ∃ n v : List UInt8, (n, v) = macOf (definedP s) ∧ e = .returned (.tuple #[.agg #[sv n, sv v], .bool (definedP s).isSome])
set_option maxRecDepth 100000 in
set_option maxHeartbeats 1000000 in
theorem fDefines_any (s : List UInt8) (hl : s.length ≤ 1048640) (w : World) : Calls Tryz.prog 34 #[sv s] w (DefPost s w) := by
 have HI := Lib.hid (fun W => ixAny_any ⟨s.toArray⟩ (by show s.toArray.size < _; simp; omega) W)
 have HSP := Lib.hid (fun W => lnSplit_any s 61 hl W)
 rw [show (⟨s.toArray⟩ : ByteArray).data.toList = s from rfl, show eqcS = ⟨#[61, 58]⟩ from rfl] at HI
 have HBK := Lib.hid (show Blk (w.alloc (.cells #[.string ⟨#[]⟩, .string ⟨#[]⟩] 71)) w.heap.size 71 [.string ⟨#[]⟩, .string ⟨#[]⟩] from Blk.new w _ _)
 have HB0 := Lib.hid (below_new (Below.refl w.heap.size w) (.cells #[.string ⟨#[]⟩, .string ⟨#[]⟩] 71))
 have hcs := ixAny_cases s
 have HL := Lib.hid hl
 clear hl
 show Calls _ _ #[.string ⟨s.toArray⟩] _ _
 have hsz : (⟨s.toArray⟩ : ByteArray).size = s.length := rfl
 have HAT : Hid (∀ k (h : k < (⟨s.toArray⟩ : ByteArray).size) c, s[k]? = some c → (⟨s.toArray⟩ : ByteArray)[k]'h = c) := Lib.hid fun k h c hc => by
  have := at_list (s := ⟨s.toArray⟩) h
  rw [show (⟨s.toArray⟩ : ByteArray).data.toList = s from rfl, hc] at this
  cases this
  rfl
 generalize hR : Lib.indexAny s [61, 58] = R at *
 generalize hbs : (⟨s.toArray⟩ : ByteArray) = bs at *
 have HBS := Lib.hid hbs
 clear hbs hR
 go_enter Tryz.func34, Tryz.ntmps34
 go_upto_region 1 with fail
 generalize w.alloc (.cells #[.string ⟨#[]⟩, .string ⟨#[]⟩] 71) = w0 at *
 rcases hcs with ⟨h1, h2⟩ | ⟨k, h1, h2, h3⟩ | ⟨k, h1, h2, h3, h4⟩
 ·subst h1
  have HD := Lib.hid h2
  clear h2
  have q1 : decide ((-1 : Int) < 0) = true := by decide
  go_wp2_with fail
  refine (HI.out _).mono ?_
  rintro e w1 ⟨rfl, hb1⟩
  have HB1 := Lib.hid (below_then HB0.out hb1)
  have HK1 := Lib.hid (HBK.out.below hb1 HBK.out.lt)
  clear hb1
  have hc0 := HK1.out.cell (j := 0) rfl
  have hc1 := HK1.out.cell (j := 1) rfl
  have hf0 := HK1.out.free 0
  have hf1 := HK1.out.free 1
  go_wp2_with fail
  have RZ := Lib.hid ((HK1.out.same 0 (.string ⟨#[]⟩)).same 1 (.string ⟨#[]⟩))
  have BZ := Lib.hid ((HB1.out.setCell (p := ⟨w.heap.size, 0, none⟩) (Nat.le_refl _) (.string ⟨#[]⟩)).setCell (p := ⟨w.heap.size, 1, none⟩) (Nat.le_refl _) (.string ⟨#[]⟩))
  generalize (w1.setCell ⟨w.heap.size, 0, none⟩ (.string ⟨#[]⟩)).setCell ⟨w.heap.size, 1, none⟩ (.string ⟨#[]⟩) = wz at *
  have q1 := RZ.out.cell (j := 0) rfl
  have q2 := RZ.out.cell (j := 1) rfl
  refine bodyPost_ret (v := .tuple #[.agg #[.string ⟨#[]⟩, .string ⟨#[]⟩], .bool false]) (by simp [results, Tryz.results34, go_sem, q1, q2]) rfl ?_
  exact ⟨BZ.out, [], [], by rw [HD.out]; rfl, by rw [HD.out]; rfl⟩
 ·subst h1
  have HD := Lib.hid h3
  clear h3
  have hkl : k < s.length := (List.getElem?_eq_some_iff.1 h2).1
  have hkb : k < bs.size := by rw [hsz]; exact hkl
  have hy : bs[k]'hkb = 58 := HAT.out k hkb 58 h2
  have q1 : decide ((k : Int) < 0) = false := by simp
  go_wp2_with fail
  refine (HI.out _).mono ?_
  rintro e w1 ⟨rfl, hb1⟩
  have HB1 := Lib.hid (below_then HB0.out hb1)
  have HK1 := Lib.hid (HBK.out.below hb1 HBK.out.lt)
  clear hb1
  have hc0 := HK1.out.cell (j := 0) rfl
  have hc1 := HK1.out.cell (j := 1) rfl
  have hf0 := HK1.out.free 0
  have hf1 := HK1.out.free 1
  go_wp2_with fail
  have RZ := Lib.hid ((HK1.out.same 0 (.string ⟨#[]⟩)).same 1 (.string ⟨#[]⟩))
  have BZ := Lib.hid ((HB1.out.setCell (p := ⟨w.heap.size, 0, none⟩) (Nat.le_refl _) (.string ⟨#[]⟩)).setCell (p := ⟨w.heap.size, 1, none⟩) (Nat.le_refl _) (.string ⟨#[]⟩))
  generalize (w1.setCell ⟨w.heap.size, 0, none⟩ (.string ⟨#[]⟩)).setCell ⟨w.heap.size, 1, none⟩ (.string ⟨#[]⟩) = wz at *
  have q1 := RZ.out.cell (j := 0) rfl
  have q2 := RZ.out.cell (j := 1) rfl
  refine bodyPost_ret (v := .tuple #[.agg #[.string ⟨#[]⟩, .string ⟨#[]⟩], .bool false]) (by simp [results, Tryz.results34, go_sem, q1, q2]) rfl ?_
  exact ⟨BZ.out, [], [], by rw [HD.out]; rfl, by rw [HD.out]; rfl⟩
 ·subst h1
  have HD := Lib.hid h4
  clear h4
  have hkl : k < s.length := (List.getElem?_eq_some_iff.1 h2).1
  have hkb : k < bs.size := by rw [hsz]; exact hkl
  have hy : bs[k]'hkb = 61 := HAT.out k hkb 61 h2
  have q1 : decide ((k : Int) < 0) = false := by simp
  have HC2 := Lib.hid h2
  have HC3 := Lib.hid h3
  clear h2 h3
  go_wp2_with fail
  refine (HI.out _).mono ?_
  rintro e w1 ⟨rfl, hb1⟩
  have HB1 := Lib.hid (below_then HB0.out hb1)
  have HK1 := Lib.hid (HBK.out.below hb1 HBK.out.lt)
  clear hb1
  go_wp2_with fail
  refine (HSP.out _).mono ?_
  rintro e w2 ⟨hb2, hno | ⟨k2, hk1, hk2, rfl⟩⟩
  ·exact absurd (List.mem_of_getElem? HC2.out) hno.1
  have hkk : k2 = k := (idx_at hk1 hk2).symm.trans (idx_at HC2.out HC3.out)
  subst hkk
  have HB2 := Lib.hid (below_then HB1.out hb2)
  have HK2 := Lib.hid (HK1.out.below hb2 HK1.out.lt)
  clear hb2 hk1 hk2
  generalize hN : trimBL (s.take k2) = N at *
  generalize hV : trimBL (s.drop (k2 + 1)) = V at *
  have hc0 := HK2.out.cell (j := 0) rfl
  have hc1 := HK2.out.cell (j := 1) rfl
  have hf0 := HK2.out.free 0
  have hf1 := HK2.out.free 1
  go_wp2_with fail
  have RZ := Lib.hid ((HK2.out.same 0 (sv N)).same 1 (sv V))
  have BZ := Lib.hid ((HB2.out.setCell (p := ⟨w.heap.size, 0, none⟩) (Nat.le_refl _) (sv N)).setCell (p := ⟨w.heap.size, 1, none⟩) (Nat.le_refl _) (sv V))
  show bodyPost _ _ _ _ _ ((w2.setCell ⟨w.heap.size, 0, none⟩ (sv N)).setCell ⟨w.heap.size, 1, none⟩ (sv V))
  generalize (w2.setCell ⟨w.heap.size, 0, none⟩ (sv N)).setCell ⟨w.heap.size, 1, none⟩ (sv V) = wz at *
  have q1 := RZ.out.cell (j := 0) rfl
  have q2 := RZ.out.cell (j := 1) rfl
  refine bodyPost_ret (v := .tuple #[.agg #[sv N, sv V], .bool true]) (by simp [results, Tryz.results34, go_sem, q1, q2]) rfl ?_
  exact ⟨BZ.out, N, V, by rw [HD.out]; rfl, by rw [HD.out]; rfl⟩
end Go.Proofs.YtoandhhkmkgmaaaGreatDoor
