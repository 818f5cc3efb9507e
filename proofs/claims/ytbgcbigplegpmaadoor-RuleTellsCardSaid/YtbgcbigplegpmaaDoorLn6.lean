/- Contract: line.Split. -/
import Derived.Test.YtbgcbigplegpmaaDoorLn3
import Derived.Deep.RegionWith
import Derived.Deep.RegionHeld3
namespace Go.Proofs.YtbgcbigplegpmaaDoor
open Go.RowKit

theorem ixb_cases : ∀ (l : List UInt8) (c : UInt8), (Lib.indexByte l c = -1 ∧ c ∉ l) ∨ ∃ k : Nat, Lib.indexByte l c = (k : Int) ∧ l[k]? = some c ∧ c ∉ l.take k
  | [], c => .inl ⟨rfl, by simp⟩
  | b :: l, c => by
    by_cases h : b = c
    · subst h
      exact .inr ⟨0, by simp [Lib.indexByte], rfl, by simp⟩
    · have hb : (b == c) = false := beq_eq_false_iff_ne.2 h
      rcases ixb_cases l c with ⟨h1, h2⟩ | ⟨k, h1, h2, h3⟩
      · refine .inl ⟨by simp [Lib.indexByte, hb, h1], ?_⟩
        rw [List.mem_cons]
        rintro (e | e)
        · exact h e.symm
        · exact h2 e
      · refine .inr ⟨k + 1, ?_, by simpa using h2, ?_⟩
        · have : ((k : Int) == -1) = false := by simp
          simp [Lib.indexByte, hb, h1, this]
          try omega
        · rw [List.take_succ_cons, List.mem_cons]
          rintro (e | e)
          · exact h e.symm
          · exact h3 e
def SplPost (s : List UInt8) (c : UInt8) (w : World) (e : Ending) (w' : World) : Prop :=
  Below w.heap.size w w' ∧ ((c ∉ s ∧ e = .returned (.tuple #[.string ⟨s.toArray⟩, .string ⟨#[]⟩, .bool false])) ∨
    ∃ k : Nat, s[k]? = some c ∧ c ∉ s.take k ∧ e = .returned (.tuple #[.string ⟨(trimBL (s.take k)).toArray⟩, .string ⟨(trimBL (s.drop (k + 1))).toArray⟩, .bool true]))
set_option maxRecDepth 100000 in
set_option maxHeartbeats 400000 in
theorem lnSplit_any (s : List UInt8) (c : UInt8) (hl : s.length ≤ 1048576) (w : World) : Calls Tryd.prog 15 #[.string ⟨s.toArray⟩, .int .u8 (c.toNat : Int)] w (SplPost s c w) := by
  have HI := Lib.hid (Tryd.strings_IndexByte ⟨s.toArray⟩ (c.toNat : Int) w)
  have hcs := ixb_cases s c
  have HS := Lib.hid (strIsL s)
  have hof : ((c.toNat : Int)).toNat.toUInt8 = c := by simp
  rw [hof, show (⟨s.toArray⟩ : ByteArray).data.toList = s from rfl] at HI
  rcases hcs with ⟨h1, h2⟩ | ⟨k, h1, h2, h3⟩
  · rw [h1] at HI
    have H2 := Lib.hid h2
    have HSE := Lib.hid (show Value.string ⟨s.toArray⟩ = .string ⟨s.toArray⟩ from rfl)
    clear h1 h2
    generalize hbs : (⟨s.toArray⟩ : ByteArray) = b at *
    have HBS := Lib.hid hbs
    clear hbs
    go_enter Tryd.func15, Tryd.ntmps15
    go_wp2_with fail
    refine HI.out.mono ?_
    rintro e w' ⟨rfl, rfl⟩
    go_wp2_with fail
    go_ret3
    exact ⟨Below.refl _ _, .inl ⟨H2.out, by rw [HBS.out]; rfl⟩⟩
  · rw [h1] at HI
    have H2 := Lib.hid h2
    have H3 := Lib.hid h3
    have hks : k < s.length := (List.getElem?_eq_some_iff.1 h2).1
    have hsl := ext_takeL HS.out k
    have hsr := ext_dropL HS.out (k + 1)
    have HT1 := Lib.hid (fun W => sTrim_any (s.take k) (by rw [List.length_take]; omega) W)
    have HT2 := Lib.hid (fun W => sTrim_any (s.drop (k + 1)) (by rw [List.length_drop]; omega) W)
    have hsz : (⟨s.toArray⟩ : ByteArray).size = s.length := rfl
    clear h1 h2 h3 hof
    generalize (⟨s.toArray⟩ : ByteArray) = b at *
    generalize (⟨(s.take k).toArray⟩ : ByteArray) = bu at *
    generalize (⟨(s.drop (k + 1)).toArray⟩ : ByteArray) = bv at *
    have k1 : k < b.size := by omega
    have k2 : (k : Int) < (b.size : Int) := by omega
    have k3 : (k : Int) + 1 ≤ (b.size : Int) := by omega
    have k4 : 0 ≤ (k : Int) + 1 := by omega
    have k5 : (k : Int) ≤ (b.size : Int) := by omega
    have k7 : 0 ≤ (k : Int) := by omega
    have hw2 : IntKind.i64.wrap ((k : Int) + 1) = (k : Int) + 1 := by rw [IntKind.wrap_i64]; omega
    have k6 : b.size ≤ 1048576 := by omega
    clear hsz hks hl
    go_enter Tryd.func15, Tryd.ntmps15
    go_wp2_with fail
    refine HI.out.mono ?_
    rintro e w' ⟨rfl, rfl⟩
    go_wp2_with fail
    have B0 := Below.refl w'.heap.size w'
    clear k1 k6
    go_region_held3 (fun W => Below w'.heap.size w' W) ((first | assumption | exact Below.drew (by assumption))) ((first
      | (go_at_call_of 34 (Value.string bu); refine (HT1.out _).mono ?_; rintro e w5 ⟨rfl, hb5⟩; first | (have B5 := below_newL B6 hb5) | (have B5 := below_newL (Below.drew B0) hb5))
      | (go_at_call_of 34 (Value.string bv); refine (HT2.out _).mono ?_; rintro e w6 ⟨rfl, hb6⟩; first | (have B6 := below_newL B5 hb6) | (have B6 := below_newL (Below.drew B0) hb6))))
    have HB6 := Lib.hid B6
    clear B5 B6 hb5 hb6
    go_wp2_with fail
    go_ret3
    exact ⟨HB6.out, .inr ⟨k, H2.out, H3.out, rfl⟩⟩
end Go.Proofs.YtbgcbigplegpmaaDoor
