/- Contracts: line.bad, line.shown; the reference's blank, Shown, Trimmed. -/
import Derived.Test.YtbgcbigplegpmaaDoorLnPlain
import Derived.Test.YtbgcbigplegpmaaDoorShelf
import Derived.BigRegion
import Derived.Deep.Cut
import Derived.Deep.RegionHeld3
import Derived.Lib.Hide
import Derived.Lib.Walk
import Derived.WalkKit
import Derived.Outline
namespace Go.Proofs.YtbgcbigplegpmaaDoor
open Go.RowKit

/-- A text by its bytes. -/
structure StrIsL (b : ByteArray) (s : List UInt8) : Prop where
  data : b.data.toList = s
  size : b.size = s.length
theorem strIsL (s : List UInt8) : StrIsL ⟨s.toArray⟩ s := ⟨rfl, rfl⟩
theorem StrIsL.at_ {b : ByteArray} {s : List UInt8} (h : StrIsL b s) {k : Nat} (hk : k < b.size) : s[k]? = some b[k] := by
  rw [← h.data]
  have h1 : k < b.data.size := hk
  rw [Array.getElem?_toList, Array.getElem?_eq_getElem h1]
  rfl
theorem neK {c n : UInt8} (h : c ≠ n) : (((c.toNat : Nat) : Int) != ((n.toNat : Nat) : Int)) = true := by
  have : c.toNat ≠ n.toNat := fun e => h (UInt8.toNat_inj.1 e)
  simp
  omega
theorem eqK {c n : UInt8} (h : c ≠ n) : (((c.toNat : Nat) : Int) == ((n.toNat : Nat) : Int)) = false := by
  have : c.toNat ≠ n.toNat := fun e => h (UInt8.toNat_inj.1 e)
  simp
  omega
theorem measL {q m : Nat} (h : q < m) : m - (intOf (.int .i64 ((q : Int) + 1))).toNat < m - (intOf (.int .i64 (q : Int))).toNat := by
  simp only [intOf]
  omega
theorem take_snocL {α : Type} {s : List α} {i : Nat} {c : α} (h : s[i]? = some c) : s.take (i + 1) = s.take i ++ [c] := by rw [List.take_add_one, h]; rfl
theorem cat_bytesL (x y : List UInt8) : (⟨x.toArray⟩ : ByteArray) ++ ⟨y.toArray⟩ = ⟨(x ++ y).toArray⟩ := by
  apply ByteArray.ext
  simp
theorem ext_one {b : ByteArray} {s : List UInt8} (h : StrIsL b s) {i : Nat} {c : UInt8} (hc : s[i]? = some c) : b.extract i (i + 1) = ⟨#[c]⟩ := by
  have h1 := Lib.extract_data b i (i + 1)
  rw [h.data] at h1
  have h2 : (s.drop i).take (i + 1 - i) = [c] := by
    obtain ⟨hi, hx⟩ := List.getElem?_eq_some_iff.1 hc
    rw [List.drop_eq_getElem_cons hi, hx, show i + 1 - i = 1 by omega]
    rfl
  rw [h2] at h1
  calc b.extract i (i + 1) = ⟨(b.extract i (i + 1)).data.toList.toArray⟩ := rfl
    _ = _ := by rw [h1]
set_option maxRecDepth 100000 in
theorem rBlank_any (c : UInt8) (w : World) : Calls Tryd.prog 41 #[.int .u8 (c.toNat : Int)] w fun e w' => e = .returned (.bool (blankB c)) ∧ w = w' := by
  by_cases h32 : c = 32
  · subst h32
    go_enter Tryd.func41, Tryd.ntmps41
    go_wp2_with fail
    go_ret
    exact ⟨rfl, rfl⟩
  · have k32 : ((c.toNat : Int) == 32) = false := eqK h32
    by_cases h9 : c = 9
    · subst h9
      go_enter Tryd.func41, Tryd.ntmps41
      go_wp2_with fail
      go_ret
      exact ⟨rfl, rfl⟩
    · have k9 : ((c.toNat : Int) == 9) = false := eqK h9
      have HB : Hid (blankB c = false) := Lib.hid (by unfold blankB; simp [h32, h9])
      clear h32 h9
      go_enter Tryd.func41, Tryd.ntmps41
      go_wp2_with fail
      go_ret
      exact ⟨by rw [HB.out]; rfl, rfl⟩
theorem rBlank_is (c : UInt8) (w : World) {v : Bool} (h : blankB c = v) : Calls Tryd.prog 41 #[.int .u8 (c.toNat : Int)] w fun e w' => e = .returned (.bool v) ∧ w = w' := by
  subst h
  exact rBlank_any c w
theorem badB_cases (c : UInt8) : (badB c = true ∧ 126 < c.toNat) ∨ (badB c = true ∧ c.toNat ≤ 126 ∧ c.toNat < 32 ∧ c ≠ 9 ∧ c ≠ 10) ∨ (badB c = false ∧ c = 9) ∨ (badB c = false ∧ c = 10) ∨ (badB c = false ∧ 32 ≤ c.toNat ∧ c.toNat ≤ 126) := by
  have key : ∀ n : Fin 256, (badB (UInt8.ofNat n.val) = true ∧ 126 < n.val) ∨ (badB (UInt8.ofNat n.val) = true ∧ n.val ≤ 126 ∧ n.val < 32 ∧ UInt8.ofNat n.val ≠ 9 ∧ UInt8.ofNat n.val ≠ 10) ∨ (badB (UInt8.ofNat n.val) = false ∧ UInt8.ofNat n.val = 9) ∨ (badB (UInt8.ofNat n.val) = false ∧ UInt8.ofNat n.val = 10) ∨ (badB (UInt8.ofNat n.val) = false ∧ 32 ≤ n.val ∧ n.val ≤ 126) := by decide +kernel
  have h := key ⟨c.toNat, c.toNat_lt⟩
  have e : UInt8.ofNat c.toNat = c := by simp
  simp only [e] at h
  exact h
end Go.Proofs.YtbgcbigplegpmaaDoor
