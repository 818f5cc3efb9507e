/- Contracts: line.bad, line.shown; the reference's blank, Shown, Trimmed. -/
import Derived.Test.YtjdfmmjadjggjaaDoorLnPlain
import Derived.Test.YtjdfmmjadjggjaaDoorShelf
import Derived.BigRegion
import Derived.Deep.Cut
import Derived.Deep.RegionHeld3
import Derived.Lib.Hide
import Derived.Lib.Walk
import Derived.WalkKit
import Derived.Outline
namespace Go.Proofs.YtjdfmmjadjggjaaDoor
open Go.RowKit

/-- A text by its bytes. -/
structure StrIs (b : ByteArray) (s : List UInt8) : Prop where
  data : b.data.toList = s
  size : b.size = s.length
theorem strIs (s : List UInt8) : StrIs ⟨s.toArray⟩ s := ⟨rfl, rfl⟩
theorem StrIs.at_ {b : ByteArray} {s : List UInt8} (h : StrIs b s) {k : Nat} (hk : k < b.size) : s[k]? = some b[k] := by
  rw [← h.data]
  have h1 : k < b.data.size := hk
  rw [Array.getElem?_toList, Array.getElem?_eq_getElem h1]
  rfl
theorem neK {c n : UInt8} (h : c ≠ n) : (((c.toNat : Nat) : Int) != ((n.toNat : Nat) : Int)) = true := by
  have : c.toNat ≠ n.toNat := fun e => h (UInt8.toNat_inj.1 e)
  simp
  omega
theorem eqK {c n : UInt8} (h : c ≠ n) : (((c.toNat : Nat) : Int) == ((n.toNat : Nat) : Int)) = false := by
  have : c.toNat ≠ n.toNat := fun e => h (UInt8.toNat_inj.1 e)
  simp
  omega
theorem measL {q m : Nat} (h : q < m) : m - (intOf (.int .i64 ((q : Int) + 1))).toNat < m - (intOf (.int .i64 (q : Int))).toNat := by
  simp only [intOf]
  omega
theorem take_snocL {α : Type} {s : List α} {i : Nat} {c : α} (h : s[i]? = some c) : s.take (i + 1) = s.take i ++ [c] := by rw [List.take_add_one, h]; rfl
theorem cat_bytesL (x y : List UInt8) : (⟨x.toArray⟩ : ByteArray) ++ ⟨y.toArray⟩ = ⟨(x ++ y).toArray⟩ := by
  apply ByteArray.ext
  simp
theorem ext_one {b : ByteArray} {s : List UInt8} (h : StrIs b s) {i : Nat} {c : UInt8} (hc : s[i]? = some c) : b.extract i (i + 1) = ⟨#[c]⟩ := by
  have h1 := Lib.extract_data b i (i + 1)
  rw [h.data] at h1
  have h2 : (s.drop i).take (i + 1 - i) = [c] := by
    obtain ⟨hi, hx⟩ := List.getElem?_eq_some_iff.1 hc
    rw [List.drop_eq_getElem_cons hi, hx, show i + 1 - i = 1 by omega]
    rfl
  rw [h2] at h1
  calc b.extract i (i + 1) = ⟨(b.extract i (i + 1)).data.toList.toArray⟩ := rfl
    _ = _ := by rw [h1]
set_option maxRecDepth 100000 in
theorem rBlank_any (c : UInt8) (w : World) : Calls Tryd.prog 17 #[.int .u8 (c.toNat : Int)] w fun e w' => e = .returned (.bool (blankB c)) ∧ w = w' := by
  by_cases h32 : c = 32
  · subst h32
    go_enter Tryd.func17, Tryd.ntmps17
    go_wp2_with fail
    go_ret
    exact ⟨rfl, rfl⟩
  · have k32 : ((c.toNat : Int) == 32) = false := eqK h32
    by_cases h9 : c = 9
    · subst h9
      go_enter Tryd.func17, Tryd.ntmps17
      go_wp2_with fail
      go_ret
      exact ⟨rfl, rfl⟩
    · have k9 : ((c.toNat : Int) == 9) = false := eqK h9
      have HB : Hid (blankB c = false) := Lib.hid (by unfold blankB; simp [h32, h9])
      clear h32 h9
      go_enter Tryd.func17, Tryd.ntmps17
      go_wp2_with fail
      go_ret
      exact ⟨by rw [HB.out]; rfl, rfl⟩
theorem rBlank_is (c : UInt8) (w : World) {v : Bool} (h : blankB c = v) : Calls Tryd.prog 17 #[.int .u8 (c.toNat : Int)] w fun e w' => e = .returned (.bool v) ∧ w = w' := by
  subst h
  exact rBlank_any c w
theorem badB_cases (c : UInt8) : (badB c = true ∧ 126 < c.toNat) ∨ (badB c = true ∧ c.toNat ≤ 126 ∧ c.toNat < 32 ∧ c ≠ 9 ∧ c ≠ 10) ∨ (badB c = false ∧ c = 9) ∨ (badB c = false ∧ c = 10) ∨ (badB c = false ∧ 32 ≤ c.toNat ∧ c.toNat ≤ 126) := by
  have key : ∀ n : Fin 256, (badB (UInt8.ofNat n.val) = true ∧ 126 < n.val) ∨ (badB (UInt8.ofNat n.val) = true ∧ n.val ≤ 126 ∧ n.val < 32 ∧ UInt8.ofNat n.val ≠ 9 ∧ UInt8.ofNat n.val ≠ 10) ∨ (badB (UInt8.ofNat n.val) = false ∧ UInt8.ofNat n.val = 9) ∨ (badB (UInt8.ofNat n.val) = false ∧ UInt8.ofNat n.val = 10) ∨ (badB (UInt8.ofNat n.val) = false ∧ 32 ≤ n.val ∧ n.val ≤ 126) := by decide +kernel
  have h := key ⟨c.toNat, c.toNat_lt⟩
  have e : UInt8.ofNat c.toNat = c := by simp
  simp only [e] at h
  exact h
set_option maxRecDepth 100000 in
set_option maxHeartbeats 1000000 in
theorem lnBad_any (s : List UInt8) (hl : s.length ≤ 9223372036854775807) (w : World) : Calls Tryd.prog 14 #[.string ⟨s.toArray⟩] w fun e w' => e = .returned (.bool (s.any badB)) ∧ w = w' := by
  have HS := Lib.hid (strIs s)
  generalize (⟨s.toArray⟩ : ByteArray) = b at *
  have hsz : b.size = s.length := HS.out.size
  have HSZ := Lib.hid hsz
  have hbs : b.size ≤ 9223372036854775807 := by omega
  clear hsz hl
  go_enter Tryd.func14, Tryd.ntmps14
  go_wp2_with fail
  go_loop [7] (fun x => ∃ i : Nat, x = .int .i64 (i : Int) ∧ i ≤ b.size ∧ Hid ((s.take i).any badB = false)) (fun x => b.size - (intOf x).toNat)
  case atStart => exact ⟨0, rfl, by omega, Lib.hid rfl⟩
  case round =>
    obtain ⟨i, rfl, hi, HA⟩ := hrel
    by_cases hlt : i < b.size
    · have HC := Lib.hid (HS.out.at_ hlt)
      have i0 : (i : Int) < (b.size : Int) := by omega
      have hcs := badB_cases b[i]
      have HT := Lib.hid (take_snocL (HS.out.at_ hlt))
      rcases hcs with ⟨hb, h1⟩ | ⟨hb, h1, h2, h3, h4⟩ | ⟨hb, h1⟩ | ⟨hb, h1⟩ | ⟨hb, h1, h2⟩
      · have HY : Hid (s.any badB = true) := Lib.hid (List.any_eq_true.2 ⟨_, List.mem_of_getElem? HC.out, hb⟩)
        clear hb
        go_wp2_with fail
        go_ret
        exact ⟨by rw [HY.out]; rfl, rfl⟩
      · have HY : Hid (s.any badB = true) := Lib.hid (List.any_eq_true.2 ⟨_, List.mem_of_getElem? HC.out, hb⟩)
        have k9 : ((b[i].toNat : Int) != 9) = true := neK h3
        have k10 : ((b[i].toNat : Int) != 10) = true := neK h4
        clear hb h3 h4
        go_wp2_with fail
        go_ret
        exact ⟨by rw [HY.out]; rfl, rfl⟩
      all_goals
        have HA2 : Hid ((s.take (i + 1)).any badB = false) := Lib.hid (by rw [HT.out, List.any_append, HA.out]; simp [hb])
        clear hb
      · have k9 : ((b[i].toNat : Int) != 9) = false := by rw [h1]; rfl
        have l1 : ¬ 126 < b[i].toNat := by rw [h1]; decide
        have l2 : b[i].toNat < 32 := by rw [h1]; decide
        clear h1
        go_wp2_with fail
        exact ⟨⟨i + 1, rfl, by omega, HA2⟩, measL hlt⟩
      · have k9 : ((b[i].toNat : Int) != 9) = true := by rw [h1]; rfl
        have k10 : ((b[i].toNat : Int) != 10) = false := by rw [h1]; rfl
        have l1 : ¬ 126 < b[i].toNat := by rw [h1]; decide
        have l2 : b[i].toNat < 32 := by rw [h1]; decide
        clear h1
        go_wp2_with fail
        exact ⟨⟨i + 1, rfl, by omega, HA2⟩, measL hlt⟩
      · have l1 : ¬ 126 < b[i].toNat := by omega
        have l2 : ¬ b[i].toNat < 32 := by omega
        clear h1 h2
        go_wp2_with fail
        exact ⟨⟨i + 1, rfl, by omega, HA2⟩, measL hlt⟩
    · obtain rfl : i = b.size := by omega
      have HY : Hid (s.any badB = false) := Lib.hid (by have h := HA.out; rwa [List.take_of_length_le (by rw [HSZ.out]; exact Nat.le_refl _)] at h)
      go_wp2_with fail
      go_ret
      exact ⟨by rw [HY.out]; rfl, rfl⟩
set_option maxRecDepth 100000 in
set_option maxHeartbeats 1000000 in
theorem rShown_any (s : List UInt8) (hl : s.length ≤ 1048576) (w : World) : Calls Tryd.prog 29 #[.string ⟨s.toArray⟩] w fun e w' => e = .returned (.string ⟨(shownL s).toArray⟩) ∧ w = w' := by
  have HS := Lib.hid (strIs s)
  generalize (⟨s.toArray⟩ : ByteArray) = b at *
  have hsz : b.size = s.length := HS.out.size
  have HSZ := Lib.hid hsz
  have hbs : b.size ≤ 1048576 := by omega
  clear hsz hl
  go_enter Tryd.func29, Tryd.ntmps29
  go_wp2_with fail
  go_loop [3, 7] (fun y x => ∃ i : Nat, x = .int .i64 (i : Int) ∧ y = .string ⟨(shownL (s.take i)).toArray⟩ ∧ i ≤ b.size) (fun _ x => b.size - (intOf x).toNat)
  case atStart => exact ⟨0, rfl, rfl, by omega⟩
  case round =>
    obtain ⟨i, rfl, rfl, hi⟩ := hrel
    by_cases hlt : i < b.size
    · have hsn := shownL_snoc (s.take i) b[i]
      rw [← take_snocL (HS.out.at_ hlt)] at hsn
      have hsg := ext_one HS.out (HS.out.at_ hlt)
      have hln := shownL_len (s.take i)
      rw [List.length_take] at hln
      have i0 : (i : Int) < (b.size : Int) := by omega
      have i1 : (i : Int) + 1 ≤ (b.size : Int) := by omega
      have hTs : (⟨(shownL (s.take i)).toArray⟩ : ByteArray).size ≤ 2097152 := by
        show (shownL (s.take i)).length ≤ _
        omega
      obtain ⟨BN, hBN⟩ : ∃ v, (⟨(shownL (s.take (i + 1))).toArray⟩ : ByteArray) = v := ⟨_, rfl⟩
      generalize hBT : (⟨(shownL (s.take i)).toArray⟩ : ByteArray) = BT at *
      by_cases h35 : b[i] = 35
      · have hcat : BT ++ ⟨#[92]⟩ ++ ⟨#[b[i]]⟩ = BN := by
          rw [← hBT, ← hBN, hsn, if_pos h35, h35]
          rw [show (⟨#[92]⟩ : ByteArray) = ⟨[92].toArray⟩ from rfl, cat_bytesL]
          exact (cat_bytesL _ [35]).trans (by simp)
        have k35 : ((b[i].toNat : Int) == 35) = true := by rw [h35]; rfl
        have HBN := Lib.hid hBN
        clear hln hsn hBT hBN h35
        go_wp2_with fail
        exact ⟨⟨i + 1, rfl, congrArg Value.string HBN.out.symm, by omega⟩, measL hlt⟩
      · have hcat : BT ++ ⟨#[b[i]]⟩ = BN := by
          rw [← hBT, ← hBN, hsn, if_neg h35]
          exact cat_bytesL _ [b[i]]
        have k35 : ((b[i].toNat : Int) == 35) = false := eqK h35
        have HBN := Lib.hid hBN
        clear hln hsn hBT hBN h35
        go_wp2_with fail
        exact ⟨⟨i + 1, rfl, congrArg Value.string HBN.out.symm, by omega⟩, measL hlt⟩
    · obtain rfl : i = b.size := by omega
      have HT : Hid (s.take b.size = s) := Lib.hid (List.take_of_length_le (by rw [HSZ.out]; exact Nat.le_refl _))
      go_wp2_with fail
      go_ret
      exact ⟨by rw [HT.out]; rfl, rfl⟩
end Go.Proofs.YtjdfmmjadjggjaaDoor
