/- Contracts: a name's signs, Check; the reference's GoodName, GoodNames. Texts shorter than 2^63. -/
import Derived.Test.YtiechbaknolimaaDoorNamePlain
import Derived.Test.YtiechbaknolimaaDoorBase
import Derived.Test.YtiechbaknolimaaDoorRows
import Derived.Test.YtiechbaknolimaaDoorShelf
import Derived.WalkKit
import Derived.WalkSpells
import Derived.WalkLawsBesides
import Derived.Outline
import Derived.BigQuiet
import Derived.Deep.QuietTactic
import Derived.Lib.Hide
namespace Go.Proofs.YtiechbaknolimaaDoor
open Go.RowKit

/-- A text as a value. -/
def sv (s : List UInt8) : Value := .string ⟨s.toArray⟩
theorem rest_sgn : ∀ n : Fin 256, (97 ≤ n.val ∧ n.val ≤ 122) ∨ (65 ≤ n.val ∧ n.val ≤ 90) ∨ (48 ≤ n.val ∧ n.val ≤ 57) ∨ decide (0 ≤ Lib.indexByte [95, 46, 47, 45, 43] n.val.toUInt8) = sgn n.val.toUInt8 := by decide +kernel
theorem sign_any (c : UInt8) (w : World) :
    Calls Tryd.prog 99 #[.int .u8 (c.toNat : Int)] w fun e w' => e = .returned (.bool (sgn c)) ∧ w = w' := by
  have hc : c.toNat < 256 := c.toNat_lt
  have e : c.toNat.toUInt8 = c := by simp
  by_cases a1 : 97 ≤ c.toNat ∧ c.toNat ≤ 122
  · have HS : Hid (true = sgn c) := Lib.hid (by unfold sgn; simp [a1.1, a1.2])
    obtain ⟨b1, b2⟩ := a1
    clear e
    generalize c.toNat = n at *
    go_enter Tryd.func99, Tryd.ntmps99
    go_wp2_with fail
    go_ret
    exact ⟨ret_bool HS.out, rfl⟩
  · by_cases a2 : 65 ≤ c.toNat ∧ c.toNat ≤ 90
    · have HS : Hid (true = sgn c) := Lib.hid (by unfold sgn; simp [a2.1, a2.2])
      obtain ⟨b1, b2⟩ := a2
      clear e
      generalize c.toNat = n at *
      have b3 : n < 97 := by omega
      clear a1
      go_enter Tryd.func99, Tryd.ntmps99
      go_wp2_with fail
      go_ret
      exact ⟨ret_bool HS.out, rfl⟩
    · by_cases a3 : 48 ≤ c.toNat ∧ c.toNat ≤ 57
      · have HS : Hid (true = sgn c) := Lib.hid (by unfold sgn; simp [a3.1, a3.2])
        obtain ⟨b1, b2⟩ := a3
        clear e
        generalize c.toNat = n at *
        have b3 : n < 65 := by omega
        clear a1 a2
        go_enter Tryd.func99, Tryd.ntmps99
        go_wp2_with fail
        go_ret
        exact ⟨ret_bool HS.out, rfl⟩
      · have HS : Hid (decide (0 ≤ Lib.indexByte [95, 46, 47, 45, 43] c.toNat.toUInt8) = sgn c) := Lib.hid (by
          have := rest_sgn ⟨c.toNat, hc⟩
          simp only [e] at this ⊢
          rcases this with h | h | h | h
          · exact absurd h a1
          · exact absurd h a2
          · exact absurd h a3
          · exact h)
        clear e
        generalize c.toNat = n at *
        have f1 : n < 97 ∨ 122 < n := by omega
        have f2 : n < 65 ∨ 90 < n := by omega
        have f3 : n < 48 ∨ 57 < n := by omega
        clear a1 a2 a3
        have HI := Lib.hid (Tryd.strings_IndexByte ⟨#[95, 46, 47, 45, 43]⟩ (n : Int))
        rcases f1 with f1 | f1 <;> rcases f2 with f2 | f2 <;> rcases f3 with f3 | f3 <;> first
          | omega
          | (go_enter Tryd.func99, Tryd.ntmps99
             go_wp2_with fail
             refine (HI.out _).mono ?_
             rintro e w' ⟨rfl, rfl⟩
             go_wp2_with fail
             go_ret
             exact ⟨ret_bool HS.out, rfl⟩)
/-- A text by its bytes. -/
structure StrIs (b : ByteArray) (s : List UInt8) : Prop where
  data : b.data.toList = s
  size : b.size = s.length
theorem strIs (s : List UInt8) : StrIs ⟨s.toArray⟩ s := ⟨rfl, rfl⟩
theorem StrIs.at_ {b : ByteArray} {s : List UInt8} (h : StrIs b s) {k : Nat} (hk : k < b.size) : s[k]? = some b[k] := by
  rw [← h.data]
  have h1 : k < b.data.size := hk
  rw [Array.getElem?_toList, Array.getElem?_eq_getElem h1]
  rfl
theorem StrIs.empty {b : ByteArray} {s : List UInt8} (h : StrIs b s) : b.toList.isEmpty = s.isEmpty := by rw [Lib.toList_data, h.data]
theorem good_long {s : List UInt8} (h : 40 < s.length) : goodName s = false := by unfold goodName; simp; omega
theorem good_none : goodName [] = false := rfl
theorem good_bad {s : List UInt8} {k : Nat} {c : UInt8} (hk : s[k]? = some c) (h : sgn c = false) : goodName s = false := by
  unfold goodName
  have : s.all sgn = false := by
    rw [Bool.eq_false_iff]
    intro ha
    have := List.all_eq_true.1 ha c (List.mem_of_getElem? hk)
    rw [h] at this; cases this
  rw [this]; rfl
theorem good_yes {s : List UInt8} (h : ∀ (j : Nat) (c : UInt8), s[j]? = some c → sgn c = true) (h0 : 0 < s.length) (h1 : s.length ≤ 40) : goodName s = true := by
  unfold goodName
  have : s.all sgn = true := List.all_eq_true.2 fun c hc => by
    obtain ⟨j, hj⟩ := List.mem_iff_getElem?.1 hc
    exact h j c hj
  rw [this]; simp; omega
set_option maxHeartbeats 1000000 in
theorem nmCheck_any (s : List UInt8) (w : World) (hl : s.length ≤ 9223372036854775807) :
    Calls Tryd.prog 71 #[sv s] w fun e w' => e = .returned (.int .i64 (nameErr s)) ∧ w = w' := by
  unfold sv
  have HB := Lib.hid (strIs s)
  generalize (⟨s.toArray⟩ : ByteArray) = b at *
  have hsz : b.size = s.length := HB.out.size
  have he := HB.out.empty
  by_cases h0 : s.length = 0
  · have HE : Hid (3 = nameErr s) := Lib.hid (by
      have : s = [] := List.eq_nil_of_length_eq_zero h0
      subst this; rfl)
    rw [List.isEmpty_iff_length_eq_zero.2 h0] at he
    clear hsz h0
    go_enter Tryd.func71, Tryd.ntmps71
    go_wp2_with fail
    go_ret
    exact ⟨ret_int HE.out, rfl⟩
  · have he' : b.toList.isEmpty = false := by
      rw [he, Bool.eq_false_iff]
      exact fun h => h0 (List.isEmpty_iff_length_eq_zero.1 h)
    clear he
    have hpos : 0 < s.length := by omega
    by_cases h1 : 40 < s.length
    · have HE : Hid (3 = nameErr s) := Lib.hid (by unfold nameErr; rw [good_long h1]; rfl)
      have h2 : 40 < b.size := by omega
      clear hsz h0
      go_enter Tryd.func71, Tryd.ntmps71
      go_wp2_with fail
      go_ret
      exact ⟨ret_int HE.out, rfl⟩
    · have h2 : b.size ≤ 40 := by omega
      have HSZ := Lib.hid hsz
      have HP := Lib.hid hpos
      clear hsz h0 h1
      go_enter Tryd.func71, Tryd.ntmps71
      go_wp2_with fail
      go_loop [3, 13] (fun _ i => ∃ k : Nat, k ≤ b.size ∧ i = .int .i64 (k : Int) ∧ Hid (∀ (j : Nat) (c : UInt8), j < k → s[j]? = some c → sgn c = true)) (fun _ i => b.size - (intOf i).toNat)
      case atStart => exact ⟨0, by omega, rfl, Lib.hid (fun _ _ hj => absurd hj (Nat.not_lt_zero _))⟩
      case round =>
        obtain ⟨k, hk, rfl, hall⟩ := hrel
        by_cases hlt : k < b.size
        · have HC := Lib.hid (sign_any b[k])
          have HX := Lib.hid (HB.out.at_ hlt)
          cases hq : sgn b[k] with
          | true =>
            have HQ := Lib.hid hq
            clear hq
            go_wp2_with fail
            refine (HC.out _).mono ?_
            rintro e w' ⟨rfl, rfl⟩
            rw [HQ.out]
            go_wp2_with fail
            go_round
            case rel => exact ⟨k + 1, by omega, by go_num, Lib.hid (fun j c hj hc => by
              rcases Nat.lt_or_ge j k with h | h
              · exact hall.out j c h hc
              · obtain rfl : j = k := by omega
                rw [HX.out] at hc
                injection hc with hc
                rw [← hc]; exact HQ.out)⟩
            case measure => simp [intOf]; omega
          | false =>
            have HQ := Lib.hid hq
            have HE : Hid (3 = nameErr s) := Lib.hid (by unfold nameErr; rw [good_bad HX.out hq]; rfl)
            clear hq
            go_wp2_with fail
            refine (HC.out _).mono ?_
            rintro e w' ⟨rfl, rfl⟩
            rw [HQ.out]
            go_wp2_with fail
            go_ret
            exact ⟨ret_int HE.out, rfl⟩
        · have HE : Hid (0 = nameErr s) := Lib.hid (by
            unfold nameErr
            rw [good_yes (fun j c hc => hall.out j c (by have := (List.getElem?_eq_some_iff.1 hc).1; have := HSZ.out; omega) hc) HP.out (by have := HSZ.out; omega)]
            rfl)
          go_wp2_with fail
          go_ret
          exact ⟨ret_int HE.out, rfl⟩
theorem sgn_is (c : UInt8) : sgn c = ((decide (97 ≤ c.toNat) && decide (c.toNat ≤ 122)) || (decide (65 ≤ c.toNat) && decide (c.toNat ≤ 90)) || (decide (48 ≤ c.toNat) && decide (c.toNat ≤ 57)) || decide (c.toNat = 95) || decide (c.toNat = 46) || decide (c.toNat = 47) || decide (c.toNat = 45) || decide (c.toNat = 43)) := rfl
end Go.Proofs.YtiechbaknolimaaDoor
