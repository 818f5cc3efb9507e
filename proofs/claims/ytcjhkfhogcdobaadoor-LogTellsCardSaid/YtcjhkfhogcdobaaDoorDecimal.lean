/- Contract: the reference's Decimal, of a number that is not below zero. -/
import Derived.Test.YtcjhkfhogcdobaaDoorName1
import Derived.Lib.ItoaNum
namespace Go.Proofs.YtcjhkfhogcdobaaDoor
open Go.RowKit

theorem ba_ext {a b : ByteArray} (h : a.data.toList = b.data.toList) : a = b := by
  obtain ⟨a⟩ := a
  obtain ⟨b⟩ := b
  exact congrArg ByteArray.mk (Array.toList_inj.1 h)
theorem ba_app (a b : ByteArray) : (a ++ b).data.toList = a.data.toList ++ b.data.toList := by simp
theorem ret_str {a b : ByteArray} (h : a.data.toList = b.data.toList) : Ending.returned (.string a) = .returned (.string b) := by rw [ba_ext h]
def DecInv (n u : Nat) (T : List UInt8) : Prop := (T = [] ∧ u = n) ∨ (T ≠ [] ∧ Lib.decDigits n = (if u = 0 then [] else Lib.decDigits u) ++ T)
theorem decInv_step {n u : Nat} {T : List UInt8} (h : DecInv n u T) (hc : 0 < u ∨ T = []) : DecInv n (u / 10) (UInt8.ofNat (48 + u % 10) :: T) := by
  refine .inr ⟨by simp, ?_⟩
  have hd : Lib.decDigits u = (if u / 10 = 0 then [] else Lib.decDigits (u / 10)) ++ [UInt8.ofNat (48 + u % 10)] := by
    by_cases h10 : u < 10
    · rw [if_pos (by omega), Lib.decDigits_one h10, Nat.mod_eq_of_lt h10]; rfl
    · rw [if_neg (by omega), Lib.decDigits, dif_neg h10]
  rcases h with ⟨rfl, rfl⟩ | ⟨h1, h2⟩
  · exact hd
  · have hu : 0 < u := hc.resolve_right h1
    rw [h2, if_neg (by omega), hd]
    simp
theorem decInv_end {n u : Nat} {T : List UInt8} (h : DecInv n u T) (hc : ¬ (0 < u ∨ T = [])) : T = Lib.itoa (n : Int) := by
  have hi : Lib.itoa (n : Int) = Lib.decDigits n := by
    unfold Lib.itoa
    rw [if_neg (by omega)]
    simp
  rcases h with ⟨rfl, _⟩ | ⟨_, h2⟩
  · exact absurd (.inr rfl) hc
  · have : u = 0 := Nat.eq_zero_of_not_pos (fun h => hc (.inl h))
    rw [hi, h2, if_pos this]
    rfl
theorem digit_lit (d : Nat) (h : d < 10) : (⟨#[48, 49, 50, 51, 52, 53, 54, 55, 56, 57]⟩ : ByteArray).extract d (d + 1) = ⟨#[UInt8.ofNat (48 + d)]⟩ := by
  rcases (by omega : d = 0 ∨ d = 1 ∨ d = 2 ∨ d = 3 ∨ d = 4 ∨ d = 5 ∨ d = 6 ∨ d = 7 ∨ d = 8 ∨ d = 9) with rfl | rfl | rfl | rfl | rfl | rfl | rfl | rfl | rfl | rfl <;> rfl
def emptyV : Value → Nat
  | .string b => if b.size = 0 then 1 else 0
  | _ => 0
set_option maxRecDepth 100000 in
set_option maxHeartbeats 1000000 in
theorem rDecimal_any (n : Nat) (hn : n ≤ 4611686018427387904) (w : World) : Calls Tryd.prog 35 #[.int .i64 (n : Int)] w fun e w' => e = .returned (.string ⟨(Lib.itoa (n : Int)).toArray⟩) ∧ w = w' := by
  have h0 : ¬ (n : Int) < 0 := by omega
  have hn' : (n : Int) ≤ 4611686018427387904 := by omega
  go_enter Tryd.func35, Tryd.ntmps35
  go_wp2_with fail
  go_loop [3, 5] (fun v3 v5 => ∃ (u : Nat) (T : List UInt8), v3 = .int .u64 (u : Int) ∧ v5 = .string ⟨T.toArray⟩ ∧ Hid (T.length + u ≤ n + 1) ∧ Hid (DecInv n u T)) (fun v3 v5 => 2 * (intOf v3).toNat + emptyV v5)
  case atStart => exact ⟨n, [], by simp, rfl, Lib.hid (by simp), Lib.hid (.inl ⟨rfl, rfl⟩)⟩
  case round =>
    obtain ⟨u, T, rfl, rfl, HU, HI⟩ := hrel
    have hE : (⟨T.toArray⟩ : ByteArray).toList.isEmpty = decide (T = []) := by rw [Lib.toList_data]; cases T <;> rfl
    have hE2 : ((⟨T.toArray⟩ : ByteArray).toList == []) = decide (T = []) := by rw [Lib.toList_data]; cases T <;> rfl
    obtain ⟨d, hdd⟩ : ∃ d, d = u % 10 := ⟨_, rfl⟩
    obtain ⟨e, hee⟩ : ∃ e, e = u / 10 := ⟨_, rfl⟩
    have HST := Lib.hid (fun hc => decInv_step HI.out hc)
    rw [← hdd, ← hee] at HST
    have HEN := Lib.hid (fun hc => decInv_end HI.out hc)
    have hd : (u : Int) % 10 = (d : Int) := by omega
    have hq : (u : Int) / 10 = (e : Int) := by omega
    have hd9 : d < 10 := by omega
    have hdl := digit_lit d hd9
    have hd1 : (d : Int) < 10 := by omega
    have hd2 : (d : Int) + 1 ≤ 10 := by omega
    have hd3 : d ≤ 10 := by omega
    have hd4 : d + 1 ≤ 10 := by omega
    have HEU : Hid (e ≤ u ∧ (0 < u → e < u)) := Lib.hid (by omega)
    have HTL : Hid (0 < u → T.length + 1 + e ≤ n + 1) := Lib.hid (by have := HU.out; omega)
    have hTa : ¬ 9223372036854775807 < 1 + T.length := by have := HU.out; omega
    have hTb : ¬ 9223372036854775807 < T.length := by have := HU.out; omega
    have hwe : IntKind.u64.wrap (e : Int) = (e : Int) := by rw [IntKind.wrap_u64]; have := HU.out; omega
    clear hdd hee hn hn' h0
    generalize hch : UInt8.ofNat (48 + d) = ch at *
    have HCH := Lib.hid hch
    clear hch
    have HC : Hid ((⟨#[ch]⟩ : ByteArray) ++ ⟨T.toArray⟩ = ⟨(ch :: T).toArray⟩) := Lib.hid (ba_ext (by rw [ba_app]; rfl))
    by_cases hu0 : 0 < u
    · have h1 : (0 : Int) < (u : Int) := by omega
      have HST1 := Lib.hid (HST.out (.inl hu0))
      have HM : Hid (e < u) := Lib.hid (HEU.out.2 hu0)
      clear hE hE2
      go_wp2_with fail
      refine ⟨⟨e, ch :: T, rfl, congrArg Value.string HC.out, Lib.hid (by have := HTL.out hu0; rw [List.length_cons]; omega), HST1⟩, ?_⟩
      have h1 : emptyV (.string ((⟨#[ch]⟩ : ByteArray) ++ ⟨T.toArray⟩)) = 0 := by rw [HC.out]; rfl
      rw [h1]
      have := HM.out
      simp [intOf]
      omega
    · obtain rfl : u = 0 := by omega
      by_cases hT : T = []
      · subst hT
        have HST1 := Lib.hid (HST.out (.inr rfl))
        obtain rfl : e = 0 := by have := HEU.out.1; omega
        obtain rfl : d = 0 := by omega
        have hdl0 : (⟨#[48, 49, 50, 51, 52, 53, 54, 55, 56, 57]⟩ : ByteArray).extract 0 1 = ⟨#[ch]⟩ := by rw [← HCH.out]; exact digit_lit 0 (by decide)
        clear hE hE2 hd hq hdl hd1 hd9 hd2 hd3 hd4
        go_wp2_with fail
        refine ⟨⟨0, [ch], rfl, congrArg Value.string HC.out, Lib.hid (by simp), HST1⟩, ?_⟩
        have h1 : emptyV (.string ((⟨#[ch]⟩ : ByteArray) ++ ⟨#[]⟩)) = 0 := by rw [show (⟨#[ch]⟩ : ByteArray) ++ ⟨#[]⟩ = ⟨[ch].toArray⟩ from HC.out]; rfl
        rw [h1]
        decide
      · have HT := Lib.hid (HEN.out (fun h => h.elim hu0 hT))
        have hE4 : T.isEmpty = false := by cases T with
          | nil => exact absurd rfl hT
          | cons _ _ => rfl
        clear hT hu0 hE hE2
        go_wp2_with fail
        go_ret
        exact ⟨ret_str (by rw [ba_app]; exact HT.out), rfl⟩
end Go.Proofs.YtcjhkfhogcdobaaDoor
