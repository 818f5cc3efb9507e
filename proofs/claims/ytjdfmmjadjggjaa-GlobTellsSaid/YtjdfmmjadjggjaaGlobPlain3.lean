/- Sets of bytes as four words, in plain Lean: a byte taken in, the set turned. No program in sight. -/
import Derived.Test.YtjdfmmjadjggjaaGlobPlain2
namespace Go.Proofs.Ytjdfmmjadjggjaa

/-- Four words hold a set of bytes. -/
structure Wd (ws : List Nat) (S : Nat → Bool) : Prop where
  len : ws.length = 4
  b64 : ∀ x ∈ ws, x < 18446744073709551616
  at_ : ∀ c, c < 256 → (ws[c / 64]?.getD 0).testBit (c % 64) = S c
theorem wd_zero : Wd [0, 0, 0, 0] noS := ⟨rfl, by simp, fun c hc => by
  have : c / 64 < 4 := by omega
  rcases (by omega : c / 64 = 0 ∨ c / 64 = 1 ∨ c / 64 = 2 ∨ c / 64 = 3) with h | h | h | h <;> rw [h] <;> simp [noS]⟩
theorem wd_ext {ws : List Nat} {S S' : Nat → Bool} (h : Wd ws S) (hs : ∀ c, c < 256 → S c = S' c) : Wd ws S' := ⟨h.len, h.b64, fun c hc => (h.at_ c hc).trans (hs c hc)⟩
theorem wd_get {ws : List Nat} {S : Nat → Bool} (h : Wd ws S) {q : Nat} (hq : q < 4) : ∃ x, ws[q]? = some x ∧ x < 18446744073709551616 :=
  ⟨ws[q]'(by rw [h.len]; exact hq), List.getElem?_eq_getElem (by rw [h.len]; exact hq), h.b64 _ (List.getElem_mem _)⟩
theorem wd_add {ws : List Nat} {S : Nat → Bool} (h : Wd ws S) {c : Nat} (hc : c < 256) {x : Nat} (hx : ws[c / 64]? = some x) : Wd (ws.set (c / 64) (x ||| 2 ^ (c % 64))) (fun d => S d || d == c) := by
  have hq : c / 64 < 4 := by omega
  have hxb : x < 2 ^ 64 := h.b64 x (List.mem_of_getElem? hx)
  refine ⟨by rw [List.length_set]; exact h.len, fun y hy => ?_, fun d hd => ?_⟩
  · rcases List.mem_or_eq_of_mem_set hy with hy | rfl
    · exact h.b64 y hy
    · exact Nat.or_lt_two_pow hxb (Nat.pow_lt_pow_right (by decide) (Nat.mod_lt _ (by decide)))
  · have hd' := h.at_ d hd
    rw [← hd']
    by_cases hdc : d / 64 = c / 64
    · rw [hdc, List.getElem?_set_self (by rw [h.len]; exact hq), hx, Option.getD_some, Option.getD_some, Nat.testBit_or, Nat.testBit_two_pow]
      by_cases he : d = c
      · subst he; simp
      · have : c % 64 ≠ d % 64 := by omega
        simp [he, this]
    · rw [List.getElem?_set_ne (by omega)]
      have he : d ≠ c := fun e => hdc (by rw [e])
      simp [he]
theorem wd_turn {ws : List Nat} {S : Nat → Bool} (h : Wd ws S) : Wd (ws.map fun x => 18446744073709551615 - x) (turnS S) := by
  refine ⟨by rw [List.length_map]; exact h.len, fun y hy => ?_, fun d hd => ?_⟩
  · obtain ⟨x, _, rfl⟩ := List.mem_map.1 hy
    omega
  · have hq : d / 64 < 4 := by omega
    obtain ⟨x, hx, hxb⟩ := wd_get h hq
    have hd' := h.at_ d hd
    rw [hx, Option.getD_some] at hd'
    rw [List.getElem?_map, hx, Option.map_some, Option.getD_some]
    have e : 18446744073709551615 - x = 2 ^ 64 - (x + 1) := by omega
    rw [e, Nat.testBit_two_pow_sub_succ hxb, hd']
    unfold turnS
    simp [hd]
    omega
/-- All bytes from a up to below c taken in. -/
def upS (S : Nat → Bool) (a : UInt8) (c : Nat) : Nat → Bool := fun d => S d || (decide (a.toNat ≤ d) && decide (d < c))
theorem upS_zero (S : Nat → Bool) (a : UInt8) : upS S a a.toNat = S := by
  funext d
  unfold upS
  by_cases h : a.toNat ≤ d
  · have : ¬ d < a.toNat := by omega
    simp [this]
  · simp [h]
theorem upS_succ (S : Nat → Bool) (a : UInt8) {c : Nat} (h : a.toNat ≤ c) (d : Nat) : (upS S a c d || d == c) = upS S a (c + 1) d := by
  unfold upS
  by_cases he : d = c
  · subst he; simp [h]
  · have : decide (d < c + 1) = decide (d < c) := by
      apply decide_eq_decide.2
      omega
    simp [he, this]
theorem upS_end (S : Nat → Bool) (a b : UInt8) : upS S a (b.toNat + 1) = addS S a b := by
  funext d
  unfold upS addS
  have : decide (d < b.toNat + 1) = decide (d ≤ b.toNat) := by
    apply decide_eq_decide.2
    omega
  rw [this]
/-! ### The steps of the rows -/
theorem rf_any {l : List GP} {s : List Nat} {k : Nat} (h : anyAt l k = true) (i : Nat) : rf l s (k + 1) (i + 1) = (rf l s (k + 1) i || rf l s k (i + 1)) := by rw [rf, if_pos h]; exact Bool.or_comm _ _
theorem rf_any0 {l : List GP} {s : List Nat} {k : Nat} (h : anyAt l k = true) : rf l s (k + 1) 0 = rf l s k 0 := by rw [rf, h, Bool.true_and]
theorem rf_one {l : List GP} {s : List Nat} {k : Nat} (h : anyAt l k = false) (i : Nat) : rf l s (k + 1) (i + 1) = (rf l s k i && setAt l k (s[i]?.getD 0)) := by rw [rf, if_neg (by rw [h]; decide)]
theorem rf_one0 {l : List GP} {s : List Nat} {k : Nat} (h : anyAt l k = false) : rf l s (k + 1) 0 = false := by rw [rf, h, Bool.false_and]
end Go.Proofs.Ytjdfmmjadjggjaa
