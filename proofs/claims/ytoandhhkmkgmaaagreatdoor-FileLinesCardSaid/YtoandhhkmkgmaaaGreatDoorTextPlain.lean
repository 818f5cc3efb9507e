/- Pieces of a text, decimal texts, in plain Lean. No program in sight. -/
import Derived.Lib.ItoaNum
import Derived.Lib.ParseIntB
namespace Go.Proofs.YtoandhhkmkgmaaaGreatDoor

/-! ### Pieces between blanks -/
/-- The pieces of a text between the bytes c. -/
def splitC (c : UInt8) : List UInt8 → List (List UInt8)
  | [] => [[]]
  | x :: r => if x = c then [] :: splitC c r else match splitC c r with
    | [] => [[x]]
    | p :: q => (x :: p) :: q
theorem splitC_cons (c x : UInt8) (r : List UInt8) : splitC c (x :: r) = if x = c then [] :: splitC c r else match splitC c r with
    | [] => [[x]]
    | p :: q => (x :: p) :: q := by rw [splitC]
theorem splitC_ne (c : UInt8) : ∀ s, splitC c s ≠ []
  | [] => by simp [splitC]
  | x :: r => by
    unfold splitC
    split
    · simp
    · split <;> simp
theorem splitC_free {c : UInt8} : ∀ {s : List UInt8}, c ∉ s → splitC c s = [s]
  | [], _ => rfl
  | x :: r, h => by
    rw [List.mem_cons, not_or] at h
    rw [splitC_cons, if_neg (fun e => h.1 e.symm), splitC_free h.2]
theorem splitC_app {c : UInt8} : ∀ {s : List UInt8} (t : List UInt8), c ∉ s → splitC c (s ++ c :: t) = s :: splitC c t
  | [], t, _ => by rw [List.nil_append, splitC_cons, if_pos rfl]
  | x :: r, t, h => by
    rw [List.mem_cons, not_or] at h
    rw [List.cons_append, splitC_cons, if_neg (fun e => h.1 e.symm), splitC_app t h.2]
/-- The pieces put together again. -/
def joinC (c : UInt8) : List (List UInt8) → List UInt8
  | [] => []
  | [p] => p
  | p :: q :: r => p ++ c :: joinC c (q :: r)
theorem joinC_splitC (c : UInt8) : ∀ s, joinC c (splitC c s) = s
  | [] => rfl
  | x :: r => by
    have ih := joinC_splitC c r
    unfold splitC
    split
    · rename_i h
      subst h
      cases hq : splitC x r with
      | nil => exact absurd hq (splitC_ne x r)
      | cons p q => rw [hq] at ih; show [] ++ x :: joinC x (p :: q) = _; rw [ih]; rfl
    · cases hq : splitC c r with
      | nil => exact absurd hq (splitC_ne c r)
      | cons p q =>
        rw [hq] at ih
        show joinC c ((x :: p) :: q) = x :: r
        cases q with
        | nil => show x :: p = x :: r; rw [← ih]; rfl
        | cons q0 q1 => show (x :: p) ++ c :: joinC c (q0 :: q1) = x :: r; rw [← ih]; rfl
/-! ### Decimal texts -/
def isDig (c : UInt8) : Prop := 48 ≤ c.toNat ∧ c.toNat ≤ 57
theorem dig_of (v : Nat) (h : v < 10) : isDig (UInt8.ofNat (48 + v)) ∧ (UInt8.ofNat (48 + v)).toNat = 48 + v := by
  have : (UInt8.ofNat (48 + v)).toNat = 48 + v := by simp; omega
  exact ⟨⟨by omega, by omega⟩, this⟩
theorem decDigits_dig (u : Nat) : ∀ c ∈ Lib.decDigits u, isDig c := by
  induction u using Nat.strongRecOn with
  | _ u ih =>
    intro c hc
    rw [Lib.decDigits] at hc
    split at hc
    · rename_i h
      simp only [List.mem_singleton] at hc
      subst hc
      exact (dig_of u h).1
    · rename_i h
      rw [List.mem_append] at hc
      rcases hc with hc | hc
      · exact ih (u / 10) (by omega) c hc
      · simp only [List.mem_singleton] at hc
        subst hc
        exact (dig_of (u % 10) (by omega)).1
/-- What digits spell, behind what stands before them. -/
def valD (a : Nat) : List UInt8 → Nat
  | [] => a
  | c :: r => valD (a * 10 + (c.toNat - 48)) r
theorem valD_app : ∀ (a : Nat) (s t : List UInt8), valD a (s ++ t) = valD (valD a s) t
  | _, [], _ => rfl
  | _, _ :: r, t => valD_app _ r t
theorem valD_dec (u : Nat) : valD 0 (Lib.decDigits u) = u := by
  induction u using Nat.strongRecOn with
  | _ u ih =>
    rw [Lib.decDigits]
    split
    · rename_i h
      show 0 * 10 + ((UInt8.ofNat (48 + u)).toNat - 48) = u
      rw [(dig_of u h).2]; omega
    · rename_i h
      rw [valD_app, ih (u / 10) (by omega)]
      show u / 10 * 10 + ((UInt8.ofNat (48 + u % 10)).toNat - 48) = u
      rw [(dig_of (u % 10) (by omega)).2]; omega
theorem valD_ge : ∀ (s : List UInt8) (a : Nat), a ≤ valD a s
  | [], a => Nat.le_refl a
  | c :: r, a => Nat.le_trans (by omega) (valD_ge r (a * 10 + (c.toNat - 48)))
theorem parseUint_any (M : Nat) : ∀ (s : List UInt8) (a : Nat), (∀ c ∈ s, isDig c) → valD a s ≤ 1000000000000000000 → valD a s ≤ M → Lib.parseUintM M a s = .ok (valD a s)
  | [], _, _, _, _ => rfl
  | c :: r, a, hd, h1, h2 => by
    have hc := hd c (List.mem_cons_self)
    have hg := valD_ge r (a * 10 + (c.toNat - 48))
    have e : valD a (c :: r) = valD (a * 10 + (c.toNat - 48)) r := rfl
    rw [e] at h1 h2 ⊢
    unfold Lib.parseUintM
    rw [if_pos (show 48 ≤ c.toNat ∧ c.toNat ≤ 57 from hc), if_neg (by omega), if_neg (by omega)]
    exact parseUint_any M r _ (fun x hx => hd x (List.mem_cons_of_mem _ hx)) h1 h2
theorem decDigits_ne (u : Nat) : Lib.decDigits u ≠ [] := by
  intro h
  have := Lib.decDigits_length u
  rw [h] at this
  have := Lib.nDigits_pos u
  simp at *
  omega
theorem itoa_nat (u : Nat) : Lib.itoa (u : Int) = Lib.decDigits u := by unfold Lib.itoa; rw [if_neg (by omega)]; simp
/-- A number's text is read as that number. -/
theorem parse_itoa (u : Nat) (h : u ≤ 1000000000000000000) : Lib.parseIntB 64 (Lib.itoa (u : Int)) = .ok (u : Int) := by
  rw [itoa_nat]
  cases hq : Lib.decDigits u with
  | nil => exact absurd hq (decDigits_ne u)
  | cons c r =>
    have hd : ∀ x ∈ c :: r, isDig x := by rw [← hq]; exact decDigits_dig u
    have hc := hd c (List.mem_cons_self)
    have hv := valD_dec u
    rw [hq] at hv
    have hp : Lib.parseUintB 64 (c :: r) = .ok u := by
      unfold Lib.parseUintB
      rw [if_neg (by simp)]
      have hmono := parseUint_any (2 ^ 64 - 1) (c :: r) 0 hd (by rw [hv]; exact h) (by rw [hv]; omega)
      rw [hmono, hv]
    unfold Lib.parseIntB
    simp only
    rw [if_neg (by unfold isDig at hc; omega), hp]
    simp only
    have hn : ¬ c.toNat = 45 := by unfold isDig at hc; omega
    rw [if_neg (by omega), if_neg (by omega), if_neg hn]
end Go.Proofs.YtoandhhkmkgmaaaGreatDoor
