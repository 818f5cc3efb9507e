/- The log as a text, in plain Lean: a stamp's text, what a line tells, two ways of reading that answer alike. No program in sight. -/
import Derived.Test.YtcjhkfhogcdobaaDoorBuildPlain
import Derived.Test.YtcjhkfhogcdobaaDoorTextPlain
import Derived.Test.YtcjhkfhogcdobaaDoorLines
import Derived.Test.YtcjhkfhogcdobaaDoorHex4
import Derived.Test.YtcjhkfhogcdobaaDoorHexPlain2
namespace Go.Proofs.YtcjhkfhogcdobaaDoor

/-- The text of a stamp. -/
def stampT (x : StampT) : List UInt8 := x.1 ++ 32 :: (Lib.itoa x.2.1 ++ 32 :: (hexT x.2.2.toNat 16 ++ [10]))
def stampsT (L : List StampT) : List UInt8 := L.flatMap stampT
theorem stampsT_snoc (L : List StampT) (x : StampT) : stampsT (L ++ [x]) = stampsT L ++ stampT x := by unfold stampsT; rw [List.flatMap_append]; simp
/-- Without the end of a line. -/
def trimN (s : List UInt8) : List UInt8 := if s.getLast? = some 10 then s.dropLast else s
/-- What the program reads in a line, and whether it is right. -/
def readP (s : List UInt8) : StampT × Bool := match splitC 32 (trimN s) with
  | [a, b, c] => match Lib.parseIntB 64 b with
    | .ok v => ((a, v, UInt64.ofNat (hexRd c)), hexOk c && decide (stampT (a, v, UInt64.ofNat (hexRd c)) = s))
    | Lib.NumEnd.syntax => ((a, 0, UInt64.ofNat (hexRd c)), false)
    | .range => ((a, Lib.intSat 64 b, UInt64.ofNat (hexRd c)), false)
  | _ => (([], 0, 0), false)
def accP (s : List UInt8) : Option StampT := if (readP s).2 = true ∧ stOne (readP s).1 = 0 then some (readP s).1 else none
/-- A decimal text of at most 15 digits. -/
def digB (c : UInt8) : Bool := decide (48 ≤ c.toNat ∧ c.toNat ≤ 57)
def okD (b : List UInt8) : Bool := b.all digB && decide (b.length ≤ 15) && decide (b ≠ []) && decide (Lib.decDigits (valD 0 b) = b)
/-- What the reference accepts of a line. -/
def accR (s : List UInt8) : Option StampT := if s.getLast? = some 10 then match splitC 32 s.dropLast with
    | [a, b, c] => if okD b = true ∧ hexOk c = true ∧ stOne (a, (valD 0 b : Int), UInt64.ofNat (hexRd c)) = 0 then some (a, (valD 0 b : Int), UInt64.ofNat (hexRd c)) else none
    | _ => none
  else none
theorem hexAcc_bound : ∀ (n : Nat) (L : List UInt8), L.length = n → (∀ x ∈ L, lowHex x = true) → hexAcc L < 16 ^ n
  | 0, L, h, _ => by rw [List.length_eq_zero_iff.1 h]; decide
  | n + 1, L, h, hl => by
    have hne : L ≠ [] := by intro e; rw [e] at h; cases h
    obtain ⟨M, c, rfl⟩ : ∃ M c, L = M ++ [c] := ⟨L.dropLast, L.getLast hne, (List.dropLast_concat_getLast hne).symm⟩
    rw [List.length_append, List.length_singleton] at h
    have h1 := hexAcc_bound n M (by omega) (fun x hx => hl x (List.mem_append_left _ hx))
    have h2 := (hexD_val c (hl c (by simp))).2
    rw [hexAcc_snoc, Nat.pow_succ]
    omega
theorem valD_bound : ∀ (b : List UInt8) (a : Nat), (∀ c ∈ b, digB c = true) → valD a b < (a + 1) * 10 ^ b.length
  | [], a, _ => by
    show a < (a + 1) * 10 ^ 0
    rw [Nat.pow_zero]
    omega
  | c :: r, a, h => by
    have hc : 48 ≤ c.toNat ∧ c.toNat ≤ 57 := by have := h c (List.mem_cons_self); unfold digB at this; exact of_decide_eq_true this
    have ih := valD_bound r (a * 10 + (c.toNat - 48)) (fun x hx => h x (List.mem_cons_of_mem _ hx))
    show valD (a * 10 + (c.toNat - 48)) r < (a + 1) * 10 ^ (r.length + 1)
    have h2 : (a * 10 + (c.toNat - 48) + 1) * 10 ^ r.length ≤ ((a + 1) * 10) * 10 ^ r.length := Nat.mul_le_mul_right _ (by omega)
    rw [Nat.pow_succ, Nat.mul_comm (10 ^ r.length) 10, ← Nat.mul_assoc]
    omega
theorem stOne_zero {x : StampT} (h : stOne x = 0) : goodName x.1 = true ∧ 0 ≤ x.2.1 ∧ x.2.1 ≤ 1099511627776 ∧ rightT x.2.2 = true := by
  unfold stOne at h
  by_cases h1 : goodName x.1 = false
  · rw [if_pos h1] at h; cases h
  rw [if_neg h1] at h
  by_cases h2 : x.2.1 < 0 ∨ 1099511627776 < x.2.1
  · rw [if_pos h2] at h; cases h
  rw [if_neg h2] at h
  by_cases h3 : rightT x.2.2 = false
  · rw [if_pos h3] at h; cases h
  · exact ⟨by simpa using h1, by omega, by omega, by simpa using h3⟩
theorem nDigits_le : ∀ (k u : Nat), u < 10 ^ (k + 1) → Lib.nDigits u ≤ k + 1
  | 0, u, h => by rw [Lib.nDigits_small (by simpa using h)]; omega
  | k + 1, u, h => by
    by_cases hs : u < 10
    · rw [Lib.nDigits_small hs]; omega
    · rw [Lib.nDigits_big hs]
      have : u / 10 < 10 ^ (k + 1) := by rw [Nat.pow_succ] at h; omega
      have := nDigits_le k (u / 10) this
      omega
theorem joinC_three (c : UInt8) (p q r : List UInt8) : joinC c [p, q, r] = p ++ c :: (q ++ c :: r) := rfl
theorem okD_dec (u : Nat) (h : u ≤ 1099511627776) : okD (Lib.decDigits u) = true ∧ valD 0 (Lib.decDigits u) = u := by
  refine ⟨?_, valD_dec u⟩
  unfold okD
  have h1 : (Lib.decDigits u).all digB = true := List.all_eq_true.2 fun c hc => decide_eq_true (decDigits_dig u c hc)
  have h2 : (Lib.decDigits u).length ≤ 15 := by rw [Lib.decDigits_length]; exact Nat.le_trans (nDigits_le 12 u (by omega)) (by omega)
  rw [h1, decide_eq_true h2, decide_eq_true (decDigits_ne u), valD_dec, decide_eq_true rfl]
  rfl
theorem last_ten {s : List UInt8} (h : s.getLast? = some 10) : s = s.dropLast ++ [10] := by
  have hne : s ≠ [] := by intro e; rw [e] at h; cases h
  have := List.dropLast_concat_getLast hne
  rw [List.getLast?_eq_some_getLast hne] at h
  rw [Option.some.inj h] at this
  exact this.symm
theorem stampT_end (x : StampT) : stampT x = joinC 32 [x.1, Lib.itoa x.2.1, hexT x.2.2.toNat 16] ++ [10] := by
  unfold stampT
  rw [joinC_three]
  simp only [List.append_assoc, List.cons_append]
theorem stampT_last (x : StampT) : (stampT x).getLast? = some 10 := by rw [stampT_end, List.getLast?_append]; rfl
theorem stampT_drop (x : StampT) : (stampT x).dropLast = joinC 32 [x.1, Lib.itoa x.2.1, hexT x.2.2.toNat 16] := by rw [stampT_end, List.dropLast_concat]
theorem hex_back {c : List UInt8} (h : hexOk c = true) : hexT (UInt64.ofNat (hexRd c)).toNat 16 = c := by
  have hk := h
  unfold hexOk at hk
  simp only [Bool.and_eq_true, decide_eq_true_eq, List.all_eq_true] at hk
  have hb := hexAcc_bound 16 c hk.1 hk.2
  have e : hexRd c = hexAcc c := by unfold hexRd; rw [if_pos h]
  rw [e]
  have e2 : (UInt64.ofNat (hexAcc c)).toNat = hexAcc c := by simp; omega
  rw [e2]
  have := hexT_acc c hk.2
  rwa [hk.1] at this
theorem acc_of_P {s : List UInt8} {x : StampT} (h : accP s = some x) : accR s = some x := by
  unfold accP at h
  split at h
  · rename_i hc
    obtain ⟨hr, ho⟩ := hc
    injection h with h
    unfold readP at hr h ho
    cases hq : splitC 32 (trimN s) with
    | nil => rw [hq] at hr; cases hr
    | cons a q => cases q with
      | nil => rw [hq] at hr; cases hr
      | cons b q => cases q with
        | nil => rw [hq] at hr; cases hr
        | cons c q => cases q with
          | cons d q => rw [hq] at hr; cases hr
          | nil =>
            rw [hq] at hr h ho
            simp only at hr h ho
            rcases hp : Lib.parseIntB 64 b with v | _ | _
            rotate_left
            · rw [hp] at hr; cases hr
            · rw [hp] at hr; cases hr
            ·
              rw [hp] at hr h ho
              simp only [Bool.and_eq_true, decide_eq_true_eq] at hr h ho
              obtain ⟨hx, ht⟩ := hr
              have hl : s.getLast? = some 10 := by rw [← ht]; exact stampT_last _
              have htr : trimN s = s.dropLast := by unfold trimN; rw [if_pos hl]
              have hj := joinC_splitC 32 (trimN s)
              rw [hq, htr, ← ht, stampT_drop] at hj
              simp only [joinC_three] at hj
              rw [hex_back hx] at hj
              have hb : b = Lib.itoa v := List.append_cancel_right (List.append_cancel_left hj |> fun e => by injection e)
              obtain ⟨_, h0, h1, _⟩ := stOne_zero ho
              obtain ⟨u, rfl⟩ : ∃ u : Nat, v = (u : Int) := ⟨v.toNat, by have : 0 ≤ v := h0; omega⟩
              rw [itoa_nat] at hb
              have hu : u ≤ 1099511627776 := by have : (u : Int) ≤ 1099511627776 := h1; omega
              obtain ⟨k1, k2⟩ := okD_dec u hu
              unfold accR
              rw [if_pos hl, ← htr, hq]
              simp only
              rw [hb, k2]
              rw [if_pos ⟨k1, hx, ho⟩, ← h]
  · cases h
theorem okD_parts {b : List UInt8} (h : okD b = true) : b = Lib.itoa ((valD 0 b : Nat) : Int) ∧ valD 0 b ≤ 1000000000000000000 := by
  unfold okD at h
  simp only [Bool.and_eq_true, decide_eq_true_eq] at h
  refine ⟨by rw [itoa_nat]; exact h.2.symm, ?_⟩
  have := valD_bound b 0 (List.all_eq_true.1 h.1.1.1)
  have hp : 10 ^ b.length ≤ 10 ^ 15 := Nat.pow_le_pow_right (by omega) h.1.1.2
  omega
theorem acc_of_R {s : List UInt8} {x : StampT} (h : accR s = some x) : accP s = some x := by
  unfold accR at h
  split at h
  · rename_i hl
    cases hq : splitC 32 s.dropLast with
    | nil => rw [hq] at h; cases h
    | cons a q => cases q with
      | nil => rw [hq] at h; cases h
      | cons b q => cases q with
        | nil => rw [hq] at h; cases h
        | cons c q => cases q with
          | cons d q => rw [hq] at h; cases h
          | nil =>
            rw [hq] at h
            simp only at h
            split at h
            · rename_i hc
              obtain ⟨hd, hx, ho⟩ := hc
              injection h with h
              obtain ⟨hb, hv⟩ := okD_parts hd
              have htr : trimN s = s.dropLast := by unfold trimN; rw [if_pos hl]
              have hj := joinC_splitC 32 s.dropLast
              rw [hq, joinC_three] at hj
              have ht : stampT (a, ((valD 0 b : Nat) : Int), UInt64.ofNat (hexRd c)) = s := by
                unfold stampT
                simp only
                rw [← hb, hex_back hx, last_ten hl, ← hj]
                simp
              have hr : readP s = ((a, ((valD 0 b : Nat) : Int), UInt64.ofNat (hexRd c)), true) := by
                unfold readP
                rw [htr, hq]
                simp only
                have hp : Lib.parseIntB 64 b = .ok ((valD 0 b : Nat) : Int) := by
                  have := parse_itoa (valD 0 b) hv
                  rwa [← hb] at this
                rw [hp]
                simp only
                rw [hx, ht]
                simp
              unfold accP
              rw [hr]
              simp only
              rw [if_pos ⟨trivial, ho⟩, h]
            · cases h
  · cases h
theorem acc_eq (s : List UInt8) : accP s = accR s := by
  cases h : accP s with
  | some x => exact (acc_of_P h).symm
  | none =>
    cases h2 : accR s with
    | none => rfl
    | some y => rw [acc_of_R h2] at h; cases h
/-- Reading lines one after the other. -/
def runLines : Nat → List StampT → List (List UInt8) → List StampT × Nat × Int
  | _, out, [] => (out, 0, 0)
  | q, out, l :: ls => if 200 < q + 1 then ([], q + 1, 2) else match accP l with
    | none => ([], q + 1, 3)
    | some x => if (out.getLast?.all fun p => leAt p x) = true then runLines (q + 1) (out ++ [x]) ls else ([], q + 1, 3)
def readL (s : List UInt8) : List StampT × Nat × Int := if 20000 < s.length then ([], 0, 2) else runLines 0 [] (linesL s)
end Go.Proofs.YtcjhkfhogcdobaaDoor
