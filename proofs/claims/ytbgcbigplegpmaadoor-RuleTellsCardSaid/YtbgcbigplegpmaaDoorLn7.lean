/- Lines joined, in plain Lean: as the program joins them, as the reference does. Contract: line.join. -/
import Derived.Test.YtbgcbigplegpmaaDoorLn4
import Derived.Test.YtbgcbigplegpmaaDoorOwn
import Derived.Maps.AppendAt
import Derived.OneCell
import Derived.Lib.IndexMore
import Derived.Lib.IndexLaws
namespace Go.Proofs.YtbgcbigplegpmaaDoor
open Go.RowKit

/-- The first line of a text, and what stands behind it. -/
def frontN : List UInt8 → List UInt8
  | [] => []
  | c :: t => if c = 10 then [] else c :: frontN t
def backN : List UInt8 → List UInt8
  | [] => []
  | c :: t => if c = 10 then t else backN t
theorem backN_len : ∀ s : List UInt8, s ≠ [] → (backN s).length < s.length
  | [], h => absurd rfl h
  | c :: t, _ => by
    rw [backN]
    split
    · simp
    · by_cases ht : t = []
      · subst ht; simp [backN]
      · have := backN_len t ht; simp; omega
theorem backN_le (s : List UInt8) : (backN s).length ≤ s.length := by
  by_cases h : s = []
  · subst h; exact Nat.le_refl _
  · exact Nat.le_of_lt (backN_len s h)
theorem frontN_le : ∀ s : List UInt8, (frontN s).length ≤ s.length
  | [] => Nat.le_refl _
  | c :: t => by
    rw [frontN]
    have := frontN_le t
    split <;> simp <;> omega
/-- The lines of a text. -/
def linesN : List UInt8 → List (List UInt8)
  | [] => []
  | c :: t => frontN (c :: t) :: linesN (backN (c :: t))
termination_by s => s.length
decreasing_by exact backN_len _ (by simp)
theorem linesN_nil : linesN [] = [] := by rw [linesN]
theorem linesN_cons {s : List UInt8} (h : s ≠ []) : linesN s = frontN s :: linesN (backN s) := by
  cases s with
  | nil => exact absurd rfl h
  | cons c t => rw [linesN]
theorem linesN_emp (s : List UInt8) : (linesN s = []) ↔ s = [] := by
  by_cases h : s = []
  · subst h; simp [linesN_nil]
  · rw [linesN_cons h]; simp [h]
theorem index_nl : ∀ s : List UInt8, Lib.index s [10] = -1 ∧ frontN s = s ∧ backN s = [] ∨ ∃ i : Nat, Lib.index s [10] = (i : Int) ∧ frontN s = s.take i ∧ backN s = s.drop (i + 1)
  | [] => .inl ⟨by simp [Lib.index], rfl, rfl⟩
  | c :: t => by
    by_cases h : c = 10
    · subst h
      right
      refine ⟨0, ?_, by simp [frontN], by simp [backN]⟩
      simp [Lib.index, List.isPrefixOf]
    · have hp : ([10] : List UInt8).isPrefixOf (c :: t) = false := by
        have : ((10 : UInt8) == c) = false := beq_eq_false_iff_ne.2 (fun e => h e.symm)
        simp [List.isPrefixOf, this]
      have hi : Lib.index (c :: t) [10] = if Lib.index t [10] == -1 then -1 else Lib.index t [10] + 1 := by rw [Lib.index, hp]; rfl
      rcases index_nl t with ⟨h1, h2, h3⟩ | ⟨i, h1, h2, h3⟩
      · left
        refine ⟨by rw [hi, h1]; rfl, ?_, ?_⟩
        · rw [frontN, if_neg h, h2]
        · rw [backN, if_neg h, h3]
      · right
        refine ⟨i + 1, ?_, ?_, ?_⟩
        · have : ((i : Int) == -1) = false := by simp
          rw [hi, h1, this]
          simp
        · rw [frontN, if_neg h, h2, List.take_succ_cons]
        · rw [backN, if_neg h, h3, List.drop_succ_cons]
theorem cut_nl (s : List UInt8) : ∃ m, Lib.cut s [10] = (frontN s, backN s, m) := by
  unfold Lib.cut
  rcases index_nl s with ⟨h1, h2, h3⟩ | ⟨i, h1, h2, h3⟩
  · rw [h1, h2, h3]; exact ⟨_, rfl⟩
  · rw [h1, h2, h3, if_pos (by omega)]
    exact ⟨true, rfl⟩
/-- A text with a backslash at its end goes on with the next line. -/
def endsB (s : List UInt8) : Bool := s.getLast? == some 92
def contL (t : List UInt8) : List (List UInt8) → List UInt8 × List (List UInt8)
  | [] => (if endsB t then t.dropLast else t, [])
  | n :: ls => if endsB t then contL (t.dropLast ++ [32] ++ trimLL n) ls else (t, n :: ls)
theorem contL_len : ∀ (ls : List (List UInt8)) (t : List UInt8), (contL t ls).2.length ≤ ls.length
  | [], t => by simp [contL]
  | n :: ls, t => by
    rw [contL]
    split
    · exact Nat.le_trans (contL_len ls (t.dropLast ++ [32] ++ trimLL n)) (Nat.le_succ _)
    · exact Nat.le_refl _
/-- The lines joined; the first one's number is at + 1. -/
def joinL (at_ : Nat) (ls : List (List UInt8)) : List (Nat × List UInt8) := match ls with
  | [] => []
  | l :: ls => (if asideL (contL l ls).1 = [] then [] else [(at_ + 1, asideL (contL l ls).1)]) ++ joinL (at_ + 1 + (ls.length - (contL l ls).2.length)) (contL l ls).2
termination_by ls.length
decreasing_by have := contL_len ls l; simp; omega
theorem joinL_nil (k : Nat) : joinL k [] = [] := by rw [joinL]
theorem joinL_cons (k : Nat) (l : List UInt8) (ls : List (List UInt8)) : joinL k (l :: ls) = (if asideL (contL l ls).1 = [] then [] else [(k + 1, asideL (contL l ls).1)]) ++ joinL (k + 1 + (ls.length - (contL l ls).2.length)) (contL l ls).2 := by rw [joinL]
end Go.Proofs.YtbgcbigplegpmaaDoor
