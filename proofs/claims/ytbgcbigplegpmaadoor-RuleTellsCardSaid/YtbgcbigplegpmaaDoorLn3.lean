/- Contracts: line.cut; the reference's Trimmed, aside. -/
import Derived.Test.YtbgcbigplegpmaaDoorLn2
namespace Go.Proofs.YtbgcbigplegpmaaDoor
open Go.RowKit

theorem ext_takeL {b : ByteArray} {s : List UInt8} (h : StrIsL b s) (i : Nat) : b.extract 0 i = ⟨(s.take i).toArray⟩ := by
  have h1 := Lib.extract_data b 0 i
  rw [h.data] at h1
  simp only [List.drop_zero, Nat.sub_zero] at h1
  calc b.extract 0 i = ⟨(b.extract 0 i).data.toList.toArray⟩ := rfl
    _ = _ := by rw [h1]
theorem ext_dropL {b : ByteArray} {s : List UInt8} (h : StrIsL b s) (i : Nat) : b.extract i b.size = ⟨(s.drop i).toArray⟩ := by
  have h1 := Lib.extract_data b i b.size
  rw [h.data, h.size] at h1
  rw [List.take_of_length_le (by rw [List.length_drop]; omega)] at h1
  rw [← h.size] at h1
  calc b.extract i b.size = ⟨(b.extract i b.size).data.toList.toArray⟩ := rfl
    _ = _ := by rw [h1]
/-- No stop ahead of i. -/
def NoStop (s : List UInt8) (i : Nat) : Prop := ∀ j, j < i → ¬ (s[j]? = some 35 ∧ (if j = 0 then (none : Option UInt8) else s[j - 1]?) ≠ some 92)
theorem NoStop.succ {s : List UInt8} {i : Nat} (h : NoStop s i) (hi : ¬ (s[i]? = some 35 ∧ (if i = 0 then (none : Option UInt8) else s[i - 1]?) ≠ some 92)) : NoStop s (i + 1) := fun j hj => by
  by_cases hji : j = i
  · subst hji; exact hi
  · exact h j (by omega)
theorem aside_of {s : List UInt8} {i : Nat} (h : NoStop s i) (hi : i ≤ s.length) (he : i = s.length ∨ (s[i]? = some 35 ∧ (if i = 0 then (none : Option UInt8) else s[i - 1]?) ≠ some 92)) : asideL s = trimRL (unescL (s.take i)) := by
  unfold asideL
  rw [takeA_eq s none i hi h he]
theorem unescL_len : ∀ (n : Nat) (s : List UInt8), s.length ≤ n → (unescL s).length ≤ s.length := by
  intro n
  induction n with
  | zero =>
    intro s hn
    obtain rfl : s = [] := List.length_eq_zero_iff.1 (by omega)
    simp [unescL]
  | succ n ih =>
    intro s hn
    cases s with
    | nil => simp [unescL]
    | cons c t =>
      simp only [List.length_cons] at hn ⊢
      by_cases h : c = 92 ∧ t.head? = some 35
      · obtain ⟨rfl, ht⟩ := h
        cases t with
        | nil => cases ht
        | cons d t' =>
          simp at ht
          subst ht
          rw [unescL_hit]
          have := ih t' (by simp at hn; omega)
          simp
          omega
      · rw [unescL_skip h]
        have := ih t (by omega)
        simp
        omega
theorem trimLL_cons (c : UInt8) (t : List UInt8) : trimLL (c :: t) = if blankB c then trimLL t else c :: t := by unfold trimLL; rw [List.dropWhile_cons]
theorem trimRL_snoc (u : List UInt8) (c : UInt8) : trimRL (u ++ [c]) = if blankB c then trimRL u else u ++ [c] := by
  unfold trimRL
  rw [List.reverse_append, List.reverse_singleton, List.singleton_append, List.dropWhile_cons]
  split
  · rfl
  · simp
theorem ext_tail (a : UInt8) (t : List UInt8) : (⟨(a :: t).toArray⟩ : ByteArray).extract 1 (t.length + 1) = ⟨t.toArray⟩ := by
  have h := ext_dropL (strIsL (a :: t)) 1
  exact h
theorem snoc_of {s : List UInt8} (h : s ≠ []) : ∃ u c, s = u ++ [c] := ⟨_, _, (List.dropLast_concat_getLast h).symm⟩
theorem last_at {b : ByteArray} {u : List UInt8} {c : UInt8} (h : StrIsL b (u ++ [c])) (hk : u.length < b.size) : b[u.length] = c := by
  have h1 := h.at_ hk
  have h2 : (u ++ [c])[u.length]? = some c := by simp
  rw [h2] at h1
  injection h1 with h1
  exact h1.symm
def strLenL (v : Value) : Nat := match v with | .string s => s.size | _ => 0
end Go.Proofs.YtbgcbigplegpmaaDoor
