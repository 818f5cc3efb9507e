/- Some of the proof's texts, merged; each one's own words stand ahead of it. -/
import Derived.Test.YtoandhhkmkgmaaaMg17
import Derived.Test.YtoandhhkmkgmaaaOwn
import Derived.Maps.AppendAt
import Derived.OneCell
import Derived.Lib.IndexMore
import Derived.Lib.IndexLaws
import Derived.Test.YtoandhhkmkgmaaaMg15
import Derived.BigQuiet
import Derived.Deep.QuietTactic
/- Lines joined, in plain Lean: as the program joins them, as the reference does. Contract: line.join. -/
namespace Go.Proofs.Ytoandhhkmkgmaaa
open Go.RowKit

/-- The first line of a text, and what stands behind it. -/
def frontN : List UInt8 → List UInt8
  | [] => []
  | c :: t => if c = 10 then [] else c :: frontN t
def backN : List UInt8 → List UInt8
  | [] => []
  | c :: t => if c = 10 then t else backN t
theorem backN_len : ∀ s : List UInt8, s ≠ [] → (backN s).length < s.length
  | [], h => absurd rfl h
  | c :: t, _ => by
    rw [backN]
    split
    · simp
    · by_cases ht : t = []
      · subst ht; simp [backN]
      · have := backN_len t ht; simp; omega
theorem backN_le (s : List UInt8) : (backN s).length ≤ s.length := by
  by_cases h : s = []
  · subst h; exact Nat.le_refl _
  · exact Nat.le_of_lt (backN_len s h)
theorem frontN_le : ∀ s : List UInt8, (frontN s).length ≤ s.length
  | [] => Nat.le_refl _
  | c :: t => by
    rw [frontN]
    have := frontN_le t
    split <;> simp <;> omega
/-- The lines of a text. -/
def linesN : List UInt8 → List (List UInt8)
  | [] => []
  | c :: t => frontN (c :: t) :: linesN (backN (c :: t))
termination_by s => s.length
decreasing_by exact backN_len _ (by simp)
theorem linesN_nil : linesN [] = [] := by rw [linesN]
theorem linesN_cons {s : List UInt8} (h : s ≠ []) : linesN s = frontN s :: linesN (backN s) := by
  cases s with
  | nil => exact absurd rfl h
  | cons c t => rw [linesN]
theorem linesN_emp (s : List UInt8) : (linesN s = []) ↔ s = [] := by
  by_cases h : s = []
  · subst h; simp [linesN_nil]
  · rw [linesN_cons h]; simp [h]
theorem index_nl : ∀ s : List UInt8, Lib.index s [10] = -1 ∧ frontN s = s ∧ backN s = [] ∨ ∃ i : Nat, Lib.index s [10] = (i : Int) ∧ frontN s = s.take i ∧ backN s = s.drop (i + 1)
  | [] => .inl ⟨by simp [Lib.index], rfl, rfl⟩
  | c :: t => by
    by_cases h : c = 10
    · subst h
      right
      refine ⟨0, ?_, by simp [frontN], by simp [backN]⟩
      simp [Lib.index, List.isPrefixOf]
    · have hp : ([10] : List UInt8).isPrefixOf (c :: t) = false := by
        have : ((10 : UInt8) == c) = false := beq_eq_false_iff_ne.2 (fun e => h e.symm)
        simp [List.isPrefixOf, this]
      have hi : Lib.index (c :: t) [10] = if Lib.index t [10] == -1 then -1 else Lib.index t [10] + 1 := by rw [Lib.index, hp]; rfl
      rcases index_nl t with ⟨h1, h2, h3⟩ | ⟨i, h1, h2, h3⟩
      · left
        refine ⟨by rw [hi, h1]; rfl, ?_, ?_⟩
        · rw [frontN, if_neg h, h2]
        · rw [backN, if_neg h, h3]
      · right
        refine ⟨i + 1, ?_, ?_, ?_⟩
        · have : ((i : Int) == -1) = false := by simp
          rw [hi, h1, this]
          simp
        · rw [frontN, if_neg h, h2, List.take_succ_cons]
        · rw [backN, if_neg h, h3, List.drop_succ_cons]
theorem cut_nl (s : List UInt8) : ∃ m, Lib.cut s [10] = (frontN s, backN s, m) := by
  unfold Lib.cut
  rcases index_nl s with ⟨h1, h2, h3⟩ | ⟨i, h1, h2, h3⟩
  · rw [h1, h2, h3]; exact ⟨_, rfl⟩
  · rw [h1, h2, h3, if_pos (by omega)]
    exact ⟨true, rfl⟩
/-- A text with a backslash at its end goes on with the next line. -/
def endsB (s : List UInt8) : Bool := s.getLast? == some 92
def contL (t : List UInt8) : List (List UInt8) → List UInt8 × List (List UInt8)
  | [] => (if endsB t then t.dropLast else t, [])
  | n :: ls => if endsB t then contL (t.dropLast ++ [32] ++ trimLL n) ls else (t, n :: ls)
theorem contL_len : ∀ (ls : List (List UInt8)) (t : List UInt8), (contL t ls).2.length ≤ ls.length
  | [], t => by simp [contL]
  | n :: ls, t => by
    rw [contL]
    split
    · exact Nat.le_trans (contL_len ls (t.dropLast ++ [32] ++ trimLL n)) (Nat.le_succ _)
    · exact Nat.le_refl _
/-- The lines joined; the first one's number is at + 1. -/
def joinL (at_ : Nat) (ls : List (List UInt8)) : List (Nat × List UInt8) := match ls with
  | [] => []
  | l :: ls => (if asideL (contL l ls).1 = [] then [] else [(at_ + 1, asideL (contL l ls).1)]) ++ joinL (at_ + 1 + (ls.length - (contL l ls).2.length)) (contL l ls).2
termination_by ls.length
decreasing_by have := contL_len ls l; simp; omega
theorem joinL_nil (k : Nat) : joinL k [] = [] := by rw [joinL]
theorem joinL_cons (k : Nat) (l : List UInt8) (ls : List (List UInt8)) : joinL k (l :: ls) = (if asideL (contL l ls).1 = [] then [] else [(k + 1, asideL (contL l ls).1)]) ++ joinL (k + 1 + (ls.length - (contL l ls).2.length)) (contL l ls).2 := by rw [joinL]
end Go.Proofs.Ytoandhhkmkgmaaa
/- Contract: line.join. -/
namespace Go.Proofs.Ytoandhhkmkgmaaa
open Go.RowKit

section
variable {w w' : World} {b : Nat} {t : TypeId} {vs : List Value}
end
/-- Lines as they lie. -/
def lnV (L : List (Nat × List UInt8)) : List Value := L.flatMap fun x => [.int .i64 (x.1 : Int), .string ⟨x.2.toArray⟩]
theorem lnV_snoc (L : List (Nat × List UInt8)) (x : Nat × List UInt8) : lnV (L ++ [x]) = lnV L ++ [.int .i64 (x.1 : Int), .string ⟨x.2.toArray⟩] := by unfold lnV; rw [List.flatMap_append]; rfl
theorem own_belowL {w w' : World} {B : Nat} {e : TypeId} {sz : Nat} {v : Value} {n : Nat} {xs : List Value} (h : w.ownsRow B e sz v n xs) (hb : Below w.heap.size w w') : w'.ownsRow B e sz v n xs :=
  h.kept (w' := w') (row := none) ⟨hb.os, hb.tape, hb.output, hb.size, fun k hk _ => hb.block k hk⟩ (by
    cases hv : v.ownBlock with
    | none => exact .inl rfl
    | some g => exact .inr (by simp))
/-- What is read of the next line. -/
def oneL (T s : List UInt8) : List UInt8 := if T = [] then frontN s else trimLL (frontN s)
theorem endsB_app {T one : List UInt8} (hT : T = [] ∨ ∃ U, T = U ++ [32]) : endsB (T ++ one) = endsB one := by
  unfold endsB
  by_cases h : one = []
  · subst h
    rcases hT with rfl | ⟨U, rfl⟩
    · rfl
    · simp
  · obtain ⟨u, d, rfl⟩ := snoc_of h
    rw [← List.append_assoc]
    simp
theorem dropLast_app {T one : List UInt8} (h : endsB one = true) : (T ++ one).dropLast = T ++ one.dropLast := by
  have : one ≠ [] := fun e => by rw [e] at h; cases h
  exact List.dropLast_append_of_ne_nil this
theorem contL_end {t : List UInt8} {ls : List (List UInt8)} (h : endsB t = false) : contL t ls = (t, ls) := by
  cases ls with
  | nil => rw [contL, h]; rfl
  | cons n ls => rw [contL, h]; rfl
theorem suffix_B (s : List UInt8) : Lib.hasSuffix s [92] = endsB s ∧ Lib.trimSuffix s [92] = if endsB s then s.dropLast else s := by
  have h1 : Lib.hasSuffix s [92] = endsB s := by
    unfold Lib.hasSuffix endsB
    by_cases h : s = []
    · subst h; rfl
    · obtain ⟨u, d, rfl⟩ := snoc_of h
      rw [Bool.eq_iff_iff]
      simp [List.isSuffixOf_iff_suffix, List.suffix_iff_eq_drop]
      exact eq_comm
  refine ⟨h1, ?_⟩
  unfold Lib.trimSuffix
  rw [h1]
  cases h : endsB s with
  | true => rw [if_pos rfl, if_pos rfl, List.dropLast_eq_take]; rfl
  | false => rfl
end Go.Proofs.Ytoandhhkmkgmaaa
/- Contract: line.join. -/
namespace Go.Proofs.Ytoandhhkmkgmaaa
open Go.RowKit

theorem sCut_any (s : List UInt8) (m : Int) (w : World) (hl : s.length ≤ 1048576) (hm : w.cell? ⟨0, 0, none⟩ = some (.int .i64 m)) :
    Calls Try.prog 61 #[.string ⟨s.toArray⟩, .string ⟨#[10]⟩] w fun e w' => ∃ x, e = .returned (.tuple #[.string ⟨(frontN s).toArray⟩, .string ⟨(backN s).toArray⟩, .bool x]) ∧ Below w.heap.size w w' := by
  obtain ⟨x, hx⟩ := cut_nl s
  refine (Try.strings_Cut ⟨s.toArray⟩ ⟨#[10]⟩ m w (show s.length < _ by omega) hm).mono ?_
  rintro e w' ⟨rfl, n, rfl⟩
  refine ⟨x, ?_, below_of_drewN _ _⟩
  rw [show (⟨s.toArray⟩ : ByteArray).data.toList = s from rfl, show (⟨#[10]⟩ : ByteArray).data.toList = [10] from rfl, hx]
theorem trimLL_le (s : List UInt8) : (trimLL s).length ≤ s.length := by unfold trimLL; exact (List.dropWhile_sublist _).length_le
theorem front_back (s : List UInt8) : (frontN s).length + (backN s).length ≤ s.length := by
  rcases index_nl s with ⟨_, h2, h3⟩ | ⟨i, h1, h2, h3⟩
  · rw [h2, h3]; simp
  · rw [h2, h3, List.length_take, List.length_drop]; omega
theorem pc_keepL {w w' : World} {b o : Nat} {v : Value} (h : w.cell? ⟨b, o, none⟩ = some v) (hb : Below w.heap.size w w') : w'.cell? ⟨b, o, none⟩ = some v := (hb.cell (p := ⟨b, o, none⟩) (lt_of_cell' h)).trans h
end Go.Proofs.Ytoandhhkmkgmaaa
/- Contracts: line.Join, line.plain. -/
namespace Go.Proofs.Ytoandhhkmkgmaaa
open Go.RowKit

/-- The fault of a text of lines. -/
def lnE (s : List UInt8) : Nat := if 20000 < s.length then 2 else if s.any badB then 3 else 0
def plainL (s : List UInt8) : Bool := if lnE (shownL s) = 0 then (match joinL 0 (linesN (shownL s)) with | [x] => decide (x.2 = s) | _ => false) else false
theorem eq_svL (x y : List UInt8) : ((⟨x.toArray⟩ : ByteArray).toList == (⟨y.toArray⟩ : ByteArray).toList) = decide (x = y) := by
  rw [Lib.toList_data, Lib.toList_data, Bool.eq_iff_iff]; simp
end Go.Proofs.Ytoandhhkmkgmaaa
/- Contracts: the reference's SameLines at the same lines; lines as they come in; the text of lines, in plain Lean. -/
namespace Go.Proofs.Ytoandhhkmkgmaaa
open Go.RowKit

/-- Lines as they come in. -/
def lnZ (L : List (Int × List UInt8)) : List Value := L.flatMap fun x => [.int .i64 x.1, .string ⟨x.2.toArray⟩]
end Go.Proofs.Ytoandhhkmkgmaaa
