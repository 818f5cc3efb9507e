/- Contracts: strings.ReplaceAll, Trim at blanks; line.shown, line.cut; the reference's Trimmed. -/
import Derived.Test.YtbgcbigplegpmaaDoorLn1
namespace Go.Proofs.YtbgcbigplegpmaaDoor
open Go.RowKit

theorem below_newL {a w w' : World} (h : Below a.heap.size a w) (k : Below w.heap.size w w') : Below a.heap.size a w' := h.trans (k.mono h.size)
theorem countFrom_le (sub : List UInt8) : ∀ (f : Nat) (s : List UInt8), Lib.countFrom sub f s ≤ f
  | 0, _ => Nat.le_refl _
  | f + 1, s => by
    rw [Lib.countFrom]
    have := countFrom_le sub f (s.drop ((Lib.index s sub).toNat + sub.length))
    split <;> omega
theorem count_le (s sub : List UInt8) : Lib.count s sub ≤ s.length + 1 := countFrom_le sub _ s
theorem blanks_ascii : ∀ (j : Nat) (b : UInt8), (⟨#[32, 9]⟩ : ByteArray).data.toList[j]? = some b → b.toNat < 128 := by
  intro j b h
  match j, h with
  | 0, h => simp at h; subst h; decide
  | 1, h => simp at h; subst h; decide
theorem trimRL_cons (c : UInt8) (t : List UInt8) : trimRL (c :: t) = if (trimRL t).isEmpty then (if blankB c then [] else [c]) else c :: trimRL t := by
  unfold trimRL
  rw [List.reverse_cons, List.dropWhile_append, List.isEmpty_reverse]
  split
  · cases h : blankB c <;> simp [List.dropWhile, h]
  · simp
theorem trim_comm : ∀ s : List UInt8, trimLL (trimRL s) = trimRL (trimLL s)
  | [] => rfl
  | c :: t => by
    have ih := trim_comm t
    have hl : trimLL (c :: t) = if blankB c then trimLL t else c :: t := by unfold trimLL; rw [List.dropWhile_cons]
    rw [trimRL_cons, hl]
    cases hb : blankB c with
    | true =>
      simp only [if_true]
      rw [← ih]
      cases he : (trimRL t).isEmpty with
      | true =>
        rw [List.isEmpty_iff.1 he]
        rfl
      | false =>
        simp only [Bool.false_eq_true, if_false]
        unfold trimLL
        rw [List.dropWhile_cons, hb]
        rfl
    | false =>
      simp only [Bool.false_eq_true, if_false]
      rw [trimRL_cons, hb]
      cases he : (trimRL t).isEmpty with
      | true =>
        simp only [if_true, Bool.false_eq_true, if_false]
        unfold trimLL
        rw [List.dropWhile_cons, hb]
        rfl
      | false =>
        simp only [Bool.false_eq_true, if_false]
        unfold trimLL
        rw [List.dropWhile_cons, hb]
        rfl
theorem sTrim_any (s : List UInt8) (hl : s.length ≤ 9223372036854775807) (w : World) : Calls Tryd.prog 34 #[.string ⟨s.toArray⟩, .string ⟨#[32, 9]⟩] w fun e w' => e = .returned (.string ⟨(trimBL s).toArray⟩) ∧ Below w.heap.size w w' := by
  have h := Any.strings_Trim_laid Tryd.lays160 (by kernel_rfl) ⟨s.toArray⟩ ⟨#[32, 9]⟩ w hl (by decide) blanks_ascii
  rw [show (⟨s.toArray⟩ : ByteArray).data.toList = s from rfl, show (⟨#[32, 9]⟩ : ByteArray).data.toList = [32, 9] from rfl] at h
  have e : Lib.trimS s [32, 9] = trimBL s := by
    unfold Lib.trimS trimBL
    rw [trimRight_eq, trimLeft_eq, trim_comm]
  rw [e] at h
  exact h
end Go.Proofs.YtbgcbigplegpmaaDoor
