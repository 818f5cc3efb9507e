/- Some of the proof's texts, merged; each one's own words stand ahead of it. -/
import Derived.Test.YtoandhhkmkgmaaaLnPlain
import Derived.Test.YtoandhhkmkgmaaaShelf
import Derived.BigRegion
import Derived.Deep.Cut
import Derived.Deep.RegionHeld3
import Derived.Lib.Hide
import Derived.Lib.Walk
import Derived.WalkKit
import Derived.Outline
/- Contracts: line.bad, line.shown; the reference's blank, Shown, Trimmed. -/
namespace Go.Proofs.Ytoandhhkmkgmaaa
open Go.RowKit

/-- A text by its bytes. -/
structure StrIsL (b : ByteArray) (s : List UInt8) : Prop where
  data : b.data.toList = s
  size : b.size = s.length
theorem strIsL (s : List UInt8) : StrIsL ⟨s.toArray⟩ s := ⟨rfl, rfl⟩
theorem StrIsL.at_ {b : ByteArray} {s : List UInt8} (h : StrIsL b s) {k : Nat} (hk : k < b.size) : s[k]? = some b[k] := by
  rw [← h.data]
  have h1 : k < b.data.size := hk
  rw [Array.getElem?_toList, Array.getElem?_eq_getElem h1]
  rfl
theorem neK {c n : UInt8} (h : c ≠ n) : (((c.toNat : Nat) : Int) != ((n.toNat : Nat) : Int)) = true := by
  have : c.toNat ≠ n.toNat := fun e => h (UInt8.toNat_inj.1 e)
  simp
  omega
theorem eqK {c n : UInt8} (h : c ≠ n) : (((c.toNat : Nat) : Int) == ((n.toNat : Nat) : Int)) = false := by
  have : c.toNat ≠ n.toNat := fun e => h (UInt8.toNat_inj.1 e)
  simp
  omega
theorem measL {q m : Nat} (h : q < m) : m - (intOf (.int .i64 ((q : Int) + 1))).toNat < m - (intOf (.int .i64 (q : Int))).toNat := by
  simp only [intOf]
  omega
theorem take_snocL {α : Type} {s : List α} {i : Nat} {c : α} (h : s[i]? = some c) : s.take (i + 1) = s.take i ++ [c] := by rw [List.take_add_one, h]; rfl
theorem cat_bytesL (x y : List UInt8) : (⟨x.toArray⟩ : ByteArray) ++ ⟨y.toArray⟩ = ⟨(x ++ y).toArray⟩ := by
  apply ByteArray.ext
  simp
theorem ext_one {b : ByteArray} {s : List UInt8} (h : StrIsL b s) {i : Nat} {c : UInt8} (hc : s[i]? = some c) : b.extract i (i + 1) = ⟨#[c]⟩ := by
  have h1 := Lib.extract_data b i (i + 1)
  rw [h.data] at h1
  have h2 : (s.drop i).take (i + 1 - i) = [c] := by
    obtain ⟨hi, hx⟩ := List.getElem?_eq_some_iff.1 hc
    rw [List.drop_eq_getElem_cons hi, hx, show i + 1 - i = 1 by omega]
    rfl
  rw [h2] at h1
  calc b.extract i (i + 1) = ⟨(b.extract i (i + 1)).data.toList.toArray⟩ := rfl
    _ = _ := by rw [h1]
theorem badB_cases (c : UInt8) : (badB c = true ∧ 126 < c.toNat) ∨ (badB c = true ∧ c.toNat ≤ 126 ∧ c.toNat < 32 ∧ c ≠ 9 ∧ c ≠ 10) ∨ (badB c = false ∧ c = 9) ∨ (badB c = false ∧ c = 10) ∨ (badB c = false ∧ 32 ≤ c.toNat ∧ c.toNat ≤ 126) := by
  have key : ∀ n : Fin 256, (badB (UInt8.ofNat n.val) = true ∧ 126 < n.val) ∨ (badB (UInt8.ofNat n.val) = true ∧ n.val ≤ 126 ∧ n.val < 32 ∧ UInt8.ofNat n.val ≠ 9 ∧ UInt8.ofNat n.val ≠ 10) ∨ (badB (UInt8.ofNat n.val) = false ∧ UInt8.ofNat n.val = 9) ∨ (badB (UInt8.ofNat n.val) = false ∧ UInt8.ofNat n.val = 10) ∨ (badB (UInt8.ofNat n.val) = false ∧ 32 ≤ n.val ∧ n.val ≤ 126) := by decide +kernel
  have h := key ⟨c.toNat, c.toNat_lt⟩
  have e : UInt8.ofNat c.toNat = c := by simp
  simp only [e] at h
  exact h
end Go.Proofs.Ytoandhhkmkgmaaa
/- Contracts: strings.ReplaceAll, Trim at blanks; line.shown, line.cut; the reference's Trimmed. -/
namespace Go.Proofs.Ytoandhhkmkgmaaa
open Go.RowKit

theorem below_newL {a w w' : World} (h : Below a.heap.size a w) (k : Below w.heap.size w w') : Below a.heap.size a w' := h.trans (k.mono h.size)
theorem countFrom_le (sub : List UInt8) : ∀ (f : Nat) (s : List UInt8), Lib.countFrom sub f s ≤ f
  | 0, _ => Nat.le_refl _
  | f + 1, s => by
    rw [Lib.countFrom]
    have := countFrom_le sub f (s.drop ((Lib.index s sub).toNat + sub.length))
    split <;> omega
theorem count_le (s sub : List UInt8) : Lib.count s sub ≤ s.length + 1 := countFrom_le sub _ s
theorem blanks_ascii : ∀ (j : Nat) (b : UInt8), (⟨#[32, 9]⟩ : ByteArray).data.toList[j]? = some b → b.toNat < 128 := by
  intro j b h
  match j, h with
  | 0, h => simp at h; subst h; decide
  | 1, h => simp at h; subst h; decide
theorem trimRL_cons (c : UInt8) (t : List UInt8) : trimRL (c :: t) = if (trimRL t).isEmpty then (if blankB c then [] else [c]) else c :: trimRL t := by
  unfold trimRL
  rw [List.reverse_cons, List.dropWhile_append, List.isEmpty_reverse]
  split
  · cases h : blankB c <;> simp [List.dropWhile, h]
  · simp
theorem trim_comm : ∀ s : List UInt8, trimLL (trimRL s) = trimRL (trimLL s)
  | [] => rfl
  | c :: t => by
    have ih := trim_comm t
    have hl : trimLL (c :: t) = if blankB c then trimLL t else c :: t := by unfold trimLL; rw [List.dropWhile_cons]
    rw [trimRL_cons, hl]
    cases hb : blankB c with
    | true =>
      simp only [if_true]
      rw [← ih]
      cases he : (trimRL t).isEmpty with
      | true =>
        rw [List.isEmpty_iff.1 he]
        rfl
      | false =>
        simp only [Bool.false_eq_true, if_false]
        unfold trimLL
        rw [List.dropWhile_cons, hb]
        rfl
    | false =>
      simp only [Bool.false_eq_true, if_false]
      rw [trimRL_cons, hb]
      cases he : (trimRL t).isEmpty with
      | true =>
        simp only [if_true, Bool.false_eq_true, if_false]
        unfold trimLL
        rw [List.dropWhile_cons, hb]
        rfl
      | false =>
        simp only [Bool.false_eq_true, if_false]
        unfold trimLL
        rw [List.dropWhile_cons, hb]
        rfl
end Go.Proofs.Ytoandhhkmkgmaaa
/- Contracts: line.cut; the reference's Trimmed, aside. -/
namespace Go.Proofs.Ytoandhhkmkgmaaa
open Go.RowKit

theorem ext_takeL {b : ByteArray} {s : List UInt8} (h : StrIsL b s) (i : Nat) : b.extract 0 i = ⟨(s.take i).toArray⟩ := by
  have h1 := Lib.extract_data b 0 i
  rw [h.data] at h1
  simp only [List.drop_zero, Nat.sub_zero] at h1
  calc b.extract 0 i = ⟨(b.extract 0 i).data.toList.toArray⟩ := rfl
    _ = _ := by rw [h1]
theorem ext_dropL {b : ByteArray} {s : List UInt8} (h : StrIsL b s) (i : Nat) : b.extract i b.size = ⟨(s.drop i).toArray⟩ := by
  have h1 := Lib.extract_data b i b.size
  rw [h.data, h.size] at h1
  rw [List.take_of_length_le (by rw [List.length_drop]; omega)] at h1
  rw [← h.size] at h1
  calc b.extract i b.size = ⟨(b.extract i b.size).data.toList.toArray⟩ := rfl
    _ = _ := by rw [h1]
/-- No stop ahead of i. -/
def NoStop (s : List UInt8) (i : Nat) : Prop := ∀ j, j < i → ¬ (s[j]? = some 35 ∧ (if j = 0 then (none : Option UInt8) else s[j - 1]?) ≠ some 92)
theorem NoStop.succ {s : List UInt8} {i : Nat} (h : NoStop s i) (hi : ¬ (s[i]? = some 35 ∧ (if i = 0 then (none : Option UInt8) else s[i - 1]?) ≠ some 92)) : NoStop s (i + 1) := fun j hj => by
  by_cases hji : j = i
  · subst hji; exact hi
  · exact h j (by omega)
theorem aside_of {s : List UInt8} {i : Nat} (h : NoStop s i) (hi : i ≤ s.length) (he : i = s.length ∨ (s[i]? = some 35 ∧ (if i = 0 then (none : Option UInt8) else s[i - 1]?) ≠ some 92)) : asideL s = trimRL (unescL (s.take i)) := by
  unfold asideL
  rw [takeA_eq s none i hi h he]
theorem unescL_len : ∀ (n : Nat) (s : List UInt8), s.length ≤ n → (unescL s).length ≤ s.length := by
  intro n
  induction n with
  | zero =>
    intro s hn
    obtain rfl : s = [] := List.length_eq_zero_iff.1 (by omega)
    simp [unescL]
  | succ n ih =>
    intro s hn
    cases s with
    | nil => simp [unescL]
    | cons c t =>
      simp only [List.length_cons] at hn ⊢
      by_cases h : c = 92 ∧ t.head? = some 35
      · obtain ⟨rfl, ht⟩ := h
        cases t with
        | nil => cases ht
        | cons d t' =>
          simp at ht
          subst ht
          rw [unescL_hit]
          have := ih t' (by simp at hn; omega)
          simp
          omega
      · rw [unescL_skip h]
        have := ih t (by omega)
        simp
        omega
theorem trimLL_cons (c : UInt8) (t : List UInt8) : trimLL (c :: t) = if blankB c then trimLL t else c :: t := by unfold trimLL; rw [List.dropWhile_cons]
theorem trimRL_snoc (u : List UInt8) (c : UInt8) : trimRL (u ++ [c]) = if blankB c then trimRL u else u ++ [c] := by
  unfold trimRL
  rw [List.reverse_append, List.reverse_singleton, List.singleton_append, List.dropWhile_cons]
  split
  · rfl
  · simp
theorem ext_tail (a : UInt8) (t : List UInt8) : (⟨(a :: t).toArray⟩ : ByteArray).extract 1 (t.length + 1) = ⟨t.toArray⟩ := by
  have h := ext_dropL (strIsL (a :: t)) 1
  exact h
theorem snoc_of {s : List UInt8} (h : s ≠ []) : ∃ u c, s = u ++ [c] := ⟨_, _, (List.dropLast_concat_getLast h).symm⟩
theorem last_at {b : ByteArray} {u : List UInt8} {c : UInt8} (h : StrIsL b (u ++ [c])) (hk : u.length < b.size) : b[u.length] = c := by
  have h1 := h.at_ hk
  have h2 : (u ++ [c])[u.length]? = some c := by simp
  rw [h2] at h1
  injection h1 with h1
  exact h1.symm
def strLenL (v : Value) : Nat := match v with | .string s => s.size | _ => 0
end Go.Proofs.Ytoandhhkmkgmaaa
/- Contract: the reference's aside. -/
namespace Go.Proofs.Ytoandhhkmkgmaaa
open Go.RowKit

theorem unesc_take_len (s : List UInt8) (i : Nat) (hl : s.length ≤ 1048576) : (unescL (s.take i)).length ≤ 1048576 := by
  have h := unescL_len _ (s.take i) (Nat.le_refl _)
  rw [List.length_take] at h
  omega
end Go.Proofs.Ytoandhhkmkgmaaa
