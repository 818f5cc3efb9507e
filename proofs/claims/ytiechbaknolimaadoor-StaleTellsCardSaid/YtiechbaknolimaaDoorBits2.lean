/- Contracts: In, UpTo, SetOf, Of, Next, Nth, Rank. Sets are below 2^64; lists are shorter than 2^63. -/
import Derived.Test.YtiechbaknolimaaDoorBits1
namespace Go.Proofs.YtiechbaknolimaaDoor
open Go.RowKit

/-- Is n in s? -/
def inS (s : Nat) (n : Int) : Bool := decide (0 ≤ n) && s.testBit n.toNat
theorem in_raw (s k : Nat) : ((((s : Int) / 2 ^ k).tmod 2) == 1) = s.testBit k := by
  rw [Nat.testBit_eq_decide_div_mod_eq]
  have hc : (s : Int) / 2 ^ k = ((s / 2 ^ k : Nat) : Int) := by simp
  rw [hc, Int.tmod_eq_emod_of_nonneg (Int.natCast_nonneg _), Bool.eq_iff_iff]
  simp
  omega
theorem in_any (s : Nat) (hs : B64 s) (n : Int) (w : World) :
    Calls Tryd.prog 41 #[.int .u64 s, .int .i64 n] w fun e w' => e = .returned (.bool (inS s n)) ∧ w = w' := by
  by_cases h0 : 0 ≤ n
  · by_cases h1 : n < 64
    · have hr := Lib.hid (in_raw s n.toNat)
      clear hs
      go_enter Tryd.func41, Tryd.ntmps41
      go_wp2
      go_ret
      exact ⟨ret_bool (by unfold inS; simp only [h0, decide_true, Bool.true_and]; exact hr.out), rfl⟩
    · have hf : inS s n = false := by unfold inS; rw [hs.ge (by omega)]; simp
      have H := Lib.hid hf
      clear hs hf
      go_enter Tryd.func41, Tryd.ntmps41
      go_wp2
      go_ret
      exact ⟨ret_bool H.out.symm, rfl⟩
  · have hf : inS s n = false := by unfold inS; simp [h0]
    have H := Lib.hid hf
    clear hs hf
    go_enter Tryd.func41, Tryd.ntmps41
    go_wp2
    go_ret
    exact ⟨ret_bool H.out.symm, rfl⟩
theorem in_nat (s : Nat) (hs : B64 s) (n : Nat) (w : World) :
    Calls Tryd.prog 41 #[.int .u64 s, .int .i64 n] w fun e w' => e = .returned (.bool (s.testBit n)) ∧ w = w' :=
  (in_any s hs n w).mono fun e w' ⟨he, hw⟩ => ⟨by rw [he]; unfold inS; simp, hw⟩

/-! A sum that sets one bit. -/
theorem shl_raw (n : Nat) (h : n < 64) : IntKind.u64.wrap (2 ^ n) = ((2 ^ n : Nat) : Int) := by
  have hp : 2 ^ n ≤ 2 ^ 63 := Nat.pow_le_pow_right (by decide) (by omega)
  have hc : (2 : Int) ^ n = ((2 ^ n : Nat) : Int) := by simp
  rw [hc, wrap_u _ (by omega)]
theorem add_bit (s n : Nat) (h : s.testBit n = false) : s + 2 ^ n = s ||| 2 ^ n := by
  have h1 : s &&& 2 ^ n = 0 := by
    apply Nat.eq_of_testBit_eq
    intro i
    rw [Nat.testBit_and, Nat.testBit_two_pow]
    by_cases hi : n = i
    · subst hi; simp [h]
    · simp [hi]
  exact add_or _ _ h1
theorem or_bit (s n i : Nat) : (s ||| 2 ^ n).testBit i = (s.testBit i || decide (n = i)) := by
  rw [Nat.testBit_or, Nat.testBit_two_pow]

/-- A set of numbers of a list. -/
def addN (s n : Nat) : Nat := s ||| 2 ^ n
def okNum (n : Int) : Bool := decide (0 ≤ n) && decide (n < 64)
def setOf (l : List Int) : Nat := l.foldl (fun s n => addN s n.toNat) 0
def okNums (l : List Int) : Bool := l.all okNum
theorem addN_b64 {s n : Nat} (hs : B64 s) (hn : n < 64) : B64 (addN s n) := hs.or (B64.two hn)
theorem addN_same {s n : Nat} (h : s.testBit n = true) : addN s n = s := by
  apply set_ext
  intro i
  unfold addN
  rw [or_bit]
  by_cases hi : n = i
  · subst hi; simp [h]
  · simp [hi]
theorem addN_new {s n : Nat} (h : s.testBit n = false) : s + 2 ^ n = addN s n := add_bit s n h
theorem or_raw (s n : Nat) (hs : B64 s) (hn : n < 64) : bits .or .u64 (s : Int) (IntKind.u64.wrap (2 ^ n)) = (addN s n : Nat) := by
  rw [shl_raw n hn, u64_or_nat s _ hs (B64.two hn)]; rfl
theorem sum_raw (s n : Nat) (hs : B64 s) (hn : n < 64) (h : s.testBit n = false) : IntKind.u64.wrap ((s : Int) + IntKind.u64.wrap (2 ^ n)) = (addN s n : Nat) := by
  rw [shl_raw n hn, ← Int.natCast_add, addN_new h, wrap_u _ (addN_b64 hs hn)]
theorem setOf_snoc (l : List Int) (n : Int) : setOf (l ++ [n]) = addN (setOf l) n.toNat := by unfold setOf; rw [List.foldl_append]; rfl
theorem okNums_snoc (l : List Int) (n : Int) : okNums (l ++ [n]) = (okNums l && okNum n) := by unfold okNums; simp
theorem setOf_b64 (l : List Int) (h : okNums l = true) : B64 (setOf l) := by
  have key : ∀ (l : List Int) (s : Nat), B64 s → okNums l = true → B64 (l.foldl (fun s n => addN s n.toNat) s) := by
    intro l
    induction l with
    | nil => intro s hs _; exact hs
    | cons x l ih =>
      intro s hs h
      unfold okNums at h
      rw [List.all_cons, Bool.and_eq_true] at h
      refine ih _ (addN_b64 hs ?_) h.2
      have := h.1
      unfold okNum at this
      simp at this
      omega
  exact key l 0 B64.zero h
theorem take_snoc {α : Type} (l : List α) (d : α) (k : Nat) (h : k < l.length) : l.take (k + 1) = l.take k ++ [l[k]?.getD d] := by
  rw [List.take_succ_eq_append_getElem h]
  simp [h]
theorem okNums_take {l : List Int} {k : Nat} (hk : k < l.length) (h : okNum (l[k]?.getD 0) = false) : okNums l = false := by
  cases ho : okNums l with
  | false => rfl
  | true =>
    unfold okNums at ho
    rw [List.all_eq_true] at ho
    have := ho (l[k]) (List.getElem_mem hk)
    simp [hk] at h
    rw [h] at this
    cases this

/-- The reference's UpTo and its sums. -/
theorem upTo_succ (n : Nat) : addN (upTo n) n = upTo (n + 1) := by
  apply set_ext
  intro i
  unfold addN
  rw [or_bit, upTo_bit, upTo_bit, Bool.eq_iff_iff]
  simp
  omega
/-- Of, as the program and as the reference have it. -/
def OfPost (l : List Int) (bad good : Value) (w : World) (e : Ending) (w' : World) : Prop :=
  e = .returned (.tuple (if okNums l then #[.int .u64 (setOf l : Nat), good] else #[.int .u64 0, bad])) ∧ w = w'
theorem okNum_lo {n : Int} (h : n < 0) : okNum n = false := by unfold okNum; simp; omega
theorem okNum_hi {n : Int} (h : 64 ≤ n) : okNum n = false := by unfold okNum; simp; omega
theorem okNum_yes {n : Int} (h : 0 ≤ n) (h' : n < 64) : okNum n = true := by unfold okNum; simp; omega
end Go.Proofs.YtiechbaknolimaaDoor
