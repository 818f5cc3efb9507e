/- Contracts of package bits and of the reference's small functions on sets: those that only compute. Sets are below 2^64; the table of math/bits reads as its text lays it. -/
import Derived.Test.YtoandhhkmkgmaaaRows
import Derived.Test.YtoandhhkmkgmaaaBase
import Derived.Test.YtoandhhkmkgmaaaPop
import Derived.WalkKit
import Derived.WalkSpells
import Derived.WalkLawsBesides
import Derived.Outline
import Derived.BigQuiet
import Derived.Deep.QuietTactic
import Derived.Lib.Hide
namespace Go.Proofs.Ytoandhhkmkgmaaa
open Go.RowKit

theorem below_raw (n : Nat) (h : n ≤ 64) : IntKind.u64.wrap (IntKind.u64.wrap (2 ^ n) - 1) = (upTo n : Nat) := by
  unfold upTo
  rw [IntKind.wrap_u64, IntKind.wrap_u64]
  have hp : 0 < 2 ^ n := Nat.pow_pos (by decide)
  have hc : (2 : Int) ^ n = ((2 ^ n : Nat) : Int) := by simp
  rw [hc]
  rcases Nat.lt_or_ge n 64 with h' | h'
  · have : 2 ^ n ≤ 2 ^ 63 := Nat.pow_le_pow_right (by decide) (by omega)
    omega
  · obtain rfl : n = 64 := by omega
    decide
theorem tz_key (x : Nat) (hx : B64 x) (hx0 : x ≠ 0) :
    IntKind.u64.wrap (bits BinOp.and IntKind.u64 (x : Int) (IntKind.u64.wrap (-(x : Int))) * 285870213051353865) / 288230376151711744 = ((2 ^ low x * 285870213051353865 % 18446744073709551616 / 288230376151711744 : Nat) : Int) := by
  have h64 : x < 18446744073709551616 := hx
  have e1 : IntKind.u64.wrap (-(x : Int)) = ((18446744073709551616 - x : Nat) : Int) := by rw [IntKind.wrap_u64]; omega
  have hl : x &&& (18446744073709551616 - x) = 2 ^ low x := (Lib.lowest_bit 64 x hx0 hx).1
  rw [e1, u64_and_nat x _ h64 (by omega), hl, IntKind.wrap_u64]
  omega
end Go.Proofs.Ytoandhhkmkgmaaa
/- Contracts: In, UpTo, SetOf, Of, Next, Nth, Rank. Sets are below 2^64; lists are shorter than 2^63. -/
namespace Go.Proofs.Ytoandhhkmkgmaaa
open Go.RowKit

/-- Is n in s? -/
def inS (s : Nat) (n : Int) : Bool := decide (0 ≤ n) && s.testBit n.toNat
theorem in_raw (s k : Nat) : ((((s : Int) / 2 ^ k).tmod 2) == 1) = s.testBit k := by
  rw [Nat.testBit_eq_decide_div_mod_eq]
  have hc : (s : Int) / 2 ^ k = ((s / 2 ^ k : Nat) : Int) := by simp
  rw [hc, Int.tmod_eq_emod_of_nonneg (Int.natCast_nonneg _), Bool.eq_iff_iff]
  simp
  omega
theorem in_any (s : Nat) (hs : B64 s) (n : Int) (w : World) :
    Calls Try.prog 65 #[.int .u64 s, .int .i64 n] w fun e w' => e = .returned (.bool (inS s n)) ∧ w = w' := by
  by_cases h0 : 0 ≤ n
  · by_cases h1 : n < 64
    · have hr := Lib.hid (in_raw s n.toNat)
      clear hs
      go_enter Try.func65, Try.ntmps65
      go_wp2
      go_ret
      exact ⟨ret_bool (by unfold inS; simp only [h0, decide_true, Bool.true_and]; exact hr.out), rfl⟩
    · have hf : inS s n = false := by unfold inS; rw [hs.ge (by omega)]; simp
      have H := Lib.hid hf
      clear hs hf
      go_enter Try.func65, Try.ntmps65
      go_wp2
      go_ret
      exact ⟨ret_bool H.out.symm, rfl⟩
  · have hf : inS s n = false := by unfold inS; simp [h0]
    have H := Lib.hid hf
    clear hs hf
    go_enter Try.func65, Try.ntmps65
    go_wp2
    go_ret
    exact ⟨ret_bool H.out.symm, rfl⟩
theorem in_nat (s : Nat) (hs : B64 s) (n : Nat) (w : World) :
    Calls Try.prog 65 #[.int .u64 s, .int .i64 n] w fun e w' => e = .returned (.bool (s.testBit n)) ∧ w = w' :=
  (in_any s hs n w).mono fun e w' ⟨he, hw⟩ => ⟨by rw [he]; unfold inS; simp, hw⟩

/-! A sum that sets one bit. -/
theorem shl_raw (n : Nat) (h : n < 64) : IntKind.u64.wrap (2 ^ n) = ((2 ^ n : Nat) : Int) := by
  have hp : 2 ^ n ≤ 2 ^ 63 := Nat.pow_le_pow_right (by decide) (by omega)
  have hc : (2 : Int) ^ n = ((2 ^ n : Nat) : Int) := by simp
  rw [hc, wrap_u _ (by omega)]
theorem add_bit (s n : Nat) (h : s.testBit n = false) : s + 2 ^ n = s ||| 2 ^ n := by
  have h1 : s &&& 2 ^ n = 0 := by
    apply Nat.eq_of_testBit_eq
    intro i
    rw [Nat.testBit_and, Nat.testBit_two_pow]
    by_cases hi : n = i
    · subst hi; simp [h]
    · simp [hi]
  exact add_or _ _ h1
theorem or_bit (s n i : Nat) : (s ||| 2 ^ n).testBit i = (s.testBit i || decide (n = i)) := by
  rw [Nat.testBit_or, Nat.testBit_two_pow]

/-- A set of numbers of a list. -/
def addN (s n : Nat) : Nat := s ||| 2 ^ n
def okNum (n : Int) : Bool := decide (0 ≤ n) && decide (n < 64)
def setOf (l : List Int) : Nat := l.foldl (fun s n => addN s n.toNat) 0
def okNums (l : List Int) : Bool := l.all okNum
theorem addN_b64 {s n : Nat} (hs : B64 s) (hn : n < 64) : B64 (addN s n) := hs.or (B64.two hn)
theorem addN_same {s n : Nat} (h : s.testBit n = true) : addN s n = s := by
  apply set_ext
  intro i
  unfold addN
  rw [or_bit]
  by_cases hi : n = i
  · subst hi; simp [h]
  · simp [hi]
theorem addN_new {s n : Nat} (h : s.testBit n = false) : s + 2 ^ n = addN s n := add_bit s n h
theorem or_raw (s n : Nat) (hs : B64 s) (hn : n < 64) : bits .or .u64 (s : Int) (IntKind.u64.wrap (2 ^ n)) = (addN s n : Nat) := by
  rw [shl_raw n hn, u64_or_nat s _ hs (B64.two hn)]; rfl
theorem sum_raw (s n : Nat) (hs : B64 s) (hn : n < 64) (h : s.testBit n = false) : IntKind.u64.wrap ((s : Int) + IntKind.u64.wrap (2 ^ n)) = (addN s n : Nat) := by
  rw [shl_raw n hn, ← Int.natCast_add, addN_new h, wrap_u _ (addN_b64 hs hn)]
theorem setOf_snoc (l : List Int) (n : Int) : setOf (l ++ [n]) = addN (setOf l) n.toNat := by unfold setOf; rw [List.foldl_append]; rfl
theorem okNums_snoc (l : List Int) (n : Int) : okNums (l ++ [n]) = (okNums l && okNum n) := by unfold okNums; simp
theorem setOf_b64 (l : List Int) (h : okNums l = true) : B64 (setOf l) := by
  have key : ∀ (l : List Int) (s : Nat), B64 s → okNums l = true → B64 (l.foldl (fun s n => addN s n.toNat) s) := by
    intro l
    induction l with
    | nil => intro s hs _; exact hs
    | cons x l ih =>
      intro s hs h
      unfold okNums at h
      rw [List.all_cons, Bool.and_eq_true] at h
      refine ih _ (addN_b64 hs ?_) h.2
      have := h.1
      unfold okNum at this
      simp at this
      omega
  exact key l 0 B64.zero h
theorem take_snoc {α : Type} (l : List α) (d : α) (k : Nat) (h : k < l.length) : l.take (k + 1) = l.take k ++ [l[k]?.getD d] := by
  rw [List.take_succ_eq_append_getElem h]
  simp [h]
theorem okNums_take {l : List Int} {k : Nat} (hk : k < l.length) (h : okNum (l[k]?.getD 0) = false) : okNums l = false := by
  cases ho : okNums l with
  | false => rfl
  | true =>
    unfold okNums at ho
    rw [List.all_eq_true] at ho
    have := ho (l[k]) (List.getElem_mem hk)
    simp [hk] at h
    rw [h] at this
    cases this

/-- The reference's UpTo and its sums. -/
theorem upTo_succ (n : Nat) : addN (upTo n) n = upTo (n + 1) := by
  apply set_ext
  intro i
  unfold addN
  rw [or_bit, upTo_bit, upTo_bit, Bool.eq_iff_iff]
  simp
  omega
/-- Of, as the program and as the reference have it. -/
def OfPost (l : List Int) (bad good : Value) (w : World) (e : Ending) (w' : World) : Prop :=
  e = .returned (.tuple (if okNums l then #[.int .u64 (setOf l : Nat), good] else #[.int .u64 0, bad])) ∧ w = w'
theorem okNum_lo {n : Int} (h : n < 0) : okNum n = false := by unfold okNum; simp; omega
theorem okNum_hi {n : Int} (h : 64 ≤ n) : okNum n = false := by unfold okNum; simp; omega
theorem okNum_yes {n : Int} (h : 0 ≤ n) (h' : n < 64) : okNum n = true := by unfold okNum; simp; omega
end Go.Proofs.Ytoandhhkmkgmaaa
/- Rows of sets (graphs), plain: steps on from a set, rows turned. Each lemma says its own conditions. -/
namespace Go.Proofs.Ytoandhhkmkgmaaa

/-- The row of a number. -/
def rowAt (l : List Nat) (i : Nat) : Nat := l[i]?.getD 0
/-- All rows below 2^64. -/
def Rows64 (l : List Nat) : Prop := ∀ i, B64 (rowAt l i)
/-- Every number of every row has a row. -/
def Good (l : List Nat) : Prop := l.length ≤ 64 ∧ ∀ i j, (rowAt l i).testBit j = true → j < l.length
/-- A set of numbers that have a row. -/
def InRows (l : List Nat) (s : Nat) : Prop := ∀ j, s.testBit j = true → j < l.length
theorem Good.b64 {l : List Nat} (h : Good l) : Rows64 l := fun i => B64.of_bits fun j hj => Nat.lt_of_lt_of_le (h.2 i j hj) h.1
theorem InRows.b64 {l : List Nat} (hg : Good l) {s : Nat} (h : InRows l s) : B64 s := B64.of_bits fun j hj => Nat.lt_of_lt_of_le (h j hj) hg.1
theorem rowAt_ge {l : List Nat} {i : Nat} (h : l.length ≤ i) : rowAt l i = 0 := by unfold rowAt; rw [List.getElem?_eq_none h]; rfl
theorem rowAt_mem {l : List Nat} {i : Nat} (h : i < l.length) : rowAt l i ∈ l := by unfold rowAt; simp [h]

/-- Is t within the rows? -/
def inU (n s : Nat) : Bool := decide (minus s (upTo n) = 0)
theorem inU_iff {n s : Nat} (hn : n ≤ 64) (hs : B64 s) : inU n s = true ↔ ∀ j, s.testBit j = true → j < n := by
  unfold inU
  rw [decide_eq_true_eq]
  constructor
  · intro h j hj
    have := minus_bit hs (upTo_b64 hn) j
    rw [h, hj, upTo_bit] at this
    simpa using this
  · intro h
    apply set_ext
    intro j
    rw [minus_bit hs (upTo_b64 hn), upTo_bit]
    cases hb : s.testBit j with
    | false => simp
    | true => have := h j hb; simp [this]
/-- The fault of rows and sets, by number. -/
def faultOf (l sets : List Nat) : Int := if 64 < l.length then 2 else if (l ++ sets).all (inU l.length) then 0 else 4
theorem all_inU {l : List Nat} (hn : l.length ≤ 64) (hb : Rows64 l) (h : l.all (inU l.length) = true) : Good l := by
  refine ⟨hn, fun i j hij => ?_⟩
  rcases Nat.lt_or_ge i l.length with hi | hi
  · rw [List.all_eq_true] at h
    exact (inU_iff hn (hb i)).1 (h _ (rowAt_mem hi)) j hij
  · rw [rowAt_ge hi] at hij; simp at hij
theorem faultOf_ok {l sets : List Nat} (hb : Rows64 l) (hs : ∀ s ∈ sets, B64 s) (h : faultOf l sets = 0) : Good l ∧ ∀ s ∈ sets, InRows l s := by
  unfold faultOf at h
  split at h
  · cases h
  · rename_i hn
    split at h
    · rename_i ha
      rw [List.all_append, Bool.and_eq_true] at ha
      have hn' : l.length ≤ 64 := by omega
      refine ⟨all_inU hn' hb ha.1, fun s hs' => ?_⟩
      have := List.all_eq_true.1 ha.2 s hs'
      exact (inU_iff hn' (hs s hs')).1 this
    · cases h
theorem faultOf_cases (l sets : List Nat) : faultOf l sets = 0 ∨ faultOf l sets = 2 ∨ faultOf l sets = 4 := by
  unfold faultOf
  split
  · exact .inr (.inl rfl)
  · split
    · exact .inl rfl
    · exact .inr (.inr rfl)

/-! ### Steps -/
/-- The rows of the numbers below k that s has, joined to o. -/
def orRows (l : List Nat) (s o : Nat) : Nat → Nat
  | 0 => o
  | k + 1 => if s.testBit k then orRows l s o k ||| rowAt l k else orRows l s o k
def stepR (l : List Nat) (s : Nat) : Nat := orRows l s s l.length
theorem orRows_bit (l : List Nat) (s o k j : Nat) : (orRows l s o k).testBit j = true ↔ o.testBit j = true ∨ ∃ i, i < k ∧ s.testBit i = true ∧ (rowAt l i).testBit j = true := by
  induction k with
  | zero => simp [orRows]
  | succ k ih =>
    unfold orRows
    split
    · rename_i h
      rw [Nat.testBit_or, Bool.or_eq_true, ih]
      constructor
      · rintro ((h1 | ⟨i, h1, h2, h3⟩) | h1)
        · exact .inl h1
        · exact .inr ⟨i, by omega, h2, h3⟩
        · exact .inr ⟨k, by omega, h, h1⟩
      · rintro (h1 | ⟨i, h1, h2, h3⟩)
        · exact .inl (.inl h1)
        · by_cases hi : i = k
          · subst hi; exact .inr h3
          · exact .inl (.inr ⟨i, by omega, h2, h3⟩)
    · rename_i h
      rw [ih]
      constructor
      · rintro (h1 | ⟨i, h1, h2, h3⟩)
        · exact .inl h1
        · exact .inr ⟨i, by omega, h2, h3⟩
      · rintro (h1 | ⟨i, h1, h2, h3⟩)
        · exact .inl h1
        · by_cases hi : i = k
          · subst hi; exact absurd h2 h
          · exact .inr ⟨i, by omega, h2, h3⟩
theorem orRows_b64 {l : List Nat} (hl : Rows64 l) {s o : Nat} (ho : B64 o) (k : Nat) : B64 (orRows l s o k) := by
  induction k with
  | zero => exact ho
  | succ k ih =>
    unfold orRows
    split
    · exact ih.or (hl k)
    · exact ih
theorem stepR_bit (l : List Nat) (s j : Nat) : (stepR l s).testBit j = true ↔ s.testBit j = true ∨ ∃ i, i < l.length ∧ s.testBit i = true ∧ (rowAt l i).testBit j = true := orRows_bit l s s l.length j
theorem stepR_b64 {l : List Nat} (hl : Rows64 l) {s : Nat} (hs : B64 s) : B64 (stepR l s) := orRows_b64 hl hs _
theorem stepR_in {l : List Nat} (hg : Good l) {s : Nat} (hs : InRows l s) : InRows l (stepR l s) := fun j hj => by
  rcases (stepR_bit l s j).1 hj with h | ⟨i, _, _, h⟩
  · exact hs j h
  · exact hg.2 i j h
/-- k steps on. -/
def iterR (l : List Nat) (s : Nat) : Nat → Nat
  | 0 => s
  | k + 1 => stepR l (iterR l s k)
theorem iterR_in {l : List Nat} (hg : Good l) {s : Nat} (hs : InRows l s) (k : Nat) : InRows l (iterR l s k) := by
  induction k with
  | zero => exact hs
  | succ k ih => exact stepR_in hg ih
theorem iterR_sub (l : List Nat) (s k j : Nat) (h : (iterR l s k).testBit j = true) : (iterR l s (k + 1)).testBit j = true := (stepR_bit l _ j).2 (.inl h)
theorem iterR_stable (l : List Nat) (s k : Nat) (h : iterR l s (k + 1) = iterR l s k) (m : Nat) (hm : k ≤ m) : iterR l s m = iterR l s k := by
  induction m with
  | zero =>
    obtain rfl : k = 0 := by omega
    rfl
  | succ m ih =>
    by_cases hk : k = m + 1
    · subst hk; rfl
    · rw [iterR, ih (by omega)]
      exact h
/-- How many numbers a set has. -/
theorem nums_sub {s t : Nat} (h : ∀ i, s.testBit i = true → t.testBit i = true) : (nums s).length ≤ (nums t).length := by
  unfold nums
  generalize List.range 64 = L
  induction L with
  | nil => simp
  | cons x L ih =>
    rw [List.filter_cons, List.filter_cons]
    cases hs : s.testBit x with
    | true => rw [h x hs]; simpa using ih
    | false =>
      cases t.testBit x
      · simpa using ih
      · simp
        omega
theorem count_one {p q : Nat → Bool} {i : Nat} (hp : p i = true) (hq : q i = false) (h : ∀ j, j ≠ i → p j = q j) : ∀ L : List Nat, i ∈ L → L.Nodup → (L.filter p).length = (L.filter q).length + 1
  | [], hm, _ => by cases hm
  | x :: L, hm, hnd => by
    rw [List.nodup_cons] at hnd
    rw [List.filter_cons, List.filter_cons]
    by_cases hx : x = i
    · subst hx
      rw [hp, hq]
      simp only [if_true, List.length_cons, Bool.false_eq_true, if_false]
      congr 2
      apply List.filter_congr
      intro y hy
      exact h y (fun e => hnd.1 (e ▸ hy))
    · have hm' : i ∈ L := by
        rcases List.mem_cons.1 hm with e | e
        · exact absurd e.symm hx
        · exact e
      have ih := count_one hp hq h L hm' hnd.2
      rw [h x hx]
      cases q x
      · simpa using ih
      · simpa using ih
theorem nums_more {s t i : Nat} (hi : i < 64) (h : ∀ j, s.testBit j = true → t.testBit j = true) (h1 : s.testBit i = false) (h2 : t.testBit i = true) : (nums s).length + 1 ≤ (nums t).length := by
  have hs : (nums (addN s i)).length = (nums s).length + 1 := by
    apply count_one (i := i) (p := fun j => (addN s i).testBit j) (q := fun j => s.testBit j)
    · unfold addN; rw [or_bit]; simp
    · exact h1
    · intro j hj
      have : ¬ i = j := fun e => hj e.symm
      unfold addN
      rw [or_bit]
      simp [this]
    · exact List.mem_range.2 hi
    · exact List.nodup_range
  rw [← hs]
  apply nums_sub
  intro j hj
  unfold addN at hj
  rw [or_bit, Bool.or_eq_true] at hj
  rcases hj with hj | hj
  · exact h j hj
  · have : i = j := by simpa using hj
    subst this
    exact h2
theorem ne_bit {s t : Nat} (hs : B64 s) (ht : B64 t) (h : s ≠ t) : ∃ i, i < 64 ∧ s.testBit i ≠ t.testBit i := by
  apply Classical.byContradiction
  intro hc
  apply h
  apply set_ext
  intro i
  rcases Nat.lt_or_ge i 64 with hi | hi
  · apply Classical.byContradiction
    intro hn
    exact hc ⟨i, hi, hn⟩
  · rw [hs.ge hi, ht.ge hi]
theorem iterR_grows {l : List Nat} (hg : Good l) {s : Nat} (hs : InRows l s) (k : Nat) (h : iterR l s (k + 1) ≠ iterR l s k) : (nums (iterR l s k)).length + 1 ≤ (nums (iterR l s (k + 1))).length := by
  obtain ⟨i, hi, hne⟩ := ne_bit ((iterR_in hg hs (k + 1)).b64 hg) ((iterR_in hg hs k).b64 hg) h
  have hsub := iterR_sub l s k
  refine nums_more hi (hsub) ?_ ?_
  · cases h1 : (iterR l s k).testBit i with
    | false => rfl
    | true => rw [h1, hsub i h1] at hne; exact absurd rfl hne
  · cases h1 : (iterR l s (k + 1)).testBit i with
    | true => rfl
    | false =>
      cases h2 : (iterR l s k).testBit i with
      | false => rw [h1, h2] at hne; exact absurd rfl hne
      | true => rw [hsub i h2] at h1; cases h1
/-- Steps on: at most so many; without a bound, if that is below 0. -/
def reachD (l : List Nat) (s : Nat) (d : Int) : Nat := if d < 0 then iterR l s 65 else iterR l s (min d 65).toNat
theorem reachD_in {l : List Nat} (hg : Good l) {s : Nat} (hs : InRows l s) (d : Int) : InRows l (reachD l s d) := by
  unfold reachD; split <;> exact iterR_in hg hs _
/-- Where the steps end. -/
theorem reachD_stop {l : List Nat} {s : Nat} {d : Int} {k : Nat} (h : iterR l s (k + 1) = iterR l s k) (hk : k ≤ 65) (hd : d < 0 ∨ (k : Int) ≤ d) : reachD l s d = iterR l s k := by
  unfold reachD
  split
  · exact iterR_stable l s k h 65 hk
  · exact iterR_stable l s k h _ (by omega)
theorem reachD_all {l : List Nat} {s k : Nat} (hk : k ≤ 65) : reachD l s (k : Int) = iterR l s k := by
  unfold reachD
  rw [if_neg (by omega)]
  congr 1
  omega

/-! ### The program's way: from an edge on. -/
def stepS (l : List Nat) (s : Nat) : Nat := orRows l s 0 l.length
theorem stepS_bit (l : List Nat) (s j : Nat) : (stepS l s).testBit j = true ↔ ∃ i, i < l.length ∧ s.testBit i = true ∧ (rowAt l i).testBit j = true := by
  rw [stepS, orRows_bit]; simp
theorem stepS_b64 {l : List Nat} (hl : Rows64 l) {s : Nat} : B64 (stepS l s) := orRows_b64 hl B64.zero _
/-- The edge behind k steps. -/
def edgeR (l : List Nat) (s : Nat) : Nat → Nat
  | 0 => s
  | k + 1 => minus (stepS l (edgeR l s k)) (iterR l s k)
theorem edgeR_b64 {l : List Nat} (hl : Rows64 l) {s : Nat} (hs : B64 s) (k : Nat) : B64 (edgeR l s k) := by
  cases k with
  | zero => exact hs
  | succ k => exact minus_b64 (stepS_b64 hl)
theorem edge_key {l : List Nat} (hg : Good l) {s : Nat} (hs : InRows l s) (k : Nat) :
    (∀ j, (edgeR l s k).testBit j = true → (iterR l s k).testBit j = true) ∧
    (∀ i j, (iterR l s k).testBit i = true → (edgeR l s k).testBit i = false → (rowAt l i).testBit j = true → (iterR l s k).testBit j = true) ∧
    (∀ j, (iterR l s (k + 1)).testBit j = true ↔ (iterR l s k).testBit j = true ∨ (stepS l (edgeR l s k)).testBit j = true) := by
  have hb := fun k => (iterR_in hg hs k).b64 hg
  have next : ∀ k, (∀ j, (edgeR l s k).testBit j = true → (iterR l s k).testBit j = true) →
      (∀ i j, (iterR l s k).testBit i = true → (edgeR l s k).testBit i = false → (rowAt l i).testBit j = true → (iterR l s k).testBit j = true) →
      (∀ j, (iterR l s (k + 1)).testBit j = true ↔ (iterR l s k).testBit j = true ∨ (stepS l (edgeR l s k)).testBit j = true) := by
    intro k h1 h2 j
    rw [iterR, stepR_bit, stepS_bit]
    constructor
    · rintro (h | ⟨i, hi, h3, h4⟩)
      · exact .inl h
      · cases he : (edgeR l s k).testBit i with
        | true => exact .inr ⟨i, hi, he, h4⟩
        | false => exact .inl (h2 i j h3 he h4)
    · rintro (h | ⟨i, hi, h3, h4⟩)
      · exact .inl h
      · exact .inr ⟨i, hi, h1 i h3, h4⟩
  induction k with
  | zero =>
    have a1 : ∀ j, (edgeR l s 0).testBit j = true → (iterR l s 0).testBit j = true := fun j h => h
    have a2 : ∀ i j, (iterR l s 0).testBit i = true → (edgeR l s 0).testBit i = false → (rowAt l i).testBit j = true → (iterR l s 0).testBit j = true := fun i j h1 h2 _ => by
      have : (edgeR l s 0).testBit i = true := h1
      rw [this] at h2; cases h2
    exact ⟨a1, a2, next 0 a1 a2⟩
  | succ k ih =>
    obtain ⟨b1, b2, b3⟩ := ih
    have hm : ∀ j, (edgeR l s (k + 1)).testBit j = ((stepS l (edgeR l s k)).testBit j && !(iterR l s k).testBit j) := fun j => minus_bit (stepS_b64 hg.b64) (hb k) j
    have a1 : ∀ j, (edgeR l s (k + 1)).testBit j = true → (iterR l s (k + 1)).testBit j = true := fun j h => by
      rw [hm, Bool.and_eq_true] at h
      exact (b3 j).2 (.inr h.1)
    have a2 : ∀ i j, (iterR l s (k + 1)).testBit i = true → (edgeR l s (k + 1)).testBit i = false → (rowAt l i).testBit j = true → (iterR l s (k + 1)).testBit j = true := fun i j h1 h2 h3 => by
      have hik : (iterR l s k).testBit i = true := by
        cases h4 : (iterR l s k).testBit i with
        | true => rfl
        | false =>
          rw [hm, h4] at h2
          rcases (b3 i).1 h1 with h5 | h5
          · rw [h4] at h5; cases h5
          · rw [h5] at h2; cases h2
      rcases Nat.lt_or_ge i l.length with hi | hi
      · exact (stepR_bit l _ j).2 (.inr ⟨i, hi, hik, h3⟩)
      · rw [rowAt_ge hi] at h3; simp at h3
    exact ⟨a1, a2, next (k + 1) a1 a2⟩
/-- The program's next set. -/
theorem edge_next {l : List Nat} (hg : Good l) {s : Nat} (hs : InRows l s) (k : Nat) : iterR l s k ||| edgeR l s (k + 1) = iterR l s (k + 1) := by
  have hm : ∀ j, (edgeR l s (k + 1)).testBit j = ((stepS l (edgeR l s k)).testBit j && !(iterR l s k).testBit j) := fun j => minus_bit (stepS_b64 hg.b64) ((iterR_in hg hs k).b64 hg) j
  apply set_ext
  intro j
  rw [Bool.eq_iff_iff, Nat.testBit_or, hm, (edge_key hg hs k).2.2 j]
  cases (iterR l s k).testBit j <;> simp
theorem edge_in {l : List Nat} (hg : Good l) {s : Nat} (hs : InRows l s) (k : Nat) : InRows l (edgeR l s k) := fun j hj => iterR_in hg hs k j ((edge_key hg hs k).1 j hj)
theorem edge_zero {l : List Nat} (hg : Good l) {s : Nat} (hs : InRows l s) {k : Nat} (h : edgeR l s k = 0) : iterR l s (k + 1) = iterR l s k := by
  apply set_ext
  intro j
  rw [Bool.eq_iff_iff, (edge_key hg hs k).2.2 j, h, stepS_bit]
  simp
theorem edge_grows {l : List Nat} (hg : Good l) {s : Nat} (hs : InRows l s) {k : Nat} (h : edgeR l s (k + 1) ≠ 0) : (nums (iterR l s k)).length + 1 ≤ (nums (iterR l s (k + 1))).length := by
  apply iterR_grows hg hs
  intro he
  apply h
  have hn := edge_next hg hs k
  rw [he] at hn
  have hm : ∀ j, (edgeR l s (k + 1)).testBit j = ((stepS l (edgeR l s k)).testBit j && !(iterR l s k).testBit j) := fun j => minus_bit (stepS_b64 hg.b64) ((iterR_in hg hs k).b64 hg) j
  apply set_ext
  intro j
  have h1 := congrArg (fun x => x.testBit j) hn
  simp only [Nat.testBit_or] at h1
  have h2 := hm j
  cases h3 : (iterR l s k).testBit j with
  | true => rw [h3] at h2; rw [h2]; simp
  | false => rw [h3] at h1; simpa using h1

/-! ### Rows turned -/
/-- Which of the rows below k have the number c. -/
def colUp (l : List Nat) (c : Nat) : Nat → Nat
  | 0 => 0
  | k + 1 => if (rowAt l k).testBit c then addN (colUp l c k) k else colUp l c k
theorem colUp_bit (l : List Nat) (c k i : Nat) : (colUp l c k).testBit i = (decide (i < k) && (rowAt l i).testBit c) := by
  induction k with
  | zero => simp [colUp]
  | succ k ih =>
    unfold colUp
    split
    · rename_i h
      unfold addN
      rw [or_bit, ih]
      by_cases hi : k = i
      · subst hi; simp [h]
      · have : (i < k + 1) = (i < k) := by apply propext; omega
        simp [hi, this]
    · rename_i h
      rw [ih]
      by_cases hi : i = k
      · subst hi
        have : (rowAt l i).testBit c = false := by simpa using h
        simp [this]
      · have : (i < k + 1) = (i < k) := by apply propext; omega
        simp [this]
theorem colUp_b64 (l : List Nat) (c k : Nat) (hk : k ≤ 64) : B64 (colUp l c k) := B64.of_bits fun i hi => by
  rw [colUp_bit] at hi; simp at hi; omega
def turned (l : List Nat) : List Nat := (List.range l.length).map fun c => colUp l c l.length
theorem turned_len (l : List Nat) : (turned l).length = l.length := by unfold turned; simp
theorem rowAt_turned (l : List Nat) (c : Nat) (hc : c < l.length) : rowAt (turned l) c = colUp l c l.length := by
  unfold rowAt turned; simp [hc]
theorem turned_good {l : List Nat} (h : Good l) : Good (turned l) := by
  refine ⟨by rw [turned_len]; exact h.1, fun i j hij => ?_⟩
  rw [turned_len]
  rcases Nat.lt_or_ge i l.length with hi | hi
  · rw [rowAt_turned l i hi, colUp_bit] at hij
    simp at hij
    exact hij.1
  · rw [rowAt_ge (by rw [turned_len]; exact hi)] at hij; simp at hij
end Go.Proofs.Ytoandhhkmkgmaaa
/- Contracts: SetOf, Next, Nth, Rank, List and Numbers. Sets are below 2^64; lists are shorter than 2^63; the table of math/bits lies. -/
namespace Go.Proofs.Ytoandhhkmkgmaaa
open Go.RowKit

/-- Next: the numbers from n on. -/
def fromS (s : Nat) (n : Int) : Nat := if 64 ≤ n then 0 else minus s (upTo (max n 0).toNat)
theorem fromS_b64 {s : Nat} {n : Int} (hs : B64 s) : B64 (fromS s n) := by
  unfold fromS; split
  · exact B64.zero
  · exact minus_b64 hs
theorem fromS_bit {s : Nat} {n : Int} (hs : B64 s) (i : Nat) : (fromS s n).testBit i = (s.testBit i && decide (n ≤ i)) := by
  unfold fromS
  split
  · rename_i h
    cases hb : s.testBit i with
    | false => simp
    | true =>
      have := hs.bit hb
      simp
      omega
  · rename_i h
    rw [minus_bit hs (upTo_b64 (by omega)), upTo_bit]
    congr 1
    rw [Bool.eq_iff_iff]
    simp
    omega
theorem minus_raw (s t : Nat) (hs : B64 s) (ht : B64 t) : bits .andNot .u64 (s : Int) (t : Int) = (minus s t : Nat) := u64_andNot_nat s t hs ht
theorem max_raw (n : Int) : (if n < 0 then (0 : Int) else n) = max n 0 := by omega
/-- What Next does ahead of its answer, at the two kinds of start. -/
theorem fromS_lo {s : Nat} {n : Int} (h : n < 0) : fromS s n = minus s (upTo 0) := by
  unfold fromS
  rw [if_neg (by omega)]
  congr 2
  omega
theorem fromS_mid {s n : Nat} (h : n < 64) : fromS s (n : Int) = minus s (upTo n) := by
  unfold fromS
  rw [if_neg (by omega)]
  congr 2
  omega
/-- Rank: how many numbers stand below n. -/
def rankS (s : Nat) (n : Int) : Nat := (nums (s &&& upTo (min (max n 0) 64).toNat)).length
/-- Nth: the numbers of s from the j-th on. -/
def dropS (s : Nat) : Nat → Nat
  | 0 => s
  | j + 1 => drop1 (dropS s j)
theorem dropS_b64 {s : Nat} (h : B64 s) (j : Nat) : B64 (dropS s j) := by
  induction j with
  | zero => exact h
  | succ j ih => exact drop1_b64 ih
theorem dropS_nums {s : Nat} (h : B64 s) (j : Nat) (hj : j ≤ (nums s).length) : nums (dropS s j) = (nums s).drop j := by
  induction j with
  | zero => rfl
  | succ j ih =>
    have ih := ih (by omega)
    have h0 : dropS s j ≠ 0 := fun h0 => by
      rw [h0, nums_zero] at ih
      have := congrArg List.length ih
      simp at this
      omega
    have := nums_step (dropS_b64 h j) h0
    rw [ih] at this
    have h2 := congrArg List.tail this
    rw [List.tail_drop, List.tail_cons] at h2
    exact h2.symm
theorem dropS_ne {s : Nat} (h : B64 s) {j : Nat} (hj : j < (nums s).length) : dropS s j ≠ 0 := fun h0 => by
  have := dropS_nums h j (by omega)
  rw [h0, nums_zero] at this
  have := congrArg List.length this
  simp at this
  omega
theorem dropS_low {s : Nat} (h : B64 s) {j : Nat} (hj : j < (nums s).length) : low (dropS s j) = (nums s)[j]?.getD 0 := by
  have h1 := nums_step (dropS_b64 h j) (dropS_ne h hj)
  rw [dropS_nums h j (by omega)] at h1
  have := congrArg List.head? h1
  rw [List.head?_drop] at this
  simp [hj] at this
  simp [hj, this]
theorem drop1_raw (s : Nat) (h : B64 s) (h0 : s ≠ 0) : bits .and .u64 (s : Int) (IntKind.u64.wrap ((s : Int) - 1)) = (drop1 s : Nat) := by
  have h' : s < 18446744073709551616 := h
  have e : (s : Int) - 1 = ((s - 1 : Nat) : Int) := by omega
  rw [e, wrap_u _ (by omega), u64_and_nat s _ h' (by omega)]
  rfl
end Go.Proofs.Ytoandhhkmkgmaaa
