/- Some of the proof's texts, merged; each one's own words stand ahead of it. -/
import Derived.Test.YtoandhhkmkgmaaaRows
import Derived.Test.YtoandhhkmkgmaaaBase
import Derived.Test.YtoandhhkmkgmaaaPop
import Derived.WalkKit
import Derived.WalkSpells
import Derived.WalkLawsBesides
import Derived.Outline
import Derived.BigQuiet
import Derived.Deep.QuietTactic
import Derived.Lib.Hide
/- Contracts of package bits and of the reference's small functions on sets: those that only compute. Sets are below 2^64; the table of math/bits reads as its text lays it. -/
namespace Go.Proofs.Ytoandhhkmkgmaaa
open Go.RowKit

theorem below_raw (n : Nat) (h : n ≤ 64) : IntKind.u64.wrap (IntKind.u64.wrap (2 ^ n) - 1) = (upTo n : Nat) := by
  unfold upTo
  rw [IntKind.wrap_u64, IntKind.wrap_u64]
  have hp : 0 < 2 ^ n := Nat.pow_pos (by decide)
  have hc : (2 : Int) ^ n = ((2 ^ n : Nat) : Int) := by simp
  rw [hc]
  rcases Nat.lt_or_ge n 64 with h' | h'
  · have : 2 ^ n ≤ 2 ^ 63 := Nat.pow_le_pow_right (by decide) (by omega)
    omega
  · obtain rfl : n = 64 := by omega
    decide
theorem tz_key (x : Nat) (hx : B64 x) (hx0 : x ≠ 0) :
    IntKind.u64.wrap (bits BinOp.and IntKind.u64 (x : Int) (IntKind.u64.wrap (-(x : Int))) * 285870213051353865) / 288230376151711744 = ((2 ^ low x * 285870213051353865 % 18446744073709551616 / 288230376151711744 : Nat) : Int) := by
  have h64 : x < 18446744073709551616 := hx
  have e1 : IntKind.u64.wrap (-(x : Int)) = ((18446744073709551616 - x : Nat) : Int) := by rw [IntKind.wrap_u64]; omega
  have hl : x &&& (18446744073709551616 - x) = 2 ^ low x := (Lib.lowest_bit 64 x hx0 hx).1
  rw [e1, u64_and_nat x _ h64 (by omega), hl, IntKind.wrap_u64]
  omega
end Go.Proofs.Ytoandhhkmkgmaaa
/- Contracts: In, UpTo, SetOf, Of, Next, Nth, Rank. Sets are below 2^64; lists are shorter than 2^63. -/
namespace Go.Proofs.Ytoandhhkmkgmaaa
open Go.RowKit

/-- Is n in s? -/
def inS (s : Nat) (n : Int) : Bool := decide (0 ≤ n) && s.testBit n.toNat
theorem in_raw (s k : Nat) : ((((s : Int) / 2 ^ k).tmod 2) == 1) = s.testBit k := by
  rw [Nat.testBit_eq_decide_div_mod_eq]
  have hc : (s : Int) / 2 ^ k = ((s / 2 ^ k : Nat) : Int) := by simp
  rw [hc, Int.tmod_eq_emod_of_nonneg (Int.natCast_nonneg _), Bool.eq_iff_iff]
  simp
  omega
theorem in_any (s : Nat) (hs : B64 s) (n : Int) (w : World) :
    Calls Try.prog 65 #[.int .u64 s, .int .i64 n] w fun e w' => e = .returned (.bool (inS s n)) ∧ w = w' := by
  by_cases h0 : 0 ≤ n
  · by_cases h1 : n < 64
    · have hr := Lib.hid (in_raw s n.toNat)
      clear hs
      go_enter Try.func65, Try.ntmps65
      go_wp2
      go_ret
      exact ⟨ret_bool (by unfold inS; simp only [h0, decide_true, Bool.true_and]; exact hr.out), rfl⟩
    · have hf : inS s n = false := by unfold inS; rw [hs.ge (by omega)]; simp
      have H := Lib.hid hf
      clear hs hf
      go_enter Try.func65, Try.ntmps65
      go_wp2
      go_ret
      exact ⟨ret_bool H.out.symm, rfl⟩
  · have hf : inS s n = false := by unfold inS; simp [h0]
    have H := Lib.hid hf
    clear hs hf
    go_enter Try.func65, Try.ntmps65
    go_wp2
    go_ret
    exact ⟨ret_bool H.out.symm, rfl⟩
theorem in_nat (s : Nat) (hs : B64 s) (n : Nat) (w : World) :
    Calls Try.prog 65 #[.int .u64 s, .int .i64 n] w fun e w' => e = .returned (.bool (s.testBit n)) ∧ w = w' :=
  (in_any s hs n w).mono fun e w' ⟨he, hw⟩ => ⟨by rw [he]; unfold inS; simp, hw⟩

/-! A sum that sets one bit. -/
theorem shl_raw (n : Nat) (h : n < 64) : IntKind.u64.wrap (2 ^ n) = ((2 ^ n : Nat) : Int) := by
  have hp : 2 ^ n ≤ 2 ^ 63 := Nat.pow_le_pow_right (by decide) (by omega)
  have hc : (2 : Int) ^ n = ((2 ^ n : Nat) : Int) := by simp
  rw [hc, wrap_u _ (by omega)]
theorem add_bit (s n : Nat) (h : s.testBit n = false) : s + 2 ^ n = s ||| 2 ^ n := by
  have h1 : s &&& 2 ^ n = 0 := by
    apply Nat.eq_of_testBit_eq
    intro i
    rw [Nat.testBit_and, Nat.testBit_two_pow]
    by_cases hi : n = i
    · subst hi; simp [h]
    · simp [hi]
  exact add_or _ _ h1
theorem or_bit (s n i : Nat) : (s ||| 2 ^ n).testBit i = (s.testBit i || decide (n = i)) := by
  rw [Nat.testBit_or, Nat.testBit_two_pow]

/-- A set of numbers of a list. -/
def addN (s n : Nat) : Nat := s ||| 2 ^ n
def okNum (n : Int) : Bool := decide (0 ≤ n) && decide (n < 64)
def setOf (l : List Int) : Nat := l.foldl (fun s n => addN s n.toNat) 0
def okNums (l : List Int) : Bool := l.all okNum
theorem addN_b64 {s n : Nat} (hs : B64 s) (hn : n < 64) : B64 (addN s n) := hs.or (B64.two hn)
theorem addN_same {s n : Nat} (h : s.testBit n = true) : addN s n = s := by
  apply set_ext
  intro i
  unfold addN
  rw [or_bit]
  by_cases hi : n = i
  · subst hi; simp [h]
  · simp [hi]
theorem addN_new {s n : Nat} (h : s.testBit n = false) : s + 2 ^ n = addN s n := add_bit s n h
theorem or_raw (s n : Nat) (hs : B64 s) (hn : n < 64) : bits .or .u64 (s : Int) (IntKind.u64.wrap (2 ^ n)) = (addN s n : Nat) := by
  rw [shl_raw n hn, u64_or_nat s _ hs (B64.two hn)]; rfl
theorem sum_raw (s n : Nat) (hs : B64 s) (hn : n < 64) (h : s.testBit n = false) : IntKind.u64.wrap ((s : Int) + IntKind.u64.wrap (2 ^ n)) = (addN s n : Nat) := by
  rw [shl_raw n hn, ← Int.natCast_add, addN_new h, wrap_u _ (addN_b64 hs hn)]
theorem setOf_snoc (l : List Int) (n : Int) : setOf (l ++ [n]) = addN (setOf l) n.toNat := by unfold setOf; rw [List.foldl_append]; rfl
theorem okNums_snoc (l : List Int) (n : Int) : okNums (l ++ [n]) = (okNums l && okNum n) := by unfold okNums; simp
theorem setOf_b64 (l : List Int) (h : okNums l = true) : B64 (setOf l) := by
  have key : ∀ (l : List Int) (s : Nat), B64 s → okNums l = true → B64 (l.foldl (fun s n => addN s n.toNat) s) := by
    intro l
    induction l with
    | nil => intro s hs _; exact hs
    | cons x l ih =>
      intro s hs h
      unfold okNums at h
      rw [List.all_cons, Bool.and_eq_true] at h
      refine ih _ (addN_b64 hs ?_) h.2
      have := h.1
      unfold okNum at this
      simp at this
      omega
  exact key l 0 B64.zero h
theorem take_snoc {α : Type} (l : List α) (d : α) (k : Nat) (h : k < l.length) : l.take (k + 1) = l.take k ++ [l[k]?.getD d] := by
  rw [List.take_succ_eq_append_getElem h]
  simp [h]
theorem okNums_take {l : List Int} {k : Nat} (hk : k < l.length) (h : okNum (l[k]?.getD 0) = false) : okNums l = false := by
  cases ho : okNums l with
  | false => rfl
  | true =>
    unfold okNums at ho
    rw [List.all_eq_true] at ho
    have := ho (l[k]) (List.getElem_mem hk)
    simp [hk] at h
    rw [h] at this
    cases this

/-- The reference's UpTo and its sums. -/
theorem upTo_succ (n : Nat) : addN (upTo n) n = upTo (n + 1) := by
  apply set_ext
  intro i
  unfold addN
  rw [or_bit, upTo_bit, upTo_bit, Bool.eq_iff_iff]
  simp
  omega
/-- Of, as the program and as the reference have it. -/
def OfPost (l : List Int) (bad good : Value) (w : World) (e : Ending) (w' : World) : Prop :=
  e = .returned (.tuple (if okNums l then #[.int .u64 (setOf l : Nat), good] else #[.int .u64 0, bad])) ∧ w = w'
theorem okNum_lo {n : Int} (h : n < 0) : okNum n = false := by unfold okNum; simp; omega
theorem okNum_hi {n : Int} (h : 64 ≤ n) : okNum n = false := by unfold okNum; simp; omega
theorem okNum_yes {n : Int} (h : 0 ≤ n) (h' : n < 64) : okNum n = true := by unfold okNum; simp; omega
end Go.Proofs.Ytoandhhkmkgmaaa
/- Rows of sets (graphs), plain: steps on from a set, rows turned. Each lemma says its own conditions. -/
namespace Go.Proofs.Ytoandhhkmkgmaaa

/-- The row of a number. -/
def rowAt (l : List Nat) (i : Nat) : Nat := l[i]?.getD 0
/-- All rows below 2^64. -/
def Rows64 (l : List Nat) : Prop := ∀ i, B64 (rowAt l i)
/-- Every number of every row has a row. -/
def Good (l : List Nat) : Prop := l.length ≤ 64 ∧ ∀ i j, (rowAt l i).testBit j = true → j < l.length
/-- A set of numbers that have a row. -/
def InRows (l : List Nat) (s : Nat) : Prop := ∀ j, s.testBit j = true → j < l.length
theorem Good.b64 {l : List Nat} (h : Good l) : Rows64 l := fun i => B64.of_bits fun j hj => Nat.lt_of_lt_of_le (h.2 i j hj) h.1
theorem InRows.b64 {l : List Nat} (hg : Good l) {s : Nat} (h : InRows l s) : B64 s := B64.of_bits fun j hj => Nat.lt_of_lt_of_le (h j hj) hg.1
theorem rowAt_ge {l : List Nat} {i : Nat} (h : l.length ≤ i) : rowAt l i = 0 := by unfold rowAt; rw [List.getElem?_eq_none h]; rfl
theorem rowAt_mem {l : List Nat} {i : Nat} (h : i < l.length) : rowAt l i ∈ l := by unfold rowAt; simp [h]

/-- Is t within the rows? -/
def inU (n s : Nat) : Bool := decide (minus s (upTo n) = 0)
theorem inU_iff {n s : Nat} (hn : n ≤ 64) (hs : B64 s) : inU n s = true ↔ ∀ j, s.testBit j = true → j < n := by
  unfold inU
  rw [decide_eq_true_eq]
  constructor
  · intro h j hj
    have := minus_bit hs (upTo_b64 hn) j
    rw [h, hj, upTo_bit] at this
    simpa using this
  · intro h
    apply set_ext
    intro j
    rw [minus_bit hs (upTo_b64 hn), upTo_bit]
    cases hb : s.testBit j with
    | false => simp
    | true => have := h j hb; simp [this]
/-- The fault of rows and sets, by number. -/
def faultOf (l sets : List Nat) : Int := if 64 < l.length then 2 else if (l ++ sets).all (inU l.length) then 0 else 4
theorem all_inU {l : List Nat} (hn : l.length ≤ 64) (hb : Rows64 l) (h : l.all (inU l.length) = true) : Good l := by
  refine ⟨hn, fun i j hij => ?_⟩
  rcases Nat.lt_or_ge i l.length with hi | hi
  · rw [List.all_eq_true] at h
    exact (inU_iff hn (hb i)).1 (h _ (rowAt_mem hi)) j hij
  · rw [rowAt_ge hi] at hij; simp at hij
theorem faultOf_ok {l sets : List Nat} (hb : Rows64 l) (hs : ∀ s ∈ sets, B64 s) (h : faultOf l sets = 0) : Good l ∧ ∀ s ∈ sets, InRows l s := by
  unfold faultOf at h
  split at h
  · cases h
  · rename_i hn
    split at h
    · rename_i ha
      rw [List.all_append, Bool.and_eq_true] at ha
      have hn' : l.length ≤ 64 := by omega
      refine ⟨all_inU hn' hb ha.1, fun s hs' => ?_⟩
      have := List.all_eq_true.1 ha.2 s hs'
      exact (inU_iff hn' (hs s hs')).1 this
    · cases h
theorem faultOf_cases (l sets : List Nat) : faultOf l sets = 0 ∨ faultOf l sets = 2 ∨ faultOf l sets = 4 := by
  unfold faultOf
  split
  · exact .inr (.inl rfl)
  · split
    · exact .inl rfl
    · exact .inr (.inr rfl)

/-! ### Steps -/
/-- The rows of the numbers below k that s has, joined to o. -/
def orRows (l : List Nat) (s o : Nat) : Nat → Nat
  | 0 => o
  | k + 1 => if s.testBit k then orRows l s o k ||| rowAt l k else orRows l s o k
def stepR (l : List Nat) (s : Nat) : Nat := orRows l s s l.length
theorem orRows_bit (l : List Nat) (s o k j : Nat) : (orRows l s o k).testBit j = true ↔ o.testBit j = true ∨ ∃ i, i < k ∧ s.testBit i = true ∧ (rowAt l i).testBit j = true := by
  induction k with
  | zero => simp [orRows]
  | succ k ih =>
    unfold orRows
    split
    · rename_i h
      rw [Nat.testBit_or, Bool.or_eq_true, ih]
      constructor
      · rintro ((h1 | ⟨i, h1, h2, h3⟩) | h1)
        · exact .inl h1
        · exact .inr ⟨i, by omega, h2, h3⟩
        · exact .inr ⟨k, by omega, h, h1⟩
      · rintro (h1 | ⟨i, h1, h2, h3⟩)
        · exact .inl (.inl h1)
        · by_cases hi : i = k
          · subst hi; exact .inr h3
          · exact .inl (.inr ⟨i, by omega, h2, h3⟩)
    · rename_i h
      rw [ih]
      constructor
      · rintro (h1 | ⟨i, h1, h2, h3⟩)
        · exact .inl h1
        · exact .inr ⟨i, by omega, h2, h3⟩
      · rintro (h1 | ⟨i, h1, h2, h3⟩)
        · exact .inl h1
        · by_cases hi : i = k
          · subst hi; exact absurd h2 h
          · exact .inr ⟨i, by omega, h2, h3⟩
theorem orRows_b64 {l : List Nat} (hl : Rows64 l) {s o : Nat} (ho : B64 o) (k : Nat) : B64 (orRows l s o k) := by
  induction k with
  | zero => exact ho
  | succ k ih =>
    unfold orRows
    split
    · exact ih.or (hl k)
    · exact ih
theorem stepR_bit (l : List Nat) (s j : Nat) : (stepR l s).testBit j = true ↔ s.testBit j = true ∨ ∃ i, i < l.length ∧ s.testBit i = true ∧ (rowAt l i).testBit j = true := orRows_bit l s s l.length j
theorem stepR_b64 {l : List Nat} (hl : Rows64 l) {s : Nat} (hs : B64 s) : B64 (stepR l s) := orRows_b64 hl hs _
theorem stepR_in {l : List Nat} (hg : Good l) {s : Nat} (hs : InRows l s) : InRows l (stepR l s) := fun j hj => by
  rcases (stepR_bit l s j).1 hj with h | ⟨i, _, _, h⟩
  · exact hs j h
  · exact hg.2 i j h
/-- k steps on. -/
def iterR (l : List Nat) (s : Nat) : Nat → Nat
  | 0 => s
  | k + 1 => stepR l (iterR l s k)
theorem iterR_in {l : List Nat} (hg : Good l) {s : Nat} (hs : InRows l s) (k : Nat) : InRows l (iterR l s k) := by
  induction k with
  | zero => exact hs
  | succ k ih => exact stepR_in hg ih
theorem iterR_sub (l : List Nat) (s k j : Nat) (h : (iterR l s k).testBit j = true) : (iterR l s (k + 1)).testBit j = true := (stepR_bit l _ j).2 (.inl h)
theorem iterR_stable (l : List Nat) (s k : Nat) (h : iterR l s (k + 1) = iterR l s k) (m : Nat) (hm : k ≤ m) : iterR l s m = iterR l s k := by
  induction m with
  | zero =>
    obtain rfl : k = 0 := by omega
    rfl
  | succ m ih =>
    by_cases hk : k = m + 1
    · subst hk; rfl
    · rw [iterR, ih (by omega)]
      exact h
/-- How many numbers a set has. -/
theorem nums_sub {s t : Nat} (h : ∀ i, s.testBit i = true → t.testBit i = true) : (nums s).length ≤ (nums t).length := by
  unfold nums
  generalize List.range 64 = L
  induction L with
  | nil => simp
  | cons x L ih =>
    rw [List.filter_cons, List.filter_cons]
    cases hs : s.testBit x with
    | true => rw [h x hs]; simpa using ih
    | false =>
      cases t.testBit x
      · simpa using ih
      · simp
        omega
theorem count_one {p q : Nat → Bool} {i : Nat} (hp : p i = true) (hq : q i = false) (h : ∀ j, j ≠ i → p j = q j) : ∀ L : List Nat, i ∈ L → L.Nodup → (L.filter p).length = (L.filter q).length + 1
  | [], hm, _ => by cases hm
  | x :: L, hm, hnd => by
    rw [List.nodup_cons] at hnd
    rw [List.filter_cons, List.filter_cons]
    by_cases hx : x = i
    · subst hx
      rw [hp, hq]
      simp only [if_true, List.length_cons, Bool.false_eq_true, if_false]
      congr 2
      apply List.filter_congr
      intro y hy
      exact h y (fun e => hnd.1 (e ▸ hy))
    · have hm' : i ∈ L := by
        rcases List.mem_cons.1 hm with e | e
        · exact absurd e.symm hx
        · exact e
      have ih := count_one hp hq h L hm' hnd.2
      rw [h x hx]
      cases q x
      · simpa using ih
      · simpa using ih
theorem nums_more {s t i : Nat} (hi : i < 64) (h : ∀ j, s.testBit j = true → t.testBit j = true) (h1 : s.testBit i = false) (h2 : t.testBit i = true) : (nums s).length + 1 ≤ (nums t).length := by
  have hs : (nums (addN s i)).length = (nums s).length + 1 := by
    apply count_one (i := i) (p := fun j => (addN s i).testBit j) (q := fun j => s.testBit j)
    · unfold addN; rw [or_bit]; simp
    · exact h1
    · intro j hj
      have : ¬ i = j := fun e => hj e.symm
      unfold addN
      rw [or_bit]
      simp [this]
    · exact List.mem_range.2 hi
    · exact List.nodup_range
  rw [← hs]
  apply nums_sub
  intro j hj
  unfold addN at hj
  rw [or_bit, Bool.or_eq_true] at hj
  rcases hj with hj | hj
  · exact h j hj
  · have : i = j := by simpa using hj
    subst this
    exact h2
theorem ne_bit {s t : Nat} (hs : B64 s) (ht : B64 t) (h : s ≠ t) : ∃ i, i < 64 ∧ s.testBit i ≠ t.testBit i := by
  apply Classical.byContradiction
  intro hc
  apply h
  apply set_ext
  intro i
  rcases Nat.lt_or_ge i 64 with hi | hi
  · apply Classical.byContradiction
    intro hn
    exact hc ⟨i, hi, hn⟩
  · rw [hs.ge hi, ht.ge hi]
theorem iterR_grows {l : List Nat} (hg : Good l) {s : Nat} (hs : InRows l s) (k : Nat) (h : iterR l s (k + 1) ≠ iterR l s k) : (nums (iterR l s k)).length + 1 ≤ (nums (iterR l s (k + 1))).length := by
  obtain ⟨i, hi, hne⟩ := ne_bit ((iterR_in hg hs (k + 1)).b64 hg) ((iterR_in hg hs k).b64 hg) h
  have hsub := iterR_sub l s k
  refine nums_more hi (hsub) ?_ ?_
  · cases h1 : (iterR l s k).testBit i with
    | false => rfl
    | true => rw [h1, hsub i h1] at hne; exact absurd rfl hne
  · cases h1 : (iterR l s (k + 1)).testBit i with
    | true => rfl
    | false =>
      cases h2 : (iterR l s k).testBit i with
      | false => rw [h1, h2] at hne; exact absurd rfl hne
      | true => rw [hsub i h2] at h1; cases h1
/-- Steps on: at most so many; without a bound, if that is below 0. -/
def reachD (l : List Nat) (s : Nat) (d : Int) : Nat := if d < 0 then iterR l s 65 else iterR l s (min d 65).toNat
theorem reachD_in {l : List Nat} (hg : Good l) {s : Nat} (hs : InRows l s) (d : Int) : InRows l (reachD l s d) := by
  unfold reachD; split <;> exact iterR_in hg hs _
/-- Where the steps end. -/
theorem reachD_stop {l : List Nat} {s : Nat} {d : Int} {k : Nat} (h : iterR l s (k + 1) = iterR l s k) (hk : k ≤ 65) (hd : d < 0 ∨ (k : Int) ≤ d) : reachD l s d = iterR l s k := by
  unfold reachD
  split
  · exact iterR_stable l s k h 65 hk
  · exact iterR_stable l s k h _ (by omega)
theorem reachD_all {l : List Nat} {s k : Nat} (hk : k ≤ 65) : reachD l s (k : Int) = iterR l s k := by
  unfold reachD
  rw [if_neg (by omega)]
  congr 1
  omega

/-! ### The program's way: from an edge on. -/
def stepS (l : List Nat) (s : Nat) : Nat := orRows l s 0 l.length
theorem stepS_bit (l : List Nat) (s j : Nat) : (stepS l s).testBit j = true ↔ ∃ i, i < l.length ∧ s.testBit i = true ∧ (rowAt l i).testBit j = true := by
  rw [stepS, orRows_bit]; simp
theorem stepS_b64 {l : List Nat} (hl : Rows64 l) {s : Nat} : B64 (stepS l s) := orRows_b64 hl B64.zero _
/-- The edge behind k steps. -/
def edgeR (l : List Nat) (s : Nat) : Nat → Nat
  | 0 => s
  | k + 1 => minus (stepS l (edgeR l s k)) (iterR l s k)
theorem edgeR_b64 {l : List Nat} (hl : Rows64 l) {s : Nat} (hs : B64 s) (k : Nat) : B64 (edgeR l s k) := by
  cases k with
  | zero => exact hs
  | succ k => exact minus_b64 (stepS_b64 hl)
theorem edge_key {l : List Nat} (hg : Good l) {s : Nat} (hs : InRows l s) (k : Nat) :
    (∀ j, (edgeR l s k).testBit j = true → (iterR l s k).testBit j = true) ∧
    (∀ i j, (iterR l s k).testBit i = true → (edgeR l s k).testBit i = false → (rowAt l i).testBit j = true → (iterR l s k).testBit j = true) ∧
    (∀ j, (iterR l s (k + 1)).testBit j = true ↔ (iterR l s k).testBit j = true ∨ (stepS l (edgeR l s k)).testBit j = true) := by
  have hb := fun k => (iterR_in hg hs k).b64 hg
  have next : ∀ k, (∀ j, (edgeR l s k).testBit j = true → (iterR l s k).testBit j = true) →
      (∀ i j, (iterR l s k).testBit i = true → (edgeR l s k).testBit i = false → (rowAt l i).testBit j = true → (iterR l s k).testBit j = true) →
      (∀ j, (iterR l s (k + 1)).testBit j = true ↔ (iterR l s k).testBit j = true ∨ (stepS l (edgeR l s k)).testBit j = true) := by
    intro k h1 h2 j
    rw [iterR, stepR_bit, stepS_bit]
    constructor
    · rintro (h | ⟨i, hi, h3, h4⟩)
      · exact .inl h
      · cases he : (edgeR l s k).testBit i with
        | true => exact .inr ⟨i, hi, he, h4⟩
        | false => exact .inl (h2 i j h3 he h4)
    · rintro (h | ⟨i, hi, h3, h4⟩)
      · exact .inl h
      · exact .inr ⟨i, hi, h1 i h3, h4⟩
  induction k with
  | zero =>
    have a1 : ∀ j, (edgeR l s 0).testBit j = true → (iterR l s 0).testBit j = true := fun j h => h
    have a2 : ∀ i j, (iterR l s 0).testBit i = true → (edgeR l s 0).testBit i = false → (rowAt l i).testBit j = true → (iterR l s 0).testBit j = true := fun i j h1 h2 _ => by
      have : (edgeR l s 0).testBit i = true := h1
      rw [this] at h2; cases h2
    exact ⟨a1, a2, next 0 a1 a2⟩
  | succ k ih =>
    obtain ⟨b1, b2, b3⟩ := ih
    have hm : ∀ j, (edgeR l s (k + 1)).testBit j = ((stepS l (edgeR l s k)).testBit j && !(iterR l s k).testBit j) := fun j => minus_bit (stepS_b64 hg.b64) (hb k) j
    have a1 : ∀ j, (edgeR l s (k + 1)).testBit j = true → (iterR l s (k + 1)).testBit j = true := fun j h => by
      rw [hm, Bool.and_eq_true] at h
      exact (b3 j).2 (.inr h.1)
    have a2 : ∀ i j, (iterR l s (k + 1)).testBit i = true → (edgeR l s (k + 1)).testBit i = false → (rowAt l i).testBit j = true → (iterR l s (k + 1)).testBit j = true := fun i j h1 h2 h3 => by
      have hik : (iterR l s k).testBit i = true := by
        cases h4 : (iterR l s k).testBit i with
        | true => rfl
        | false =>
          rw [hm, h4] at h2
          rcases (b3 i).1 h1 with h5 | h5
          · rw [h4] at h5; cases h5
          · rw [h5] at h2; cases h2
      rcases Nat.lt_or_ge i l.length with hi | hi
      · exact (stepR_bit l _ j).2 (.inr ⟨i, hi, hik, h3⟩)
      · rw [rowAt_ge hi] at h3; simp at h3
    exact ⟨a1, a2, next (k + 1) a1 a2⟩
/-- The program's next set. -/
theorem edge_next {l : List Nat} (hg : Good l) {s : Nat} (hs : InRows l s) (k : Nat) : iterR l s k ||| edgeR l s (k + 1) = iterR l s (k + 1) := by
  have hm : ∀ j, (edgeR l s (k + 1)).testBit j = ((stepS l (edgeR l s k)).testBit j && !(iterR l s k).testBit j) := fun j => minus_bit (stepS_b64 hg.b64) ((iterR_in hg hs k).b64 hg) j
  apply set_ext
  intro j
  rw [Bool.eq_iff_iff, Nat.testBit_or, hm, (edge_key hg hs k).2.2 j]
  cases (iterR l s k).testBit j <;> simp
theorem edge_in {l : List Nat} (hg : Good l) {s : Nat} (hs : InRows l s) (k : Nat) : InRows l (edgeR l s k) := fun j hj => iterR_in hg hs k j ((edge_key hg hs k).1 j hj)
theorem edge_zero {l : List Nat} (hg : Good l) {s : Nat} (hs : InRows l s) {k : Nat} (h : edgeR l s k = 0) : iterR l s (k + 1) = iterR l s k := by
  apply set_ext
  intro j
  rw [Bool.eq_iff_iff, (edge_key hg hs k).2.2 j, h, stepS_bit]
  simp
theorem edge_grows {l : List Nat} (hg : Good l) {s : Nat} (hs : InRows l s) {k : Nat} (h : edgeR l s (k + 1) ≠ 0) : (nums (iterR l s k)).length + 1 ≤ (nums (iterR l s (k + 1))).length := by
  apply iterR_grows hg hs
  intro he
  apply h
  have hn := edge_next hg hs k
  rw [he] at hn
  have hm : ∀ j, (edgeR l s (k + 1)).testBit j = ((stepS l (edgeR l s k)).testBit j && !(iterR l s k).testBit j) := fun j => minus_bit (stepS_b64 hg.b64) ((iterR_in hg hs k).b64 hg) j
  apply set_ext
  intro j
  have h1 := congrArg (fun x => x.testBit j) hn
  simp only [Nat.testBit_or] at h1
  have h2 := hm j
  cases h3 : (iterR l s k).testBit j with
  | true => rw [h3] at h2; rw [h2]; simp
  | false => rw [h3] at h1; simpa using h1

/-! ### Rows turned -/
/-- Which of the rows below k have the number c. -/
def colUp (l : List Nat) (c : Nat) : Nat → Nat
  | 0 => 0
  | k + 1 => if (rowAt l k).testBit c then addN (colUp l c k) k else colUp l c k
theorem colUp_bit (l : List Nat) (c k i : Nat) : (colUp l c k).testBit i = (decide (i < k) && (rowAt l i).testBit c) := by
  induction k with
  | zero => simp [colUp]
  | succ k ih =>
    unfold colUp
    split
    · rename_i h
      unfold addN
      rw [or_bit, ih]
      by_cases hi : k = i
      · subst hi; simp [h]
      · have : (i < k + 1) = (i < k) := by apply propext; omega
        simp [hi, this]
    · rename_i h
      rw [ih]
      by_cases hi : i = k
      · subst hi
        have : (rowAt l i).testBit c = false := by simpa using h
        simp [this]
      · have : (i < k + 1) = (i < k) := by apply propext; omega
        simp [this]
theorem colUp_b64 (l : List Nat) (c k : Nat) (hk : k ≤ 64) : B64 (colUp l c k) := B64.of_bits fun i hi => by
  rw [colUp_bit] at hi; simp at hi; omega
def turned (l : List Nat) : List Nat := (List.range l.length).map fun c => colUp l c l.length
theorem turned_len (l : List Nat) : (turned l).length = l.length := by unfold turned; simp
theorem rowAt_turned (l : List Nat) (c : Nat) (hc : c < l.length) : rowAt (turned l) c = colUp l c l.length := by
  unfold rowAt turned; simp [hc]
theorem turned_good {l : List Nat} (h : Good l) : Good (turned l) := by
  refine ⟨by rw [turned_len]; exact h.1, fun i j hij => ?_⟩
  rw [turned_len]
  rcases Nat.lt_or_ge i l.length with hi | hi
  · rw [rowAt_turned l i hi, colUp_bit] at hij
    simp at hij
    exact hij.1
  · rw [rowAt_ge (by rw [turned_len]; exact hi)] at hij; simp at hij
end Go.Proofs.Ytoandhhkmkgmaaa
/- Contracts: SetOf, Next, Nth, Rank, List and Numbers. Sets are below 2^64; lists are shorter than 2^63; the table of math/bits lies. -/
namespace Go.Proofs.Ytoandhhkmkgmaaa
open Go.RowKit

/-- Next: the numbers from n on. -/
def fromS (s : Nat) (n : Int) : Nat := if 64 ≤ n then 0 else minus s (upTo (max n 0).toNat)
theorem fromS_b64 {s : Nat} {n : Int} (hs : B64 s) : B64 (fromS s n) := by
  unfold fromS; split
  · exact B64.zero
  · exact minus_b64 hs
theorem fromS_bit {s : Nat} {n : Int} (hs : B64 s) (i : Nat) : (fromS s n).testBit i = (s.testBit i && decide (n ≤ i)) := by
  unfold fromS
  split
  · rename_i h
    cases hb : s.testBit i with
    | false => simp
    | true =>
      have := hs.bit hb
      simp
      omega
  · rename_i h
    rw [minus_bit hs (upTo_b64 (by omega)), upTo_bit]
    congr 1
    rw [Bool.eq_iff_iff]
    simp
    omega
theorem minus_raw (s t : Nat) (hs : B64 s) (ht : B64 t) : bits .andNot .u64 (s : Int) (t : Int) = (minus s t : Nat) := u64_andNot_nat s t hs ht
theorem max_raw (n : Int) : (if n < 0 then (0 : Int) else n) = max n 0 := by omega
/-- What Next does ahead of its answer, at the two kinds of start. -/
theorem fromS_lo {s : Nat} {n : Int} (h : n < 0) : fromS s n = minus s (upTo 0) := by
  unfold fromS
  rw [if_neg (by omega)]
  congr 2
  omega
theorem fromS_mid {s n : Nat} (h : n < 64) : fromS s (n : Int) = minus s (upTo n) := by
  unfold fromS
  rw [if_neg (by omega)]
  congr 2
  omega
/-- Rank: how many numbers stand below n. -/
def rankS (s : Nat) (n : Int) : Nat := (nums (s &&& upTo (min (max n 0) 64).toNat)).length
/-- Nth: the numbers of s from the j-th on. -/
def dropS (s : Nat) : Nat → Nat
  | 0 => s
  | j + 1 => drop1 (dropS s j)
theorem dropS_b64 {s : Nat} (h : B64 s) (j : Nat) : B64 (dropS s j) := by
  induction j with
  | zero => exact h
  | succ j ih => exact drop1_b64 ih
theorem dropS_nums {s : Nat} (h : B64 s) (j : Nat) (hj : j ≤ (nums s).length) : nums (dropS s j) = (nums s).drop j := by
  induction j with
  | zero => rfl
  | succ j ih =>
    have ih := ih (by omega)
    have h0 : dropS s j ≠ 0 := fun h0 => by
      rw [h0, nums_zero] at ih
      have := congrArg List.length ih
      simp at this
      omega
    have := nums_step (dropS_b64 h j) h0
    rw [ih] at this
    have h2 := congrArg List.tail this
    rw [List.tail_drop, List.tail_cons] at h2
    exact h2.symm
theorem dropS_ne {s : Nat} (h : B64 s) {j : Nat} (hj : j < (nums s).length) : dropS s j ≠ 0 := fun h0 => by
  have := dropS_nums h j (by omega)
  rw [h0, nums_zero] at this
  have := congrArg List.length this
  simp at this
  omega
theorem dropS_low {s : Nat} (h : B64 s) {j : Nat} (hj : j < (nums s).length) : low (dropS s j) = (nums s)[j]?.getD 0 := by
  have h1 := nums_step (dropS_b64 h j) (dropS_ne h hj)
  rw [dropS_nums h j (by omega)] at h1
  have := congrArg List.head? h1
  rw [List.head?_drop] at this
  simp [hj] at this
  simp [hj, this]
theorem drop1_raw (s : Nat) (h : B64 s) (h0 : s ≠ 0) : bits .and .u64 (s : Int) (IntKind.u64.wrap ((s : Int) - 1)) = (drop1 s : Nat) := by
  have h' : s < 18446744073709551616 := h
  have e : (s : Int) - 1 = ((s - 1 : Nat) : Int) := by omega
  rw [e, wrap_u _ (by omega), u64_and_nat s _ h' (by omega)]
  rfl
end Go.Proofs.Ytoandhhkmkgmaaa
/- Order of rows, plain: one by one the least number of what is left whose row meets what is left nowhere. -/
namespace Go.Proofs.Ytoandhhkmkgmaaa

/-- The least number of s whose row meets s nowhere. -/
def pickO (l : List Nat) (s : Nat) : Option Nat := (nums s).find? fun i => decide (rowAt l i &&& s = 0)
theorem pickO_some {l : List Nat} {s i : Nat} (h : pickO l s = some i) (hs : B64 s) : s.testBit i = true ∧ rowAt l i &&& s = 0 := by
  have h1 := List.find?_some h
  have h2 := List.mem_of_find?_eq_some h
  exact ⟨(mem_nums hs).1 h2, of_decide_eq_true h1⟩
theorem pickO_none {l : List Nat} {s : Nat} (hs : B64 s) : pickO l s = none ↔ ∀ j, s.testBit j = true → rowAt l j &&& s ≠ 0 := by
  unfold pickO
  rw [List.find?_eq_none]
  constructor
  · intro h j hj h0
    exact h j ((mem_nums hs).2 hj) (decide_eq_true h0)
  · intro h j hj h0
    exact h j ((mem_nums hs).1 hj) (of_decide_eq_true h0)
theorem find_first {p : Nat → Bool} : ∀ {L : List Nat}, L.Pairwise (· < ·) → ∀ {i : Nat}, i ∈ L → p i = true → (∀ j ∈ L, j < i → p j = false) → L.find? p = some i
  | [], _, _, hm, _, _ => by cases hm
  | x :: L, hp, i, hm, hpi, hlt => by
    rw [List.pairwise_cons] at hp
    rw [List.find?_cons]
    rcases List.mem_cons.1 hm with rfl | hm'
    · rw [hpi]
    · have := hlt x (by simp) (hp.1 i hm')
      rw [this]
      exact find_first hp.2 hm' hpi (fun j hj hji => hlt j (by simp [hj]) hji)
theorem pickO_first {l : List Nat} {s i : Nat} (hs : B64 s) (hi : s.testBit i = true) (h0 : rowAt l i &&& s = 0) (hlt : ∀ j, j < i → s.testBit j = true → rowAt l j &&& s ≠ 0) : pickO l s = some i :=
  find_first (nums_sorted s) ((mem_nums hs).2 hi) (decide_eq_true h0) (fun j hj hji => decide_eq_false (hlt j hji ((mem_nums hs).1 hj)))

/-- A set without a number. -/
def drop (s i : Nat) : Nat := minus s (2 ^ i)
theorem drop_bit {s i : Nat} (hs : B64 s) (hi : i < 64) (j : Nat) : (drop s i).testBit j = (s.testBit j && decide (j ≠ i)) := by
  unfold drop
  rw [minus_bit hs (B64.two hi), Nat.testBit_two_pow]
  by_cases h : i = j
  · subst h; simp
  · have h' : j ≠ i := fun e => h e.symm
    simp [h, h']
theorem drop_b64 {s i : Nat} (hs : B64 s) : B64 (drop s i) := minus_b64 hs
theorem drop_len {s i : Nat} (hs : B64 s) (hi : s.testBit i = true) : (nums s).length = (nums (drop s i)).length + 1 := by
  unfold nums
  exact count_one (i := i) hi (by rw [drop_bit hs (hs.bit hi)]; simp) (fun j hj => by rw [drop_bit hs (hs.bit hi)]; simp [hj]) (List.range 64) (List.mem_range.2 (hs.bit hi)) List.nodup_range

/-- One number more, if there is one. -/
def ordStep (l : List Nat) (st : List Nat × Nat) : List Nat × Nat := match pickO l st.2 with
  | none => st
  | some i => (st.1 ++ [i], drop st.2 i)
def ordI (l : List Nat) : Nat → List Nat × Nat
  | 0 => ([], upTo l.length)
  | k + 1 => ordStep l (ordI l k)
theorem ordStep_some {l : List Nat} {st : List Nat × Nat} {i : Nat} (h : pickO l st.2 = some i) : ordStep l st = (st.1 ++ [i], drop st.2 i) := by unfold ordStep; rw [h]
theorem ordStep_none {l : List Nat} {st : List Nat × Nat} (h : pickO l st.2 = none) : ordStep l st = st := by unfold ordStep; rw [h]

theorem nums_upTo {n : Nat} (h : n ≤ 64) : nums (upTo n) = List.range n := by
  unfold nums
  have e : (64 : Nat) = n + (64 - n) := by omega
  rw [e, List.range_add, List.filter_append, List.filter_eq_self.2, List.filter_eq_nil_iff.2, List.append_nil]
  · intro a ha
    obtain ⟨x, _, rfl⟩ := List.mem_map.1 ha
    simp [upTo_bit]
  · intro a ha
    simpa [upTo_bit] using ha
/-- What holds of each state. -/
structure OrdInv (l : List Nat) (st : List Nat × Nat) : Prop where
  sub : ∀ j, st.2.testBit j = true → j < l.length
  mem : ∀ j, j ∈ st.1 ↔ j < l.length ∧ st.2.testBit j = false
  nodup : st.1.Nodup
  len : st.1.length + (nums st.2).length = l.length
  /-- the row of each one that is done lies in those that were done ahead of it -/
  before : ∀ p i, st.1[p]? = some i → ∀ j, (rowAt l i).testBit j = true → j ∈ st.1.take p
theorem ordInv_zero {l : List Nat} (hn : l.length ≤ 64) : OrdInv l ([], upTo l.length) := by
  refine ⟨fun j hj => by simpa [upTo_bit] using hj, fun j => by simp [upTo_bit], by simp, ?_, fun p i h => by simp at h⟩
  show 0 + (nums (upTo l.length)).length = _
  rw [Nat.zero_add, nums_upTo hn, List.length_range]
theorem OrdInv.b64 {l : List Nat} (hn : l.length ≤ 64) {st : List Nat × Nat} (h : OrdInv l st) : B64 st.2 := B64.of_bits fun j hj => Nat.lt_of_lt_of_le (h.sub j hj) hn
theorem ordInv_step {l : List Nat} (hg : Good l) {st : List Nat × Nat} (h : OrdInv l st) : OrdInv l (ordStep l st) := by
  have hb := h.b64 hg.1
  cases hp : pickO l st.2 with
  | none => rw [ordStep_none hp]; exact h
  | some i =>
    rw [ordStep_some hp]
    obtain ⟨h1, h2⟩ := pickO_some hp hb
    have hi := hb.bit h1
    refine ⟨fun j hj => ?_, fun j => ?_, ?_, ?_, fun p x hx j hj => ?_⟩
    · rw [drop_bit hb hi] at hj
      exact h.sub j (by simp at hj; exact hj.1)
    · show j ∈ st.1 ++ [i] ↔ j < l.length ∧ (drop st.2 i).testBit j = false
      rw [List.mem_append, List.mem_singleton, h.mem j, drop_bit hb hi]
      by_cases hji : j = i
      · subst hji
        simp [h.sub j h1]
      · simp [hji]
    · show (st.1 ++ [i]).Nodup
      rw [List.nodup_append]
      refine ⟨h.nodup, by simp, fun a ha b hb' => ?_⟩
      rw [List.mem_singleton] at hb'
      subst hb'
      intro e
      subst e
      have := ((h.mem a).1 ha).2
      rw [h1] at this
      cases this
    · show (st.1 ++ [i]).length + (nums (drop st.2 i)).length = _
      have := drop_len hb h1
      have := h.len
      simp
      omega
    · have hx' : (st.1 ++ [i])[p]? = some x := hx
      show j ∈ (st.1 ++ [i]).take p
      rcases Nat.lt_trichotomy p st.1.length with hlt | heq | hgt
      · rw [List.getElem?_append_left hlt] at hx'
        rw [List.take_append_of_le_length (by omega)]
        exact h.before p x hx' j hj
      · subst heq
        rw [List.getElem?_append_right (Nat.le_refl _)] at hx'
        simp at hx'
        subst hx'
        rw [List.take_append_of_le_length (Nat.le_refl _), List.take_length, h.mem j]
        refine ⟨hg.2 i j hj, ?_⟩
        cases hs : st.2.testBit j with
        | false => rfl
        | true =>
          have : (rowAt l i &&& st.2).testBit j = true := by rw [Nat.testBit_and, hj, hs]; rfl
          rw [h2] at this
          simp at this
      · rw [List.getElem?_append_right (by omega)] at hx'
        have : 1 ≤ p - st.1.length := by omega
        rw [List.getElem?_eq_none (by simpa using this)] at hx'
        cases hx'
theorem ordI_inv {l : List Nat} (hg : Good l) (k : Nat) : OrdInv l (ordI l k) := by
  induction k with
  | zero => exact ordInv_zero hg.1
  | succ k ih => exact ordInv_step hg ih
theorem ordI_stop {l : List Nat} {k : Nat} (h : pickO l (ordI l k).2 = none) (m : Nat) (hm : k ≤ m) : ordI l m = ordI l k := by
  induction m with
  | zero =>
    obtain rfl : k = 0 := by omega
    rfl
  | succ m ih =>
    by_cases hk : k = m + 1
    · rw [hk]
    · show ordStep l (ordI l m) = _
      rw [ih (by omega)]
      exact ordStep_none h
/-- After so many steps so many are done, or it has stopped. -/
theorem ordI_len {l : List Nat} (k : Nat) : (ordI l k).1.length = k ∨ pickO l (ordI l k).2 = none := by
  induction k with
  | zero => exact .inl rfl
  | succ k ih =>
    show (ordStep l (ordI l k)).1.length = k + 1 ∨ pickO l (ordStep l (ordI l k)).2 = none
    cases hp : pickO l (ordI l k).2 with
    | none => exact .inr (by rw [ordStep_none hp]; exact hp)
    | some i =>
      rcases ih with h | h
      · exact .inl (by rw [ordStep_some hp]; simp [h])
      · rw [hp] at h; cases h
/-- The order, and those that are left. -/
def ordL (l : List Nat) : List Nat := (ordI l l.length).1
def ordR (l : List Nat) : Nat := (ordI l l.length).2
theorem ordL_inv {l : List Nat} (hg : Good l) : OrdInv l (ordL l, ordR l) := ordI_inv hg l.length
theorem ord_end {l : List Nat} (hg : Good l) : pickO l (ordR l) = none := by
  rcases ordI_len (l := l) l.length with h | h
  · have hi := ordI_inv hg l.length
    have hz : (nums (ordI l l.length).2).length = 0 := by have := hi.len; omega
    have hz' : ordR l = 0 := by
      apply Classical.byContradiction
      intro h0
      exact nums_ne (hi.b64 hg.1) h0 (List.eq_nil_of_length_eq_zero hz)
    rw [hz']
    unfold pickO
    rw [nums_zero]
    rfl
  · exact h
theorem ord_stop {l : List Nat} {k : Nat} (h : pickO l (ordI l k).2 = none) (hk : k ≤ l.length) : (ordI l k).1 = ordL l ∧ (ordI l k).2 = ordR l := by
  unfold ordL ordR
  rw [ordI_stop h l.length hk]
  exact ⟨rfl, rfl⟩
theorem ord_full {l : List Nat} (hg : Good l) : (ordL l).length = l.length ↔ ordR l = 0 := by
  have hi := ordL_inv hg
  have hb := hi.b64 hg.1
  have hl : (ordL l).length + (nums (ordR l)).length = l.length := hi.len
  constructor
  · intro h
    apply Classical.byContradiction
    intro h0
    have h2 : (nums (ordR l)).length = 0 := by omega
    exact nums_ne hb h0 (List.eq_nil_of_length_eq_zero h2)
  · intro h
    rw [h, nums_zero] at hl
    simpa using hl
theorem ord_len {l : List Nat} (hg : Good l) : (ordL l).length ≤ l.length := by
  have hl : (ordL l).length + (nums (ordR l)).length = l.length := (ordL_inv hg).len
  omega
end Go.Proofs.Ytoandhhkmkgmaaa
/- Levels of rows without a knot, plain. -/
namespace Go.Proofs.Ytoandhhkmkgmaaa

/-- One more than the greatest of g over a list, from m on. -/
def upOver (g : Nat → Nat) (m : Nat) (L : List Nat) : Nat := L.foldl (fun a k => max a (g k + 1)) m
theorem upOver_snoc (g : Nat → Nat) (m : Nat) (L : List Nat) (k : Nat) : upOver g m (L ++ [k]) = max (upOver g m L) (g k + 1) := by unfold upOver; rw [List.foldl_append]; rfl
theorem upOver_start (g : Nat → Nat) : ∀ (L : List Nat) (m : Nat), m ≤ upOver g m L
  | [], _ => Nat.le_refl _
  | k :: L, m => Nat.le_trans (Nat.le_max_left _ _) (upOver_start g L (max m (g k + 1)))
theorem upOver_mem (g : Nat → Nat) : ∀ (L : List Nat) (m k : Nat), k ∈ L → g k + 1 ≤ upOver g m L
  | [], _, _, h => by cases h
  | x :: L, m, k, h => by
    rcases List.mem_cons.1 h with rfl | h
    · exact Nat.le_trans (Nat.le_max_right _ _) (upOver_start g L _)
    · exact upOver_mem g L _ k h
theorem upOver_le (g : Nat → Nat) (B : Nat) : ∀ (L : List Nat) (m : Nat), m ≤ B → (∀ k ∈ L, g k + 1 ≤ B) → upOver g m L ≤ B
  | [], _, h, _ => h
  | x :: L, m, h, hL => upOver_le g B L _ (Nat.max_le.2 ⟨h, hL x (by simp)⟩) (fun k hk => hL k (by simp [hk]))
theorem upOver_congr (g g' : Nat → Nat) : ∀ (L : List Nat) (m : Nat), (∀ k ∈ L, g k = g' k) → upOver g m L = upOver g' m L
  | [], _, _ => rfl
  | x :: L, m, h => by
    unfold upOver
    rw [List.foldl_cons, List.foldl_cons, h x (by simp)]
    exact upOver_congr g g' L _ (fun k hk => h k (by simp [hk]))
/-- The longest way down from a number, of at most so many steps. -/
def lvl (l : List Nat) : Nat → Nat → Nat
  | 0, _ => 0
  | f + 1, i => upOver (lvl l f) 0 (nums (rowAt l i))
theorem lvl_up (l : List Nat) (f : Nat) : ∀ i, lvl l f i ≤ lvl l (f + 1) i := by
  induction f with
  | zero => intro i; exact Nat.zero_le _
  | succ f ih => exact fun i => upOver_le _ _ _ _ (Nat.zero_le _) (fun k hk => Nat.le_trans (Nat.succ_le_succ (ih k)) (upOver_mem (lvl l (f + 1)) _ 0 k hk))
theorem lvl_len (l : List Nat) (f : Nat) : ∀ i, lvl l f i ≤ f := by
  induction f with
  | zero => intro i; exact Nat.le_refl _
  | succ f ih => exact fun i => upOver_le _ _ _ _ (Nat.zero_le _) (fun k _ => Nat.succ_le_succ (ih k))
/-- Where the order goes through, the steps do not matter from some number on. -/
theorem lvl_stable {l : List Nat} (hg : Good l) : ∀ p i, (ordL l)[p]? = some i → ∀ f g, p ≤ f → p ≤ g → lvl l f i = lvl l g i := by
  intro p
  induction p using Nat.strongRecOn with
  | _ p ih =>
    intro i hi f g hf hgp
    have hrow : ∀ k ∈ nums (rowAt l i), ∃ q, q < p ∧ (ordL l)[q]? = some k := fun k hk => by
      have := (ordL_inv hg).before p i hi k ((mem_nums (hg.b64 i)).1 hk)
      obtain ⟨q, hq, hq2⟩ := List.mem_take_iff_getElem.1 this
      have hq' : q < min p (ordL l).length := hq
      exact ⟨q, by omega, by rw [List.getElem?_eq_getElem (show q < (ordL l).length by omega)]; exact congrArg some hq2⟩
    have hz : p = 0 → nums (rowAt l i) = [] := fun hp => by
      apply List.eq_nil_iff_forall_not_mem.2
      intro k hk
      obtain ⟨q, hq, _⟩ := hrow k hk
      omega
    cases f with
    | zero =>
      have hp : p = 0 := by omega
      cases g with
      | zero => rfl
      | succ g =>
        show 0 = upOver (lvl l g) 0 (nums (rowAt l i))
        rw [hz hp]; rfl
    | succ f =>
      cases g with
      | zero =>
        show upOver (lvl l f) 0 (nums (rowAt l i)) = 0
        rw [hz (by omega)]; rfl
      | succ g =>
        exact upOver_congr _ _ _ _ (fun k hk => by
          obtain ⟨q, hq, hq2⟩ := hrow k hk
          exact ih q hq k hq2 f g (by omega) (by omega))
theorem ord_mem {l : List Nat} (hg : Good l) (hr : ordR l = 0) (i : Nat) : i ∈ ordL l ↔ i < l.length := by
  have := (ordL_inv hg).mem i
  rw [show (ordL l, ordR l).1 = ordL l from rfl, show (ordL l, ordR l).2 = ordR l from rfl, hr] at this
  simpa using this
theorem ord_nodup {l : List Nat} (hg : Good l) : (ordL l).Nodup := (ordL_inv hg).nodup
theorem ord_before {l : List Nat} (hg : Good l) {p i j : Nat} (h : (ordL l)[p]? = some i) (hj : (rowAt l i).testBit j = true) : j ∈ (ordL l).take p := (ordL_inv hg).before p i h j hj
/-- The level. -/
def lvlN (l : List Nat) (i : Nat) : Nat := lvl l l.length i
theorem lvlN_eq {l : List Nat} (hg : Good l) (hr : ordR l = 0) {i : Nat} (hi : i < l.length) : lvlN l i = upOver (lvlN l) 0 (nums (rowAt l i)) := by
  obtain ⟨p, hp, hpi⟩ := List.mem_iff_getElem.1 ((ord_mem hg hr i).2 hi)
  have hlen := ord_len hg
  have := lvl_stable hg p i (by rw [List.getElem?_eq_getElem hp, hpi]) l.length (l.length + 1) (by omega) (by omega)
  exact this

/-! ### Levels, in order -/
def levO (l : List Nat) (t x : Nat) : Nat := if x ∈ (ordL l).take t then lvlN l x else 0
def levP (l : List Nat) (t i : Nat) (done : List Nat) (x : Nat) : Nat := if x = i then upOver (lvlN l) 0 done else levO l t x
theorem levP_nil {l : List Nat} (hg : Good l) {t i : Nat} (hi : (ordL l)[t]? = some i) (x : Nat) : levP l t i [] x = levO l t x := by
  unfold levP
  split
  · rename_i h
    subst h
    unfold levO
    rw [if_neg]
    · rfl
    · intro hm
      obtain ⟨q, hq, hq2⟩ := List.mem_take_iff_getElem.1 hm
      obtain ⟨ht, hi'⟩ := List.getElem?_eq_some_iff.1 hi
      have := (List.getElem_inj (ord_nodup hg) (h₀ := by omega) (h₁ := ht)).1 (hq2.trans hi'.symm)
      omega
  · rfl
theorem levP_set (l : List Nat) (t i : Nat) (done : List Nat) (k x : Nat) : (if x = i then max (upOver (lvlN l) 0 done) (lvlN l k + 1) else levP l t i done x) = levP l t i (done ++ [k]) x := by
  unfold levP
  rw [upOver_snoc]
  by_cases h : x = i <;> simp [h]
theorem levP_other {l : List Nat} (hg : Good l) {t i k : Nat} (hi : (ordL l)[t]? = some i) (done : List Nat) (hk : (rowAt l i).testBit k = true) : levP l t i done k = lvlN l k := by
  have hm := ord_before hg hi hk
  have hne : k ≠ i := fun e => by
    subst e
    obtain ⟨q, hq, hq2⟩ := List.mem_take_iff_getElem.1 hm
    obtain ⟨ht, hi'⟩ := List.getElem?_eq_some_iff.1 hi
    have := (List.getElem_inj (ord_nodup hg) (h₀ := by omega) (h₁ := ht)).1 (hq2.trans hi'.symm)
    omega
  unfold levP levO
  rw [if_neg hne, if_pos hm]
theorem levP_end {l : List Nat} (hg : Good l) (hr : ordR l = 0) {t i : Nat} (hi : (ordL l)[t]? = some i) (x : Nat) : levP l t i (nums (rowAt l i)) x = levO l (t + 1) x := by
  obtain ⟨ht, hi'⟩ := List.getElem?_eq_some_iff.1 hi
  have hil : i < l.length := (ord_mem hg hr i).1 (by rw [← hi']; exact List.getElem_mem ht)
  unfold levP
  rw [← lvlN_eq hg hr hil]
  unfold levO
  rw [List.take_add_one, hi]
  by_cases hx : x = i
  · subst hx; simp
  · simp [hx]
theorem levO_end {l : List Nat} (hg : Good l) (hr : ordR l = 0) {x : Nat} (hx : x < l.length) : levO l l.length x = lvlN l x := by
  unfold levO
  rw [if_pos]
  rw [List.take_of_length_le (ord_len hg)]
  exact (ord_mem hg hr x).2 hx

/-! ### Levels, round by round -/
/-- What holds behind t rounds, and of the next one i numbers. -/
def LevIn (l : List Nat) (t i : Nat) (f : Nat → Nat) : Prop := ∀ x, x < l.length → f x ≤ lvlN l x ∧ lvl l t x ≤ f x ∧ (x < i → lvl l (t + 1) x ≤ f x)
theorem levIn_start (l : List Nat) : LevIn l 0 0 (fun _ => 0) := fun x _ => ⟨Nat.zero_le _, Nat.le_refl _, fun h => by omega⟩
theorem levIn_round {l : List Nat} {t : Nat} {f : Nat → Nat} (h : LevIn l t l.length f) : LevIn l (t + 1) 0 f := fun x hx => ⟨(h x hx).1, (h x hx).2.2 hx, fun h => by omega⟩
theorem levIn_end {l : List Nat} {f : Nat → Nat} (h : LevIn l l.length 0 f) {x : Nat} (hx : x < l.length) : f x = lvlN l x := Nat.le_antisymm (h x hx).1 (h x hx).2.1
/-- While of i's row some have been looked at. -/
def LevAt (l : List Nat) (t i : Nat) (done : List Nat) (f : Nat → Nat) : Prop := LevIn l t i f ∧ ∀ k ∈ done, lvl l t k + 1 ≤ f i
theorem levAt_nil {l : List Nat} {t i : Nat} {f : Nat → Nat} (h : LevIn l t i f) : LevAt l t i [] f := ⟨h, fun k hk => by cases hk⟩
theorem levAt_step {l : List Nat} (hg : Good l) (hr : ordR l = 0) {t i k : Nat} {done : List Nat} {f : Nat → Nat} (hi : i < l.length) (h : LevAt l t i done f) (hk : (rowAt l i).testBit k = true) :
    LevAt l t i (done ++ [k]) (fun x => if x = i then max (f i) (f k + 1) else f x) := by
  have hkl := hg.2 i k hk
  have hkm : k ∈ nums (rowAt l i) := (mem_nums (hg.b64 i)).2 hk
  have htop : f k + 1 ≤ lvlN l i := by
    rw [lvlN_eq hg hr hi]
    exact Nat.le_trans (Nat.succ_le_succ (h.1 k hkl).1) (upOver_mem (lvlN l) _ 0 k hkm)
  refine ⟨fun x hx => ?_, fun q hq => ?_⟩
  · by_cases hxi : x = i
    · subst hxi
      simp only [if_pos]
      have := h.1 x hi
      exact ⟨Nat.max_le.2 ⟨this.1, htop⟩, Nat.le_trans this.2.1 (Nat.le_max_left _ _), fun hlt => by omega⟩
    · simp only [if_neg hxi]
      exact h.1 x hx
  · show lvl l t q + 1 ≤ if i = i then max (f i) (f k + 1) else f i
    rw [if_pos rfl]
    rcases List.mem_append.1 hq with hq | hq
    · exact Nat.le_trans (h.2 q hq) (Nat.le_max_left _ _)
    · rw [List.mem_singleton] at hq
      subst hq
      exact Nat.le_trans (Nat.succ_le_succ (h.1 q hkl).2.1) (Nat.le_max_right _ _)
theorem levAt_done {l : List Nat} {t i : Nat} {f : Nat → Nat} (h : LevAt l t i (nums (rowAt l i)) f) : LevIn l t (i + 1) f := fun x hx => ⟨(h.1 x hx).1, (h.1 x hx).2.1, fun hlt => by
  by_cases hxi : x = i
  · subst hxi
    exact upOver_le _ _ _ _ (Nat.zero_le _) h.2
  · exact (h.1 x hx).2.2 (by omega)⟩
end Go.Proofs.Ytoandhhkmkgmaaa
/- Pairing of numbers with those below, plain: what find does as a relation; it is a function; what it keeps; those that cannot be paired. -/
namespace Go.Proofs.Ytoandhhkmkgmaaa

/-- A pairing so far: who stands behind, who ahead (-1: none); who has been seen. -/
structure PSt where
  nx : Nat → Int
  ah : Nat → Int
  seen : Nat
def setF (f : Nat → Int) (i : Nat) (v : Int) : Nat → Int := fun x => if x = i then v else f x
theorem setF_self (f : Nat → Int) (i : Nat) (v : Int) : setF f i v i = v := by unfold setF; simp
theorem setF_other {f : Nat → Int} {i x : Nat} {v : Int} (h : x ≠ i) : setF f i v x = f x := by unfold setF; simp [h]
/-- What is left to see of a row. -/
def toSee (R : List Nat) (i s : Nat) : Nat := minus (rowAt R i) s
/-- What find does. -/
inductive Find (R : List Nat) : Nat → PSt → Bool → PSt → Prop
  | done {i : Nat} {st : PSt} : toSee R i st.seen = 0 → Find R i st false st
  | free {i : Nat} {st : PSt} : toSee R i st.seen ≠ 0 → st.ah (low (toSee R i st.seen)) < 0 →
      Find R i st true ⟨setF st.nx i (low (toSee R i st.seen) : Nat), setF st.ah (low (toSee R i st.seen)) (i : Nat), addN st.seen (low (toSee R i st.seen))⟩
  | via {i j : Nat} {st st1 : PSt} : toSee R i st.seen ≠ 0 → st.ah (low (toSee R i st.seen)) = (j : Int) → Find R j ⟨st.nx, st.ah, addN st.seen (low (toSee R i st.seen))⟩ true st1 →
      Find R i st true ⟨setF st1.nx i (low (toSee R i st.seen) : Nat), setF st1.ah (low (toSee R i st.seen)) (i : Nat), st1.seen⟩
  | skip {i j : Nat} {st st1 st2 : PSt} {b : Bool} : toSee R i st.seen ≠ 0 → st.ah (low (toSee R i st.seen)) = (j : Int) → Find R j ⟨st.nx, st.ah, addN st.seen (low (toSee R i st.seen))⟩ false st1 →
      Find R i st1 b st2 → Find R i st b st2
theorem find_det {R : List Nat} {i : Nat} {st st1 : PSt} {b : Bool} (h : Find R i st b st1) : ∀ {b' : Bool} {st2 : PSt}, Find R i st b' st2 → b = b' ∧ st1 = st2 := by
  induction h with
  | done h =>
    intro b' st2 h'
    cases h' with
    | done _ => exact ⟨rfl, rfl⟩
    | free h2 _ => exact absurd h h2
    | via h2 _ _ => exact absurd h h2
    | skip h2 _ _ _ => exact absurd h h2
  | free h0 h1 =>
    intro b' st2 h'
    cases h' with
    | done h2 => exact absurd h2 h0
    | free _ _ => exact ⟨rfl, rfl⟩
    | via _ h3 _ => rw [h3] at h1; omega
    | skip _ h3 _ _ => rw [h3] at h1; omega
  | via h0 h1 _ ih =>
    intro b' st2 h'
    cases h' with
    | done h2 => exact absurd h2 h0
    | free _ h3 => rw [h1] at h3; omega
    | via _ h3 h4 =>
      rw [h1] at h3
      have h3' := Int.ofNat.inj h3
      subst h3'
      obtain ⟨_, rfl⟩ := ih h4
      exact ⟨rfl, rfl⟩
    | skip _ h3 h4 _ =>
      rw [h1] at h3
      have h3' := Int.ofNat.inj h3
      subst h3'
      have := (ih h4).1
      cases this
  | skip h0 h1 _ _ ih ih2 =>
    intro b' st2 h'
    cases h' with
    | done h2 => exact absurd h2 h0
    | free _ h3 => rw [h1] at h3; omega
    | via _ h3 h4 =>
      rw [h1] at h3
      have h3' := Int.ofNat.inj h3
      subst h3'
      have := (ih h4).1
      cases this
    | skip _ h3 h4 h5 =>
      rw [h1] at h3
      have h3' := Int.ofNat.inj h3
      subst h3'
      obtain ⟨_, rfl⟩ := ih h4
      exact ih2 h5

/-- It is consistent, but that key e may be stale. -/
structure PInv (R : List Nat) (n : Nat) (nx ah : Nat → Int) (e : Int) : Prop where
  nx_lo : ∀ j, j < n → -1 ≤ nx j
  ah_lo : ∀ k, k < n → -1 ≤ ah k
  nx_ok : ∀ j (k : Nat), j < n → nx j = (k : Int) → k < n ∧ (rowAt R j).testBit k = true ∧ ah k = (j : Int)
  ah_ok : ∀ k (j : Nat), k < n → ah k = (j : Int) → j < n ∧ (nx j = (k : Int) ∨ e = (k : Int))
/-- Whose partner has been seen, or that has none. -/
def Calm (nx : Nat → Int) (s j : Nat) : Prop := ∀ k : Nat, nx j = (k : Int) → s.testBit k = true
/-- All of it are paired, and see nothing beyond it. -/
def ClosedS (R : List Nat) (ah : Nat → Int) (S : Nat) : Prop := ∀ k, S.testBit k = true → ∃ j : Nat, ah k = (j : Int) ∧ ∀ q, (rowAt R j).testBit q = true → S.testBit q = true
structure FindPost (R : List Nat) (n i : Nat) (st : PSt) (b : Bool) (st' : PSt) : Prop where
  grows : ∀ k, st.seen.testBit k = true → st'.seen.testBit k = true
  inside : ∀ k, st'.seen.testBit k = true → k < n
  no : b = false → st'.nx = st.nx ∧ st'.ah = st.ah ∧ (∀ q, (rowAt R i).testBit q = true → st'.seen.testBit q = true) ∧
    ∀ k, st'.seen.testBit k = true → st.seen.testBit k = false → ∃ j : Nat, st.ah k = (j : Int) ∧ ∀ q, (rowAt R j).testBit q = true → st'.seen.testBit q = true
  yes : b = true → PInv R n st'.nx st'.ah (st.nx i) ∧ (∃ k : Nat, st'.nx i = (k : Int) ∧ st.seen.testBit k = false) ∧
    (∀ k, st.seen.testBit k = true → st'.ah k = st.ah k) ∧ (∀ j, j < n → j ≠ i → (st'.nx j < 0 ↔ st.nx j < 0)) ∧
    (∀ j, j < n → j ≠ i → Calm st.nx st.seen j → st'.nx j = st.nx j) ∧
    (∀ S, ClosedS R st.ah S → ¬ (∀ q, (rowAt R i).testBit q = true → S.testBit q = true) ∧ ∀ k, S.testBit k = true → st'.ah k = st.ah k)
theorem toSee_low {R : List Nat} (hg : Good R) {i s : Nat} (hs : B64 s) (h : toSee R i s ≠ 0) :
    (rowAt R i).testBit (low (toSee R i s)) = true ∧ s.testBit (low (toSee R i s)) = false ∧ low (toSee R i s) < R.length := by
  have hb : B64 (toSee R i s) := minus_b64 (hg.b64 i)
  have h1 := low_bit hb h
  unfold toSee at h1 ⊢
  rw [minus_bit (hg.b64 i) hs] at h1
  simp only [Bool.and_eq_true, Bool.not_eq_true'] at h1
  exact ⟨h1.1, h1.2, hg.2 i _ h1.1⟩
theorem toSee_zero {R : List Nat} (hg : Good R) {i s : Nat} (hs : B64 s) (h : toSee R i s = 0) (q : Nat) (hq : (rowAt R i).testBit q = true) : s.testBit q = true := by
  have := minus_bit (hg.b64 i) hs q
  unfold toSee at h
  rw [h, hq] at this
  simpa using this
theorem addN_bit (s n i : Nat) : (addN s n).testBit i = (s.testBit i || decide (n = i)) := or_bit s n i

theorem find_post {R : List Nat} (hg : Good R) {i : Nat} {st st' : PSt} {b : Bool} (h : Find R i st b st') :
    i < R.length → (∀ k, st.seen.testBit k = true → k < R.length) → PInv R R.length st.nx st.ah (-1) → Calm st.nx st.seen i → FindPost R R.length i st b st' := by
  have b64 : ∀ {s : Nat}, (∀ k, s.testBit k = true → k < R.length) → B64 s := fun h => B64.of_bits fun j hj => Nat.lt_of_lt_of_le (h j hj) hg.1
  have add_in : ∀ {s k : Nat}, (∀ q, s.testBit q = true → q < R.length) → k < R.length → ∀ q, (addN s k).testBit q = true → q < R.length := fun h1 h2 q hq => by
    rw [addN_bit] at hq
    simp only [Bool.or_eq_true, decide_eq_true_eq] at hq
    rcases hq with h | h
    · exact h1 q h
    · omega
  have add_up : ∀ {s k : Nat} (q : Nat), s.testBit q = true → (addN s k).testBit q = true := fun q hq => by rw [addN_bit, hq]; rfl
  have add_self : ∀ {s k : Nat}, (addN s k).testBit k = true := fun {s k} => by rw [addN_bit]; simp
  induction h with
  | @done i st h0 =>
    intro hi hs hp hc
    exact ⟨fun k hk => hk, hs, fun _ => ⟨rfl, rfl, fun q hq => toSee_zero hg (b64 hs) h0 q hq, fun k h1 h2 => by rw [h1] at h2; cases h2⟩, fun h => by cases h⟩
  | @free i st h0 h1 =>
    intro hi hs hp hc
    obtain ⟨hk1, hk2, hk3⟩ := toSee_low hg (b64 hs) h0
    generalize low (toSee R i st.seen) = k at *
    refine ⟨fun q hq => add_up q hq, add_in hs hk3, fun h => by (cases h), fun _ => ⟨⟨?_, ?_, ?_, ?_⟩, ⟨k, setF_self _ _ _, hk2⟩, ?_, ?_, ?_, ?_⟩⟩
    · intro j hj
      show -1 ≤ setF st.nx i k j
      unfold setF; split
      · omega
      · exact hp.nx_lo j hj
    · intro q hq
      show -1 ≤ setF st.ah k i q
      unfold setF; split
      · omega
      · exact hp.ah_lo q hq
    · intro j q hj hjq
      have hjq' : setF st.nx i k j = (q : Int) := hjq
      show q < R.length ∧ _ ∧ setF st.ah k i q = (j : Int)
      by_cases hji : j = i
      · subst hji
        rw [setF_self] at hjq'
        have hqk : q = k := by omega
        subst hqk
        exact ⟨hk3, hk1, setF_self _ _ _⟩
      · rw [setF_other hji] at hjq'
        obtain ⟨a1, a2, a3⟩ := hp.nx_ok j q hj hjq'
        have hqk : q ≠ k := fun e => by subst e; omega
        exact ⟨a1, a2, by rw [setF_other hqk]; exact a3⟩
    · intro q j hq hqj
      have hqj' : setF st.ah k i q = (j : Int) := hqj
      show j < R.length ∧ (setF st.nx i k j = (q : Int) ∨ st.nx i = (q : Int))
      by_cases hqk : q = k
      · subst hqk
        rw [setF_self] at hqj'
        have hji : j = i := by omega
        subst hji
        exact ⟨hi, .inl (setF_self _ _ _)⟩
      · rw [setF_other hqk] at hqj'
        obtain ⟨a1, a2⟩ := hp.ah_ok q j hq hqj'
        have a3 : st.nx j = (q : Int) := by
          rcases a2 with a | a
          · exact a
          · omega
        by_cases hji : j = i
        · subst hji; exact ⟨a1, .inr a3⟩
        · exact ⟨a1, .inl (by rw [setF_other hji]; exact a3)⟩
    · intro q hq
      exact setF_other (fun e => by subst e; rw [hq] at hk2; cases hk2)
    · intro j _ hji
      show setF st.nx i k j < 0 ↔ _
      rw [setF_other hji]
    · intro j _ hji _
      exact setF_other hji
    · intro S hS
      have hkS : S.testBit k ≠ true := fun h => by
        obtain ⟨j, hj, _⟩ := hS k h
        omega
      exact ⟨fun h => hkS (h k hk1), fun q hq => setF_other (fun e => by subst e; exact hkS hq)⟩
  | @via i j st st1 h0 h1 _ ih =>
    intro hi hs hp hc
    obtain ⟨hk1, hk2, hk3⟩ := toSee_low hg (b64 hs) h0
    generalize low (toSee R i st.seen) = k at *
    obtain ⟨hj, hnj⟩ := hp.ah_ok k j hk3 h1
    have hnj' : st.nx j = (k : Int) := by
      rcases hnj with a | a
      · exact a
      · omega
    have hij : i ≠ j := fun e => by
      subst e
      have := hc k hnj'
      rw [hk2] at this; cases this
    have ihp := ih hj (add_in hs hk3) hp (fun q hq => by
      have : q = k := by have := hnj'.symm.trans hq; omega
      subst this
      exact add_self)
    obtain ⟨y1, ⟨k2, y2, y2'⟩, y3, y4, y5, y6⟩ := ihp.yes rfl
    have hcalm : Calm st.nx (addN st.seen k) i := fun q hq => add_up q (hc q hq)
    have hi1 : st1.nx i = st.nx i := y5 i hi hij hcalm
    have hk2k : k2 ≠ k := fun e => by subst e; rw [add_self] at y2'; cases y2'
    have hahk : st1.ah k = (j : Int) := by rw [y3 k add_self]; exact h1
    refine ⟨fun q hq => ihp.grows q (add_up q hq), ihp.inside, fun h => by (cases h), fun _ => ⟨⟨?_, ?_, ?_, ?_⟩, ⟨k, setF_self _ _ _, hk2⟩, ?_, ?_, ?_, ?_⟩⟩
    · intro x hx
      show -1 ≤ setF st1.nx i k x
      unfold setF; split
      · omega
      · exact y1.nx_lo x hx
    · intro q hq
      show -1 ≤ setF st1.ah k i q
      unfold setF; split
      · omega
      · exact y1.ah_lo q hq
    · intro x q hx hxq
      have hxq' : setF st1.nx i k x = (q : Int) := hxq
      show q < R.length ∧ _ ∧ setF st1.ah k i q = (x : Int)
      by_cases hxi : x = i
      · subst hxi
        rw [setF_self] at hxq'
        have hqk : q = k := by omega
        subst hqk
        exact ⟨hk3, hk1, setF_self _ _ _⟩
      · rw [setF_other hxi] at hxq'
        obtain ⟨a1, a2, a3⟩ := y1.nx_ok x q hx hxq'
        have hqk : q ≠ k := fun e => by
          subst e
          rw [hahk] at a3
          have hxj : x = j := by omega
          subst hxj
          rw [y2] at hxq'
          omega
        exact ⟨a1, a2, by rw [setF_other hqk]; exact a3⟩
    · intro q x hq hqx
      have hqx' : setF st1.ah k i q = (x : Int) := hqx
      show x < R.length ∧ (setF st1.nx i k x = (q : Int) ∨ st.nx i = (q : Int))
      by_cases hqk : q = k
      · subst hqk
        rw [setF_self] at hqx'
        have hxi : x = i := by omega
        subst hxi
        exact ⟨hi, .inl (setF_self _ _ _)⟩
      · rw [setF_other hqk] at hqx'
        obtain ⟨a1, a2⟩ := y1.ah_ok q x hq hqx'
        have a3 : st1.nx x = (q : Int) := by
          rcases a2 with a | a
          · exact a
          · have a' : st.nx j = (q : Int) := a
            omega
        by_cases hxi : x = i
        · subst hxi; exact ⟨a1, .inr (by rw [← hi1]; exact a3)⟩
        · exact ⟨a1, .inl (by rw [setF_other hxi]; exact a3)⟩
    · intro q hq
      show setF st1.ah k i q = _
      rw [setF_other (fun e => by subst e; rw [hq] at hk2; cases hk2)]
      exact y3 q (add_up q hq)
    · intro x hx hxi
      show setF st1.nx i k x < 0 ↔ _
      rw [setF_other hxi]
      by_cases hxj : x = j
      · subst hxj; omega
      · exact y4 x hx hxj
    · intro x hx hxi hxc
      show setF st1.nx i k x = _
      rw [setF_other hxi]
      have hxj : x ≠ j := fun e => by
        subst e
        have := hxc k hnj'
        rw [hk2] at this; cases this
      exact y5 x hx hxj (fun q hq => add_up q (hxc q hq))
    · intro S hS
      obtain ⟨z1, z2⟩ := y6 S hS
      have hkS : S.testBit k ≠ true := fun h => by
        obtain ⟨x, hx, hx2⟩ := hS k h
        have hxj : x = j := by omega
        subst hxj
        exact z1 hx2
      refine ⟨fun h => hkS (h k hk1), fun q hq => ?_⟩
      show setF st1.ah k i q = _
      rw [setF_other (fun e => by subst e; exact hkS hq)]
      exact z2 q hq
  | @skip i j st st1 st2 b h0 h1 _ _ ih ih2 =>
    intro hi hs hp hc
    obtain ⟨hk1, hk2, hk3⟩ := toSee_low hg (b64 hs) h0
    generalize low (toSee R i st.seen) = k at *
    obtain ⟨hj, hnj⟩ := hp.ah_ok k j hk3 h1
    have hnj' : st.nx j = (k : Int) := by
      rcases hnj with a | a
      · exact a
      · omega
    have ihp := ih hj (add_in hs hk3) hp (fun q hq => by
      have : q = k := by have := hnj'.symm.trans hq; omega
      subst this
      exact add_self)
    obtain ⟨n1, n2, n3, n4⟩ := ihp.no rfl
    have n1' : st1.nx = st.nx := n1
    have n2' : st1.ah = st.ah := n2
    have ihq := ih2 hi ihp.inside (by rw [n1', n2']; exact hp) (fun q hq => ihp.grows q (add_up q (hc q (by rw [← n1']; exact hq))))
    have cl : ∀ q, st1.seen.testBit q = true → st.seen.testBit q = false → ∃ x : Nat, st.ah q = (x : Int) ∧ ∀ y, (rowAt R x).testBit y = true → st1.seen.testBit y = true := fun q hq1 hq2 => by
      by_cases hqk : k = q
      · subst hqk
        exact ⟨j, h1, n3⟩
      · exact n4 q hq1 (by show (addN st.seen k).testBit q = false; rw [addN_bit, hq2]; simp [hqk])
    refine ⟨fun q hq => ihq.grows q (ihp.grows q (add_up q hq)), ihq.inside, fun hb => ?_, fun hb => ?_⟩
    · obtain ⟨m1, m2, m3, m4⟩ := ihq.no hb
      refine ⟨m1.trans n1', m2.trans n2', m3, fun q hq1 hq2 => ?_⟩
      cases hq3 : st1.seen.testBit q with
      | true =>
        obtain ⟨x, hx, hx2⟩ := cl q hq3 hq2
        exact ⟨x, hx, fun y hy => ihq.grows y (hx2 y hy)⟩
      | false =>
        obtain ⟨x, hx, hx2⟩ := m4 q hq1 hq3
        exact ⟨x, by rw [← n2']; exact hx, hx2⟩
    · obtain ⟨y1, ⟨k2, y2, y2'⟩, y3, y4, y5, y6⟩ := ihq.yes hb
      rw [n1'] at y1 y4 y5
      rw [n2'] at y3 y6
      refine ⟨y1, ⟨k2, y2, ?_⟩, fun q hq => y3 q (ihp.grows q (add_up q hq)), y4, fun x hx hxi hxc => y5 x hx hxi (fun q hq => ihp.grows q (add_up q (hxc q hq))), y6⟩
      cases hq : st.seen.testBit k2 with
      | false => rfl
      | true =>
        have := ihp.grows k2 (add_up k2 hq)
        rw [y2'] at this; cases this

/-- The pairing, from the first number on. -/
inductive PairRun (R : List Nat) : Nat → PSt → Prop
  | zero : PairRun R 0 ⟨fun _ => -1, fun _ => -1, 0⟩
  | succ {i : Nat} {st st' : PSt} {b : Bool} : PairRun R i st → Find R i ⟨st.nx, st.ah, 0⟩ b st' → PairRun R (i + 1) st'
theorem pairRun_det {R : List Nat} {i : Nat} {st : PSt} (h : PairRun R i st) : ∀ {st' : PSt}, PairRun R i st' → st = st' := by
  induction h with
  | zero => intro st' h'; cases h'; rfl
  | succ h1 h2 ih =>
    intro st' h'
    cases h' with
    | succ h3 h4 =>
      have := ih h3
      subst this
      exact (find_det h2 h4).2
structure PairInv (R : List Nat) (i : Nat) (st : PSt) : Prop where
  inv : PInv R R.length st.nx st.ah (-1)
  later : ∀ j, j < R.length → i ≤ j → st.nx j < 0
  stuck : ∃ S, (∀ k, S.testBit k = true → k < R.length) ∧ ClosedS R st.ah S ∧ ∀ j, j < i → st.nx j < 0 → ∀ q, (rowAt R j).testBit q = true → S.testBit q = true
theorem pairRun_inv {R : List Nat} (hg : Good R) {i : Nat} {st : PSt} (h : PairRun R i st) : i ≤ R.length → PairInv R i st := by
  induction h with
  | zero =>
    intro _
    refine ⟨⟨fun _ _ => by show (-1 : Int) ≤ -1; omega, fun _ _ => by show (-1 : Int) ≤ -1; omega, fun j k _ h => ?_, fun k j _ h => ?_⟩, fun j _ _ => by show (-1 : Int) < 0; omega, 0, fun k hk => by simp at hk, fun k hk => by simp at hk, fun j hj => by omega⟩
    · have h' : (-1 : Int) = k := h
      omega
    · have h' : (-1 : Int) = j := h
      omega
  | @succ i st st' b h1 h2 ih =>
    intro hi
    obtain ⟨p1, p2, S, p3, p4, p5⟩ := ih (by omega)
    have hp := find_post hg h2 (by omega) (fun k hk => by simp at hk) p1 (fun k hk => by
      have := p2 i (by omega) (Nat.le_refl _)
      have hk' : st.nx i = (k : Int) := hk
      omega)
    have hlt := p2 i (by omega) (Nat.le_refl _)
    have hlo := p1.nx_lo i (by omega)
    cases b with
    | true =>
      obtain ⟨y1, ⟨k2, y2, _⟩, _, y4, _, y6⟩ := hp.yes rfl
      have y1' : PInv R R.length st'.nx st'.ah (-1) := by
        have e : st.nx i = -1 := by omega
        have y1 : PInv R R.length st'.nx st'.ah (st.nx i) := y1
        rw [e] at y1
        exact y1
      refine ⟨y1', fun j hj hij => (y4 j hj (by omega)).2 (p2 j hj (by omega)), S, p3, fun k hk => ?_, fun j hj hn => ?_⟩
      · obtain ⟨x, hx, hx2⟩ := p4 k hk
        exact ⟨x, by rw [(y6 S p4).2 k hk]; exact hx, hx2⟩
      · by_cases hji : j = i
        · subst hji; omega
        · exact p5 j (by omega) ((y4 j (by omega) hji).1 hn)
    | false =>
      obtain ⟨n1, n2, n3, n4⟩ := hp.no rfl
      have n1' : st'.nx = st.nx := n1
      have n2' : st'.ah = st.ah := n2
      have bit : ∀ k, (S ||| st'.seen).testBit k = true ↔ S.testBit k = true ∨ st'.seen.testBit k = true := fun k => by rw [Nat.testBit_or, Bool.or_eq_true]
      refine ⟨by rw [n1', n2']; exact p1, fun j hj hij => by rw [n1']; exact p2 j hj (by omega), S ||| st'.seen, fun k hk => ?_, fun k hk => ?_, fun j hj hn q hq => ?_⟩
      · rcases (bit k).1 hk with h | h
        · exact p3 k h
        · exact hp.inside k h
      · rcases (bit k).1 hk with h | h
        · obtain ⟨x, hx, hx2⟩ := p4 k h
          exact ⟨x, by rw [n2']; exact hx, fun q hq => (bit q).2 (.inl (hx2 q hq))⟩
        · obtain ⟨x, hx, hx2⟩ := n4 k h (by simp)
          exact ⟨x, by rw [n2']; exact hx, fun q hq => (bit q).2 (.inr (hx2 q hq))⟩
      · by_cases hji : j = i
        · subst hji; exact (bit q).2 (.inr (n3 q hq))
        · rw [n1'] at hn
          exact (bit q).2 (.inl (p5 j (by omega) hn q hq))
end Go.Proofs.Ytoandhhkmkgmaaa
