/- Contracts of package reach: check, Check, checks, step, from; and of the reference: RowsFault, Steps. Rows are below 2^64; the table of math/bits lies. -/
import Derived.Test.YtoandhhkmkgmaaaBits1
import Derived.Test.YtoandhhkmkgmaaaOwn2
namespace Go.Proofs.Ytoandhhkmkgmaaa
open Go.RowKit

/-- A set as a value. -/
def uv (s : Nat) : Value := .int .u64 (s : Int)
theorem elU64 : ElT Try.prog 73 74 (.int .u64 0) 8 := ElT.mk' Try.underlying73 (by kernel_rfl) rfl
theorem Rd.set {w : World} {A : Option Addr} {l : List Nat} (h : Rd w A (l.map uv)) {k : Nat} (hk : k < l.length) :
    ∃ b off, A = some ⟨b, off, none⟩ ∧ w.cell? ⟨b, off + k, none⟩ = some (.int .u64 (rowAt l k : Nat)) := by
  obtain ⟨b, off, rfl, hc⟩ := h.at_ (k := k) (by simpa using hk)
  refine ⟨b, off, rfl, ?_⟩
  rw [hc]
  unfold rowAt
  simp [uv, hk]
def okErr (b : Bool) : Int := if b then 0 else 4
theorem rowAt_all {l : List Nat} (hb : ∀ s ∈ l, B64 s) : Rows64 l := fun i => by
  rcases Nat.lt_or_ge i l.length with h | h
  · exact hb _ (rowAt_mem h)
  · rw [rowAt_ge h]; exact B64.zero
theorem all_take_snoc {l : List Nat} {p : Nat → Bool} {k : Nat} (hk : k < l.length) : (l.take (k + 1)).all p = ((l.take k).all p && p (rowAt l k)) := by
  rw [take_snoc l 0 k hk, List.all_append]
  simp [rowAt]
theorem all_false {l : List Nat} {p : Nat → Bool} {k : Nat} (hk : k < l.length) (h : p (rowAt l k) = false) : l.all p = false := by
  cases ha : l.all p with
  | false => rfl
  | true => rw [List.all_eq_true.1 ha _ (rowAt_mem hk)] at h; cases h

theorem faultOf_two {l sets : List Nat} (h : faultOf l [] = 2) : faultOf l sets = 2 := by
  unfold faultOf at h ⊢
  split at h
  · rw [if_pos (by assumption)]
  · split at h <;> cases h
theorem faultOf_four {l sets : List Nat} (h : faultOf l [] = 4) : faultOf l sets = 4 := by
  unfold faultOf at h ⊢
  split at h
  · cases h
  · rename_i hn
    rw [if_neg hn]
    split at h
    · cases h
    · rename_i ha
      rw [List.append_nil] at ha
      rw [if_neg]
      rw [List.all_append]
      simp [ha]
theorem faultOf_zero {l sets : List Nat} (h : faultOf l [] = 0) : faultOf l sets = okErr (sets.all (inU l.length)) ∧ l.length ≤ 64 := by
  unfold faultOf at h ⊢
  split at h
  · cases h
  · rename_i hn
    rw [if_neg hn]
    split at h
    · rename_i ha
      rw [List.append_nil] at ha
      rw [List.all_append, ha]
      exact ⟨rfl, by omega⟩
    · cases h
theorem fault_more {l : List Nat} (h : faultOf l [] ≠ 0) (sets : List Nat) : faultOf l sets = faultOf l [] := by
  rcases faultOf_cases l [] with hf | hf | hf
  · exact absurd hf h
  · rw [hf]; exact faultOf_two hf
  · rw [hf]; exact faultOf_four hf
/-- The numbers of s from n on, joined: what step has left to do. -/
theorem fromS_zero {s : Nat} (hs : B64 s) : fromS s 0 = s := by
  apply set_ext
  intro i
  rw [fromS_bit hs]
  simp
theorem fromS_next {s n : Nat} (hs : B64 s) (h0 : fromS s n ≠ 0) : ∀ i, (fromS s ((low (fromS s n) : Nat) + 1 : Int)).testBit i = ((fromS s n).testBit i && decide (i ≠ low (fromS s n))) := by
  intro i
  have hb := fromS_b64 (n := (n : Int)) hs
  have hle := fun j hj => low_le (i := j) hb hj
  rw [fromS_bit hs, fromS_bit hs]
  generalize hk : low (fromS s n) = k at *
  have hlow := low_bit hb h0
  rw [hk, fromS_bit hs] at hlow
  simp at hlow
  cases hsi : s.testBit i with
  | false => simp
  | true =>
    rw [Bool.eq_iff_iff]
    simp
    constructor
    · intro h; omega
    · rintro ⟨h1, h2⟩
      have := hle i (by rw [fromS_bit hs, hsi]; simp; exact h1)
      omega
theorem orRows_ext {l : List Nat} {s t o : Nat} {k : Nat} (h : ∀ i, i < k → s.testBit i = t.testBit i) : orRows l s o k = orRows l t o k := by
  induction k with
  | zero => rfl
  | succ k ih =>
    unfold orRows
    rw [ih (fun i hi => h i (by omega)), h k (by omega)]
/-- Done so far, and what is left. -/
def StepRel (l : List Nat) (s out : Nat) (n : Nat) : Prop := B64 out ∧ ∀ j, (stepS l s).testBit j = true ↔ out.testBit j = true ∨ ∃ i, i < l.length ∧ (fromS s n).testBit i = true ∧ (rowAt l i).testBit j = true
theorem stepRel_start (l : List Nat) {s : Nat} (hs : B64 s) : StepRel l s 0 0 := by
  refine ⟨B64.zero, fun j => ?_⟩
  rw [stepS_bit]
  have := fromS_zero hs
  rw [show ((0 : Nat) : Int) = 0 from rfl, this]
  simp
theorem stepRel_next {l : List Nat} (hl : Rows64 l) {s out n : Nat} (hs : B64 s) (h : StepRel l s out n) (h0 : fromS s n ≠ 0) (hk : low (fromS s n) < l.length) :
    StepRel l s (out ||| rowAt l (low (fromS s n))) (low (fromS s n) + 1) := by
  refine ⟨h.1.or (hl _), fun j => ?_⟩
  have hf := fromS_next hs h0
  have hlow := low_bit (fromS_b64 (n := (n : Int)) hs) h0
  rw [h.2 j, Nat.testBit_or, Bool.or_eq_true]
  have hc : (((low (fromS s n) + 1 : Nat)) : Int) = ((low (fromS s n) : Nat) + 1 : Int) := by omega
  rw [hc]
  constructor
  · rintro (h1 | ⟨i, h1, h2, h3⟩)
    · exact .inl (.inl h1)
    · by_cases hi : i = low (fromS s n)
      · rw [← hi]; exact .inl (.inr h3)
      · exact .inr ⟨i, h1, by rw [hf, h2]; simp [hi], h3⟩
  · rintro ((h1 | h1) | ⟨i, h1, h2, h3⟩)
    · exact .inl h1
    · exact .inr ⟨_, hk, hlow, h1⟩
    · rw [hf, Bool.and_eq_true] at h2
      exact .inr ⟨i, h1, h2.1, h3⟩
theorem stepRel_end {l : List Nat} {s out n : Nat} (h : StepRel l s out n) (h0 : fromS s n = 0) : out = stepS l s := by
  apply set_ext
  intro j
  rw [Bool.eq_iff_iff, h.2 j, h0]
  simp
end Go.Proofs.Ytoandhhkmkgmaaa
/- Contracts of package reach: step, from; of the reference: Steps, RowsFault. The rows are good; the table of math/bits lies. -/
namespace Go.Proofs.Ytoandhhkmkgmaaa
open Go.RowKit

def stepMeas (n is : Value) : Nat := match is with
  | .bool true => 65 - (intOf n).toNat
  | _ => 0
/-- What step's loop holds: done so far, and the next number. -/
def StepSlots (l : List Nat) (s : Nat) (o n is : Value) : Prop :=
  ∃ out k : Nat, o = .int .u64 (out : Int) ∧ StepRel l s out k ∧ ((fromS s k = 0 ∧ is = .bool false) ∨ (fromS s k ≠ 0 ∧ n = .int .i64 (low (fromS s k) : Nat) ∧ is = .bool true))
end Go.Proofs.Ytoandhhkmkgmaaa
/- Contracts of the reference: Steps, RowsFault. Rows are below 2^64. -/
namespace Go.Proofs.Ytoandhhkmkgmaaa
open Go.RowKit

end Go.Proofs.Ytoandhhkmkgmaaa
