/- Those apart, plain: what the marking keeps; what it ends with (KOENIG). -/
import Derived.Test.YtonmkmghpiagjaaDoorChainPlain
namespace Go.Proofs.YtonmkmghpiagjaaDoor

/-- Those below k that have none behind them. -/
def topsUp (nx : Nat → Int) : Nat → Nat
  | 0 => 0
  | k + 1 => if nx k < 0 then addN (topsUp nx k) k else topsUp nx k
theorem topsUp_bit (nx : Nat → Int) (k j : Nat) : (topsUp nx k).testBit j = (decide (j < k) && decide (nx j < 0)) := by
  induction k with
  | zero => simp [topsUp]
  | succ k ih =>
    unfold topsUp
    by_cases h : nx k < 0
    · rw [if_pos h, addN_bit, ih]
      by_cases hj : k = j
      · subst hj; simp [h]
      · have e : (j < k + 1) ↔ (j < k) := by omega
        simp [hj, e]
    · rw [if_neg h, ih]
      by_cases hj : k = j
      · subst hj; simp [h]
      · have e : (j < k + 1) ↔ (j < k) := by omega
        simp [e]
/-- What the marking keeps. -/
structure ApOk (R : List Nat) (st : PSt) (S T L : Nat) : Prop where
  tin : ∀ j, T.testBit j = true → j < R.length ∧ (st.nx j < 0 ∨ ∃ k : Nat, st.nx j = (k : Int) ∧ L.testBit k = true)
  tops : ∀ j, j < R.length → st.nx j < 0 → T.testBit j = true
  lin : ∀ k, L.testBit k = true → k < R.length ∧ ∃ j : Nat, st.ah k = (j : Int) ∧ T.testBit j = true
  frm : ∀ k, L.testBit k = true → ∃ i, T.testBit i = true ∧ (rowAt R i).testBit k = true
  see : ∀ j, T.testBit j = true → ∀ q, (rowAt R j).testBit q = true → S.testBit q = true
/-- All that cannot be paired further: what the pairing's end gives. -/
structure Stuck (R : List Nat) (st : PSt) (S : Nat) : Prop where
  inv : PInv R R.length st.nx st.ah (-1)
  inS : ∀ k, S.testBit k = true → k < R.length
  cl : ClosedS R st.ah S
  free : ∀ j, j < R.length → st.nx j < 0 → ∀ q, (rowAt R j).testBit q = true → S.testBit q = true
theorem stuck_of {R : List Nat} (hg : Good R) {st : PSt} (h : PairRun R R.length st) : ∃ S, Stuck R st S := by
  have := pairRun_inv hg h (Nat.le_refl _)
  obtain ⟨S, h1, h2, h3⟩ := this.stuck
  exact ⟨S, this.inv, h1, h2, h3⟩
theorem apOk_start {R : List Nat} {st : PSt} {S : Nat} (hs : Stuck R st S) : ApOk R st S (topsUp st.nx R.length) 0 := by
  refine ⟨fun j hj => ?_, fun j hj hn => ?_, fun k hk => by simp at hk, fun k hk => by simp at hk, fun j hj => ?_⟩
  · rw [topsUp_bit] at hj
    simp at hj
    exact ⟨hj.1, .inl hj.2⟩
  · rw [topsUp_bit]; simp [hj, hn]
  · rw [topsUp_bit] at hj
    simp at hj
    exact hs.free j hj.1 hj.2
theorem apOk_step {R : List Nat} {st : PSt} {S T L i k : Nat} (hs : Stuck R st S) (h : ApOk R st S T L) (hi : T.testBit i = true) (hk : (rowAt R i).testBit k = true) :
    ∃ j : Nat, st.ah k = (j : Int) ∧ j < R.length ∧ ApOk R st S (addN T j) (addN L k) := by
  have hkS := h.see i hi k hk
  have hkl := hs.inS k hkS
  obtain ⟨j, hj, hjr⟩ := hs.cl k hkS
  obtain ⟨hjl, hnx⟩ := hs.inv.ah_ok k j hkl hj
  have hnj : st.nx j = (k : Int) := by
    rcases hnx with a | a
    · exact a
    · omega
  refine ⟨j, hj, hjl, fun x hx => ?_, fun x hx hn => by rw [addN_bit, h.tops x hx hn]; rfl, fun q hq => ?_, fun q hq => ?_, fun x hx => ?_⟩
  · rw [addN_bit] at hx
    simp only [Bool.or_eq_true, decide_eq_true_eq] at hx
    rcases hx with hx | rfl
    · obtain ⟨h1, h2⟩ := h.tin x hx
      refine ⟨h1, h2.imp id fun ⟨q, h3, h4⟩ => ⟨q, h3, by rw [addN_bit, h4]; rfl⟩⟩
    · exact ⟨hjl, .inr ⟨k, hnj, by rw [addN_bit]; simp⟩⟩
  · rw [addN_bit] at hq
    simp only [Bool.or_eq_true, decide_eq_true_eq] at hq
    rcases hq with hq | rfl
    · obtain ⟨h1, x, h2, h3⟩ := h.lin q hq
      exact ⟨h1, x, h2, by rw [addN_bit, h3]; rfl⟩
    · exact ⟨hkl, j, hj, by rw [addN_bit]; simp⟩
  · rw [addN_bit] at hq
    simp only [Bool.or_eq_true, decide_eq_true_eq] at hq
    rcases hq with hq | rfl
    · obtain ⟨x, h1, h2⟩ := h.frm q hq
      exact ⟨x, by rw [addN_bit, h1]; rfl, h2⟩
    · exact ⟨i, by rw [addN_bit, hi]; rfl, hk⟩
  · rw [addN_bit] at hx
    simp only [Bool.or_eq_true, decide_eq_true_eq] at hx
    rcases hx with hx | rfl
    · exact h.see x hx
    · exact hjr
/-- Those apart: none of them below another one. -/
theorem apart_apart {R : List Nat} {T L : Nat} (hcl : ∀ i, T.testBit i = true → ∀ q, (rowAt R i).testBit q = true → L.testBit q = true) {i k : Nat} (hi : T.testBit i = true) (hk : L.testBit k = false) : (rowAt R i).testBit k = false := by
  cases h : (rowAt R i).testBit k with
  | false => rfl
  | true => rw [hcl i hi k h] at hk; cases hk
/-- Every low is a top. -/
theorem low_top {l : List Nat} (hg : Good l) {st : PSt} {S T L : Nat} (hs : Stuck (closed l) st S) (h : ApOk (closed l) st S T L)
    (hcl : ∀ i, T.testBit i = true → ∀ q, (rowAt (closed l) i).testBit q = true → L.testBit q = true) {x : Nat} (hx : L.testBit x = true) : T.testBit x = true := by
  obtain ⟨i, hi, hix⟩ := h.frm x hx
  have hxl := (h.lin x hx).1
  by_cases hn : st.nx x < 0
  · exact h.tops x hxl hn
  · have hlo := hs.inv.nx_lo x hxl
    obtain ⟨k, hk⟩ : ∃ k : Nat, st.nx x = (k : Int) := ⟨(st.nx x).toNat, by omega⟩
    obtain ⟨a1, a2, a3⟩ := hs.inv.nx_ok x k hxl hk
    have hkL := hcl i hi k (closed_trans hg hix a2)
    obtain ⟨_, j, hj, hjT⟩ := h.lin k hkL
    have : j = x := by omega
    subst this
    exact hjT
end Go.Proofs.YtonmkmghpiagjaaDoor
