/- Contracts: isNaN, Less at texts; BinarySearch; name.Find. Lengths below 2^62. -/
import Derived.Test.YtcjhkfhogcdobaaDoorName5
import Derived.Deep.Quiet
namespace Go.Proofs.YtcjhkfhogcdobaaDoor
open Go.RowKit

def ltS (x y : List UInt8) : Bool := decide (x < y)
def hasS (l : List (List UInt8)) (x : List UInt8) : Bool := decide (x ∈ l)
def SrPost (l : List (List UInt8)) (x : List UInt8) (w : World) (e : Ending) (w' : World) : Prop :=
  ∃ k : Nat, k ≤ l.length ∧ e = .returned (.tuple #[.int .i64 (k : Int), .bool (hasS l x)]) ∧ (x ∈ l → l[k]? = some x) ∧ w = w'
theorem sr_none {l : List (List UInt8)} {x : List UInt8} (h : ∀ (t : Nat) (y : List UInt8), t < l.length → l[t]? = some y → y < x) : hasS l x = false := by
  unfold hasS
  rw [decide_eq_false_iff_not]
  intro hx
  obtain ⟨t, ht⟩ := List.mem_iff_getElem?.1 hx
  exact slt_irrefl _ (h t x (List.getElem?_eq_some_iff.1 ht).1 ht)
theorem sr_some {l : List (List UInt8)} {x y : List UInt8} {k : Nat} (hu : Up l) (hk : l[k]? = some y) (h1 : ∀ (t : Nat) (z : List UInt8), t < k → l[t]? = some z → z < x) (h2 : ¬ y < x) : hasS l x = decide (y = x) := by
  unfold hasS
  rw [Bool.eq_iff_iff]
  simp only [decide_eq_true_eq]
  constructor
  · intro hx
    obtain ⟨t, ht⟩ := List.mem_iff_getElem?.1 hx
    rcases Nat.lt_trichotomy t k with h | h | h
    · exact absurd (h1 t x h ht) (slt_irrefl _)
    · subst h; rw [hk] at ht; injection ht
    · obtain ⟨a1, e1⟩ := List.getElem?_eq_some_iff.1 hk
      obtain ⟨a2, e2⟩ := List.getElem?_eq_some_iff.1 ht
      have := (List.pairwise_iff_getElem.1 hu) k t a1 a2 h
      rw [e1, e2] at this
      exact absurd this h2
  · rintro rfl
    exact List.mem_of_getElem? hk

/-- Where a text stands, or 0. -/
def placeMax (l : List (List UInt8)) (s : List UInt8) : Int := if s ∈ l then (l.idxOf s : Nat) else 0
theorem placeMax_in {l : List (List UInt8)} {s : List UInt8} {k : Nat} (hu : Up l) (hs : s ∈ l) (hk : l[k]? = some s) : placeMax l s = k := by
  unfold placeMax
  rw [if_pos hs]
  obtain ⟨h1, h2⟩ := List.getElem?_eq_some_iff.1 hk
  have hlt : l.idxOf s < l.length := List.idxOf_lt_length_iff.2 hs
  have h3 : l[l.idxOf s] = s := List.getElem_idxOf hlt
  rcases Nat.lt_trichotomy (l.idxOf s) k with h | h | h
  · have := (List.pairwise_iff_getElem.1 hu) _ _ hlt h1 h
    rw [h3, h2] at this
    exact absurd this (slt_irrefl _)
  · rw [h]
  · have := (List.pairwise_iff_getElem.1 hu) _ _ h1 hlt h
    rw [h3, h2] at this
    exact absurd this (slt_irrefl _)
end Go.Proofs.YtcjhkfhogcdobaaDoor
