/- Contracts: Back, From, Within, Close, Between of package reach, at good rows and at faults; Turned of the reference; slices.Equal at sets. The table of math/bits lies. -/
import Derived.Test.YtoandhhkmkgmaaaReach4
import Derived.Test.YtoandhhkmkgmaaaEqU64
namespace Go.Proofs.Ytoandhhkmkgmaaa
open Go.RowKit

/-- Columns below i done, and of column i the rows below k. -/
def turnMid (l : List Nat) (i k c : Nat) : Nat := if c < i then colUp l c l.length else if c = i then colUp l c k else 0
theorem turnMid_start (l : List Nat) (c : Nat) : turnMid l 0 0 c = 0 := by unfold turnMid colUp; simp
theorem turnMid_next (l : List Nat) (i c : Nat) : turnMid l i l.length c = turnMid l (i + 1) 0 c := by
  unfold turnMid
  by_cases h1 : c < i
  · have : c < i + 1 := by omega
    simp [h1, this]
  · by_cases h2 : c = i
    · subst h2; simp
    · have h3 : ¬ c < i + 1 := by omega
      have h4 : ¬ (c < i + 1) := h3
      by_cases h5 : c = i + 1
      · subst h5
        simp [h1, h3, colUp]
      · simp [h1, h2, h3, h5]
theorem turnMid_set (l : List Nat) (i k c : Nat) : (if c = i then colUp l i (k + 1) else turnMid l i k c) = turnMid l i (k + 1) c := by
  unfold turnMid
  by_cases h : c = i
  · subst h; simp
  · simp [h]
theorem turnMid_skip (l : List Nat) (i k c : Nat) (h : (rowAt l k).testBit i = false) : turnMid l i k c = turnMid l i (k + 1) c := by
  unfold turnMid
  by_cases h1 : c < i
  · simp [h1]
  · by_cases h2 : c = i
    · subst h2
      rw [colUp, h]
      simp
    · simp [h1, h2]
theorem turnMid_all (l : List Nat) (n : Nat) (hn : l.length = n) : (List.range n).map (turnMid l n 0) = turned l := by
  unfold turned
  rw [hn]
  apply List.map_congr_left
  intro c hc
  have := List.mem_range.1 hc
  unfold turnMid
  rw [if_pos this, hn]
theorem zero_rows' (n : Nat) (l : List Nat) : List.replicate n (Value.int .u64 0) = ((List.range n).map (turnMid l 0 0)).map uv := by
  have := zero_rows n l
  rw [this]
  congr 1
  apply List.map_congr_left
  intro c _
  rw [turnMid_start]
  rfl

theorem rows1 {s : Nat} (hs : B64 s) : Rows64 [s] := rowAt_all (by intro x hx; rw [List.mem_singleton] at hx; rw [hx]; exact hs)
theorem rows2 {s t : Nat} (hs : B64 s) (ht : B64 t) : Rows64 [s, t] := rowAt_all (by
  intro x hx
  rcases List.mem_cons.1 hx with h | h
  · rw [h]; exact hs
  · rw [List.mem_singleton] at h; rw [h]; exact ht)
theorem fault_ne {x : Int} (h : x ≠ 0) : (x != 0) = true := by simp [h]
theorem fault_eq {x : Int} (h : x = 0) : (x != 0) = false := by simp [h]

/-- Within's fault: that of the rows and the set, else a depth below 0. -/
def withinFault (l : List Nat) (s : Nat) (d : Int) : Int := if faultOf l [s] = 0 ∧ d < 0 then 1 else faultOf l [s]
/-- A slice and an error. -/
def SlErrPost (E : TypeId) (n : Nat) (xs : List Value) (err : Int) (w : World) (e : Ending) (w' : World) : Prop :=
  ∃ A c, e = .returned (.tuple #[.slice A n c, .int .i64 err]) ∧ w'.ownsRow w.heap.size E 1 (.slice A n c) n xs ∧ Below w.heap.size w w'
end Go.Proofs.Ytoandhhkmkgmaaa
/- Contract: Close of package reach. The rows are below 2^64; the table of math/bits lies. -/
namespace Go.Proofs.Ytoandhhkmkgmaaa
open Go.RowKit

/-- Every row closed. -/
def closed (l : List Nat) : List Nat := l.map fun s => reachD l s (-1)
theorem closed_len (l : List Nat) : (closed l).length = l.length := by unfold closed; simp
theorem closed_take (l : List Nat) (k : Nat) (hk : k < l.length) : (closed l).take (k + 1) = (closed l).take k ++ [reachD l (rowAt l k) (-1)] := by
  rw [take_snoc (closed l) 0 k (by rw [closed_len]; exact hk)]
  unfold closed rowAt
  simp [hk]
theorem rowAt_closed (l : List Nat) (k : Nat) (hk : k < l.length) : rowAt (closed l) k = reachD l (rowAt l k) (-1) := by
  unfold closed rowAt
  simp [hk]
end Go.Proofs.Ytoandhhkmkgmaaa
