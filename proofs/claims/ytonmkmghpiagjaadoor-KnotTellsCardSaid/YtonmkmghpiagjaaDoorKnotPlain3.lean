/- Plain law of package knot, the end: rows of parts, and a ring of those that are left. No condition. -/
import Derived.Test.YtonmkmghpiagjaaDoorKnotPlain2
import Derived.Test.YtonmkmghpiagjaaDoorWayPlain2
namespace Go.Proofs.YtonmkmghpiagjaaDoor

def needS (l : List Nat) (L : List Nat) : Nat := L.foldl (fun a n => a ||| rowAt l n) 0
theorem foldl_rows (l : List Nat) : ∀ (L : List Nat) (a j : Nat), (L.foldl (fun a n => a ||| rowAt l n) a).testBit j = true ↔ a.testBit j = true ∨ ∃ n ∈ L, (rowAt l n).testBit j = true
  | [], a, j => by simp
  | n :: L, a, j => by
    rw [List.foldl_cons, foldl_rows l L, Nat.testBit_or, Bool.or_eq_true, or_assoc]
    simp
theorem needS_snoc (l L : List Nat) (n : Nat) : needS l (L ++ [n]) = needS l L ||| rowAt l n := by unfold needS; rw [List.foldl_append]; rfl
theorem needS_bit (l L : List Nat) (j : Nat) : (needS l L).testBit j = true ↔ ∃ n ∈ L, (rowAt l n).testBit j = true := by
  unfold needS
  rw [foldl_rows]
  simp
theorem needS_b64 {l : List Nat} (hl : Rows64 l) (L : List Nat) : B64 (needS l L) := B64.of_bits fun j hj => by
  obtain ⟨n, _, h⟩ := (needS_bit l L j).1 hj
  exact (hl n).bit h
/-- Needs one of these numbers a number of the set? -/
def meets (l L : List Nat) (t : Nat) : Bool := L.any fun n => decide (rowAt l n &&& t ≠ 0)
theorem meets_snoc (l L : List Nat) (n t : Nat) : meets l (L ++ [n]) t = (meets l L t || decide (rowAt l n &&& t ≠ 0)) := by unfold meets; rw [List.any_append]; simp
theorem meets_need (l L : List Nat) (t : Nat) : needS l L &&& t ≠ 0 ↔ meets l L t = true := by
  unfold meets
  rw [List.any_eq_true]
  constructor
  · intro h
    obtain ⟨j, h1, h2⟩ := and_some h
    obtain ⟨n, h3, h4⟩ := (needS_bit l L j).1 h1
    refine ⟨n, h3, decide_eq_true fun e => ?_⟩
    have := and_zero.1 e j h4
    rw [h2] at this; cases this
  · rintro ⟨n, h3, h4⟩ e
    obtain ⟨j, h1, h2⟩ := and_some (of_decide_eq_true h4)
    have := and_zero.1 e j ((needS_bit l L j).2 ⟨n, h3, h1⟩)
    rw [h2] at this; cases this
def rowB (l p : List Nat) (i k : Nat) : Prop := k ≠ i ∧ meets l (nums (rowAt p i)) (rowAt p k) = true
instance (l p : List Nat) (i k : Nat) : Decidable (rowB l p i k) := inferInstanceAs (Decidable (_ ∧ _))
def rowF (l p : List Nat) (i : Nat) : Nat → Nat
  | 0 => 0
  | k + 1 => if rowB l p i k then addN (rowF l p i k) k else rowF l p i k
theorem rowF_b64 (l p : List Nat) (i : Nat) {k : Nat} (hk : k ≤ 64) : B64 (rowF l p i k) := by
  induction k with
  | zero => exact B64.zero
  | succ k ih =>
    unfold rowF
    split
    · exact addN_b64 (ih (by omega)) (by omega)
    · exact ih (by omega)
def foldedL (l p : List Nat) : List Nat := (List.range p.length).map fun i => rowF l p i p.length
theorem foldedL_len (l p : List Nat) : (foldedL l p).length = p.length := by unfold foldedL; simp
theorem foldedL_take (l p : List Nat) {k : Nat} (hk : k < p.length) : (foldedL l p).take (k + 1) = (foldedL l p).take k ++ [rowF l p k p.length] := by
  unfold foldedL
  rw [← List.map_take, ← List.map_take, List.take_range, List.take_range, show min (k + 1) p.length = k + 1 by omega, show min k p.length = k by omega, List.range_succ, List.map_append]
  rfl
theorem foldedL_b64 {l p : List Nat} (hp : p.length ≤ 64) : ∀ s ∈ foldedL l p, B64 s := fun s hs => by
  unfold foldedL at hs
  obtain ⟨i, _, rfl⟩ := List.mem_map.1 hs
  exact rowF_b64 l p i hp
/-- The reference's row while it is being made: parts before k, and of part k the first numbers. -/
def rowG (l p : List Nat) (i k : Nat) (done : List Nat) : Nat := if k ≠ i ∧ meets l done (rowAt p k) = true then addN (rowF l p i k) k else rowF l p i k
theorem rowG_nil (l p : List Nat) (i k : Nat) : rowG l p i k [] = rowF l p i k := by
  unfold rowG
  rw [if_neg]
  rintro ⟨_, h⟩
  cases h
theorem rowG_end (l p : List Nat) (i k : Nat) : rowG l p i k (nums (rowAt p i)) = rowF l p i (k + 1) := rfl
theorem addN_again (s k : Nat) : addN (addN s k) k = addN s k := by
  unfold addN
  rw [Nat.or_assoc, Nat.or_self]
theorem rowG_yes (l p : List Nat) {i k : Nat} (done : List Nat) {n : Nat} (hk : i ≠ k) (hn : rowAt l n &&& rowAt p k ≠ 0) : addN (rowG l p i k done) k = rowG l p i k (done ++ [n]) := by
  unfold rowG
  rw [if_pos (c := k ≠ i ∧ meets l (done ++ [n]) (rowAt p k) = true) ⟨fun e => hk e.symm, by rw [meets_snoc, decide_eq_true hn, Bool.or_true]⟩]
  split
  · exact addN_again _ _
  · rfl
theorem rowG_no (l p : List Nat) {i k : Nat} (done : List Nat) {n : Nat} (h : i = k ∨ rowAt l n &&& rowAt p k = 0) : rowG l p i k done = rowG l p i k (done ++ [n]) := by
  unfold rowG
  rcases h with h | h
  · rw [if_neg (fun hc => hc.1 h.symm), if_neg (fun hc => hc.1 h.symm)]
  · rw [meets_snoc, show decide (rowAt l n &&& rowAt p k ≠ 0) = false from decide_eq_false (fun hc => hc h), Bool.or_false]

/-- The next one of those that are left. -/
def nxt (l : List Nat) (i : Nat) : Nat := low (rowAt l i &&& ordR l)
theorem left_b64 {l : List Nat} (hg : Good l) : B64 (ordR l) := (ordL_inv hg).b64 hg.1
theorem nxt_ok {l : List Nat} (hg : Good l) {i : Nat} (hi : (ordR l).testBit i = true) : (rowAt l i &&& ordR l ≠ 0) ∧ (ordR l).testBit (nxt l i) = true ∧ Ed l i (nxt l i) := by
  have h0 := (pickO_none (left_b64 hg)).1 (ord_end hg) i hi
  have h1 := low_bit (B64.and' (left_b64 hg)) h0
  rw [Nat.testBit_and, Bool.and_eq_true] at h1
  exact ⟨h0, h1.2, h1.1⟩
structure RgInv (l row : List Nat) (i : Nat) : Prop where
  nd : row.Nodup
  mem : ∀ x ∈ row, (ordR l).testBit x = true
  me : (ordR l).testBit i = true
  ed : ∀ j x y, (row ++ [i])[j]? = some x → (row ++ [i])[j + 1]? = some y → Ed l x y
theorem rg_start {l : List Nat} {i : Nat} (hi : (ordR l).testBit i = true) : RgInv l [] i :=
  ⟨List.nodup_nil, (fun x hx => by cases hx), hi, (fun j x y _ h => by simp at h)⟩
theorem rg_step {l row : List Nat} {i : Nat} (hg : Good l) (h : RgInv l row i) (hn : i ∉ row) : RgInv l (row ++ [i]) (nxt l i) := by
  obtain ⟨_, h2, h3⟩ := nxt_ok hg h.me
  refine ⟨?_, fun x hx => ?_, h2, fun j x y hx hy => ?_⟩
  · rw [List.nodup_append]
    exact ⟨h.nd, by simp, fun a ha b hb e => by rw [List.mem_singleton] at hb; exact hn (by rw [← hb, ← e]; exact ha)⟩
  · rcases List.mem_append.1 hx with hx | hx
    · exact h.mem x hx
    · rw [List.mem_singleton] at hx; rw [hx]; exact h.me
  · have hl : (row ++ [i]).length = row.length + 1 := by simp
    rcases Nat.lt_trichotomy (j + 1) (row ++ [i]).length with hj | hj | hj
    · rw [List.getElem?_append_left hj] at hy
      rw [List.getElem?_append_left (by omega)] at hx
      exact h.ed j x y hx hy
    · rw [List.getElem?_append_right (by omega), hj, Nat.sub_self] at hy
      rw [List.getElem?_append_left (by omega), List.getElem?_append_right (by omega), show j - row.length = 0 by omega] at hx
      simp at hx hy
      rw [← hx, ← hy]
      exact h3
    · rw [List.getElem?_eq_none (by simp; omega)] at hy
      cases hy
theorem rg_len {l row : List Nat} {i : Nat} (hg : Good l) (h : RgInv l row i) : row.length ≤ 64 :=
  Nat.le_trans (pig2 row (nums (ordR l)) h.nd fun x hx => (mem_nums (left_b64 hg)).2 (h.mem x hx)) (nums_len _)
structure IsRg (l d : List Nat) : Prop where
  pos : 0 < d.length
  lt : ∀ x ∈ d, x < l.length
  nd : d.Nodup
  ed : ∀ j x y, d[j]? = some x → d[j + 1]? = some y → Ed l x y
  cl : ∀ x y, d[d.length - 1]? = some x → d[0]? = some y → Ed l x y
theorem rg_end {l row : List Nat} {i p : Nat} (hg : Good l) (h : RgInv l row i) (hp : row[p]? = some i) : IsRg l (row.drop p) := by
  have hlt : p < row.length := by
    rcases Nat.lt_or_ge p row.length with h1 | h1
    · exact h1
    · rw [List.getElem?_eq_none h1] at hp; cases hp
  refine ⟨by rw [List.length_drop]; omega, fun x hx => ?_, h.nd.sublist (List.drop_sublist _ _), fun j x y hx hy => ?_, fun x y hx hy => ?_⟩
  · exact (ordL_inv hg).sub x (h.mem x (List.mem_of_mem_drop hx))
  · rw [List.getElem?_drop] at hx hy
    have h2 : p + (j + 1) < row.length := by
      rcases Nat.lt_or_ge (p + (j + 1)) row.length with h1 | h1
      · exact h1
      · rw [List.getElem?_eq_none h1] at hy; cases hy
    refine h.ed (p + j) x y ?_ ?_
    · rw [List.getElem?_append_left (by omega)]; exact hx
    · rw [List.getElem?_append_left (by omega)]; exact hy
  · rw [List.getElem?_drop] at hx hy
    rw [List.length_drop] at hx
    rw [Nat.add_zero, hp] at hy
    refine h.ed (row.length - 1) x y ?_ ?_
    · rw [List.getElem?_append_left (by omega), ← hx]
      congr 1
      omega
    · rw [List.getElem?_append_right (by omega), show row.length - 1 + 1 - row.length = 0 by omega]
      exact hy
end Go.Proofs.YtonmkmghpiagjaaDoor
